/-
  A run over whole structures: one turned, one made, all of them later. No program in sight.
-/
import Derived.Test.YtenigphjddnknaaGreatDoorEvaM
namespace Go.Eva
open Go Go.RowKit Go.Viv
section
variable {P : Program} {G : Nat} {W0 : Begin} {ν : Toks} {φ : Phi} {s : Hp} {w w' : World}
/-- Nothing old has turned. -/
theorem Rw.later (hR : Rw P G W0 ν φ s w) (hf : Fr (fun _ => False) w w') : Rw P G W0 ν φ s w' := by
  refine ⟨hR.frame.trans hf (fun _ h => h.elim), hR.glob, hR.fresh, fun B r h => Nat.lt_of_lt_of_le (hR.bound B r h) hf.size, fun B r o h h' => (hR.obj B r o h h').far (fun _ => hf.block r.b (hR.bound B r h) (fun h => h)), hR.inj, ?_⟩
  obtain ⟨fp, q1, q2, q3, q4⟩ := hR.res
  refine ⟨fp, fun B r x h h' => W0.riF (q1 B r x h h') (fun k hk => hf.block k (q2 B r k h (by rw [h']; rfl) hk).2 (fun h => h)) hf.size, fun B r k h h' hk => ?_, q3, q4⟩
  have := q2 B r k h h' hk
  exact ⟨this.1, Nat.lt_of_lt_of_le this.2 hf.size⟩
/-- A structure among the tree's blocks; what turns it turns the tree. -/
theorem Rw.turn (hR : Rw P G W0 ν φ s w) {B : Nat} {r : Ref} {x : Rs} (hφ : φ B = some r) (hat : s.t.at_ B = some (.res x)) :
    ∃ F, W0.ri x φ w r F ∧ (∀ k, F k → k < w.heap.size) ∧ ∀ (x' : Rs) (w' : World) (F' : Nat → Prop), W0.ri x' φ w' r F' → (∀ k, F' k → F k ∨ (w.heap.size ≤ k ∧ k < w'.heap.size)) → Fr F w w' → Rw P G W0 ν φ ⟨s.t.set B (some (.res x')), s.next⟩ w' := by
  obtain ⟨fp, q1, q2, q3, q4⟩ := hR.res
  have hrB : isRes (s.t.at_ B) = true := by rw [hat]; rfl
  refine ⟨fp B, q1 B r x hφ hat, fun k hk => (q2 B r k hφ hrB hk).2, fun x' w' F' h1 h2 hf => ?_⟩
  have hsz := hR.frame.size
  have hrs : ∀ X, isRes ((s.t.set B (some (.res x'))).at_ X) = isRes (s.t.at_ X) := fun X => by
    by_cases h : B = X
    · subst h; rw [Tr.at_set_same, hrB]; rfl
    · rw [Tr.at_set_ne _ _ h]
  have hal : ∀ X, ((s.t.set B (some (.res x'))).at_ X).isSome = (s.t.at_ X).isSome := fun X => by
    by_cases h : B = X
    · subst h; rw [Tr.at_set_same, hat]; rfl
    · rw [Tr.at_set_ne _ _ h]
  refine ⟨hR.frame.trans hf (fun i hi => (q2 B r i hφ hrB hi).1), hR.glob, hR.fresh, fun X r' h => Nat.lt_of_lt_of_le (hR.bound X r' h) hf.size, fun X r' o h h' => ?_, fun X X' r1 r2 g1 g2 g3 g4 => ?_, fun X => if X = B then F' else fp X, fun X r' y h h' => ?_, fun X r' k h h' hk => ?_, fun X X' r1 r2 k g1 g2 g3 g4 g5 g6 => ?_, fun X X' r1 r2 g1 g2 g3 g4 g5 g6 => ?_⟩
  · by_cases e : B = X
    · subst e; rw [Tr.at_set_same] at h'; cases h'; exact .res _
    · rw [Tr.at_set_ne _ _ e] at h'
      exact (hR.obj X r' o h h').far (fun hno => hf.block r'.b (hR.bound X r' h) (q4 B X r r' hφ h hrB (by rw [h']; rfl) (by rw [h']; exact hno)))
  · simp only [hal] at g1 g2
    simp only [hrs] at g3 g4
    exact hR.inj X X' r1 r2 g1 g2 g3 g4
  · by_cases e : X = B
    · subst e
      rw [hφ] at h; cases h
      simp only [Tr.at_set_same] at h'
      cases h'
      simp only [if_true]
      exact h1
    · simp only [if_neg e]
      simp only [Tr.at_set_ne _ _ (Ne.symm e)] at h'
      exact W0.riF (q1 X r' y h h') (fun k hk => hf.block k (q2 X r' k h (by rw [h']; rfl) hk).2 (fun hk2 => e (q3 X B r' r k h hφ (by rw [h']; rfl) hrB hk hk2))) hf.size
  · simp only [hrs] at h'
    by_cases e : X = B
    · subst e
      simp only [if_true] at hk
      rcases h2 k hk with h3 | ⟨h3, h4⟩
      · have := q2 X r k hφ hrB h3
        exact ⟨this.1, Nat.lt_of_lt_of_le this.2 hf.size⟩
      · exact ⟨.inr (by omega), h4⟩
    · simp only [if_neg e] at hk
      have := q2 X r' k h h' hk
      exact ⟨this.1, Nat.lt_of_lt_of_le this.2 hf.size⟩
  · simp only [hrs] at g3 g4
    by_cases e : X = B <;> by_cases e' : X' = B
    · rw [e, e']
    · subst e
      simp only [if_true] at g5
      simp only [if_neg e'] at g6
      rcases h2 k g5 with h3 | ⟨h3, _⟩
      · exact q3 X X' r r2 k hφ g2 hrB g4 h3 g6
      · have := (q2 X' r2 k g2 g4 g6).2; omega
    · subst e'
      simp only [if_true] at g6
      simp only [if_neg e] at g5
      rcases h2 k g6 with h3 | ⟨h3, _⟩
      · exact q3 X X' r1 r k g1 hφ g3 hrB g5 h3
      · have := (q2 X r1 k g1 g3 g5).2; omega
    · simp only [if_neg e] at g5
      simp only [if_neg e'] at g6
      exact q3 X X' r1 r2 k g1 g2 g3 g4 g5 g6
  · simp only [hrs] at g3 g5
    simp only [hal] at g4
    by_cases e : X = B
    · subst e
      simp only [if_true] at g6
      rcases h2 _ g6 with h3 | ⟨h3, _⟩
      · exact q4 X X' r r2 hφ g2 hrB g4 g5 h3
      · have := hR.bound X' r2 g2; omega
    · simp only [if_neg e] at g6
      exact q4 X X' r1 r2 g1 g2 g3 g4 g5 g6
/-- A structure made. -/
theorem Rw.made (hR : Rw P G W0 ν φ s w) (hf : Fr (fun _ => False) w w') {x : Rs} {p : Ref} {F : Nat → Prop} (hp : p.b < w'.heap.size) (hF : ∀ k, F k → w.heap.size ≤ k ∧ k < w'.heap.size)
    (hx : ∀ φ', (∀ B r, φ B = some r → φ' B = some r) → W0.ri x φ' w' p F) : Rw P G W0 ν (φ.add s.next p) ⟨s.t.set s.next (some (.res x)), s.next + 1⟩ w' := by
  have hN : φ s.next = none := hR.fresh _ (Nat.le_refl _)
  have hup := φ.add_up p hN
  have hsz := hR.frame.size
  have hL := hR.later hf
  obtain ⟨fp, q1, q2, q3, q4⟩ := hL.res
  obtain ⟨fp0, p1, p2, p3, p4⟩ := hR.res
  have hat : ∀ X, X ≠ s.next → (s.t.set s.next (some (.res x))).at_ X = s.t.at_ X := fun X h => Tr.at_set_ne _ _ (Ne.symm h)
  have hsame : (s.t.set s.next (some (.res x))).at_ s.next = some (.res x) := Tr.at_set_same _ _ _
  have lo : ∀ X r k, φ X = some r → isRes (s.t.at_ X) = true → fp0 X k → k < w.heap.size := fun X r k h h' hk => (p2 X r k h h' hk).2
  refine ⟨hL.frame, fun g hg => ?_, fun X hX => ?_, fun X r' h => ?_, fun X r' o h h' => ?_, fun X X' r1 r2 g1 g2 g3 g4 g5 g6 => ?_, fun X => if X = s.next then F else fp0 X, fun X r' y h h' => ?_, fun X r' k h h' hk => ?_, fun X X' r1 r2 k g1 g2 g3 g4 g5 g6 => ?_, fun X X' r1 r2 g1 g2 g3 g4 g5 g6 => ?_⟩
  · obtain ⟨r', h1, h2⟩ := hR.glob g hg
    exact ⟨r', hup _ _ h1, h2⟩
  · rw [Phi.add_ne _ _ (by simp only at hX; omega)]; exact hR.fresh X (by simp only at hX; omega)
  · by_cases e : X = s.next
    · subst e; rw [Phi.add_same] at h; cases h; exact hp
    · rw [Phi.add_ne _ _ e] at h; exact hL.bound X r' h
  · by_cases e : X = s.next
    · subst e; simp only [hsame] at h'; cases h'; exact .res _
    · rw [Phi.add_ne _ _ e] at h
      simp only [hat X e] at h'
      exact (hL.obj X r' o h h').ext hup
  · have n1 : X ≠ s.next := fun e => by subst e; simp only [hsame] at g3; cases g3
    have n2 : X' ≠ s.next := fun e => by subst e; simp only [hsame] at g4; cases g4
    simp only [hat X n1] at g1 g3
    simp only [hat X' n2] at g2 g4
    rw [Phi.add_ne _ _ n1] at g5
    rw [Phi.add_ne _ _ n2] at g6
    exact hR.inj X X' r1 r2 g1 g2 g3 g4 g5 g6
  · by_cases e : X = s.next
    · subst e
      rw [Phi.add_same] at h; cases h
      simp only [hsame] at h'; cases h'
      simp only [if_true]
      exact hx _ hup
    · rw [Phi.add_ne _ _ e] at h
      simp only [hat X e] at h'
      simp only [if_neg e]
      exact W0.riX hup (W0.riF (p1 X r' y h h') (fun k hk => hf.block k (lo X r' k h (by rw [h']; rfl) hk) (fun h => h)) hf.size)
  · by_cases e : X = s.next
    · subst e
      simp only [if_true] at hk
      have := hF k hk
      exact ⟨.inr (by omega), this.2⟩
    · rw [Phi.add_ne _ _ e] at h
      simp only [hat X e] at h'
      simp only [if_neg e] at hk
      have := p2 X r' k h h' hk
      exact ⟨this.1, Nat.lt_of_lt_of_le this.2 hf.size⟩
  · by_cases e : X = s.next <;> by_cases e' : X' = s.next
    · rw [e, e']
    · subst e
      rw [Phi.add_ne _ _ e'] at g2
      simp only [hat X' e'] at g4
      simp only [if_true] at g5
      simp only [if_neg e'] at g6
      have := lo X' r2 k g2 g4 g6
      have := (hF k g5).1
      omega
    · subst e'
      rw [Phi.add_ne _ _ e] at g1
      simp only [hat X e] at g3
      simp only [if_true] at g6
      simp only [if_neg e] at g5
      have := lo X r1 k g1 g3 g5
      have := (hF k g6).1
      omega
    · rw [Phi.add_ne _ _ e] at g1
      rw [Phi.add_ne _ _ e'] at g2
      simp only [hat X e] at g3
      simp only [hat X' e'] at g4
      simp only [if_neg e] at g5
      simp only [if_neg e'] at g6
      exact p3 X X' r1 r2 k g1 g2 g3 g4 g5 g6
  · have n2 : X' ≠ s.next := fun e => by subst e; simp only [hsame] at g5; cases g5
    rw [Phi.add_ne _ _ n2] at g2
    simp only [hat X' n2] at g4 g5
    by_cases e : X = s.next
    · subst e
      simp only [if_true] at g6
      have := (hF _ g6).1
      have := hR.bound X' r2 g2
      omega
    · rw [Phi.add_ne _ _ e] at g1
      simp only [hat X e] at g3
      simp only [if_neg e] at g6
      exact p4 X X' r1 r2 g1 g2 g3 g4 g5 g6
end
end Go.Eva
