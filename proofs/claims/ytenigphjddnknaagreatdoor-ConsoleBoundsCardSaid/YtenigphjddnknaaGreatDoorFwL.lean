/-
  A call, and then others on what it made, one behind the other, in one run. No program in sight.
-/
import Derived.Test.YtenigphjddnknaaGreatDoorFwD
import Derived.RangeFuncOwn
set_option linter.unusedVariables false
namespace Go.Fw
open Go Go.Eva Go.Fv Go.RowKit Go.Mix Go.Viv
def Beg (w : World) (S : Nat → Prop) : Begin := ⟨w, S, fun _ _ _ _ _ => False, fun h _ _ => h, fun _ h => h, fun h => h.elim⟩
def rwB : AObj → Bool
  | .cells _ _ rw => rw
  | .map _ _ => true
  | .res _ => false
/-- The blocks of memory that the tree may write, made since w. -/
def Owns (w : World) (φ : Phi) (s : Hp) (i : Nat) : Prop := w.heap.size ≤ i ∧ ∃ B r, φ B = some r ∧ (∃ o, s.t.at_ B = some o ∧ rwB o = true) ∧ r.b = i
section
variable {P : Program} {G : Nat} {ν : Toks} {φ : Phi} {s : Hp} {w W W' : World} {S T : Nat → Prop}
theorem no_res (hR : Rw P G (Beg w S) ν φ s W) {B : Nat} {r : Ref} {x : Rs} (h : φ B = some r) (ht : s.t.at_ B = some (.res x)) : False := by
  obtain ⟨fp, hr⟩ := hR.res
  exact hr.ri B r x h ht
theorem res_none {W0 : Begin} (h : ∀ B r x, φ B = some r → s.t.at_ B = some (.res x) → False) : ∃ fp, ResR W0 φ s.t W fp :=
  have nr : ∀ B r, φ B = some r → isRes (s.t.at_ B) = true → False := fun B r h1 h2 => by
    cases e : s.t.at_ B with
    | none => rw [e] at h2; cases h2
    | some o =>
      cases o with
      | res x => exact h B r x h1 e
      | cells _ _ _ => rw [e] at h2; cases h2
      | map _ _ => rw [e] at h2; cases h2
  ⟨fun _ _ => False, fun B r x h1 h2 => (h B r x h1 h2).elim, fun B r k h1 h2 h3 => h3.elim, fun B B' r r' k h1 h2 h3 h4 h5 => h5.elim, fun B B' r r' h1 h2 h3 h4 h5 h6 => h6⟩
/-- Begun anew at W. -/
theorem rebase (hR : Rw P G (Beg w (fun _ => False)) ν φ s W) : Rw P G (Beg W (Owns w φ s)) ν φ s W :=
  ⟨Fr.refl _ _, hR.glob, hR.fresh, hR.bound, fun B r o hφ ht => by
    have hrw : ∀ {rw : Bool}, (rw = true → (Beg w fun _ => False).own r.b) → rwB o = rw → rw = true → (Beg W (Owns w φ s)).own r.b := fun {rw} h1 h2 h3 => by
      rcases h1 h3 with h | h
      · exact h.elim
      · exact .inl ⟨h, B, r, hφ, ⟨o, ht, h2.trans h3⟩, rfl⟩
    cases hR.obj B r o hφ ht with
    | cells h hs h2 hc => exact .cells h hs (fun e => ⟨(h2 e).1, (h2 e).2.1, hrw (fun e => (h2 e).2.2.1) rfl e, (h2 e).2.2.2⟩) hc
    | map h hb he => exact .map h (hrw (rw := true) (fun _ => hb) rfl rfl) he
    | res x => exact .res x, hR.inj, res_none fun B r x => no_res hR⟩
/-- .. and back. -/
theorem back (hR : Rw P G (Beg W S) ν φ s W') (hf : Fr (fun _ => False) w W) (hS : ∀ i, S i → w.heap.size ≤ i) : Rw P G (Beg w (fun _ => False)) ν φ s W' :=
  ⟨hf.trans hR.frame (fun i h => .inr (hS i h)), hR.glob, hR.fresh, hR.bound, fun B r o hφ ht => by
    have hrw : (Beg W S).own r.b → (Beg w fun _ => False).own r.b := fun h => by
      rcases h with h | h
      · exact .inr (hS _ h)
      · exact .inr (Nat.le_trans hf.size h)
    cases hR.obj B r o hφ ht with
    | cells h hs h2 hc => exact .cells h hs (fun e => ⟨(h2 e).1, (h2 e).2.1, hrw (h2 e).2.2.1, (h2 e).2.2.2⟩) hc
    | map h hb he => exact .map h (hrw hb) he
    | res x => exact .res x, hR.inj, res_none fun B r x => no_res hR⟩
/-- What other blocks' change leaves. -/
theorem far (hR : Rw P G (Beg w (fun _ => False)) ν φ s W) (hf : Fr T W W') (h1 : ∀ i, Owns w φ s i → ¬ T i) (h2 : ∀ i, T i → w.heap.size ≤ i) (hG : G ≤ w.heap.size)
    (hrw : ∀ B r o, φ B = some r → s.t.at_ B = some o → G ≤ B → rwB o = true) : Rw P G (Beg w (fun _ => False)) ν φ s W' :=
  ⟨hR.frame.trans hf (fun i h => .inr (h2 i h)), hR.glob, hR.fresh, fun B r h => Nat.lt_of_lt_of_le (hR.bound B r h) hf.size, fun B r o hφ ht => by
    refine (hR.obj B r o hφ ht).far fun _ => hf.block r.b (hR.bound B r hφ) fun hT => ?_
    rcases Nat.lt_or_ge B G with h | h
    · obtain ⟨r', h3, h4⟩ := hR.glob B h
      rw [hφ] at h3
      cases h3
      have := h2 _ hT
      omega
    · exact h1 r.b ⟨h2 _ hT, B, r, hφ, ⟨o, ht, hrw B r o hφ ht h⟩, rfl⟩ hT, hR.inj, res_none fun B r x => no_res hR⟩
/-- What the tree may write are cells of no type u, or maps that were there before N. -/
theorem owns_obj (hR : Rw P G (Beg w (fun _ => False)) ν φ s W) {u : TypeId} {N : Nat} (hu : ∀ B r o, φ B = some r → s.t.at_ B = some o → rwB o = true → w.heap.size ≤ r.b → match o with | .cells _ e _ => e ≠ u | _ => r.b < N) {i : Nat} (hi : Owns w φ s i) :
    ∃ o, W.heap[i]? = some o ∧ (∀ c fz, o ≠ .cells c u fz) ∧ (o.isCells = true ∨ i < N) := by
  obtain ⟨hw, B, r, hφ, ⟨o, ht, ho⟩, rfl⟩ := hi
  have hx := hu B r o hφ ht ho hw
  cases hR.obj B r o hφ ht with
  | cells h hs h2 hc =>
    obtain ⟨h3, _⟩ := h2 ho
    exact ⟨Obj.cells _ _ _, h, (fun c fz e => by cases e; exact hx h3.symm), Or.inl rfl⟩
  | map h hb he => exact ⟨Obj.map _ _, h, (fun c fz e => by cases e), Or.inr hx⟩
  | res x => cases ho
end
end Go.Fw
set_option linter.unusedVariables false
namespace Go.Fw
open Go Go.Eva Go.Fv Go.RowKit Go.Mix Go.Viv
/-- Every block from G to n may be written; none is a row of u; maps are older than n0. -/
noncomputable def chkB (u n0 : Nat) (H : FH) (B : Nat) : Bool := match hget B H with
  | some (.cells _ e rw) => rw && !Nat.beq e u
  | some (.map _ _) => Nat.blt B n0
  | some (.res _) => false
  | none => true
noncomputable def chkN (u n0 G : Nat) (H : FH) (m : Nat) : Bool := Nat.rec (motive := fun _ => Bool) true (fun k ih => yes (chkB u n0 H (Nat.add G k)) ih) m
noncomputable def chkH (u n0 G : Nat) (H : FH) (n : Nat) : Bool := yes (Nat.ble n0 n) (yes (Nat.ble G n) (chkN u n0 G H (Nat.sub n G)))
theorem chkN_of {u n0 G : Nat} {H : FH} : ∀ {m : Nat}, chkN u n0 G H m = true → ∀ k, k < m → chkB u n0 H (G + k) = true
  | 0, _, k, hk => absurd hk (Nat.not_lt_zero k)
  | m + 1, h, k, hk => by
    obtain ⟨h1, h2⟩ := yes_of (x := chkN u n0 G H m) h
    rcases Nat.lt_or_eq_of_le (Nat.lt_succ_iff.1 hk) with h3 | h3
    · exact chkN_of h2 k h3
    · rw [h3]; exact h1
/-- The same of a tree. -/
def GoodTr (u n0 G : Nat) (h : Hp) : Prop := n0 ≤ h.next ∧ G ≤ h.next ∧ ∀ B o, h.t.at_ B = some o → G ≤ B → B < h.next → rwB o = true ∧ match o with | .cells _ e _ => e ≠ u | _ => B < n0
theorem chkH_of {u n0 G : Nat} {H : FH} {t : Tr AObj} {n : Nat} (hH : HR H t) (h : chkH u n0 G H n = true) : GoodTr u n0 G ⟨t, n⟩ := by
  obtain ⟨h1, h⟩ := yes_of h
  obtain ⟨h2, h⟩ := yes_of h
  have h1 := Nat.le_of_ble_eq_true h1
  have h2 := Nat.le_of_ble_eq_true h2
  refine ⟨h1, h2, fun B o ho hB hn => ?_⟩
  have h3 := chkN_of h (B - G) (by show B - G < n - G; have : B < n := hn; omega)
  rw [show G + (B - G) = B by omega] at h3
  have ho : t.at_ B = some o := ho
  rw [hH B] at ho
  unfold chkB at h3
  rw [ho] at h3
  cases o with
  | cells c e rw_ =>
    simp only [Bool.and_eq_true, Bool.not_eq_true'] at h3
    refine ⟨h3.1, fun e1 => ?_⟩
    rw [e1, Nat.beq_refl] at h3
    cases h3.2
  | map es clk => exact ⟨rfl, nblt_iff.1 h3⟩
  | res x => cases h3
/-- The lines: what is asked, and what is answered; an empty one is passed over. -/
abbrev LinesL := List (List UInt8 × List UInt8)
noncomputable def linesX (call : CallX) (chk : FH → Nat → Bool) (g : Nat) (p : Value) (ls : LinesL) : FH → Nat → Bool := List.rec (motive := fun _ => FH → Nat → Bool) chk
  (fun l _ ih H n => match l with
    | ([], _) => yes (chk H n) (ih H n)
    | (x, t) => yes (chk H n) (call g [p, .string ⟨x.toArray⟩] H n fun v H n => yes (veq v (.string ⟨t.toArray⟩)) (ih H n))) ls
theorem lines_of {cx : CallX} {call : CallB} (hc : CallEq cx call) {chk : FH → Nat → Bool} {g : Nat} {p : Value} : ∀ (ls : LinesL) {H : FH} {t : Tr AObj} {n : Nat}, HR H t → linesX cx chk g p ls H n = true →
    ∃ hs : Nat → Hp, hs 0 = ⟨t, n⟩ ∧ (∀ k, k ≤ ls.length → ∃ H, HR H (hs k).t ∧ chk H (hs k).next = true) ∧
      ∀ k x s, ls[k]? = some (x, s) → (x = [] → hs (k + 1) = hs k) ∧ (x ≠ [] → call g [p, .string ⟨x.toArray⟩] (hs k) = some (.string ⟨s.toArray⟩, hs (k + 1)))
  | [], H, t, n, hH, h => ⟨fun _ => ⟨t, n⟩, rfl, fun k hk => ⟨H, hH, h⟩, fun k x s hk => by cases hk⟩
  | ([], s0) :: r, H, t, n, hH, h => by
    obtain ⟨h1, h2⟩ := yes_of (x := linesX cx chk g p r H n) h
    obtain ⟨hs, p1, p2, p3⟩ := lines_of hc r hH h2
    refine ⟨fun k => match k with | 0 => ⟨t, n⟩ | k + 1 => hs k, rfl, fun k hk => ?_, fun k x s hk => ?_⟩
    · cases k with
      | zero => exact ⟨H, hH, h1⟩
      | succ k => exact p2 k (by simpa using hk)
    · cases k with
      | zero =>
        simp at hk
        obtain ⟨rfl, rfl⟩ := hk
        exact ⟨fun _ => p1, fun h => absurd rfl h⟩
      | succ k => exact p3 k x s (by simpa using hk)
  | (c :: x0, s0) :: r, H, t, n, hH, h => by
    obtain ⟨h1, h2⟩ := yes_of (x := cx g [p, .string ⟨(c :: x0).toArray⟩] H n fun v H n => yes (veq v (.string ⟨s0.toArray⟩)) (linesX cx chk g p r H n)) h
    obtain ⟨v, h', H', q1, q2, q3⟩ := hc _ _ _ _ _ _ hH h2
    obtain ⟨q4, q5⟩ := yes_of q3
    have q4 := veq_spec q4
    subst q4
    obtain ⟨hs, p1, p2, p3⟩ := lines_of hc r q2 q5
    refine ⟨fun k => match k with | 0 => ⟨t, n⟩ | k + 1 => hs k, rfl, fun k hk => ?_, fun k x s hk => ?_⟩
    · cases k with
      | zero => exact ⟨H, hH, h1⟩
      | succ k => exact p2 k (by simpa using hk)
    · cases k with
      | zero =>
        simp at hk
        obtain ⟨rfl, rfl⟩ := hk
        exact ⟨(fun h => by cases h), (fun _ => by show _ = some (_, hs 0); rw [p1]; exact q1)⟩
      | succ k => exact p3 k x s (by simpa using hk)
end Go.Fw
