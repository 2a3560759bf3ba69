/-
  Two runs that part at an open test, joined: what one of them comes to is what is told of both. No program in sight.
-/
import Derived.Test.YtenigphjddnknaaGreatDoorEvaI
namespace Go.Eva
open Go Go.RowKit Go.Mix Go.Viv
section
variable {P : Program} {G : Nat} {W0 : Begin} {ν : Toks} {φ : Phi} {w : World} {sy : Sy} {c : Nat} {bb : Bool}

/-- One of two. -/
def sel {α : Type} (b : Bool) (x y : α) : α := match b with
  | true => x
  | false => y
/-- Less is told of the blocks. -/
theorem Rw.weak {s : Hp} (hR : Rw P G W0 ν φ s w) {t : Tr AObj} {n : Nat} (hn : s.next ≤ n) (h : ∀ B o', t.at_ B = some o' → ∃ o, s.t.at_ B = some o ∧ isRes (some o) = false ∧ isRes (some o') = false ∧ ∀ r, ObjR P W0.own ν φ w r o → ObjR P W0.own ν φ w r o') : Rw P G W0 ν φ ⟨t, n⟩ w := by
  have no : ∀ B, isRes (t.at_ B) = true → False := fun B hB => by
    cases ht : t.at_ B with
    | none => rw [ht] at hB; cases hB
    | some o' =>
      obtain ⟨o, _, _, h3, _⟩ := h B o' ht
      rw [ht, h3] at hB; cases hB
  refine ⟨hR.frame, hR.glob, fun B hB => hR.fresh B (Nat.le_trans hn hB), hR.bound, fun B r o' hB ho => ?_, fun B B' r r' h1 h2 _ _ h5 h6 h7 => ?_, fun _ _ => False, fun B r x hB h' => (no B (by rw [h']; rfl)).elim, fun B r k hB h' _ => (no B h').elim, fun B B' r r' k hB _ h' _ _ _ => (no B h').elim, fun B B' r r' hB _ h' _ _ => (no B h').elim⟩
  · obtain ⟨o, h1, _, _, h4⟩ := h B o' ho
    exact h4 r (hR.obj B r o hB h1)
  · obtain ⟨o1, g1⟩ := Option.isSome_iff_exists.1 h1
    obtain ⟨o2, g2⟩ := Option.isSome_iff_exists.1 h2
    obtain ⟨p1, q1, q2, _, _⟩ := h B o1 g1
    obtain ⟨p2, q3, q4, _, _⟩ := h B' o2 g2
    exact hR.inj B B' r r' (by rw [q1]; rfl) (by rw [q3]; rfl) (by rw [q1]; exact q2) (by rw [q3]; exact q4) h5 h6 h7
theorem leaf_val {a : Value} (h : leafV a = true) : ∃ y, VR ν φ a y := by
  cases a <;> try (cases h; done)
  · exact ⟨_, .bool _⟩
  · exact ⟨_, .int _ _⟩
  · rename_i r
    cases r with
    | none => exact ⟨undef, .bad _⟩
    | some k => exact ⟨_, .sym k⟩
theorem pick_ok (hsy : SyOK P W0 ν sy) (hf : Fr W0.may W0.w w) {a b v x y : Value} (h : sy pickO [.chan (some c), a, b] = some v) (ha : VR ν φ a x) (hb : VR ν φ b y) : ∃ bb, ν.v c = .bool bb ∧ VR ν φ v (sel bb x y) := by
  let o : Oper := { dst := none, op := pickO, type := 0, pos := "", after := #[], guard := none }
  let ρ : Operand → Value := fun z => match z with | .tmp 0 => .chan (some c) | .tmp 1 => a | .tmp 2 => b | _ => .chan none
  let ρ' : Operand → Value := fun z => match z with | .tmp 0 => ν.v c | .tmp 1 => x | .tmp 2 => y | _ => undef
  have hρ : ∀ z, VR ν φ (ρ z) (ρ' z) := fun z => by
    show VR ν φ (match z with | .tmp 0 => .chan (some c) | .tmp 1 => a | .tmp 2 => b | _ => .chan none) (match z with | .tmp 0 => ν.v c | .tmp 1 => x | .tmp 2 => y | _ => undef)
    split
    · exact .sym c
    · exact ha
    · exact hb
    · exact .bad _
  obtain ⟨v', h1, h2⟩ := hsy φ o ρ ρ' v hρ h w hf
  have e : (execOp ρ' o).run P w = (do pure (.value (if ← asBool (ν.v c) then x else y)) : Sem Next).run P w := rfl
  rw [e] at h1
  cases hc : ν.v c with
  | bool bb =>
    rw [hc] at h1
    refine ⟨bb, rfl, ?_⟩
    cases bb
    · simp [asBool] at h1
      rw [← h1] at h2
      exact h2
    · simp [asBool] at h1
      rw [← h1] at h2
      exact h2
  | _ => rw [hc] at h1; simp [asBool] at h1
theorem jl_ok (hsy : SyOK P W0 ν sy) (hf : Fr W0.may W0.w w) (hc : ν.v c = .bool bb) {a b x : Value} (h : VR ν φ (sel bb a b) x) : VR ν φ (jl sy c a b) x := by
  unfold jl
  split
  · rename_i he
    have e := veq_spec he
    subst e
    cases bb <;> exact h
  · split
    · rename_i hl
      simp only [Bool.and_eq_true] at hl
      split
      · rename_i v hv
        obtain ⟨x1, h1⟩ := leaf_val (ν := ν) (φ := φ) hl.1
        obtain ⟨x2, h2⟩ := leaf_val (ν := ν) (φ := φ) hl.2
        cases bb with
        | true =>
          obtain ⟨b', e, h3⟩ := pick_ok hsy hf hv h h2
          rw [hc] at e
          cases e
          exact h3
        | false =>
          obtain ⟨b', e, h3⟩ := pick_ok hsy hf hv h1 h
          rw [hc] at e
          cases e
          exact h3
      · exact .bad _
    · exact .bad _
theorem zip_l {f : Value → Value → Value} (hf : ∀ a b x, VR ν φ a x → VR ν φ (f a b) x) : ∀ {l k l' : List Value}, VRs ν φ l l' → VRs ν φ (List.zipWith f l k) (l'.take (List.zipWith f l k).length)
  | [], _, _, h => by simpa using VRs.nil
  | _ :: _, [], _, _ => by simpa using VRs.nil
  | a :: l, b :: k, _, .cons h t => by
    simp only [List.zipWith_cons_cons, List.length_cons, List.take_succ_cons]
    exact .cons (hf a b _ h) (zip_l hf t)
theorem zip_r {f : Value → Value → Value} (hf : ∀ a b x, VR ν φ b x → VR ν φ (f a b) x) : ∀ {l k l' : List Value}, VRs ν φ k l' → VRs ν φ (List.zipWith f l k) (l'.take (List.zipWith f l k).length)
  | [], _, _, _ => by simpa using VRs.nil
  | _ :: _, [], _, _ => by simpa using VRs.nil
  | a :: l, b :: k, _, .cons h t => by
    simp only [List.zipWith_cons_cons, List.length_cons, List.take_succ_cons]
    exact .cons (hf a b _ h) (zip_r hf t)
theorem zip_bb {f : Value → Value → Value} (hf : ∀ a b x, VR ν φ (sel bb a b) x → VR ν φ (f a b) x) {l k l' : List Value} (h : VRs ν φ (sel bb l k) l') : VRs ν φ (List.zipWith f l k) (l'.take (List.zipWith f l k).length) := by
  cases bb
  · exact zip_r hf h
  · exact zip_l hf h
theorem zip_all {f : Value → Value → Value} (hf : ∀ a b x, VR ν φ (sel bb a b) x → VR ν φ (f a b) x) {l k l' : List Value} (hl : l.length = k.length) (h : VRs ν φ (sel bb l k) l') : VRs ν φ (List.zipWith f l k) l' := by
  have h1 := zip_bb hf h
  have h2 : l'.length = (List.zipWith f l k).length := by
    have : (sel bb l k).length = l.length := by
      cases bb
      · exact hl.symm
      · rfl
    rw [List.length_zipWith, h.length]
    omega
  rw [List.take_of_length_le (by omega)] at h1
  exact h1
theorem jv_ok (hsy : SyOK P W0 ν sy) (hf : Fr W0.may W0.w w) (hc : ν.v c = .bool bb) (d : Nat) : ∀ (a b x : Value), VR ν φ (sel bb a b) x → VR ν φ (jv sy c d a b) x := by
  induction d with
  | zero => exact fun a b x h => jl_ok hsy hf hc h
  | succ d ih =>
    intro a b x h
    unfold jv
    split
    · rename_i l k
      split
      · rename_i hl
        have hl := Nat.eq_of_beq_eq_true hl
        cases bb with
        | true => cases h with | agg h => exact .agg (zip_all (bb := true) ih hl h)
        | false => cases h with | agg h => exact .agg (zip_all (bb := false) ih hl h)
      · exact .bad _
    · rename_i l k
      split
      · rename_i hl
        have hl := Nat.eq_of_beq_eq_true hl
        cases bb with
        | true => cases h with | tuple h => exact .tuple (zip_all (bb := true) ih hl h)
        | false => cases h with | tuple h => exact .tuple (zip_all (bb := false) ih hl h)
      · exact .bad _
    · exact jl_ok hsy hf hc h
theorem jo_ok (hsy : SyOK P W0 ν sy) (hf : Fr W0.may W0.w w) (hc : ν.v c = .bool bb) {a b : Option AObj} {o' : AObj} (h : jo sy c a b = some o') : ∃ o, (sel bb a b) = some o ∧ isRes (some o) = false ∧ isRes (some o') = false ∧ ∀ r, ObjR P W0.own ν φ w r o → ObjR P W0.own ν φ w r o' := by
  unfold jo at h
  split at h
  · rename_i l e r k f s
    split at h <;> try (cases h; done)
    rename_i he
    simp only [Bool.and_eq_true, beq_iff_eq] at he
    obtain ⟨h1, h2⟩ := he
    have h1 := Nat.eq_of_beq_eq_true h1
    subst h1 h2
    cases h
    have key : ∀ (q : List Value) (hq : (sel bb l k) = q) (x : Ref), ObjR P W0.own ν φ w x (.cells q e r) → ObjR P W0.own ν φ w x (.cells (List.zipWith (jv sy c 2) l k) e r) := fun q hq x ho => by
      cases ho with
      | cells g1 g2 g3 g4 =>
        refine .cells g1 g2 g3 ?_
        have g5 := zip_bb (l := l) (k := k) (bb := bb) (f := jv sy c 2) (jv_ok hsy hf hc 2) (by rw [hq]; exact g4)
        have hle : (List.zipWith (jv sy c 2) l k).length ≤ q.length := by
          rw [List.length_zipWith, ← hq]
          cases bb
          · exact Nat.min_le_right _ _
          · exact Nat.min_le_left _ _
        rw [List.take_take, Nat.min_eq_left hle] at g5
        exact g5
    cases bb with
    | true => exact ⟨_, rfl, rfl, rfl, key l rfl⟩
    | false => exact ⟨_, rfl, rfl, rfl, key k rfl⟩
  · rename_i l x k y
    split at h <;> try (cases h; done)
    rename_i he
    simp only [Bool.and_eq_true] at he
    obtain ⟨h1, h2⟩ := he
    have h1 := Nat.eq_of_beq_eq_true h1
    have h2 := meq_spec h2
    subst h1 h2
    cases h
    cases bb <;> exact ⟨_, rfl, rfl, rfl, fun _ h => h⟩
  · cases h
theorem Rw.join {h1 h2 : Hp} (hsy : SyOK P W0 ν sy) (hc : ν.v c = .bool bb) (hR : Rw P G W0 ν φ (sel bb h1 h2) w) : Rw P G W0 ν φ (joinH sy c h1 h2) w := by
  refine hR.weak ?_ fun B o' ho => ?_
  · cases bb
    · exact mxn_r _ _
    · exact mxn_l _ _
  · have e : (Tr.zipW (jo sy c) h1.t h2.t).at_ B = some o' := ho
    rw [Tr.zipW_at rfl] at e
    obtain ⟨o, g1, g2, g3, g4⟩ := jo_ok (φ := φ) hsy hR.frame hc e
    refine ⟨o, ?_, g2, g3, g4⟩
    cases bb <;> exact g1
theorem look_join (sy : Sy) (c : Nat) (T U : Tr Value) (t : Nat) : look (joinT sy c T U) t = jv sy c 2 (look T t) (look U t) := by
  have e : (joinT sy c T U).at_ t = jr sy c (T.at_ t) (U.at_ t) := Tr.zipW_at rfl _ _ _
  unfold look
  rw [e]
  cases T.at_ t <;> cases U.at_ t <;> rfl
theorem ArD.join {n : Nat} {D : List Deferred} {T U : Tr Value} {a : Act} (hsy : SyOK P W0 ν sy) (hf : Fr W0.may W0.w w) (hc : ν.v c = .bool bb) (h : ArD ν φ n D (sel bb T U) a) : ArD ν φ n D (joinT sy c T U) a := by
  refine ⟨h.size, fun t => ?_, h.defers⟩
  rw [look_join]
  refine jv_ok hsy hf hc 2 _ _ _ ?_
  have := h.tmps t
  cases bb <;> exact this
theorem test_ok (hsy : SyOK P W0 ν sy) (hf : Fr W0.may W0.w w) (h : testB sy c = true) : ∃ bb, ν.v c = .bool bb := by
  unfold testB at h
  obtain ⟨v, hv⟩ := Option.isSome_iff_exists.1 h
  obtain ⟨bb, h1, _⟩ := pick_ok (φ := fun _ => none) hsy hf hv (.bool true) (.bool false)
  exact ⟨bb, h1⟩
end
end Go.Eva
