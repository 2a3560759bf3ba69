/-
  Several texts in one. Package plan over the tree: Check.
-/
import Derived.Test.YtmcigeebeoobdaaGreatDoorPz14
import Derived.Test.YtmcigeebeoobdaaGreatDoorPz01
import Derived.Test.YtmcigeebeoobdaaGreatDoorPz05
import Derived.Test.YtmcigeebeoobdaaGreatDoorPz07
import Derived.Test.YtmcigeebeoobdaaGreatDoorPz13
section
set_option linter.unusedSimpArgs false
set_option linter.unusedVariables false
namespace Go.Proofs.YtmcigeebeoobdaaGreatDoor
open Go Go.RowKit Go.Viv Go.Eva Go.Sym
theorem cols_take : ∀ (l : List Coln) (j : Nat), (colsC l).take (j * 2) = colsC (l.take j)
  | l, 0 => by simp [colsC, rowsC]
  | [], j + 1 => by simp [colsC, rowsC]
  | x :: l, j + 1 => by
    show (colC x ++ colsC l).take _ = colC x ++ colsC (l.take j)
    rw [show (j + 1) * 2 = (colC x).length + j * 2 by simp [colC]; omega, List.take_length_add_append, cols_take l j]
theorem row_ahead {t : Tr AObj} {B o n c c' j : Nat} {l : List Coln} (h : rowB t 2 (.slice (some ⟨B, o, none⟩) n c) = some (colsC l)) (hn : l.length = n) (hj : j ≤ n) (hn0 : 0 < n) : rowB t 2 (.slice (some ⟨B, o, none⟩) j c') = some (colsC (l.take j)) := by
  obtain ⟨m, rfl⟩ : ∃ m, n = m + 1 := ⟨n - 1, by omega⟩
  obtain ⟨B', o', d, e, rw, ea, hB, hr⟩ := row_some h (by omega)
  cases ea
  have h1 := read_sub (i := 0) (m := j * 2) hr (by omega)
  rw [List.drop_zero, cols_take, Nat.add_zero] at h1
  simp only [rowB, hB, h1]
theorem roomB_frame {t t' : Tr AObj} {e : TypeId} {v : Value} (h : ∀ X, occ X v = true → t'.at_ X = t.at_ X) : roomB t' e v = roomB t e v := by
  unfold roomB
  split
  · rw [h _ (by simp [occ])]
  · rfl
  · rfl
theorem cut_to {P : Program} {t : Tr AObj} {st e : TypeId} {B o n c j k : Nat} (hu : P.underlying st = some (.slice e)) (hs : sizeB P e = some k) (hr : roomB t e (.slice (some ⟨B, o, none⟩) n c) = true) (hj : j ≤ n) (hn : n ≤ 1000000) : ∃ c', sliceB P t st (.slice (some ⟨B, o, none⟩) n c) none (some (.int .i64 (j : Int))) none = some (.slice (some ⟨B, o, none⟩) j c') := by
  have hw : wrapInt (.int .i64 (j : Int)) = some j := rfl
  cases c with
  | zero =>
    unfold roomB at hr
    simp only at hr
    split at hr <;> try (cases hr; done)
    rename_i cs e' hB
    have he : Nat.beq e' e = true := hr
    refine ⟨0, ?_⟩
    unfold sliceB
    simp only [hu, hs, Option.elim, hw, hB, he, nble_t (Nat.zero_le j), nble_t hj, Bool.and_self, Nat.sub_zero]
    cases j with
    | zero => rfl
    | succ j =>
      show some (Value.slice (some ⟨B, o + 0 * k, none⟩) (j + 1) 0) = _
      rw [Nat.zero_mul, Nat.add_zero]
  | succ c =>
    have h2 := Nat.le_of_ble_eq_true (show Nat.ble n c = true from hr)
    refine ⟨c + 1, ?_⟩
    unfold sliceB
    simp only [hu, hs, Option.elim, hw, nble_t (Nat.zero_le j), nble_t (show j ≤ c by omega), nble_t (Nat.le_refl c), Bool.and_self, Nat.sub_zero]
    cases c with
    | zero => rfl
    | succ c =>
      show some (Value.slice (some ⟨B, o + 0 * k, none⟩) j (c + 1 + 1)) = _
      rw [Nat.zero_mul, Nat.add_zero]
theorem onSome_cut {P : Program} {t T : Tr AObj} {st e : TypeId} {B o n c j k : Nat} (hu : P.underlying st = some (.slice e)) (hs : sizeB P e = some k) (hr : roomB t e (.slice (some ⟨B, o, none⟩) n c) = true) (hf : T.at_ B = t.at_ B) (hj : j ≤ n) (hn : n ≤ 1000000) {K : Value → Prop} (hK : ∀ c', K (.slice (some ⟨B, o, none⟩) j c')) : onSome (sliceB P T st (.slice (some ⟨B, o, none⟩) n c) none (some (.int .i64 (j : Int))) none) K := by
  obtain ⟨c', e1⟩ := cut_to (t := T) (st := st) hu hs (by
    rw [roomB_frame (t := t) fun X hX => ?_]
    · exact hr
    · have : B = X := by simpa [occ] using hX
      subst this
      exact hf) hj hn
  exact ⟨_, e1, hK c'⟩
section
variable {G : Nat} {ν : Toks} {W : World} {may : Nat → Prop} {call : CallB}
set_option maxRecDepth 4000 in
theorem planCheck_ok (hc : CallOK Tryz.prog G (LBegin Tryz.prog ν LL W may) ν call) (hck : ∀ a h, call 63 a h = cPCheck a h) (hct : ∀ a h, call 64 a h = cContCol a h) : SpecOK Tryz.prog G (LBegin Tryz.prog ν LL W may) ν 26 cPlanCheck := by
  refine fun_ok rfl (by kernel_rfl) hc fun args s v h' e Lv hlv hG => ?_
  unfold cPlanCheck at e
  split at e <;> try (cases e; done)
  rename_i a n m v0
  split at e <;> try (cases e; done)
  rename_i l hl
  split at e <;> try (cases e; done)
  rename_i hmil
  obtain ⟨hmil, hn, hroom⟩ := hmil
  simp only [Option.some.injEq, Prod.mk.injEq] at e
  obtain ⟨rfl, rfl⟩ := e
  refine ⟨[], [], by cases s; rfl, 0, ?_⟩
  obtain ⟨vs, hv, hvs⟩ := Option.bind_eq_some_iff.1 hl
  obtain rfl := colsL_eq hvs
  have ltv : ∀ X, occ X v0 = true → X < s.next := fun X h => hlv.lt _ (hlv.arg X (by simp [occL, h]))
  obtain ⟨a0, n0, c0, rfl, hlen, hat⟩ := Go.Sym.row_at hv
  rw [colsC_len] at hlen
  obtain rfl : n0 = l.length := by omega
  by_cases h16 : 16 < l.length
  · rw [planE_many h16]
    refine ⟨Tryz.f26, _, Tryz.func26, rfl, by simp [Tryz.f26], ?_⟩; rw [Tryz.ntmps26]
    repeat' (first | simp (disch := omega) only [go_sem, reduceIte, sliceB, Tryz.results26] | (with_reducible refine w_chain0 ?_ ?_; focus (decide +kernel)) | (with_reducible refine condK_of _ _ ?_ ?_ <;> (intro hb; try simp only [decide_eq_true_eq, decide_eq_false_iff_not] at hb)) | (with_reducible refine gdK_of_f _ _ _ _ _ ?_ ?_ <;> (intro hb; try simp only [decide_eq_true_eq, decide_eq_false_iff_not] at hb)) | (with_reducible refine gdK_of_t _ _ _ _ _ ?_ ?_ <;> (intro hb; try simp only [decide_eq_true_eq, decide_eq_false_iff_not] at hb)) | (with_reducible refine gK_of_f _ _ _ ?_ ?_ <;> (intro hb; try simp only [decide_eq_true_eq, decide_eq_false_iff_not] at hb)) | (with_reducible refine gK_of_t _ _ _ ?_ ?_ <;> (intro hb; try simp only [decide_eq_true_eq, decide_eq_false_iff_not] at hb)))
    all_goals (refine ends_mk [] ?_ rfl ?_ ?_ ?_ ?_ <;> (try (intro X hX1 hX2; simp only [KeyIn, or_false, not_or, not_false_eq_true] at hX2)) <;> (try simp (disch := omega) only [go_sem, reduceIte, sliceB, AllMods, DistG, KeyIn, setL, news, not_false_eq_true, or_false, not_or, ne_eq, AllAt, AllObs, Dist, NotIn, kap_zero, kap_succ, kap_nil, inv_lt, inv_self, inv_add, ren_int, intsC_ren, and_true, and_self]) <;> (try omega))
  have hca : ∀ (H : Hp), (∀ X, X < s.next → H.t.at_ X = s.t.at_ X) → cContCol [.slice a0 l.length c0, .func (.func 65) ⟨[]⟩ ⟨[]⟩] H = some (.bool (l.any askB), H) := fun H h1 => by
    have hl' : (rowB H.t 2 (.slice a0 l.length c0)).bind colsL = some l := by rw [rowB_frame (t := s.t) fun X h => h1 X (ltv X h)]; exact hl
    have hq : predC H (.func (.func 65) ⟨[]⟩ ⟨[]⟩) = some askB := rfl
    simp only [cContCol, hl', hq]
    rw [if_pos hmil]
  refine ⟨Tryz.f26, _, Tryz.func26, rfl, by simp [Tryz.f26], ?_⟩; rw [Tryz.ntmps26]
  repeat' (first | simp (disch := omega) only [go_sem, reduceIte, sliceB] | (with_reducible refine w_chain0 ?_ ?_; focus (decide +kernel)) | (with_reducible refine condK_of _ _ ?_ ?_ <;> (intro hb; try simp only [decide_eq_true_eq, decide_eq_false_iff_not] at hb)) | (with_reducible refine gdK_of_f _ _ _ _ _ ?_ ?_ <;> (intro hb; try simp only [decide_eq_true_eq, decide_eq_false_iff_not] at hb)) | (with_reducible refine gdK_of_t _ _ _ _ _ ?_ ?_ <;> (intro hb; try simp only [decide_eq_true_eq, decide_eq_false_iff_not] at hb)) | (with_reducible refine gK_of_f _ _ _ ?_ ?_ <;> (intro hb; try simp only [decide_eq_true_eq, decide_eq_false_iff_not] at hb)) | (with_reducible refine gK_of_t _ _ _ ?_ ?_ <;> (intro hb; try simp only [decide_eq_true_eq, decide_eq_false_iff_not] at hb)))
  refine w_loop (fun m' T1 h => ∃ j, j ≤ l.length ∧ m' = l.length - j ∧ Eva.look T1 0 = .slice a n m ∧ Eva.look T1 1 = .slice a0 l.length c0 ∧ Eva.look T1 11 = .slice a0 l.length c0 ∧ Eva.look T1 12 = .int .i64 (l.length : Int) ∧ Eva.look T1 13 = .int .i64 (j : Int) ∧ colsE n [] (l.take j) = 0 ∧ s.next ≤ h.next ∧ ∀ X, X < s.next → h.t.at_ X = s.t.at_ X) l.length ?_ ?_
  · refine ⟨0, by omega, by omega, ?_, ?_, ?_, ?_, ?_, rfl, Nat.le_refl _, fun _ _ => rfl⟩ <;> (simp (disch := omega) only [go_sem, reduceIte, sliceB]) <;> rfl
  · rintro m' T1 h ⟨j, hj, hm', t0, t1, t11, t12, t13, hok, hnx, hold⟩
    by_cases hlt : j < l.length
    · obtain ⟨x, hx⟩ : ∃ x, l[j]? = some x := ⟨_, List.getElem?_eq_getElem hlt⟩
      obtain ⟨B, o, cs, ty, rw_, rfl, hB, g1, g2⟩ := hat j hlt
      rw [colsC_at hx] at g2
      have lB := ltv B (by simp [occ])
      have oB := (hold B lB).trans hB
      have hx2 := (List.getElem?_eq_some_iff.1 hx).2
      have hstep : colE n x (l.take j) = 0 → colsE n [] (l.take (j + 1)) = 0 := fun h0 => by rw [colsE_take hlt hok, hx2]; exact h0
      have hstop : colE n x (l.take j) ≠ 0 → planE n l = colE n x (l.take j) := fun h0 => by
        have e1 := colsE_at hlt hok (by rw [hx2]; exact h0)
        rw [planE_fault (by omega) (by rw [e1, hx2]; exact h0), e1, hx2]
      have hpc : ∀ (H : Hp) (c' : Nat), (∀ X, X < s.next → H.t.at_ X = s.t.at_ X) → cPCheck [.slice a n m, .agg ⟨[.int .i64 x.k, .int .i64 x.c]⟩, .slice (some ⟨B, o, none⟩) j c'] H = some (.int .i64 (colE n x (l.take j)), H) := fun H c' h1 => by
        have hv' : rowB H.t 2 (.slice (some ⟨B, o, none⟩) l.length c0) = some (colsC l) := by rw [rowB_frame (t := s.t) fun X h => h1 X (ltv X h)]; exact hv
        have hr := row_ahead (c' := c') hv' rfl hj (by omega)
        simp only [cPCheck, hr, Option.bind_some, colsL_of]
        rw [if_pos ⟨by rw [List.length_take]; omega, hn⟩]
      have hroom' : roomB h.t 37 (.slice (some ⟨B, o, none⟩) l.length c0) = true := by rw [roomB_frame (t := s.t) fun X hX => hold X (ltv X hX)]; exact hroom
      by_cases h0 : colE n x (l.take j) = 0
      · repeat' (first | simp (disch := omega) only [go_sem, reduceIte, t0, t1, t11, t12, t13, oB, g1, g2, Int.toNat_natCast, hck] | (with_reducible refine w_chain0 ?_ ?_; focus (decide +kernel)) | (with_reducible refine condK_of _ _ ?_ ?_ <;> (intro hb; try simp only [decide_eq_true_eq, decide_eq_false_iff_not] at hb)) | (with_reducible refine gdK_of_f _ _ _ _ _ ?_ ?_ <;> (intro hb; try simp only [decide_eq_true_eq, decide_eq_false_iff_not] at hb)) | (with_reducible refine gdK_of_t _ _ _ _ _ ?_ ?_ <;> (intro hb; try simp only [decide_eq_true_eq, decide_eq_false_iff_not] at hb)) | (with_reducible refine gK_of_f _ _ _ ?_ ?_ <;> (intro hb; try simp only [decide_eq_true_eq, decide_eq_false_iff_not] at hb)) | (with_reducible refine gK_of_t _ _ _ ?_ ?_ <;> (intro hb; try simp only [decide_eq_true_eq, decide_eq_false_iff_not] at hb)))
        refine onSome_cut (t := h.t) und34 size37 hroom' (by simp (disch := omega) only [go_sem, reduceIte, sliceB]) hj hmil fun c1 => ?_
        repeat' (first | simp (disch := omega) only [go_sem, reduceIte, t0, t1, t11, t12, t13, oB, g1, g2, Int.toNat_natCast, hck] | (with_reducible refine w_chain0 ?_ ?_; focus (decide +kernel)) | (with_reducible refine condK_of _ _ ?_ ?_ <;> (intro hb; try simp only [decide_eq_true_eq, decide_eq_false_iff_not] at hb)) | (with_reducible refine gdK_of_f _ _ _ _ _ ?_ ?_ <;> (intro hb; try simp only [decide_eq_true_eq, decide_eq_false_iff_not] at hb)) | (with_reducible refine gdK_of_t _ _ _ _ _ ?_ ?_ <;> (intro hb; try simp only [decide_eq_true_eq, decide_eq_false_iff_not] at hb)) | (with_reducible refine gK_of_f _ _ _ ?_ ?_ <;> (intro hb; try simp only [decide_eq_true_eq, decide_eq_false_iff_not] at hb)) | (with_reducible refine gK_of_t _ _ _ ?_ ?_ <;> (intro hb; try simp only [decide_eq_true_eq, decide_eq_false_iff_not] at hb)))
        refine ⟨_, hpc _ _ (fun X hX => by simp (disch := omega) only [go_sem, reduceIte, sliceB]; exact hold X hX), ?_⟩
        rw [h0]
        repeat' (first | simp (disch := omega) only [go_sem, reduceIte, sliceB, t0, t1, t11, t12, t13] | (with_reducible refine w_chain0 ?_ ?_; focus (decide +kernel)) | (with_reducible refine condK_of _ _ ?_ ?_ <;> (intro hb; try simp only [decide_eq_true_eq, decide_eq_false_iff_not] at hb)) | (with_reducible refine gdK_of_f _ _ _ _ _ ?_ ?_ <;> (intro hb; try simp only [decide_eq_true_eq, decide_eq_false_iff_not] at hb)) | (with_reducible refine gdK_of_t _ _ _ _ _ ?_ ?_ <;> (intro hb; try simp only [decide_eq_true_eq, decide_eq_false_iff_not] at hb)) | (with_reducible refine gK_of_f _ _ _ ?_ ?_ <;> (intro hb; try simp only [decide_eq_true_eq, decide_eq_false_iff_not] at hb)) | (with_reducible refine gK_of_t _ _ _ ?_ ?_ <;> (intro hb; try simp only [decide_eq_true_eq, decide_eq_false_iff_not] at hb)))
        exact ⟨l.length - (j + 1), by omega, j + 1, by omega, rfl, by simp, hstep h0, by omega, fun X hX => by simp (disch := omega) only [go_sem, reduceIte, sliceB]; exact hold X hX⟩
      · rw [hstop h0]
        generalize colE n x (l.take j) = z at *
        repeat' (first | simp (disch := omega) only [go_sem, reduceIte, t0, t1, t11, t12, t13, oB, g1, g2, Int.toNat_natCast, hck] | (with_reducible refine w_chain0 ?_ ?_; focus (decide +kernel)) | (with_reducible refine condK_of _ _ ?_ ?_ <;> (intro hb; try simp only [decide_eq_true_eq, decide_eq_false_iff_not] at hb)) | (with_reducible refine gdK_of_f _ _ _ _ _ ?_ ?_ <;> (intro hb; try simp only [decide_eq_true_eq, decide_eq_false_iff_not] at hb)) | (with_reducible refine gdK_of_t _ _ _ _ _ ?_ ?_ <;> (intro hb; try simp only [decide_eq_true_eq, decide_eq_false_iff_not] at hb)) | (with_reducible refine gK_of_f _ _ _ ?_ ?_ <;> (intro hb; try simp only [decide_eq_true_eq, decide_eq_false_iff_not] at hb)) | (with_reducible refine gK_of_t _ _ _ ?_ ?_ <;> (intro hb; try simp only [decide_eq_true_eq, decide_eq_false_iff_not] at hb)))
        refine onSome_cut (t := h.t) und34 size37 hroom' (by simp (disch := omega) only [go_sem, reduceIte, sliceB]) hj hmil fun c1 => ?_
        repeat' (first | simp (disch := omega) only [go_sem, reduceIte, t0, t1, t11, t12, t13, oB, g1, g2, Int.toNat_natCast, hck] | (with_reducible refine w_chain0 ?_ ?_; focus (decide +kernel)) | (with_reducible refine condK_of _ _ ?_ ?_ <;> (intro hb; try simp only [decide_eq_true_eq, decide_eq_false_iff_not] at hb)) | (with_reducible refine gdK_of_f _ _ _ _ _ ?_ ?_ <;> (intro hb; try simp only [decide_eq_true_eq, decide_eq_false_iff_not] at hb)) | (with_reducible refine gdK_of_t _ _ _ _ _ ?_ ?_ <;> (intro hb; try simp only [decide_eq_true_eq, decide_eq_false_iff_not] at hb)) | (with_reducible refine gK_of_f _ _ _ ?_ ?_ <;> (intro hb; try simp only [decide_eq_true_eq, decide_eq_false_iff_not] at hb)) | (with_reducible refine gK_of_t _ _ _ ?_ ?_ <;> (intro hb; try simp only [decide_eq_true_eq, decide_eq_false_iff_not] at hb)))
        refine ⟨_, hpc _ _ (fun X hX => by simp (disch := omega) only [go_sem, reduceIte, sliceB]; exact hold X hX), ?_⟩
        repeat' (first | simp (disch := omega) only [go_sem, reduceIte, sliceB, t0, t1, t11, t12, t13, h0, Tryz.results26] | (with_reducible refine w_chain0 ?_ ?_; focus (decide +kernel)) | (with_reducible refine condK_of _ _ ?_ ?_ <;> (intro hb; try simp only [decide_eq_true_eq, decide_eq_false_iff_not] at hb)) | (with_reducible refine gdK_of_f _ _ _ _ _ ?_ ?_ <;> (intro hb; try simp only [decide_eq_true_eq, decide_eq_false_iff_not] at hb)) | (with_reducible refine gdK_of_t _ _ _ _ _ ?_ ?_ <;> (intro hb; try simp only [decide_eq_true_eq, decide_eq_false_iff_not] at hb)) | (with_reducible refine gK_of_f _ _ _ ?_ ?_ <;> (intro hb; try simp only [decide_eq_true_eq, decide_eq_false_iff_not] at hb)) | (with_reducible refine gK_of_t _ _ _ ?_ ?_ <;> (intro hb; try simp only [decide_eq_true_eq, decide_eq_false_iff_not] at hb)))
        all_goals (refine ends_mk [] ?_ rfl ?_ ?_ ?_ ?_ <;> (try (intro X hX1 hX2; simp only [KeyIn, or_false, not_or, not_false_eq_true] at hX2)) <;> (try simp (disch := omega) only [go_sem, reduceIte, sliceB, AllMods, DistG, KeyIn, setL, news, not_false_eq_true, or_false, not_or, ne_eq, AllAt, AllObs, Dist, NotIn, kap_zero, kap_succ, kap_nil, inv_lt, inv_self, inv_add, ren_int, intsC_ren, and_true, and_self]) <;> (try omega))
        exact hold X hX1
    · obtain rfl : j = l.length := by omega
      rw [List.take_length] at hok
      rw [planE_asks (by omega) hok]
      repeat' (first | simp (disch := omega) only [go_sem, reduceIte, sliceB, t0, t1, t11, t12, t13, hct] | (with_reducible refine w_chain0 ?_ ?_; focus (decide +kernel)) | (with_reducible refine condK_of _ _ ?_ ?_ <;> (intro hb; try simp only [decide_eq_true_eq, decide_eq_false_iff_not] at hb)) | (with_reducible refine gdK_of_f _ _ _ _ _ ?_ ?_ <;> (intro hb; try simp only [decide_eq_true_eq, decide_eq_false_iff_not] at hb)) | (with_reducible refine gdK_of_t _ _ _ _ _ ?_ ?_ <;> (intro hb; try simp only [decide_eq_true_eq, decide_eq_false_iff_not] at hb)) | (with_reducible refine gK_of_f _ _ _ ?_ ?_ <;> (intro hb; try simp only [decide_eq_true_eq, decide_eq_false_iff_not] at hb)) | (with_reducible refine gK_of_t _ _ _ ?_ ?_ <;> (intro hb; try simp only [decide_eq_true_eq, decide_eq_false_iff_not] at hb)))
      refine ⟨_, hca _ hold, ?_⟩
      cases hb : l.any askB with
      | true =>
        have e0 : (if true = true then (0 : Int) else 1) = 0 := rfl
        rw [e0]
        repeat' (first | simp (disch := omega) only [go_sem, reduceIte, sliceB, t0, t1, t11, t12, t13, Tryz.results26] | (with_reducible refine w_chain0 ?_ ?_; focus (decide +kernel)) | (with_reducible refine condK_of _ _ ?_ ?_ <;> (intro hb; try simp only [decide_eq_true_eq, decide_eq_false_iff_not] at hb)) | (with_reducible refine gdK_of_f _ _ _ _ _ ?_ ?_ <;> (intro hb; try simp only [decide_eq_true_eq, decide_eq_false_iff_not] at hb)) | (with_reducible refine gdK_of_t _ _ _ _ _ ?_ ?_ <;> (intro hb; try simp only [decide_eq_true_eq, decide_eq_false_iff_not] at hb)) | (with_reducible refine gK_of_f _ _ _ ?_ ?_ <;> (intro hb; try simp only [decide_eq_true_eq, decide_eq_false_iff_not] at hb)) | (with_reducible refine gK_of_t _ _ _ ?_ ?_ <;> (intro hb; try simp only [decide_eq_true_eq, decide_eq_false_iff_not] at hb)))
        all_goals (refine ends_mk [] ?_ rfl ?_ ?_ ?_ ?_ <;> (try (intro X hX1 hX2; simp only [KeyIn, or_false, not_or, not_false_eq_true] at hX2)) <;> (try simp (disch := omega) only [go_sem, reduceIte, sliceB, AllMods, DistG, KeyIn, setL, news, not_false_eq_true, or_false, not_or, ne_eq, AllAt, AllObs, Dist, NotIn, kap_zero, kap_succ, kap_nil, inv_lt, inv_self, inv_add, ren_int, intsC_ren, and_true, and_self]) <;> (try omega))
        exact hold X hX1
      | false =>
        have e0 : (if false = true then (0 : Int) else 1) = 1 := rfl
        rw [e0]
        repeat' (first | simp (disch := omega) only [go_sem, reduceIte, sliceB, t0, t1, t11, t12, t13, Tryz.results26] | (with_reducible refine w_chain0 ?_ ?_; focus (decide +kernel)) | (with_reducible refine condK_of _ _ ?_ ?_ <;> (intro hb; try simp only [decide_eq_true_eq, decide_eq_false_iff_not] at hb)) | (with_reducible refine gdK_of_f _ _ _ _ _ ?_ ?_ <;> (intro hb; try simp only [decide_eq_true_eq, decide_eq_false_iff_not] at hb)) | (with_reducible refine gdK_of_t _ _ _ _ _ ?_ ?_ <;> (intro hb; try simp only [decide_eq_true_eq, decide_eq_false_iff_not] at hb)) | (with_reducible refine gK_of_f _ _ _ ?_ ?_ <;> (intro hb; try simp only [decide_eq_true_eq, decide_eq_false_iff_not] at hb)) | (with_reducible refine gK_of_t _ _ _ ?_ ?_ <;> (intro hb; try simp only [decide_eq_true_eq, decide_eq_false_iff_not] at hb)))
        all_goals (refine ends_mk [] ?_ rfl ?_ ?_ ?_ ?_ <;> (try (intro X hX1 hX2; simp only [KeyIn, or_false, not_or, not_false_eq_true] at hX2)) <;> (try simp (disch := omega) only [go_sem, reduceIte, sliceB, AllMods, DistG, KeyIn, setL, news, not_false_eq_true, or_false, not_or, ne_eq, AllAt, AllObs, Dist, NotIn, kap_zero, kap_succ, kap_nil, inv_lt, inv_self, inv_add, ren_int, intsC_ren, and_true, and_self]) <;> (try omega))
        exact hold X hX1
end
end Go.Proofs.YtmcigeebeoobdaaGreatDoor
end

/-
  slices.Index, Contains at whole numbers, over the tree.
-/
section
set_option linter.unusedSimpArgs false
set_option linter.unusedVariables false
namespace Go.Proofs.YtmcigeebeoobdaaGreatDoor
open Go Go.RowKit Go.Viv Go.Eva Go.Sym
def cIdxInt : Sym.CallS := fun args s => match args with
  | [v, .int .i64 x] => match (rowB s.t 1 v).bind intsL with
    | some l => if l.length ≤ 1000000 then some (.int .i64 (fidxC (fun y => decide (x = y)) l 0), s) else none
    | none => none
  | _ => none
def cContInt : Sym.CallS := fun args s => match args with
  | [v, .int .i64 x] => match (rowB s.t 1 v).bind intsL with
    | some l => if l.length ≤ 1000000 then some (.bool (l.any fun y => decide (x = y)), s) else none
    | none => none
  | _ => none
section
variable {G : Nat} {ν : Toks} {W : World} {may : Nat → Prop} {call : CallB}
theorem idxInt_ok (hc : CallOK Tryz.prog G (LBegin Tryz.prog ν LL W may) ν call) : SpecOK Tryz.prog G (LBegin Tryz.prog ν LL W may) ν 156 cIdxInt := by
  refine fun_ok rfl (by kernel_rfl) hc fun args s v h' e Lv hlv hG => ?_
  unfold cIdxInt at e
  split at e <;> try (cases e; done)
  rename_i v0 x
  split at e <;> try (cases e; done)
  rename_i l hl
  split at e <;> try (cases e; done)
  rename_i hmil
  simp only [Option.some.injEq, Prod.mk.injEq] at e
  obtain ⟨rfl, rfl⟩ := e
  obtain ⟨vs, hv, hvs⟩ := Option.bind_eq_some_iff.1 hl
  obtain rfl := intsL_eq hvs
  have ltv : ∀ X, occ X v0 = true → X < s.next := fun X h => hlv.lt _ (hlv.arg X (by simp [occL, h]))
  obtain ⟨a, n, c, rfl, hlen, hat⟩ := Go.Sym.row_at hv
  have hlc : (intsC l).length = l.length := by simp [intsC]
  rw [hlc] at hlen
  obtain rfl : n = l.length := by omega
  refine ⟨[], [], by cases s; rfl, 0, ?_⟩
  refine ⟨Tryz.f156, _, Tryz.func156, rfl, by simp [Tryz.f156], ?_⟩; rw [Tryz.ntmps156]
  repeat' (first | simp (disch := omega) only [go_sem, reduceIte, sliceB] | (with_reducible refine w_chain0 ?_ ?_; focus (decide +kernel)) | (with_reducible refine condK_of _ _ ?_ ?_ <;> (intro hb; try simp only [decide_eq_true_eq, decide_eq_false_iff_not] at hb)) | (with_reducible refine gdK_of_f _ _ _ _ _ ?_ ?_ <;> (intro hb; try simp only [decide_eq_true_eq, decide_eq_false_iff_not] at hb)) | (with_reducible refine gdK_of_t _ _ _ _ _ ?_ ?_ <;> (intro hb; try simp only [decide_eq_true_eq, decide_eq_false_iff_not] at hb)) | (with_reducible refine gK_of_f _ _ _ ?_ ?_ <;> (intro hb; try simp only [decide_eq_true_eq, decide_eq_false_iff_not] at hb)) | (with_reducible refine gK_of_t _ _ _ ?_ ?_ <;> (intro hb; try simp only [decide_eq_true_eq, decide_eq_false_iff_not] at hb)))
  refine w_loop (fun m T1 h => ∃ j, j ≤ l.length ∧ m = l.length - j ∧ Eva.look T1 0 = .slice a l.length c ∧ Eva.look T1 1 = .int .i64 x ∧ Eva.look T1 7 = .int .i64 (l.length : Int) ∧ Eva.look T1 8 = .int .i64 (j : Int) ∧ fidxC (fun y => decide (x = y)) (l.drop j) j = fidxC (fun y => decide (x = y)) l 0 ∧ h.next = s.next ∧ ∀ X, X < s.next → h.t.at_ X = s.t.at_ X) l.length ?_ ?_
  · refine ⟨0, by omega, by omega, ?_, ?_, ?_, ?_, rfl, rfl, fun _ _ => rfl⟩ <;> (simp (disch := omega) only [go_sem, reduceIte, sliceB]) <;> rfl
  · rintro m T1 h ⟨j, hj, hm, t0, t1, t7, t8, hfx, hnx, hold⟩
    by_cases hlt : j < l.length
    · obtain ⟨y, hy⟩ : ∃ y, l[j]? = some y := ⟨_, List.getElem?_eq_getElem hlt⟩
      obtain ⟨B, o, cs, ty, rw_, rfl, hB, g1, g2⟩ := hat j hlt
      have hyc : ((intsC l).drop (j * 1)).take 1 = [.int .i64 y] := by
        rw [Nat.mul_one]
        have h1 : (intsC l)[j]? = some (.int .i64 y) := by unfold intsC; rw [List.getElem?_map, hy]; rfl
        obtain ⟨p1, p2⟩ := List.getElem?_eq_some_iff.1 h1
        rw [List.drop_eq_getElem_cons p1, p2]
        rfl
      rw [hyc] at g2
      have g3 := Go.Sym.one_at g2
      have lB := ltv B (by simp [occ])
      have oB := (hold B lB).trans hB
      rw [fidxC_at hy] at hfx
      by_cases hb : x = y
      · subst hb
        simp only [decide_true, if_true] at hfx
        repeat' (first | simp (disch := omega) only [go_sem, reduceIte, sliceB, t0, t1, t7, t8, oB, g3, Int.toNat_natCast, Tryz.results156] | (with_reducible refine w_chain0 ?_ ?_; focus (decide +kernel)) | (with_reducible refine condK_of _ _ ?_ ?_ <;> (intro hb; try simp only [decide_eq_true_eq, decide_eq_false_iff_not] at hb)) | (with_reducible refine gdK_of_f _ _ _ _ _ ?_ ?_ <;> (intro hb; try simp only [decide_eq_true_eq, decide_eq_false_iff_not] at hb)) | (with_reducible refine gdK_of_t _ _ _ _ _ ?_ ?_ <;> (intro hb; try simp only [decide_eq_true_eq, decide_eq_false_iff_not] at hb)) | (with_reducible refine gK_of_f _ _ _ ?_ ?_ <;> (intro hb; try simp only [decide_eq_true_eq, decide_eq_false_iff_not] at hb)) | (with_reducible refine gK_of_t _ _ _ ?_ ?_ <;> (intro hb; try simp only [decide_eq_true_eq, decide_eq_false_iff_not] at hb)))
        all_goals (refine ends_mk [] ?_ rfl ?_ ?_ ?_ ?_ <;> (try (intro X hX1 hX2; simp only [KeyIn, or_false, not_or, not_false_eq_true] at hX2)) <;> (try simp (disch := omega) only [go_sem, reduceIte, sliceB, AllMods, DistG, KeyIn, setL, news, not_false_eq_true, or_false, not_or, ne_eq, AllAt, AllObs, Dist, NotIn, kap_zero, kap_succ, kap_nil, inv_lt, inv_self, inv_add, ren_int, intsC_ren, and_true, and_self]) <;> (try omega))
        · exact hold X hX1
        · rw [hfx]
      · rw [if_neg (by simpa using hb)] at hfx
        repeat' (first | simp (disch := omega) only [go_sem, reduceIte, sliceB, t0, t1, t7, t8, oB, g3, hb, Int.toNat_natCast, Tryz.results156] | (with_reducible refine w_chain0 ?_ ?_; focus (decide +kernel)) | (with_reducible refine condK_of _ _ ?_ ?_ <;> (intro hb; try simp only [decide_eq_true_eq, decide_eq_false_iff_not] at hb)) | (with_reducible refine gdK_of_f _ _ _ _ _ ?_ ?_ <;> (intro hb; try simp only [decide_eq_true_eq, decide_eq_false_iff_not] at hb)) | (with_reducible refine gdK_of_t _ _ _ _ _ ?_ ?_ <;> (intro hb; try simp only [decide_eq_true_eq, decide_eq_false_iff_not] at hb)) | (with_reducible refine gK_of_f _ _ _ ?_ ?_ <;> (intro hb; try simp only [decide_eq_true_eq, decide_eq_false_iff_not] at hb)) | (with_reducible refine gK_of_t _ _ _ ?_ ?_ <;> (intro hb; try simp only [decide_eq_true_eq, decide_eq_false_iff_not] at hb)))
        exact ⟨l.length - (j + 1), by omega, j + 1, by omega, rfl, by simp, hfx, hnx, hold⟩
    · obtain rfl : j = l.length := by omega
      rw [List.drop_length] at hfx
      have e1 : fidxC (fun y => decide (x = y)) l 0 = -1 := hfx.symm
      rw [e1]
      repeat' (first | simp (disch := omega) only [go_sem, reduceIte, sliceB, t0, t1, t7, t8, Tryz.results156] | (with_reducible refine w_chain0 ?_ ?_; focus (decide +kernel)) | (with_reducible refine condK_of _ _ ?_ ?_ <;> (intro hb; try simp only [decide_eq_true_eq, decide_eq_false_iff_not] at hb)) | (with_reducible refine gdK_of_f _ _ _ _ _ ?_ ?_ <;> (intro hb; try simp only [decide_eq_true_eq, decide_eq_false_iff_not] at hb)) | (with_reducible refine gdK_of_t _ _ _ _ _ ?_ ?_ <;> (intro hb; try simp only [decide_eq_true_eq, decide_eq_false_iff_not] at hb)) | (with_reducible refine gK_of_f _ _ _ ?_ ?_ <;> (intro hb; try simp only [decide_eq_true_eq, decide_eq_false_iff_not] at hb)) | (with_reducible refine gK_of_t _ _ _ ?_ ?_ <;> (intro hb; try simp only [decide_eq_true_eq, decide_eq_false_iff_not] at hb)))
      all_goals (refine ends_mk [] ?_ rfl ?_ ?_ ?_ ?_ <;> (try (intro X hX1 hX2; simp only [KeyIn, or_false, not_or, not_false_eq_true] at hX2)) <;> (try simp (disch := omega) only [go_sem, reduceIte, sliceB, AllMods, DistG, KeyIn, setL, news, not_false_eq_true, or_false, not_or, ne_eq, AllAt, AllObs, Dist, NotIn, kap_zero, kap_succ, kap_nil, inv_lt, inv_self, inv_add, ren_int, intsC_ren, and_true, and_self]) <;> (try omega))
      exact hold X hX1
theorem contInt_ok (hc : CallOK Tryz.prog G (LBegin Tryz.prog ν LL W may) ν call) (hix : ∀ a h, call 156 a h = cIdxInt a h) : SpecOK Tryz.prog G (LBegin Tryz.prog ν LL W may) ν 109 cContInt := by
  refine fun_ok rfl (by kernel_rfl) hc fun args s v h' e Lv hlv hG => ?_
  unfold cContInt at e
  split at e <;> try (cases e; done)
  rename_i v0 x
  split at e <;> try (cases e; done)
  rename_i l hl
  split at e <;> try (cases e; done)
  rename_i hmil
  simp only [Option.some.injEq, Prod.mk.injEq] at e
  obtain ⟨rfl, rfl⟩ := e
  have e0 : cIdxInt [v0, .int .i64 x] s = some (.int .i64 (fidxC (fun y => decide (x = y)) l 0), s) := by
    simp only [cIdxInt, hl]
    rw [if_pos hmil]
  have hany := fidxC_any (fun y => decide (x = y)) l 0
  refine ⟨[], [], by cases s; rfl, 0, ?_⟩
  obtain ⟨vs, hv, hvs⟩ := Option.bind_eq_some_iff.1 hl
  obtain ⟨a, n, c, rfl⟩ := row_slice hv
  by_cases h0 : 0 ≤ fidxC (fun y => decide (x = y)) l 0
  · rw [decide_eq_true h0] at hany
    rw [← hany]
    generalize fidxC (fun y => decide (x = y)) l 0 = z at *
    refine ⟨Tryz.f109, _, Tryz.func109, rfl, by simp [Tryz.f109], ?_⟩; rw [Tryz.ntmps109]
    repeat' (first | simp (disch := omega) only [go_sem, reduceIte, sliceB, hix, e0, Tryz.results109] | (with_reducible refine w_chain0 ?_ ?_; focus (decide +kernel)) | (with_reducible refine condK_of _ _ ?_ ?_ <;> (intro hb; try simp only [decide_eq_true_eq, decide_eq_false_iff_not] at hb)) | (with_reducible refine gdK_of_f _ _ _ _ _ ?_ ?_ <;> (intro hb; try simp only [decide_eq_true_eq, decide_eq_false_iff_not] at hb)) | (with_reducible refine gdK_of_t _ _ _ _ _ ?_ ?_ <;> (intro hb; try simp only [decide_eq_true_eq, decide_eq_false_iff_not] at hb)) | (with_reducible refine gK_of_f _ _ _ ?_ ?_ <;> (intro hb; try simp only [decide_eq_true_eq, decide_eq_false_iff_not] at hb)) | (with_reducible refine gK_of_t _ _ _ ?_ ?_ <;> (intro hb; try simp only [decide_eq_true_eq, decide_eq_false_iff_not] at hb)))
    all_goals (refine ends_mk [] ?_ rfl ?_ ?_ ?_ ?_ <;> (try (intro X hX1 hX2; simp only [KeyIn, or_false, not_or, not_false_eq_true] at hX2)) <;> (try simp (disch := omega) only [go_sem, reduceIte, sliceB, AllMods, DistG, KeyIn, setL, news, not_false_eq_true, or_false, not_or, ne_eq, AllAt, AllObs, Dist, NotIn, kap_zero, kap_succ, kap_nil, inv_lt, inv_self, inv_add, ren_int, intsC_ren, and_true, and_self]) <;> (try omega))
  · rw [decide_eq_false h0] at hany
    rw [← hany]
    generalize fidxC (fun y => decide (x = y)) l 0 = z at *
    have h0' : z < 0 := by omega
    refine ⟨Tryz.f109, _, Tryz.func109, rfl, by simp [Tryz.f109], ?_⟩; rw [Tryz.ntmps109]
    repeat' (first | simp (disch := omega) only [go_sem, reduceIte, sliceB, hix, e0, Tryz.results109] | (with_reducible refine w_chain0 ?_ ?_; focus (decide +kernel)) | (with_reducible refine condK_of _ _ ?_ ?_ <;> (intro hb; try simp only [decide_eq_true_eq, decide_eq_false_iff_not] at hb)) | (with_reducible refine gdK_of_f _ _ _ _ _ ?_ ?_ <;> (intro hb; try simp only [decide_eq_true_eq, decide_eq_false_iff_not] at hb)) | (with_reducible refine gdK_of_t _ _ _ _ _ ?_ ?_ <;> (intro hb; try simp only [decide_eq_true_eq, decide_eq_false_iff_not] at hb)) | (with_reducible refine gK_of_f _ _ _ ?_ ?_ <;> (intro hb; try simp only [decide_eq_true_eq, decide_eq_false_iff_not] at hb)) | (with_reducible refine gK_of_t _ _ _ ?_ ?_ <;> (intro hb; try simp only [decide_eq_true_eq, decide_eq_false_iff_not] at hb)))
    all_goals (refine ends_mk [] ?_ rfl ?_ ?_ ?_ ?_ <;> (try (intro X hX1 hX2; simp only [KeyIn, or_false, not_or, not_false_eq_true] at hX2)) <;> (try simp (disch := omega) only [go_sem, reduceIte, sliceB, AllMods, DistG, KeyIn, setL, news, not_false_eq_true, or_false, not_or, ne_eq, AllAt, AllObs, Dist, NotIn, kap_zero, kap_succ, kap_nil, inv_lt, inv_self, inv_add, ren_int, intsC_ren, and_true, and_self]) <;> (try omega))
end
end Go.Proofs.YtmcigeebeoobdaaGreatDoor
end

/-
  slices.Sort at whole numbers, over the tree: out of the shelf's contract.
-/
section
set_option linter.unusedSimpArgs false
set_option linter.unusedVariables false
namespace Go.Proofs.YtmcigeebeoobdaaGreatDoor
open Go Go.RowKit Go.Viv Go.Eva Go.Sym
abbrev sortI (l : List Int) : List Int := l.mergeSort fun x y => decide (x ≤ y)
def cSort : Sym.CallS := fun args s => match args with
  | [.slice none 0 _] => some (.tuple ⟨[]⟩, s)
  | [.slice (some ⟨B, 0, none⟩) (n + 1) _] => match s.t.at_ B with
    | some (.cells cs e true) => match intsL cs with
      | some l => if l.length = n + 1 ∧ e = 3 ∧ n ≤ 1000000 then some (.tuple ⟨[]⟩, ⟨s.t.set B (some (.cells (intsC (sortI l)) e true)), s.next⟩) else none
      | none => none
    | _ => none
  | _ => none
theorem slice_val {ν : Toks} {φ : Phi} {B n c : Nat} {v' : Value} (h : VR ν φ (.slice (some ⟨B, 0, none⟩) (n + 1) c) v') : ∃ r cap, φ B = some r ∧ v' = .slice (some ⟨r.b, 0, none⟩) (n + 1) cap := by
  cases h with
  | slk h hn => exact ⟨_, _, h, rfl⟩
  | slu h hn hc => exact ⟨_, _, h, rfl⟩
theorem slice_nil {ν : Toks} {φ : Phi} {c : Nat} {v' : Value} (h : VR ν φ (.slice none 0 c) v') : ∃ p cap, v' = .slice p 0 cap := by
  cases h with
  | sl0 => exact ⟨_, _, rfl⟩
  | emp a c => exact ⟨_, _, rfl⟩
theorem VRs.ints {ν : Toks} {φ : Phi} : ∀ {l : List Int} {vs : List Value}, VRs ν φ (intsC l) vs → vs = intsC l
  | [], _, h => by cases h; rfl
  | a :: l, _, h => by
    cases h with
    | cons h1 h2 =>
      cases h1
      rw [VRs.ints h2]
      rfl
section
variable {G : Nat} {ν : Toks} {W0 : Begin}
theorem sort_ok : SpecOK Tryz.prog G W0 ν 110 cSort := by
  intro args s v h' e φ w args' ha hR hG
  unfold cSort at e
  split at e <;> try (cases e; done)
  · rename_i c
    cases e
    cases ha with
    | cons h1 h2 =>
      cases h2
      obtain ⟨p, cap, rfl⟩ := slice_nil h1
      refine (Tryz.slices_Sort_int_none p cap w).mono ?_
      rintro e w' ⟨rfl, rfl⟩
      exact ⟨_, rfl, φ, VR.refl _ rfl, hR, fun _ _ => rfl, Nat.le_refl _⟩
  · rename_i B n c
    split at e <;> try (cases e; done)
    rename_i cs ety hB
    split at e <;> try (cases e; done)
    rename_i l hl
    split at e <;> try (cases e; done)
    rename_i hq
    obtain ⟨hln, rfl, hn⟩ := hq
    obtain rfl := intsL_eq hl
    cases e
    cases ha with
    | cons h1 h2 =>
      cases h2
      obtain ⟨r, cap, hφ, rfl⟩ := slice_val h1
      obtain ⟨cs', e', fr, hh, hs, hrw, hc, hle⟩ := hR.cells_ hφ hB
      obtain ⟨rfl, hes, hown, rfl⟩ := hrw rfl
      have hlc : (intsC l).length = l.length := by simp [intsC]
      rw [hlc] at hc hle
      have hcv := VRs.ints hc
      have hcell : ∀ j, j < l.length → w.cell? ⟨r.b, 0 + j, none⟩ = some (.int .i64 l[j]!) := fun j hj => by
        have hi : (intsC l)[j]? = some (.int .i64 l[j]!) := by
          unfold intsC
          rw [List.getElem?_map, List.getElem?_eq_getElem hj, getElem!_pos l j hj]
          rfl
        obtain ⟨v', q1, q2⟩ := hR.cell hφ hB hi
        rw [Nat.zero_add, q1, q2.int_]
      have hwr := hR.writable hφ hB (o := 0) (n := l.length) (by omega)
      have hH : Go.Sort.Holds (Value.int .i64) w r.b 0 l.toArray := fun j hj => by
        have hj' : j < l.length := by simpa using hj
        refine ⟨?_, hwr.2 j hj'⟩
        rw [hcell j hj']
        simp
      have hcl := Tryz.slices_Sort_int r.b 0 cap l w hH (hR.bound B r hφ) (by omega)
      rw [hln] at hcl
      refine hcl.mono ?_
      rintro e w' ⟨rfl, m, os, rfl⟩
      refine ⟨_, rfl, φ, VR.refl _ rfl, ?_, fun _ _ => rfl, Nat.le_refl _⟩
      have hsl : (sortI l).length = l.length := List.length_mergeSort l
      have hput : ((Go.Sort.putRow (Value.int .i64) w r.b 0 (sortI l).toArray).heap[r.b]?) = some (.cells (Go.Sort.putCells (Value.int .i64) 0 (sortI l).toArray cs') 3 (0, 0)) := by
        unfold Go.Sort.putRow Go.Sort.mapBlock
        simp [Array.getElem?_modify, hh, Go.Sort.onCells]
      have hoth : ∀ k, k ≠ r.b → (Go.Sort.putRow (Value.int .i64) w r.b 0 (sortI l).toArray).heap[k]? = w.heap[k]? := fun k hk => by
        unfold Go.Sort.putRow Go.Sort.mapBlock
        simp [Array.getElem?_modify, Ne.symm hk]
      have hsz : (Go.Sort.putRow (Value.int .i64) w r.b 0 (sortI l).toArray).heap.size = w.heap.size := by
        unfold Go.Sort.putRow Go.Sort.mapBlock
        simp
      have hR1 : Rw Tryz.prog G W0 ν φ ⟨s.t.set B (some (.cells (intsC (sortI l)) 3 true)), s.next⟩ (Go.Sort.putRow (Value.int .i64) w r.b 0 (sortI l).toArray) := by
        refine hR.upd (w' := Go.Sort.putRow (Value.int .i64) w r.b 0 (sortI l).toArray) hφ (by rw [hB]; rfl) (by rw [hB]; rfl) ⟨hR.frame.os, hR.frame.tape, hR.frame.output, by rw [hsz]; exact hR.frame.size, fun k hk hn => ?_⟩ hsz hoth _ rfl (.cells hput ?_ (fun _ => ⟨rfl, hes, hown, rfl⟩) ?_)
        · rw [hoth k fun e => by subst e; rcases hown with h | h; exact hn h; omega]
          exact hR.frame.block k hk hn
        · simp [Go.Sort.putCells, hs]
        · have hl2 : (intsC (sortI l)).length = l.length := by simp [intsC, hsl]
          have e1 : (Go.Sort.putCells (Value.int .i64) 0 (sortI l).toArray cs').toList.take (intsC (sortI l)).length = intsC (sortI l) := by
            rw [hl2]
            apply List.ext_getElem?
            intro i
            by_cases hi : i < l.length
            · rw [List.getElem?_take_of_lt hi]
              have hi2 : i < (sortI l).length := by omega
              have r1 : (intsC (sortI l))[i]? = some (.int .i64 (sortI l)[i]) := by
                unfold intsC
                rw [List.getElem?_map, List.getElem?_eq_getElem hi2]
                rfl
              rw [r1]
              unfold Go.Sort.putCells
              rw [Array.getElem?_toList, Array.getElem?_mapIdx, Array.getElem?_eq_getElem (show i < cs'.size by omega), Option.map_some, if_pos ⟨Nat.zero_le _, by simp only [List.size_toArray]; omega⟩]
              simp only [Nat.sub_zero]
              rw [getElem!_pos (sortI l).toArray i (by simpa using hi2)]
              simp
            · rw [List.getElem?_eq_none (by simp; omega), List.getElem?_eq_none (by omega)]
          rw [e1]
          exact VRs.refl _ (intsC_plain _)
      refine hR1.later ⟨rfl, rfl, rfl, ?_, fun k hk _ => ?_⟩
      · show _ ≤ ((Go.Sort.putRow (Value.int .i64) (Go.Sort.ahead w m) r.b 0 (sortI l).toArray).heap ++ os).size
        rw [Array.size_append]
        exact Nat.le_add_right _ _
      · show ((Go.Sort.putRow (Value.int .i64) (Go.Sort.ahead w m) r.b 0 (sortI l).toArray).heap ++ os)[k]? = _
        rw [Array.getElem?_append_left (by exact hk)]
        rfl
end
end Go.Proofs.YtmcigeebeoobdaaGreatDoor
end

/-
  Structures that lie open among the tree's blocks: methods as contracts. No program in sight.
-/
section
set_option linter.unusedSimpArgs false
set_option linter.unusedVariables false
namespace Go.Viv
open Classical in
/-- The one that there is. -/
noncomputable def theOne {α : Type} (p : α → Prop) : Option α := if h : ∃ a, p a then some (Classical.choose h) else none
theorem theOne_spec {α : Type} {p : α → Prop} {a : α} (h : theOne p = some a) : p a := by
  unfold theOne at h
  split at h
  · rename_i hx
    cases h
    exact Classical.choose_spec hx
  · cases h
theorem theOne_of {α : Type} {p : α → Prop} {a : α} (h : p a) (hu : ∀ b, p b → b = a) : theOne p = some a := by
  unfold theOne
  rw [dif_pos ⟨a, h⟩]
  exact congrArg some (hu _ (Classical.choose_spec ⟨a, h⟩))
end Go.Viv
namespace Go.Sym
open Go Go.RowKit Go.Viv Go.Eva
mutual
theorem ren_fix {κ : Nat → Nat} : ∀ v : Value, (∀ X, occ X v = true → κ X = X) → ren κ v = v
  | .pointer (some ⟨B, o, none⟩), h => by simp only [ren, h B (by simp [occ])]
  | .slice (some ⟨B, o, none⟩) n c, h => by simp only [ren, h B (by simp [occ])]
  | .map (some B), h => by simp only [ren, h B (by simp [occ])]
  | .func fn ⟨f⟩ ⟨c⟩, h => by
    simp only [ren, ren_fixL f (fun X hX => h X (by simp [occ, hX])), ren_fixL c (fun X hX => h X (by simp [occ, hX]))]
  | .iface t v, h => by simp only [ren, ren_fix v (fun X hX => h X (by simp only [occ]; exact hX))]
  | .agg ⟨l⟩, h => by simp only [ren, ren_fixL l (fun X hX => h X (by simp only [occ]; exact hX))]
  | .tuple ⟨l⟩, h => by simp only [ren, ren_fixL l (fun X hX => h X (by simp only [occ]; exact hX))]
  | .bool _, _ => rfl
  | .int _ _, _ => rfl
  | .float _ _, _ => rfl
  | .complex _ _ _, _ => rfl
  | .string _, _ => rfl
  | .pointer none, _ => rfl
  | .pointer (some ⟨_, _, some _⟩), _ => rfl
  | .slice none _ _, _ => rfl
  | .slice (some ⟨_, _, some _⟩) _ _, _ => rfl
  | .map none, _ => rfl
  | .chan _, _ => rfl
  | .nilFunc, _ => rfl
  | .nilIface, _ => rfl
theorem ren_fixL {κ : Nat → Nat} : ∀ l : List Value, (∀ X, occL X l = true → κ X = X) → renL κ l = l
  | [], _ => rfl
  | v :: l, h => by
    simp only [renL, ren_fix v (fun X hX => h X (by simp [occL, hX])), ren_fixL l (fun X hX => h X (by simp [occL, hX]))]
end
/-- Does a block's number stand in a block? -/
def occA (X : Nat) : AObj → Bool
  | .cells c _ _ => occL X c
  | .map _ _ => true
  | .res _ => false
theorem renO_fix {κ : Nat → Nat} {o : AObj} (hm : ∀ es c, o ≠ .map es c) (h : ∀ X, occA X o = true → κ X = X) : renO κ o = o := by
  cases o with
  | cells c e rw => simp only [renO, ren_fixL c h]
  | map es c => exact absurd rfl (hm es c)
  | res x => rfl
/-- A kind of structure that lies open: what stands for it at a block, the blocks that may turn, all its blocks. -/
structure Opn (α : Type) where
  at_ : Tr AObj → Nat → α → Prop
  mods : Nat → α → List (Nat × Option AObj)
  pts : Nat → α → Nat → Prop
  uniq : ∀ {t B x y}, at_ t B x → at_ t B y → y = x
  mods_at : ∀ {t B x}, at_ t B x → ∀ k o, (k, o) ∈ mods B x → ∃ ob, o = some ob ∧ t.at_ k = some ob ∧ (∀ es c, ob ≠ .map es c) ∧ ∀ Y, occA Y ob = true → pts B x Y
  key_pts : ∀ {t B x}, at_ t B x → ∀ X, KeyIn X (mods B x) → pts B x X
  live : ∀ {t B x} {Lv : Nat → Prop}, at_ t B x → Lv B → (∀ X c e rw, Lv X → t.at_ X = some (.cells c e rw) → ∀ Y, occL Y c = true → Lv Y) → ∀ X, pts B x X → Lv X
  frame : ∀ {t t' B x}, at_ t B x → (∀ X, pts B x X → t'.at_ X = t.at_ X) → at_ t' B x
  ok : α → Prop
  sh : α → α → Prop
  sh_refl : ∀ x, sh x x
  sh_pts : ∀ {B x x'}, sh x x' → ∀ X, pts B x' X ↔ pts B x X
  sh_keys : ∀ {B x x'}, sh x x' → ∀ X, KeyIn X (mods B x') ↔ KeyIn X (mods B x)
  lay : ∀ {t B x x'}, at_ t B x → ok x' → sh x x' → at_ (setL t (mods B x')) B x'
/-- A method: what it answers, what the structure is behind it, new blocks. -/
abbrev OMeth (α : Type) := Hp → Nat → α → List Value → Option (Value × α × List AObj)
noncomputable def cOpn {α : Type} (O : Opn α) (f : OMeth α) : CallS := fun args s => match args with
  | .pointer (some ⟨B, 0, none⟩) :: ar => (match theOne (O.at_ s.t B) with
    | some x => (match f s B x ar with
      | some (v, x', obs) => some (v, ⟨news (setL s.t (O.mods B x')) s.next obs, s.next + obs.length⟩)
      | none => none)
    | none => none)
  | _ => none
theorem cOpn_eq {α : Type} {O : Opn α} {f : OMeth α} {s : Hp} {B : Nat} {x x' : α} {ar : List Value} {v : Value} {obs : List AObj} (h : O.at_ s.t B x) (hf : f s B x ar = some (v, x', obs)) :
    cOpn O f (.pointer (some ⟨B, 0, none⟩) :: ar) s = some (v, ⟨news (setL s.t (O.mods B x')) s.next obs, s.next + obs.length⟩) := by
  unfold cOpn
  simp only [theOne_of h fun b hb => O.uniq h hb, hf]
/-- What stands behind a call of a method. -/
structure Aft {α : Type} (O : Opn α) (s : Hp) (B : Nat) (x x' : α) (obs : List AObj) (h : Hp) : Prop where
  next : h.next = s.next + obs.length
  at_ : O.at_ h.t B x'
  obs : ∀ j ob, obs[j]? = some ob → h.t.at_ (s.next + j) = some ob
  rest : ∀ X, X < s.next → ¬ KeyIn X (O.mods B x) → h.t.at_ X = s.t.at_ X
/-- What stands behind a body of a method. -/
structure EndsO {α : Type} (O : Opn α) (s : Hp) (B : Nat) (x x' : α) (ex : List Nat) (obs : List AObj) (h : Hp) (v u : Value) : Prop where
  at_ : O.at_ h.t B x'
  nd : ex.Nodup
  gt : ∀ k ∈ ex, s.next ≤ k
  len : ex.length = obs.length
  rest : ∀ X, X < s.next → ¬ KeyIn X (O.mods B x) → h.t.at_ X = s.t.at_ X
  obs : ∀ j ob, obs[j]? = some ob → h.t.at_ (kap ex h.next j) = some (renO (inv_ s.next ex h.next) ob)
  val : Wk u (ren (inv_ s.next ex h.next) v)
section
variable {P : Program} {G : Nat} {W0 : Begin} {ν : Toks} {L : Frm} {α : Type}
theorem opn_okG (hri : W0.ri = fun x _ w b F => RI P ν L x w b F) {O : Opn α} {g : FuncId} {f : OMeth α}
    (hb : ∀ s B x ar v x' obs Lv, f s B x ar = some (v, x', obs) → O.at_ s.t B x → Lives s (.pointer (some ⟨B, 0, none⟩) :: ar) Lv → (∀ X, O.pts B x X → X < s.next) → B < s.next → G ≤ s.next → O.sh x x' ∧ ∃ m, CallV P G W0 ν g (.pointer (some ⟨B, 0, none⟩) :: ar) ⟨s.t, s.next + m⟩ fun u h1 => ∃ ex, EndsO O s B x x' ex obs h1 v u) :
    SpecOK P G W0 ν g (cOpn O f) := by
  refine fun_okG hri fun args s v h' e Lv hlv hG => ?_
  unfold cOpn at e
  split at e <;> try (cases e; done)
  rename_i B ar
  split at e <;> try (cases e; done)
  rename_i x hx
  split at e <;> try (cases e; done)
  rename_i v1 x' obs hfx
  simp only [Option.some.injEq, Prod.mk.injEq] at e
  obtain ⟨rfl, rfl⟩ := e
  have hat := theOne_spec hx
  have lB := hlv.arg B (by simp [occL, occ])
  have lp : ∀ X, O.pts B x X → X < s.next := fun X hX => hlv.lt _ (O.live hat lB (fun X c e rw h1 h2 Y h3 => hlv.cell X c e rw h1 h2 Y h3) X hX)
  obtain ⟨hsm, m, hrun⟩ := hb s B x ar v1 x' obs Lv hfx hat hlv lp (hlv.lt _ lB) hG
  refine ⟨O.mods B x', obs, rfl, m, ?_⟩
  intro φ w args' ha hR hG'
  refine (hrun φ w args' ha hR hG').mono ?_
  rintro e w' ⟨u, h1, ⟨ex, E⟩, hp⟩
  refine ⟨u, h1, ⟨ex, E.nd, E.gt, E.len, fun k o hk => ?_, fun k o hk => ?_, fun X hX hX' => E.rest X hX (fun hi => hX' ((O.sh_keys hsm X).2 hi)), E.obs, E.val⟩, hp⟩
  · exact lp _ (O.key_pts hat _ ((O.sh_keys hsm k).1 (key_low hk)))
  · obtain ⟨ob, e1, e2, e3, e4⟩ := O.mods_at E.at_ k _ hk
    cases e1
    rw [e2, renO_fix e3 fun X hX => inv_lt (lp X ((O.sh_pts hsm X).1 (e4 X hX)))]
theorem opn_ok {call : CallB} (hri : W0.ri = fun x _ w b F => RI P ν L x w b F) (hf : P.follows .mixedOrders = true) (hcall : CallOK P G W0 ν call) {O : Opn α} {g : FuncId} {f : OMeth α}
    (hb : ∀ s B x ar v x' obs Lv, f s B x ar = some (v, x', obs) → O.at_ s.t B x → Lives s (.pointer (some ⟨B, 0, none⟩) :: ar) Lv → (∀ X, O.pts B x X → X < s.next) → B < s.next → G ≤ s.next → O.sh x x' ∧ ∃ m, wpF P G call g (.pointer (some ⟨B, 0, none⟩) :: ar) ⟨s.t, s.next + m⟩ fun u h1 => ∃ ex, EndsO O s B x x' ex obs h1 v u) :
    SpecOK P G W0 ν g (cOpn O f) := opn_okG hri fun s B x ar v x' obs Lv e hat hl hp hB hG => by
  obtain ⟨h1, m, h2⟩ := hb s B x ar v x' obs Lv e hat hl hp hB hG
  exact ⟨h1, m, wpF_sound hf hcall h2⟩
/-- Behind a body that only reads. -/
theorem endsO_read {O : Opn α} {s : Hp} {B : Nat} {x : α} {h : Hp} {v u : Value} (hat : O.at_ s.t B x) (lp : ∀ X, O.pts B x X → X < s.next) (hv : u = v) (ho : ∀ X, occ X v = true → X < s.next) (hold : ∀ X, X < s.next → h.t.at_ X = s.t.at_ X) : ∃ ex, EndsO O s B x x ex [] h v u :=
  ⟨[], O.frame hat fun X hX => hold X (lp X hX), List.nodup_nil, by simp, rfl, fun X hX _ => hold X hX, fun j ob h => by simp at h, by
    subst hv
    rw [ren_fix _ fun X hX => inv_lt (ho X hX)]
    exact Wk.of rfl⟩
/-- Behind a body that turns the structure, and makes nothing that stays. -/
theorem endsO_turn {O : Opn α} {s : Hp} {B : Nat} {x x' : α} {h : Hp} {v u : Value} (hat : O.at_ h.t B x') (hv : u = v) (ho : ∀ X, occ X v = true → X < s.next) (hold : ∀ X, X < s.next → ¬ KeyIn X (O.mods B x) → h.t.at_ X = s.t.at_ X) : ∃ ex, EndsO O s B x x' ex [] h v u :=
  ⟨[], hat, List.nodup_nil, by simp, rfl, hold, fun j ob h => by simp at h, by
    subst hv
    rw [ren_fix _ fun X hX => inv_lt (ho X hX)]
    exact Wk.of rfl⟩
/-- Behind a body that makes one block that stays: its number in the run, and what it holds. -/
theorem endsO_one {O : Opn α} {s : Hp} {B k : Nat} {x x' : α} {h : Hp} {v u : Value} {ob : AObj} (hat : O.at_ h.t B x') (hk : s.next ≤ k) (hv : u = ren (inv_ s.next [k] h.next) v) (hob : h.t.at_ k = some (renO (inv_ s.next [k] h.next) ob)) (hold : ∀ X, X < s.next → ¬ KeyIn X (O.mods B x) → h.t.at_ X = s.t.at_ X) : ∃ ex, EndsO O s B x x' ex [ob] h v u :=
  ⟨[k], hat, by simp, by simpa using hk, rfl, hold, fun j o hj => by
    rcases j with _ | j
    · simp only [List.getElem?_cons_zero, Option.some.injEq] at hj
      subst hj
      exact hob
    · simp at hj, Wk.of hv⟩
/-- What is told of a call, where it is told. -/
theorem callV_of {g : FuncId} {c : CallS} {args : List Value} {s h' : Hp} {v : Value} {K : Value → Hp → Prop} (hs : SpecOK P G W0 ν g c) (e : c args s = some (v, h')) (hk : K v h') : CallV P G W0 ν g args s K :=
  fun φ w args' ha hR hG => (hs args s v h' e φ w args' ha hR hG).mono fun en w' hp => ⟨v, h', hk, hp⟩
/-- A call of a method, in a run. -/
theorem cOpn_call {O : Opn α} {f : OMeth α} {s : Hp} {B : Nat} {x x' : α} {ar : List Value} {v : Value} {obs : List AObj} (h : O.at_ s.t B x) (hf : f s B x ar = some (v, x', obs)) (hsm : O.sh x x') (hok : O.ok x') (hp : ∀ X, O.pts B x X → X < s.next) :
    ∃ h', cOpn O f (.pointer (some ⟨B, 0, none⟩) :: ar) s = some (v, h') ∧ Aft O s B x x' obs h' := by
  refine ⟨_, cOpn_eq h hf, rfl, ?_, fun j ob hj => news_in _ _ _ _ _ hj, fun X hX hk => ?_⟩
  · refine O.frame (O.lay h hok hsm) fun X hX => ?_
    exact news_out _ _ _ _ (.inl (hp X ((O.sh_pts hsm X).1 hX)))
  · show (news _ _ _).at_ X = _
    rw [news_out _ _ _ _ (.inl hX), setL_out _ _ _ fun hi => hk ((O.sh_keys hsm X).1 hi)]
theorem onSome_opn {O : Opn α} {f : OMeth α} {s : Hp} {B : Nat} {x x' : α} {ar : List Value} {v : Value} {obs : List AObj} (h : O.at_ s.t B x) (hf : f s B x ar = some (v, x', obs)) (hsm : O.sh x x') (hok : O.ok x') (hp : ∀ X, O.pts B x X → X < s.next)
    {K : Value × Hp → Prop} (hK : ∀ h', Aft O s B x x' obs h' → K (v, h')) : onSome (cOpn O f (.pointer (some ⟨B, 0, none⟩) :: ar) s) K := by
  obtain ⟨h', e, ha⟩ := cOpn_call h hf hsm hok hp
  exact ⟨_, e, hK h' ha⟩
/-- A call of a method that only reads, in a run. -/
theorem onSome_read {O : Opn α} {f : OMeth α} {s : Hp} {B : Nat} {x : α} {ar : List Value} {v : Value} (h : O.at_ s.t B x) (hf : f s B x ar = some (v, x, [])) {K : Value × Hp → Prop} (hK : ∀ h', h'.next = s.next → (∀ X, h'.t.at_ X = s.t.at_ X) → K (v, h')) : onSome (cOpn O f (.pointer (some ⟨B, 0, none⟩) :: ar) s) K := by
  refine ⟨_, cOpn_eq h hf, hK _ rfl fun X => ?_⟩
  show (setL s.t (O.mods B x)).at_ X = _
  by_cases hk : KeyIn X (O.mods B x)
  · obtain ⟨o, h1, h2⟩ := setL_in (O.mods B x) s.t X hk
    obtain ⟨ob, e1, e2, _⟩ := O.mods_at h X o h1
    rw [h2, e1, e2]
  · exact setL_out _ _ _ hk
/-- A call of a whole structure's method that only reads, in a run. -/
theorem onSome_mread {f : Meth} {s : Hp} {B : Nat} {x : Rs} {ar : List Value} {v : Value} (h : s.t.at_ B = some (.res x)) (hf : f s x ar = some (v, x, [])) {K : Value × Hp → Prop} (hK : ∀ h', h'.next = s.next → (∀ X, h'.t.at_ X = s.t.at_ X) → K (v, h')) : onSome (cMeth f (.pointer (some ⟨B, 0, none⟩) :: ar) s) K := by
  refine ⟨(v, ⟨s.t.set B (some (.res x)), s.next⟩), ?_, hK _ rfl fun X => ?_⟩
  · simp only [cMeth, h, hf]
    rfl
  · show (s.t.set B _).at_ X = _
    by_cases e : B = X
    · subst e; rw [Tr.at_set_same, h]
    · rw [Tr.at_set_ne _ _ e]
/-- A call of a whole structure's method that turns it, in a run. -/
theorem onSome_mturn {f : Meth} {s : Hp} {B : Nat} {x x' : Rs} {ar : List Value} {v : Value} (h : s.t.at_ B = some (.res x)) (hf : f s x ar = some (v, x', [])) {K : Value × Hp → Prop} (hK : K (v, ⟨s.t.set B (some (.res x')), s.next⟩)) : onSome (cMeth f (.pointer (some ⟨B, 0, none⟩) :: ar) s) K := by
  refine ⟨_, ?_, hK⟩
  simp only [cMeth, h, hf]
  rfl
/-- A structure's blocks laid anew. -/
theorem setL_mods {O : Opn α} {B : Nat} {x' : α} {t : Tr AObj} (hm : ∀ k o, (k, o) ∈ O.mods B x' → ∃ ob, o = some ob ∧ ∀ o', (k, o') ∈ O.mods B x' → o' = o) {k : Nat} {o : Option AObj} (h : (k, o) ∈ O.mods B x') : (setL t (O.mods B x')).at_ k = o := by
  obtain ⟨o1, h1, h2⟩ := setL_in (O.mods B x') t k (key_low h)
  obtain ⟨_, _, h3⟩ := hm k o h
  rw [h2, h3 _ h1]
end
end Go.Sym
end
