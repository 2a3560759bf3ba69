/-
  The document's word of which plans may be, over the tree: PlanMay.
-/
import Derived.Test.YtmcigeebeoobdaaGreatDoorPz14
set_option linter.unusedSimpArgs false
set_option linter.unusedVariables false
namespace Go.Proofs.YtmcigeebeoobdaaGreatDoor
open Go Go.RowKit Go.Viv Go.Eva Go.Sym
def cPlanMay : Sym.CallS := fun args s => match args with
  | [.int .i64 n, v] => match (rowB s.t 2 v).bind colsL with
    | some l => if l.length ≤ 1000000 then some (.int .i64 (planE n l), s) else none
    | none => none
  | _ => none
theorem two_at {cs : List Value} {o i : Nat} {x y : Value} (h : (cs.drop (o + i * 2)).take 2 = [x, y]) : cs[o + i * 2]? = some x ∧ cs[o + i * 2 + 1]? = some y := by
  have h0 : ((cs.drop (o + i * 2)).take 2)[0]? = [x, y][0]? := congrArg (·[0]?) h
  have h1 : ((cs.drop (o + i * 2)).take 2)[1]? = [x, y][1]? := congrArg (·[1]?) h
  rw [List.getElem?_take_of_lt (by omega), List.getElem?_drop] at h0 h1
  exact ⟨h0, h1⟩
section
variable {G : Nat} {ν : Toks} {W : World} {may : Nat → Prop} {call : CallB}
set_option maxRecDepth 8000 in
set_option maxHeartbeats 1000000 in
theorem planMay_ok (hc : CallOK Tryz.prog G (LBegin Tryz.prog ν LL W may) ν call) : SpecOK Tryz.prog G (LBegin Tryz.prog ν LL W may) ν 20 cPlanMay := by
  refine fun_ok rfl (by kernel_rfl) hc fun args s v h' e Lv hlv hG => ?_
  unfold cPlanMay at e
  split at e <;> try (cases e; done)
  rename_i n v0
  split at e <;> try (cases e; done)
  rename_i l hl
  split at e <;> try (cases e; done)
  rename_i hmil
  simp only [Option.some.injEq, Prod.mk.injEq] at e
  obtain ⟨rfl, rfl⟩ := e
  refine ⟨[], [], by cases s; rfl, 0, ?_⟩
  obtain ⟨vs, hv, hvs⟩ := Option.bind_eq_some_iff.1 hl
  obtain rfl := colsL_eq hvs
  have ltv : ∀ X, occ X v0 = true → X < s.next := fun X h => hlv.lt _ (hlv.arg X (by simp [occL, h]))
  obtain ⟨a, m, c, rfl, hlen, hat⟩ := Go.Sym.row_at hv
  rw [colsC_len] at hlen
  obtain rfl : m = l.length := by omega
  have hb2 := fun (H : Tr AObj) (ox oy : Operand) => b_eqlB (P := Tryz.prog) (H := H) (t := 4) (ox := ox) (oy := oy) und4
  by_cases h16 : 16 < l.length
  · rw [planE_many h16]
    refine ⟨Tryz.f20, _, Tryz.func20, rfl, by simp [Tryz.f20], ?_⟩; rw [Tryz.ntmps20]
    repeat' (first | simp (disch := omega) only [go_sem, reduceIte, sliceB, Tryz.results20] | (with_reducible refine w_chain0 ?_ ?_; focus (decide +kernel)) | (with_reducible refine condK_of _ _ ?_ ?_ <;> (intro hb; try simp only [decide_eq_true_eq, decide_eq_false_iff_not] at hb)) | (with_reducible refine gdK_of_f _ _ _ _ _ ?_ ?_ <;> (intro hb; try simp only [decide_eq_true_eq, decide_eq_false_iff_not] at hb)) | (with_reducible refine gdK_of_t _ _ _ _ _ ?_ ?_ <;> (intro hb; try simp only [decide_eq_true_eq, decide_eq_false_iff_not] at hb)) | (with_reducible refine gK_of_f _ _ _ ?_ ?_ <;> (intro hb; try simp only [decide_eq_true_eq, decide_eq_false_iff_not] at hb)) | (with_reducible refine gK_of_t _ _ _ ?_ ?_ <;> (intro hb; try simp only [decide_eq_true_eq, decide_eq_false_iff_not] at hb)))
    all_goals (refine ends_mk [] ?_ rfl ?_ ?_ ?_ ?_ <;> (try (intro X hX1 hX2; simp only [KeyIn, or_false, not_or, not_false_eq_true] at hX2)) <;> (try simp (disch := omega) only [go_sem, reduceIte, sliceB, AllMods, DistG, KeyIn, setL, news, not_false_eq_true, or_false, not_or, ne_eq, AllAt, AllObs, Dist, NotIn, kap_zero, kap_succ, kap_nil, inv_lt, inv_self, inv_add, ren_int, intsC_ren, and_true, and_self]) <;> (try omega))
  have hll : l.length ≤ 16 := by omega
  refine ⟨Tryz.f20, _, Tryz.func20, rfl, by simp [Tryz.f20], ?_⟩; rw [Tryz.ntmps20]
  repeat' (first | simp (disch := omega) only [go_sem, reduceIte, sliceB] | (with_reducible refine w_chain0 ?_ ?_; focus (decide +kernel)) | (with_reducible refine condK_of _ _ ?_ ?_ <;> (intro hb; try simp only [decide_eq_true_eq, decide_eq_false_iff_not] at hb)) | (with_reducible refine gdK_of_f _ _ _ _ _ ?_ ?_ <;> (intro hb; try simp only [decide_eq_true_eq, decide_eq_false_iff_not] at hb)) | (with_reducible refine gdK_of_t _ _ _ _ _ ?_ ?_ <;> (intro hb; try simp only [decide_eq_true_eq, decide_eq_false_iff_not] at hb)) | (with_reducible refine gK_of_f _ _ _ ?_ ?_ <;> (intro hb; try simp only [decide_eq_true_eq, decide_eq_false_iff_not] at hb)) | (with_reducible refine gK_of_t _ _ _ ?_ ?_ <;> (intro hb; try simp only [decide_eq_true_eq, decide_eq_false_iff_not] at hb)))
  refine w_loop (fun mm T1 h => ∃ (j : Nat), j ≤ l.length ∧ mm = l.length - j ∧ Eva.look T1 0 = .int .i64 n ∧ Eva.look T1 1 = .slice a l.length c ∧ Eva.look T1 6 = .int .i64 (j : Int) ∧ Eva.look T1 5 = .bool ((l.take j).any askB) ∧ colsE n [] (l.take j) = 0 ∧ s.next ≤ h.next ∧ ∀ X, X < s.next → h.t.at_ X = s.t.at_ X) l.length ?_ ?_
  · refine ⟨0, by omega, by omega, ?_, ?_, ?_, ?_, rfl, Nat.le_refl _, fun _ _ => rfl⟩ <;> (simp (disch := omega) only [go_sem, reduceIte, sliceB]) <;> rfl
  · rintro mm T1 h ⟨j, hj, hmm, t0, t1, t6, t5, hok, hnx, hold⟩
    by_cases hlt : j < l.length
    · obtain ⟨x, hx⟩ : ∃ x, l[j]? = some x := ⟨_, List.getElem?_eq_getElem hlt⟩
      obtain ⟨B, o, cs, ty, rw_, rfl, hB, g1, g2⟩ := hat j hlt
      rw [colsC_at hx] at g2
      have lB := ltv B (by simp [occ])
      have oB := (hold B lB).trans hB
      have hx2 := (List.getElem?_eq_some_iff.1 hx).2
      have hstop : colE n x (l.take j) ≠ 0 → planE n l = colE n x (l.take j) := fun h0 => by
        have e1 := colsE_at hlt hok (by rw [hx2]; exact h0)
        rw [planE_fault (by omega) (by rw [e1, hx2]; exact h0), e1, hx2]
      have hstep : colE n x (l.take j) = 0 → colsE n [] (l.take (j + 1)) = 0 := fun h0 => by rw [colsE_take hlt hok, hx2]; exact h0
      have htk : (l.take (j + 1)).any askB = ((l.take j).any askB || askB x) := by
        rw [List.take_add_one, hx]
        simp [List.any_append]
      by_cases k1 : x.k < 1
      · have e1 : colE n x (l.take j) = 1 := colE_1' (.inl k1)
        rw [hstop (by rw [e1]; decide), e1]
        repeat' (first | simp (disch := omega) only [go_sem, reduceIte, sliceB, t0, t1, t6, t5, oB, g1, g2, undef, Int.toNat_natCast, Tryz.results20] | (with_reducible refine w_chain0 ?_ ?_; focus (decide +kernel)) | (with_reducible refine condK_of _ _ ?_ ?_ <;> (intro hb; try simp only [decide_eq_true_eq, decide_eq_false_iff_not] at hb)) | (with_reducible refine gdK_of_f _ _ _ _ _ ?_ ?_ <;> (intro hb; try simp only [decide_eq_true_eq, decide_eq_false_iff_not] at hb)) | (with_reducible refine gdK_of_t _ _ _ _ _ ?_ ?_ <;> (intro hb; try simp only [decide_eq_true_eq, decide_eq_false_iff_not] at hb)) | (with_reducible refine gK_of_f _ _ _ ?_ ?_ <;> (intro hb; try simp only [decide_eq_true_eq, decide_eq_false_iff_not] at hb)) | (with_reducible refine gK_of_t _ _ _ ?_ ?_ <;> (intro hb; try simp only [decide_eq_true_eq, decide_eq_false_iff_not] at hb)))
        all_goals (refine ends_mk [] ?_ rfl ?_ ?_ ?_ ?_ <;> (try (intro X hX1 hX2; simp only [KeyIn, or_false, not_or, not_false_eq_true] at hX2)) <;> (try simp (disch := omega) only [go_sem, reduceIte, sliceB, AllMods, DistG, KeyIn, setL, news, not_false_eq_true, or_false, not_or, ne_eq, AllAt, AllObs, Dist, NotIn, kap_zero, kap_succ, kap_nil, inv_lt, inv_self, inv_add, ren_int, intsC_ren, and_true, and_self]) <;> (try omega))
        exact hold X hX1
      by_cases k5 : 5 < x.k
      · have e1 : colE n x (l.take j) = 1 := colE_1' (.inr (.inl k5))
        rw [hstop (by rw [e1]; decide), e1]
        repeat' (first | simp (disch := omega) only [go_sem, reduceIte, sliceB, t0, t1, t6, t5, oB, g1, g2, undef, Int.toNat_natCast, Tryz.results20] | (with_reducible refine w_chain0 ?_ ?_; focus (decide +kernel)) | (with_reducible refine condK_of _ _ ?_ ?_ <;> (intro hb; try simp only [decide_eq_true_eq, decide_eq_false_iff_not] at hb)) | (with_reducible refine gdK_of_f _ _ _ _ _ ?_ ?_ <;> (intro hb; try simp only [decide_eq_true_eq, decide_eq_false_iff_not] at hb)) | (with_reducible refine gdK_of_t _ _ _ _ _ ?_ ?_ <;> (intro hb; try simp only [decide_eq_true_eq, decide_eq_false_iff_not] at hb)) | (with_reducible refine gK_of_f _ _ _ ?_ ?_ <;> (intro hb; try simp only [decide_eq_true_eq, decide_eq_false_iff_not] at hb)) | (with_reducible refine gK_of_t _ _ _ ?_ ?_ <;> (intro hb; try simp only [decide_eq_true_eq, decide_eq_false_iff_not] at hb)))
        all_goals (refine ends_mk [] ?_ rfl ?_ ?_ ?_ ?_ <;> (try (intro X hX1 hX2; simp only [KeyIn, or_false, not_or, not_false_eq_true] at hX2)) <;> (try simp (disch := omega) only [go_sem, reduceIte, sliceB, AllMods, DistG, KeyIn, setL, news, not_false_eq_true, or_false, not_or, ne_eq, AllAt, AllObs, Dist, NotIn, kap_zero, kap_succ, kap_nil, inv_lt, inv_self, inv_add, ren_int, intsC_ren, and_true, and_self]) <;> (try omega))
        exact hold X hX1
      by_cases ke : x.k = 5 ∧ x.c ≠ 0
      · have e1 : colE n x (l.take j) = 1 := colE_1' (.inr (.inr ke))
        obtain ⟨ke1, ke2⟩ := ke
        rw [hstop (by rw [e1]; decide), e1]
        rw [ke1] at g2
        repeat' (first | simp (disch := omega) only [go_sem, reduceIte, sliceB, t0, t1, t6, t5, oB, g1, g2, ke2, undef, Int.toNat_natCast, Tryz.results20] | (with_reducible refine w_chain0 ?_ ?_; focus (decide +kernel)) | (with_reducible refine condK_of _ _ ?_ ?_ <;> (intro hb; try simp only [decide_eq_true_eq, decide_eq_false_iff_not] at hb)) | (with_reducible refine gdK_of_f _ _ _ _ _ ?_ ?_ <;> (intro hb; try simp only [decide_eq_true_eq, decide_eq_false_iff_not] at hb)) | (with_reducible refine gdK_of_t _ _ _ _ _ ?_ ?_ <;> (intro hb; try simp only [decide_eq_true_eq, decide_eq_false_iff_not] at hb)) | (with_reducible refine gK_of_f _ _ _ ?_ ?_ <;> (intro hb; try simp only [decide_eq_true_eq, decide_eq_false_iff_not] at hb)) | (with_reducible refine gK_of_t _ _ _ ?_ ?_ <;> (intro hb; try simp only [decide_eq_true_eq, decide_eq_false_iff_not] at hb)))
        all_goals (refine ends_mk [] ?_ rfl ?_ ?_ ?_ ?_ <;> (try (intro X hX1 hX2; simp only [KeyIn, or_false, not_or, not_false_eq_true] at hX2)) <;> (try simp (disch := omega) only [go_sem, reduceIte, sliceB, AllMods, DistG, KeyIn, setL, news, not_false_eq_true, or_false, not_or, ne_eq, AllAt, AllObs, Dist, NotIn, kap_zero, kap_succ, kap_nil, inv_lt, inv_self, inv_add, ren_int, intsC_ren, and_true, and_self]) <;> (try omega))
        exact hold X hX1
      by_cases k4 : x.k ≠ 5 ∧ (x.c < 0 ∨ n ≤ x.c)
      · have e1 : colE n x (l.take j) = 11 := colE_11' (by omega) (by omega) k4.2
        obtain ⟨k41, k42⟩ := k4
        rw [hstop (by rw [e1]; decide), e1]
        by_cases hc0 : x.c < 0
        · repeat' (first | simp (disch := omega) only [go_sem, reduceIte, sliceB, t0, t1, t6, t5, oB, g1, g2, k41, undef, Int.toNat_natCast, Tryz.results20] | (with_reducible refine w_chain0 ?_ ?_; focus (decide +kernel)) | (with_reducible refine condK_of _ _ ?_ ?_ <;> (intro hb; try simp only [decide_eq_true_eq, decide_eq_false_iff_not] at hb)) | (with_reducible refine gdK_of_f _ _ _ _ _ ?_ ?_ <;> (intro hb; try simp only [decide_eq_true_eq, decide_eq_false_iff_not] at hb)) | (with_reducible refine gdK_of_t _ _ _ _ _ ?_ ?_ <;> (intro hb; try simp only [decide_eq_true_eq, decide_eq_false_iff_not] at hb)) | (with_reducible refine gK_of_f _ _ _ ?_ ?_ <;> (intro hb; try simp only [decide_eq_true_eq, decide_eq_false_iff_not] at hb)) | (with_reducible refine gK_of_t _ _ _ ?_ ?_ <;> (intro hb; try simp only [decide_eq_true_eq, decide_eq_false_iff_not] at hb)))
          all_goals (refine ends_mk [] ?_ rfl ?_ ?_ ?_ ?_ <;> (try (intro X hX1 hX2; simp only [KeyIn, or_false, not_or, not_false_eq_true] at hX2)) <;> (try simp (disch := omega) only [go_sem, reduceIte, sliceB, AllMods, DistG, KeyIn, setL, news, not_false_eq_true, or_false, not_or, ne_eq, AllAt, AllObs, Dist, NotIn, kap_zero, kap_succ, kap_nil, inv_lt, inv_self, inv_add, ren_int, intsC_ren, and_true, and_self]) <;> (try omega))
          exact hold X hX1
        · repeat' (first | simp (disch := omega) only [go_sem, reduceIte, sliceB, t0, t1, t6, t5, oB, g1, g2, k41, undef, Int.toNat_natCast, Tryz.results20] | (with_reducible refine w_chain0 ?_ ?_; focus (decide +kernel)) | (with_reducible refine condK_of _ _ ?_ ?_ <;> (intro hb; try simp only [decide_eq_true_eq, decide_eq_false_iff_not] at hb)) | (with_reducible refine gdK_of_f _ _ _ _ _ ?_ ?_ <;> (intro hb; try simp only [decide_eq_true_eq, decide_eq_false_iff_not] at hb)) | (with_reducible refine gdK_of_t _ _ _ _ _ ?_ ?_ <;> (intro hb; try simp only [decide_eq_true_eq, decide_eq_false_iff_not] at hb)) | (with_reducible refine gK_of_f _ _ _ ?_ ?_ <;> (intro hb; try simp only [decide_eq_true_eq, decide_eq_false_iff_not] at hb)) | (with_reducible refine gK_of_t _ _ _ ?_ ?_ <;> (intro hb; try simp only [decide_eq_true_eq, decide_eq_false_iff_not] at hb)))
          all_goals (refine ends_mk [] ?_ rfl ?_ ?_ ?_ ?_ <;> (try (intro X hX1 hX2; simp only [KeyIn, or_false, not_or, not_false_eq_true] at hX2)) <;> (try simp (disch := omega) only [go_sem, reduceIte, sliceB, AllMods, DistG, KeyIn, setL, news, not_false_eq_true, or_false, not_or, ne_eq, AllAt, AllObs, Dist, NotIn, kap_zero, kap_succ, kap_nil, inv_lt, inv_self, inv_add, ren_int, intsC_ren, and_true, and_self]) <;> (try omega))
          exact hold X hX1
      have hce : colE n x (l.take j) = if (l.take j).any (fun y => twiceB y x) then 15 else 0 := by
        unfold colE
        rw [if_neg (by omega), if_neg (by omega)]
      have hfacts : (x.k = 5 ∧ x.c = 0) ∨ (x.k ≠ 5 ∧ 0 ≤ x.c ∧ x.c < n) := by omega
      rcases hfacts with ⟨ke1, ke2⟩ | ⟨ke1, ke2, ke3⟩
      · repeat' (first | simp (disch := omega) only [go_sem, reduceIte, sliceB, t0, t1, t6, t5, oB, g1, g2, ke1, ke2, undef, Int.toNat_natCast] | (with_reducible refine w_chain0 ?_ ?_; focus (decide +kernel)) | (with_reducible refine condK_of _ _ ?_ ?_ <;> (intro hb; try simp only [decide_eq_true_eq, decide_eq_false_iff_not] at hb)) | (with_reducible refine gdK_of_f _ _ _ _ _ ?_ ?_ <;> (intro hb; try simp only [decide_eq_true_eq, decide_eq_false_iff_not] at hb)) | (with_reducible refine gdK_of_t _ _ _ _ _ ?_ ?_ <;> (intro hb; try simp only [decide_eq_true_eq, decide_eq_false_iff_not] at hb)) | (with_reducible refine gK_of_f _ _ _ ?_ ?_ <;> (intro hb; try simp only [decide_eq_true_eq, decide_eq_false_iff_not] at hb)) | (with_reducible refine gK_of_t _ _ _ ?_ ?_ <;> (intro hb; try simp only [decide_eq_true_eq, decide_eq_false_iff_not] at hb)))
        refine w_loop (fun mm2 T2 h2 => ∃ (k : Nat), k ≤ j ∧ mm2 = j - k ∧ Eva.look T2 0 = .int .i64 n ∧ Eva.look T2 1 = .slice (some ⟨B, o, none⟩) l.length c ∧ Eva.look T2 6 = .int .i64 (j : Int) ∧ Eva.look T2 5 = .bool ((l.take j).any askB) ∧ Eva.look T2 7 = .pointer (some ⟨h.next, 0, none⟩) ∧ Eva.look T2 8 = .int .i64 (k : Int) ∧ (l.take k).any (fun y => twiceB y x) = false ∧ h2.t.at_ h.next = some (.cells [.int .i64 x.k, .int .i64 x.c] 37 true) ∧ h.next + 1 ≤ h2.next ∧ ∀ X, X < s.next → h2.t.at_ X = s.t.at_ X) j ?_ ?_
        · refine ⟨0, by omega, by omega, ?_, ?_, ?_, ?_, ?_, ?_, rfl, ?_, ?_, fun X hX => ?_⟩
          all_goals first
            | (simp (disch := omega) only [go_sem, reduceIte, sliceB, t0, t1, t6, t5, ke1, ke2]; done)
            | (simp (disch := omega) only [go_sem, reduceIte, sliceB, t0, t1, t6, t5, ke1, ke2]; rfl)
            | (simp (disch := omega) only [go_sem, reduceIte, sliceB]; exact hold X hX)
            | (simp (disch := omega) only [go_sem, reduceIte, sliceB]; omega)
        · rintro mm2 T2 h2 ⟨k, hk, hmm2, u0, u1, u6, u5, u7, u8, hno, hD, hnx2, hold2⟩
          have oB2 := (hold2 B lB).trans hB
          by_cases hltk : k < j
          · obtain ⟨y, hy⟩ : ∃ y, l[k]? = some y := ⟨_, List.getElem?_eq_getElem (by omega)⟩
            obtain ⟨B', o', cs', ty', rw', eB', hB', q1, q2⟩ := hat k (by omega)
            cases eB'
            rw [hB] at hB'
            cases hB'
            rw [colsC_at hy] at q2
            have hyk : cs[o + k * 2]? = some (.int .i64 y.k) ∧ cs[o + k * 2 + 1]? = some (.int .i64 y.c) := two_at q2
            obtain ⟨y1, y2⟩ := hyk
            have htk2 : (l.take (k + 1)).any (fun y => twiceB y x) = twiceB y x := by
              rw [List.take_add_one, hy, List.any_append, hno]
              simp
            by_cases hs : y.k = 5
            · by_cases hcc : y.c = x.c
              · have htw : twiceB y x = true := by
                  unfold twiceB
                  rw [hcc]
                  simp [hs, ke1]
                have hany : (l.take j).any (fun y => twiceB y x) = true := List.any_eq_true.2 ⟨y, List.mem_of_getElem? (by rw [List.getElem?_take_of_lt hltk]; exact hy), htw⟩
                rw [hany] at hce
                simp only [if_true] at hce
                rw [hstop (by rw [hce]; decide), hce]
                repeat' (first | simp (disch := omega) only [go_sem, reduceIte, sliceB, u0, u1, u6, u5, u7, u8, hD, oB2, y1, y2, hb2, hcc, Int.toNat_natCast, Tryz.results20] | (with_reducible refine w_chain0 ?_ ?_; focus (decide +kernel)) | (with_reducible refine condK_of _ _ ?_ ?_ <;> (intro hb; try simp only [decide_eq_true_eq, decide_eq_false_iff_not] at hb)) | (with_reducible refine gdK_of_f _ _ _ _ _ ?_ ?_ <;> (intro hb; try simp only [decide_eq_true_eq, decide_eq_false_iff_not] at hb)) | (with_reducible refine gdK_of_t _ _ _ _ _ ?_ ?_ <;> (intro hb; try simp only [decide_eq_true_eq, decide_eq_false_iff_not] at hb)) | (with_reducible refine gK_of_f _ _ _ ?_ ?_ <;> (intro hb; try simp only [decide_eq_true_eq, decide_eq_false_iff_not] at hb)) | (with_reducible refine gK_of_t _ _ _ ?_ ?_ <;> (intro hb; try simp only [decide_eq_true_eq, decide_eq_false_iff_not] at hb)))
                all_goals (refine ends_mk [] ?_ rfl ?_ ?_ ?_ ?_ <;> (try (intro X hX1 hX2; simp only [KeyIn, or_false, not_or, not_false_eq_true] at hX2)) <;> (try simp (disch := omega) only [go_sem, reduceIte, sliceB, AllMods, DistG, KeyIn, setL, news, not_false_eq_true, or_false, not_or, ne_eq, AllAt, AllObs, Dist, NotIn, kap_zero, kap_succ, kap_nil, inv_lt, inv_self, inv_add, ren_int, intsC_ren, and_true, and_self]) <;> (try omega))
                exact hold2 X hX1
              · have htw : twiceB y x = false := by
                  unfold twiceB
                  rw [show (y.c == x.c) = false by simpa using hcc, Bool.and_false]
                rw [htw] at htk2
                repeat' (first | simp (disch := omega) only [go_sem, reduceIte, sliceB, u0, u1, u6, u5, u7, u8, hD, oB2, y1, y2, hb2, hcc, Int.toNat_natCast] | (with_reducible refine w_chain0 ?_ ?_; focus (decide +kernel)) | (with_reducible refine condK_of _ _ ?_ ?_ <;> (intro hb; try simp only [decide_eq_true_eq, decide_eq_false_iff_not] at hb)) | (with_reducible refine gdK_of_f _ _ _ _ _ ?_ ?_ <;> (intro hb; try simp only [decide_eq_true_eq, decide_eq_false_iff_not] at hb)) | (with_reducible refine gdK_of_t _ _ _ _ _ ?_ ?_ <;> (intro hb; try simp only [decide_eq_true_eq, decide_eq_false_iff_not] at hb)) | (with_reducible refine gK_of_f _ _ _ ?_ ?_ <;> (intro hb; try simp only [decide_eq_true_eq, decide_eq_false_iff_not] at hb)) | (with_reducible refine gK_of_t _ _ _ ?_ ?_ <;> (intro hb; try simp only [decide_eq_true_eq, decide_eq_false_iff_not] at hb)))
                exact ⟨j - (k + 1), by omega, k + 1, by omega, rfl, by simp, htk2, by omega, hold2⟩
            · have htw : twiceB y x = false := by
                unfold twiceB
                simp [hs, ke1]
              rw [htw] at htk2
              repeat' (first | simp (disch := omega) only [go_sem, reduceIte, sliceB, u0, u1, u6, u5, u7, u8, hD, oB2, y1, y2, hb2, undef, Int.toNat_natCast] | (with_reducible refine w_chain0 ?_ ?_; focus (decide +kernel)) | (with_reducible refine condK_of _ _ ?_ ?_ <;> (intro hb; try simp only [decide_eq_true_eq, decide_eq_false_iff_not] at hb)) | (with_reducible refine gdK_of_f _ _ _ _ _ ?_ ?_ <;> (intro hb; try simp only [decide_eq_true_eq, decide_eq_false_iff_not] at hb)) | (with_reducible refine gdK_of_t _ _ _ _ _ ?_ ?_ <;> (intro hb; try simp only [decide_eq_true_eq, decide_eq_false_iff_not] at hb)) | (with_reducible refine gK_of_f _ _ _ ?_ ?_ <;> (intro hb; try simp only [decide_eq_true_eq, decide_eq_false_iff_not] at hb)) | (with_reducible refine gK_of_t _ _ _ ?_ ?_ <;> (intro hb; try simp only [decide_eq_true_eq, decide_eq_false_iff_not] at hb)))
              exact ⟨j - (k + 1), by omega, k + 1, by omega, rfl, by simp, htk2, by omega, hold2⟩
          · obtain rfl : k = j := by omega
            rw [hno] at hce
            simp only [Bool.false_eq_true, if_false] at hce
            have h0 := hstep hce
            have hk0 : x.k = 5 := ke1
            cases hb : (l.take k).any askB <;> rw [hb] at u5 htk <;> (try rw [hk0] at hD) <;> (
              repeat' (first | simp (disch := omega) only [go_sem, reduceIte, sliceB, u0, u1, u6, u5, u7, u8, hD, undef, Int.toNat_natCast] | (with_reducible refine w_chain0 ?_ ?_; focus (decide +kernel)) | (with_reducible refine condK_of _ _ ?_ ?_ <;> (intro hb; try simp only [decide_eq_true_eq, decide_eq_false_iff_not] at hb)) | (with_reducible refine gdK_of_f _ _ _ _ _ ?_ ?_ <;> (intro hb; try simp only [decide_eq_true_eq, decide_eq_false_iff_not] at hb)) | (with_reducible refine gdK_of_t _ _ _ _ _ ?_ ?_ <;> (intro hb; try simp only [decide_eq_true_eq, decide_eq_false_iff_not] at hb)) | (with_reducible refine gK_of_f _ _ _ ?_ ?_ <;> (intro hb; try simp only [decide_eq_true_eq, decide_eq_false_iff_not] at hb)) | (with_reducible refine gK_of_t _ _ _ ?_ ?_ <;> (intro hb; try simp only [decide_eq_true_eq, decide_eq_false_iff_not] at hb)))
              refine ⟨l.length - (k + 1), by omega, k + 1, by omega, rfl, by simp, ?_, h0, by omega, hold2⟩
              rw [htk]
              simp [askB, hk0])

      · repeat' (first | simp (disch := omega) only [go_sem, reduceIte, sliceB, t0, t1, t6, t5, oB, g1, g2, ke1, ke2, ke3, undef, Int.toNat_natCast] | (with_reducible refine w_chain0 ?_ ?_; focus (decide +kernel)) | (with_reducible refine condK_of _ _ ?_ ?_ <;> (intro hb; try simp only [decide_eq_true_eq, decide_eq_false_iff_not] at hb)) | (with_reducible refine gdK_of_f _ _ _ _ _ ?_ ?_ <;> (intro hb; try simp only [decide_eq_true_eq, decide_eq_false_iff_not] at hb)) | (with_reducible refine gdK_of_t _ _ _ _ _ ?_ ?_ <;> (intro hb; try simp only [decide_eq_true_eq, decide_eq_false_iff_not] at hb)) | (with_reducible refine gK_of_f _ _ _ ?_ ?_ <;> (intro hb; try simp only [decide_eq_true_eq, decide_eq_false_iff_not] at hb)) | (with_reducible refine gK_of_t _ _ _ ?_ ?_ <;> (intro hb; try simp only [decide_eq_true_eq, decide_eq_false_iff_not] at hb)))
        refine w_loop (fun mm2 T2 h2 => ∃ (k : Nat), k ≤ j ∧ mm2 = j - k ∧ Eva.look T2 0 = .int .i64 n ∧ Eva.look T2 1 = .slice (some ⟨B, o, none⟩) l.length c ∧ Eva.look T2 6 = .int .i64 (j : Int) ∧ Eva.look T2 5 = .bool ((l.take j).any askB) ∧ Eva.look T2 7 = .pointer (some ⟨h.next, 0, none⟩) ∧ Eva.look T2 8 = .int .i64 (k : Int) ∧ (l.take k).any (fun y => twiceB y x) = false ∧ h2.t.at_ h.next = some (.cells [.int .i64 x.k, .int .i64 x.c] 37 true) ∧ h.next + 1 ≤ h2.next ∧ ∀ X, X < s.next → h2.t.at_ X = s.t.at_ X) j ?_ ?_
        · refine ⟨0, by omega, by omega, ?_, ?_, ?_, ?_, ?_, ?_, rfl, ?_, ?_, fun X hX => ?_⟩
          all_goals first
            | (simp (disch := omega) only [go_sem, reduceIte, sliceB, t0, t1, t6, t5, ke1, ke2]; done)
            | (simp (disch := omega) only [go_sem, reduceIte, sliceB, t0, t1, t6, t5, ke1, ke2]; rfl)
            | (simp (disch := omega) only [go_sem, reduceIte, sliceB]; exact hold X hX)
            | (simp (disch := omega) only [go_sem, reduceIte, sliceB]; omega)
        · rintro mm2 T2 h2 ⟨k, hk, hmm2, u0, u1, u6, u5, u7, u8, hno, hD, hnx2, hold2⟩
          have oB2 := (hold2 B lB).trans hB
          by_cases hltk : k < j
          · obtain ⟨y, hy⟩ : ∃ y, l[k]? = some y := ⟨_, List.getElem?_eq_getElem (by omega)⟩
            obtain ⟨B', o', cs', ty', rw', eB', hB', q1, q2⟩ := hat k (by omega)
            cases eB'
            rw [hB] at hB'
            cases hB'
            rw [colsC_at hy] at q2
            have hyk : cs[o + k * 2]? = some (.int .i64 y.k) ∧ cs[o + k * 2 + 1]? = some (.int .i64 y.c) := two_at q2
            obtain ⟨y1, y2⟩ := hyk
            have htk2 : (l.take (k + 1)).any (fun y => twiceB y x) = twiceB y x := by
              rw [List.take_add_one, hy, List.any_append, hno]
              simp
            by_cases hs : y.k ≠ 5
            · by_cases hcc : y.c = x.c
              · have htw : twiceB y x = true := by
                  unfold twiceB
                  rw [hcc, show (y.k == 5) = false by simpa using hs, show (x.k == 5) = false by simpa using ke1]
                  simp
                have hany : (l.take j).any (fun y => twiceB y x) = true := List.any_eq_true.2 ⟨y, List.mem_of_getElem? (by rw [List.getElem?_take_of_lt hltk]; exact hy), htw⟩
                rw [hany] at hce
                simp only [if_true] at hce
                rw [hstop (by rw [hce]; decide), hce]
                repeat' (first | simp (disch := omega) only [go_sem, reduceIte, sliceB, u0, u1, u6, u5, u7, u8, hD, oB2, y1, y2, hb2, hcc, Int.toNat_natCast, Tryz.results20] | (with_reducible refine w_chain0 ?_ ?_; focus (decide +kernel)) | (with_reducible refine condK_of _ _ ?_ ?_ <;> (intro hb; try simp only [decide_eq_true_eq, decide_eq_false_iff_not] at hb)) | (with_reducible refine gdK_of_f _ _ _ _ _ ?_ ?_ <;> (intro hb; try simp only [decide_eq_true_eq, decide_eq_false_iff_not] at hb)) | (with_reducible refine gdK_of_t _ _ _ _ _ ?_ ?_ <;> (intro hb; try simp only [decide_eq_true_eq, decide_eq_false_iff_not] at hb)) | (with_reducible refine gK_of_f _ _ _ ?_ ?_ <;> (intro hb; try simp only [decide_eq_true_eq, decide_eq_false_iff_not] at hb)) | (with_reducible refine gK_of_t _ _ _ ?_ ?_ <;> (intro hb; try simp only [decide_eq_true_eq, decide_eq_false_iff_not] at hb)))
                all_goals (refine ends_mk [] ?_ rfl ?_ ?_ ?_ ?_ <;> (try (intro X hX1 hX2; simp only [KeyIn, or_false, not_or, not_false_eq_true] at hX2)) <;> (try simp (disch := omega) only [go_sem, reduceIte, sliceB, AllMods, DistG, KeyIn, setL, news, not_false_eq_true, or_false, not_or, ne_eq, AllAt, AllObs, Dist, NotIn, kap_zero, kap_succ, kap_nil, inv_lt, inv_self, inv_add, ren_int, intsC_ren, and_true, and_self]) <;> (try omega))
                exact hold2 X hX1
              · have htw : twiceB y x = false := by
                  unfold twiceB
                  rw [show (y.c == x.c) = false by simpa using hcc, Bool.and_false]
                rw [htw] at htk2
                repeat' (first | simp (disch := omega) only [go_sem, reduceIte, sliceB, u0, u1, u6, u5, u7, u8, hD, oB2, y1, y2, hb2, hcc, Int.toNat_natCast] | (with_reducible refine w_chain0 ?_ ?_; focus (decide +kernel)) | (with_reducible refine condK_of _ _ ?_ ?_ <;> (intro hb; try simp only [decide_eq_true_eq, decide_eq_false_iff_not] at hb)) | (with_reducible refine gdK_of_f _ _ _ _ _ ?_ ?_ <;> (intro hb; try simp only [decide_eq_true_eq, decide_eq_false_iff_not] at hb)) | (with_reducible refine gdK_of_t _ _ _ _ _ ?_ ?_ <;> (intro hb; try simp only [decide_eq_true_eq, decide_eq_false_iff_not] at hb)) | (with_reducible refine gK_of_f _ _ _ ?_ ?_ <;> (intro hb; try simp only [decide_eq_true_eq, decide_eq_false_iff_not] at hb)) | (with_reducible refine gK_of_t _ _ _ ?_ ?_ <;> (intro hb; try simp only [decide_eq_true_eq, decide_eq_false_iff_not] at hb)))
                exact ⟨j - (k + 1), by omega, k + 1, by omega, rfl, by simp, htk2, by omega, hold2⟩
            · have hs' : y.k = 5 := by omega
              have htw : twiceB y x = false := by
                unfold twiceB
                simp [hs', ke1]
              rw [htw] at htk2
              repeat' (first | simp (disch := omega) only [go_sem, reduceIte, sliceB, u0, u1, u6, u5, u7, u8, hD, oB2, y1, y2, hb2, undef, Int.toNat_natCast] | (with_reducible refine w_chain0 ?_ ?_; focus (decide +kernel)) | (with_reducible refine condK_of _ _ ?_ ?_ <;> (intro hb; try simp only [decide_eq_true_eq, decide_eq_false_iff_not] at hb)) | (with_reducible refine gdK_of_f _ _ _ _ _ ?_ ?_ <;> (intro hb; try simp only [decide_eq_true_eq, decide_eq_false_iff_not] at hb)) | (with_reducible refine gdK_of_t _ _ _ _ _ ?_ ?_ <;> (intro hb; try simp only [decide_eq_true_eq, decide_eq_false_iff_not] at hb)) | (with_reducible refine gK_of_f _ _ _ ?_ ?_ <;> (intro hb; try simp only [decide_eq_true_eq, decide_eq_false_iff_not] at hb)) | (with_reducible refine gK_of_t _ _ _ ?_ ?_ <;> (intro hb; try simp only [decide_eq_true_eq, decide_eq_false_iff_not] at hb)))
              exact ⟨j - (k + 1), by omega, k + 1, by omega, rfl, by simp, htk2, by omega, hold2⟩
          · obtain rfl : k = j := by omega
            rw [hno] at hce
            simp only [Bool.false_eq_true, if_false] at hce
            have h0 := hstep hce
            have hks : x.k = 1 ∨ x.k = 2 ∨ x.k = 3 ∨ x.k = 4 := by omega
            rcases hks with hk0 | hk0 | hk0 | hk0 <;> cases hb : (l.take k).any askB <;> rw [hb] at u5 htk <;> (try rw [hk0] at hD) <;> (
              repeat' (first | simp (disch := omega) only [go_sem, reduceIte, sliceB, u0, u1, u6, u5, u7, u8, hD, undef, Int.toNat_natCast] | (with_reducible refine w_chain0 ?_ ?_; focus (decide +kernel)) | (with_reducible refine condK_of _ _ ?_ ?_ <;> (intro hb; try simp only [decide_eq_true_eq, decide_eq_false_iff_not] at hb)) | (with_reducible refine gdK_of_f _ _ _ _ _ ?_ ?_ <;> (intro hb; try simp only [decide_eq_true_eq, decide_eq_false_iff_not] at hb)) | (with_reducible refine gdK_of_t _ _ _ _ _ ?_ ?_ <;> (intro hb; try simp only [decide_eq_true_eq, decide_eq_false_iff_not] at hb)) | (with_reducible refine gK_of_f _ _ _ ?_ ?_ <;> (intro hb; try simp only [decide_eq_true_eq, decide_eq_false_iff_not] at hb)) | (with_reducible refine gK_of_t _ _ _ ?_ ?_ <;> (intro hb; try simp only [decide_eq_true_eq, decide_eq_false_iff_not] at hb)))
              refine ⟨l.length - (k + 1), by omega, k + 1, by omega, rfl, by simp, ?_, h0, by omega, hold2⟩
              rw [htk]
              simp [askB, hk0])

    · obtain rfl : j = l.length := by omega
      rw [List.take_length] at hok t5
      rw [planE_asks (by omega) hok]
      cases hb : l.any askB with
      | true =>
        have e0 : (if true = true then (0 : Int) else 1) = 0 := rfl
        rw [e0]
        rw [hb] at t5
        repeat' (first | simp (disch := omega) only [go_sem, reduceIte, sliceB, t0, t1, t6, t5, Tryz.results20] | (with_reducible refine w_chain0 ?_ ?_; focus (decide +kernel)) | (with_reducible refine condK_of _ _ ?_ ?_ <;> (intro hb; try simp only [decide_eq_true_eq, decide_eq_false_iff_not] at hb)) | (with_reducible refine gdK_of_f _ _ _ _ _ ?_ ?_ <;> (intro hb; try simp only [decide_eq_true_eq, decide_eq_false_iff_not] at hb)) | (with_reducible refine gdK_of_t _ _ _ _ _ ?_ ?_ <;> (intro hb; try simp only [decide_eq_true_eq, decide_eq_false_iff_not] at hb)) | (with_reducible refine gK_of_f _ _ _ ?_ ?_ <;> (intro hb; try simp only [decide_eq_true_eq, decide_eq_false_iff_not] at hb)) | (with_reducible refine gK_of_t _ _ _ ?_ ?_ <;> (intro hb; try simp only [decide_eq_true_eq, decide_eq_false_iff_not] at hb)))
        all_goals (refine ends_mk [] ?_ rfl ?_ ?_ ?_ ?_ <;> (try (intro X hX1 hX2; simp only [KeyIn, or_false, not_or, not_false_eq_true] at hX2)) <;> (try simp (disch := omega) only [go_sem, reduceIte, sliceB, AllMods, DistG, KeyIn, setL, news, not_false_eq_true, or_false, not_or, ne_eq, AllAt, AllObs, Dist, NotIn, kap_zero, kap_succ, kap_nil, inv_lt, inv_self, inv_add, ren_int, intsC_ren, and_true, and_self]) <;> (try omega))
        exact hold X hX1
      | false =>
        have e0 : (if false = true then (0 : Int) else 1) = 1 := rfl
        rw [e0]
        rw [hb] at t5
        repeat' (first | simp (disch := omega) only [go_sem, reduceIte, sliceB, t0, t1, t6, t5, Tryz.results20] | (with_reducible refine w_chain0 ?_ ?_; focus (decide +kernel)) | (with_reducible refine condK_of _ _ ?_ ?_ <;> (intro hb; try simp only [decide_eq_true_eq, decide_eq_false_iff_not] at hb)) | (with_reducible refine gdK_of_f _ _ _ _ _ ?_ ?_ <;> (intro hb; try simp only [decide_eq_true_eq, decide_eq_false_iff_not] at hb)) | (with_reducible refine gdK_of_t _ _ _ _ _ ?_ ?_ <;> (intro hb; try simp only [decide_eq_true_eq, decide_eq_false_iff_not] at hb)) | (with_reducible refine gK_of_f _ _ _ ?_ ?_ <;> (intro hb; try simp only [decide_eq_true_eq, decide_eq_false_iff_not] at hb)) | (with_reducible refine gK_of_t _ _ _ ?_ ?_ <;> (intro hb; try simp only [decide_eq_true_eq, decide_eq_false_iff_not] at hb)))
        all_goals (refine ends_mk [] ?_ rfl ?_ ?_ ?_ ?_ <;> (try (intro X hX1 hX2; simp only [KeyIn, or_false, not_or, not_false_eq_true] at hX2)) <;> (try simp (disch := omega) only [go_sem, reduceIte, sliceB, AllMods, DistG, KeyIn, setL, news, not_false_eq_true, or_false, not_or, ne_eq, AllAt, AllObs, Dist, NotIn, kap_zero, kap_succ, kap_nil, inv_lt, inv_self, inv_add, ren_int, intsC_ren, and_true, and_self]) <;> (try omega))
        exact hold X hX1
end
end Go.Proofs.YtmcigeebeoobdaaGreatDoor
