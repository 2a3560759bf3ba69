/-
  Several texts in one. The document's rising rows over the tree: At, With, Same.
-/
import Derived.Test.YtmcigeebeoobdaaGreatDoorPz16
import Derived.Test.YtmcigeebeoobdaaGreatDoorPz18
import Derived.Test.YtmcigeebeoobdaaGreatDoorPz00
section
set_option linter.unusedSimpArgs false
set_option linter.unusedVariables false
namespace Go.Proofs.YtmcigeebeoobdaaGreatDoor
open Go Go.RowKit Go.Viv Go.Eva Go.Sym
open Classical in
noncomputable def cAt1 : Sym.CallS := fun args s => match args with
  | [v, .int .i64 i] => match (rowB s.t 1 v).bind intsL with
    | some l => if Rises l ∧ l.length ≤ 1000000 then some (.tuple ⟨[.int .i64 (posS i l : Nat), .bool (decide (l[posS i l]? = some i))]⟩, s) else none
    | none => none
  | _ => none
def cSame1 : Sym.CallS := fun args s => match args with
  | [v, w] => match (rowB s.t 1 v).bind intsL, (rowB s.t 1 w).bind intsL with
    | some l, some k => if l.length ≤ 1000000 ∧ k.length ≤ 1000000 then some (.bool (decide (l = k)), s) else none
    | _, _ => none
  | _ => none
section
variable {G : Nat} {ν : Toks} {W : World} {may : Nat → Prop} {call : CallB}
theorem at1_ok (hc : CallOK Tryz.prog G (LBegin Tryz.prog ν LL W may) ν call) : SpecOK Tryz.prog G (LBegin Tryz.prog ν LL W may) ν 33 cAt1 := by
  refine fun_ok rfl (by kernel_rfl) hc fun args s v h' e Lv hlv hG => ?_
  unfold cAt1 at e
  split at e <;> try (cases e; done)
  rename_i v0 i
  split at e <;> try (cases e; done)
  rename_i l hl
  split at e <;> try (cases e; done)
  rename_i hq
  obtain ⟨hr, hmil⟩ := hq
  simp only [Option.some.injEq, Prod.mk.injEq] at e
  obtain ⟨rfl, rfl⟩ := e
  obtain ⟨vs, hv, hvs⟩ := Option.bind_eq_some_iff.1 hl
  obtain rfl := intsL_eq hvs
  have ltv : ∀ X, occ X v0 = true → X < s.next := fun X h => hlv.lt _ (hlv.arg X (by simp [occL, h]))
  obtain ⟨a, n, c, rfl, hlen, hat⟩ := Go.Sym.row_at hv
  rw [intsC_len] at hlen
  obtain rfl : n = l.length := by omega
  have hp := posS_le i l
  have hlt : ∀ (m : Nat) (x : Int), l[m]? = some x → (x < i ↔ m < posS i l) := fun m x h => posS_lt hr h
  obtain ⟨p, hpp⟩ : ∃ p, posS i l = p := ⟨_, rfl⟩
  rw [hpp] at hp hlt ⊢
  have get : ∀ (T : Tr AObj), (∀ X, X < s.next → T.at_ X = s.t.at_ X) → ∀ (j : Nat) (x : Int), l[j]? = some x → ∃ B o cs ty rw, a = some ⟨B, o, none⟩ ∧ T.at_ B = some (.cells cs ty rw) ∧ cs[o + j]? = some (.int .i64 x) := fun T hT j x hx => by
    obtain ⟨B, o, cs, ty, rw_, rfl, hB, g1, g2⟩ := hat j (List.getElem?_eq_some_iff.1 hx).1
    rw [ints_at hx] at g2
    exact ⟨B, o, cs, ty, rw_, rfl, (hT B (ltv B (by simp [occ]))).trans hB, Go.Sym.one_at g2⟩
  refine ⟨[], [], by cases s; rfl, 0, ?_⟩
  refine ⟨Tryz.f33, _, Tryz.func33, rfl, by simp [Tryz.f33], ?_⟩; rw [Tryz.ntmps33]
  repeat' (first | simp (disch := omega) only [go_sem, reduceIte, sliceB] | (with_reducible refine w_chain0 ?_ ?_; focus (decide +kernel)) | (with_reducible refine condK_of _ _ ?_ ?_ <;> (intro hb; try simp only [decide_eq_true_eq, decide_eq_false_iff_not] at hb)) | (with_reducible refine gdK_of_f _ _ _ _ _ ?_ ?_ <;> (intro hb; try simp only [decide_eq_true_eq, decide_eq_false_iff_not] at hb)) | (with_reducible refine gdK_of_t _ _ _ _ _ ?_ ?_ <;> (intro hb; try simp only [decide_eq_true_eq, decide_eq_false_iff_not] at hb)) | (with_reducible refine gK_of_f _ _ _ ?_ ?_ <;> (intro hb; try simp only [decide_eq_true_eq, decide_eq_false_iff_not] at hb)) | (with_reducible refine gK_of_t _ _ _ ?_ ?_ <;> (intro hb; try simp only [decide_eq_true_eq, decide_eq_false_iff_not] at hb)))
  refine w_loop (fun mm T1 h => ∃ (lo hi : Nat), lo ≤ p ∧ p ≤ hi ∧ hi ≤ l.length ∧ mm = hi - lo ∧ Eva.look T1 0 = .slice a l.length c ∧ Eva.look T1 1 = .int .i64 i ∧ Eva.look T1 6 = .int .i64 (lo : Int) ∧ Eva.look T1 7 = .int .i64 (hi : Int) ∧ s.next ≤ h.next ∧ ∀ X, X < s.next → h.t.at_ X = s.t.at_ X) l.length ?_ ?_
  · refine ⟨0, l.length, by omega, hp, Nat.le_refl _, by omega, ?_, ?_, ?_, ?_, Nat.le_refl _, fun _ _ => rfl⟩ <;> (simp (disch := omega) only [go_sem, reduceIte, sliceB]) <;> rfl
  · rintro mm T1 h ⟨lo, hi, h1, h2, h3, hmm, t0, t1, t6, t7, hnx, hold⟩
    by_cases hlh : lo < hi
    · obtain ⟨m, hm⟩ : ∃ m, (lo + hi) / 2 = m := ⟨_, rfl⟩
      have q1 : ((lo : Int) + (hi : Int)).tdiv 2 = (m : Int) := by
        rw [Int.tdiv_eq_ediv_of_nonneg (by omega)]; omega
      have q2 : ∀ (H : Tr AObj) (t : TypeId) (ox oy : Operand), binB Tryz.prog H .quo t ox oy (.int .i64 ((lo : Int) + (hi : Int))) (.int .i64 2) = some (.int .i64 (m : Int)) := fun H t ox oy => by
        rw [b_quo (by decide) (by rw [q1]; omega) (by rw [q1]; omega), q1]
      obtain ⟨x, hx⟩ : ∃ x, l[m]? = some x := ⟨_, List.getElem?_eq_getElem (by omega)⟩
      obtain ⟨B, o, cs, ty, rw_, rfl, hB, g1⟩ := get h.t hold m x hx
      have hmp := hlt m x hx
      by_cases hxi : x < i
      · have := hmp.1 hxi
        repeat' (first | simp (disch := omega) only [go_sem, reduceIte, sliceB, t0, t1, t6, t7, q2, hB, g1, Int.toNat_natCast] | (with_reducible refine w_chain0 ?_ ?_; focus (decide +kernel)) | (with_reducible refine condK_of _ _ ?_ ?_ <;> (intro hb; try simp only [decide_eq_true_eq, decide_eq_false_iff_not] at hb)) | (with_reducible refine gdK_of_f _ _ _ _ _ ?_ ?_ <;> (intro hb; try simp only [decide_eq_true_eq, decide_eq_false_iff_not] at hb)) | (with_reducible refine gdK_of_t _ _ _ _ _ ?_ ?_ <;> (intro hb; try simp only [decide_eq_true_eq, decide_eq_false_iff_not] at hb)) | (with_reducible refine gK_of_f _ _ _ ?_ ?_ <;> (intro hb; try simp only [decide_eq_true_eq, decide_eq_false_iff_not] at hb)) | (with_reducible refine gK_of_t _ _ _ ?_ ?_ <;> (intro hb; try simp only [decide_eq_true_eq, decide_eq_false_iff_not] at hb)))
        exact ⟨hi - (m + 1), by omega, m + 1, hi, by omega, h2, h3, rfl, by simp, rfl, hnx, hold⟩
      · have : ¬ m < p := fun h => hxi (hmp.2 h)
        repeat' (first | simp (disch := omega) only [go_sem, reduceIte, sliceB, t0, t1, t6, t7, q2, hB, g1, Int.toNat_natCast] | (with_reducible refine w_chain0 ?_ ?_; focus (decide +kernel)) | (with_reducible refine condK_of _ _ ?_ ?_ <;> (intro hb; try simp only [decide_eq_true_eq, decide_eq_false_iff_not] at hb)) | (with_reducible refine gdK_of_f _ _ _ _ _ ?_ ?_ <;> (intro hb; try simp only [decide_eq_true_eq, decide_eq_false_iff_not] at hb)) | (with_reducible refine gdK_of_t _ _ _ _ _ ?_ ?_ <;> (intro hb; try simp only [decide_eq_true_eq, decide_eq_false_iff_not] at hb)) | (with_reducible refine gK_of_f _ _ _ ?_ ?_ <;> (intro hb; try simp only [decide_eq_true_eq, decide_eq_false_iff_not] at hb)) | (with_reducible refine gK_of_t _ _ _ ?_ ?_ <;> (intro hb; try simp only [decide_eq_true_eq, decide_eq_false_iff_not] at hb)))
        exact ⟨m - lo, by omega, lo, m, h1, by omega, by omega, rfl, rfl, rfl, hnx, hold⟩
    · obtain rfl : lo = p := by omega
      by_cases hpl : lo < l.length
      · obtain ⟨x, hx⟩ : ∃ x, l[lo]? = some x := ⟨_, List.getElem?_eq_getElem hpl⟩
        obtain ⟨B, o, cs, ty, rw_, rfl, hB, g1⟩ := get h.t hold lo x hx
        rw [hx]
        have hd : decide (some x = some i) = decide (x = i) := by simp
        by_cases hxi : x = i
        · subst hxi
          rw [hd, decide_eq_true rfl]
          repeat' (first | simp (disch := omega) only [go_sem, reduceIte, sliceB, t0, t1, t6, t7, hB, g1, Int.toNat_natCast, Tryz.results33] | (with_reducible refine w_chain0 ?_ ?_; focus (decide +kernel)) | (with_reducible refine condK_of _ _ ?_ ?_ <;> (intro hb; try simp only [decide_eq_true_eq, decide_eq_false_iff_not] at hb)) | (with_reducible refine gdK_of_f _ _ _ _ _ ?_ ?_ <;> (intro hb; try simp only [decide_eq_true_eq, decide_eq_false_iff_not] at hb)) | (with_reducible refine gdK_of_t _ _ _ _ _ ?_ ?_ <;> (intro hb; try simp only [decide_eq_true_eq, decide_eq_false_iff_not] at hb)) | (with_reducible refine gK_of_f _ _ _ ?_ ?_ <;> (intro hb; try simp only [decide_eq_true_eq, decide_eq_false_iff_not] at hb)) | (with_reducible refine gK_of_t _ _ _ ?_ ?_ <;> (intro hb; try simp only [decide_eq_true_eq, decide_eq_false_iff_not] at hb)))
          all_goals (refine ends_mk [] ?_ rfl ?_ ?_ ?_ ?_ <;> (try (intro X hX1 hX2; simp only [KeyIn, or_false, not_or, not_false_eq_true] at hX2)) <;> (try simp (disch := omega) only [go_sem, reduceIte, sliceB, AllMods, DistG, KeyIn, setL, news, not_false_eq_true, or_false, not_or, ne_eq, AllAt, AllObs, Dist, NotIn, kap_zero, kap_succ, kap_nil, inv_lt, inv_self, inv_add, ren_int, intsC_ren, and_true, and_self]) <;> (try omega))
          exact hold X hX1
        · rw [hd, decide_eq_false hxi]
          repeat' (first | simp (disch := omega) only [go_sem, reduceIte, sliceB, t0, t1, t6, t7, hB, g1, hxi, Int.toNat_natCast, Tryz.results33] | (with_reducible refine w_chain0 ?_ ?_; focus (decide +kernel)) | (with_reducible refine condK_of _ _ ?_ ?_ <;> (intro hb; try simp only [decide_eq_true_eq, decide_eq_false_iff_not] at hb)) | (with_reducible refine gdK_of_f _ _ _ _ _ ?_ ?_ <;> (intro hb; try simp only [decide_eq_true_eq, decide_eq_false_iff_not] at hb)) | (with_reducible refine gdK_of_t _ _ _ _ _ ?_ ?_ <;> (intro hb; try simp only [decide_eq_true_eq, decide_eq_false_iff_not] at hb)) | (with_reducible refine gK_of_f _ _ _ ?_ ?_ <;> (intro hb; try simp only [decide_eq_true_eq, decide_eq_false_iff_not] at hb)) | (with_reducible refine gK_of_t _ _ _ ?_ ?_ <;> (intro hb; try simp only [decide_eq_true_eq, decide_eq_false_iff_not] at hb)))
          all_goals (refine ends_mk [] ?_ rfl ?_ ?_ ?_ ?_ <;> (try (intro X hX1 hX2; simp only [KeyIn, or_false, not_or, not_false_eq_true] at hX2)) <;> (try simp (disch := omega) only [go_sem, reduceIte, sliceB, AllMods, DistG, KeyIn, setL, news, not_false_eq_true, or_false, not_or, ne_eq, AllAt, AllObs, Dist, NotIn, kap_zero, kap_succ, kap_nil, inv_lt, inv_self, inv_add, ren_int, intsC_ren, and_true, and_self]) <;> (try omega))
          exact hold X hX1
      · have hn : l[lo]? = none := List.getElem?_eq_none (by omega)
        rw [hn]
        have hd : decide ((none : Option Int) = some i) = false := by simp
        rw [hd]
        repeat' (first | simp (disch := omega) only [go_sem, reduceIte, sliceB, t0, t1, t6, t7, undef, Int.toNat_natCast, Tryz.results33] | (with_reducible refine w_chain0 ?_ ?_; focus (decide +kernel)) | (with_reducible refine condK_of _ _ ?_ ?_ <;> (intro hb; try simp only [decide_eq_true_eq, decide_eq_false_iff_not] at hb)) | (with_reducible refine gdK_of_f _ _ _ _ _ ?_ ?_ <;> (intro hb; try simp only [decide_eq_true_eq, decide_eq_false_iff_not] at hb)) | (with_reducible refine gdK_of_t _ _ _ _ _ ?_ ?_ <;> (intro hb; try simp only [decide_eq_true_eq, decide_eq_false_iff_not] at hb)) | (with_reducible refine gK_of_f _ _ _ ?_ ?_ <;> (intro hb; try simp only [decide_eq_true_eq, decide_eq_false_iff_not] at hb)) | (with_reducible refine gK_of_t _ _ _ ?_ ?_ <;> (intro hb; try simp only [decide_eq_true_eq, decide_eq_false_iff_not] at hb)))
        all_goals (refine ends_mk [] ?_ rfl ?_ ?_ ?_ ?_ <;> (try (intro X hX1 hX2; simp only [KeyIn, or_false, not_or, not_false_eq_true] at hX2)) <;> (try simp (disch := omega) only [go_sem, reduceIte, sliceB, AllMods, DistG, KeyIn, setL, news, not_false_eq_true, or_false, not_or, ne_eq, AllAt, AllObs, Dist, NotIn, kap_zero, kap_succ, kap_nil, inv_lt, inv_self, inv_add, ren_int, intsC_ren, and_true, and_self]) <;> (try omega))
        exact hold X hX1
theorem same1_ok (hc : CallOK Tryz.prog G (LBegin Tryz.prog ν LL W may) ν call) : SpecOK Tryz.prog G (LBegin Tryz.prog ν LL W may) ν 12 cSame1 := by
  refine fun_ok rfl (by kernel_rfl) hc fun args s v h' e Lv hlv hG => ?_
  unfold cSame1 at e
  split at e <;> try (cases e; done)
  rename_i v0 w0
  split at e <;> try (cases e; done)
  rename_i l k hl hk
  split at e <;> try (cases e; done)
  rename_i hq
  obtain ⟨hmil, hmik⟩ := hq
  simp only [Option.some.injEq, Prod.mk.injEq] at e
  obtain ⟨rfl, rfl⟩ := e
  obtain ⟨vs, hv, hvs⟩ := Option.bind_eq_some_iff.1 hl
  obtain rfl := intsL_eq hvs
  obtain ⟨ws, hw, hws⟩ := Option.bind_eq_some_iff.1 hk
  obtain rfl := intsL_eq hws
  have ltv : ∀ X, occ X v0 = true → X < s.next := fun X h => hlv.lt _ (hlv.arg X (by simp [occL, h]))
  have ltw : ∀ X, occ X w0 = true → X < s.next := fun X h => hlv.lt _ (hlv.arg X (by simp [occL, h]))
  obtain ⟨a, n, c, rfl, hlen, hat⟩ := Go.Sym.row_at hv
  rw [intsC_len] at hlen
  obtain rfl : n = l.length := by omega
  obtain ⟨a', n', c', rfl, hlen', hat'⟩ := Go.Sym.row_at hw
  rw [intsC_len] at hlen'
  obtain rfl : n' = k.length := by omega
  refine ⟨[], [], by cases s; rfl, 0, ?_⟩
  by_cases hll : l.length = k.length
  · refine ⟨Tryz.f12, _, Tryz.func12, rfl, by simp [Tryz.f12], ?_⟩; rw [Tryz.ntmps12]
    repeat' (first | simp (disch := omega) only [go_sem, reduceIte, sliceB, hll] | (with_reducible refine w_chain0 ?_ ?_; focus (decide +kernel)) | (with_reducible refine condK_of _ _ ?_ ?_ <;> (intro hb; try simp only [decide_eq_true_eq, decide_eq_false_iff_not] at hb)) | (with_reducible refine gdK_of_f _ _ _ _ _ ?_ ?_ <;> (intro hb; try simp only [decide_eq_true_eq, decide_eq_false_iff_not] at hb)) | (with_reducible refine gdK_of_t _ _ _ _ _ ?_ ?_ <;> (intro hb; try simp only [decide_eq_true_eq, decide_eq_false_iff_not] at hb)) | (with_reducible refine gK_of_f _ _ _ ?_ ?_ <;> (intro hb; try simp only [decide_eq_true_eq, decide_eq_false_iff_not] at hb)) | (with_reducible refine gK_of_t _ _ _ ?_ ?_ <;> (intro hb; try simp only [decide_eq_true_eq, decide_eq_false_iff_not] at hb)))
    refine w_loop (fun mm T1 h => ∃ (j : Nat), j ≤ l.length ∧ mm = l.length - j ∧ Eva.look T1 0 = .slice a k.length c ∧ Eva.look T1 1 = .slice a' k.length c' ∧ Eva.look T1 5 = .int .i64 (j : Int) ∧ l.take j = k.take j ∧ s.next ≤ h.next ∧ ∀ X, X < s.next → h.t.at_ X = s.t.at_ X) l.length ?_ ?_
    · refine ⟨0, by omega, by omega, ?_, ?_, ?_, rfl, Nat.le_refl _, fun _ _ => rfl⟩ <;> (simp (disch := omega) only [go_sem, reduceIte, sliceB]) <;> rfl
    · rintro mm T1 h ⟨j, hj, hmm, t0, t1, t5, htk, hnx, hold⟩
      by_cases hlt : j < l.length
      · obtain ⟨x, hx⟩ : ∃ x, l[j]? = some x := ⟨_, List.getElem?_eq_getElem hlt⟩
        obtain ⟨y, hy⟩ : ∃ y, k[j]? = some y := ⟨_, List.getElem?_eq_getElem (by omega)⟩
        obtain ⟨B, o, cs, ty, rw_, rfl, hB, g1, g2⟩ := hat j hlt
        rw [ints_at hx] at g2
        have g3 := Go.Sym.one_at g2
        have oB := (hold B (ltv B (by simp [occ]))).trans hB
        obtain ⟨B', o', cs', ty', rw', rfl, hB', g1', g2'⟩ := hat' j (by omega)
        rw [ints_at hy] at g2'
        have g3' := Go.Sym.one_at g2'
        have oB' := (hold B' (ltw B' (by simp [occ]))).trans hB'
        by_cases hxy : x = y
        · subst hxy
          repeat' (first | simp (disch := omega) only [go_sem, reduceIte, sliceB, t0, t1, t5, oB, oB', g3, g3', Int.toNat_natCast] | (with_reducible refine w_chain0 ?_ ?_; focus (decide +kernel)) | (with_reducible refine condK_of _ _ ?_ ?_ <;> (intro hb; try simp only [decide_eq_true_eq, decide_eq_false_iff_not] at hb)) | (with_reducible refine gdK_of_f _ _ _ _ _ ?_ ?_ <;> (intro hb; try simp only [decide_eq_true_eq, decide_eq_false_iff_not] at hb)) | (with_reducible refine gdK_of_t _ _ _ _ _ ?_ ?_ <;> (intro hb; try simp only [decide_eq_true_eq, decide_eq_false_iff_not] at hb)) | (with_reducible refine gK_of_f _ _ _ ?_ ?_ <;> (intro hb; try simp only [decide_eq_true_eq, decide_eq_false_iff_not] at hb)) | (with_reducible refine gK_of_t _ _ _ ?_ ?_ <;> (intro hb; try simp only [decide_eq_true_eq, decide_eq_false_iff_not] at hb)))
          exact ⟨l.length - (j + 1), by omega, j + 1, by omega, rfl, by simp, by rw [List.take_add_one, List.take_add_one, hx, hy, htk], by omega, hold⟩
        · have hne : l ≠ k := fun e => by rw [e, hy] at hx; exact hxy (Option.some.inj hx).symm
          rw [decide_eq_false hne]
          repeat' (first | simp (disch := omega) only [go_sem, reduceIte, sliceB, t0, t1, t5, oB, oB', g3, g3', hxy, Int.toNat_natCast, Tryz.results12] | (with_reducible refine w_chain0 ?_ ?_; focus (decide +kernel)) | (with_reducible refine condK_of _ _ ?_ ?_ <;> (intro hb; try simp only [decide_eq_true_eq, decide_eq_false_iff_not] at hb)) | (with_reducible refine gdK_of_f _ _ _ _ _ ?_ ?_ <;> (intro hb; try simp only [decide_eq_true_eq, decide_eq_false_iff_not] at hb)) | (with_reducible refine gdK_of_t _ _ _ _ _ ?_ ?_ <;> (intro hb; try simp only [decide_eq_true_eq, decide_eq_false_iff_not] at hb)) | (with_reducible refine gK_of_f _ _ _ ?_ ?_ <;> (intro hb; try simp only [decide_eq_true_eq, decide_eq_false_iff_not] at hb)) | (with_reducible refine gK_of_t _ _ _ ?_ ?_ <;> (intro hb; try simp only [decide_eq_true_eq, decide_eq_false_iff_not] at hb)))
          all_goals (refine ends_mk [] ?_ rfl ?_ ?_ ?_ ?_ <;> (try (intro X hX1 hX2; simp only [KeyIn, or_false, not_or, not_false_eq_true] at hX2)) <;> (try simp (disch := omega) only [go_sem, reduceIte, sliceB, AllMods, DistG, KeyIn, setL, news, not_false_eq_true, or_false, not_or, ne_eq, AllAt, AllObs, Dist, NotIn, kap_zero, kap_succ, kap_nil, inv_lt, inv_self, inv_add, ren_int, intsC_ren, and_true, and_self]) <;> (try omega))
          exact hold X hX1
      · obtain rfl : j = l.length := by omega
        have heq : l = k := by
          rw [List.take_length, hll, List.take_length] at htk
          exact htk
        rw [decide_eq_true heq]
        repeat' (first | simp (disch := omega) only [go_sem, reduceIte, sliceB, t0, t1, t5, hll, Tryz.results12] | (with_reducible refine w_chain0 ?_ ?_; focus (decide +kernel)) | (with_reducible refine condK_of _ _ ?_ ?_ <;> (intro hb; try simp only [decide_eq_true_eq, decide_eq_false_iff_not] at hb)) | (with_reducible refine gdK_of_f _ _ _ _ _ ?_ ?_ <;> (intro hb; try simp only [decide_eq_true_eq, decide_eq_false_iff_not] at hb)) | (with_reducible refine gdK_of_t _ _ _ _ _ ?_ ?_ <;> (intro hb; try simp only [decide_eq_true_eq, decide_eq_false_iff_not] at hb)) | (with_reducible refine gK_of_f _ _ _ ?_ ?_ <;> (intro hb; try simp only [decide_eq_true_eq, decide_eq_false_iff_not] at hb)) | (with_reducible refine gK_of_t _ _ _ ?_ ?_ <;> (intro hb; try simp only [decide_eq_true_eq, decide_eq_false_iff_not] at hb)))
        all_goals (refine ends_mk [] ?_ rfl ?_ ?_ ?_ ?_ <;> (try (intro X hX1 hX2; simp only [KeyIn, or_false, not_or, not_false_eq_true] at hX2)) <;> (try simp (disch := omega) only [go_sem, reduceIte, sliceB, AllMods, DistG, KeyIn, setL, news, not_false_eq_true, or_false, not_or, ne_eq, AllAt, AllObs, Dist, NotIn, kap_zero, kap_succ, kap_nil, inv_lt, inv_self, inv_add, ren_int, intsC_ren, and_true, and_self]) <;> (try omega))
        exact hold X hX1
  · have hne : l ≠ k := fun e => hll (by rw [e])
    rw [decide_eq_false hne]
    have hll' : ¬ ((l.length : Int) = (k.length : Int)) := by omega
    refine ⟨Tryz.f12, _, Tryz.func12, rfl, by simp [Tryz.f12], ?_⟩; rw [Tryz.ntmps12]
    repeat' (first | simp (disch := omega) only [go_sem, reduceIte, sliceB, hll', Tryz.results12] | (with_reducible refine w_chain0 ?_ ?_; focus (decide +kernel)) | (with_reducible refine condK_of _ _ ?_ ?_ <;> (intro hb; try simp only [decide_eq_true_eq, decide_eq_false_iff_not] at hb)) | (with_reducible refine gdK_of_f _ _ _ _ _ ?_ ?_ <;> (intro hb; try simp only [decide_eq_true_eq, decide_eq_false_iff_not] at hb)) | (with_reducible refine gdK_of_t _ _ _ _ _ ?_ ?_ <;> (intro hb; try simp only [decide_eq_true_eq, decide_eq_false_iff_not] at hb)) | (with_reducible refine gK_of_f _ _ _ ?_ ?_ <;> (intro hb; try simp only [decide_eq_true_eq, decide_eq_false_iff_not] at hb)) | (with_reducible refine gK_of_t _ _ _ ?_ ?_ <;> (intro hb; try simp only [decide_eq_true_eq, decide_eq_false_iff_not] at hb)))
    all_goals (refine ends_mk [] ?_ rfl ?_ ?_ ?_ ?_ <;> (try (intro X hX1 hX2; simp only [KeyIn, or_false, not_or, not_false_eq_true] at hX2)) <;> (try simp (disch := omega) only [go_sem, reduceIte, sliceB, AllMods, DistG, KeyIn, setL, news, not_false_eq_true, or_false, not_or, ne_eq, AllAt, AllObs, Dist, NotIn, kap_zero, kap_succ, kap_nil, inv_lt, inv_self, inv_add, ren_int, intsC_ren, and_true, and_self]) <;> (try omega))
end
end Go.Proofs.YtmcigeebeoobdaaGreatDoor
end

/-
  Package plan over the tree: comps, Reads, Writes, Parts.
-/
section
set_option linter.unusedSimpArgs false
set_option linter.unusedVariables false
namespace Go.Viv
open Go Go.RowKit Go.Eva Go.Sym
/-- The components of columns of some kinds, as they stand. -/
def compF (ks : List Int) (l : List Coln) : List Int := (l.filter fun x => ks.any fun y => decide (x.k = y)).map (·.c)
theorem compF_take (ks : List Int) (l : List Coln) {j : Nat} {x : Coln} (h : l[j]? = some x) : compF ks (l.take (j + 1)) = compF ks (l.take j) ++ if (ks.any fun y => decide (x.k = y)) = true then [x.c] else [] := by
  unfold compF
  rw [List.take_add_one, h]
  simp only [Option.toList, List.filter_append, List.map_append]
  congr 1
  by_cases hb : (ks.any fun y => decide (x.k = y)) = true
  · rw [if_pos hb]
    simp only [List.filter_cons, List.filter_nil, hb, if_true]
    rfl
  · rw [if_neg hb]
    simp only [List.filter_cons, List.filter_nil, Bool.eq_false_iff.2 hb]
    rfl
end Go.Viv
namespace Go.Proofs.YtmcigeebeoobdaaGreatDoor
open Go Go.RowKit Go.Viv Go.Eva Go.Sym
/-- A row of numbers, new, of known room: nil, or one block. -/
def rowKV (b : Nat) (l : List Int) : Value := match l with
  | [] => .slice none 0 0
  | a :: l => .slice (some ⟨b, 0, none⟩) (l.length + 1) (l.length + 2)
def rowKO (l : List Int) : List AObj := match l with
  | [] => []
  | a :: l => [.cells (intsC (a :: l)) 3 true]
def cComps : Sym.CallS := fun args s => match args with
  | [v, kv] => match (rowB s.t 2 v).bind colsL, (rowB s.t 1 kv).bind intsL with
    | some l, some ks => if apart (sortI (compF ks l)) = true ∧ l.length ≤ 1000 ∧ ks.length ≤ 1000 then some (rowKV s.next (sortI (compF ks l)), ⟨news s.t s.next (rowKO (sortI (compF ks l))), s.next + (rowKO (sortI (compF ks l))).length⟩) else none
    | _, _ => none
  | _ => none
section
variable {G : Nat} {ν : Toks} {W : World} {may : Nat → Prop} {call : CallB}
set_option maxRecDepth 4000 in
theorem planComps_ok (hc : CallOK Tryz.prog G (LBegin Tryz.prog ν LL W may) ν call) (hct : ∀ a h, call 109 a h = cContInt a h) (hso : ∀ a h, call 110 a h = cSort a h) (hcm : ∀ a h, call 112 a h = cCompact a h) (hcl : ∀ a h, call 111 a h = cClip a h) : SpecOK Tryz.prog G (LBegin Tryz.prog ν LL W may) ν 67 cComps := by
  refine fun_ok rfl (by kernel_rfl) hc fun args s v h' e Lv hlv hG => ?_
  unfold cComps at e
  split at e <;> try (cases e; done)
  rename_i v0 kv
  split at e <;> try (cases e; done)
  rename_i l ks hl hks
  split at e <;> try (cases e; done)
  rename_i hq
  obtain ⟨hap, hl1, hk1⟩ := hq
  simp only [Option.some.injEq, Prod.mk.injEq] at e
  obtain ⟨rfl, rfl⟩ := e
  obtain ⟨vs, hv, hvs⟩ := Option.bind_eq_some_iff.1 hl
  obtain rfl := colsL_eq hvs
  have ltv : ∀ X, occ X v0 = true → X < s.next := fun X h => hlv.lt _ (hlv.arg X (by simp [occL, h]))
  have ltk : ∀ X, occ X kv = true → X < s.next := fun X h => hlv.lt _ (hlv.arg X (by simp [occL, h]))
  obtain ⟨a, n, c, rfl, hlen, hat⟩ := Go.Sym.row_at hv
  rw [colsC_len] at hlen
  obtain rfl : n = l.length := by omega
  have hci : ∀ (H : Hp) (z : Int), (∀ X, X < s.next → H.t.at_ X = s.t.at_ X) → cContInt [kv, .int .i64 z] H = some (.bool (ks.any fun y => decide (z = y)), H) := fun H z hf => by
    have : (rowB H.t 1 kv).bind intsL = some ks := by rw [rowB_frame (t := s.t) fun X h => hf X (ltk X h)]; exact hks
    simp only [cContInt, this]
    rw [if_pos (by omega)]
  refine ⟨[], rowKO (sortI (compF ks l)), by cases s; rfl, 0, ?_⟩
  refine ⟨Tryz.f67, _, Tryz.func67, rfl, by simp [Tryz.f67], ?_⟩; rw [Tryz.ntmps67]
  repeat' (first | simp (disch := omega) only [go_sem, reduceIte, sliceB] | (with_reducible refine w_chain0 ?_ ?_; focus (decide +kernel)) | (with_reducible refine condK_of _ _ ?_ ?_ <;> (intro hb; try simp only [decide_eq_true_eq, decide_eq_false_iff_not] at hb)) | (with_reducible refine gdK_of_f _ _ _ _ _ ?_ ?_ <;> (intro hb; try simp only [decide_eq_true_eq, decide_eq_false_iff_not] at hb)) | (with_reducible refine gdK_of_t _ _ _ _ _ ?_ ?_ <;> (intro hb; try simp only [decide_eq_true_eq, decide_eq_false_iff_not] at hb)) | (with_reducible refine gK_of_f _ _ _ ?_ ?_ <;> (intro hb; try simp only [decide_eq_true_eq, decide_eq_false_iff_not] at hb)) | (with_reducible refine gK_of_t _ _ _ ?_ ?_ <;> (intro hb; try simp only [decide_eq_true_eq, decide_eq_false_iff_not] at hb)))
  refine w_loop (fun mm T1 h => ∃ (j : Nat) (w : Value) (kk : Nat), j ≤ l.length ∧ mm = l.length - j ∧ Eva.look T1 1 = kv ∧ Eva.look T1 8 = .slice a l.length c ∧ Eva.look T1 9 = .int .i64 (l.length : Int) ∧ Eva.look T1 10 = .int .i64 (j : Int) ∧ Eva.look T1 5 = w ∧ RowAt h.t 3 1 w (compF ks (l.take j)).length (intsC (compF ks (l.take j))) kk ∧ ((compF ks (l.take j)).length ≠ 0 → s.next ≤ kk ∧ kk < h.next) ∧ s.next ≤ h.next ∧ ∀ X, X < s.next → h.t.at_ X = s.t.at_ X) l.length ?_ ?_
  · refine ⟨0, .slice none 0 0, 0, by omega, by omega, ?_, ?_, ?_, ?_, ?_, .nil 0, fun h => absurd rfl h, Nat.le_refl _, fun _ _ => rfl⟩ <;> (simp (disch := omega) only [go_sem, reduceIte, sliceB]) <;> rfl
  · rintro mm T1 h ⟨j, w, kk, hj, hmm, t1, t8, t9, t10, t5, hrow, hkk, hnx, hold⟩
    by_cases hlt : j < l.length
    · obtain ⟨x, hx⟩ : ∃ x, l[j]? = some x := ⟨_, List.getElem?_eq_getElem hlt⟩
      obtain ⟨B, o, cs, ty, rw_, rfl, hB, g1, g2⟩ := hat j hlt
      rw [colsC_at hx] at g2
      have lB := ltv B (by simp [occ])
      have oB := (hold B lB).trans hB
      have htk := compF_take ks l hx
      have hcl2 : (compF ks (l.take j)).length ≤ j := by
        unfold compF
        rw [List.length_map]
        refine Nat.le_trans (List.length_filter_le _ _) ?_
        rw [List.length_take]; omega
      repeat' (first | simp (disch := omega) only [go_sem, reduceIte, sliceB, t1, t8, t9, t10, t5, oB, g1, g2, hct, Int.toNat_natCast] | (with_reducible refine w_chain0 ?_ ?_; focus (decide +kernel)) | (with_reducible refine condK_of _ _ ?_ ?_ <;> (intro hb; try simp only [decide_eq_true_eq, decide_eq_false_iff_not] at hb)) | (with_reducible refine gdK_of_f _ _ _ _ _ ?_ ?_ <;> (intro hb; try simp only [decide_eq_true_eq, decide_eq_false_iff_not] at hb)) | (with_reducible refine gdK_of_t _ _ _ _ _ ?_ ?_ <;> (intro hb; try simp only [decide_eq_true_eq, decide_eq_false_iff_not] at hb)) | (with_reducible refine gK_of_f _ _ _ ?_ ?_ <;> (intro hb; try simp only [decide_eq_true_eq, decide_eq_false_iff_not] at hb)) | (with_reducible refine gK_of_t _ _ _ ?_ ?_ <;> (intro hb; try simp only [decide_eq_true_eq, decide_eq_false_iff_not] at hb)))
      refine ⟨_, hci _ _ (fun X hX => ?_), ?_⟩
      · simp (disch := omega) only [go_sem, reduceIte, sliceB]
        exact hold X hX
      cases hb : (ks.any fun y => decide (x.k = y)) with
      | true =>
        rw [if_pos hb] at htk
        repeat' (first | simp (disch := omega) only [go_sem, reduceIte, sliceB, t1, t8, t9, t10, t5] | (with_reducible refine w_chain0 ?_ ?_; focus (decide +kernel)) | (with_reducible refine condK_of _ _ ?_ ?_ <;> (intro hb; try simp only [decide_eq_true_eq, decide_eq_false_iff_not] at hb)) | (with_reducible refine gdK_of_f _ _ _ _ _ ?_ ?_ <;> (intro hb; try simp only [decide_eq_true_eq, decide_eq_false_iff_not] at hb)) | (with_reducible refine gdK_of_t _ _ _ _ _ ?_ ?_ <;> (intro hb; try simp only [decide_eq_true_eq, decide_eq_false_iff_not] at hb)) | (with_reducible refine gK_of_f _ _ _ ?_ ?_ <;> (intro hb; try simp only [decide_eq_true_eq, decide_eq_false_iff_not] at hb)) | (with_reducible refine gK_of_t _ _ _ ?_ ?_ <;> (intro hb; try simp only [decide_eq_true_eq, decide_eq_false_iff_not] at hb)))
        obtain ⟨k3, hrow3, hk31, hk32, hk33⟩ := row_pick hrow (a := s.next) (b := h.next) hkk hnx
        refine append_on (B := k3) (new := [.int .i64 x.c]) und22 und22 size3 pz3 rfl apb3 (hrow3.frame2 fun h0 => ?_) ?_ rfl rfl ?_ (by omega) (fun h5 r5 n5 s5 => ?_)
        · have := hk33 h0
          simp (disch := omega) only [go_sem, reduceIte, sliceB]
        · simp (disch := omega) only [go_sem, reduceIte, sliceB]
        · omega
        try simp only at n5 s5 r5
        repeat' (first | simp (disch := omega) only [go_sem, reduceIte, sliceB, t1, t8, t9, t10, t5, n5] | (with_reducible refine w_chain0 ?_ ?_; focus (decide +kernel)) | (with_reducible refine condK_of _ _ ?_ ?_ <;> (intro hb; try simp only [decide_eq_true_eq, decide_eq_false_iff_not] at hb)) | (with_reducible refine gdK_of_f _ _ _ _ _ ?_ ?_ <;> (intro hb; try simp only [decide_eq_true_eq, decide_eq_false_iff_not] at hb)) | (with_reducible refine gdK_of_t _ _ _ _ _ ?_ ?_ <;> (intro hb; try simp only [decide_eq_true_eq, decide_eq_false_iff_not] at hb)) | (with_reducible refine gK_of_f _ _ _ ?_ ?_ <;> (intro hb; try simp only [decide_eq_true_eq, decide_eq_false_iff_not] at hb)) | (with_reducible refine gK_of_t _ _ _ ?_ ?_ <;> (intro hb; try simp only [decide_eq_true_eq, decide_eq_false_iff_not] at hb)))
        refine ⟨l.length - (j + 1), by omega, j + 1, _, h.next + 1 + 1, by omega, rfl, by simp, rfl, ?_, fun _ => by omega, by omega, fun X hX => ?_⟩
        · rw [htk, List.length_append]
          have : intsC (compF ks (l.take j) ++ [x.c]) = intsC (compF ks (l.take j)) ++ [.int .i64 x.c] := by simp [intsC]
          rw [this]
          exact r5
        · rw [s5 X (by omega) (by omega)]
          simp (disch := omega) only [go_sem, reduceIte, sliceB]
          exact hold X hX
      | false =>
        rw [if_neg (by rw [hb]; decide), List.append_nil] at htk
        repeat' (first | simp (disch := omega) only [go_sem, reduceIte, sliceB, t1, t8, t9, t10, t5] | (with_reducible refine w_chain0 ?_ ?_; focus (decide +kernel)) | (with_reducible refine condK_of _ _ ?_ ?_ <;> (intro hb; try simp only [decide_eq_true_eq, decide_eq_false_iff_not] at hb)) | (with_reducible refine gdK_of_f _ _ _ _ _ ?_ ?_ <;> (intro hb; try simp only [decide_eq_true_eq, decide_eq_false_iff_not] at hb)) | (with_reducible refine gdK_of_t _ _ _ _ _ ?_ ?_ <;> (intro hb; try simp only [decide_eq_true_eq, decide_eq_false_iff_not] at hb)) | (with_reducible refine gK_of_f _ _ _ ?_ ?_ <;> (intro hb; try simp only [decide_eq_true_eq, decide_eq_false_iff_not] at hb)) | (with_reducible refine gK_of_t _ _ _ ?_ ?_ <;> (intro hb; try simp only [decide_eq_true_eq, decide_eq_false_iff_not] at hb)))
        refine ⟨l.length - (j + 1), by omega, j + 1, _, kk, by omega, rfl, by simp, rfl, by rw [htk]; exact hrow.frame2 fun h0 => by have := hkk h0; simp (disch := omega) only [go_sem, reduceIte, sliceB], fun h0 => ?_, by omega, fun X hX => by simp (disch := omega) only [go_sem, reduceIte, sliceB]; exact hold X hX⟩
        rw [htk] at h0
        have := hkk h0
        omega
    · obtain rfl : j = l.length := by omega
      rw [List.take_length] at hrow hkk
      have hsl : (sortI (compF ks l)).length = (compF ks l).length := List.length_mergeSort _
      rcases hrow.inv with ⟨r1, r2, r3⟩ | ⟨r1, r2, r3, r4⟩
      · have hnil : sortI (compF ks l) = [] := List.length_eq_zero_iff.1 (by omega)
        rw [hnil]
        rw [r2] at t5
        have d1 : ∀ H, cSort [.slice none 0 0] H = some (.tuple ⟨[]⟩, H) := fun _ => rfl
        have d2 : ∀ H, cCompact [.slice none 0 0] H = some (.slice none 0 0, H) := fun _ => rfl
        have d3 : ∀ H, cClip [.slice none 0 0] H = some (.slice none 0 0, H) := fun _ => rfl
        repeat' (first | simp (disch := omega) only [go_sem, reduceIte, sliceB, t1, t8, t9, t10, t5, hso, hcm, hcl, d1, d2, d3, Tryz.results67] | (with_reducible refine w_chain0 ?_ ?_; focus (decide +kernel)) | (with_reducible refine condK_of _ _ ?_ ?_ <;> (intro hb; try simp only [decide_eq_true_eq, decide_eq_false_iff_not] at hb)) | (with_reducible refine gdK_of_f _ _ _ _ _ ?_ ?_ <;> (intro hb; try simp only [decide_eq_true_eq, decide_eq_false_iff_not] at hb)) | (with_reducible refine gdK_of_t _ _ _ _ _ ?_ ?_ <;> (intro hb; try simp only [decide_eq_true_eq, decide_eq_false_iff_not] at hb)) | (with_reducible refine gK_of_f _ _ _ ?_ ?_ <;> (intro hb; try simp only [decide_eq_true_eq, decide_eq_false_iff_not] at hb)) | (with_reducible refine gK_of_t _ _ _ ?_ ?_ <;> (intro hb; try simp only [decide_eq_true_eq, decide_eq_false_iff_not] at hb)))
        show ∃ ex, EndsF s [] ex [] _ (.slice none 0 0) _
        all_goals (refine ends_mk [] ?_ rfl ?_ ?_ ?_ ?_ <;> (try (intro X hX1 hX2; simp only [KeyIn, or_false, not_or, not_false_eq_true] at hX2)) <;> (try simp (disch := omega) only [go_sem, reduceIte, sliceB, AllMods, DistG, KeyIn, setL, news, not_false_eq_true, or_false, not_or, ne_eq, AllAt, AllObs, Dist, NotIn, kap_zero, kap_succ, kap_nil, inv_lt, inv_self, inv_add, ren_int, intsC_ren, and_true, and_self]) <;> (try omega))
        exact hold X hX1
      · obtain ⟨m, hm⟩ : ∃ m, (compF ks l).length = m + 1 := ⟨(compF ks l).length - 1, by omega⟩
        obtain ⟨k1, k2⟩ := hkk (by omega)
        rw [hm] at r2
        rw [r2] at t5
        have hm0 : m + 1 ≤ 1000 := by
          have : (compF ks l).length ≤ l.length := by
            unfold compF
            rw [List.length_map]
            exact List.length_filter_le _ _
          omega
        have hm1 : m ≤ 1000000 := by omega
        have d1 : ∀ H : Hp, H.t.at_ kk = some (.cells (intsC (compF ks l)) 3 true) → cSort [.slice (some ⟨kk, 0, none⟩) (m + 1) 0] H = some (.tuple ⟨[]⟩, ⟨H.t.set kk (some (.cells (intsC (sortI (compF ks l))) 3 true)), H.next⟩) := fun H hH => by
          simp only [cSort, hH, intsL_of]
          rw [if_pos ⟨hm, trivial, by omega⟩]
        have d2 : ∀ H : Hp, H.t.at_ kk = some (.cells (intsC (sortI (compF ks l))) 3 true) → cCompact [.slice (some ⟨kk, 0, none⟩) (m + 1) 0] H = some (.slice (some ⟨kk, 0, none⟩) (m + 1) 0, H) := fun H hH => by
          have : (rowB H.t 1 (.slice (some ⟨kk, 0, none⟩) (m + 1) 0)).bind intsL = some (sortI (compF ks l)) := by
            simp only [rowB, hH]
            unfold readCells
            have hlc : (intsC (sortI (compF ks l))).length = m + 1 := by rw [intsC_len]; omega
            rw [List.drop_zero, Nat.mul_one, has_le (by omega), List.take_of_length_le (by omega)]
            exact intsL_of _
          simp only [cCompact, this]
          rw [if_pos ⟨hap, by rw [hsl]; omega⟩]
        have d3 : ∀ H : Hp, H.t.at_ kk = some (.cells (intsC (sortI (compF ks l))) 3 true) → cClip [.slice (some ⟨kk, 0, none⟩) (m + 1) 0] H = some (.slice (some ⟨kk, 0, none⟩) (m + 1) (m + 2), H) := fun H hH => by
          simp only [cClip, hH]
          rw [if_pos ⟨trivial, hm1⟩]
        repeat' (first | simp (disch := omega) only [go_sem, reduceIte, sliceB, t1, t8, t9, t10, t5, hso] | (with_reducible refine w_chain0 ?_ ?_; focus (decide +kernel)) | (with_reducible refine condK_of _ _ ?_ ?_ <;> (intro hb; try simp only [decide_eq_true_eq, decide_eq_false_iff_not] at hb)) | (with_reducible refine gdK_of_f _ _ _ _ _ ?_ ?_ <;> (intro hb; try simp only [decide_eq_true_eq, decide_eq_false_iff_not] at hb)) | (with_reducible refine gdK_of_t _ _ _ _ _ ?_ ?_ <;> (intro hb; try simp only [decide_eq_true_eq, decide_eq_false_iff_not] at hb)) | (with_reducible refine gK_of_f _ _ _ ?_ ?_ <;> (intro hb; try simp only [decide_eq_true_eq, decide_eq_false_iff_not] at hb)) | (with_reducible refine gK_of_t _ _ _ ?_ ?_ <;> (intro hb; try simp only [decide_eq_true_eq, decide_eq_false_iff_not] at hb)))
        refine ⟨_, d1 _ r3, ?_⟩
        repeat' (first | simp (disch := omega) only [go_sem, reduceIte, sliceB, t1, t8, t9, t10, t5, hcm] | (with_reducible refine w_chain0 ?_ ?_; focus (decide +kernel)) | (with_reducible refine condK_of _ _ ?_ ?_ <;> (intro hb; try simp only [decide_eq_true_eq, decide_eq_false_iff_not] at hb)) | (with_reducible refine gdK_of_f _ _ _ _ _ ?_ ?_ <;> (intro hb; try simp only [decide_eq_true_eq, decide_eq_false_iff_not] at hb)) | (with_reducible refine gdK_of_t _ _ _ _ _ ?_ ?_ <;> (intro hb; try simp only [decide_eq_true_eq, decide_eq_false_iff_not] at hb)) | (with_reducible refine gK_of_f _ _ _ ?_ ?_ <;> (intro hb; try simp only [decide_eq_true_eq, decide_eq_false_iff_not] at hb)) | (with_reducible refine gK_of_t _ _ _ ?_ ?_ <;> (intro hb; try simp only [decide_eq_true_eq, decide_eq_false_iff_not] at hb)))
        refine ⟨_, d2 _ (by simp (disch := omega) only [go_sem, reduceIte, sliceB]), ?_⟩
        repeat' (first | simp (disch := omega) only [go_sem, reduceIte, sliceB, t1, t8, t9, t10, t5, hcl] | (with_reducible refine w_chain0 ?_ ?_; focus (decide +kernel)) | (with_reducible refine condK_of _ _ ?_ ?_ <;> (intro hb; try simp only [decide_eq_true_eq, decide_eq_false_iff_not] at hb)) | (with_reducible refine gdK_of_f _ _ _ _ _ ?_ ?_ <;> (intro hb; try simp only [decide_eq_true_eq, decide_eq_false_iff_not] at hb)) | (with_reducible refine gdK_of_t _ _ _ _ _ ?_ ?_ <;> (intro hb; try simp only [decide_eq_true_eq, decide_eq_false_iff_not] at hb)) | (with_reducible refine gK_of_f _ _ _ ?_ ?_ <;> (intro hb; try simp only [decide_eq_true_eq, decide_eq_false_iff_not] at hb)) | (with_reducible refine gK_of_t _ _ _ ?_ ?_ <;> (intro hb; try simp only [decide_eq_true_eq, decide_eq_false_iff_not] at hb)))
        refine ⟨_, d3 _ (by simp (disch := omega) only [go_sem, reduceIte, sliceB]), ?_⟩
        obtain ⟨b, r, hbr⟩ : ∃ b r, sortI (compF ks l) = b :: r := by
          cases e : sortI (compF ks l) with
          | nil => rw [e] at hsl; simp at hsl; omega
          | cons b r => exact ⟨b, r, rfl⟩
        have hrl : r.length = m := by rw [hbr] at hsl; simp at hsl; omega
        repeat' (first | simp (disch := omega) only [go_sem, reduceIte, sliceB, t1, t8, t9, t10, t5, Tryz.results67] | (with_reducible refine w_chain0 ?_ ?_; focus (decide +kernel)) | (with_reducible refine condK_of _ _ ?_ ?_ <;> (intro hb; try simp only [decide_eq_true_eq, decide_eq_false_iff_not] at hb)) | (with_reducible refine gdK_of_f _ _ _ _ _ ?_ ?_ <;> (intro hb; try simp only [decide_eq_true_eq, decide_eq_false_iff_not] at hb)) | (with_reducible refine gdK_of_t _ _ _ _ _ ?_ ?_ <;> (intro hb; try simp only [decide_eq_true_eq, decide_eq_false_iff_not] at hb)) | (with_reducible refine gK_of_f _ _ _ ?_ ?_ <;> (intro hb; try simp only [decide_eq_true_eq, decide_eq_false_iff_not] at hb)) | (with_reducible refine gK_of_t _ _ _ ?_ ?_ <;> (intro hb; try simp only [decide_eq_true_eq, decide_eq_false_iff_not] at hb)))
        rw [hbr]
        subst hrl
        show ∃ ex, EndsF s [] ex [.cells (intsC (b :: r)) 3 true] _ (.slice (some ⟨s.next, 0, none⟩) (r.length + 1) (r.length + 2)) _
        all_goals (refine ends_mk [kk] ?_ rfl ?_ ?_ ?_ ?_ <;> (try (intro X hX1 hX2; simp only [KeyIn, or_false, not_or, not_false_eq_true] at hX2)) <;> (try simp (disch := omega) only [go_sem, reduceIte, sliceB, AllMods, DistG, KeyIn, setL, news, not_false_eq_true, or_false, not_or, ne_eq, AllAt, AllObs, Dist, NotIn, kap_zero, kap_succ, kap_nil, inv_lt, inv_self, inv_add, ren_int, intsC_ren, and_true, and_self, intsC_ren]) <;> (try omega))
        exact hold X hX1
def cParts : Sym.CallS := fun args s => match args with
  | [v] => match (rowB s.t 2 v).bind colsL with
    | some l => if apart (sortI (compF [1, 2] l)) = true ∧ apart (sortI (compF [4] l)) = true ∧ l.length ≤ 1000 then
        some (.tuple ⟨[rowKV s.next (sortI (compF [1, 2] l)), rowKV (s.next + (rowKO (sortI (compF [1, 2] l))).length) (sortI (compF [4] l)), .bool (l.any fun x => x.k == 5)]⟩, ⟨news s.t s.next (rowKO (sortI (compF [1, 2] l)) ++ rowKO (sortI (compF [4] l))), s.next + (rowKO (sortI (compF [1, 2] l)) ++ rowKO (sortI (compF [4] l))).length⟩) else none
    | _ => none
  | _ => none
theorem cComps_eq {H : Hp} {v kv : Value} {l : List Coln} {ks : List Int} (hv : (rowB H.t 2 v).bind colsL = some l) (hk : (rowB H.t 1 kv).bind intsL = some ks) (ha : apart (sortI (compF ks l)) = true) (hl : l.length ≤ 1000) (hkl : ks.length ≤ 1000) : cComps [v, kv] H = some (rowKV H.next (sortI (compF ks l)), ⟨news H.t H.next (rowKO (sortI (compF ks l))), H.next + (rowKO (sortI (compF ks l))).length⟩) := by
  simp only [cComps, hv, hk]
  rw [if_pos ⟨ha, hl, hkl⟩]
theorem parts_ok (hc : CallOK Tryz.prog G (LBegin Tryz.prog ν LL W may) ν call) (hcf : ∀ a h, call 64 a h = cContCol a h) (hcm : ∀ a h, call 67 a h = cComps a h) : SpecOK Tryz.prog G (LBegin Tryz.prog ν LL W may) ν 27 cParts := by
  refine fun_ok rfl (by kernel_rfl) hc fun args s v h' e Lv hlv hG => ?_
  unfold cParts at e
  split at e <;> try (cases e; done)
  rename_i v0
  split at e <;> try (cases e; done)
  rename_i l hl
  split at e <;> try (cases e; done)
  rename_i hq
  obtain ⟨ha1, ha2, hl1⟩ := hq
  simp only [Option.some.injEq, Prod.mk.injEq] at e
  obtain ⟨rfl, rfl⟩ := e
  have ltv : ∀ X, occ X v0 = true → X < s.next := fun X h => hlv.lt _ (hlv.arg X (by simp [occL, h]))
  have hv : ∀ H : Hp, (∀ X, X < s.next → H.t.at_ X = s.t.at_ X) → (rowB H.t 2 v0).bind colsL = some l := fun H hf => by
    rw [rowB_frame (t := s.t) fun X h => hf X (ltv X h)]; exact hl
  have hcc : cContCol [v0, .func (.func 66) ⟨[]⟩ ⟨[]⟩] s = some (.bool (l.any fun x => x.k == 5), s) := by
    have hp : predC s (.func (.func 66) ⟨[]⟩ ⟨[]⟩) = some fun x => x.k == 5 := rfl
    simp only [cContCol, hl, hp]
    rw [if_pos (by omega)]
  have hr : ∀ (H : Hp) (B : Nat) (ks : List Int) (c : Nat), H.t.at_ B = some (.cells (intsC ks) 3 true) → ks ≠ [] → (rowB H.t 1 (.slice (some ⟨B, 0, none⟩) ks.length c)).bind intsL = some ks := fun H B ks c hB _ => by
    simp only [rowB, hB]
    unfold readCells
    rw [List.drop_zero, Nat.mul_one, has_le (by rw [intsC_len]; omega), List.take_of_length_le (by rw [intsC_len]; omega)]
    exact intsL_of _
  cases e1 : sortI (compF [1, 2] l) with
  | nil =>
    cases e2 : sortI (compF [4] l) with
    | nil =>
      have d1 : ∀ (H : Hp) (kv : Value), (rowB H.t 2 v0).bind colsL = some l → (rowB H.t 1 kv).bind intsL = some [1, 2] → cComps [v0, kv] H = some (.slice none 0 0, H) := fun H kv h1 h2 => by
        have := cComps_eq h1 h2 ha1 hl1 (by simp)
        rw [e1] at this
        exact this
      have d2 : ∀ (H : Hp) (kv : Value), (rowB H.t 2 v0).bind colsL = some l → (rowB H.t 1 kv).bind intsL = some [4] → cComps [v0, kv] H = some (.slice none 0 0, H) := fun H kv h1 h2 => by
        have := cComps_eq h1 h2 ha2 hl1 (by simp)
        rw [e2] at this
        exact this
      refine ⟨[], [], rfl, 0, ?_⟩
      show wpF _ _ _ _ _ _ fun u h1 => ∃ ex, EndsF s [] ex [] h1 (.tuple ⟨[.slice none 0 0, .slice none 0 0, .bool (l.any fun x => x.k == 5)]⟩) u
      refine ⟨Tryz.f27, _, Tryz.func27, rfl, by simp [Tryz.f27], ?_⟩; rw [Tryz.ntmps27]
      repeat' (first | simp (disch := omega) only [go_sem, reduceIte, sliceB, hcf, hcc, hcm] | (with_reducible refine w_chain0 ?_ ?_; focus (decide +kernel)) | (with_reducible refine condK_of _ _ ?_ ?_ <;> (intro hb; try simp only [decide_eq_true_eq, decide_eq_false_iff_not] at hb)) | (with_reducible refine gdK_of_f _ _ _ _ _ ?_ ?_ <;> (intro hb; try simp only [decide_eq_true_eq, decide_eq_false_iff_not] at hb)) | (with_reducible refine gdK_of_t _ _ _ _ _ ?_ ?_ <;> (intro hb; try simp only [decide_eq_true_eq, decide_eq_false_iff_not] at hb)) | (with_reducible refine gK_of_f _ _ _ ?_ ?_ <;> (intro hb; try simp only [decide_eq_true_eq, decide_eq_false_iff_not] at hb)) | (with_reducible refine gK_of_t _ _ _ ?_ ?_ <;> (intro hb; try simp only [decide_eq_true_eq, decide_eq_false_iff_not] at hb)))
      refine ⟨_, d1 _ _ (hv _ fun X hX => ?_) (hr _ s.next [1, 2] _ ?_ (by simp)), ?_⟩
      · simp (disch := omega) only [go_sem, reduceIte, sliceB]
      · simp (disch := omega) only [go_sem, reduceIte, sliceB]
        rfl
      repeat' (first | simp (disch := omega) only [go_sem, reduceIte, sliceB, hcm] | (with_reducible refine w_chain0 ?_ ?_; focus (decide +kernel)) | (with_reducible refine condK_of _ _ ?_ ?_ <;> (intro hb; try simp only [decide_eq_true_eq, decide_eq_false_iff_not] at hb)) | (with_reducible refine gdK_of_f _ _ _ _ _ ?_ ?_ <;> (intro hb; try simp only [decide_eq_true_eq, decide_eq_false_iff_not] at hb)) | (with_reducible refine gdK_of_t _ _ _ _ _ ?_ ?_ <;> (intro hb; try simp only [decide_eq_true_eq, decide_eq_false_iff_not] at hb)) | (with_reducible refine gK_of_f _ _ _ ?_ ?_ <;> (intro hb; try simp only [decide_eq_true_eq, decide_eq_false_iff_not] at hb)) | (with_reducible refine gK_of_t _ _ _ ?_ ?_ <;> (intro hb; try simp only [decide_eq_true_eq, decide_eq_false_iff_not] at hb)))
      refine ⟨_, d2 _ _ (hv _ fun X hX => ?_) (hr _ (s.next + 1) [4] _ ?_ (by simp)), ?_⟩
      · simp (disch := omega) only [go_sem, reduceIte, sliceB]
      · simp (disch := omega) only [go_sem, reduceIte, sliceB]
        rfl
      repeat' (first | simp (disch := omega) only [go_sem, reduceIte, sliceB, Tryz.results27] | (with_reducible refine w_chain0 ?_ ?_; focus (decide +kernel)) | (with_reducible refine condK_of _ _ ?_ ?_ <;> (intro hb; try simp only [decide_eq_true_eq, decide_eq_false_iff_not] at hb)) | (with_reducible refine gdK_of_f _ _ _ _ _ ?_ ?_ <;> (intro hb; try simp only [decide_eq_true_eq, decide_eq_false_iff_not] at hb)) | (with_reducible refine gdK_of_t _ _ _ _ _ ?_ ?_ <;> (intro hb; try simp only [decide_eq_true_eq, decide_eq_false_iff_not] at hb)) | (with_reducible refine gK_of_f _ _ _ ?_ ?_ <;> (intro hb; try simp only [decide_eq_true_eq, decide_eq_false_iff_not] at hb)) | (with_reducible refine gK_of_t _ _ _ ?_ ?_ <;> (intro hb; try simp only [decide_eq_true_eq, decide_eq_false_iff_not] at hb)))
      all_goals (refine ends_mk [] ?_ rfl ?_ ?_ ?_ ?_ <;> (try (intro X hX1 hX2; simp only [KeyIn, or_false, not_or, not_false_eq_true] at hX2)) <;> (try simp (disch := omega) only [go_sem, reduceIte, sliceB, AllMods, DistG, KeyIn, setL, news, not_false_eq_true, or_false, not_or, ne_eq, AllAt, AllObs, Dist, NotIn, kap_zero, kap_succ, kap_nil, inv_lt, inv_self, inv_add, ren_int, intsC_ren, and_true, and_self, intsC_ren]) <;> (try omega))
    | cons d q =>
      have d1 : ∀ (H : Hp) (kv : Value), (rowB H.t 2 v0).bind colsL = some l → (rowB H.t 1 kv).bind intsL = some [1, 2] → cComps [v0, kv] H = some (.slice none 0 0, H) := fun H kv h1 h2 => by
        have := cComps_eq h1 h2 ha1 hl1 (by simp)
        rw [e1] at this
        exact this
      have d2 : ∀ (H : Hp) (kv : Value), (rowB H.t 2 v0).bind colsL = some l → (rowB H.t 1 kv).bind intsL = some [4] → cComps [v0, kv] H = some (.slice (some ⟨H.next, 0, none⟩) (q.length + 1) (q.length + 2), ⟨H.t.set H.next (some (.cells (intsC (d :: q)) 3 true)), H.next + 1⟩) := fun H kv h1 h2 => by
        have := cComps_eq h1 h2 ha2 hl1 (by simp)
        rw [e2] at this
        exact this
      refine ⟨[], [.cells (intsC (d :: q)) 3 true], rfl, 0, ?_⟩
      show wpF _ _ _ _ _ _ fun u h1 => ∃ ex, EndsF s [] ex [.cells (intsC (d :: q)) 3 true] h1 (.tuple ⟨[.slice none 0 0, .slice (some ⟨s.next + 0, 0, none⟩) (q.length + 1) (q.length + 2), .bool (l.any fun x => x.k == 5)]⟩) u
      refine ⟨Tryz.f27, _, Tryz.func27, rfl, by simp [Tryz.f27], ?_⟩; rw [Tryz.ntmps27]
      repeat' (first | simp (disch := omega) only [go_sem, reduceIte, sliceB, hcf, hcc, hcm] | (with_reducible refine w_chain0 ?_ ?_; focus (decide +kernel)) | (with_reducible refine condK_of _ _ ?_ ?_ <;> (intro hb; try simp only [decide_eq_true_eq, decide_eq_false_iff_not] at hb)) | (with_reducible refine gdK_of_f _ _ _ _ _ ?_ ?_ <;> (intro hb; try simp only [decide_eq_true_eq, decide_eq_false_iff_not] at hb)) | (with_reducible refine gdK_of_t _ _ _ _ _ ?_ ?_ <;> (intro hb; try simp only [decide_eq_true_eq, decide_eq_false_iff_not] at hb)) | (with_reducible refine gK_of_f _ _ _ ?_ ?_ <;> (intro hb; try simp only [decide_eq_true_eq, decide_eq_false_iff_not] at hb)) | (with_reducible refine gK_of_t _ _ _ ?_ ?_ <;> (intro hb; try simp only [decide_eq_true_eq, decide_eq_false_iff_not] at hb)))
      refine ⟨_, d1 _ _ (hv _ fun X hX => ?_) (hr _ s.next [1, 2] _ ?_ (by simp)), ?_⟩
      · simp (disch := omega) only [go_sem, reduceIte, sliceB]
      · simp (disch := omega) only [go_sem, reduceIte, sliceB]
        rfl
      repeat' (first | simp (disch := omega) only [go_sem, reduceIte, sliceB, hcm] | (with_reducible refine w_chain0 ?_ ?_; focus (decide +kernel)) | (with_reducible refine condK_of _ _ ?_ ?_ <;> (intro hb; try simp only [decide_eq_true_eq, decide_eq_false_iff_not] at hb)) | (with_reducible refine gdK_of_f _ _ _ _ _ ?_ ?_ <;> (intro hb; try simp only [decide_eq_true_eq, decide_eq_false_iff_not] at hb)) | (with_reducible refine gdK_of_t _ _ _ _ _ ?_ ?_ <;> (intro hb; try simp only [decide_eq_true_eq, decide_eq_false_iff_not] at hb)) | (with_reducible refine gK_of_f _ _ _ ?_ ?_ <;> (intro hb; try simp only [decide_eq_true_eq, decide_eq_false_iff_not] at hb)) | (with_reducible refine gK_of_t _ _ _ ?_ ?_ <;> (intro hb; try simp only [decide_eq_true_eq, decide_eq_false_iff_not] at hb)))
      refine ⟨_, d2 _ _ (hv _ fun X hX => ?_) (hr _ (s.next + 1) [4] _ ?_ (by simp)), ?_⟩
      · simp (disch := omega) only [go_sem, reduceIte, sliceB]
      · simp (disch := omega) only [go_sem, reduceIte, sliceB]
        rfl
      repeat' (first | simp (disch := omega) only [go_sem, reduceIte, sliceB, Tryz.results27] | (with_reducible refine w_chain0 ?_ ?_; focus (decide +kernel)) | (with_reducible refine condK_of _ _ ?_ ?_ <;> (intro hb; try simp only [decide_eq_true_eq, decide_eq_false_iff_not] at hb)) | (with_reducible refine gdK_of_f _ _ _ _ _ ?_ ?_ <;> (intro hb; try simp only [decide_eq_true_eq, decide_eq_false_iff_not] at hb)) | (with_reducible refine gdK_of_t _ _ _ _ _ ?_ ?_ <;> (intro hb; try simp only [decide_eq_true_eq, decide_eq_false_iff_not] at hb)) | (with_reducible refine gK_of_f _ _ _ ?_ ?_ <;> (intro hb; try simp only [decide_eq_true_eq, decide_eq_false_iff_not] at hb)) | (with_reducible refine gK_of_t _ _ _ ?_ ?_ <;> (intro hb; try simp only [decide_eq_true_eq, decide_eq_false_iff_not] at hb)))
      all_goals (refine ends_mk [s.next + 2] ?_ rfl ?_ ?_ ?_ ?_ <;> (try (intro X hX1 hX2; simp only [KeyIn, or_false, not_or, not_false_eq_true] at hX2)) <;> (try simp (disch := omega) only [go_sem, reduceIte, sliceB, AllMods, DistG, KeyIn, setL, news, not_false_eq_true, or_false, not_or, ne_eq, AllAt, AllObs, Dist, NotIn, kap_zero, kap_succ, kap_nil, inv_lt, inv_self, inv_add, ren_int, intsC_ren, and_true, and_self, intsC_ren]) <;> (try omega))
  | cons b r =>
    cases e2 : sortI (compF [4] l) with
    | nil =>
      have d1 : ∀ (H : Hp) (kv : Value), (rowB H.t 2 v0).bind colsL = some l → (rowB H.t 1 kv).bind intsL = some [1, 2] → cComps [v0, kv] H = some (.slice (some ⟨H.next, 0, none⟩) (r.length + 1) (r.length + 2), ⟨H.t.set H.next (some (.cells (intsC (b :: r)) 3 true)), H.next + 1⟩) := fun H kv h1 h2 => by
        have := cComps_eq h1 h2 ha1 hl1 (by simp)
        rw [e1] at this
        exact this
      have d2 : ∀ (H : Hp) (kv : Value), (rowB H.t 2 v0).bind colsL = some l → (rowB H.t 1 kv).bind intsL = some [4] → cComps [v0, kv] H = some (.slice none 0 0, H) := fun H kv h1 h2 => by
        have := cComps_eq h1 h2 ha2 hl1 (by simp)
        rw [e2] at this
        exact this
      refine ⟨[], [.cells (intsC (b :: r)) 3 true], rfl, 0, ?_⟩
      show wpF _ _ _ _ _ _ fun u h1 => ∃ ex, EndsF s [] ex [.cells (intsC (b :: r)) 3 true] h1 (.tuple ⟨[.slice (some ⟨s.next, 0, none⟩) (r.length + 1) (r.length + 2), .slice none 0 0, .bool (l.any fun x => x.k == 5)]⟩) u
      refine ⟨Tryz.f27, _, Tryz.func27, rfl, by simp [Tryz.f27], ?_⟩; rw [Tryz.ntmps27]
      repeat' (first | simp (disch := omega) only [go_sem, reduceIte, sliceB, hcf, hcc, hcm] | (with_reducible refine w_chain0 ?_ ?_; focus (decide +kernel)) | (with_reducible refine condK_of _ _ ?_ ?_ <;> (intro hb; try simp only [decide_eq_true_eq, decide_eq_false_iff_not] at hb)) | (with_reducible refine gdK_of_f _ _ _ _ _ ?_ ?_ <;> (intro hb; try simp only [decide_eq_true_eq, decide_eq_false_iff_not] at hb)) | (with_reducible refine gdK_of_t _ _ _ _ _ ?_ ?_ <;> (intro hb; try simp only [decide_eq_true_eq, decide_eq_false_iff_not] at hb)) | (with_reducible refine gK_of_f _ _ _ ?_ ?_ <;> (intro hb; try simp only [decide_eq_true_eq, decide_eq_false_iff_not] at hb)) | (with_reducible refine gK_of_t _ _ _ ?_ ?_ <;> (intro hb; try simp only [decide_eq_true_eq, decide_eq_false_iff_not] at hb)))
      refine ⟨_, d1 _ _ (hv _ fun X hX => ?_) (hr _ s.next [1, 2] _ ?_ (by simp)), ?_⟩
      · simp (disch := omega) only [go_sem, reduceIte, sliceB]
      · simp (disch := omega) only [go_sem, reduceIte, sliceB]
        rfl
      repeat' (first | simp (disch := omega) only [go_sem, reduceIte, sliceB, hcm] | (with_reducible refine w_chain0 ?_ ?_; focus (decide +kernel)) | (with_reducible refine condK_of _ _ ?_ ?_ <;> (intro hb; try simp only [decide_eq_true_eq, decide_eq_false_iff_not] at hb)) | (with_reducible refine gdK_of_f _ _ _ _ _ ?_ ?_ <;> (intro hb; try simp only [decide_eq_true_eq, decide_eq_false_iff_not] at hb)) | (with_reducible refine gdK_of_t _ _ _ _ _ ?_ ?_ <;> (intro hb; try simp only [decide_eq_true_eq, decide_eq_false_iff_not] at hb)) | (with_reducible refine gK_of_f _ _ _ ?_ ?_ <;> (intro hb; try simp only [decide_eq_true_eq, decide_eq_false_iff_not] at hb)) | (with_reducible refine gK_of_t _ _ _ ?_ ?_ <;> (intro hb; try simp only [decide_eq_true_eq, decide_eq_false_iff_not] at hb)))
      refine ⟨_, d2 _ _ (hv _ fun X hX => ?_) (hr _ (s.next + 2) [4] _ ?_ (by simp)), ?_⟩
      · simp (disch := omega) only [go_sem, reduceIte, sliceB]
      · simp (disch := omega) only [go_sem, reduceIte, sliceB]
        rfl
      repeat' (first | simp (disch := omega) only [go_sem, reduceIte, sliceB, Tryz.results27] | (with_reducible refine w_chain0 ?_ ?_; focus (decide +kernel)) | (with_reducible refine condK_of _ _ ?_ ?_ <;> (intro hb; try simp only [decide_eq_true_eq, decide_eq_false_iff_not] at hb)) | (with_reducible refine gdK_of_f _ _ _ _ _ ?_ ?_ <;> (intro hb; try simp only [decide_eq_true_eq, decide_eq_false_iff_not] at hb)) | (with_reducible refine gdK_of_t _ _ _ _ _ ?_ ?_ <;> (intro hb; try simp only [decide_eq_true_eq, decide_eq_false_iff_not] at hb)) | (with_reducible refine gK_of_f _ _ _ ?_ ?_ <;> (intro hb; try simp only [decide_eq_true_eq, decide_eq_false_iff_not] at hb)) | (with_reducible refine gK_of_t _ _ _ ?_ ?_ <;> (intro hb; try simp only [decide_eq_true_eq, decide_eq_false_iff_not] at hb)))
      all_goals (refine ends_mk [s.next + 1] ?_ rfl ?_ ?_ ?_ ?_ <;> (try (intro X hX1 hX2; simp only [KeyIn, or_false, not_or, not_false_eq_true] at hX2)) <;> (try simp (disch := omega) only [go_sem, reduceIte, sliceB, AllMods, DistG, KeyIn, setL, news, not_false_eq_true, or_false, not_or, ne_eq, AllAt, AllObs, Dist, NotIn, kap_zero, kap_succ, kap_nil, inv_lt, inv_self, inv_add, ren_int, intsC_ren, and_true, and_self, intsC_ren]) <;> (try omega))
    | cons d q =>
      have d1 : ∀ (H : Hp) (kv : Value), (rowB H.t 2 v0).bind colsL = some l → (rowB H.t 1 kv).bind intsL = some [1, 2] → cComps [v0, kv] H = some (.slice (some ⟨H.next, 0, none⟩) (r.length + 1) (r.length + 2), ⟨H.t.set H.next (some (.cells (intsC (b :: r)) 3 true)), H.next + 1⟩) := fun H kv h1 h2 => by
        have := cComps_eq h1 h2 ha1 hl1 (by simp)
        rw [e1] at this
        exact this
      have d2 : ∀ (H : Hp) (kv : Value), (rowB H.t 2 v0).bind colsL = some l → (rowB H.t 1 kv).bind intsL = some [4] → cComps [v0, kv] H = some (.slice (some ⟨H.next, 0, none⟩) (q.length + 1) (q.length + 2), ⟨H.t.set H.next (some (.cells (intsC (d :: q)) 3 true)), H.next + 1⟩) := fun H kv h1 h2 => by
        have := cComps_eq h1 h2 ha2 hl1 (by simp)
        rw [e2] at this
        exact this
      refine ⟨[], [.cells (intsC (b :: r)) 3 true, .cells (intsC (d :: q)) 3 true], rfl, 0, ?_⟩
      show wpF _ _ _ _ _ _ fun u h1 => ∃ ex, EndsF s [] ex [.cells (intsC (b :: r)) 3 true, .cells (intsC (d :: q)) 3 true] h1 (.tuple ⟨[.slice (some ⟨s.next, 0, none⟩) (r.length + 1) (r.length + 2), .slice (some ⟨s.next + 1, 0, none⟩) (q.length + 1) (q.length + 2), .bool (l.any fun x => x.k == 5)]⟩) u
      refine ⟨Tryz.f27, _, Tryz.func27, rfl, by simp [Tryz.f27], ?_⟩; rw [Tryz.ntmps27]
      repeat' (first | simp (disch := omega) only [go_sem, reduceIte, sliceB, hcf, hcc, hcm] | (with_reducible refine w_chain0 ?_ ?_; focus (decide +kernel)) | (with_reducible refine condK_of _ _ ?_ ?_ <;> (intro hb; try simp only [decide_eq_true_eq, decide_eq_false_iff_not] at hb)) | (with_reducible refine gdK_of_f _ _ _ _ _ ?_ ?_ <;> (intro hb; try simp only [decide_eq_true_eq, decide_eq_false_iff_not] at hb)) | (with_reducible refine gdK_of_t _ _ _ _ _ ?_ ?_ <;> (intro hb; try simp only [decide_eq_true_eq, decide_eq_false_iff_not] at hb)) | (with_reducible refine gK_of_f _ _ _ ?_ ?_ <;> (intro hb; try simp only [decide_eq_true_eq, decide_eq_false_iff_not] at hb)) | (with_reducible refine gK_of_t _ _ _ ?_ ?_ <;> (intro hb; try simp only [decide_eq_true_eq, decide_eq_false_iff_not] at hb)))
      refine ⟨_, d1 _ _ (hv _ fun X hX => ?_) (hr _ s.next [1, 2] _ ?_ (by simp)), ?_⟩
      · simp (disch := omega) only [go_sem, reduceIte, sliceB]
      · simp (disch := omega) only [go_sem, reduceIte, sliceB]
        rfl
      repeat' (first | simp (disch := omega) only [go_sem, reduceIte, sliceB, hcm] | (with_reducible refine w_chain0 ?_ ?_; focus (decide +kernel)) | (with_reducible refine condK_of _ _ ?_ ?_ <;> (intro hb; try simp only [decide_eq_true_eq, decide_eq_false_iff_not] at hb)) | (with_reducible refine gdK_of_f _ _ _ _ _ ?_ ?_ <;> (intro hb; try simp only [decide_eq_true_eq, decide_eq_false_iff_not] at hb)) | (with_reducible refine gdK_of_t _ _ _ _ _ ?_ ?_ <;> (intro hb; try simp only [decide_eq_true_eq, decide_eq_false_iff_not] at hb)) | (with_reducible refine gK_of_f _ _ _ ?_ ?_ <;> (intro hb; try simp only [decide_eq_true_eq, decide_eq_false_iff_not] at hb)) | (with_reducible refine gK_of_t _ _ _ ?_ ?_ <;> (intro hb; try simp only [decide_eq_true_eq, decide_eq_false_iff_not] at hb)))
      refine ⟨_, d2 _ _ (hv _ fun X hX => ?_) (hr _ (s.next + 2) [4] _ ?_ (by simp)), ?_⟩
      · simp (disch := omega) only [go_sem, reduceIte, sliceB]
      · simp (disch := omega) only [go_sem, reduceIte, sliceB]
        rfl
      repeat' (first | simp (disch := omega) only [go_sem, reduceIte, sliceB, Tryz.results27] | (with_reducible refine w_chain0 ?_ ?_; focus (decide +kernel)) | (with_reducible refine condK_of _ _ ?_ ?_ <;> (intro hb; try simp only [decide_eq_true_eq, decide_eq_false_iff_not] at hb)) | (with_reducible refine gdK_of_f _ _ _ _ _ ?_ ?_ <;> (intro hb; try simp only [decide_eq_true_eq, decide_eq_false_iff_not] at hb)) | (with_reducible refine gdK_of_t _ _ _ _ _ ?_ ?_ <;> (intro hb; try simp only [decide_eq_true_eq, decide_eq_false_iff_not] at hb)) | (with_reducible refine gK_of_f _ _ _ ?_ ?_ <;> (intro hb; try simp only [decide_eq_true_eq, decide_eq_false_iff_not] at hb)) | (with_reducible refine gK_of_t _ _ _ ?_ ?_ <;> (intro hb; try simp only [decide_eq_true_eq, decide_eq_false_iff_not] at hb)))
      all_goals (refine ends_mk [s.next + 1, s.next + 3] ?_ rfl ?_ ?_ ?_ ?_ <;> (try (intro X hX1 hX2; simp only [KeyIn, or_false, not_or, not_false_eq_true] at hX2)) <;> (try simp (disch := omega) only [go_sem, reduceIte, sliceB, AllMods, DistG, KeyIn, setL, news, not_false_eq_true, or_false, not_or, ne_eq, AllAt, AllObs, Dist, NotIn, kap_zero, kap_succ, kap_nil, inv_lt, inv_self, inv_add, ren_int, intsC_ren, and_true, and_self, intsC_ren]) <;> (try omega))
end
end Go.Proofs.YtmcigeebeoobdaaGreatDoor
end
