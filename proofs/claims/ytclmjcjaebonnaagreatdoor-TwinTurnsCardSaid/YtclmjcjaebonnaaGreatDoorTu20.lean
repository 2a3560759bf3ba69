/-
  Several texts in one. Package alloc over structures: New (the good way).
-/
import Derived.Test.YtclmjcjaebonnaaGreatDoorTu19
import Derived.Test.YtclmjcjaebonnaaGreatDoorTu15
import Derived.Test.YtclmjcjaebonnaaGreatDoorTu18
section
set_option linter.unusedSimpArgs false
set_option linter.unusedVariables false
namespace Go.Viv
theorem getD_rep {α : Type} (n i : Nat) (x : α) : (List.replicate n x).getD i x = x := by
  rw [List.getD_eq_getElem?_getD, List.getElem?_replicate]
  split <;> rfl
theorem Als.new_st (n : Nat) (top : Int) (i : Nat) : (Als.new n top).stAt i = 0 := getD_rep _ _ _
theorem Als.new_gen (n : Nat) (top : Int) (i : Nat) : (Als.new n top).genAt i = 0 := getD_rep _ _ _
theorem Als.new_free (n : Nat) (top : Int) : (Als.new n top).idx 0 = List.range n := by
  unfold Als.idx
  rw [List.filter_eq_self.2 fun i _ => by rw [Als.new_st]; rfl]
  simp [Als.new]
theorem Als.new_none (n : Nat) (top : Int) (s : Nat) (h : s ≠ 0) : (Als.new n top).idx s = [] := by
  unfold Als.idx
  rw [List.filter_eq_nil_iff]
  intro i _
  rw [Als.new_st]
  simp [Ne.symm h]
theorem AlsOk.new {n : Nat} {top : Int} (h1 : 1 ≤ n) (h2 : n ≤ 65536) (h3 : 1 ≤ top) (h4 : top ≤ 4294967295) : AlsOk (Als.new n top) where
  len := by simp [Als.new]
  lo := by simp [Als.new]; omega
  hi := by simp [Als.new]; omega
  top := ⟨h3, h4⟩
  gen i := by rw [Als.new_gen]; exact ⟨by omega, by show (0 : Int) ≤ top; omega⟩
  free i _ _ := by rw [Als.new_gen]; show (0 : Int) < top; omega
  st i := .inl (Als.new_st n top i)
theorem insN_range (j : Nat) : insN j (List.range j) = List.range (j + 1) :=
  riseN_ext (riseN_ins (rise_of_pairwise List.pairwise_lt_range)) (rise_of_pairwise List.pairwise_lt_range) fun x => by
    rw [mem_insN, List.mem_range, List.mem_range]; omega
end Go.Viv
namespace Go.Proofs.YtclmjcjaebonnaaGreatDoor
open Go Go.RowKit Go.Viv Go.Eva Go.Sym
def cNewA : Sym.CallS := fun args s => match args with
  | [.int .i64 n, .int .i64 top] => match Nat.ble 1 n.toNat && Nat.ble n.toNat 65536 && Nat.ble 1 top.toNat && Nat.ble top.toNat 4294967295 with
    | true => some (.tuple ⟨[.pointer (some ⟨s.next, 0, none⟩), .int .i64 0]⟩, ⟨s.t.set s.next (some (.res (.alloc (Als.new n.toNat top)))), s.next + 1⟩)
    | false => none
  | _ => none
section
variable {G : Nat} {ν : Toks} {W : World} {may : Nat → Prop} {call : CallB}
theorem newA_ok (hc : CallOK Tryz.prog G (LBegin Tryz.prog ν LL W may) ν call) (hh : HibC call) : SpecOK Tryz.prog G (LBegin Tryz.prog ν LL W may) ν 35 cNewA := by
  refine make_ok rfl (by kernel_rfl) hc fun args s v h' e Lv hlv hG => ?_
  unfold cNewA at e
  split at e <;> try (cases e; done)
  rename_i n top
  split at e <;> try (cases e; done)
  rename_i hd
  simp only [Bool.and_eq_true] at hd
  obtain ⟨⟨⟨d1, d2⟩, d3⟩, d4⟩ := hd
  have h1' := ble_iff d1
  have h2' := ble_iff d2
  have h3' := ble_iff d3
  have h4' := ble_iff d4
  obtain ⟨N, rfl⟩ : ∃ N : Nat, n = (N : Int) := ⟨n.toNat, by omega⟩
  rw [Int.toNat_natCast] at h1' h2'
  simp only [Option.some.injEq, Prod.mk.injEq] at e
  obtain ⟨rfl, rfl⟩ := e
  refine ⟨_, rfl, ?_⟩
  rw [Int.toNat_natCast]
  have hb := apb2
  simp only [Option.map] at hb
  refine ⟨Tryz.f35, _, Tryz.func35, rfl, by simp [Tryz.f35], ?_⟩; rw [Tryz.ntmps35]
  repeat' (first | simp (disch := omega) only [go_sem, reduceIte, sliceB] | (with_reducible refine w_chain0 ?_ ?_; focus (decide +kernel)) | (with_reducible refine condK_of _ _ ?_ ?_ <;> (intro hb; try simp only [decide_eq_true_eq, decide_eq_false_iff_not] at hb)) | (with_reducible refine gdK_of_f _ _ _ _ _ ?_ ?_ <;> (intro hb; try simp only [decide_eq_true_eq, decide_eq_false_iff_not] at hb)) | (with_reducible refine gdK_of_t _ _ _ _ _ ?_ ?_ <;> (intro hb; try simp only [decide_eq_true_eq, decide_eq_false_iff_not] at hb)) | (with_reducible refine gK_of_f _ _ _ ?_ ?_ <;> (intro hb; try simp only [decide_eq_true_eq, decide_eq_false_iff_not] at hb)) | (with_reducible refine gK_of_t _ _ _ ?_ ?_ <;> (intro hb; try simp only [decide_eq_true_eq, decide_eq_false_iff_not] at hb)))
  refine w_plan [(4, []), (5, []), (6, []), (0, [4, 5, 6]), (1, [4, 5, 6]), (2, [4, 5, 6]), (3, []), (7, []), (8, []), (9, [])] 10 10 (by decide +kernel) ?_
  repeat' (first | simp (disch := omega) only [go_sem, reduceIte, sliceB, hb, hh.new, sNew, rep_int, veq_ints] | (with_reducible refine w_chain0 ?_ ?_; focus (decide +kernel)) | (with_reducible refine condK_of _ _ ?_ ?_ <;> (intro hb; try simp only [decide_eq_true_eq, decide_eq_false_iff_not] at hb)) | (with_reducible refine gdK_of_f _ _ _ _ _ ?_ ?_ <;> (intro hb; try simp only [decide_eq_true_eq, decide_eq_false_iff_not] at hb)) | (with_reducible refine gdK_of_t _ _ _ _ _ ?_ ?_ <;> (intro hb; try simp only [decide_eq_true_eq, decide_eq_false_iff_not] at hb)) | (with_reducible refine gK_of_f _ _ _ ?_ ?_ <;> (intro hb; try simp only [decide_eq_true_eq, decide_eq_false_iff_not] at hb)) | (with_reducible refine gK_of_t _ _ _ ?_ ?_ <;> (intro hb; try simp only [decide_eq_true_eq, decide_eq_false_iff_not] at hb)))
  have vq : ∀ (k : IntKind) (z : Int), veq (.int k z) (.int k z) = true := fun k z => by simp [veq]
  have oq : oeq (AObj.cells (intsC (List.replicate N 0)) 2 true) (AObj.cells (intsC (List.replicate N 0)) 2 true) = true := by simp [oeq, veq_ints]
  refine ⟨⟨oq, vq _ _, vq _ _, trivial⟩, ⟨oq, vq _ _, vq _ _, trivial⟩, ⟨oq, vq _ _, vq _ _, trivial⟩, ?_⟩
  refine w_loop (fun m T1 h1 => ∃ j, j ≤ N ∧ m = N - j ∧ Eva.look T1 31 = .int .i64 (N : Int) ∧ Eva.look T1 32 = .int .i64 (j : Int) ∧ Eva.look T1 6 = .pointer (some ⟨s.next + 8, 0, none⟩) ∧ h1.next = s.next + 10 + 1 + 1 + 1 ∧
    h1.t.at_ (s.next + 8) = some (.cells [.pointer (some ⟨s.next + 10, 0, none⟩), .pointer (some ⟨s.next + 10 + 1, 0, none⟩), .pointer (some ⟨s.next + 10 + 1 + 1, 0, none⟩), .int .i64 top, .slice (some ⟨s.next + 6, 0, none⟩) N (N + 1), .int .i64 0] 133 true) ∧
    h1.t.at_ (s.next + 10) = some (.res (.set (List.range j))) ∧ h1.t.at_ (s.next + 10 + 1) = some (.res (.set [])) ∧ h1.t.at_ (s.next + 10 + 1 + 1) = some (.res (.set [])) ∧ h1.t.at_ (s.next + 6) = some (.cells (intsC (List.replicate N 0)) 2 true) ∧
    ∀ X, X < s.next → h1.t.at_ X = s.t.at_ X) N ?_ ?_
  · refine ⟨0, by omega, by omega, ?_, ?_, ?_, ?_, ?_, ?_, ?_, ?_, ?_, ?_⟩ <;> (try intro X hX1) <;> (try simp (disch := omega) only [go_sem, reduceIte, sliceB]) <;> first | omega | rfl
  · rintro m T1 h1 ⟨j, hj, hm, t31, t32, t6, hnx, w8, wa, wb, wc, w6, hold⟩
    by_cases hlt : j < N
    · have e2 : inR (j : Int) = true := by unfold inR; rw [decide_eq_true (by omega), decide_eq_true (by omega)]; rfl
      repeat' (first | simp (disch := omega) only [go_sem, reduceIte, sliceB, t31, t32, t6, w8, wa, wb, wc, w6, hh.add, tAdd, Int.toNat_natCast, e2, insB_eq, insN_range] | (with_reducible refine w_chain0 ?_ ?_; focus (decide +kernel)) | (with_reducible refine condK_of _ _ ?_ ?_ <;> (intro hb; try simp only [decide_eq_true_eq, decide_eq_false_iff_not] at hb)) | (with_reducible refine gdK_of_f _ _ _ _ _ ?_ ?_ <;> (intro hb; try simp only [decide_eq_true_eq, decide_eq_false_iff_not] at hb)) | (with_reducible refine gdK_of_t _ _ _ _ _ ?_ ?_ <;> (intro hb; try simp only [decide_eq_true_eq, decide_eq_false_iff_not] at hb)) | (with_reducible refine gK_of_f _ _ _ ?_ ?_ <;> (intro hb; try simp only [decide_eq_true_eq, decide_eq_false_iff_not] at hb)) | (with_reducible refine gK_of_t _ _ _ ?_ ?_ <;> (intro hb; try simp only [decide_eq_true_eq, decide_eq_false_iff_not] at hb)))
      refine ⟨N - (j + 1), by omega, j + 1, by omega, rfl, ?_⟩
      simp (disch := omega) only [go_sem, reduceIte, sliceB, t31, t32, t6, w8, wa, wb, wc, w6, hnx, Int.natCast_add]
      refine ⟨rfl, fun X hX1 => ?_⟩
      simp (disch := omega) only [go_sem, reduceIte, sliceB]
      exact hold X hX1
    · obtain rfl : j = N := by omega
      repeat' (first | simp (disch := omega) only [go_sem, reduceIte, sliceB, t31, t32, t6, w8, wa, wb, wc, w6, Tryz.results35] | (with_reducible refine w_chain0 ?_ ?_; focus (decide +kernel)) | (with_reducible refine condK_of _ _ ?_ ?_ <;> (intro hb; try simp only [decide_eq_true_eq, decide_eq_false_iff_not] at hb)) | (with_reducible refine gdK_of_f _ _ _ _ _ ?_ ?_ <;> (intro hb; try simp only [decide_eq_true_eq, decide_eq_false_iff_not] at hb)) | (with_reducible refine gdK_of_t _ _ _ _ _ ?_ ?_ <;> (intro hb; try simp only [decide_eq_true_eq, decide_eq_false_iff_not] at hb)) | (with_reducible refine gK_of_f _ _ _ ?_ ?_ <;> (intro hb; try simp only [decide_eq_true_eq, decide_eq_false_iff_not] at hb)) | (with_reducible refine gK_of_t _ _ _ ?_ ?_ <;> (intro hb; try simp only [decide_eq_true_eq, decide_eq_false_iff_not] at hb)))
      have q0 := Als.new_free j top
      have q1 := Als.new_none j top 1 (by omega)
      have q2 := Als.new_none j top 2 (by omega)
      have q3 : (Als.new j top).gen = List.replicate j 0 := rfl
      have q4 : (Als.new j top).st.length = j := by simp [Als.new]
      have q5 : (Als.new j top).top = top := rfl
      all_goals (refine makes_mk (L := LL) (s.next + 8) [s.next + 10, s.next + 10 + 1, s.next + 10 + 1 + 1, s.next + 6] (⟨AlsOk.new (by omega) (by omega) (by omega) (by omega), 0, rfl, rfl, rfl⟩) rfl ?_ ?_ ?_ ?_ ?_ ?_ <;> (try intro X hX1) <;> (try simp (disch := omega) only [go_sem, reduceIte, sliceB, AllMods, DistG, KeyIn, setL, news, not_false_eq_true, or_false, not_or, ne_eq, AllAt, AllObs, Dist, NotIn, kap_zero, kap_succ, kap_nil, inv_lt, inv_self, inv_add, ren_int, intsC_ren, and_true, and_self, occ, occL, Bool.or_true, Bool.true_or, q0, q1, q2, q3, q4, q5, w8, wa, wb, wc, w6, hnx]) <;> (try omega))
      exact hold X hX1
def cNewE : Sym.CallS := fun args s => match args with
  | [.int .i64 n, .int .i64 top] => match decide (1 ≤ n) && decide (n ≤ 65536) && decide (1 ≤ top) && decide (top ≤ 4294967295) with
    | true => none
    | false => some (.tuple ⟨[.pointer none, .int .i64 1]⟩, s)
  | _ => none
theorem newE_ok (hc : CallOK Tryz.prog G (LBegin Tryz.prog ν LL W may) ν call) : SpecOK Tryz.prog G (LBegin Tryz.prog ν LL W may) ν 35 cNewE := by
  refine fun_ok rfl (by kernel_rfl) hc fun args s v h' e Lv hlv hG => ?_
  unfold cNewE at e
  split at e <;> try (cases e; done)
  rename_i n top
  split at e <;> try (cases e; done)
  rename_i hd
  simp only [Option.some.injEq, Prod.mk.injEq] at e
  obtain ⟨rfl, rfl⟩ := e
  refine ⟨[], [], rfl, 0, ?_⟩
  simp only [Bool.and_eq_false_iff, decide_eq_false_iff_not] at hd
  refine ⟨Tryz.f35, _, Tryz.func35, rfl, by simp [Tryz.f35], ?_⟩; rw [Tryz.ntmps35]
  repeat' (first | simp (disch := omega) only [go_sem, reduceIte, sliceB, Tryz.results35] | (with_reducible refine w_chain0 ?_ ?_; focus (decide +kernel)) | (with_reducible refine condK_of _ _ ?_ ?_ <;> (intro hb; try simp only [decide_eq_true_eq, decide_eq_false_iff_not] at hb)) | (with_reducible refine gdK_of_f _ _ _ _ _ ?_ ?_ <;> (intro hb; try simp only [decide_eq_true_eq, decide_eq_false_iff_not] at hb)) | (with_reducible refine gdK_of_t _ _ _ _ _ ?_ ?_ <;> (intro hb; try simp only [decide_eq_true_eq, decide_eq_false_iff_not] at hb)) | (with_reducible refine gK_of_f _ _ _ ?_ ?_ <;> (intro hb; try simp only [decide_eq_true_eq, decide_eq_false_iff_not] at hb)) | (with_reducible refine gK_of_t _ _ _ ?_ ?_ <;> (intro hb; try simp only [decide_eq_true_eq, decide_eq_false_iff_not] at hb)))
  all_goals (refine ends_mk [] ?_ rfl ?_ ?_ ?_ ?_ <;> (try (intro X hX1 hX2; simp only [KeyIn, or_false, not_or, not_false_eq_true] at hX2)) <;> (try simp (disch := omega) only [go_sem, reduceIte, sliceB, AllMods, DistG, KeyIn, setL, news, not_false_eq_true, or_false, not_or, ne_eq, AllAt, AllObs, Dist, NotIn, kap_zero, kap_succ, kap_nil, inv_lt, inv_self, inv_add, ren_int, intsC_ren, and_true, and_self]) <;> (try omega))
/-- alloc.New whole. -/
def cNewF : Sym.CallS := fun args s => match cNewE args s with
  | some r => some r
  | none => cNewA args s
theorem newF_ok (hc : CallOK Tryz.prog G (LBegin Tryz.prog ν LL W may) ν call) (hh : HibC call) : SpecOK Tryz.prog G (LBegin Tryz.prog ν LL W may) ν 35 cNewF := by
  intro args s v h' e
  unfold cNewF at e
  split at e
  · rename_i r hr
    cases e
    exact newE_ok hc args s v h' hr
  · exact newA_ok hc hh args s v h' e
end
end Go.Proofs.YtclmjcjaebonnaaGreatDoor
end

/-
  What makes components, things, numbers, what waits.
-/
section
set_option linter.unusedSimpArgs false
set_option linter.unusedVariables false
namespace Go.Proofs.YtclmjcjaebonnaaGreatDoor
open Go Go.RowKit Go.Viv Go.Eva Go.Sym
def cRegNew : Sym.CallS := fun args s => match args with
  | [] => some (.pointer (some ⟨s.next, 0, none⟩), ⟨s.t.set s.next (some (.cells [.slice none 0 0] 138 true)), s.next + 1⟩)
  | _ => none
def cLazyNew : Sym.CallS := fun args s => match args with
  | [] => some (.pointer (some ⟨s.next, 0, none⟩), ⟨s.t.set s.next (some (.res (.queue []))), s.next + 1⟩)
  | _ => none
/-- The new blocks of a component more, behind a row with cells cs. -/
def regF (K : Nat) (cs : List Value) (x : Sls) : Nat → Option AObj
  | 0 => none
  | 5 => none
  | 6 => some (.cells (cs ++ [pt (K + 1)]) 143 true)
  | j + 1 => slotF (K + 1) x j
def regAdd (R : Nat) (n : Nat) (cs : List Value) (k v b : Int) (s : Hp) (t : Tr AObj) : Option (Value × Hp) :=
  if chkE k v b = 0 then
    if n < 64 then some (.tuple ⟨[.int .i64 n, .int .i64 0]⟩, ⟨fillT (t.set R (some (.cells [.slice (some ⟨s.next + 6, 0, none⟩) (n + 1) 0] 138 true))) s.next (regF s.next cs (Sls.new ⟨k, v, b⟩)) 7, s.next + 7⟩)
    else some (.tuple ⟨[.int .i64 0, .int .i64 2]⟩, ⟨fillT s.t s.next (fun _ => none) 7, s.next + 7⟩)
  else some (.tuple ⟨[.int .i64 0, .int .i64 (chkE k v b)]⟩, ⟨fillT s.t s.next (fun _ => none) 7, s.next + 7⟩)
def cRegAdd : Sym.CallS := fun args s => match args with
  | [.pointer (some ⟨R, 0, none⟩), .agg ⟨[.int .i64 k, .int .i64 v, .int .i64 b]⟩] => match s.t.at_ R with
    | some (.cells [.slice none 0 0] ty true) => if ty = 138 then regAdd R 0 [] k v b s s.t else none
    | some (.cells [.slice (some ⟨K, 0, none⟩) (n + 1) 0] ty true) => (match s.t.at_ K with
      | some (.cells cs e true) => if ty = 138 ∧ e = 143 ∧ cs.length = n + 1 ∧ K ≠ R then regAdd R (n + 1) cs k v b s (s.t.set K none) else none
      | _ => none)
    | _ => none
  | _ => none
section
variable {G : Nat} {ν : Toks} {W : World} {may : Nat → Prop} {call : CallB}
theorem regNew_ok (hc : CallOK Tryz.prog G (LBegin Tryz.prog ν LL W may) ν call) : SpecOK Tryz.prog G (LBegin Tryz.prog ν LL W may) ν 36 cRegNew := by
  refine fun_ok rfl (by kernel_rfl) hc fun args s v h' e Lv hlv hG => ?_
  unfold cRegNew at e
  split at e <;> try (cases e; done)
  simp only [Option.some.injEq, Prod.mk.injEq] at e
  obtain ⟨rfl, rfl⟩ := e
  refine ⟨[], [.cells [.slice none 0 0] 138 true], rfl, 0, ?_⟩
  refine ⟨Tryz.f36, _, Tryz.func36, rfl, by simp [Tryz.f36], ?_⟩; rw [Tryz.ntmps36]
  repeat' (first | simp (disch := omega) only [go_sem, reduceIte, sliceB, Tryz.results36] | (with_reducible refine w_chain0 ?_ ?_; focus (decide +kernel)) | (with_reducible refine condK_of _ _ ?_ ?_ <;> (intro hb; try simp only [decide_eq_true_eq, decide_eq_false_iff_not] at hb)) | (with_reducible refine gdK_of_f _ _ _ _ _ ?_ ?_ <;> (intro hb; try simp only [decide_eq_true_eq, decide_eq_false_iff_not] at hb)) | (with_reducible refine gdK_of_t _ _ _ _ _ ?_ ?_ <;> (intro hb; try simp only [decide_eq_true_eq, decide_eq_false_iff_not] at hb)) | (with_reducible refine gK_of_f _ _ _ ?_ ?_ <;> (intro hb; try simp only [decide_eq_true_eq, decide_eq_false_iff_not] at hb)) | (with_reducible refine gK_of_t _ _ _ ?_ ?_ <;> (intro hb; try simp only [decide_eq_true_eq, decide_eq_false_iff_not] at hb)))
  all_goals (refine ends_mk [s.next] ?_ rfl ?_ ?_ ?_ ?_ <;> (try (intro X hX1 hX2; simp only [KeyIn, or_false, not_or, not_false_eq_true] at hX2)) <;> (try simp (disch := omega) only [go_sem, reduceIte, sliceB, AllMods, DistG, KeyIn, setL, news, not_false_eq_true, or_false, not_or, ne_eq, AllAt, AllObs, Dist, NotIn, kap_zero, kap_succ, kap_nil, inv_lt, inv_self, inv_add, ren_int, intsC_ren, and_true, and_self]) <;> (try omega))
theorem lazyNew_ok (hc : CallOK Tryz.prog G (LBegin Tryz.prog ν LL W may) ν call) : SpecOK Tryz.prog G (LBegin Tryz.prog ν LL W may) ν 33 cLazyNew := by
  refine make_ok rfl (by kernel_rfl) hc fun args s v h' e Lv hlv hG => ?_
  unfold cLazyNew at e
  split at e <;> try (cases e; done)
  simp only [Option.some.injEq, Prod.mk.injEq] at e
  obtain ⟨rfl, rfl⟩ := e
  refine ⟨_, rfl, ?_⟩
  have hfm : LL.fm (.queue []) _ _ _ := (⟨by simp, rfl, _, _, rfl, rfl, rowF_nil⟩ : fmAll (.queue []) _ _ _)
  refine ⟨Tryz.f33, _, Tryz.func33, rfl, by simp [Tryz.f33], ?_⟩; rw [Tryz.ntmps33]
  repeat' (first | simp (disch := omega) only [go_sem, reduceIte, sliceB, Tryz.results33] | (with_reducible refine w_chain0 ?_ ?_; focus (decide +kernel)) | (with_reducible refine condK_of _ _ ?_ ?_ <;> (intro hb; try simp only [decide_eq_true_eq, decide_eq_false_iff_not] at hb)) | (with_reducible refine gdK_of_f _ _ _ _ _ ?_ ?_ <;> (intro hb; try simp only [decide_eq_true_eq, decide_eq_false_iff_not] at hb)) | (with_reducible refine gdK_of_t _ _ _ _ _ ?_ ?_ <;> (intro hb; try simp only [decide_eq_true_eq, decide_eq_false_iff_not] at hb)) | (with_reducible refine gK_of_f _ _ _ ?_ ?_ <;> (intro hb; try simp only [decide_eq_true_eq, decide_eq_false_iff_not] at hb)) | (with_reducible refine gK_of_t _ _ _ ?_ ?_ <;> (intro hb; try simp only [decide_eq_true_eq, decide_eq_false_iff_not] at hb)))
  all_goals (refine makes_mk (L := LL) (s.next) [s.next + 100] (hfm) rfl ?_ ?_ ?_ ?_ ?_ ?_ <;> (try intro X hX1) <;> (try simp (disch := omega) only [go_sem, reduceIte, sliceB, AllMods, DistG, KeyIn, setL, news, not_false_eq_true, or_false, not_or, ne_eq, AllAt, AllObs, Dist, NotIn, kap_zero, kap_succ, kap_nil, inv_lt, inv_self, inv_add, ren_int, intsC_ren, and_true, and_self, occ, occL, Bool.or_true, Bool.true_or]) <;> (try omega))
set_option maxHeartbeats 1000000 in
theorem regAdd_ok (hc : CallOK Tryz.prog G (LBegin Tryz.prog ν LL W may) ν call) (hs : ∀ a h, call 61 a h = cSlot a h) : SpecOK Tryz.prog G (LBegin Tryz.prog ν LL W may) ν 37 cRegAdd := by
  refine fun_okX (by kernel_rfl) hc fun args s v h' e Lv hlv hG => ?_
  unfold cRegAdd at e
  split at e <;> try (cases e; done)
  rename_i R k v b
  have lR := hlv.arg R (by simp [occL, occ])
  have hR := hlv.lt _ lR
  have hap := apb143
  simp only [Option.map] at hap
  split at e <;> try (cases e; done)
  · rename_i ty hat
    split at e <;> try (cases e; done)
    rename_i hty
    subst hty
    unfold regAdd at e
    split at e
    · rename_i hE
      split at e
      · rename_i hlt
        simp only [Option.some.injEq, Prod.mk.injEq] at e
        obtain ⟨rfl, rfl⟩ := e
        refine ⟨by simp, 0, ?_⟩
        refine ⟨Tryz.f37, _, Tryz.func37, rfl, by simp [Tryz.f37], ?_⟩; rw [Tryz.ntmps37]
        repeat' (first | simp (disch := omega) only [go_sem, reduceIte, sliceB, hat, hs, cSlot, hE, hap, appendB, newsB, srcB, lenV, firstB, appendB.app, fillT_out, Tryz.results37] | (with_reducible refine w_chain0 ?_ ?_; focus (decide +kernel)) | (with_reducible refine condK_of _ _ ?_ ?_ <;> (intro hb; try simp only [decide_eq_true_eq, decide_eq_false_iff_not] at hb)) | (with_reducible refine gdK_of_f _ _ _ _ _ ?_ ?_ <;> (intro hb; try simp only [decide_eq_true_eq, decide_eq_false_iff_not] at hb)) | (with_reducible refine gdK_of_t _ _ _ _ _ ?_ ?_ <;> (intro hb; try simp only [decide_eq_true_eq, decide_eq_false_iff_not] at hb)) | (with_reducible refine gK_of_f _ _ _ ?_ ?_ <;> (intro hb; try simp only [decide_eq_true_eq, decide_eq_false_iff_not] at hb)) | (with_reducible refine gK_of_t _ _ _ ?_ ?_ <;> (intro hb; try simp only [decide_eq_true_eq, decide_eq_false_iff_not] at hb)))
        refine endsX_fill (by simp) (by simp only; omega) (fun j o hj ho => ?_) fun X hX => ?_
        · skip
          rcases j with _ | _ | _ | _ | _ | _ | _ | j <;> simp only [regF] at ho <;> try (cases ho; done)
          · rw [← ho]
            simp (disch := omega) only [go_sem, reduceIte, sliceB, fillT_get]
            exact congrArg (slotF _ _) (by omega)
          · rw [← ho]
            simp (disch := omega) only [go_sem, reduceIte, sliceB, fillT_get]
            exact congrArg (slotF _ _) (by omega)
          · rw [← ho]
            simp (disch := omega) only [go_sem, reduceIte, sliceB, fillT_get]
            exact congrArg (slotF _ _) (by omega)
          · rw [← ho]
            simp (disch := omega) only [go_sem, reduceIte, sliceB, fillT_get]
            exact congrArg (slotF _ _) (by omega)
          · cases ho
            simp (disch := omega) only [go_sem, reduceIte, sliceB, pt]
        · by_cases hXR : X = R
          · subst hXR
            simp (disch := omega) only [go_sem, reduceIte, sliceB]
          · simp (disch := omega) only [go_sem, reduceIte, sliceB, fillT_out]
      · rename_i hlt
        exact absurd (by omega : (0 : Nat) < 64) hlt
    · rename_i hE
      simp only [Option.some.injEq, Prod.mk.injEq] at e
      obtain ⟨rfl, rfl⟩ := e
      refine ⟨by simp, 0, ?_⟩
      generalize hG : chkE k v b = E at *
      refine ⟨Tryz.f37, _, Tryz.func37, rfl, by simp [Tryz.f37], ?_⟩; rw [Tryz.ntmps37]
      repeat' (first | simp (disch := omega) only [go_sem, reduceIte, sliceB, hat, hs, cSlot, hG, if_neg hE, Tryz.results37] | (with_reducible refine w_chain0 ?_ ?_; focus (decide +kernel)) | (with_reducible refine condK_of _ _ ?_ ?_ <;> (intro hb; try simp only [decide_eq_true_eq, decide_eq_false_iff_not] at hb)) | (with_reducible refine gdK_of_f _ _ _ _ _ ?_ ?_ <;> (intro hb; try simp only [decide_eq_true_eq, decide_eq_false_iff_not] at hb)) | (with_reducible refine gdK_of_t _ _ _ _ _ ?_ ?_ <;> (intro hb; try simp only [decide_eq_true_eq, decide_eq_false_iff_not] at hb)) | (with_reducible refine gK_of_f _ _ _ ?_ ?_ <;> (intro hb; try simp only [decide_eq_true_eq, decide_eq_false_iff_not] at hb)) | (with_reducible refine gK_of_t _ _ _ ?_ ?_ <;> (intro hb; try simp only [decide_eq_true_eq, decide_eq_false_iff_not] at hb)))
      refine endsX_same rfl (by simp only; omega) fun X hX => ?_
      simp (disch := omega) only [go_sem, reduceIte, sliceB]
  · rename_i K n ty hat
    have lK := hlv.lt _ (hlv.cell R _ _ _ lR hat K (by simp [occL, occ]))
    split at e <;> try (cases e; done)
    rename_i cs e0 hK
    split at e <;> try (cases e; done)
    rename_i hty
    obtain ⟨rfl, rfl, hlen, hne⟩ := hty
    have hhas : has cs (n + 1) = true := has_le (by omega)
    have htk : cs.take (n + 1) = cs := List.take_of_length_le (by omega)
    unfold regAdd at e
    split at e
    · rename_i hE
      split at e
      · rename_i hlt
        simp only [Option.some.injEq, Prod.mk.injEq] at e
        obtain ⟨rfl, rfl⟩ := e
        refine ⟨by simp, 0, ?_⟩
        refine ⟨Tryz.f37, _, Tryz.func37, rfl, by simp [Tryz.f37], ?_⟩; rw [Tryz.ntmps37]
        repeat' (first | simp (disch := omega) only [go_sem, reduceIte, sliceB, hK, hhas, htk, hat, hs, cSlot, hE, hap, appendB, newsB, srcB, lenV, firstB, appendB.app, fillT_out, Tryz.results37] | (with_reducible refine w_chain0 ?_ ?_; focus (decide +kernel)) | (with_reducible refine condK_of _ _ ?_ ?_ <;> (intro hb; try simp only [decide_eq_true_eq, decide_eq_false_iff_not] at hb)) | (with_reducible refine gdK_of_f _ _ _ _ _ ?_ ?_ <;> (intro hb; try simp only [decide_eq_true_eq, decide_eq_false_iff_not] at hb)) | (with_reducible refine gdK_of_t _ _ _ _ _ ?_ ?_ <;> (intro hb; try simp only [decide_eq_true_eq, decide_eq_false_iff_not] at hb)) | (with_reducible refine gK_of_f _ _ _ ?_ ?_ <;> (intro hb; try simp only [decide_eq_true_eq, decide_eq_false_iff_not] at hb)) | (with_reducible refine gK_of_t _ _ _ ?_ ?_ <;> (intro hb; try simp only [decide_eq_true_eq, decide_eq_false_iff_not] at hb)))
        refine endsX_fill (by simp) (by simp only; omega) (fun j o hj ho => ?_) fun X hX => ?_
        · skip
          rcases j with _ | _ | _ | _ | _ | _ | _ | j <;> simp only [regF] at ho <;> try (cases ho; done)
          · rw [← ho]
            simp (disch := omega) only [go_sem, reduceIte, sliceB, fillT_get]
            exact congrArg (slotF _ _) (by omega)
          · rw [← ho]
            simp (disch := omega) only [go_sem, reduceIte, sliceB, fillT_get]
            exact congrArg (slotF _ _) (by omega)
          · rw [← ho]
            simp (disch := omega) only [go_sem, reduceIte, sliceB, fillT_get]
            exact congrArg (slotF _ _) (by omega)
          · rw [← ho]
            simp (disch := omega) only [go_sem, reduceIte, sliceB, fillT_get]
            exact congrArg (slotF _ _) (by omega)
          · cases ho
            simp (disch := omega) only [go_sem, reduceIte, sliceB, pt]
        · by_cases hXR : X = R
          · subst hXR
            simp (disch := omega) only [go_sem, reduceIte, sliceB]
          · by_cases hXK : X = K
            · subst hXK
              simp (disch := omega) only [go_sem, reduceIte, sliceB, fillT_out]
            · simp (disch := omega) only [go_sem, reduceIte, sliceB, fillT_out]
      · rename_i hlt
        simp only [Option.some.injEq, Prod.mk.injEq] at e
        obtain ⟨rfl, rfl⟩ := e
        refine ⟨by simp, 0, ?_⟩
        refine ⟨Tryz.f37, _, Tryz.func37, rfl, by simp [Tryz.f37], ?_⟩; rw [Tryz.ntmps37]
        repeat' (first | simp (disch := omega) only [go_sem, reduceIte, sliceB, hK, hhas, htk, hat, hs, cSlot, hE, fillT_out, Tryz.results37] | (with_reducible refine w_chain0 ?_ ?_; focus (decide +kernel)) | (with_reducible refine condK_of _ _ ?_ ?_ <;> (intro hb; try simp only [decide_eq_true_eq, decide_eq_false_iff_not] at hb)) | (with_reducible refine gdK_of_f _ _ _ _ _ ?_ ?_ <;> (intro hb; try simp only [decide_eq_true_eq, decide_eq_false_iff_not] at hb)) | (with_reducible refine gdK_of_t _ _ _ _ _ ?_ ?_ <;> (intro hb; try simp only [decide_eq_true_eq, decide_eq_false_iff_not] at hb)) | (with_reducible refine gK_of_f _ _ _ ?_ ?_ <;> (intro hb; try simp only [decide_eq_true_eq, decide_eq_false_iff_not] at hb)) | (with_reducible refine gK_of_t _ _ _ ?_ ?_ <;> (intro hb; try simp only [decide_eq_true_eq, decide_eq_false_iff_not] at hb)))
        refine endsX_same rfl (by simp only; omega) fun X hX => ?_
        simp (disch := omega) only [go_sem, reduceIte, sliceB, fillT_out]
    · rename_i hE
      simp only [Option.some.injEq, Prod.mk.injEq] at e
      obtain ⟨rfl, rfl⟩ := e
      refine ⟨by simp, 0, ?_⟩
      generalize hG : chkE k v b = E at *
      refine ⟨Tryz.f37, _, Tryz.func37, rfl, by simp [Tryz.f37], ?_⟩; rw [Tryz.ntmps37]
      repeat' (first | simp (disch := omega) only [go_sem, reduceIte, sliceB, hat, hs, cSlot, hG, if_neg hE, Tryz.results37] | (with_reducible refine w_chain0 ?_ ?_; focus (decide +kernel)) | (with_reducible refine condK_of _ _ ?_ ?_ <;> (intro hb; try simp only [decide_eq_true_eq, decide_eq_false_iff_not] at hb)) | (with_reducible refine gdK_of_f _ _ _ _ _ ?_ ?_ <;> (intro hb; try simp only [decide_eq_true_eq, decide_eq_false_iff_not] at hb)) | (with_reducible refine gdK_of_t _ _ _ _ _ ?_ ?_ <;> (intro hb; try simp only [decide_eq_true_eq, decide_eq_false_iff_not] at hb)) | (with_reducible refine gK_of_f _ _ _ ?_ ?_ <;> (intro hb; try simp only [decide_eq_true_eq, decide_eq_false_iff_not] at hb)) | (with_reducible refine gK_of_t _ _ _ ?_ ?_ <;> (intro hb; try simp only [decide_eq_true_eq, decide_eq_false_iff_not] at hb)))
      refine endsX_same rfl (by simp only; omega) fun X hX => ?_
      simp (disch := omega) only [go_sem, reduceIte, sliceB]
end
end Go.Proofs.YtclmjcjaebonnaaGreatDoor
end

/-
  Rows cloned.
-/
section
set_option linter.unusedSimpArgs false
set_option linter.unusedVariables false
namespace Go.Sym
open Go Go.RowKit Go.Viv Go.Eva
theorem wk_emp (B o c : Nat) : Wk (.slice (some ⟨B, o, none⟩) 0 (c + 1)) (.slice none 0 1) := fun ν φ z hz => by
  cases hz with
  | slk h hn => exact .emp _ _
/-- The cells of a row of n elements of k cells, in whatever block it lies. -/
def rowB (t : Tr AObj) (k : Nat) : Value → Option (List Value)
  | .slice none 0 0 => some []
  | .slice none 0 1 => some []
  | .slice (some ⟨B, o, none⟩) n _ => match t.at_ B with
    | some (.cells cs _ _) => readCells cs o (n * k)
    | _ => none
  | _ => none
def lenN : Value → Nat
  | .slice _ n _ => n
  | _ => 0
/-- What a clone of a row is: nil, an empty one, or a new one. -/
def cloneV (s : Hp) : Value → Value
  | .slice none 0 0 => .slice none 0 0
  | .slice none 0 1 => .slice none 0 1
  | .slice (some _) 0 _ => .slice none 0 1
  | .slice (some _) (n + 1) _ => .slice (some ⟨s.next + 1, 0, none⟩) (n + 1) 0
  | v => v
def cloneF (e : TypeId) (vs : List Value) : Nat → Option AObj
  | 1 => if vs = [] then none else some (.cells vs e true)
  | _ => none
/-- A row cloned: k cells to an element. -/
def cClone (e : TypeId) (k : Nat) : CallS := fun args s => match args with
  | [v] => match rowB s.t k v with
    | some vs => if lenN v ≤ 1000000 ∧ vs.all oneB = true ∧ vs.length = lenN v * k then some (cloneV s v, ⟨fillT s.t s.next (cloneF e vs) 2, s.next + 2⟩) else none
    | none => none
  | _ => none
def intsL : List Value → Option (List Int)
  | [] => some []
  | .int .i64 a :: l => (intsL l).map (a :: ·)
  | _ => none
theorem intsL_eq : ∀ {vs : List Value} {l : List Int}, intsL vs = some l → vs = intsC l
  | [], l, h => by simp [intsL] at h; subst h; rfl
  | v :: vs, l, h => by
    unfold intsL at h
    split at h <;> try (cases h; done)
    · rename_i e; cases e
    · rename_i a l' e
      cases e
      obtain ⟨m, h1, rfl⟩ := Option.map_eq_some_iff.1 h
      rw [intsL_eq h1]; rfl
theorem intsL_of : ∀ l : List Int, intsL (intsC l) = some l
  | [] => rfl
  | a :: l => by
    show (intsL (intsC l)).map (a :: ·) = _
    rw [intsL_of l]; rfl
theorem intsC_one : ∀ l : List Int, (intsC l).all oneB = true
  | [] => rfl
  | a :: l => by
    show (oneB (.int .i64 a) && (intsC l).all oneB) = true
    rw [intsC_one l]; rfl
def dscsL : List Value → Option (List Dsc)
  | [] => some []
  | .int .i64 a :: .int .i64 b :: .int .i64 c :: l => (dscsL l).map (⟨a, b, c⟩ :: ·)
  | _ => none
theorem dscsL_eq : ∀ {vs : List Value} {l : List Dsc}, dscsL vs = some l → vs = rowsC Dsc.cells l
  | [], l, h => by simp [dscsL] at h; subst h; rfl
  | v :: vs, l, h => by
    unfold dscsL at h
    split at h <;> try (cases h; done)
    · rename_i e; cases e
    · rename_i a b c l' e
      cases e
      obtain ⟨m, h1, rfl⟩ := Option.map_eq_some_iff.1 h
      rw [dscsL_eq h1]; rfl
theorem dscsL_of : ∀ l : List Dsc, dscsL (rowsC Dsc.cells l) = some l
  | [] => rfl
  | a :: l => by
    show (dscsL (rowsC Dsc.cells l)).map (a :: ·) = _
    rw [dscsL_of l]; rfl
theorem min_lo {k : IntKind} {a b : Int} (h : a ≤ b) : semV (Builtin.min2 (.int k a) (.int k b)) = some (.int k a) := by
  simp only [Builtin.min2, if_neg (show ¬ b < a by omega)]
  rfl
theorem min_hi {k : IntKind} {a b : Int} (h : b < a) : semV (Builtin.min2 (.int k a) (.int k b)) = some (.int k b) := by
  simp only [Builtin.min2, if_pos h]
  rfl
theorem max_lo {k : IntKind} {a b : Int} (h : b ≤ a) : semV (Builtin.max2 (.int k a) (.int k b)) = some (.int k a) := by
  simp only [Builtin.max2, if_neg (show ¬ b > a by omega)]
  rfl
theorem max_hi {k : IntKind} {a b : Int} (h : a < b) : semV (Builtin.max2 (.int k a) (.int k b)) = some (.int k b) := by
  simp only [Builtin.max2, if_pos (show b > a from h)]
  rfl
theorem slice_hi {P : Program} {H : Tr AObj} {t e : TypeId} {k B o n c h : Nat} (hu : P.underlying t = some (.slice e)) (hz : sizeB P e = some k) (h1 : h ≤ n) (h2 : n ≤ c) : sliceB P H t (.slice (some ⟨B, o, none⟩) n (c + 1)) none (some (.int .i64 (h : Int))) none = some (.slice (some ⟨B, o, none⟩) h (c + 1)) := by
  have e1 : wrapInt (.int .i64 (h : Int)) = some h := rfl
  have b1 : Nat.ble 0 h = true := nble_t (Nat.zero_le _)
  have b2 : Nat.ble h c = true := nble_t (by omega)
  have b3 : Nat.ble c c = true := nble_t (Nat.le_refl _)
  have b4 : (match Nat.beq c 0 with | true => o | false => o + 0 * k) = o := by cases Nat.beq c 0 <;> simp
  simp only [sliceB, hu, hz, Option.elim, e1, b1, b2, b3]
  cases Nat.beq c 0 <;> simp
/-- What is read of a part of what is read. -/
theorem read_sub {cs vs : List Value} {o n i m : Nat} (h : readCells cs o n = some vs) (hi : i + m ≤ n) : readCells cs (o + i) m = some ((vs.drop i).take m) := by
  unfold readCells at h ⊢
  cases hh : has (cs.drop o) n with
  | false => rw [hh] at h; cases h
  | true =>
    rw [hh] at h
    simp only [Option.some.injEq] at h
    have hl := has_spec hh
    rw [List.length_drop] at hl
    rw [has_le (by rw [List.length_drop]; omega)]
    simp only [Option.some.injEq]
    rw [← h, List.drop_take, List.take_take, List.drop_drop, Nat.min_eq_left (by omega)]
/-- A row whose room is not less than what it holds. -/
def roomOk : Value → Bool
  | .slice none 0 0 => true
  | .slice none 0 1 => true
  | .slice (some _) n (c + 1) => Nat.ble n c
  | _ => false
theorem read_len {cs vs : List Value} {o n : Nat} (h : readCells cs o n = some vs) : vs.length = n := by
  unfold readCells at h
  cases hh : has (cs.drop o) n with
  | false => rw [hh] at h; cases h
  | true =>
    rw [hh] at h
    simp only [Option.some.injEq] at h
    have := has_spec hh
    rw [← h, List.length_take]
    omega
end Go.Sym
namespace Go.Proofs.YtclmjcjaebonnaaGreatDoor
open Go Go.RowKit Go.Viv Go.Eva Go.Sym
section
variable {G : Nat} {ν : Toks} {W : World} {may : Nat → Prop} {call : CallB}
set_option maxHeartbeats 1000000 in
theorem cl64_ok (hc : CallOK Tryz.prog G (LBegin Tryz.prog ν LL W may) ν call) : SpecOK Tryz.prog G (LBegin Tryz.prog ν LL W may) ν 20 (cClone 2 1) := by
  refine fun_okX (by kernel_rfl) hc fun args s v h' e Lv hlv hG => ?_
  unfold cClone at e
  split at e <;> try (cases e; done)
  rename_i v0
  split at e <;> try (cases e; done)
  rename_i vs hvs
  split at e <;> try (cases e; done)
  rename_i hcond
  obtain ⟨hn, hone, hvl⟩ := hcond
  simp only [Option.some.injEq, Prod.mk.injEq] at e
  obtain ⟨rfl, rfl⟩ := e
  have hb := apb2
  simp only [Option.map] at hb
  have e0 : ∀ H ox oy, binB Tryz.prog H .eql 48 ox oy (.slice none 0 0) (.slice none 0 0) = some (.bool true) := fun H ox oy => by kernel_rfl
  have e1 : ∀ H ox oy, binB Tryz.prog H .eql 48 ox oy (.slice none 0 1) (.slice none 0 0) = some (.bool false) := fun H ox oy => by kernel_rfl
  have e2 : ∀ H ox oy a n c, binB Tryz.prog H .eql 48 ox oy (.slice (some a) n c) (.slice none 0 0) = some (.bool false) := fun H ox oy a n c => by kernel_rfl
  refine ⟨by simp, 0, ?_⟩
  unfold rowB at hvs
  split at hvs <;> try (cases hvs; done)
  · simp only [Option.some.injEq] at hvs
    subst hvs
    unfold cloneV
    refine ⟨Tryz.f20, _, Tryz.func20, rfl, by simp [Tryz.f20], ?_⟩; rw [Tryz.ntmps20]
    repeat' (first | simp (disch := omega) only [go_sem, reduceIte, sliceB, e0, Tryz.results20] | (with_reducible refine w_chain0 ?_ ?_; focus (decide +kernel)) | (with_reducible refine condK_of _ _ ?_ ?_ <;> (intro hb; try simp only [decide_eq_true_eq, decide_eq_false_iff_not] at hb)) | (with_reducible refine gdK_of_f _ _ _ _ _ ?_ ?_ <;> (intro hb; try simp only [decide_eq_true_eq, decide_eq_false_iff_not] at hb)) | (with_reducible refine gdK_of_t _ _ _ _ _ ?_ ?_ <;> (intro hb; try simp only [decide_eq_true_eq, decide_eq_false_iff_not] at hb)) | (with_reducible refine gK_of_f _ _ _ ?_ ?_ <;> (intro hb; try simp only [decide_eq_true_eq, decide_eq_false_iff_not] at hb)) | (with_reducible refine gK_of_t _ _ _ ?_ ?_ <;> (intro hb; try simp only [decide_eq_true_eq, decide_eq_false_iff_not] at hb)))
    exact endsX_fill rfl (by simp only; omega) (fun j o hj ho => by rcases j with _ | _ | j <;> simp [cloneF] at ho) fun X hX => rfl
  · simp only [Option.some.injEq] at hvs
    subst hvs
    unfold cloneV
    refine ⟨Tryz.f20, _, Tryz.func20, rfl, by simp [Tryz.f20], ?_⟩; rw [Tryz.ntmps20]
    repeat' (first | simp (disch := omega) only [go_sem, reduceIte, sliceB, List.length_nil, e1, hb, appendB, newsB, srcB, lenV, firstB, appendB.app, Tryz.results20] | (with_reducible refine w_chain0 ?_ ?_; focus (decide +kernel)) | (with_reducible refine condK_of _ _ ?_ ?_ <;> (intro hb; try simp only [decide_eq_true_eq, decide_eq_false_iff_not] at hb)) | (with_reducible refine gdK_of_f _ _ _ _ _ ?_ ?_ <;> (intro hb; try simp only [decide_eq_true_eq, decide_eq_false_iff_not] at hb)) | (with_reducible refine gdK_of_t _ _ _ _ _ ?_ ?_ <;> (intro hb; try simp only [decide_eq_true_eq, decide_eq_false_iff_not] at hb)) | (with_reducible refine gK_of_f _ _ _ ?_ ?_ <;> (intro hb; try simp only [decide_eq_true_eq, decide_eq_false_iff_not] at hb)) | (with_reducible refine gK_of_t _ _ _ ?_ ?_ <;> (intro hb; try simp only [decide_eq_true_eq, decide_eq_false_iff_not] at hb)))
    exact ⟨wk_emp _ _ _, by simp only; omega, fillT_all (fun j o hj ho => by rcases j with _ | _ | j <;> simp [cloneF] at ho) fun X o hX ho => by
      simp (disch := omega) only [go_sem, reduceIte, sliceB]
      exact ho⟩
  · rename_i B o n c
    split at hvs <;> try (cases hvs; done)
    rename_i cs ty rw hB
    simp only [lenN] at hn hvl
    have lB := hlv.lt _ (hlv.arg B (by simp [occL, occ]))
    cases n with
    | zero =>
      have hv0 : vs = [] := List.length_eq_zero_iff.1 (by simpa using hvl)
      unfold cloneV
      refine ⟨Tryz.f20, _, Tryz.func20, rfl, by simp [Tryz.f20], ?_⟩; rw [Tryz.ntmps20]
      repeat' (first | simp (disch := omega) only [go_sem, reduceIte, sliceB, List.length_nil, e2, hB, hb, appendB, newsB, srcB, lenV, firstB, appendB.app, Tryz.results20] | (with_reducible refine w_chain0 ?_ ?_; focus (decide +kernel)) | (with_reducible refine condK_of _ _ ?_ ?_ <;> (intro hb; try simp only [decide_eq_true_eq, decide_eq_false_iff_not] at hb)) | (with_reducible refine gdK_of_f _ _ _ _ _ ?_ ?_ <;> (intro hb; try simp only [decide_eq_true_eq, decide_eq_false_iff_not] at hb)) | (with_reducible refine gdK_of_t _ _ _ _ _ ?_ ?_ <;> (intro hb; try simp only [decide_eq_true_eq, decide_eq_false_iff_not] at hb)) | (with_reducible refine gK_of_f _ _ _ ?_ ?_ <;> (intro hb; try simp only [decide_eq_true_eq, decide_eq_false_iff_not] at hb)) | (with_reducible refine gK_of_t _ _ _ ?_ ?_ <;> (intro hb; try simp only [decide_eq_true_eq, decide_eq_false_iff_not] at hb)))
      subst hv0
      exact ⟨wk_emp _ _ _, by simp only; omega, fillT_all (fun j o hj ho => by rcases j with _ | _ | j <;> simp [cloneF] at ho) fun X o hX ho => by
        simp (disch := omega) only [go_sem, reduceIte, sliceB]
        exact ho⟩
    | succ n =>
      try simp only [Nat.mul_one] at hvs hvl
      unfold readCells at hvs
      split at hvs <;> try (cases hvs; done)
      rename_i hv1
      have hv2 := Option.some.inj hvs
      have hl2 : Nat.beq vs.length (n + 1) = true := by rw [hvl]; exact Nat.beq_refl _
      unfold cloneV
      refine ⟨Tryz.f20, _, Tryz.func20, rfl, by simp [Tryz.f20], ?_⟩; rw [Tryz.ntmps20]
      repeat' (first | simp (disch := omega) only [go_sem, reduceIte, sliceB, List.length_nil, e2, hB, hb, hv1, hv2, hone, hl2, appendB, newsB, srcB, lenV, firstB, appendB.app, Tryz.results20] | (with_reducible refine w_chain0 ?_ ?_; focus (decide +kernel)) | (with_reducible refine condK_of _ _ ?_ ?_ <;> (intro hb; try simp only [decide_eq_true_eq, decide_eq_false_iff_not] at hb)) | (with_reducible refine gdK_of_f _ _ _ _ _ ?_ ?_ <;> (intro hb; try simp only [decide_eq_true_eq, decide_eq_false_iff_not] at hb)) | (with_reducible refine gdK_of_t _ _ _ _ _ ?_ ?_ <;> (intro hb; try simp only [decide_eq_true_eq, decide_eq_false_iff_not] at hb)) | (with_reducible refine gK_of_f _ _ _ ?_ ?_ <;> (intro hb; try simp only [decide_eq_true_eq, decide_eq_false_iff_not] at hb)) | (with_reducible refine gK_of_t _ _ _ ?_ ?_ <;> (intro hb; try simp only [decide_eq_true_eq, decide_eq_false_iff_not] at hb)))
      refine endsX_fill rfl (by simp only; omega) (fun j o hj ho => ?_) fun X hX => ?_
      · rcases j with _ | _ | j <;> simp only [cloneF] at ho <;> try (cases ho; done)
        split at ho
        · cases ho
        · cases ho
          simp (disch := omega) only [go_sem, reduceIte, sliceB]
      · simp (disch := omega) only [go_sem, reduceIte, sliceB]
set_option maxHeartbeats 1000000 in
theorem clD_ok (hc : CallOK Tryz.prog G (LBegin Tryz.prog ν LL W may) ν call) : SpecOK Tryz.prog G (LBegin Tryz.prog ν LL W may) ν 19 (cClone 54 3) := by
  refine fun_okX (by kernel_rfl) hc fun args s v h' e Lv hlv hG => ?_
  unfold cClone at e
  split at e <;> try (cases e; done)
  rename_i v0
  split at e <;> try (cases e; done)
  rename_i vs hvs
  split at e <;> try (cases e; done)
  rename_i hcond
  obtain ⟨hn, hone, hvl⟩ := hcond
  simp only [Option.some.injEq, Prod.mk.injEq] at e
  obtain ⟨rfl, rfl⟩ := e
  have hb := apb54
  simp only [Option.map] at hb
  have e0 : ∀ H ox oy, binB Tryz.prog H .eql 47 ox oy (.slice none 0 0) (.slice none 0 0) = some (.bool true) := fun H ox oy => by kernel_rfl
  have e1 : ∀ H ox oy, binB Tryz.prog H .eql 47 ox oy (.slice none 0 1) (.slice none 0 0) = some (.bool false) := fun H ox oy => by kernel_rfl
  have e2 : ∀ H ox oy a n c, binB Tryz.prog H .eql 47 ox oy (.slice (some a) n c) (.slice none 0 0) = some (.bool false) := fun H ox oy a n c => by kernel_rfl
  refine ⟨by simp, 0, ?_⟩
  unfold rowB at hvs
  split at hvs <;> try (cases hvs; done)
  · simp only [Option.some.injEq] at hvs
    subst hvs
    unfold cloneV
    refine ⟨Tryz.f19, _, Tryz.func19, rfl, by simp [Tryz.f19], ?_⟩; rw [Tryz.ntmps19]
    repeat' (first | simp (disch := omega) only [go_sem, reduceIte, sliceB, e0, Tryz.results19] | (with_reducible refine w_chain0 ?_ ?_; focus (decide +kernel)) | (with_reducible refine condK_of _ _ ?_ ?_ <;> (intro hb; try simp only [decide_eq_true_eq, decide_eq_false_iff_not] at hb)) | (with_reducible refine gdK_of_f _ _ _ _ _ ?_ ?_ <;> (intro hb; try simp only [decide_eq_true_eq, decide_eq_false_iff_not] at hb)) | (with_reducible refine gdK_of_t _ _ _ _ _ ?_ ?_ <;> (intro hb; try simp only [decide_eq_true_eq, decide_eq_false_iff_not] at hb)) | (with_reducible refine gK_of_f _ _ _ ?_ ?_ <;> (intro hb; try simp only [decide_eq_true_eq, decide_eq_false_iff_not] at hb)) | (with_reducible refine gK_of_t _ _ _ ?_ ?_ <;> (intro hb; try simp only [decide_eq_true_eq, decide_eq_false_iff_not] at hb)))
    exact endsX_fill rfl (by simp only; omega) (fun j o hj ho => by rcases j with _ | _ | j <;> simp [cloneF] at ho) fun X hX => rfl
  · simp only [Option.some.injEq] at hvs
    subst hvs
    unfold cloneV
    refine ⟨Tryz.f19, _, Tryz.func19, rfl, by simp [Tryz.f19], ?_⟩; rw [Tryz.ntmps19]
    repeat' (first | simp (disch := omega) only [go_sem, reduceIte, sliceB, List.length_nil, e1, hb, appendB, newsB, srcB, lenV, firstB, appendB.app, Tryz.results19] | (with_reducible refine w_chain0 ?_ ?_; focus (decide +kernel)) | (with_reducible refine condK_of _ _ ?_ ?_ <;> (intro hb; try simp only [decide_eq_true_eq, decide_eq_false_iff_not] at hb)) | (with_reducible refine gdK_of_f _ _ _ _ _ ?_ ?_ <;> (intro hb; try simp only [decide_eq_true_eq, decide_eq_false_iff_not] at hb)) | (with_reducible refine gdK_of_t _ _ _ _ _ ?_ ?_ <;> (intro hb; try simp only [decide_eq_true_eq, decide_eq_false_iff_not] at hb)) | (with_reducible refine gK_of_f _ _ _ ?_ ?_ <;> (intro hb; try simp only [decide_eq_true_eq, decide_eq_false_iff_not] at hb)) | (with_reducible refine gK_of_t _ _ _ ?_ ?_ <;> (intro hb; try simp only [decide_eq_true_eq, decide_eq_false_iff_not] at hb)))
    exact ⟨wk_emp _ _ _, by simp only; omega, fillT_all (fun j o hj ho => by rcases j with _ | _ | j <;> simp [cloneF] at ho) fun X o hX ho => by
      simp (disch := omega) only [go_sem, reduceIte, sliceB]
      exact ho⟩
  · rename_i B o n c
    split at hvs <;> try (cases hvs; done)
    rename_i cs ty rw hB
    simp only [lenN] at hn hvl
    have lB := hlv.lt _ (hlv.arg B (by simp [occL, occ]))
    cases n with
    | zero =>
      have hv0 : vs = [] := List.length_eq_zero_iff.1 (by simpa using hvl)
      unfold cloneV
      refine ⟨Tryz.f19, _, Tryz.func19, rfl, by simp [Tryz.f19], ?_⟩; rw [Tryz.ntmps19]
      repeat' (first | simp (disch := omega) only [go_sem, reduceIte, sliceB, List.length_nil, e2, hB, hb, appendB, newsB, srcB, lenV, firstB, appendB.app, Tryz.results19] | (with_reducible refine w_chain0 ?_ ?_; focus (decide +kernel)) | (with_reducible refine condK_of _ _ ?_ ?_ <;> (intro hb; try simp only [decide_eq_true_eq, decide_eq_false_iff_not] at hb)) | (with_reducible refine gdK_of_f _ _ _ _ _ ?_ ?_ <;> (intro hb; try simp only [decide_eq_true_eq, decide_eq_false_iff_not] at hb)) | (with_reducible refine gdK_of_t _ _ _ _ _ ?_ ?_ <;> (intro hb; try simp only [decide_eq_true_eq, decide_eq_false_iff_not] at hb)) | (with_reducible refine gK_of_f _ _ _ ?_ ?_ <;> (intro hb; try simp only [decide_eq_true_eq, decide_eq_false_iff_not] at hb)) | (with_reducible refine gK_of_t _ _ _ ?_ ?_ <;> (intro hb; try simp only [decide_eq_true_eq, decide_eq_false_iff_not] at hb)))
      subst hv0
      exact ⟨wk_emp _ _ _, by simp only; omega, fillT_all (fun j o hj ho => by rcases j with _ | _ | j <;> simp [cloneF] at ho) fun X o hX ho => by
        simp (disch := omega) only [go_sem, reduceIte, sliceB]
        exact ho⟩
    | succ n =>
      try simp only [Nat.mul_one] at hvs hvl
      unfold readCells at hvs
      split at hvs <;> try (cases hvs; done)
      rename_i hv1
      have hv2 := Option.some.inj hvs
      have hl2 : Nat.beq vs.length ((n + 1) * 3) = true := by rw [hvl]; exact Nat.beq_refl _
      unfold cloneV
      refine ⟨Tryz.f19, _, Tryz.func19, rfl, by simp [Tryz.f19], ?_⟩; rw [Tryz.ntmps19]
      repeat' (first | simp (disch := omega) only [go_sem, reduceIte, sliceB, List.length_nil, e2, hB, hb, hv1, hv2, hone, hl2, appendB, newsB, srcB, lenV, firstB, appendB.app, Tryz.results19] | (with_reducible refine w_chain0 ?_ ?_; focus (decide +kernel)) | (with_reducible refine condK_of _ _ ?_ ?_ <;> (intro hb; try simp only [decide_eq_true_eq, decide_eq_false_iff_not] at hb)) | (with_reducible refine gdK_of_f _ _ _ _ _ ?_ ?_ <;> (intro hb; try simp only [decide_eq_true_eq, decide_eq_false_iff_not] at hb)) | (with_reducible refine gdK_of_t _ _ _ _ _ ?_ ?_ <;> (intro hb; try simp only [decide_eq_true_eq, decide_eq_false_iff_not] at hb)) | (with_reducible refine gK_of_f _ _ _ ?_ ?_ <;> (intro hb; try simp only [decide_eq_true_eq, decide_eq_false_iff_not] at hb)) | (with_reducible refine gK_of_t _ _ _ ?_ ?_ <;> (intro hb; try simp only [decide_eq_true_eq, decide_eq_false_iff_not] at hb)))
      refine endsX_fill rfl (by simp only; omega) (fun j o hj ho => ?_) fun X hX => ?_
      · rcases j with _ | _ | j <;> simp only [cloneF] at ho <;> try (cases ho; done)
        split at ho
        · cases ho
        · cases ho
          simp (disch := omega) only [go_sem, reduceIte, sliceB]
      · simp (disch := omega) only [go_sem, reduceIte, sliceB]
set_option maxHeartbeats 1000000 in
theorem clE_ok (hc : CallOK Tryz.prog G (LBegin Tryz.prog ν LL W may) ν call) : SpecOK Tryz.prog G (LBegin Tryz.prog ν LL W may) ν 155 (cClone 42 2) := by
  refine fun_okX (by kernel_rfl) hc fun args s v h' e Lv hlv hG => ?_
  unfold cClone at e
  split at e <;> try (cases e; done)
  rename_i v0
  split at e <;> try (cases e; done)
  rename_i vs hvs
  split at e <;> try (cases e; done)
  rename_i hcond
  obtain ⟨hn, hone, hvl⟩ := hcond
  simp only [Option.some.injEq, Prod.mk.injEq] at e
  obtain ⟨rfl, rfl⟩ := e
  have hb := apb42
  simp only [Option.map] at hb
  have e0 : ∀ H ox oy, binB Tryz.prog H .eql 28 ox oy (.slice none 0 0) (.slice none 0 0) = some (.bool true) := fun H ox oy => by kernel_rfl
  have e1 : ∀ H ox oy, binB Tryz.prog H .eql 28 ox oy (.slice none 0 1) (.slice none 0 0) = some (.bool false) := fun H ox oy => by kernel_rfl
  have e2 : ∀ H ox oy a n c, binB Tryz.prog H .eql 28 ox oy (.slice (some a) n c) (.slice none 0 0) = some (.bool false) := fun H ox oy a n c => by kernel_rfl
  refine ⟨by simp, 0, ?_⟩
  unfold rowB at hvs
  split at hvs <;> try (cases hvs; done)
  · simp only [Option.some.injEq] at hvs
    subst hvs
    unfold cloneV
    refine ⟨Tryz.f155, _, Tryz.func155, rfl, by simp [Tryz.f155], ?_⟩; rw [Tryz.ntmps155]
    repeat' (first | simp (disch := omega) only [go_sem, reduceIte, sliceB, e0, Tryz.results155] | (with_reducible refine w_chain0 ?_ ?_; focus (decide +kernel)) | (with_reducible refine condK_of _ _ ?_ ?_ <;> (intro hb; try simp only [decide_eq_true_eq, decide_eq_false_iff_not] at hb)) | (with_reducible refine gdK_of_f _ _ _ _ _ ?_ ?_ <;> (intro hb; try simp only [decide_eq_true_eq, decide_eq_false_iff_not] at hb)) | (with_reducible refine gdK_of_t _ _ _ _ _ ?_ ?_ <;> (intro hb; try simp only [decide_eq_true_eq, decide_eq_false_iff_not] at hb)) | (with_reducible refine gK_of_f _ _ _ ?_ ?_ <;> (intro hb; try simp only [decide_eq_true_eq, decide_eq_false_iff_not] at hb)) | (with_reducible refine gK_of_t _ _ _ ?_ ?_ <;> (intro hb; try simp only [decide_eq_true_eq, decide_eq_false_iff_not] at hb)))
    exact endsX_fill rfl (by simp only; omega) (fun j o hj ho => by rcases j with _ | _ | j <;> simp [cloneF] at ho) fun X hX => rfl
  · simp only [Option.some.injEq] at hvs
    subst hvs
    unfold cloneV
    refine ⟨Tryz.f155, _, Tryz.func155, rfl, by simp [Tryz.f155], ?_⟩; rw [Tryz.ntmps155]
    repeat' (first | simp (disch := omega) only [go_sem, reduceIte, sliceB, List.length_nil, e1, hb, appendB, newsB, srcB, lenV, firstB, appendB.app, Tryz.results155] | (with_reducible refine w_chain0 ?_ ?_; focus (decide +kernel)) | (with_reducible refine condK_of _ _ ?_ ?_ <;> (intro hb; try simp only [decide_eq_true_eq, decide_eq_false_iff_not] at hb)) | (with_reducible refine gdK_of_f _ _ _ _ _ ?_ ?_ <;> (intro hb; try simp only [decide_eq_true_eq, decide_eq_false_iff_not] at hb)) | (with_reducible refine gdK_of_t _ _ _ _ _ ?_ ?_ <;> (intro hb; try simp only [decide_eq_true_eq, decide_eq_false_iff_not] at hb)) | (with_reducible refine gK_of_f _ _ _ ?_ ?_ <;> (intro hb; try simp only [decide_eq_true_eq, decide_eq_false_iff_not] at hb)) | (with_reducible refine gK_of_t _ _ _ ?_ ?_ <;> (intro hb; try simp only [decide_eq_true_eq, decide_eq_false_iff_not] at hb)))
    exact ⟨wk_emp _ _ _, by simp only; omega, fillT_all (fun j o hj ho => by rcases j with _ | _ | j <;> simp [cloneF] at ho) fun X o hX ho => by
      simp (disch := omega) only [go_sem, reduceIte, sliceB]
      exact ho⟩
  · rename_i B o n c
    split at hvs <;> try (cases hvs; done)
    rename_i cs ty rw hB
    simp only [lenN] at hn hvl
    have lB := hlv.lt _ (hlv.arg B (by simp [occL, occ]))
    cases n with
    | zero =>
      have hv0 : vs = [] := List.length_eq_zero_iff.1 (by simpa using hvl)
      unfold cloneV
      refine ⟨Tryz.f155, _, Tryz.func155, rfl, by simp [Tryz.f155], ?_⟩; rw [Tryz.ntmps155]
      repeat' (first | simp (disch := omega) only [go_sem, reduceIte, sliceB, List.length_nil, e2, hB, hb, appendB, newsB, srcB, lenV, firstB, appendB.app, Tryz.results155] | (with_reducible refine w_chain0 ?_ ?_; focus (decide +kernel)) | (with_reducible refine condK_of _ _ ?_ ?_ <;> (intro hb; try simp only [decide_eq_true_eq, decide_eq_false_iff_not] at hb)) | (with_reducible refine gdK_of_f _ _ _ _ _ ?_ ?_ <;> (intro hb; try simp only [decide_eq_true_eq, decide_eq_false_iff_not] at hb)) | (with_reducible refine gdK_of_t _ _ _ _ _ ?_ ?_ <;> (intro hb; try simp only [decide_eq_true_eq, decide_eq_false_iff_not] at hb)) | (with_reducible refine gK_of_f _ _ _ ?_ ?_ <;> (intro hb; try simp only [decide_eq_true_eq, decide_eq_false_iff_not] at hb)) | (with_reducible refine gK_of_t _ _ _ ?_ ?_ <;> (intro hb; try simp only [decide_eq_true_eq, decide_eq_false_iff_not] at hb)))
      subst hv0
      exact ⟨wk_emp _ _ _, by simp only; omega, fillT_all (fun j o hj ho => by rcases j with _ | _ | j <;> simp [cloneF] at ho) fun X o hX ho => by
        simp (disch := omega) only [go_sem, reduceIte, sliceB]
        exact ho⟩
    | succ n =>
      try simp only [Nat.mul_one] at hvs hvl
      unfold readCells at hvs
      split at hvs <;> try (cases hvs; done)
      rename_i hv1
      have hv2 := Option.some.inj hvs
      have hl2 : Nat.beq vs.length ((n + 1) * 2) = true := by rw [hvl]; exact Nat.beq_refl _
      unfold cloneV
      refine ⟨Tryz.f155, _, Tryz.func155, rfl, by simp [Tryz.f155], ?_⟩; rw [Tryz.ntmps155]
      repeat' (first | simp (disch := omega) only [go_sem, reduceIte, sliceB, List.length_nil, e2, hB, hb, hv1, hv2, hone, hl2, appendB, newsB, srcB, lenV, firstB, appendB.app, Tryz.results155] | (with_reducible refine w_chain0 ?_ ?_; focus (decide +kernel)) | (with_reducible refine condK_of _ _ ?_ ?_ <;> (intro hb; try simp only [decide_eq_true_eq, decide_eq_false_iff_not] at hb)) | (with_reducible refine gdK_of_f _ _ _ _ _ ?_ ?_ <;> (intro hb; try simp only [decide_eq_true_eq, decide_eq_false_iff_not] at hb)) | (with_reducible refine gdK_of_t _ _ _ _ _ ?_ ?_ <;> (intro hb; try simp only [decide_eq_true_eq, decide_eq_false_iff_not] at hb)) | (with_reducible refine gK_of_f _ _ _ ?_ ?_ <;> (intro hb; try simp only [decide_eq_true_eq, decide_eq_false_iff_not] at hb)) | (with_reducible refine gK_of_t _ _ _ ?_ ?_ <;> (intro hb; try simp only [decide_eq_true_eq, decide_eq_false_iff_not] at hb)))
      refine endsX_fill rfl (by simp only; omega) (fun j o hj ho => ?_) fun X hX => ?_
      · rcases j with _ | _ | j <;> simp only [cloneF] at ho <;> try (cases ho; done)
        split at ho
        · cases ho
        · cases ho
          simp (disch := omega) only [go_sem, reduceIte, sliceB]
      · simp (disch := omega) only [go_sem, reduceIte, sliceB]
end
end Go.Proofs.YtclmjcjaebonnaaGreatDoor
end
