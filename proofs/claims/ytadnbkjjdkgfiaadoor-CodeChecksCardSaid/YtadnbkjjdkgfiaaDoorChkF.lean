/-
  Which registers instructions name: gathered one by one, or told at once. No walk in sight.
-/
import Derived.Test.YtadnbkjjdkgfiaaDoorChkB
import Derived.Test.YtadnbkjjdkgfiaaDoorChkD
namespace Go.Viv
open Go.Lib Go.Proofs.YtadnbkjjdkgfiaaDoor Go.RowKit
def stepL (i : Insn) (acc : List Int) (c : UInt8) : List Int := if c = 114 then insS i.r acc else if c = 115 then insS i.s acc else acc
def regsI (acc : List Int) (i : Insn) : List Int := (formB i.op).foldl (stepL i) acc
def regsF (l : List Insn) : List Int := l.foldl regsI []
theorem regsF_snoc (l : List Insn) (i : Insn) : regsF (l ++ [i]) = regsI (regsF l) i := by simp [regsF]
theorem form_len (op : Int) : (formB op).length ≤ 2 := by
  unfold formB
  split
  · simp
  · split
    · simp
    · split
      · simp
      · split <;> simp
theorem insS_len (i : Int) : ∀ l, (insS i l).length ≤ l.length + 1
  | [] => by simp [insS]
  | a :: r => by
    have := insS_len i r
    unfold insS
    split
    · simp; omega
    · split <;> simp
theorem stepL_len (i : Insn) (acc : List Int) (c : UInt8) : (stepL i acc c).length ≤ acc.length + 1 := by
  unfold stepL
  split
  · exact insS_len _ _
  · split
    · exact insS_len _ _
    · omega
theorem steps_len (i : Insn) : ∀ (cs : List UInt8) (acc : List Int), (cs.foldl (stepL i) acc).length ≤ acc.length + cs.length
  | [], acc => by simp
  | c :: cs, acc => by
    have h1 := steps_len i cs (stepL i acc c)
    have h2 := stepL_len i acc c
    simp only [List.foldl_cons, List.length_cons]
    omega
theorem regsFold_len : ∀ (l : List Insn) (acc : List Int), (l.foldl regsI acc).length ≤ acc.length + 2 * l.length
  | [], acc => by simp
  | i :: r, acc => by
    have h1 := regsFold_len r (regsI acc i)
    have h2 := steps_len i (formB i.op) acc
    have h3 := form_len i.op
    simp only [List.foldl_cons, List.length_cons]
    unfold regsI at *
    omega
theorem regsF_len (l : List Insn) : (regsF l).length ≤ 2 * l.length := by
  have := regsFold_len l []
  simpa [regsF] using this
theorem stepL_rises {i : Insn} {acc : List Int} {c : UInt8} (h : Rises acc) : Rises (stepL i acc c) := by
  unfold stepL
  split
  · exact rises_insS h
  · split
    · exact rises_insS h
    · exact h
theorem steps_rise {i : Insn} : ∀ {cs : List UInt8} {acc : List Int}, Rises acc → Rises (cs.foldl (stepL i) acc)
  | [], _, h => h
  | _ :: cs, _, h => steps_rise (cs := cs) (stepL_rises h)
theorem fold_rise : ∀ {l : List Insn} {acc : List Int}, Rises acc → Rises (l.foldl regsI acc)
  | [], _, h => h
  | i :: r, _, h => fold_rise (l := r) (steps_rise (i := i) (cs := formB i.op) h)
theorem regsF_rises (l : List Insn) : Rises (regsF l) := fold_rise (l := l) (acc := []) trivial
theorem mem_stepL {i : Insn} {acc : List Int} {c : UInt8} {x : Int} : x ∈ stepL i acc c ↔ x ∈ acc ∨ (c = 114 ∧ x = i.r) ∨ (c = 115 ∧ x = i.s) := by
  unfold stepL
  by_cases h1 : c = 114
  · rw [if_pos h1, mem_insS]
    subst h1
    simp
    exact Or.comm
  · rw [if_neg h1]
    by_cases h2 : c = 115
    · rw [if_pos h2, mem_insS]
      subst h2
      simp
      exact Or.comm
    · rw [if_neg h2]
      simp [h1, h2]
theorem mem_steps {i : Insn} {x : Int} : ∀ {cs : List UInt8} {acc : List Int}, x ∈ cs.foldl (stepL i) acc ↔ x ∈ acc ∨ ((114 : UInt8) ∈ cs ∧ x = i.r) ∨ ((115 : UInt8) ∈ cs ∧ x = i.s)
  | [], acc => by simp
  | c :: cs, acc => by
    rw [List.foldl_cons, mem_steps (cs := cs), mem_stepL]
    simp only [List.mem_cons]
    constructor
    · rintro ((h | ⟨h, e⟩ | ⟨h, e⟩) | ⟨h, e⟩ | ⟨h, e⟩)
      · exact .inl h
      · exact .inr (.inl ⟨.inl h.symm, e⟩)
      · exact .inr (.inr ⟨.inl h.symm, e⟩)
      · exact .inr (.inl ⟨.inr h, e⟩)
      · exact .inr (.inr ⟨.inr h, e⟩)
    · rintro (h | ⟨h | h, e⟩ | ⟨h | h, e⟩)
      · exact .inl (.inl h)
      · exact .inl (.inr (.inl ⟨h.symm, e⟩))
      · exact .inr (.inl ⟨h, e⟩)
      · exact .inl (.inr (.inr ⟨h.symm, e⟩))
      · exact .inr (.inr ⟨h, e⟩)
def names (i : Insn) (x : Int) : Prop := ((114 : UInt8) ∈ formB i.op ∧ x = i.r) ∨ ((115 : UInt8) ∈ formB i.op ∧ x = i.s)
theorem mem_fold {x : Int} : ∀ {l : List Insn} {acc : List Int}, x ∈ l.foldl regsI acc ↔ x ∈ acc ∨ ∃ i ∈ l, names i x
  | [], acc => by simp
  | i :: r, acc => by
    rw [List.foldl_cons, mem_fold (l := r)]
    unfold regsI
    rw [mem_steps]
    constructor
    · rintro ((h | h) | ⟨j, hj, h⟩)
      · exact .inl h
      · exact .inr ⟨i, by simp, h⟩
      · exact .inr ⟨j, by simp [hj], h⟩
    · rintro (h | ⟨j, hj, h⟩)
      · exact .inl (.inl h)
      · rcases List.mem_cons.1 hj with rfl | hj
        · exact .inl (.inr h)
        · exact .inr ⟨j, hj, h⟩
theorem cnt_pos {j : Int} : ∀ {l : List Insn}, 0 < cnt l j ↔ ∃ i ∈ l, 0 < cntI i j
  | [] => by simp [cnt]
  | i :: r => by
    have ih := cnt_pos (j := j) (l := r)
    simp only [cnt]
    constructor
    · intro h
      by_cases h1 : 0 < cntI i j
      · exact ⟨i, by simp, h1⟩
      · obtain ⟨k, hk, h2⟩ := ih.1 (by omega)
        exact ⟨k, by simp [hk], h2⟩
    · rintro ⟨k, hk, h⟩
      rcases List.mem_cons.1 hk with rfl | hk
      · omega
      · have := ih.2 ⟨k, hk, h⟩
        omega
theorem hit_pos {b : Bool} {r j : Int} : 0 < hit b r j ↔ b = true ∧ 0 ≤ r ∧ r < 4 ∧ r = j := by
  unfold hit
  split
  · rename_i h
    simp at h
    obtain ⟨⟨⟨h1, h2⟩, h3⟩, h4⟩ := h
    simp [h1, h4]
    rw [← h4]
    exact ⟨h2, h3⟩
  · rename_i h
    simp at h
    constructor
    · intro h'; omega
    · rintro ⟨h1, h2, h3, h4⟩
      exact absurd h4 (h h1 h2 h3)
/-- What an instruction that may be names, told in both ways. -/
theorem names_iff {i : Insn} (h : insOkP i = true) (x : Int) : names i x ↔ (0 < cntI i x) := by
  have hin : inB i = true := by
    cases hb : inB i with
    | true => rfl
    | false => rw [insOkP_out i hb] at h; cases h
  simp [inB] at hin
  have h' := op_cases (op := i.op) (by omega)
  have hh : 0 < cntI i x ↔ 0 < hit ((ofOp i.op).getD ⟨[], false, false, false, false⟩).r i.r x ∨ 0 < hit ((ofOp i.op).getD ⟨[], false, false, false, false⟩).s i.s x := by
    unfold cntI; omega
  rw [hh, hit_pos, hit_pos]
  unfold names
  have hr : 0 ≤ i.r ∧ i.r < 4 := by omega
  have hs : 0 ≤ i.s ∧ i.s < 4 := by omega
  have e1 : (114 : UInt8) ∈ formB i.op ↔ ((ofOp i.op).getD ⟨[], false, false, false, false⟩).r = true := by
    rcases h' with h | h | h | h | h | h | h | h | h | h | h | h | h | h | h | h | h | h <;> rw [h] <;> decide
  have e2 : (115 : UInt8) ∈ formB i.op ↔ ((ofOp i.op).getD ⟨[], false, false, false, false⟩).s = true := by
    rcases h' with h | h | h | h | h | h | h | h | h | h | h | h | h | h | h | h | h | h <;> rw [h] <;> decide
  rw [e1, e2]
  constructor
  · rintro (⟨a, rfl⟩ | ⟨a, rfl⟩)
    · exact .inl ⟨a, hr.1, hr.2, rfl⟩
    · exact .inr ⟨a, hs.1, hs.2, rfl⟩
  · rintro (⟨a, _, _, e⟩ | ⟨a, _, _, e⟩)
    · exact .inl ⟨a, e.symm⟩
    · exact .inr ⟨a, e.symm⟩
theorem rises_filter (F : Int → Bool) : ∀ {l : List Int}, Rises l → Rises (l.filter F)
  | [], _ => trivial
  | a :: r, h => by
    rw [List.filter_cons]
    split
    · exact Rises.cons (rises_filter F h.tail) (fun x hx => h.lt x (List.mem_filter.1 hx).1)
    · exact rises_filter F h.tail
theorem regs_eq {l : List Insn} (h : l.all insOkP = true) : regsOf l = regsF l := by
  refine rises_ext (rises_filter _ (by simp [Rises])) (regsF_rises l) (fun x => ?_)
  unfold regsF regsOf
  rw [mem_fold, List.mem_filter]
  simp only [List.not_mem_nil, false_or, decide_eq_true_eq]
  have key : (∃ i ∈ l, names i x) ↔ 0 < cnt l x := by
    rw [cnt_pos]
    constructor
    · rintro ⟨i, hi, hn⟩
      exact ⟨i, hi, (names_iff (List.all_eq_true.1 h i hi) x).1 hn⟩
    · rintro ⟨i, hi, hn⟩
      exact ⟨i, hi, (names_iff (List.all_eq_true.1 h i hi) x).2 hn⟩
  rw [key]
  refine ⟨fun h => h.2, fun h1 => ⟨?_, h1⟩⟩
  obtain ⟨i, _, hc⟩ := cnt_pos.1 h1
  have hh : 0 < hit ((ofOp i.op).getD ⟨[], false, false, false, false⟩).r i.r x ∨ 0 < hit ((ofOp i.op).getD ⟨[], false, false, false, false⟩).s i.s x := by
    unfold cntI at hc; omega
  rw [hit_pos, hit_pos] at hh
  have : 0 ≤ x ∧ x < 4 := by
    rcases hh with ⟨_, a, b, rfl⟩ | ⟨_, a, b, rfl⟩ <;> exact ⟨a, b⟩
  have : x = 0 ∨ x = 1 ∨ x = 2 ∨ x = 3 := by omega
  simpa using this
end Go.Viv
