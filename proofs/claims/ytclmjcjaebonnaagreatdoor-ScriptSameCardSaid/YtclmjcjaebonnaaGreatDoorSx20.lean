/-
  Rows that are the same, or of unlike length, over the tree: slices.Equal. Printed by wip/gen/genSsm.py.
-/
import Derived.Test.YtclmjcjaebonnaaGreatDoorSx19
set_option linter.unusedSimpArgs false
set_option linter.unusedVariables false
namespace Go.Sym
open Go Go.RowKit Go.Viv Go.Eva
theorem pureRun_bind {α β : Type} {P : Program} {m : Sem α} {a : α} {f : α → Sem β} (h : pureRun P m = some a) : pureRun P (m >>= f) = pureRun P (f a) := by
  show pureRun P (Sem.bind m f) = _
  induction m with
  | pure b => cases h; rfl
  | program k ih => exact ih P h
  | _ => cases h
theorem equal_bool {P : Program} {t : TypeId} (ht : P.underlying t = some .bool) (a b : Bool) : pureRun P (Op.equal t (.bool a) (.bool b)) = some (a == b) := by
  unfold Op.equal
  rw [show Op.maxDepth = 9999 + 1 from rfl]
  unfold Op.equalIn
  have hu : pureRun P (underlying t) = some TypeDesc.bool := by
    unfold underlying
    show pureRun P (match P.underlying t with | some d => pure d | none => stuck "no such type") = _
    rw [ht]
    rfl
  rw [pureRun_bind hu]
  rfl
theorem b_eqlB {P : Program} {H : Tr AObj} {t : TypeId} {ox oy : Operand} (ht : P.underlying t = some .bool) (a b : Bool) : binB P H .eql t ox oy (.bool a) (.bool b) = some (.bool (a == b)) := by
  show runV P (do eqGuard .eql t ox oy (.bool a) (.bool b); binOp .eql t (.bool a) (.bool b)) = _
  unfold runV eqGuard
  simp
  have h1 : pureRun P (binOp .eql t (.bool a) (.bool b)) = some (Value.bool (a == b)) := by
    show pureRun P (do pure (Value.bool (← Op.equal t (.bool a) (.bool b)))) = _
    rw [pureRun_bind (equal_bool ht a b)]
    rfl
  rw [h1]
  rfl
theorem b_neqB {P : Program} {H : Tr AObj} {t : TypeId} {ox oy : Operand} (ht : P.underlying t = some .bool) (a b : Bool) : binB P H .neq t ox oy (.bool a) (.bool b) = some (.bool (!(a == b))) := by
  show runV P (do eqGuard .neq t ox oy (.bool a) (.bool b); binOp .neq t (.bool a) (.bool b)) = _
  unfold runV eqGuard
  simp
  have h1 : pureRun P (binOp .neq t (.bool a) (.bool b)) = some (Value.bool (!(a == b))) := by
    show pureRun P (do pure (Value.bool (!(← Op.equal t (.bool a) (.bool b))))) = _
    rw [pureRun_bind (equal_bool ht a b)]
    rfl
  rw [h1]
  rfl
def boolsC (l : List Bool) : List Value := l.map .bool
def boolsL : List Value → Option (List Bool)
  | [] => some []
  | .bool b :: r => (boolsL r).map (b :: ·)
  | _ :: _ => none
theorem boolsL_eq : ∀ {vs : List Value} {l : List Bool}, boolsL vs = some l → vs = boolsC l
  | [], l, h => by cases h; rfl
  | v :: r, l, h => by
    unfold boolsL at h
    split at h <;> try (cases h; done)
    · rename_i heq; cases heq
    rename_i b r' heq
    cases heq
    obtain ⟨m, hm, rfl⟩ := Option.map_eq_some_iff.1 h
    rw [boolsL_eq hm]
    rfl
theorem boolsL_of : ∀ l : List Bool, boolsL (boolsC l) = some l
  | [] => rfl
  | b :: l => by show (boolsL (boolsC l)).map (b :: ·) = _; rw [boolsL_of l]; rfl
theorem boolsC_len (l : List Bool) : (boolsC l).length = l.length := by simp [boolsC]
/-- A row of elements of some cells. -/
theorem row_at {t : Tr AObj} {v : Value} {k : Nat} {vs : List Value} (h : rowB t k v = some vs) : ∃ a n c, v = .slice a n c ∧ vs.length = n * k ∧ ∀ i, i < n → ∃ B o cs ty rw, a = some ⟨B, o, none⟩ ∧ t.at_ B = some (.cells cs ty rw) ∧ has (cs.drop (o + i * k)) k = true ∧ (cs.drop (o + i * k)).take k = (vs.drop (i * k)).take k := by
  unfold rowB at h
  split at h <;> try (cases h; done)
  · cases h; exact ⟨none, 0, 0, rfl, by simp, fun i hi => by omega⟩
  · cases h; exact ⟨none, 0, 1, rfl, by simp, fun i hi => by omega⟩
  · rename_i B o n c
    split at h <;> try (cases h; done)
    rename_i cs ty rw hB
    have hl := read_len h
    refine ⟨_, n, c, rfl, hl, fun i hi => ⟨B, o, cs, ty, rw, rfl, hB, ?_⟩⟩
    unfold readCells at h
    split at h <;> try (cases h; done)
    have hk : i * k + k ≤ n * k := by rw [← Nat.succ_mul]; exact Nat.mul_le_mul_right _ hi
    have h2 : (cs.drop o).take (n * k) = vs := Option.some.inj h
    have h3 : n * k ≤ cs.length - o := by
      have := congrArg List.length h2
      rw [List.length_take, List.length_drop, hl] at this
      omega
    constructor
    · exact has_le (by rw [List.length_drop]; omega)
    · rw [← h2, List.drop_take, List.drop_drop, List.take_take, Nat.min_eq_left (by omega)]
theorem one_at {cs : List Value} {o i : Nat} {x : Value} (h : (cs.drop (o + i * 1)).take 1 = [x]) : cs[o + i]? = some x := by
  have := congrArg (·[0]?) h
  simp only [Nat.mul_one] at this
  rw [List.getElem?_take_of_lt (by omega), List.getElem?_drop] at this
  exact this
theorem ints1 {l : List Int} {i : Nat} (h : i < l.length) : ∃ x, ((intsC l).drop (i * 1)).take 1 = [.int .i64 x] := by
  have e : (((intsC l).drop (i * 1)).take 1).length = 1 := by rw [List.length_take, List.length_drop, intsC_len]; omega
  have e2 : ((intsC l).drop (i * 1)).take 1 = intsC ((l.drop (i * 1)).take 1) := by simp [intsC, List.map_drop, List.map_take]
  rw [e2] at e ⊢
  match hm : (l.drop (i * 1)).take 1 with
  | [x] => exact ⟨x, rfl⟩
  | [] => rw [hm] at e; cases e
  | _ :: _ :: _ => rw [hm] at e; simp [intsC] at e
theorem ints2 {l : List Int} {i : Nat} (h : i * 2 + 2 ≤ l.length) : ∃ x y, ((intsC l).drop (i * 2)).take 2 = [.int .i64 x, .int .i64 y] := by
  have e : (((intsC l).drop (i * 2)).take 2).length = 2 := by rw [List.length_take, List.length_drop, intsC_len]; omega
  have e2 : ((intsC l).drop (i * 2)).take 2 = intsC ((l.drop (i * 2)).take 2) := by simp [intsC, List.map_drop, List.map_take]
  rw [e2] at e ⊢
  match hm : (l.drop (i * 2)).take 2 with
  | [x, y] => exact ⟨x, y, rfl⟩
  | [] => rw [hm] at e; cases e
  | [_] => rw [hm] at e; cases e
  | _ :: _ :: _ :: _ => rw [hm] at e; simp [intsC] at e
theorem ints3 {l : List Int} {i : Nat} (h : i * 3 + 3 ≤ l.length) : ∃ x y z, ((intsC l).drop (i * 3)).take 3 = [.int .i64 x, .int .i64 y, .int .i64 z] := by
  have e : (((intsC l).drop (i * 3)).take 3).length = 3 := by rw [List.length_take, List.length_drop, intsC_len]; omega
  have e2 : ((intsC l).drop (i * 3)).take 3 = intsC ((l.drop (i * 3)).take 3) := by simp [intsC, List.map_drop, List.map_take]
  rw [e2] at e ⊢
  match hm : (l.drop (i * 3)).take 3 with
  | [x, y, z] => exact ⟨x, y, z, rfl⟩
  | [] => rw [hm] at e; cases e
  | [_] => rw [hm] at e; cases e
  | [_, _] => rw [hm] at e; cases e
  | _ :: _ :: _ :: _ :: _ => rw [hm] at e; simp [intsC] at e
theorem bools1 {l : List Bool} {i : Nat} (h : i < l.length) : ∃ x, ((boolsC l).drop (i * 1)).take 1 = [.bool x] := by
  have e : (((boolsC l).drop (i * 1)).take 1).length = 1 := by rw [List.length_take, List.length_drop, boolsC_len]; omega
  have e2 : ((boolsC l).drop (i * 1)).take 1 = boolsC ((l.drop (i * 1)).take 1) := by simp [boolsC, List.map_drop, List.map_take]
  rw [e2] at e ⊢
  match hm : (l.drop (i * 1)).take 1 with
  | [x] => exact ⟨x, rfl⟩
  | [] => rw [hm] at e; cases e
  | _ :: _ :: _ => rw [hm] at e; simp [boolsC] at e
end Go.Sym
namespace Go.Proofs.YtclmjcjaebonnaaGreatDoor
open Go Go.RowKit Go.Viv Go.Eva Go.Sym
def cEqL (k : Nat) : Sym.CallS := fun args s => match args with
  | [v, u] => match rowB s.t k v, rowB s.t k u with
    | some l, some m => match intsL l, intsL m with
      | some l', some m' => if l' = m' ∧ l'.length ≤ 1000000 then some (.bool true, noneT s (64 * l'.length)) else if l'.length ≠ m'.length then some (.bool false, noneT s (64 * l'.length)) else none
      | _, _ => none
    | _, _ => none
  | _ => none
def cEqB : Sym.CallS := fun args s => match args with
  | [v, u] => match rowB s.t 1 v, rowB s.t 1 u with
    | some l, some m => match boolsL l, boolsL m with
      | some l', some m' => if l' = m' ∧ l'.length ≤ 1000000 then some (.bool true, noneT s (64 * l'.length)) else if l'.length ≠ m'.length then some (.bool false, noneT s (64 * l'.length)) else none
      | _, _ => none
    | _, _ => none
  | _ => none
section
variable {G : Nat} {ν : Toks} {W : World} {may : Nat → Prop} {call : CallB}
set_option maxHeartbeats 1000000 in
theorem eqN_ok (hc : CallOK Tryz.prog G (LBegin Tryz.prog ν LL W may) ν call) : SpecOK Tryz.prog G (LBegin Tryz.prog ν LL W may) ν 13 (cEqL 1) := by
  refine fun_okX (by kernel_rfl) hc fun args s v h' e Lv hlv hG => ?_
  unfold cEqL at e
  split at e <;> try (cases e; done)
  rename_i v0 u0
  split at e <;> try (cases e; done)
  rename_i vs us p1 q1
  split at e <;> try (cases e; done)
  rename_i l m p2 q2
  obtain rfl := intsL_eq p2
  obtain rfl := intsL_eq q2
  obtain ⟨a, n, c, rfl, pl, ha⟩ := row_at p1
  obtain ⟨b, n', d, rfl, ql, hb⟩ := row_at q1
  rw [intsC_len] at pl ql
  split at e
  · rename_i hlk
    obtain ⟨rfl, hmx⟩ := hlk
    unfold noneT at e
    simp only [Option.some.injEq, Prod.mk.injEq] at e
    obtain ⟨rfl, rfl⟩ := e
    have hnn : n' = n := by omega
    subst hnn
    refine ⟨by simp, 0, ?_⟩
    refine ⟨Tryz.f13, _, Tryz.func13, rfl, by simp [Tryz.f13], ?_⟩; rw [Tryz.ntmps13]
    repeat' (first | simp (disch := omega) only [go_sem, reduceIte, sliceB, Tryz.results13] | (with_reducible refine w_chain0 ?_ ?_; focus (decide +kernel)) | (with_reducible refine condK_of _ _ ?_ ?_ <;> (intro hb; try simp only [decide_eq_true_eq, decide_eq_false_iff_not] at hb)) | (with_reducible refine gdK_of_f _ _ _ _ _ ?_ ?_ <;> (intro hb; try simp only [decide_eq_true_eq, decide_eq_false_iff_not] at hb)) | (with_reducible refine gdK_of_t _ _ _ _ _ ?_ ?_ <;> (intro hb; try simp only [decide_eq_true_eq, decide_eq_false_iff_not] at hb)) | (with_reducible refine gK_of_f _ _ _ ?_ ?_ <;> (intro hb; try simp only [decide_eq_true_eq, decide_eq_false_iff_not] at hb)) | (with_reducible refine gK_of_t _ _ _ ?_ ?_ <;> (intro hb; try simp only [decide_eq_true_eq, decide_eq_false_iff_not] at hb)))
    refine w_loop (fun m T1 h1 => ∃ i, i ≤ n' ∧ m = n' - i ∧ Eva.look T1 0 = .slice a n' c ∧ Eva.look T1 1 = .slice b n' d ∧ Eva.look T1 12 = .int .i64 (n' : Int) ∧ Eva.look T1 13 = .int .i64 (i : Int) ∧ h1 = ⟨s.t, s.next + 64 * i⟩) n' ?_ ?_
    · refine ⟨0, by omega, by omega, ?_, ?_, ?_, ?_, rfl⟩ <;> (try simp (disch := omega) only [go_sem, reduceIte, sliceB]) <;> (try rfl)
    · rintro m T1 h1 ⟨i, hi, hm, t0, t1, t12, t13, rfl⟩
      by_cases hlt : i < n'
      · obtain ⟨x, hx⟩ := ints1 (l := l) (i := i) (by omega)
        obtain ⟨B, o, cs, ty, rw, rfl, hB, hcs, hcs1⟩ := ha i hlt
        obtain ⟨B', o', cs', ty', rw', r', hB', hcs', hcs1'⟩ := hb i hlt
        subst r'
        rw [hx] at hcs1 hcs1'
        have hcs2 := one_at hcs1
        have hcs2' := one_at hcs1'
        repeat' (first | simp (disch := omega) only [go_sem, reduceIte, sliceB, t0, t1, t12, t13, hB, hB', hcs2, hcs2', Int.toNat_natCast, b_neqB und4, beq_self_eq_true] | (with_reducible refine w_chain0 ?_ ?_; focus (decide +kernel)) | (with_reducible refine condK_of _ _ ?_ ?_ <;> (intro hb; try simp only [decide_eq_true_eq, decide_eq_false_iff_not] at hb)) | (with_reducible refine gdK_of_f _ _ _ _ _ ?_ ?_ <;> (intro hb; try simp only [decide_eq_true_eq, decide_eq_false_iff_not] at hb)) | (with_reducible refine gdK_of_t _ _ _ _ _ ?_ ?_ <;> (intro hb; try simp only [decide_eq_true_eq, decide_eq_false_iff_not] at hb)) | (with_reducible refine gK_of_f _ _ _ ?_ ?_ <;> (intro hb; try simp only [decide_eq_true_eq, decide_eq_false_iff_not] at hb)) | (with_reducible refine gK_of_t _ _ _ ?_ ?_ <;> (intro hb; try simp only [decide_eq_true_eq, decide_eq_false_iff_not] at hb)))
        refine ⟨n' - (i + 1), by omega, i + 1, by omega, rfl, ?_⟩
        exact ⟨by simp, by simp [Nat.mul_add, Nat.add_assoc]⟩
      · obtain rfl : i = n' := by omega
        repeat' (first | simp (disch := omega) only [go_sem, reduceIte, sliceB, t0, t1, t12, t13, Tryz.results13] | (with_reducible refine w_chain0 ?_ ?_; focus (decide +kernel)) | (with_reducible refine condK_of _ _ ?_ ?_ <;> (intro hb; try simp only [decide_eq_true_eq, decide_eq_false_iff_not] at hb)) | (with_reducible refine gdK_of_f _ _ _ _ _ ?_ ?_ <;> (intro hb; try simp only [decide_eq_true_eq, decide_eq_false_iff_not] at hb)) | (with_reducible refine gdK_of_t _ _ _ _ _ ?_ ?_ <;> (intro hb; try simp only [decide_eq_true_eq, decide_eq_false_iff_not] at hb)) | (with_reducible refine gK_of_f _ _ _ ?_ ?_ <;> (intro hb; try simp only [decide_eq_true_eq, decide_eq_false_iff_not] at hb)) | (with_reducible refine gK_of_t _ _ _ ?_ ?_ <;> (intro hb; try simp only [decide_eq_true_eq, decide_eq_false_iff_not] at hb)))
        exact endsX_same rfl (by simp only; omega) fun X hX => rfl
  split at e <;> try (cases e; done)
  rename_i hlk hne
  unfold noneT at e
  simp only [Option.some.injEq, Prod.mk.injEq] at e
  obtain ⟨rfl, rfl⟩ := e
  have hnn : (n : Int) ≠ (n' : Int) := fun h => hne (by rw [pl, ql, show n = n' by omega])
  refine ⟨by simp, 0, ?_⟩
  refine ⟨Tryz.f13, _, Tryz.func13, rfl, by simp [Tryz.f13], ?_⟩; rw [Tryz.ntmps13]
  repeat' (first | simp (disch := omega) only [go_sem, reduceIte, sliceB, Tryz.results13, hnn] | (with_reducible refine w_chain0 ?_ ?_; focus (decide +kernel)) | (with_reducible refine condK_of _ _ ?_ ?_ <;> (intro hb; try simp only [decide_eq_true_eq, decide_eq_false_iff_not] at hb)) | (with_reducible refine gdK_of_f _ _ _ _ _ ?_ ?_ <;> (intro hb; try simp only [decide_eq_true_eq, decide_eq_false_iff_not] at hb)) | (with_reducible refine gdK_of_t _ _ _ _ _ ?_ ?_ <;> (intro hb; try simp only [decide_eq_true_eq, decide_eq_false_iff_not] at hb)) | (with_reducible refine gK_of_f _ _ _ ?_ ?_ <;> (intro hb; try simp only [decide_eq_true_eq, decide_eq_false_iff_not] at hb)) | (with_reducible refine gK_of_t _ _ _ ?_ ?_ <;> (intro hb; try simp only [decide_eq_true_eq, decide_eq_false_iff_not] at hb)))
  exact endsX_same rfl (by simp only; omega) fun X hX => rfl
set_option maxHeartbeats 1000000 in
theorem eqE_ok (hc : CallOK Tryz.prog G (LBegin Tryz.prog ν LL W may) ν call) : SpecOK Tryz.prog G (LBegin Tryz.prog ν LL W may) ν 14 (cEqL 2) := by
  refine fun_okX (by kernel_rfl) hc fun args s v h' e Lv hlv hG => ?_
  unfold cEqL at e
  split at e <;> try (cases e; done)
  rename_i v0 u0
  split at e <;> try (cases e; done)
  rename_i vs us p1 q1
  split at e <;> try (cases e; done)
  rename_i l m p2 q2
  obtain rfl := intsL_eq p2
  obtain rfl := intsL_eq q2
  obtain ⟨a, n, c, rfl, pl, ha⟩ := row_at p1
  obtain ⟨b, n', d, rfl, ql, hb⟩ := row_at q1
  rw [intsC_len] at pl ql
  split at e
  · rename_i hlk
    obtain ⟨rfl, hmx⟩ := hlk
    unfold noneT at e
    simp only [Option.some.injEq, Prod.mk.injEq] at e
    obtain ⟨rfl, rfl⟩ := e
    have hnn : n' = n := by omega
    subst hnn
    refine ⟨by simp, 0, ?_⟩
    refine ⟨Tryz.f14, _, Tryz.func14, rfl, by simp [Tryz.f14], ?_⟩; rw [Tryz.ntmps14]
    repeat' (first | simp (disch := omega) only [go_sem, reduceIte, sliceB, Tryz.results14] | (with_reducible refine w_chain0 ?_ ?_; focus (decide +kernel)) | (with_reducible refine condK_of _ _ ?_ ?_ <;> (intro hb; try simp only [decide_eq_true_eq, decide_eq_false_iff_not] at hb)) | (with_reducible refine gdK_of_f _ _ _ _ _ ?_ ?_ <;> (intro hb; try simp only [decide_eq_true_eq, decide_eq_false_iff_not] at hb)) | (with_reducible refine gdK_of_t _ _ _ _ _ ?_ ?_ <;> (intro hb; try simp only [decide_eq_true_eq, decide_eq_false_iff_not] at hb)) | (with_reducible refine gK_of_f _ _ _ ?_ ?_ <;> (intro hb; try simp only [decide_eq_true_eq, decide_eq_false_iff_not] at hb)) | (with_reducible refine gK_of_t _ _ _ ?_ ?_ <;> (intro hb; try simp only [decide_eq_true_eq, decide_eq_false_iff_not] at hb)))
    refine w_loop (fun m T1 h1 => ∃ i, i ≤ n' ∧ m = n' - i ∧ Eva.look T1 0 = .slice a n' c ∧ Eva.look T1 1 = .slice b n' d ∧ Eva.look T1 12 = .int .i64 (n' : Int) ∧ Eva.look T1 13 = .int .i64 (i : Int) ∧ h1 = ⟨s.t, s.next + 64 * i⟩) n' ?_ ?_
    · refine ⟨0, by omega, by omega, ?_, ?_, ?_, ?_, rfl⟩ <;> (try simp (disch := omega) only [go_sem, reduceIte, sliceB]) <;> (try rfl)
    · rintro m T1 h1 ⟨i, hi, hm, t0, t1, t12, t13, rfl⟩
      by_cases hlt : i < n'
      · obtain ⟨x, y, hx⟩ := ints2 (l := l) (i := i) (by omega)
        obtain ⟨B, o, cs, ty, rw, rfl, hB, hcs, hcs1⟩ := ha i hlt
        obtain ⟨B', o', cs', ty', rw', r', hB', hcs', hcs1'⟩ := hb i hlt
        subst r'
        rw [hx] at hcs1 hcs1'
        repeat' (first | simp (disch := omega) only [go_sem, reduceIte, sliceB, t0, t1, t12, t13, hB, hB', hcs, hcs', hcs1, hcs1', Int.toNat_natCast, b_neqB und4, beq_self_eq_true] | (with_reducible refine w_chain0 ?_ ?_; focus (decide +kernel)) | (with_reducible refine condK_of _ _ ?_ ?_ <;> (intro hb; try simp only [decide_eq_true_eq, decide_eq_false_iff_not] at hb)) | (with_reducible refine gdK_of_f _ _ _ _ _ ?_ ?_ <;> (intro hb; try simp only [decide_eq_true_eq, decide_eq_false_iff_not] at hb)) | (with_reducible refine gdK_of_t _ _ _ _ _ ?_ ?_ <;> (intro hb; try simp only [decide_eq_true_eq, decide_eq_false_iff_not] at hb)) | (with_reducible refine gK_of_f _ _ _ ?_ ?_ <;> (intro hb; try simp only [decide_eq_true_eq, decide_eq_false_iff_not] at hb)) | (with_reducible refine gK_of_t _ _ _ ?_ ?_ <;> (intro hb; try simp only [decide_eq_true_eq, decide_eq_false_iff_not] at hb)))
        refine ⟨n' - (i + 1), by omega, i + 1, by omega, rfl, ?_⟩
        exact ⟨by simp, by simp [Nat.mul_add, Nat.add_assoc]⟩
      · obtain rfl : i = n' := by omega
        repeat' (first | simp (disch := omega) only [go_sem, reduceIte, sliceB, t0, t1, t12, t13, Tryz.results14] | (with_reducible refine w_chain0 ?_ ?_; focus (decide +kernel)) | (with_reducible refine condK_of _ _ ?_ ?_ <;> (intro hb; try simp only [decide_eq_true_eq, decide_eq_false_iff_not] at hb)) | (with_reducible refine gdK_of_f _ _ _ _ _ ?_ ?_ <;> (intro hb; try simp only [decide_eq_true_eq, decide_eq_false_iff_not] at hb)) | (with_reducible refine gdK_of_t _ _ _ _ _ ?_ ?_ <;> (intro hb; try simp only [decide_eq_true_eq, decide_eq_false_iff_not] at hb)) | (with_reducible refine gK_of_f _ _ _ ?_ ?_ <;> (intro hb; try simp only [decide_eq_true_eq, decide_eq_false_iff_not] at hb)) | (with_reducible refine gK_of_t _ _ _ ?_ ?_ <;> (intro hb; try simp only [decide_eq_true_eq, decide_eq_false_iff_not] at hb)))
        exact endsX_same rfl (by simp only; omega) fun X hX => rfl
  split at e <;> try (cases e; done)
  rename_i hlk hne
  unfold noneT at e
  simp only [Option.some.injEq, Prod.mk.injEq] at e
  obtain ⟨rfl, rfl⟩ := e
  have hnn : (n : Int) ≠ (n' : Int) := fun h => hne (by rw [pl, ql, show n = n' by omega])
  refine ⟨by simp, 0, ?_⟩
  refine ⟨Tryz.f14, _, Tryz.func14, rfl, by simp [Tryz.f14], ?_⟩; rw [Tryz.ntmps14]
  repeat' (first | simp (disch := omega) only [go_sem, reduceIte, sliceB, Tryz.results14, hnn] | (with_reducible refine w_chain0 ?_ ?_; focus (decide +kernel)) | (with_reducible refine condK_of _ _ ?_ ?_ <;> (intro hb; try simp only [decide_eq_true_eq, decide_eq_false_iff_not] at hb)) | (with_reducible refine gdK_of_f _ _ _ _ _ ?_ ?_ <;> (intro hb; try simp only [decide_eq_true_eq, decide_eq_false_iff_not] at hb)) | (with_reducible refine gdK_of_t _ _ _ _ _ ?_ ?_ <;> (intro hb; try simp only [decide_eq_true_eq, decide_eq_false_iff_not] at hb)) | (with_reducible refine gK_of_f _ _ _ ?_ ?_ <;> (intro hb; try simp only [decide_eq_true_eq, decide_eq_false_iff_not] at hb)) | (with_reducible refine gK_of_t _ _ _ ?_ ?_ <;> (intro hb; try simp only [decide_eq_true_eq, decide_eq_false_iff_not] at hb)))
  exact endsX_same rfl (by simp only; omega) fun X hX => rfl
set_option maxHeartbeats 1000000 in
theorem eqV_ok (hc : CallOK Tryz.prog G (LBegin Tryz.prog ν LL W may) ν call) : SpecOK Tryz.prog G (LBegin Tryz.prog ν LL W may) ν 15 (cEqL 3) := by
  refine fun_okX (by kernel_rfl) hc fun args s v h' e Lv hlv hG => ?_
  unfold cEqL at e
  split at e <;> try (cases e; done)
  rename_i v0 u0
  split at e <;> try (cases e; done)
  rename_i vs us p1 q1
  split at e <;> try (cases e; done)
  rename_i l m p2 q2
  obtain rfl := intsL_eq p2
  obtain rfl := intsL_eq q2
  obtain ⟨a, n, c, rfl, pl, ha⟩ := row_at p1
  obtain ⟨b, n', d, rfl, ql, hb⟩ := row_at q1
  rw [intsC_len] at pl ql
  split at e
  · rename_i hlk
    obtain ⟨rfl, hmx⟩ := hlk
    unfold noneT at e
    simp only [Option.some.injEq, Prod.mk.injEq] at e
    obtain ⟨rfl, rfl⟩ := e
    have hnn : n' = n := by omega
    subst hnn
    refine ⟨by simp, 0, ?_⟩
    refine ⟨Tryz.f15, _, Tryz.func15, rfl, by simp [Tryz.f15], ?_⟩; rw [Tryz.ntmps15]
    repeat' (first | simp (disch := omega) only [go_sem, reduceIte, sliceB, Tryz.results15] | (with_reducible refine w_chain0 ?_ ?_; focus (decide +kernel)) | (with_reducible refine condK_of _ _ ?_ ?_ <;> (intro hb; try simp only [decide_eq_true_eq, decide_eq_false_iff_not] at hb)) | (with_reducible refine gdK_of_f _ _ _ _ _ ?_ ?_ <;> (intro hb; try simp only [decide_eq_true_eq, decide_eq_false_iff_not] at hb)) | (with_reducible refine gdK_of_t _ _ _ _ _ ?_ ?_ <;> (intro hb; try simp only [decide_eq_true_eq, decide_eq_false_iff_not] at hb)) | (with_reducible refine gK_of_f _ _ _ ?_ ?_ <;> (intro hb; try simp only [decide_eq_true_eq, decide_eq_false_iff_not] at hb)) | (with_reducible refine gK_of_t _ _ _ ?_ ?_ <;> (intro hb; try simp only [decide_eq_true_eq, decide_eq_false_iff_not] at hb)))
    refine w_loop (fun m T1 h1 => ∃ i, i ≤ n' ∧ m = n' - i ∧ Eva.look T1 0 = .slice a n' c ∧ Eva.look T1 1 = .slice b n' d ∧ Eva.look T1 12 = .int .i64 (n' : Int) ∧ Eva.look T1 13 = .int .i64 (i : Int) ∧ h1 = ⟨s.t, s.next + 64 * i⟩) n' ?_ ?_
    · refine ⟨0, by omega, by omega, ?_, ?_, ?_, ?_, rfl⟩ <;> (try simp (disch := omega) only [go_sem, reduceIte, sliceB]) <;> (try rfl)
    · rintro m T1 h1 ⟨i, hi, hm, t0, t1, t12, t13, rfl⟩
      by_cases hlt : i < n'
      · obtain ⟨x, y, z, hx⟩ := ints3 (l := l) (i := i) (by omega)
        obtain ⟨B, o, cs, ty, rw, rfl, hB, hcs, hcs1⟩ := ha i hlt
        obtain ⟨B', o', cs', ty', rw', r', hB', hcs', hcs1'⟩ := hb i hlt
        subst r'
        rw [hx] at hcs1 hcs1'
        repeat' (first | simp (disch := omega) only [go_sem, reduceIte, sliceB, t0, t1, t12, t13, hB, hB', hcs, hcs', hcs1, hcs1', Int.toNat_natCast, b_neqB und4, beq_self_eq_true] | (with_reducible refine w_chain0 ?_ ?_; focus (decide +kernel)) | (with_reducible refine condK_of _ _ ?_ ?_ <;> (intro hb; try simp only [decide_eq_true_eq, decide_eq_false_iff_not] at hb)) | (with_reducible refine gdK_of_f _ _ _ _ _ ?_ ?_ <;> (intro hb; try simp only [decide_eq_true_eq, decide_eq_false_iff_not] at hb)) | (with_reducible refine gdK_of_t _ _ _ _ _ ?_ ?_ <;> (intro hb; try simp only [decide_eq_true_eq, decide_eq_false_iff_not] at hb)) | (with_reducible refine gK_of_f _ _ _ ?_ ?_ <;> (intro hb; try simp only [decide_eq_true_eq, decide_eq_false_iff_not] at hb)) | (with_reducible refine gK_of_t _ _ _ ?_ ?_ <;> (intro hb; try simp only [decide_eq_true_eq, decide_eq_false_iff_not] at hb)))
        refine ⟨n' - (i + 1), by omega, i + 1, by omega, rfl, ?_⟩
        exact ⟨by simp, by simp [Nat.mul_add, Nat.add_assoc]⟩
      · obtain rfl : i = n' := by omega
        repeat' (first | simp (disch := omega) only [go_sem, reduceIte, sliceB, t0, t1, t12, t13, Tryz.results15] | (with_reducible refine w_chain0 ?_ ?_; focus (decide +kernel)) | (with_reducible refine condK_of _ _ ?_ ?_ <;> (intro hb; try simp only [decide_eq_true_eq, decide_eq_false_iff_not] at hb)) | (with_reducible refine gdK_of_f _ _ _ _ _ ?_ ?_ <;> (intro hb; try simp only [decide_eq_true_eq, decide_eq_false_iff_not] at hb)) | (with_reducible refine gdK_of_t _ _ _ _ _ ?_ ?_ <;> (intro hb; try simp only [decide_eq_true_eq, decide_eq_false_iff_not] at hb)) | (with_reducible refine gK_of_f _ _ _ ?_ ?_ <;> (intro hb; try simp only [decide_eq_true_eq, decide_eq_false_iff_not] at hb)) | (with_reducible refine gK_of_t _ _ _ ?_ ?_ <;> (intro hb; try simp only [decide_eq_true_eq, decide_eq_false_iff_not] at hb)))
        exact endsX_same rfl (by simp only; omega) fun X hX => rfl
  split at e <;> try (cases e; done)
  rename_i hlk hne
  unfold noneT at e
  simp only [Option.some.injEq, Prod.mk.injEq] at e
  obtain ⟨rfl, rfl⟩ := e
  have hnn : (n : Int) ≠ (n' : Int) := fun h => hne (by rw [pl, ql, show n = n' by omega])
  refine ⟨by simp, 0, ?_⟩
  refine ⟨Tryz.f15, _, Tryz.func15, rfl, by simp [Tryz.f15], ?_⟩; rw [Tryz.ntmps15]
  repeat' (first | simp (disch := omega) only [go_sem, reduceIte, sliceB, Tryz.results15, hnn] | (with_reducible refine w_chain0 ?_ ?_; focus (decide +kernel)) | (with_reducible refine condK_of _ _ ?_ ?_ <;> (intro hb; try simp only [decide_eq_true_eq, decide_eq_false_iff_not] at hb)) | (with_reducible refine gdK_of_f _ _ _ _ _ ?_ ?_ <;> (intro hb; try simp only [decide_eq_true_eq, decide_eq_false_iff_not] at hb)) | (with_reducible refine gdK_of_t _ _ _ _ _ ?_ ?_ <;> (intro hb; try simp only [decide_eq_true_eq, decide_eq_false_iff_not] at hb)) | (with_reducible refine gK_of_f _ _ _ ?_ ?_ <;> (intro hb; try simp only [decide_eq_true_eq, decide_eq_false_iff_not] at hb)) | (with_reducible refine gK_of_t _ _ _ ?_ ?_ <;> (intro hb; try simp only [decide_eq_true_eq, decide_eq_false_iff_not] at hb)))
  exact endsX_same rfl (by simp only; omega) fun X hX => rfl
set_option maxHeartbeats 1000000 in
theorem eqB_ok (hc : CallOK Tryz.prog G (LBegin Tryz.prog ν LL W may) ν call) : SpecOK Tryz.prog G (LBegin Tryz.prog ν LL W may) ν 16 (cEqB) := by
  refine fun_okX (by kernel_rfl) hc fun args s v h' e Lv hlv hG => ?_
  unfold cEqB at e
  split at e <;> try (cases e; done)
  rename_i v0 u0
  split at e <;> try (cases e; done)
  rename_i vs us p1 q1
  split at e <;> try (cases e; done)
  rename_i l m p2 q2
  obtain rfl := boolsL_eq p2
  obtain rfl := boolsL_eq q2
  obtain ⟨a, n, c, rfl, pl, ha⟩ := row_at p1
  obtain ⟨b, n', d, rfl, ql, hb⟩ := row_at q1
  rw [boolsC_len] at pl ql
  split at e
  · rename_i hlk
    obtain ⟨rfl, hmx⟩ := hlk
    unfold noneT at e
    simp only [Option.some.injEq, Prod.mk.injEq] at e
    obtain ⟨rfl, rfl⟩ := e
    have hnn : n' = n := by omega
    subst hnn
    refine ⟨by simp, 0, ?_⟩
    refine ⟨Tryz.f16, _, Tryz.func16, rfl, by simp [Tryz.f16], ?_⟩; rw [Tryz.ntmps16]
    repeat' (first | simp (disch := omega) only [go_sem, reduceIte, sliceB, Tryz.results16] | (with_reducible refine w_chain0 ?_ ?_; focus (decide +kernel)) | (with_reducible refine condK_of _ _ ?_ ?_ <;> (intro hb; try simp only [decide_eq_true_eq, decide_eq_false_iff_not] at hb)) | (with_reducible refine gdK_of_f _ _ _ _ _ ?_ ?_ <;> (intro hb; try simp only [decide_eq_true_eq, decide_eq_false_iff_not] at hb)) | (with_reducible refine gdK_of_t _ _ _ _ _ ?_ ?_ <;> (intro hb; try simp only [decide_eq_true_eq, decide_eq_false_iff_not] at hb)) | (with_reducible refine gK_of_f _ _ _ ?_ ?_ <;> (intro hb; try simp only [decide_eq_true_eq, decide_eq_false_iff_not] at hb)) | (with_reducible refine gK_of_t _ _ _ ?_ ?_ <;> (intro hb; try simp only [decide_eq_true_eq, decide_eq_false_iff_not] at hb)))
    refine w_loop (fun m T1 h1 => ∃ i, i ≤ n' ∧ m = n' - i ∧ Eva.look T1 0 = .slice a n' c ∧ Eva.look T1 1 = .slice b n' d ∧ Eva.look T1 12 = .int .i64 (n' : Int) ∧ Eva.look T1 13 = .int .i64 (i : Int) ∧ h1 = ⟨s.t, s.next + 64 * i⟩) n' ?_ ?_
    · refine ⟨0, by omega, by omega, ?_, ?_, ?_, ?_, rfl⟩ <;> (try simp (disch := omega) only [go_sem, reduceIte, sliceB]) <;> (try rfl)
    · rintro m T1 h1 ⟨i, hi, hm, t0, t1, t12, t13, rfl⟩
      by_cases hlt : i < n'
      · obtain ⟨x, hx⟩ := bools1 (l := l) (i := i) (by omega)
        obtain ⟨B, o, cs, ty, rw, rfl, hB, hcs, hcs1⟩ := ha i hlt
        obtain ⟨B', o', cs', ty', rw', r', hB', hcs', hcs1'⟩ := hb i hlt
        subst r'
        rw [hx] at hcs1 hcs1'
        have hcs2 := one_at hcs1
        have hcs2' := one_at hcs1'
        repeat' (first | simp (disch := omega) only [go_sem, reduceIte, sliceB, t0, t1, t12, t13, hB, hB', hcs2, hcs2', Int.toNat_natCast, b_neqB und4, beq_self_eq_true] | (with_reducible refine w_chain0 ?_ ?_; focus (decide +kernel)) | (with_reducible refine condK_of _ _ ?_ ?_ <;> (intro hb; try simp only [decide_eq_true_eq, decide_eq_false_iff_not] at hb)) | (with_reducible refine gdK_of_f _ _ _ _ _ ?_ ?_ <;> (intro hb; try simp only [decide_eq_true_eq, decide_eq_false_iff_not] at hb)) | (with_reducible refine gdK_of_t _ _ _ _ _ ?_ ?_ <;> (intro hb; try simp only [decide_eq_true_eq, decide_eq_false_iff_not] at hb)) | (with_reducible refine gK_of_f _ _ _ ?_ ?_ <;> (intro hb; try simp only [decide_eq_true_eq, decide_eq_false_iff_not] at hb)) | (with_reducible refine gK_of_t _ _ _ ?_ ?_ <;> (intro hb; try simp only [decide_eq_true_eq, decide_eq_false_iff_not] at hb)))
        refine ⟨n' - (i + 1), by omega, i + 1, by omega, rfl, ?_⟩
        exact ⟨by simp, by simp [Nat.mul_add, Nat.add_assoc]⟩
      · obtain rfl : i = n' := by omega
        repeat' (first | simp (disch := omega) only [go_sem, reduceIte, sliceB, t0, t1, t12, t13, Tryz.results16] | (with_reducible refine w_chain0 ?_ ?_; focus (decide +kernel)) | (with_reducible refine condK_of _ _ ?_ ?_ <;> (intro hb; try simp only [decide_eq_true_eq, decide_eq_false_iff_not] at hb)) | (with_reducible refine gdK_of_f _ _ _ _ _ ?_ ?_ <;> (intro hb; try simp only [decide_eq_true_eq, decide_eq_false_iff_not] at hb)) | (with_reducible refine gdK_of_t _ _ _ _ _ ?_ ?_ <;> (intro hb; try simp only [decide_eq_true_eq, decide_eq_false_iff_not] at hb)) | (with_reducible refine gK_of_f _ _ _ ?_ ?_ <;> (intro hb; try simp only [decide_eq_true_eq, decide_eq_false_iff_not] at hb)) | (with_reducible refine gK_of_t _ _ _ ?_ ?_ <;> (intro hb; try simp only [decide_eq_true_eq, decide_eq_false_iff_not] at hb)))
        exact endsX_same rfl (by simp only; omega) fun X hX => rfl
  split at e <;> try (cases e; done)
  rename_i hlk hne
  unfold noneT at e
  simp only [Option.some.injEq, Prod.mk.injEq] at e
  obtain ⟨rfl, rfl⟩ := e
  have hnn : (n : Int) ≠ (n' : Int) := fun h => hne (by rw [pl, ql, show n = n' by omega])
  refine ⟨by simp, 0, ?_⟩
  refine ⟨Tryz.f16, _, Tryz.func16, rfl, by simp [Tryz.f16], ?_⟩; rw [Tryz.ntmps16]
  repeat' (first | simp (disch := omega) only [go_sem, reduceIte, sliceB, Tryz.results16, hnn] | (with_reducible refine w_chain0 ?_ ?_; focus (decide +kernel)) | (with_reducible refine condK_of _ _ ?_ ?_ <;> (intro hb; try simp only [decide_eq_true_eq, decide_eq_false_iff_not] at hb)) | (with_reducible refine gdK_of_f _ _ _ _ _ ?_ ?_ <;> (intro hb; try simp only [decide_eq_true_eq, decide_eq_false_iff_not] at hb)) | (with_reducible refine gdK_of_t _ _ _ _ _ ?_ ?_ <;> (intro hb; try simp only [decide_eq_true_eq, decide_eq_false_iff_not] at hb)) | (with_reducible refine gK_of_f _ _ _ ?_ ?_ <;> (intro hb; try simp only [decide_eq_true_eq, decide_eq_false_iff_not] at hb)) | (with_reducible refine gK_of_t _ _ _ ?_ ?_ <;> (intro hb; try simp only [decide_eq_true_eq, decide_eq_false_iff_not] at hb)))
  exact endsX_same rfl (by simp only; omega) fun X hX => rfl
set_option maxHeartbeats 1000000 in
theorem eqD_ok (hc : CallOK Tryz.prog G (LBegin Tryz.prog ν LL W may) ν call) : SpecOK Tryz.prog G (LBegin Tryz.prog ν LL W may) ν 17 (cEqL 3) := by
  refine fun_okX (by kernel_rfl) hc fun args s v h' e Lv hlv hG => ?_
  unfold cEqL at e
  split at e <;> try (cases e; done)
  rename_i v0 u0
  split at e <;> try (cases e; done)
  rename_i vs us p1 q1
  split at e <;> try (cases e; done)
  rename_i l m p2 q2
  obtain rfl := intsL_eq p2
  obtain rfl := intsL_eq q2
  obtain ⟨a, n, c, rfl, pl, ha⟩ := row_at p1
  obtain ⟨b, n', d, rfl, ql, hb⟩ := row_at q1
  rw [intsC_len] at pl ql
  split at e
  · rename_i hlk
    obtain ⟨rfl, hmx⟩ := hlk
    unfold noneT at e
    simp only [Option.some.injEq, Prod.mk.injEq] at e
    obtain ⟨rfl, rfl⟩ := e
    have hnn : n' = n := by omega
    subst hnn
    refine ⟨by simp, 0, ?_⟩
    refine ⟨Tryz.f17, _, Tryz.func17, rfl, by simp [Tryz.f17], ?_⟩; rw [Tryz.ntmps17]
    repeat' (first | simp (disch := omega) only [go_sem, reduceIte, sliceB, Tryz.results17] | (with_reducible refine w_chain0 ?_ ?_; focus (decide +kernel)) | (with_reducible refine condK_of _ _ ?_ ?_ <;> (intro hb; try simp only [decide_eq_true_eq, decide_eq_false_iff_not] at hb)) | (with_reducible refine gdK_of_f _ _ _ _ _ ?_ ?_ <;> (intro hb; try simp only [decide_eq_true_eq, decide_eq_false_iff_not] at hb)) | (with_reducible refine gdK_of_t _ _ _ _ _ ?_ ?_ <;> (intro hb; try simp only [decide_eq_true_eq, decide_eq_false_iff_not] at hb)) | (with_reducible refine gK_of_f _ _ _ ?_ ?_ <;> (intro hb; try simp only [decide_eq_true_eq, decide_eq_false_iff_not] at hb)) | (with_reducible refine gK_of_t _ _ _ ?_ ?_ <;> (intro hb; try simp only [decide_eq_true_eq, decide_eq_false_iff_not] at hb)))
    refine w_loop (fun m T1 h1 => ∃ i, i ≤ n' ∧ m = n' - i ∧ Eva.look T1 0 = .slice a n' c ∧ Eva.look T1 1 = .slice b n' d ∧ Eva.look T1 12 = .int .i64 (n' : Int) ∧ Eva.look T1 13 = .int .i64 (i : Int) ∧ h1 = ⟨s.t, s.next + 64 * i⟩) n' ?_ ?_
    · refine ⟨0, by omega, by omega, ?_, ?_, ?_, ?_, rfl⟩ <;> (try simp (disch := omega) only [go_sem, reduceIte, sliceB]) <;> (try rfl)
    · rintro m T1 h1 ⟨i, hi, hm, t0, t1, t12, t13, rfl⟩
      by_cases hlt : i < n'
      · obtain ⟨x, y, z, hx⟩ := ints3 (l := l) (i := i) (by omega)
        obtain ⟨B, o, cs, ty, rw, rfl, hB, hcs, hcs1⟩ := ha i hlt
        obtain ⟨B', o', cs', ty', rw', r', hB', hcs', hcs1'⟩ := hb i hlt
        subst r'
        rw [hx] at hcs1 hcs1'
        repeat' (first | simp (disch := omega) only [go_sem, reduceIte, sliceB, t0, t1, t12, t13, hB, hB', hcs, hcs', hcs1, hcs1', Int.toNat_natCast, b_neqB und4, beq_self_eq_true] | (with_reducible refine w_chain0 ?_ ?_; focus (decide +kernel)) | (with_reducible refine condK_of _ _ ?_ ?_ <;> (intro hb; try simp only [decide_eq_true_eq, decide_eq_false_iff_not] at hb)) | (with_reducible refine gdK_of_f _ _ _ _ _ ?_ ?_ <;> (intro hb; try simp only [decide_eq_true_eq, decide_eq_false_iff_not] at hb)) | (with_reducible refine gdK_of_t _ _ _ _ _ ?_ ?_ <;> (intro hb; try simp only [decide_eq_true_eq, decide_eq_false_iff_not] at hb)) | (with_reducible refine gK_of_f _ _ _ ?_ ?_ <;> (intro hb; try simp only [decide_eq_true_eq, decide_eq_false_iff_not] at hb)) | (with_reducible refine gK_of_t _ _ _ ?_ ?_ <;> (intro hb; try simp only [decide_eq_true_eq, decide_eq_false_iff_not] at hb)))
        refine ⟨n' - (i + 1), by omega, i + 1, by omega, rfl, ?_⟩
        exact ⟨by simp, by simp [Nat.mul_add, Nat.add_assoc]⟩
      · obtain rfl : i = n' := by omega
        repeat' (first | simp (disch := omega) only [go_sem, reduceIte, sliceB, t0, t1, t12, t13, Tryz.results17] | (with_reducible refine w_chain0 ?_ ?_; focus (decide +kernel)) | (with_reducible refine condK_of _ _ ?_ ?_ <;> (intro hb; try simp only [decide_eq_true_eq, decide_eq_false_iff_not] at hb)) | (with_reducible refine gdK_of_f _ _ _ _ _ ?_ ?_ <;> (intro hb; try simp only [decide_eq_true_eq, decide_eq_false_iff_not] at hb)) | (with_reducible refine gdK_of_t _ _ _ _ _ ?_ ?_ <;> (intro hb; try simp only [decide_eq_true_eq, decide_eq_false_iff_not] at hb)) | (with_reducible refine gK_of_f _ _ _ ?_ ?_ <;> (intro hb; try simp only [decide_eq_true_eq, decide_eq_false_iff_not] at hb)) | (with_reducible refine gK_of_t _ _ _ ?_ ?_ <;> (intro hb; try simp only [decide_eq_true_eq, decide_eq_false_iff_not] at hb)))
        exact endsX_same rfl (by simp only; omega) fun X hX => rfl
  split at e <;> try (cases e; done)
  rename_i hlk hne
  unfold noneT at e
  simp only [Option.some.injEq, Prod.mk.injEq] at e
  obtain ⟨rfl, rfl⟩ := e
  have hnn : (n : Int) ≠ (n' : Int) := fun h => hne (by rw [pl, ql, show n = n' by omega])
  refine ⟨by simp, 0, ?_⟩
  refine ⟨Tryz.f17, _, Tryz.func17, rfl, by simp [Tryz.f17], ?_⟩; rw [Tryz.ntmps17]
  repeat' (first | simp (disch := omega) only [go_sem, reduceIte, sliceB, Tryz.results17, hnn] | (with_reducible refine w_chain0 ?_ ?_; focus (decide +kernel)) | (with_reducible refine condK_of _ _ ?_ ?_ <;> (intro hb; try simp only [decide_eq_true_eq, decide_eq_false_iff_not] at hb)) | (with_reducible refine gdK_of_f _ _ _ _ _ ?_ ?_ <;> (intro hb; try simp only [decide_eq_true_eq, decide_eq_false_iff_not] at hb)) | (with_reducible refine gdK_of_t _ _ _ _ _ ?_ ?_ <;> (intro hb; try simp only [decide_eq_true_eq, decide_eq_false_iff_not] at hb)) | (with_reducible refine gK_of_f _ _ _ ?_ ?_ <;> (intro hb; try simp only [decide_eq_true_eq, decide_eq_false_iff_not] at hb)) | (with_reducible refine gK_of_t _ _ _ ?_ ?_ <;> (intro hb; try simp only [decide_eq_true_eq, decide_eq_false_iff_not] at hb)))
  exact endsX_same rfl (by simp only; omega) fun X hX => rfl
end
end Go.Proofs.YtclmjcjaebonnaaGreatDoor
