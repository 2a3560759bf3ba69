/-
  Several texts in one. Package plan over the tree: which plans may be.
-/
import Derived.Test.YtmcigeebeoobdaaGreatDoorPz13
import Derived.Test.YtmcigeebeoobdaaGreatDoorPz01
section
set_option linter.unusedSimpArgs false
set_option linter.unusedVariables false
namespace Go.Viv
open Go Go.RowKit Go.Eva Go.Sym
def colC (x : Coln) : List Value := [.int .i64 x.k, .int .i64 x.c]
def colsC (l : List Coln) : List Value := rowsC colC l
def colsL : List Value → Option (List Coln)
  | [] => some []
  | .int .i64 a :: .int .i64 b :: l => (colsL l).map (⟨a, b⟩ :: ·)
  | _ => none
theorem colsL_eq : ∀ {vs : List Value} {l : List Coln}, colsL vs = some l → vs = colsC l
  | [], l, h => by simp [colsL] at h; subst h; rfl
  | v :: vs, l, h => by
    unfold colsL at h
    split at h <;> try (cases h; done)
    · rename_i e; cases e
    · rename_i a b l' e
      cases e
      obtain ⟨m, h1, rfl⟩ := Option.map_eq_some_iff.1 h
      rw [colsL_eq h1]; rfl
theorem colsL_of : ∀ l : List Coln, colsL (colsC l) = some l
  | [] => rfl
  | a :: l => by
    show (colsL (colsC l)).map (a :: ·) = _
    rw [colsL_of l]; rfl
theorem colsC_len : ∀ l : List Coln, (colsC l).length = l.length * 2
  | [] => rfl
  | a :: l => by show (colC a ++ colsC l).length = _; rw [List.length_append, colsC_len l]; simp [colC]; omega
theorem colsC_drop : ∀ (l : List Coln) (j : Nat), (colsC l).drop (j * 2) = colsC (l.drop j)
  | l, 0 => by simp
  | [], j + 1 => by simp [colsC, rowsC]
  | o :: l, j + 1 => by
    show (colC o ++ colsC l).drop _ = _
    rw [show (j + 1) * 2 = (colC o).length + j * 2 by simp [colC]; omega, List.drop_append, List.drop_of_length_le (by omega), Nat.add_sub_cancel_left, colsC_drop l j]
    rfl
theorem colsC_at {l : List Coln} {j : Nat} {x : Coln} (h : l[j]? = some x) : ((colsC l).drop (j * 2)).take 2 = [.int .i64 x.k, .int .i64 x.c] := by
  obtain ⟨h1, h2⟩ := List.getElem?_eq_some_iff.1 h
  rw [colsC_drop, List.drop_eq_getElem_cons h1, h2]
  rfl
end Go.Viv
namespace Go.Proofs.YtmcigeebeoobdaaGreatDoor
open Go Go.RowKit Go.Viv Go.Eva Go.Sym
def cAsks : Sym.CallS := fun args s => match args with
  | [.agg ⟨[.int .i64 k, .int .i64 c]⟩] => some (.bool (askB ⟨k, c⟩), s)
  | _ => none
def cParts1 : Sym.CallS := fun args s => match args with
  | [.agg ⟨[.int .i64 k, .int .i64 c]⟩] => some (.bool (k == 5), s)
  | _ => none
def cTwice : Sym.CallS := fun args s => match args with
  | [.agg ⟨[.int .i64 k, .int .i64 c]⟩, .pointer (some ⟨a, 0, none⟩), .pointer (some ⟨b, 0, none⟩)] => match s.t.at_ a, s.t.at_ b with
    | some (.cells [.bool all] _ _), some (.cells [.int .i64 k', .int .i64 c'] _ _) => some (.bool (((k == 5) == all) && c == c'), s)
    | _, _ => none
  | _ => none
/-- A function value as what it says of a column. -/
def predC (s : Hp) : Value → Option (Coln → Bool)
  | .func (.func g) ⟨[]⟩ ⟨[]⟩ => if g = 65 then some askB else if g = 66 then some fun x => x.k == 5 else none
  | .func (.func g) ⟨[]⟩ ⟨[.pointer (some ⟨a, 0, none⟩), .pointer (some ⟨b, 0, none⟩)]⟩ => if g = 107 then match s.t.at_ a, s.t.at_ b with
    | some (.cells [.bool all] _ _), some (.cells [.int .i64 _, .int .i64 c'] _ _) => some fun x => ((x.k == 5) == all) && x.c == c'
    | _, _ => none else none
  | _ => none
def cIdxCol : Sym.CallS := fun args s => match args with
  | [v, f] => match (rowB s.t 2 v).bind colsL, predC s f with
    | some l, some q => if l.length ≤ 1000000 then some (.int .i64 (fidxC q l 0), s) else none
    | _, _ => none
  | _ => none
def cContCol : Sym.CallS := fun args s => match args with
  | [v, f] => match (rowB s.t 2 v).bind colsL, predC s f with
    | some l, some q => if l.length ≤ 1000000 then some (.bool (l.any q), s) else none
    | _, _ => none
  | _ => none
section
variable {G : Nat} {ν : Toks} {W : World} {may : Nat → Prop} {call : CallB}
theorem asks_ok (hc : CallOK Tryz.prog G (LBegin Tryz.prog ν LL W may) ν call) : SpecOK Tryz.prog G (LBegin Tryz.prog ν LL W may) ν 65 cAsks := by
  refine fun_ok rfl (by kernel_rfl) hc fun args s v h' e Lv hlv hG => ?_
  unfold cAsks at e
  split at e <;> try (cases e; done)
  rename_i k c
  simp only [Option.some.injEq, Prod.mk.injEq] at e
  obtain ⟨rfl, rfl⟩ := e
  refine ⟨[], [], by cases s; rfl, 0, ?_⟩
  unfold askB
  by_cases h1 : k = 1
  · subst h1
    refine ⟨Tryz.f65, _, Tryz.func65, rfl, by simp [Tryz.f65], ?_⟩; rw [Tryz.ntmps65]
    repeat' (first | simp (disch := omega) only [go_sem, reduceIte, sliceB, Tryz.results65] | (with_reducible refine w_chain0 ?_ ?_; focus (decide +kernel)) | (with_reducible refine condK_of _ _ ?_ ?_ <;> (intro hb; try simp only [decide_eq_true_eq, decide_eq_false_iff_not] at hb)) | (with_reducible refine gdK_of_f _ _ _ _ _ ?_ ?_ <;> (intro hb; try simp only [decide_eq_true_eq, decide_eq_false_iff_not] at hb)) | (with_reducible refine gdK_of_t _ _ _ _ _ ?_ ?_ <;> (intro hb; try simp only [decide_eq_true_eq, decide_eq_false_iff_not] at hb)) | (with_reducible refine gK_of_f _ _ _ ?_ ?_ <;> (intro hb; try simp only [decide_eq_true_eq, decide_eq_false_iff_not] at hb)) | (with_reducible refine gK_of_t _ _ _ ?_ ?_ <;> (intro hb; try simp only [decide_eq_true_eq, decide_eq_false_iff_not] at hb)))
    all_goals (refine ends_mk [] ?_ rfl ?_ ?_ ?_ ?_ <;> (try (intro X hX1 hX2; simp only [KeyIn, or_false, not_or, not_false_eq_true] at hX2)) <;> (try simp (disch := omega) only [go_sem, reduceIte, sliceB, AllMods, DistG, KeyIn, setL, news, not_false_eq_true, or_false, not_or, ne_eq, AllAt, AllObs, Dist, NotIn, kap_zero, kap_succ, kap_nil, inv_lt, inv_self, inv_add, ren_int, intsC_ren, and_true, and_self]) <;> (try omega))
    rfl
  · by_cases h2 : k = 2
    · subst h2
      refine ⟨Tryz.f65, _, Tryz.func65, rfl, by simp [Tryz.f65], ?_⟩; rw [Tryz.ntmps65]
      repeat' (first | simp (disch := omega) only [go_sem, reduceIte, sliceB, Tryz.results65] | (with_reducible refine w_chain0 ?_ ?_; focus (decide +kernel)) | (with_reducible refine condK_of _ _ ?_ ?_ <;> (intro hb; try simp only [decide_eq_true_eq, decide_eq_false_iff_not] at hb)) | (with_reducible refine gdK_of_f _ _ _ _ _ ?_ ?_ <;> (intro hb; try simp only [decide_eq_true_eq, decide_eq_false_iff_not] at hb)) | (with_reducible refine gdK_of_t _ _ _ _ _ ?_ ?_ <;> (intro hb; try simp only [decide_eq_true_eq, decide_eq_false_iff_not] at hb)) | (with_reducible refine gK_of_f _ _ _ ?_ ?_ <;> (intro hb; try simp only [decide_eq_true_eq, decide_eq_false_iff_not] at hb)) | (with_reducible refine gK_of_t _ _ _ ?_ ?_ <;> (intro hb; try simp only [decide_eq_true_eq, decide_eq_false_iff_not] at hb)))
      all_goals (refine ends_mk [] ?_ rfl ?_ ?_ ?_ ?_ <;> (try (intro X hX1 hX2; simp only [KeyIn, or_false, not_or, not_false_eq_true] at hX2)) <;> (try simp (disch := omega) only [go_sem, reduceIte, sliceB, AllMods, DistG, KeyIn, setL, news, not_false_eq_true, or_false, not_or, ne_eq, AllAt, AllObs, Dist, NotIn, kap_zero, kap_succ, kap_nil, inv_lt, inv_self, inv_add, ren_int, intsC_ren, and_true, and_self]) <;> (try omega))
      rfl
    · have e1 : (k == 1) = false := by simpa using h1
      have e2 : (k == 2) = false := by simpa using h2
      simp only [e1, e2, Bool.false_or]
      refine ⟨Tryz.f65, _, Tryz.func65, rfl, by simp [Tryz.f65], ?_⟩; rw [Tryz.ntmps65]
      repeat' (first | simp (disch := omega) only [go_sem, reduceIte, sliceB, h1, h2, Tryz.results65] | (with_reducible refine w_chain0 ?_ ?_; focus (decide +kernel)) | (with_reducible refine condK_of _ _ ?_ ?_ <;> (intro hb; try simp only [decide_eq_true_eq, decide_eq_false_iff_not] at hb)) | (with_reducible refine gdK_of_f _ _ _ _ _ ?_ ?_ <;> (intro hb; try simp only [decide_eq_true_eq, decide_eq_false_iff_not] at hb)) | (with_reducible refine gdK_of_t _ _ _ _ _ ?_ ?_ <;> (intro hb; try simp only [decide_eq_true_eq, decide_eq_false_iff_not] at hb)) | (with_reducible refine gK_of_f _ _ _ ?_ ?_ <;> (intro hb; try simp only [decide_eq_true_eq, decide_eq_false_iff_not] at hb)) | (with_reducible refine gK_of_t _ _ _ ?_ ?_ <;> (intro hb; try simp only [decide_eq_true_eq, decide_eq_false_iff_not] at hb)))
      all_goals (refine ends_mk [] ?_ rfl ?_ ?_ ?_ ?_ <;> (try (intro X hX1 hX2; simp only [KeyIn, or_false, not_or, not_false_eq_true] at hX2)) <;> (try simp (disch := omega) only [go_sem, reduceIte, sliceB, AllMods, DistG, KeyIn, setL, news, not_false_eq_true, or_false, not_or, ne_eq, AllAt, AllObs, Dist, NotIn, kap_zero, kap_succ, kap_nil, inv_lt, inv_self, inv_add, ren_int, intsC_ren, and_true, and_self]) <;> (try omega))
      rfl
theorem parts1_ok (hc : CallOK Tryz.prog G (LBegin Tryz.prog ν LL W may) ν call) : SpecOK Tryz.prog G (LBegin Tryz.prog ν LL W may) ν 66 cParts1 := by
  refine fun_ok rfl (by kernel_rfl) hc fun args s v h' e Lv hlv hG => ?_
  unfold cParts1 at e
  split at e <;> try (cases e; done)
  rename_i k c
  simp only [Option.some.injEq, Prod.mk.injEq] at e
  obtain ⟨rfl, rfl⟩ := e
  refine ⟨[], [], by cases s; rfl, 0, ?_⟩
  refine ⟨Tryz.f66, _, Tryz.func66, rfl, by simp [Tryz.f66], ?_⟩; rw [Tryz.ntmps66]
  repeat' (first | simp (disch := omega) only [go_sem, reduceIte, sliceB, Tryz.results66] | (with_reducible refine w_chain0 ?_ ?_; focus (decide +kernel)) | (with_reducible refine condK_of _ _ ?_ ?_ <;> (intro hb; try simp only [decide_eq_true_eq, decide_eq_false_iff_not] at hb)) | (with_reducible refine gdK_of_f _ _ _ _ _ ?_ ?_ <;> (intro hb; try simp only [decide_eq_true_eq, decide_eq_false_iff_not] at hb)) | (with_reducible refine gdK_of_t _ _ _ _ _ ?_ ?_ <;> (intro hb; try simp only [decide_eq_true_eq, decide_eq_false_iff_not] at hb)) | (with_reducible refine gK_of_f _ _ _ ?_ ?_ <;> (intro hb; try simp only [decide_eq_true_eq, decide_eq_false_iff_not] at hb)) | (with_reducible refine gK_of_t _ _ _ ?_ ?_ <;> (intro hb; try simp only [decide_eq_true_eq, decide_eq_false_iff_not] at hb)))
  all_goals (refine ends_mk [] ?_ rfl ?_ ?_ ?_ ?_ <;> (try (intro X hX1 hX2; simp only [KeyIn, or_false, not_or, not_false_eq_true] at hX2)) <;> (try simp (disch := omega) only [go_sem, reduceIte, sliceB, AllMods, DistG, KeyIn, setL, news, not_false_eq_true, or_false, not_or, ne_eq, AllAt, AllObs, Dist, NotIn, kap_zero, kap_succ, kap_nil, inv_lt, inv_self, inv_add, ren_int, intsC_ren, and_true, and_self]) <;> (try omega))
  rfl
theorem twice_ok (hc : CallOK Tryz.prog G (LBegin Tryz.prog ν LL W may) ν call) : SpecOK Tryz.prog G (LBegin Tryz.prog ν LL W may) ν 107 cTwice := by
  refine fun_ok rfl (by kernel_rfl) hc fun args s v h' e Lv hlv hG => ?_
  unfold cTwice at e
  split at e <;> try (cases e; done)
  rename_i k c a b
  split at e <;> try (cases e; done)
  rename_i all t1 w1 k' c' t2 w2 ha hb
  simp only [Option.some.injEq, Prod.mk.injEq] at e
  obtain ⟨rfl, rfl⟩ := e
  have la := hlv.lt _ (hlv.arg a (by simp [occL, occ]))
  have lb := hlv.lt _ (hlv.arg b (by simp [occL, occ]))
  have hb2 := fun (H : Tr AObj) (ox oy : Operand) => b_eqlB (P := Tryz.prog) (H := H) (t := 4) (ox := ox) (oy := oy) und4
  refine ⟨[], [], by cases s; rfl, 0, ?_⟩
  cases hk : (k == 5) with
  | true =>
    have hk' : k = 5 := by simpa using hk
    subst hk'
    cases all with
    | true =>
      refine ⟨Tryz.f107, _, Tryz.func107, rfl, by simp [Tryz.f107], ?_⟩; rw [Tryz.ntmps107]
      repeat' (first | simp (disch := omega) only [go_sem, reduceIte, sliceB, ha, hb, hb2, Tryz.results107] | (with_reducible refine w_chain0 ?_ ?_; focus (decide +kernel)) | (with_reducible refine condK_of _ _ ?_ ?_ <;> (intro hb; try simp only [decide_eq_true_eq, decide_eq_false_iff_not] at hb)) | (with_reducible refine gdK_of_f _ _ _ _ _ ?_ ?_ <;> (intro hb; try simp only [decide_eq_true_eq, decide_eq_false_iff_not] at hb)) | (with_reducible refine gdK_of_t _ _ _ _ _ ?_ ?_ <;> (intro hb; try simp only [decide_eq_true_eq, decide_eq_false_iff_not] at hb)) | (with_reducible refine gK_of_f _ _ _ ?_ ?_ <;> (intro hb; try simp only [decide_eq_true_eq, decide_eq_false_iff_not] at hb)) | (with_reducible refine gK_of_t _ _ _ ?_ ?_ <;> (intro hb; try simp only [decide_eq_true_eq, decide_eq_false_iff_not] at hb)))
      all_goals (refine ends_mk [] ?_ rfl ?_ ?_ ?_ ?_ <;> (try (intro X hX1 hX2; simp only [KeyIn, or_false, not_or, not_false_eq_true] at hX2)) <;> (try simp (disch := omega) only [go_sem, reduceIte, sliceB, AllMods, DistG, KeyIn, setL, news, not_false_eq_true, or_false, not_or, ne_eq, AllAt, AllObs, Dist, NotIn, kap_zero, kap_succ, kap_nil, inv_lt, inv_self, inv_add, ren_int, intsC_ren, and_true, and_self]) <;> (try omega))
      all_goals rfl
    | false =>
      refine ⟨Tryz.f107, _, Tryz.func107, rfl, by simp [Tryz.f107], ?_⟩; rw [Tryz.ntmps107]
      repeat' (first | simp (disch := omega) only [go_sem, reduceIte, sliceB, ha, hb, hb2, Tryz.results107] | (with_reducible refine w_chain0 ?_ ?_; focus (decide +kernel)) | (with_reducible refine condK_of _ _ ?_ ?_ <;> (intro hb; try simp only [decide_eq_true_eq, decide_eq_false_iff_not] at hb)) | (with_reducible refine gdK_of_f _ _ _ _ _ ?_ ?_ <;> (intro hb; try simp only [decide_eq_true_eq, decide_eq_false_iff_not] at hb)) | (with_reducible refine gdK_of_t _ _ _ _ _ ?_ ?_ <;> (intro hb; try simp only [decide_eq_true_eq, decide_eq_false_iff_not] at hb)) | (with_reducible refine gK_of_f _ _ _ ?_ ?_ <;> (intro hb; try simp only [decide_eq_true_eq, decide_eq_false_iff_not] at hb)) | (with_reducible refine gK_of_t _ _ _ ?_ ?_ <;> (intro hb; try simp only [decide_eq_true_eq, decide_eq_false_iff_not] at hb)))
      all_goals (refine ends_mk [] ?_ rfl ?_ ?_ ?_ ?_ <;> (try (intro X hX1 hX2; simp only [KeyIn, or_false, not_or, not_false_eq_true] at hX2)) <;> (try simp (disch := omega) only [go_sem, reduceIte, sliceB, AllMods, DistG, KeyIn, setL, news, not_false_eq_true, or_false, not_or, ne_eq, AllAt, AllObs, Dist, NotIn, kap_zero, kap_succ, kap_nil, inv_lt, inv_self, inv_add, ren_int, intsC_ren, and_true, and_self]) <;> (try omega))
      all_goals rfl
  | false =>
    have hk' : ¬ k = 5 := by simpa using hk
    cases all with
    | true =>
      refine ⟨Tryz.f107, _, Tryz.func107, rfl, by simp [Tryz.f107], ?_⟩; rw [Tryz.ntmps107]
      repeat' (first | simp (disch := omega) only [go_sem, reduceIte, sliceB, ha, hb, hk', hb2, Tryz.results107] | (with_reducible refine w_chain0 ?_ ?_; focus (decide +kernel)) | (with_reducible refine condK_of _ _ ?_ ?_ <;> (intro hb; try simp only [decide_eq_true_eq, decide_eq_false_iff_not] at hb)) | (with_reducible refine gdK_of_f _ _ _ _ _ ?_ ?_ <;> (intro hb; try simp only [decide_eq_true_eq, decide_eq_false_iff_not] at hb)) | (with_reducible refine gdK_of_t _ _ _ _ _ ?_ ?_ <;> (intro hb; try simp only [decide_eq_true_eq, decide_eq_false_iff_not] at hb)) | (with_reducible refine gK_of_f _ _ _ ?_ ?_ <;> (intro hb; try simp only [decide_eq_true_eq, decide_eq_false_iff_not] at hb)) | (with_reducible refine gK_of_t _ _ _ ?_ ?_ <;> (intro hb; try simp only [decide_eq_true_eq, decide_eq_false_iff_not] at hb)))
      all_goals (refine ends_mk [] ?_ rfl ?_ ?_ ?_ ?_ <;> (try (intro X hX1 hX2; simp only [KeyIn, or_false, not_or, not_false_eq_true] at hX2)) <;> (try simp (disch := omega) only [go_sem, reduceIte, sliceB, AllMods, DistG, KeyIn, setL, news, not_false_eq_true, or_false, not_or, ne_eq, AllAt, AllObs, Dist, NotIn, kap_zero, kap_succ, kap_nil, inv_lt, inv_self, inv_add, ren_int, intsC_ren, and_true, and_self]) <;> (try omega))
      all_goals rfl
    | false =>
      refine ⟨Tryz.f107, _, Tryz.func107, rfl, by simp [Tryz.f107], ?_⟩; rw [Tryz.ntmps107]
      repeat' (first | simp (disch := omega) only [go_sem, reduceIte, sliceB, ha, hb, hk', hb2, Tryz.results107] | (with_reducible refine w_chain0 ?_ ?_; focus (decide +kernel)) | (with_reducible refine condK_of _ _ ?_ ?_ <;> (intro hb; try simp only [decide_eq_true_eq, decide_eq_false_iff_not] at hb)) | (with_reducible refine gdK_of_f _ _ _ _ _ ?_ ?_ <;> (intro hb; try simp only [decide_eq_true_eq, decide_eq_false_iff_not] at hb)) | (with_reducible refine gdK_of_t _ _ _ _ _ ?_ ?_ <;> (intro hb; try simp only [decide_eq_true_eq, decide_eq_false_iff_not] at hb)) | (with_reducible refine gK_of_f _ _ _ ?_ ?_ <;> (intro hb; try simp only [decide_eq_true_eq, decide_eq_false_iff_not] at hb)) | (with_reducible refine gK_of_t _ _ _ ?_ ?_ <;> (intro hb; try simp only [decide_eq_true_eq, decide_eq_false_iff_not] at hb)))
      all_goals (refine ends_mk [] ?_ rfl ?_ ?_ ?_ ?_ <;> (try (intro X hX1 hX2; simp only [KeyIn, or_false, not_or, not_false_eq_true] at hX2)) <;> (try simp (disch := omega) only [go_sem, reduceIte, sliceB, AllMods, DistG, KeyIn, setL, news, not_false_eq_true, or_false, not_or, ne_eq, AllAt, AllObs, Dist, NotIn, kap_zero, kap_succ, kap_nil, inv_lt, inv_self, inv_add, ren_int, intsC_ren, and_true, and_self]) <;> (try omega))
      all_goals rfl
theorem predC_call {s : Hp} {f : Value} {q : Coln → Bool} (hp : predC s f = some q) (ha : ∀ a h, call 65 a h = cAsks a h) (h1 : ∀ a h, call 66 a h = cParts1 a h) (h2 : ∀ a h, call 107 a h = cTwice a h) (lt : ∀ X, occ X f = true → X < s.next) :
    ∃ g caps, f = .func (.func g) ⟨[]⟩ ⟨caps⟩ ∧ okFn Tryz.prog g = true ∧ ∀ (k c : Int) (h : Hp), (∀ X, X < s.next → h.t.at_ X = s.t.at_ X) → call g (.agg ⟨[.int .i64 k, .int .i64 c]⟩ :: caps) h = some (.bool (q ⟨k, c⟩), h) := by
  unfold predC at hp
  split at hp <;> try (cases hp; done)
  · split at hp
    · rename_i g hg
      cases hp
      subst hg
      exact ⟨_, _, rfl, by kernel_rfl, fun k c h _ => by rw [ha]; rfl⟩
    · split at hp <;> try (cases hp; done)
      rename_i g _ hg
      cases hp
      subst hg
      exact ⟨_, _, rfl, by kernel_rfl, fun k c h _ => by rw [h1]; rfl⟩
  · split at hp <;> try (cases hp; done)
    rename_i g a b hg
    subst hg
    split at hp <;> try (cases hp; done)
    rename_i all t1 w1 k' c' t2 w2 e1 e2
    cases hp
    have la := lt a (by simp [occ, occL])
    have lb := lt b (by simp [occ, occL])
    refine ⟨_, _, rfl, by kernel_rfl, fun k c h hf => ?_⟩
    rw [h2]
    simp only [cTwice, (hf a la).trans e1, (hf b lb).trans e2]
theorem idxCol_ok (hc : CallOK Tryz.prog G (LBegin Tryz.prog ν LL W may) ν call) (ha : ∀ a h, call 65 a h = cAsks a h) (h1 : ∀ a h, call 66 a h = cParts1 a h) (h2 : ∀ a h, call 107 a h = cTwice a h) : SpecOK Tryz.prog G (LBegin Tryz.prog ν LL W may) ν 108 cIdxCol := by
  refine fun_ok rfl (by kernel_rfl) hc fun args s v h' e Lv hlv hG => ?_
  unfold cIdxCol at e
  split at e <;> try (cases e; done)
  rename_i v0 f
  split at e <;> try (cases e; done)
  rename_i l q hl hq
  split at e <;> try (cases e; done)
  rename_i hmil
  simp only [Option.some.injEq, Prod.mk.injEq] at e
  obtain ⟨rfl, rfl⟩ := e
  obtain ⟨vs, hv, hvs⟩ := Option.bind_eq_some_iff.1 hl
  obtain rfl := colsL_eq hvs
  have ltv : ∀ X, occ X v0 = true → X < s.next := fun X h => hlv.lt _ (hlv.arg X (by simp [occL, h]))
  obtain ⟨g, caps, rfl, hokf, hcall⟩ := predC_call hq ha h1 h2 fun X h => hlv.lt _ (hlv.arg X (by simp [occL, h]))
  obtain ⟨a, n, c, rfl, hlen, hat⟩ := Go.Sym.row_at hv
  rw [colsC_len] at hlen
  obtain rfl : n = l.length := by omega
  refine ⟨[], [], by cases s; rfl, 0, ?_⟩
  refine ⟨Tryz.f108, _, Tryz.func108, rfl, by simp [Tryz.f108], ?_⟩; rw [Tryz.ntmps108]
  repeat' (first | simp (disch := omega) only [go_sem, reduceIte, sliceB] | (with_reducible refine w_chain0 ?_ ?_; focus (decide +kernel)) | (with_reducible refine condK_of _ _ ?_ ?_ <;> (intro hb; try simp only [decide_eq_true_eq, decide_eq_false_iff_not] at hb)) | (with_reducible refine gdK_of_f _ _ _ _ _ ?_ ?_ <;> (intro hb; try simp only [decide_eq_true_eq, decide_eq_false_iff_not] at hb)) | (with_reducible refine gdK_of_t _ _ _ _ _ ?_ ?_ <;> (intro hb; try simp only [decide_eq_true_eq, decide_eq_false_iff_not] at hb)) | (with_reducible refine gK_of_f _ _ _ ?_ ?_ <;> (intro hb; try simp only [decide_eq_true_eq, decide_eq_false_iff_not] at hb)) | (with_reducible refine gK_of_t _ _ _ ?_ ?_ <;> (intro hb; try simp only [decide_eq_true_eq, decide_eq_false_iff_not] at hb)))
  refine w_loop (fun m T1 h => ∃ j, j ≤ l.length ∧ m = l.length - j ∧ Eva.look T1 0 = .slice a l.length c ∧ Eva.look T1 1 = .func (.func g) ⟨[]⟩ ⟨caps⟩ ∧ Eva.look T1 7 = .int .i64 (l.length : Int) ∧ Eva.look T1 8 = .int .i64 (j : Int) ∧ fidxC q (l.drop j) j = fidxC q l 0 ∧ s.next ≤ h.next ∧ ∀ X, X < s.next → h.t.at_ X = s.t.at_ X) l.length ?_ ?_
  · refine ⟨0, by omega, by omega, ?_, ?_, ?_, ?_, rfl, Nat.le_refl _, fun _ _ => rfl⟩ <;> (simp (disch := omega) only [go_sem, reduceIte, sliceB]) <;> rfl
  · rintro m T1 h ⟨j, hj, hm, t0, t1, t7, t8, hfx, hnx, hold⟩
    by_cases hlt : j < l.length
    · obtain ⟨x, hx⟩ : ∃ x, l[j]? = some x := ⟨_, List.getElem?_eq_getElem hlt⟩
      obtain ⟨B, o, cs, ty, rw_, rfl, hB, g1, g2⟩ := hat j hlt
      rw [colsC_at hx] at g2
      have lB := ltv B (by simp [occ])
      have oB := (hold B lB).trans hB
      rw [fidxC_at hx] at hfx
      have hcl := hcall x.k x.c h hold
      cases hb : q x with
      | true =>
        rw [hb] at hfx
        simp only [if_true] at hfx
        have hb' : q ⟨x.k, x.c⟩ = true := hb
        rw [hb'] at hcl
        repeat' (first | simp (disch := omega) only [go_sem, reduceIte, sliceB, t0, t1, t7, t8, oB, g1, g2, hokf, hcl, Int.toNat_natCast, Tryz.results108] | (with_reducible refine w_chain0 ?_ ?_; focus (decide +kernel)) | (with_reducible refine condK_of _ _ ?_ ?_ <;> (intro hb; try simp only [decide_eq_true_eq, decide_eq_false_iff_not] at hb)) | (with_reducible refine gdK_of_f _ _ _ _ _ ?_ ?_ <;> (intro hb; try simp only [decide_eq_true_eq, decide_eq_false_iff_not] at hb)) | (with_reducible refine gdK_of_t _ _ _ _ _ ?_ ?_ <;> (intro hb; try simp only [decide_eq_true_eq, decide_eq_false_iff_not] at hb)) | (with_reducible refine gK_of_f _ _ _ ?_ ?_ <;> (intro hb; try simp only [decide_eq_true_eq, decide_eq_false_iff_not] at hb)) | (with_reducible refine gK_of_t _ _ _ ?_ ?_ <;> (intro hb; try simp only [decide_eq_true_eq, decide_eq_false_iff_not] at hb)))
        all_goals (refine ends_mk [] ?_ rfl ?_ ?_ ?_ ?_ <;> (try (intro X hX1 hX2; simp only [KeyIn, or_false, not_or, not_false_eq_true] at hX2)) <;> (try simp (disch := omega) only [go_sem, reduceIte, sliceB, AllMods, DistG, KeyIn, setL, news, not_false_eq_true, or_false, not_or, ne_eq, AllAt, AllObs, Dist, NotIn, kap_zero, kap_succ, kap_nil, inv_lt, inv_self, inv_add, ren_int, intsC_ren, and_true, and_self]) <;> (try omega))
        · exact hold X hX1
        · rw [hfx]
      | false =>
        rw [hb] at hfx
        simp only [Bool.false_eq_true, if_false] at hfx
        have hb' : q ⟨x.k, x.c⟩ = false := hb
        rw [hb'] at hcl
        repeat' (first | simp (disch := omega) only [go_sem, reduceIte, sliceB, t0, t1, t7, t8, oB, g1, g2, hokf, hcl, Int.toNat_natCast, Tryz.results108] | (with_reducible refine w_chain0 ?_ ?_; focus (decide +kernel)) | (with_reducible refine condK_of _ _ ?_ ?_ <;> (intro hb; try simp only [decide_eq_true_eq, decide_eq_false_iff_not] at hb)) | (with_reducible refine gdK_of_f _ _ _ _ _ ?_ ?_ <;> (intro hb; try simp only [decide_eq_true_eq, decide_eq_false_iff_not] at hb)) | (with_reducible refine gdK_of_t _ _ _ _ _ ?_ ?_ <;> (intro hb; try simp only [decide_eq_true_eq, decide_eq_false_iff_not] at hb)) | (with_reducible refine gK_of_f _ _ _ ?_ ?_ <;> (intro hb; try simp only [decide_eq_true_eq, decide_eq_false_iff_not] at hb)) | (with_reducible refine gK_of_t _ _ _ ?_ ?_ <;> (intro hb; try simp only [decide_eq_true_eq, decide_eq_false_iff_not] at hb)))
        exact ⟨l.length - (j + 1), by omega, j + 1, by omega, rfl, by simp, hfx, by omega, hold⟩
    · obtain rfl : j = l.length := by omega
      rw [List.drop_length] at hfx
      have e1 : fidxC q l 0 = -1 := hfx.symm
      rw [e1]
      repeat' (first | simp (disch := omega) only [go_sem, reduceIte, sliceB, t0, t1, t7, t8, Tryz.results108] | (with_reducible refine w_chain0 ?_ ?_; focus (decide +kernel)) | (with_reducible refine condK_of _ _ ?_ ?_ <;> (intro hb; try simp only [decide_eq_true_eq, decide_eq_false_iff_not] at hb)) | (with_reducible refine gdK_of_f _ _ _ _ _ ?_ ?_ <;> (intro hb; try simp only [decide_eq_true_eq, decide_eq_false_iff_not] at hb)) | (with_reducible refine gdK_of_t _ _ _ _ _ ?_ ?_ <;> (intro hb; try simp only [decide_eq_true_eq, decide_eq_false_iff_not] at hb)) | (with_reducible refine gK_of_f _ _ _ ?_ ?_ <;> (intro hb; try simp only [decide_eq_true_eq, decide_eq_false_iff_not] at hb)) | (with_reducible refine gK_of_t _ _ _ ?_ ?_ <;> (intro hb; try simp only [decide_eq_true_eq, decide_eq_false_iff_not] at hb)))
      all_goals (refine ends_mk [] ?_ rfl ?_ ?_ ?_ ?_ <;> (try (intro X hX1 hX2; simp only [KeyIn, or_false, not_or, not_false_eq_true] at hX2)) <;> (try simp (disch := omega) only [go_sem, reduceIte, sliceB, AllMods, DistG, KeyIn, setL, news, not_false_eq_true, or_false, not_or, ne_eq, AllAt, AllObs, Dist, NotIn, kap_zero, kap_succ, kap_nil, inv_lt, inv_self, inv_add, ren_int, intsC_ren, and_true, and_self]) <;> (try omega))
      exact hold X hX1
theorem contCol_ok (hc : CallOK Tryz.prog G (LBegin Tryz.prog ν LL W may) ν call) (hix : ∀ a h, call 108 a h = cIdxCol a h) : SpecOK Tryz.prog G (LBegin Tryz.prog ν LL W may) ν 64 cContCol := by
  refine fun_ok rfl (by kernel_rfl) hc fun args s v h' e Lv hlv hG => ?_
  unfold cContCol at e
  split at e <;> try (cases e; done)
  rename_i v0 f
  split at e <;> try (cases e; done)
  rename_i l q hl hq
  split at e <;> try (cases e; done)
  rename_i hmil
  simp only [Option.some.injEq, Prod.mk.injEq] at e
  obtain ⟨rfl, rfl⟩ := e
  have e0 : cIdxCol [v0, f] s = some (.int .i64 (fidxC q l 0), s) := by
    simp only [cIdxCol, hl, hq]
    rw [if_pos hmil]
  have hany := fidxC_any q l 0
  refine ⟨[], [], by cases s; rfl, 0, ?_⟩
  obtain ⟨vs, hv, hvs⟩ := Option.bind_eq_some_iff.1 hl
  obtain ⟨a, n, c, rfl⟩ := row_slice hv
  by_cases h0 : 0 ≤ fidxC q l 0
  · rw [decide_eq_true h0] at hany
    rw [← hany]
    generalize fidxC q l 0 = z at *
    refine ⟨Tryz.f64, _, Tryz.func64, rfl, by simp [Tryz.f64], ?_⟩; rw [Tryz.ntmps64]
    repeat' (first | simp (disch := omega) only [go_sem, reduceIte, sliceB, hix, e0, Tryz.results64] | (with_reducible refine w_chain0 ?_ ?_; focus (decide +kernel)) | (with_reducible refine condK_of _ _ ?_ ?_ <;> (intro hb; try simp only [decide_eq_true_eq, decide_eq_false_iff_not] at hb)) | (with_reducible refine gdK_of_f _ _ _ _ _ ?_ ?_ <;> (intro hb; try simp only [decide_eq_true_eq, decide_eq_false_iff_not] at hb)) | (with_reducible refine gdK_of_t _ _ _ _ _ ?_ ?_ <;> (intro hb; try simp only [decide_eq_true_eq, decide_eq_false_iff_not] at hb)) | (with_reducible refine gK_of_f _ _ _ ?_ ?_ <;> (intro hb; try simp only [decide_eq_true_eq, decide_eq_false_iff_not] at hb)) | (with_reducible refine gK_of_t _ _ _ ?_ ?_ <;> (intro hb; try simp only [decide_eq_true_eq, decide_eq_false_iff_not] at hb)))
    all_goals (refine ends_mk [] ?_ rfl ?_ ?_ ?_ ?_ <;> (try (intro X hX1 hX2; simp only [KeyIn, or_false, not_or, not_false_eq_true] at hX2)) <;> (try simp (disch := omega) only [go_sem, reduceIte, sliceB, AllMods, DistG, KeyIn, setL, news, not_false_eq_true, or_false, not_or, ne_eq, AllAt, AllObs, Dist, NotIn, kap_zero, kap_succ, kap_nil, inv_lt, inv_self, inv_add, ren_int, intsC_ren, and_true, and_self]) <;> (try omega))
  · rw [decide_eq_false h0] at hany
    rw [← hany]
    generalize fidxC q l 0 = z at *
    have h0' : z < 0 := by omega
    refine ⟨Tryz.f64, _, Tryz.func64, rfl, by simp [Tryz.f64], ?_⟩; rw [Tryz.ntmps64]
    repeat' (first | simp (disch := omega) only [go_sem, reduceIte, sliceB, hix, e0, Tryz.results64] | (with_reducible refine w_chain0 ?_ ?_; focus (decide +kernel)) | (with_reducible refine condK_of _ _ ?_ ?_ <;> (intro hb; try simp only [decide_eq_true_eq, decide_eq_false_iff_not] at hb)) | (with_reducible refine gdK_of_f _ _ _ _ _ ?_ ?_ <;> (intro hb; try simp only [decide_eq_true_eq, decide_eq_false_iff_not] at hb)) | (with_reducible refine gdK_of_t _ _ _ _ _ ?_ ?_ <;> (intro hb; try simp only [decide_eq_true_eq, decide_eq_false_iff_not] at hb)) | (with_reducible refine gK_of_f _ _ _ ?_ ?_ <;> (intro hb; try simp only [decide_eq_true_eq, decide_eq_false_iff_not] at hb)) | (with_reducible refine gK_of_t _ _ _ ?_ ?_ <;> (intro hb; try simp only [decide_eq_true_eq, decide_eq_false_iff_not] at hb)))
    all_goals (refine ends_mk [] ?_ rfl ?_ ?_ ?_ ?_ <;> (try (intro X hX1 hX2; simp only [KeyIn, or_false, not_or, not_false_eq_true] at hX2)) <;> (try simp (disch := omega) only [go_sem, reduceIte, sliceB, AllMods, DistG, KeyIn, setL, news, not_false_eq_true, or_false, not_or, ne_eq, AllAt, AllObs, Dist, NotIn, kap_zero, kap_succ, kap_nil, inv_lt, inv_self, inv_add, ren_int, intsC_ren, and_true, and_self]) <;> (try omega))
end
end Go.Proofs.YtmcigeebeoobdaaGreatDoor
end

/-
  Package plan over the tree: check, Check. Arms printed by a small program.
-/
section
set_option linter.unusedSimpArgs false
set_option linter.unusedVariables false
namespace Go.Proofs.YtmcigeebeoobdaaGreatDoor
open Go Go.RowKit Go.Viv Go.Eva Go.Sym
def cPCheck : Sym.CallS := fun args s => match args with
  | [.slice _ n _, .agg ⟨[.int .i64 k, .int .i64 c]⟩, v] => match (rowB s.t 2 v).bind colsL with
    | some l => if l.length ≤ 1000000 ∧ n ≤ 1000000 then some (.int .i64 (colE n ⟨k, c⟩ l), s) else none
    | none => none
  | _ => none
/-- A row may be cut: its room is known, or its block is one's own. -/
def roomB (t : Tr AObj) (e : TypeId) : Value → Bool
  | .slice (some ⟨B, _, none⟩) _ 0 => match t.at_ B with
    | some (.cells _ e' true) => Nat.beq e' e
    | _ => false
  | .slice (some ⟨_, _, none⟩) n (c + 1) => Nat.ble n c
  | _ => true
def cPlanCheck : Sym.CallS := fun args s => match args with
  | [.slice a n m, v] => match (rowB s.t 2 v).bind colsL with
    | some l => if l.length ≤ 1000000 ∧ n ≤ 1000000 ∧ roomB s.t 37 v = true then some (.int .i64 (planE n l), s) else none
    | none => none
  | _ => none
theorem colE_1' {n : Int} {k c : Int} {a : List Coln} (h : k < 1 ∨ 5 < k ∨ (k = 5 ∧ c ≠ 0)) : colE n ⟨k, c⟩ a = 1 := by unfold colE; rw [if_pos h]
theorem colE_11' {n : Int} {k c : Int} {a : List Coln} (h1 : 1 ≤ k) (h5 : k ≤ 4) (h : c < 0 ∨ n ≤ c) : colE n ⟨k, c⟩ a = 11 := by
  unfold colE
  rw [if_neg (by simp only; omega), if_pos ⟨by simp only; omega, h⟩]
theorem colE_more' {n : Int} {k c : Int} {a : List Coln} (h1 : 1 ≤ k) (h5 : k ≤ 4) (h : 0 ≤ c) (hn : c < n) : colE n ⟨k, c⟩ a = if a.any (fun x => ((x.k == 5) == false) && x.c == c) then 15 else 0 := by
  have e : (k == 5) = false := by simp; omega
  unfold colE twiceB
  rw [if_neg (by simp only; omega), if_neg (by simp only; omega)]
  simp only [e]
section
variable {G : Nat} {ν : Toks} {W : World} {may : Nat → Prop} {call : CallB}
set_option maxRecDepth 4000 in
theorem pcheck_ok (hc : CallOK Tryz.prog G (LBegin Tryz.prog ν LL W may) ν call) (hct : ∀ a h, call 64 a h = cContCol a h) : SpecOK Tryz.prog G (LBegin Tryz.prog ν LL W may) ν 63 cPCheck := by
  refine fun_ok rfl (by kernel_rfl) hc fun args s v h' e Lv hlv hG => ?_
  unfold cPCheck at e
  split at e <;> try (cases e; done)
  rename_i a n m k c v0
  split at e <;> try (cases e; done)
  rename_i l hl
  split at e <;> try (cases e; done)
  rename_i hmil
  obtain ⟨hmil, hn⟩ := hmil
  simp only [Option.some.injEq, Prod.mk.injEq] at e
  obtain ⟨rfl, rfl⟩ := e
  refine ⟨[], [], by cases s; rfl, 0, ?_⟩
  obtain ⟨vs, hv, hvs⟩ := Option.bind_eq_some_iff.1 hl
  have ltv : ∀ X, occ X v0 = true → X < s.next := fun X h => hlv.lt _ (hlv.arg X (by simp [occL, h]))
  obtain ⟨a0, n0, c0, rfl⟩ := row_slice hv
  have hcc : ∀ (all : Bool) (H : Hp) (t1 t2 : TypeId) (w1 w2 : Bool), (∀ X, X < s.next → H.t.at_ X = s.t.at_ X) → H.t.at_ (s.next + 1) = some (.cells [.bool all] t1 w1) → H.t.at_ s.next = some (.cells [.int .i64 k, .int .i64 c] t2 w2) →
      cContCol [.slice a0 n0 c0, .func (.func 107) ⟨[]⟩ ⟨[.pointer (some ⟨s.next + 1, 0, none⟩), .pointer (some ⟨s.next, 0, none⟩)]⟩] H = some (.bool (l.any fun x => ((x.k == 5) == all) && x.c == c), H) := fun all H t1 t2 w1 w2 h1 h2 h3 => by
    have hl' : (rowB H.t 2 (.slice a0 n0 c0)).bind colsL = some l := by rw [rowB_frame (t := s.t) fun X h => h1 X (ltv X h)]; exact hl
    have hq : predC H (.func (.func 107) ⟨[]⟩ ⟨[.pointer (some ⟨s.next + 1, 0, none⟩), .pointer (some ⟨s.next, 0, none⟩)]⟩) = some fun x => ((x.k == 5) == all) && x.c == c := by
      simp only [predC, h2, h3]
      rfl
    simp only [cContCol, hl', hq]
    rw [if_pos hmil]
  by_cases k1 : k < 1
  · rw [colE_1' (.inl k1)]
    refine ⟨Tryz.f63, _, Tryz.func63, rfl, by simp [Tryz.f63], ?_⟩; rw [Tryz.ntmps63]
    repeat' (first | simp (disch := omega) only [go_sem, reduceIte, sliceB, undef, Tryz.results63] | (with_reducible refine w_chain0 ?_ ?_; focus (decide +kernel)) | (with_reducible refine condK_of _ _ ?_ ?_ <;> (intro hb; try simp only [decide_eq_true_eq, decide_eq_false_iff_not] at hb)) | (with_reducible refine gdK_of_f _ _ _ _ _ ?_ ?_ <;> (intro hb; try simp only [decide_eq_true_eq, decide_eq_false_iff_not] at hb)) | (with_reducible refine gdK_of_t _ _ _ _ _ ?_ ?_ <;> (intro hb; try simp only [decide_eq_true_eq, decide_eq_false_iff_not] at hb)) | (with_reducible refine gK_of_f _ _ _ ?_ ?_ <;> (intro hb; try simp only [decide_eq_true_eq, decide_eq_false_iff_not] at hb)) | (with_reducible refine gK_of_t _ _ _ ?_ ?_ <;> (intro hb; try simp only [decide_eq_true_eq, decide_eq_false_iff_not] at hb)))
    all_goals (refine ends_mk [] ?_ rfl ?_ ?_ ?_ ?_ <;> (try (intro X hX1 hX2; simp only [KeyIn, or_false, not_or, not_false_eq_true] at hX2)) <;> (try simp (disch := omega) only [go_sem, reduceIte, sliceB, AllMods, DistG, KeyIn, setL, news, not_false_eq_true, or_false, not_or, ne_eq, AllAt, AllObs, Dist, NotIn, kap_zero, kap_succ, kap_nil, inv_lt, inv_self, inv_add, ren_int, intsC_ren, and_true, and_self]) <;> (try omega))
  by_cases k5 : 5 < k
  · rw [colE_1' (.inr (.inl k5))]
    refine ⟨Tryz.f63, _, Tryz.func63, rfl, by simp [Tryz.f63], ?_⟩; rw [Tryz.ntmps63]
    repeat' (first | simp (disch := omega) only [go_sem, reduceIte, sliceB, undef, Tryz.results63] | (with_reducible refine w_chain0 ?_ ?_; focus (decide +kernel)) | (with_reducible refine condK_of _ _ ?_ ?_ <;> (intro hb; try simp only [decide_eq_true_eq, decide_eq_false_iff_not] at hb)) | (with_reducible refine gdK_of_f _ _ _ _ _ ?_ ?_ <;> (intro hb; try simp only [decide_eq_true_eq, decide_eq_false_iff_not] at hb)) | (with_reducible refine gdK_of_t _ _ _ _ _ ?_ ?_ <;> (intro hb; try simp only [decide_eq_true_eq, decide_eq_false_iff_not] at hb)) | (with_reducible refine gK_of_f _ _ _ ?_ ?_ <;> (intro hb; try simp only [decide_eq_true_eq, decide_eq_false_iff_not] at hb)) | (with_reducible refine gK_of_t _ _ _ ?_ ?_ <;> (intro hb; try simp only [decide_eq_true_eq, decide_eq_false_iff_not] at hb)))
    all_goals (refine ends_mk [] ?_ rfl ?_ ?_ ?_ ?_ <;> (try (intro X hX1 hX2; simp only [KeyIn, or_false, not_or, not_false_eq_true] at hX2)) <;> (try simp (disch := omega) only [go_sem, reduceIte, sliceB, AllMods, DistG, KeyIn, setL, news, not_false_eq_true, or_false, not_or, ne_eq, AllAt, AllObs, Dist, NotIn, kap_zero, kap_succ, kap_nil, inv_lt, inv_self, inv_add, ren_int, intsC_ren, and_true, and_self]) <;> (try omega))
  by_cases ke : k = 5
  · subst ke
    by_cases c0' : c = 0
    · subst c0'
      have e5 : colE n ⟨5, 0⟩ l = if (l.any fun x => ((x.k == 5) == true) && x.c == 0) then 15 else 0 := rfl
      rw [e5]
      cases hany : (l.any fun x => ((x.k == 5) == true) && x.c == 0) with
      | true =>
        refine ⟨Tryz.f63, _, Tryz.func63, rfl, by simp [Tryz.f63], ?_⟩; rw [Tryz.ntmps63]
        repeat' (first | simp (disch := omega) only [go_sem, reduceIte, sliceB, undef, hct] | (with_reducible refine w_chain0 ?_ ?_; focus (decide +kernel)) | (with_reducible refine condK_of _ _ ?_ ?_ <;> (intro hb; try simp only [decide_eq_true_eq, decide_eq_false_iff_not] at hb)) | (with_reducible refine gdK_of_f _ _ _ _ _ ?_ ?_ <;> (intro hb; try simp only [decide_eq_true_eq, decide_eq_false_iff_not] at hb)) | (with_reducible refine gdK_of_t _ _ _ _ _ ?_ ?_ <;> (intro hb; try simp only [decide_eq_true_eq, decide_eq_false_iff_not] at hb)) | (with_reducible refine gK_of_f _ _ _ ?_ ?_ <;> (intro hb; try simp only [decide_eq_true_eq, decide_eq_false_iff_not] at hb)) | (with_reducible refine gK_of_t _ _ _ ?_ ?_ <;> (intro hb; try simp only [decide_eq_true_eq, decide_eq_false_iff_not] at hb)))
        refine ⟨_, hcc true _ 4 37 true true (fun X hX => by simp (disch := omega) only [go_sem, reduceIte, sliceB]) (by simp (disch := omega) only [go_sem, reduceIte, sliceB]) (by simp (disch := omega) only [go_sem, reduceIte, sliceB]), ?_⟩
        rw [hany]
        repeat' (first | simp (disch := omega) only [go_sem, reduceIte, sliceB, Tryz.results63] | (with_reducible refine w_chain0 ?_ ?_; focus (decide +kernel)) | (with_reducible refine condK_of _ _ ?_ ?_ <;> (intro hb; try simp only [decide_eq_true_eq, decide_eq_false_iff_not] at hb)) | (with_reducible refine gdK_of_f _ _ _ _ _ ?_ ?_ <;> (intro hb; try simp only [decide_eq_true_eq, decide_eq_false_iff_not] at hb)) | (with_reducible refine gdK_of_t _ _ _ _ _ ?_ ?_ <;> (intro hb; try simp only [decide_eq_true_eq, decide_eq_false_iff_not] at hb)) | (with_reducible refine gK_of_f _ _ _ ?_ ?_ <;> (intro hb; try simp only [decide_eq_true_eq, decide_eq_false_iff_not] at hb)) | (with_reducible refine gK_of_t _ _ _ ?_ ?_ <;> (intro hb; try simp only [decide_eq_true_eq, decide_eq_false_iff_not] at hb)))
        all_goals (refine ends_mk [] ?_ rfl ?_ ?_ ?_ ?_ <;> (try (intro X hX1 hX2; simp only [KeyIn, or_false, not_or, not_false_eq_true] at hX2)) <;> (try simp (disch := omega) only [go_sem, reduceIte, sliceB, AllMods, DistG, KeyIn, setL, news, not_false_eq_true, or_false, not_or, ne_eq, AllAt, AllObs, Dist, NotIn, kap_zero, kap_succ, kap_nil, inv_lt, inv_self, inv_add, ren_int, intsC_ren, and_true, and_self]) <;> (try omega))
      | false =>
        have e0 : (if false = true then (15 : Int) else 0) = 0 := rfl
        rw [e0]
        refine ⟨Tryz.f63, _, Tryz.func63, rfl, by simp [Tryz.f63], ?_⟩; rw [Tryz.ntmps63]
        repeat' (first | simp (disch := omega) only [go_sem, reduceIte, sliceB, undef, hct] | (with_reducible refine w_chain0 ?_ ?_; focus (decide +kernel)) | (with_reducible refine condK_of _ _ ?_ ?_ <;> (intro hb; try simp only [decide_eq_true_eq, decide_eq_false_iff_not] at hb)) | (with_reducible refine gdK_of_f _ _ _ _ _ ?_ ?_ <;> (intro hb; try simp only [decide_eq_true_eq, decide_eq_false_iff_not] at hb)) | (with_reducible refine gdK_of_t _ _ _ _ _ ?_ ?_ <;> (intro hb; try simp only [decide_eq_true_eq, decide_eq_false_iff_not] at hb)) | (with_reducible refine gK_of_f _ _ _ ?_ ?_ <;> (intro hb; try simp only [decide_eq_true_eq, decide_eq_false_iff_not] at hb)) | (with_reducible refine gK_of_t _ _ _ ?_ ?_ <;> (intro hb; try simp only [decide_eq_true_eq, decide_eq_false_iff_not] at hb)))
        refine ⟨_, hcc true _ 4 37 true true (fun X hX => by simp (disch := omega) only [go_sem, reduceIte, sliceB]) (by simp (disch := omega) only [go_sem, reduceIte, sliceB]) (by simp (disch := omega) only [go_sem, reduceIte, sliceB]), ?_⟩
        rw [hany]
        repeat' (first | simp (disch := omega) only [go_sem, reduceIte, sliceB, Tryz.results63] | (with_reducible refine w_chain0 ?_ ?_; focus (decide +kernel)) | (with_reducible refine condK_of _ _ ?_ ?_ <;> (intro hb; try simp only [decide_eq_true_eq, decide_eq_false_iff_not] at hb)) | (with_reducible refine gdK_of_f _ _ _ _ _ ?_ ?_ <;> (intro hb; try simp only [decide_eq_true_eq, decide_eq_false_iff_not] at hb)) | (with_reducible refine gdK_of_t _ _ _ _ _ ?_ ?_ <;> (intro hb; try simp only [decide_eq_true_eq, decide_eq_false_iff_not] at hb)) | (with_reducible refine gK_of_f _ _ _ ?_ ?_ <;> (intro hb; try simp only [decide_eq_true_eq, decide_eq_false_iff_not] at hb)) | (with_reducible refine gK_of_t _ _ _ ?_ ?_ <;> (intro hb; try simp only [decide_eq_true_eq, decide_eq_false_iff_not] at hb)))
        all_goals (refine ends_mk [] ?_ rfl ?_ ?_ ?_ ?_ <;> (try (intro X hX1 hX2; simp only [KeyIn, or_false, not_or, not_false_eq_true] at hX2)) <;> (try simp (disch := omega) only [go_sem, reduceIte, sliceB, AllMods, DistG, KeyIn, setL, news, not_false_eq_true, or_false, not_or, ne_eq, AllAt, AllObs, Dist, NotIn, kap_zero, kap_succ, kap_nil, inv_lt, inv_self, inv_add, ren_int, intsC_ren, and_true, and_self]) <;> (try omega))
    · rw [colE_1' (.inr (.inr ⟨rfl, c0'⟩))]
      refine ⟨Tryz.f63, _, Tryz.func63, rfl, by simp [Tryz.f63], ?_⟩; rw [Tryz.ntmps63]
      repeat' (first | simp (disch := omega) only [go_sem, reduceIte, sliceB, c0', Tryz.results63] | (with_reducible refine w_chain0 ?_ ?_; focus (decide +kernel)) | (with_reducible refine condK_of _ _ ?_ ?_ <;> (intro hb; try simp only [decide_eq_true_eq, decide_eq_false_iff_not] at hb)) | (with_reducible refine gdK_of_f _ _ _ _ _ ?_ ?_ <;> (intro hb; try simp only [decide_eq_true_eq, decide_eq_false_iff_not] at hb)) | (with_reducible refine gdK_of_t _ _ _ _ _ ?_ ?_ <;> (intro hb; try simp only [decide_eq_true_eq, decide_eq_false_iff_not] at hb)) | (with_reducible refine gK_of_f _ _ _ ?_ ?_ <;> (intro hb; try simp only [decide_eq_true_eq, decide_eq_false_iff_not] at hb)) | (with_reducible refine gK_of_t _ _ _ ?_ ?_ <;> (intro hb; try simp only [decide_eq_true_eq, decide_eq_false_iff_not] at hb)))
      all_goals (refine ends_mk [] ?_ rfl ?_ ?_ ?_ ?_ <;> (try (intro X hX1 hX2; simp only [KeyIn, or_false, not_or, not_false_eq_true] at hX2)) <;> (try simp (disch := omega) only [go_sem, reduceIte, sliceB, AllMods, DistG, KeyIn, setL, news, not_false_eq_true, or_false, not_or, ne_eq, AllAt, AllObs, Dist, NotIn, kap_zero, kap_succ, kap_nil, inv_lt, inv_self, inv_add, ren_int, intsC_ren, and_true, and_self]) <;> (try omega))
  by_cases c0' : c < 0
  · rw [colE_11' (by omega) (by omega) (.inl c0')]
    refine ⟨Tryz.f63, _, Tryz.func63, rfl, by simp [Tryz.f63], ?_⟩; rw [Tryz.ntmps63]
    repeat' (first | simp (disch := omega) only [go_sem, reduceIte, sliceB, ke, Tryz.results63] | (with_reducible refine w_chain0 ?_ ?_; focus (decide +kernel)) | (with_reducible refine condK_of _ _ ?_ ?_ <;> (intro hb; try simp only [decide_eq_true_eq, decide_eq_false_iff_not] at hb)) | (with_reducible refine gdK_of_f _ _ _ _ _ ?_ ?_ <;> (intro hb; try simp only [decide_eq_true_eq, decide_eq_false_iff_not] at hb)) | (with_reducible refine gdK_of_t _ _ _ _ _ ?_ ?_ <;> (intro hb; try simp only [decide_eq_true_eq, decide_eq_false_iff_not] at hb)) | (with_reducible refine gK_of_f _ _ _ ?_ ?_ <;> (intro hb; try simp only [decide_eq_true_eq, decide_eq_false_iff_not] at hb)) | (with_reducible refine gK_of_t _ _ _ ?_ ?_ <;> (intro hb; try simp only [decide_eq_true_eq, decide_eq_false_iff_not] at hb)))
    all_goals (refine ends_mk [] ?_ rfl ?_ ?_ ?_ ?_ <;> (try (intro X hX1 hX2; simp only [KeyIn, or_false, not_or, not_false_eq_true] at hX2)) <;> (try simp (disch := omega) only [go_sem, reduceIte, sliceB, AllMods, DistG, KeyIn, setL, news, not_false_eq_true, or_false, not_or, ne_eq, AllAt, AllObs, Dist, NotIn, kap_zero, kap_succ, kap_nil, inv_lt, inv_self, inv_add, ren_int, intsC_ren, and_true, and_self]) <;> (try omega))
  by_cases cn : (n : Int) ≤ c
  · rw [colE_11' (by omega) (by omega) (.inr cn)]
    refine ⟨Tryz.f63, _, Tryz.func63, rfl, by simp [Tryz.f63], ?_⟩; rw [Tryz.ntmps63]
    repeat' (first | simp (disch := omega) only [go_sem, reduceIte, sliceB, ke, Tryz.results63] | (with_reducible refine w_chain0 ?_ ?_; focus (decide +kernel)) | (with_reducible refine condK_of _ _ ?_ ?_ <;> (intro hb; try simp only [decide_eq_true_eq, decide_eq_false_iff_not] at hb)) | (with_reducible refine gdK_of_f _ _ _ _ _ ?_ ?_ <;> (intro hb; try simp only [decide_eq_true_eq, decide_eq_false_iff_not] at hb)) | (with_reducible refine gdK_of_t _ _ _ _ _ ?_ ?_ <;> (intro hb; try simp only [decide_eq_true_eq, decide_eq_false_iff_not] at hb)) | (with_reducible refine gK_of_f _ _ _ ?_ ?_ <;> (intro hb; try simp only [decide_eq_true_eq, decide_eq_false_iff_not] at hb)) | (with_reducible refine gK_of_t _ _ _ ?_ ?_ <;> (intro hb; try simp only [decide_eq_true_eq, decide_eq_false_iff_not] at hb)))
    all_goals (refine ends_mk [] ?_ rfl ?_ ?_ ?_ ?_ <;> (try (intro X hX1 hX2; simp only [KeyIn, or_false, not_or, not_false_eq_true] at hX2)) <;> (try simp (disch := omega) only [go_sem, reduceIte, sliceB, AllMods, DistG, KeyIn, setL, news, not_false_eq_true, or_false, not_or, ne_eq, AllAt, AllObs, Dist, NotIn, kap_zero, kap_succ, kap_nil, inv_lt, inv_self, inv_add, ren_int, intsC_ren, and_true, and_self]) <;> (try omega))
  rw [colE_more' (by omega) (by omega) (by omega) (by omega)]
  cases hany : (l.any fun x => ((x.k == 5) == false) && x.c == c) with
  | true =>
    refine ⟨Tryz.f63, _, Tryz.func63, rfl, by simp [Tryz.f63], ?_⟩; rw [Tryz.ntmps63]
    repeat' (first | simp (disch := omega) only [go_sem, reduceIte, sliceB, ke, hct] | (with_reducible refine w_chain0 ?_ ?_; focus (decide +kernel)) | (with_reducible refine condK_of _ _ ?_ ?_ <;> (intro hb; try simp only [decide_eq_true_eq, decide_eq_false_iff_not] at hb)) | (with_reducible refine gdK_of_f _ _ _ _ _ ?_ ?_ <;> (intro hb; try simp only [decide_eq_true_eq, decide_eq_false_iff_not] at hb)) | (with_reducible refine gdK_of_t _ _ _ _ _ ?_ ?_ <;> (intro hb; try simp only [decide_eq_true_eq, decide_eq_false_iff_not] at hb)) | (with_reducible refine gK_of_f _ _ _ ?_ ?_ <;> (intro hb; try simp only [decide_eq_true_eq, decide_eq_false_iff_not] at hb)) | (with_reducible refine gK_of_t _ _ _ ?_ ?_ <;> (intro hb; try simp only [decide_eq_true_eq, decide_eq_false_iff_not] at hb)))
    refine ⟨_, hcc false _ 4 37 true true (fun X hX => by simp (disch := omega) only [go_sem, reduceIte, sliceB]) (by simp (disch := omega) only [go_sem, reduceIte, sliceB]) (by simp (disch := omega) only [go_sem, reduceIte, sliceB]), ?_⟩
    rw [hany]
    repeat' (first | simp (disch := omega) only [go_sem, reduceIte, sliceB, ke, Tryz.results63] | (with_reducible refine w_chain0 ?_ ?_; focus (decide +kernel)) | (with_reducible refine condK_of _ _ ?_ ?_ <;> (intro hb; try simp only [decide_eq_true_eq, decide_eq_false_iff_not] at hb)) | (with_reducible refine gdK_of_f _ _ _ _ _ ?_ ?_ <;> (intro hb; try simp only [decide_eq_true_eq, decide_eq_false_iff_not] at hb)) | (with_reducible refine gdK_of_t _ _ _ _ _ ?_ ?_ <;> (intro hb; try simp only [decide_eq_true_eq, decide_eq_false_iff_not] at hb)) | (with_reducible refine gK_of_f _ _ _ ?_ ?_ <;> (intro hb; try simp only [decide_eq_true_eq, decide_eq_false_iff_not] at hb)) | (with_reducible refine gK_of_t _ _ _ ?_ ?_ <;> (intro hb; try simp only [decide_eq_true_eq, decide_eq_false_iff_not] at hb)))
    all_goals (refine ends_mk [] ?_ rfl ?_ ?_ ?_ ?_ <;> (try (intro X hX1 hX2; simp only [KeyIn, or_false, not_or, not_false_eq_true] at hX2)) <;> (try simp (disch := omega) only [go_sem, reduceIte, sliceB, AllMods, DistG, KeyIn, setL, news, not_false_eq_true, or_false, not_or, ne_eq, AllAt, AllObs, Dist, NotIn, kap_zero, kap_succ, kap_nil, inv_lt, inv_self, inv_add, ren_int, intsC_ren, and_true, and_self]) <;> (try omega))
  | false =>
    have e0 : (if false = true then (15 : Int) else 0) = 0 := rfl
    rw [e0]
    refine ⟨Tryz.f63, _, Tryz.func63, rfl, by simp [Tryz.f63], ?_⟩; rw [Tryz.ntmps63]
    repeat' (first | simp (disch := omega) only [go_sem, reduceIte, sliceB, ke, hct] | (with_reducible refine w_chain0 ?_ ?_; focus (decide +kernel)) | (with_reducible refine condK_of _ _ ?_ ?_ <;> (intro hb; try simp only [decide_eq_true_eq, decide_eq_false_iff_not] at hb)) | (with_reducible refine gdK_of_f _ _ _ _ _ ?_ ?_ <;> (intro hb; try simp only [decide_eq_true_eq, decide_eq_false_iff_not] at hb)) | (with_reducible refine gdK_of_t _ _ _ _ _ ?_ ?_ <;> (intro hb; try simp only [decide_eq_true_eq, decide_eq_false_iff_not] at hb)) | (with_reducible refine gK_of_f _ _ _ ?_ ?_ <;> (intro hb; try simp only [decide_eq_true_eq, decide_eq_false_iff_not] at hb)) | (with_reducible refine gK_of_t _ _ _ ?_ ?_ <;> (intro hb; try simp only [decide_eq_true_eq, decide_eq_false_iff_not] at hb)))
    refine ⟨_, hcc false _ 4 37 true true (fun X hX => by simp (disch := omega) only [go_sem, reduceIte, sliceB]) (by simp (disch := omega) only [go_sem, reduceIte, sliceB]) (by simp (disch := omega) only [go_sem, reduceIte, sliceB]), ?_⟩
    rw [hany]
    repeat' (first | simp (disch := omega) only [go_sem, reduceIte, sliceB, ke, Tryz.results63] | (with_reducible refine w_chain0 ?_ ?_; focus (decide +kernel)) | (with_reducible refine condK_of _ _ ?_ ?_ <;> (intro hb; try simp only [decide_eq_true_eq, decide_eq_false_iff_not] at hb)) | (with_reducible refine gdK_of_f _ _ _ _ _ ?_ ?_ <;> (intro hb; try simp only [decide_eq_true_eq, decide_eq_false_iff_not] at hb)) | (with_reducible refine gdK_of_t _ _ _ _ _ ?_ ?_ <;> (intro hb; try simp only [decide_eq_true_eq, decide_eq_false_iff_not] at hb)) | (with_reducible refine gK_of_f _ _ _ ?_ ?_ <;> (intro hb; try simp only [decide_eq_true_eq, decide_eq_false_iff_not] at hb)) | (with_reducible refine gK_of_t _ _ _ ?_ ?_ <;> (intro hb; try simp only [decide_eq_true_eq, decide_eq_false_iff_not] at hb)))
    all_goals (refine ends_mk [] ?_ rfl ?_ ?_ ?_ ?_ <;> (try (intro X hX1 hX2; simp only [KeyIn, or_false, not_or, not_false_eq_true] at hX2)) <;> (try simp (disch := omega) only [go_sem, reduceIte, sliceB, AllMods, DistG, KeyIn, setL, news, not_false_eq_true, or_false, not_or, ne_eq, AllAt, AllObs, Dist, NotIn, kap_zero, kap_succ, kap_nil, inv_lt, inv_self, inv_add, ren_int, intsC_ren, and_true, and_self]) <;> (try omega))
end
end Go.Proofs.YtmcigeebeoobdaaGreatDoor
end
