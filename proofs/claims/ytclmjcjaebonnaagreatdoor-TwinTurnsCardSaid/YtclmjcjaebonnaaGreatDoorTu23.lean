/-
  Several texts in one. Turn over the tree.
-/
import Derived.Test.YtclmjcjaebonnaaGreatDoorTu22
section
set_option linter.unusedSimpArgs false
set_option linter.unusedVariables false
namespace Go.Viv
/-- The variant that a number tells. -/
def turnV (k n : Int) : Int := let m := if k = 3 then 4 else 3; 1 + ((n.tmod m + m).tmod m)
def Dsc.turn (d : Dsc) (n : Int) : Dsc := ⟨d.k, turnV d.k n, d.b⟩
/-- Components with other variants, as far as there are numbers. -/
def turnL : List Dsc → List Int → List Dsc
  | d :: ds, n :: ns => d.turn n :: turnL ds ns
  | ds, _ => ds
theorem turnL_len : ∀ (ds : List Dsc) (ns : List Int), (turnL ds ns).length = ds.length
  | [], ns => by cases ns <;> rfl
  | d :: ds, [] => rfl
  | d :: ds, n :: ns => by simp [turnL, turnL_len ds ns]
theorem turnL_get : ∀ (ds : List Dsc) (ns : List Int) (i : Nat), (turnL ds ns)[i]? = (ds[i]?).map fun d => match ns[i]? with | some n => d.turn n | none => d
  | [], ns, i => by cases ns <;> simp [turnL]
  | d :: ds, [], i => by
    simp only [turnL, List.getElem?_nil]
    cases (d :: ds)[i]? <;> rfl
  | d :: ds, n :: ns, 0 => by simp [turnL]
  | d :: ds, n :: ns, i + 1 => by simp [turnL, turnL_get ds ns i]
theorem turnL_same {ds : List Dsc} {ns : List Int} {i : Nat} {d : Dsc} (hd : ds[i]? = some d) : (turnL ds (ns.take i))[i]? = some d := by
  rw [turnL_get, hd, List.getElem?_take]
  simp
theorem turnL_step {ds : List Dsc} {ns : List Int} {i : Nat} {d : Dsc} {x : Int} (hd : ds[i]? = some d) (hx : ns[i]? = some x) : (turnL ds (ns.take i)).set i (d.turn x) = turnL ds (ns.take (i + 1)) := by
  apply List.ext_getElem?
  intro j
  have hi : i < (turnL ds (ns.take i)).length := by rw [turnL_len]; exact (List.getElem?_eq_some_iff.1 hd).1
  rw [List.getElem?_set, turnL_get, turnL_get, List.getElem?_take, List.getElem?_take]
  by_cases h : i = j
  · subst h
    rw [if_pos rfl, if_pos hi, hd, if_pos (by omega), hx]
    rfl
  · rw [if_neg h]
    by_cases h2 : j < i
    · rw [if_pos h2, if_pos (by omega)]
    · rw [if_neg h2, if_neg (by omega)]
theorem turnL_all {ds : List Dsc} {ns : List Int} {q : Nat} (hq : q = ns.length ∨ (q = ds.length ∧ ds.length ≤ ns.length)) : turnL ds (ns.take q) = turnL ds ns := by
  apply List.ext_getElem?
  intro j
  rw [turnL_get, turnL_get, List.getElem?_take]
  rcases hq with rfl | ⟨rfl, h⟩
  · by_cases h2 : j < ns.length
    · rw [if_pos h2]
    · rw [if_neg h2, List.getElem?_eq_none (show ns.length ≤ j by omega)]
  · by_cases h2 : j < ds.length
    · rw [if_pos h2]
    · rw [List.getElem?_eq_none (show ds.length ≤ j by omega)]; rfl
end Go.Viv
namespace Go.Proofs.YtclmjcjaebonnaaGreatDoor
open Go Go.RowKit Go.Viv Go.Eva Go.Sym
/-- The row of clones behind a turn: at K + 13 the components, at K + 15 the numbers. -/
def turnF (ds : List Dsc) (rs : List Int) : Nat → Option AObj
  | 13 => if ds = [] then none else some (.cells (rowsC Dsc.cells ds) 54 true)
  | 15 => if rs = [] then none else some (.cells (intsC rs) 2 true)
  | _ => none
def cTurn : Sym.CallS := fun args s => match args with
  | [.agg ⟨[.int .i64 n, .int .i64 t, v, r]⟩, tn] => match (rowB s.t 3 v).bind dscsL, (rowB s.t 1 r).bind intsL, (rowB s.t 1 tn).bind intsL, roomOk tn with
    | some ds, some rs, some ns, true => if ds.length ≤ 100 ∧ rs.length ≤ 100 ∧ ns.length ≤ 100 then some (.agg ⟨[.int .i64 n, .int .i64 t, cloneV ⟨s.t, s.next + 12⟩ v, cloneV ⟨s.t, s.next + 14⟩ r]⟩, ⟨fillT s.t s.next (turnF (turnL ds ns) rs) (16 + 100 * 64), s.next + (16 + 100 * 64)⟩) else none
    | _, _, _, _ => none
  | _ => none
section
variable {G : Nat} {ν : Toks} {W : World} {may : Nat → Prop} {call : CallB}
theorem dscs_one (ds : List Dsc) : (rowsC Dsc.cells ds).all oneB = true := by
  induction ds with
  | nil => rfl
  | cons d l ih => rw [rowsC_cons, List.all_append, ih]; rfl
theorem clone_row {s : Hp} {e : TypeId} {k : Nat} {v : Value} {vs : List Value} (h : rowB s.t (k + 1) v = some vs) (hn : lenN v ≤ 1000000) (h1 : vs.all oneB = true) (hl : vs.length = lenN v * (k + 1)) : cClone e (k + 1) [v] s = some (cloneV s v, ⟨fillT s.t s.next (cloneF e vs) 2, s.next + 2⟩) := by
  unfold cClone
  simp only [h]
  rw [if_pos ⟨hn, h1, hl⟩]
theorem clone_cases {t : Tr AObj} {k n c : Nat} {a : Option Addr} {vs : List Value} (h : rowB t k (.slice a n c) = some vs) (x : Nat) : ∃ A C, (∀ T, cloneV ⟨T, x⟩ (.slice a n c) = .slice A n C) ∧ (0 < n → A = some ⟨x + 1, 0, none⟩ ∧ C = 0) ∧ (n = 0 → A = none ∧ (C = 0 ∨ C = 1)) := by
  unfold rowB at h
  split at h <;> try (cases h; done)
  · rename_i e; cases e; exact ⟨none, 0, fun _ => rfl, fun h => by omega, fun _ => ⟨rfl, .inl rfl⟩⟩
  · rename_i e; cases e; exact ⟨none, 1, fun _ => rfl, fun h => by omega, fun _ => ⟨rfl, .inr rfl⟩⟩
  · rename_i B o n' c' e
    cases e
    cases n with
    | zero => exact ⟨none, 1, fun _ => rfl, fun h => by omega, fun _ => ⟨rfl, .inr rfl⟩⟩
    | succ n => exact ⟨_, 0, fun _ => rfl, fun _ => ⟨rfl, rfl⟩, fun h => by omega⟩
theorem turnC_ok (hc : CallOK Tryz.prog G (LBegin Tryz.prog ν LL W may) ν call) (h1 : ∀ a h, call 20 a h = cClone 2 1 a h) (h2 : ∀ a h, call 19 a h = cClone 54 3 a h) : SpecOK Tryz.prog G (LBegin Tryz.prog ν LL W may) ν 8 cTurn := by
  refine fun_okX (by kernel_rfl) hc fun args s v h' e Lv hlv hG => ?_
  unfold cTurn at e
  split at e <;> try (cases e; done)
  rename_i size top v0 r0 tn
  split at e <;> try (cases e; done)
  rename_i ds rs ns hds hrs hns hrm
  split at e <;> try (cases e; done)
  rename_i hb
  obtain ⟨b1, b2, b3⟩ := hb
  simp only [Option.some.injEq, Prod.mk.injEq] at e
  obtain ⟨rfl, rfl⟩ := e
  have lt : ∀ X, occ X v0 = true ∨ occ X r0 = true ∨ occ X tn = true → X < s.next := fun X h => hlv.lt _ (hlv.arg X (by rcases h with h | h | h <;> simp [occL, occ, h]))
  obtain ⟨vs, p1, p2⟩ := Option.bind_eq_some_iff.1 hds
  obtain rfl := dscsL_eq p2
  obtain ⟨us, q1, q2⟩ := Option.bind_eq_some_iff.1 hrs
  obtain rfl := intsL_eq q2
  obtain ⟨ws, g1, g2⟩ := Option.bind_eq_some_iff.1 hns
  obtain rfl := intsL_eq g2
  obtain ⟨a0, c0, rfl, hel0⟩ := row_descs p1
  obtain ⟨a1, c1, rfl, hel1⟩ := row_ints q1
  obtain ⟨a2, c2, rfl, hel2⟩ := row_ints g1
  have oneD := dscs_one ds
  have hC0 : ∀ T nx, (∀ X, X < s.next → T.at_ X = s.t.at_ X) → cClone 54 3 [.slice a0 ds.length c0] ⟨T, nx⟩ = some (cloneV ⟨T, nx⟩ (.slice a0 ds.length c0), ⟨fillT T nx (cloneF 54 (rowsC Dsc.cells ds)) 2, nx + 2⟩) := fun T nx hT => clone_row (by rw [rowB_frame (t := s.t) (fun X h => hT X (lt X (.inl h)))]; exact p1) (by show ds.length ≤ _; omega) oneD (by rw [rowsC_len dsC_len]; rfl)
  have hC1 : ∀ T nx, (∀ X, X < s.next → T.at_ X = s.t.at_ X) → cClone 2 1 [.slice a1 rs.length c1] ⟨T, nx⟩ = some (cloneV ⟨T, nx⟩ (.slice a1 rs.length c1), ⟨fillT T nx (cloneF 2 (intsC rs)) 2, nx + 2⟩) := fun T nx hT => clone_row (by rw [rowB_frame (t := s.t) (fun X h => hT X (lt X (.inr (.inl h))))]; exact q1) (by show rs.length ≤ _; omega) (intsC_one rs) (by rw [intsC_len]; show rs.length = rs.length * 1; omega)
  obtain ⟨A0, C0, e0, f0, z0⟩ := clone_cases p1 (s.next + 1 + 1 + 10)
  obtain ⟨A1, C1, e1, f1, z1⟩ := clone_cases q1 (s.next + 1 + 1 + 10 + 2)
  rw [show cloneV ⟨s.t, s.next + 12⟩ (.slice a0 ds.length c0) = .slice A0 ds.length C0 from e0 s.t, show cloneV ⟨s.t, s.next + 14⟩ (.slice a1 rs.length c1) = .slice A1 rs.length C1 from e1 s.t]
  have hvp : ∀ B o, veq (.pointer (some ⟨B, o, none⟩)) (.pointer (some ⟨B, o, none⟩)) = true := fun B o => by simp [veq]
  refine ⟨by simp, 0, ?_⟩
  generalize hT : (s.t.set s.next (some (.cells [.int .i64 size, .int .i64 top, .slice a0 ds.length c0, .slice a1 rs.length c1] 50 true))).set (s.next + 1) (some (.cells [.int .i64 0, .int .i64 0, .slice none 0 0, .slice none 0 0] 50 true)) = T at *
  have hT0 : T.at_ s.next = some (.cells [.int .i64 size, .int .i64 top, .slice a0 ds.length c0, .slice a1 rs.length c1] 50 true) := by rw [← hT]; simp (disch := omega) only [go_sem, reduceIte, sliceB]
  have hT1 : T.at_ (s.next + 1) = some (.cells [.int .i64 0, .int .i64 0, .slice none 0 0, .slice none 0 0] 50 true) := by rw [← hT]; simp (disch := omega) only [go_sem, reduceIte, sliceB]
  have hTo : ∀ X, X < s.next → T.at_ X = s.t.at_ X := fun X hX => by rw [← hT]; simp (disch := omega) only [go_sem, reduceIte, sliceB]
  refine ⟨Tryz.f8, _, Tryz.func8, rfl, by simp [Tryz.f8], ?_⟩; rw [Tryz.ntmps8]
  repeat' (first | simp (disch := omega) only [go_sem, reduceIte, sliceB, hT, hT0, Tryz.results8] | (with_reducible refine w_chain0 ?_ ?_; focus (decide +kernel)) | (with_reducible refine condK_of _ _ ?_ ?_ <;> (intro hb; try simp only [decide_eq_true_eq, decide_eq_false_iff_not] at hb)) | (with_reducible refine gdK_of_f _ _ _ _ _ ?_ ?_ <;> (intro hb; try simp only [decide_eq_true_eq, decide_eq_false_iff_not] at hb)) | (with_reducible refine gdK_of_t _ _ _ _ _ ?_ ?_ <;> (intro hb; try simp only [decide_eq_true_eq, decide_eq_false_iff_not] at hb)) | (with_reducible refine gK_of_f _ _ _ ?_ ?_ <;> (intro hb; try simp only [decide_eq_true_eq, decide_eq_false_iff_not] at hb)) | (with_reducible refine gK_of_t _ _ _ ?_ ?_ <;> (intro hb; try simp only [decide_eq_true_eq, decide_eq_false_iff_not] at hb)))
  refine w_plan [(0, []), (1, []), (3, []), (4, []), (2, [3, 4]), (6, []), (5, [6]), (7, []), (8, []), (9, [])] 0 10 (by decide +kernel) ?_
  have hC0' := fun nx => hC0 T nx hTo
  have hC1' := fun nx => hC1 (fillT T (s.next + 1 + 1 + 10) (cloneF 54 (rowsC Dsc.cells ds)) 2) nx (fun X hX => (fillT_out _ _ _ (.inl (by omega))).trans (hTo X hX))
  repeat' (first | simp (disch := omega) only [go_sem, reduceIte, sliceB, hT0, hT1, h1, h2, hC0', hC1', e0, e1, hvp, fillT_out] | (with_reducible refine w_chain0 ?_ ?_; focus (decide +kernel)) | (with_reducible refine condK_of _ _ ?_ ?_ <;> (intro hb; try simp only [decide_eq_true_eq, decide_eq_false_iff_not] at hb)) | (with_reducible refine gdK_of_f _ _ _ _ _ ?_ ?_ <;> (intro hb; try simp only [decide_eq_true_eq, decide_eq_false_iff_not] at hb)) | (with_reducible refine gdK_of_t _ _ _ _ _ ?_ ?_ <;> (intro hb; try simp only [decide_eq_true_eq, decide_eq_false_iff_not] at hb)) | (with_reducible refine gK_of_f _ _ _ ?_ ?_ <;> (intro hb; try simp only [decide_eq_true_eq, decide_eq_false_iff_not] at hb)) | (with_reducible refine gK_of_t _ _ _ ?_ ?_ <;> (intro hb; try simp only [decide_eq_true_eq, decide_eq_false_iff_not] at hb)))
  generalize hU : fillT (fillT T (s.next + 1 + 1 + 10) (cloneF 54 (rowsC Dsc.cells ds)) 2) (s.next + 1 + 1 + 10 + 2) (cloneF 2 (intsC rs)) 2 = U at *
  have hUo : ∀ X, X < s.next + 2 → U.at_ X = T.at_ X := fun X hX => by rw [← hU, fillT_out _ _ _ (.inl (by omega)), fillT_out _ _ _ (.inl (by omega))]
  have hU13 : 0 < ds.length → U.at_ (s.next + 13) = some (.cells (rowsC Dsc.cells ds) 54 true) := fun h => by
    have hne : ¬ rowsC Dsc.cells ds = [] := fun e => by have := congrArg List.length e; rw [rowsC_len dsC_len] at this; simp at this; omega
    rw [← hU, fillT_out _ _ _ (.inl (by omega)), fillT_get _ _ _ (by omega) (by omega), show s.next + 13 - (s.next + 1 + 1 + 10) = 1 by omega]
    simp only [cloneF, if_neg hne]
  have hU15 : 0 < rs.length → U.at_ (s.next + 15) = some (.cells (intsC rs) 2 true) := fun h => by
    have hne : ¬ intsC rs = [] := fun e => by
      have h9 : rs.length = 0 := (intsC_len rs).symm.trans (by rw [e]; rfl)
      omega
    rw [← hU, fillT_get _ _ _ (by omega) (by omega), show s.next + 15 - (s.next + 1 + 1 + 10 + 2) = 1 by omega]
    simp only [cloneF, if_neg hne]
  obtain ⟨q, hq, hq1, hq2, hmin⟩ : ∃ q : Nat, (q = ns.length ∨ (q = ds.length ∧ ds.length ≤ ns.length)) ∧ q ≤ ns.length ∧ q ≤ ds.length ∧ semV (Builtin.min2 (.int .i64 (ns.length : Int)) (.int .i64 (ds.length : Int))) = some (.int .i64 (q : Int)) := by
    by_cases h : ns.length ≤ ds.length
    · exact ⟨ns.length, .inl rfl, Nat.le_refl _, h, min_lo (by omega)⟩
    · exact ⟨ds.length, .inr ⟨rfl, by omega⟩, by omega, Nat.le_refl _, min_hi (by omega)⟩
  obtain ⟨A2, C2, hsl, hel⟩ : ∃ A2 C2, (∀ H, sliceB Tryz.prog H 27 (.slice a2 ns.length c2) none (some (.int .i64 (q : Int))) none = some (.slice A2 q C2)) ∧ ∀ (i : Nat) (x : Int), i < q → ns[i]? = some x → ∃ B o cs ty rw, A2 = some ⟨B, o, none⟩ ∧ s.t.at_ B = some (.cells cs ty rw) ∧ cs[o + i]? = some (.int .i64 x) ∧ B < s.next := by
    cases a2 with
    | none =>
      have h0 : ns.length = 0 := by
        unfold rowB at g1
        split at g1 <;> try (cases g1; done)
        · rename_i e; simp only [Value.slice.injEq] at e; exact e.2.1
        · rename_i e; simp only [Value.slice.injEq] at e; exact e.2.1
        · rename_i e; simp only [Value.slice.injEq] at e; cases e.1
      obtain rfl : q = 0 := by omega
      have hc2 : c2 = 0 ∨ c2 = 1 := by
        rw [h0] at g1
        unfold rowB at g1
        split at g1 <;> try (cases g1; done)
        · rename_i e; simp only [Value.slice.injEq] at e; exact .inl e.2.2
        · rename_i e; simp only [Value.slice.injEq] at e; exact .inr e.2.2
        · rename_i e; simp only [Value.slice.injEq] at e; cases e.1
      rw [h0]
      rcases hc2 with rfl | rfl
      · exact ⟨none, 0, fun H => by simp only [sliceB, und27, size3]; rfl, fun i x hi => by omega⟩
      · exact ⟨none, 1, fun H => by simp only [sliceB, und27, size3]; rfl, fun i x hi => by omega⟩
    | some A =>
      cases c2 with
      | zero => simp [roomOk] at hrm
      | succ c2 =>
        have hle := ble_iff (show Nat.ble ns.length c2 = true from hrm)
        by_cases hp : ∃ B o, A = ⟨B, o, none⟩
        · obtain ⟨B, o, rfl⟩ := hp
          exact ⟨_, _, fun H => slice_hi und27 size3 hq1 hle, fun i x hi hx => by
            obtain ⟨B', o', cs, ty, rw, r1, r2, r3⟩ := hel2 i x hx
            have lb := lt B (.inr (.inr (by simp [occ])))
            cases r1
            exact ⟨_, _, cs, ty, rw, rfl, r2, r3, lb⟩⟩
        · exfalso
          unfold rowB at g1
          split at g1 <;> try (cases g1; done)
          · rename_i e; simp only [Value.slice.injEq] at e; cases e.1
          · rename_i e; simp only [Value.slice.injEq] at e; cases e.1
          · rename_i B o n c e
            simp only [Value.slice.injEq, Option.some.injEq] at e
            exact hp ⟨B, o, e.1⟩
  have hvr : veq (.slice a1 rs.length c1) (.slice a1 rs.length c1) = true := by
    unfold rowB at q1
    split at q1 <;> try (cases q1; done)
    · rename_i e; rw [e]; rfl
    · rename_i e; rw [e]; rfl
    · rename_i e; rw [e]; simp [veq]
  refine ⟨⟨hvr, trivial⟩, ?_⟩
  repeat' (first | simp (disch := omega) only [go_sem, reduceIte, hmin, hsl, hUo] | (with_reducible refine w_chain0 ?_ ?_; focus (decide +kernel)) | (with_reducible refine condK_of _ _ ?_ ?_ <;> (intro hb; try simp only [decide_eq_true_eq, decide_eq_false_iff_not] at hb)) | (with_reducible refine gdK_of_f _ _ _ _ _ ?_ ?_ <;> (intro hb; try simp only [decide_eq_true_eq, decide_eq_false_iff_not] at hb)) | (with_reducible refine gdK_of_t _ _ _ _ _ ?_ ?_ <;> (intro hb; try simp only [decide_eq_true_eq, decide_eq_false_iff_not] at hb)) | (with_reducible refine gK_of_f _ _ _ ?_ ?_ <;> (intro hb; try simp only [decide_eq_true_eq, decide_eq_false_iff_not] at hb)) | (with_reducible refine gK_of_t _ _ _ ?_ ?_ <;> (intro hb; try simp only [decide_eq_true_eq, decide_eq_false_iff_not] at hb)))
  have tb : ∀ n m : Int, m = 3 ∨ m = 4 → -m < n.tmod m ∧ n.tmod m < m ∧ 0 ≤ (n.tmod m + m).tmod m ∧ (n.tmod m + m).tmod m < m := fun n m hm => by
    have hm0 : 0 < m := by omega
    have h1 := Int.tmod_lt_of_pos n hm0
    have h2 : -m < n.tmod m := by
      have := Int.tmod_lt_of_pos (-n) hm0
      rw [Int.neg_tmod] at this
      omega
    have h3 := Int.tmod_lt_of_pos (n.tmod m + m) hm0
    have h4 := Int.tmod_nonneg m (show 0 ≤ n.tmod m + m by omega)
    exact ⟨h2, h1, h4, h3⟩
  refine w_loop (fun m T1 h1 => ∃ i, i ≤ q ∧ m = q - i ∧ Eva.look T1 2 = .pointer (some ⟨s.next, 0, none⟩) ∧ Eva.look T1 4 = .pointer (some ⟨s.next + 1, 0, none⟩) ∧ Eva.look T1 23 = .slice A2 q C2 ∧ Eva.look T1 24 = .int .i64 (q : Int) ∧ Eva.look T1 25 = .int .i64 (i : Int) ∧ h1.next = s.next + 16 + 64 * i ∧
      h1.t.at_ s.next = some (.cells [.int .i64 size, .int .i64 top, .slice A0 ds.length C0, .slice A1 rs.length C1] 50 true) ∧ h1.t.at_ (s.next + 1) = some (.cells [.int .i64 0, .int .i64 0, .slice none 0 0, .slice none 0 0] 50 true) ∧
      (0 < ds.length → h1.t.at_ (s.next + 13) = some (.cells (rowsC Dsc.cells (turnL ds (ns.take i))) 54 true)) ∧ (0 < rs.length → h1.t.at_ (s.next + 15) = some (.cells (intsC rs) 2 true)) ∧ ∀ X, X < s.next → h1.t.at_ X = s.t.at_ X) q ?_ ?_
  · refine ⟨0, by omega, by omega, ?_, ?_, ?_, ?_, ?_, ?_, ?_, ?_, fun h => ?_, fun h => ?_, fun X hX => ?_⟩ <;> (try simp (disch := omega) only [go_sem, reduceIte, sliceB, hUo, hT1, hU13, hU15]) <;> (try rfl)
    · rw [show turnL ds [] = ds by cases ds <;> rfl]
    · exact hTo _ (by assumption)
  · rintro m T1 h3 ⟨i, hi, hm, t2, t4, t23, t24, t25, hnx, wc, w1, w13, w15, hold⟩
    by_cases hlt : i < q
    · obtain ⟨d, hd⟩ : ∃ d, ds[i]? = some d := ⟨ds[i]'(by omega), List.getElem?_eq_getElem (by omega)⟩
      obtain ⟨x, hx⟩ : ∃ x, ns[i]? = some x := ⟨ns[i]'(by omega), List.getElem?_eq_getElem (by omega)⟩
      obtain ⟨B, o, cs, ty, rw, rfl, hB, hcs, lB⟩ := hel i x hlt hx
      have gB := (hold B lB).trans hB
      obtain ⟨fA, fC⟩ := f0 (by omega)
      subst fA fC
      have g13 := w13 (by omega)
      have hln : (turnL ds (ns.take i)).length = ds.length := turnL_len _ _
      have hcell : (rowsC Dsc.cells (turnL ds (ns.take i)))[i * 3]? = some (.int .i64 d.k) := by
        have := rowsC_cell (f := Dsc.cells) dsC_len (turnL_same (ns := ns) hd) (o := 0) (by omega) []
        simpa [Dsc.cells] using this
      have hput : ∀ v : Int, spl (rowsC Dsc.cells (turnL ds (ns.take i))) (i * 3 + 1) [.int .i64 v] = rowsC Dsc.cells ((turnL ds (ns.take i)).set i ⟨d.k, v, d.b⟩) := fun v => by
        have := rowsC_put (f := Dsc.cells) dsC_len (turnL_same (ns := ns) hd) (o := 1) (vs := [.int .i64 v]) (y := ⟨d.k, v, d.b⟩) (by simp) (by simp [spl, Dsc.cells]) []
        simpa using this
      have hhas : has ((rowsC Dsc.cells (turnL ds (ns.take i))).drop (i * 3 + 1)) 1 = true := has_one (by rw [rowsC_len dsC_len, hln]; omega)
      have hst := turnL_step hd hx
      by_cases hk : d.k = 3
      · obtain ⟨m1, m2, m3, m4⟩ := tb x 4 (.inr rfl)
        have hv : d.turn x = ⟨3, 1 + (x.tmod 4 + 4).tmod 4, d.b⟩ := by simp only [Dsc.turn, turnV, hk, if_true]
        rw [hv] at hst
        repeat' (first | simp (disch := omega) only [go_sem, reduceIte, sliceB, t2, t4, t23, t24, t25, wc, gB, hcs, g13, hcell, hk, hput, hhas, hst, Int.toNat_natCast] | (with_reducible refine w_chain0 ?_ ?_; focus (decide +kernel)) | (with_reducible refine condK_of _ _ ?_ ?_ <;> (intro hb; try simp only [decide_eq_true_eq, decide_eq_false_iff_not] at hb)) | (with_reducible refine gdK_of_f _ _ _ _ _ ?_ ?_ <;> (intro hb; try simp only [decide_eq_true_eq, decide_eq_false_iff_not] at hb)) | (with_reducible refine gdK_of_t _ _ _ _ _ ?_ ?_ <;> (intro hb; try simp only [decide_eq_true_eq, decide_eq_false_iff_not] at hb)) | (with_reducible refine gK_of_f _ _ _ ?_ ?_ <;> (intro hb; try simp only [decide_eq_true_eq, decide_eq_false_iff_not] at hb)) | (with_reducible refine gK_of_t _ _ _ ?_ ?_ <;> (intro hb; try simp only [decide_eq_true_eq, decide_eq_false_iff_not] at hb)))
        refine ⟨q - (i + 1), by omega, i + 1, by omega, rfl, by simp, by omega, w1, fun _ => rfl, w15, fun X hX => ?_⟩
        simp (disch := omega) only [go_sem, reduceIte, sliceB]
        exact hold X hX
      · obtain ⟨m1, m2, m3, m4⟩ := tb x 3 (.inl rfl)
        have hv : d.turn x = ⟨d.k, 1 + (x.tmod 3 + 3).tmod 3, d.b⟩ := by simp only [Dsc.turn, turnV, if_neg hk]
        rw [hv] at hst
        repeat' (first | simp (disch := omega) only [go_sem, reduceIte, sliceB, t2, t4, t23, t24, t25, wc, gB, hcs, g13, hcell, hput, hhas, hst, Int.toNat_natCast] | (with_reducible refine w_chain0 ?_ ?_; focus (decide +kernel)) | (with_reducible refine condK_of _ _ ?_ ?_ <;> (intro hb; try simp only [decide_eq_true_eq, decide_eq_false_iff_not] at hb)) | (with_reducible refine gdK_of_f _ _ _ _ _ ?_ ?_ <;> (intro hb; try simp only [decide_eq_true_eq, decide_eq_false_iff_not] at hb)) | (with_reducible refine gdK_of_t _ _ _ _ _ ?_ ?_ <;> (intro hb; try simp only [decide_eq_true_eq, decide_eq_false_iff_not] at hb)) | (with_reducible refine gK_of_f _ _ _ ?_ ?_ <;> (intro hb; try simp only [decide_eq_true_eq, decide_eq_false_iff_not] at hb)) | (with_reducible refine gK_of_t _ _ _ ?_ ?_ <;> (intro hb; try simp only [decide_eq_true_eq, decide_eq_false_iff_not] at hb)))
        refine ⟨q - (i + 1), by omega, i + 1, by omega, rfl, by simp, by omega, w1, fun _ => rfl, w15, fun X hX => ?_⟩
        simp (disch := omega) only [go_sem, reduceIte, sliceB]
        exact hold X hX
    · obtain rfl : i = q := by omega
      repeat' (first | simp (disch := omega) only [go_sem, reduceIte, sliceB, t2, t4, t23, t24, t25, wc, w1, Tryz.results8] | (with_reducible refine w_chain0 ?_ ?_; focus (decide +kernel)) | (with_reducible refine condK_of _ _ ?_ ?_ <;> (intro hb; try simp only [decide_eq_true_eq, decide_eq_false_iff_not] at hb)) | (with_reducible refine gdK_of_f _ _ _ _ _ ?_ ?_ <;> (intro hb; try simp only [decide_eq_true_eq, decide_eq_false_iff_not] at hb)) | (with_reducible refine gdK_of_t _ _ _ _ _ ?_ ?_ <;> (intro hb; try simp only [decide_eq_true_eq, decide_eq_false_iff_not] at hb)) | (with_reducible refine gK_of_f _ _ _ ?_ ?_ <;> (intro hb; try simp only [decide_eq_true_eq, decide_eq_false_iff_not] at hb)) | (with_reducible refine gK_of_t _ _ _ ?_ ?_ <;> (intro hb; try simp only [decide_eq_true_eq, decide_eq_false_iff_not] at hb)))
      rw [turnL_all hq] at w13
      refine endsX_fill rfl (by simp only; omega) (fun j o hj ho => ?_) fun X hX => ?_
      · have hj2 : (j = 13 ∧ 0 < ds.length ∧ o = .cells (rowsC Dsc.cells (turnL ds ns)) 54 true) ∨ (j = 15 ∧ 0 < rs.length ∧ o = .cells (intsC rs) 2 true) := by
          unfold turnF at ho
          split at ho
          · split at ho
            · cases ho
            · rename_i hne
              refine .inl ⟨rfl, ?_, (Option.some.inj ho).symm⟩
              have := turnL_len ds ns
              rcases Nat.eq_zero_or_pos ds.length with h | h
              · exact absurd (List.length_eq_zero_iff.1 (by omega)) hne
              · exact h
          · split at ho
            · cases ho
            · rename_i hne
              refine .inr ⟨rfl, ?_, (Option.some.inj ho).symm⟩
              rcases Nat.eq_zero_or_pos rs.length with h | h
              · exact absurd (List.length_eq_zero_iff.1 h) hne
              · exact h
          · cases ho
        rcases hj2 with ⟨rfl, h, rfl⟩ | ⟨rfl, h, rfl⟩
        · simp (disch := omega) only [go_sem, reduceIte, sliceB]
          exact w13 h
        · simp (disch := omega) only [go_sem, reduceIte, sliceB]
          exact w15 h
      · simp (disch := omega) only [go_sem, reduceIte, sliceB]
        exact hold X hX
end
end Go.Proofs.YtclmjcjaebonnaaGreatDoor
end

/-
  TwinTurns over the tree.
-/
section
set_option linter.unusedSimpArgs false
set_option linter.unusedVariables false
namespace Go.Sym
open Go Go.RowKit Go.Viv Go.Eva
end Go.Sym
namespace Go.Proofs.YtclmjcjaebonnaaGreatDoor
open Go Go.RowKit Go.Viv Go.Eva Go.Sym
theorem veq_row {t : Tr AObj} {k n c : Nat} {a : Option Addr} {vs : List Value} (h : rowB t k (.slice a n c) = some vs) : veq (.slice a n c) (.slice a n c) = true := by
  unfold rowB at h
  split at h <;> try (cases h; done)
  · rename_i e; rw [e]; rfl
  · rename_i e; rw [e]; rfl
  · rename_i e; rw [e]; simp [veq]
def cAwk : Sym.CallS := fun args s => match args with
  | [] => some (.bool true, s)
  | _ => none
def cTT : Sym.CallS := fun args s => match args with
  | [.agg ⟨[.int .i64 n, .int .i64 t, v, r]⟩, tn] => match (rowB s.t 3 v).bind dscsL, (rowB s.t 1 r).bind intsL, (rowB s.t 1 tn).bind intsL, roomOk tn, roomOk r with
    | some ds, some rs, some ns, true, true => some (.bool true, noneT s 100000)
    | _, _, _, _, _ => none
  | _ => none
theorem alike_turn (ds : List Dsc) (ns : List Int) : AlikeL ds (turnL ds ns) := by
  refine ⟨(turnL_len ds ns).symm, fun i x y hx hy => ?_⟩
  rw [turnL_get, hx] at hy
  simp only [Option.map_some, Option.some.injEq] at hy
  subst hy
  cases ns[i]? <;> exact ⟨rfl, rfl⟩
section
variable {G : Nat} {ν : Toks} {W : World} {may : Nat → Prop} {call : CallB}
set_option maxHeartbeats 4000000 in
theorem tt_ok (hc : CallOK Tryz.prog G (LBegin Tryz.prog ν LL W may) ν call) (h1 : ∀ a h, call 7 a h = cAwk a h) (h2 : ∀ a h, call 8 a h = cTurn a h) (h3 : ∀ a h, call 9 a h = cAlike a h) (h4 : ∀ a h, call 10 a h = cLegal a h) (h5 : ∀ a h, call 11 a h = cMay a h) : SpecOK Tryz.prog G (LBegin Tryz.prog ν LL W may) ν 4 cTT := by
  refine fun_okX (by kernel_rfl) hc fun args s v h' e Lv hlv hG => ?_
  unfold cTT at e
  split at e <;> try (cases e; done)
  rename_i size top v0 r0 tn
  split at e <;> try (cases e; done)
  rename_i ds rs ns hds hrs hns hrm hrr
  unfold noneT at e
  simp only [Option.some.injEq, Prod.mk.injEq] at e
  obtain ⟨rfl, rfl⟩ := e
  have lt : ∀ X, occ X v0 = true ∨ occ X r0 = true ∨ occ X tn = true → X < s.next := fun X h => hlv.lt _ (hlv.arg X (by rcases h with h | h | h <;> simp [occL, occ, h]))
  obtain ⟨vs, p1, p2⟩ := Option.bind_eq_some_iff.1 hds
  obtain rfl := dscsL_eq p2
  obtain ⟨us, q1, q2⟩ := Option.bind_eq_some_iff.1 hrs
  obtain rfl := intsL_eq q2
  obtain ⟨ws, g1, g2⟩ := Option.bind_eq_some_iff.1 hns
  obtain rfl := intsL_eq g2
  obtain ⟨a0, c0, rfl, hel0⟩ := row_dscs (s := s) hds
  obtain ⟨a1, c1, rfl, hel1⟩ := row_ints q1
  obtain ⟨a2, c2, rfl, hel2⟩ := row_ints g1
  refine ⟨by simp, 0, ?_⟩
  by_cases x1 : 70 < ds.length
  · refine ⟨Tryz.f4, _, Tryz.func4, rfl, by simp [Tryz.f4], ?_⟩; rw [Tryz.ntmps4]
    repeat' (first | simp (disch := omega) only [go_sem, reduceIte, sliceB, h1, cAwk, Tryz.results4] | (with_reducible refine w_chain0 ?_ ?_; focus (decide +kernel)) | (with_reducible refine condK_of _ _ ?_ ?_ <;> (intro hb; try simp only [decide_eq_true_eq, decide_eq_false_iff_not] at hb)) | (with_reducible refine gdK_of_f _ _ _ _ _ ?_ ?_ <;> (intro hb; try simp only [decide_eq_true_eq, decide_eq_false_iff_not] at hb)) | (with_reducible refine gdK_of_t _ _ _ _ _ ?_ ?_ <;> (intro hb; try simp only [decide_eq_true_eq, decide_eq_false_iff_not] at hb)) | (with_reducible refine gK_of_f _ _ _ ?_ ?_ <;> (intro hb; try simp only [decide_eq_true_eq, decide_eq_false_iff_not] at hb)) | (with_reducible refine gK_of_t _ _ _ ?_ ?_ <;> (intro hb; try simp only [decide_eq_true_eq, decide_eq_false_iff_not] at hb)))
    exact endsX_same rfl (by simp only; omega) fun X hX => by simp (disch := omega) only [go_sem, reduceIte, sliceB]
  by_cases x2 : 100 < ns.length
  · refine ⟨Tryz.f4, _, Tryz.func4, rfl, by simp [Tryz.f4], ?_⟩; rw [Tryz.ntmps4]
    repeat' (first | simp (disch := omega) only [go_sem, reduceIte, sliceB, h1, cAwk, Tryz.results4] | (with_reducible refine w_chain0 ?_ ?_; focus (decide +kernel)) | (with_reducible refine condK_of _ _ ?_ ?_ <;> (intro hb; try simp only [decide_eq_true_eq, decide_eq_false_iff_not] at hb)) | (with_reducible refine gdK_of_f _ _ _ _ _ ?_ ?_ <;> (intro hb; try simp only [decide_eq_true_eq, decide_eq_false_iff_not] at hb)) | (with_reducible refine gdK_of_t _ _ _ _ _ ?_ ?_ <;> (intro hb; try simp only [decide_eq_true_eq, decide_eq_false_iff_not] at hb)) | (with_reducible refine gK_of_f _ _ _ ?_ ?_ <;> (intro hb; try simp only [decide_eq_true_eq, decide_eq_false_iff_not] at hb)) | (with_reducible refine gK_of_t _ _ _ ?_ ?_ <;> (intro hb; try simp only [decide_eq_true_eq, decide_eq_false_iff_not] at hb)))
    exact endsX_same rfl (by simp only; omega) fun X hX => by simp (disch := omega) only [go_sem, reduceIte, sliceB]
  by_cases x3 : 60 < rs.length
  · refine ⟨Tryz.f4, _, Tryz.func4, rfl, by simp [Tryz.f4], ?_⟩; rw [Tryz.ntmps4]
    repeat' (first | simp (disch := omega) only [go_sem, reduceIte, sliceB, h1, cAwk, Tryz.results4] | (with_reducible refine w_chain0 ?_ ?_; focus (decide +kernel)) | (with_reducible refine condK_of _ _ ?_ ?_ <;> (intro hb; try simp only [decide_eq_true_eq, decide_eq_false_iff_not] at hb)) | (with_reducible refine gdK_of_f _ _ _ _ _ ?_ ?_ <;> (intro hb; try simp only [decide_eq_true_eq, decide_eq_false_iff_not] at hb)) | (with_reducible refine gdK_of_t _ _ _ _ _ ?_ ?_ <;> (intro hb; try simp only [decide_eq_true_eq, decide_eq_false_iff_not] at hb)) | (with_reducible refine gK_of_f _ _ _ ?_ ?_ <;> (intro hb; try simp only [decide_eq_true_eq, decide_eq_false_iff_not] at hb)) | (with_reducible refine gK_of_t _ _ _ ?_ ?_ <;> (intro hb; try simp only [decide_eq_true_eq, decide_eq_false_iff_not] at hb)))
    exact endsX_same rfl (by simp only; omega) fun X hX => by simp (disch := omega) only [go_sem, reduceIte, sliceB]
  -- the copy of one's own
  generalize hQ : (s.t.set s.next (some (.cells [.int .i64 size, .int .i64 top, .slice a0 ds.length c0, .slice a1 rs.length c1] 50 true))).set (s.next + 1) (some (.cells [] 54 true)) = Q at *
  have hQo : ∀ X, X < s.next → Q.at_ X = s.t.at_ X := fun X hX => by rw [← hQ]; simp (disch := omega) only [go_sem, reduceIte, sliceB]
  have hQc : Q.at_ s.next = some (.cells [.int .i64 size, .int .i64 top, .slice a0 ds.length c0, .slice a1 rs.length c1] 50 true) := by rw [← hQ]; simp (disch := omega) only [go_sem, reduceIte, sliceB]
  have hQ1 : Q.at_ (s.next + 1) = some (.cells [] 54 true) := by rw [← hQ]; simp (disch := omega) only [go_sem, reduceIte, sliceB]
  have rf : ∀ (V : Tr AObj), (∀ X, X < s.next → V.at_ X = s.t.at_ X) → rowB V 3 (.slice a0 ds.length c0) = some (rowsC Dsc.cells ds) ∧ rowB V 1 (.slice a1 rs.length c1) = some (intsC rs) ∧ rowB V 1 (.slice a2 ns.length c2) = some (intsC ns) := fun V hV =>
    ⟨by rw [rowB_frame (t := s.t) (fun X h => hV X (lt X (.inl h)))]; exact p1, by rw [rowB_frame (t := s.t) (fun X h => hV X (lt X (.inr (.inl h))))]; exact q1, by rw [rowB_frame (t := s.t) (fun X h => hV X (lt X (.inr (.inr h))))]; exact g1⟩
  obtain ⟨KO, OC, T, nx, hapd, hnx1, hnx2, hTo, hTc, how, hKO⟩ : ∃ (KO OC : Nat) (T : Tr AObj) (nx : Nat), appendB Tryz.prog ⟨Q, s.next + 1 + 1⟩ [47, 47] (.slice (some ⟨s.next + 1, 0, none⟩) 0 1) (.slice a0 ds.length c0) = some (.slice (some ⟨KO, 0, none⟩) ds.length OC, ⟨T, nx⟩) ∧ s.next + 2 ≤ nx ∧ nx ≤ s.next + 3 ∧ (∀ X, X < s.next → T.at_ X = s.t.at_ X) ∧ T.at_ s.next = some (.cells [.int .i64 size, .int .i64 top, .slice a0 ds.length c0, .slice a1 rs.length c1] 50 true) ∧ rowB T 3 (.slice (some ⟨KO, 0, none⟩) ds.length OC) = some (rowsC Dsc.cells ds) ∧ KO < nx := by
    rcases app_lit (P := Tryz.prog) (h := ⟨Q, s.next + 1 + 1⟩) (st := 47) (xt := 47) und47 und47 size54 pz54 rfl apb54 hQ1 (rf Q hQo).1 (by omega) (dscs_one ds) (rowsC_len dsC_len ds) with ⟨h0, ha⟩ | ⟨h0, ha⟩
    · have hd : ds = [] := List.length_eq_zero_iff.1 h0
      subst hd
      refine ⟨_, _, _, _, ha, by simp only; omega, by simp only; omega, fun X hX => ?_, ?_, ?_, by simp only; omega⟩
      · rw [Tr.at_set_ne _ _ (by omega)]; exact hQo X hX
      · rw [Tr.at_set_ne _ _ (by omega)]; exact hQc
      · simp only [List.length_nil, rowB, Tr.at_set_same]; rfl
    · refine ⟨_, _, _, _, ha, by simp only; omega, by simp only; omega, fun X hX => ?_, ?_, ?_, by simp only; omega⟩
      · rw [Tr.at_set_ne _ _ (by simp only; omega)]; exact hQo X hX
      · rw [Tr.at_set_ne _ _ (by simp only; omega)]; exact hQc
      · simp only [rowB, Tr.at_set_same]
        unfold readCells
        rw [List.drop_zero, has_le (by rw [rowsC_len dsC_len]; exact Nat.le_refl _)]
        simp [List.take_of_length_le, rowsC_len dsC_len]
  -- what is turned
  obtain ⟨A0, C0, e0, f0, z0⟩ := clone_cases (rf T hTo).1 (nx + 12)
  obtain ⟨A1, C1, e1, f1, z1⟩ := clone_cases (rf T hTo).2.1 (nx + 14)
  obtain ⟨D, hD⟩ : ∃ D, D = nx + (16 + 100 * 64) := ⟨_, rfl⟩
  obtain ⟨U, hU, hUd⟩ : ∃ U, fillT T nx (turnF (turnL ds ns) rs) (16 + 100 * 64) = U ∧ True := ⟨_, rfl, trivial⟩
  have hturn : cTurn [.agg ⟨[.int .i64 size, .int .i64 top, .slice a0 ds.length c0, .slice a1 rs.length c1]⟩, .slice a2 ns.length c2] ⟨T, nx⟩ = some (.agg ⟨[.int .i64 size, .int .i64 top, .slice A0 ds.length C0, .slice A1 rs.length C1]⟩, ⟨U, D⟩) := by
    unfold cTurn
    simp only [(rf T hTo).1, (rf T hTo).2.1, (rf T hTo).2.2, Option.bind_some, dscsL_of, intsL_of, hrm]
    rw [if_pos (by omega), hU, ← hD]
    simp only [e0, e1]
  have hUo : ∀ X, X < nx → U.at_ X = T.at_ X := fun X hX => by rw [← hU, fillT_out _ _ _ (.inl hX)]
  have hUr : rowB U 3 (.slice A0 ds.length C0) = some (rowsC Dsc.cells (turnL ds ns)) ∧ rowB U 1 (.slice A1 rs.length C1) = some (intsC rs) := by
    constructor
    · rcases Nat.eq_zero_or_pos ds.length with h | h
      · obtain ⟨rfl, hC⟩ := z0 h
        have hd : ds = [] := List.length_eq_zero_iff.1 h
        subst hd
        rcases hC with rfl | rfl <;> (cases ns <;> rfl)
      · obtain ⟨rfl, rfl⟩ := f0 h
        have hne : ¬ turnL ds ns = [] := fun e => by have := turnL_len ds ns; rw [e] at this; simp at this; omega
        have hat : U.at_ (nx + 12 + 1) = some (.cells (rowsC Dsc.cells (turnL ds ns)) 54 true) := by
          rw [← hU, fillT_get _ _ _ (by omega) (by omega), show nx + 12 + 1 - nx = 13 by omega]
          simp only [turnF, if_neg hne]
        simp only [rowB, hat]
        unfold readCells
        rw [List.drop_zero, has_le (by rw [rowsC_len dsC_len, turnL_len]; exact Nat.le_refl _)]
        simp [List.take_of_length_le, rowsC_len dsC_len, turnL_len]
    · rcases Nat.eq_zero_or_pos rs.length with h | h
      · obtain ⟨rfl, hC⟩ := z1 h
        have hd : rs = [] := List.length_eq_zero_iff.1 h
        subst hd
        rcases hC with rfl | rfl <;> rfl
      · obtain ⟨rfl, rfl⟩ := f1 h
        have hne : ¬ rs = [] := fun e => by rw [e] at h; simp at h
        have hat : U.at_ (nx + 14 + 1) = some (.cells (intsC rs) 2 true) := by
          rw [← hU, fillT_get _ _ _ (by omega) (by omega), show nx + 14 + 1 - nx = 15 by omega]
          simp only [turnF, if_neg hne]
        simp only [rowB, hat]
        unfold readCells
        rw [List.drop_zero, has_le (by rw [intsC_len]; omega)]
        simp [List.take_of_length_le, intsC_len]
  obtain ⟨V, hV⟩ : ∃ V, (U.set (D) (some (.cells [.int .i64 0, .int .i64 0, .slice none 0 0, .slice none 0 0] 50 true))).set (D) (some (.cells [.int .i64 size, .int .i64 top, .slice A0 ds.length C0, .slice A1 rs.length C1] 50 true)) = V := ⟨_, rfl⟩
  have hVo : ∀ X, X < D → V.at_ X = U.at_ X := fun X hX => by rw [← hV]; simp (disch := omega) only [go_sem, reduceIte, sliceB]
  have hVd : V.at_ (D) = some (.cells [.int .i64 size, .int .i64 top, .slice A0 ds.length C0, .slice A1 rs.length C1] 50 true) := by rw [← hV]; simp (disch := omega) only [go_sem, reduceIte, sliceB]
  have hVs : ∀ X, X < s.next → V.at_ X = s.t.at_ X := fun X hX => (hVo X (by omega)).trans ((hUo X (by omega)).trans (hTo X hX))
  have hVc : V.at_ s.next = some (.cells [.int .i64 size, .int .i64 top, .slice a0 ds.length c0, .slice a1 rs.length c1] 50 true) := (hVo _ (by omega)).trans ((hUo _ (by omega)).trans hTc)
  have occA : ∀ X, occ X (.slice A0 ds.length C0) = true ∨ occ X (.slice A1 rs.length C1) = true → X < D := fun X h => by
    rcases h with h | h
    · rcases Nat.eq_zero_or_pos ds.length with h' | h'
      · obtain ⟨rfl, _⟩ := z0 h'; simp [occ] at h
      · obtain ⟨rfl, _⟩ := f0 h'; simp [occ] at h; omega
    · rcases Nat.eq_zero_or_pos rs.length with h' | h'
      · obtain ⟨rfl, _⟩ := z1 h'; simp [occ] at h
      · obtain ⟨rfl, _⟩ := f1 h'; simp [occ] at h; omega
  have rV : ∀ (H : Tr AObj), (∀ X, X < D → H.at_ X = V.at_ X) → rowB H 3 (.slice A0 ds.length C0) = some (rowsC Dsc.cells (turnL ds ns)) ∧ rowB H 1 (.slice A1 rs.length C1) = some (intsC rs) ∧ rowB H 3 (.slice (some ⟨KO, 0, none⟩) ds.length OC) = some (rowsC Dsc.cells ds) := fun H hH =>
    ⟨by rw [rowB_frame (t := U) (fun X h => (hH X (occA X (.inl h))).trans (hVo X (occA X (.inl h))))]; exact hUr.1, by rw [rowB_frame (t := U) (fun X h => (hH X (occA X (.inr h))).trans (hVo X (occA X (.inr h))))]; exact hUr.2, by
      rw [rowB_frame (t := T) (fun X h => by
        have hX : X = KO := by
          have : KO = X := by simpa [occ] using h
          exact this.symm
        subst hX
        exact (hH _ (by omega)).trans ((hVo _ (by omega)).trans (hUo _ (by omega))))]
      exact how⟩
  have halk : cAlike [.agg ⟨[.int .i64 size, .int .i64 top, .slice a0 ds.length c0, .slice a1 rs.length c1]⟩, .agg ⟨[.int .i64 size, .int .i64 top, .slice A0 ds.length C0, .slice A1 rs.length C1]⟩] ⟨V, D + 1⟩ = some (.bool true, noneT ⟨V, D + 1⟩ (2 + 4 * ds.length + 64 * rs.length)) := by
    unfold cAlike
    simp only [(rf V hVs).1, (rf V hVs).2.1, (rV V (fun X _ => rfl)).1, (rV V (fun X _ => rfl)).2.1, Option.bind_some, dscsL_of, intsL_of]
    rw [if_pos ⟨rfl, rfl, rfl, alike_turn ds ns, by omega, by omega⟩]
  have hUc : U.at_ s.next = some (.cells [.int .i64 size, .int .i64 top, .slice a0 ds.length c0, .slice a1 rs.length c1] 50 true) := (hUo _ (by omega)).trans hTc
  rw [← hV] at halk
  refine ⟨Tryz.f4, _, Tryz.func4, rfl, by simp [Tryz.f4], ?_⟩; rw [Tryz.ntmps4]
  repeat' (first | simp (disch := omega) only [go_sem, reduceIte, sliceB, hQ, hQc] | (with_reducible refine w_chain0 ?_ ?_; focus (decide +kernel)) | (with_reducible refine condK_of _ _ ?_ ?_ <;> (intro hb; try simp only [decide_eq_true_eq, decide_eq_false_iff_not] at hb)) | (with_reducible refine gdK_of_f _ _ _ _ _ ?_ ?_ <;> (intro hb; try simp only [decide_eq_true_eq, decide_eq_false_iff_not] at hb)) | (with_reducible refine gdK_of_t _ _ _ _ _ ?_ ?_ <;> (intro hb; try simp only [decide_eq_true_eq, decide_eq_false_iff_not] at hb)) | (with_reducible refine gK_of_f _ _ _ ?_ ?_ <;> (intro hb; try simp only [decide_eq_true_eq, decide_eq_false_iff_not] at hb)) | (with_reducible refine gK_of_t _ _ _ ?_ ?_ <;> (intro hb; try simp only [decide_eq_true_eq, decide_eq_false_iff_not] at hb)))
  repeat' (first | simp (disch := omega) only [go_sem, reduceIte, sliceB, hapd, hTc] | (with_reducible refine w_chain0 ?_ ?_; focus (decide +kernel)) | (with_reducible refine condK_of _ _ ?_ ?_ <;> (intro hb; try simp only [decide_eq_true_eq, decide_eq_false_iff_not] at hb)) | (with_reducible refine gdK_of_f _ _ _ _ _ ?_ ?_ <;> (intro hb; try simp only [decide_eq_true_eq, decide_eq_false_iff_not] at hb)) | (with_reducible refine gdK_of_t _ _ _ _ _ ?_ ?_ <;> (intro hb; try simp only [decide_eq_true_eq, decide_eq_false_iff_not] at hb)) | (with_reducible refine gK_of_f _ _ _ ?_ ?_ <;> (intro hb; try simp only [decide_eq_true_eq, decide_eq_false_iff_not] at hb)) | (with_reducible refine gK_of_t _ _ _ ?_ ?_ <;> (intro hb; try simp only [decide_eq_true_eq, decide_eq_false_iff_not] at hb)))
  repeat' (first | simp (disch := omega) only [go_sem, reduceIte, sliceB, h2, hturn] | (with_reducible refine w_chain0 ?_ ?_; focus (decide +kernel)) | (with_reducible refine condK_of _ _ ?_ ?_ <;> (intro hb; try simp only [decide_eq_true_eq, decide_eq_false_iff_not] at hb)) | (with_reducible refine gdK_of_f _ _ _ _ _ ?_ ?_ <;> (intro hb; try simp only [decide_eq_true_eq, decide_eq_false_iff_not] at hb)) | (with_reducible refine gdK_of_t _ _ _ _ _ ?_ ?_ <;> (intro hb; try simp only [decide_eq_true_eq, decide_eq_false_iff_not] at hb)) | (with_reducible refine gK_of_f _ _ _ ?_ ?_ <;> (intro hb; try simp only [decide_eq_true_eq, decide_eq_false_iff_not] at hb)) | (with_reducible refine gK_of_t _ _ _ ?_ ?_ <;> (intro hb; try simp only [decide_eq_true_eq, decide_eq_false_iff_not] at hb)))
  repeat' (first | simp (disch := omega) only [go_sem, reduceIte, sliceB, hUc, h3, halk, noneT] | (with_reducible refine w_chain0 ?_ ?_; focus (decide +kernel)) | (with_reducible refine condK_of _ _ ?_ ?_ <;> (intro hb; try simp only [decide_eq_true_eq, decide_eq_false_iff_not] at hb)) | (with_reducible refine gdK_of_f _ _ _ _ _ ?_ ?_ <;> (intro hb; try simp only [decide_eq_true_eq, decide_eq_false_iff_not] at hb)) | (with_reducible refine gdK_of_t _ _ _ _ _ ?_ ?_ <;> (intro hb; try simp only [decide_eq_true_eq, decide_eq_false_iff_not] at hb)) | (with_reducible refine gK_of_f _ _ _ ?_ ?_ <;> (intro hb; try simp only [decide_eq_true_eq, decide_eq_false_iff_not] at hb)) | (with_reducible refine gK_of_t _ _ _ ?_ ?_ <;> (intro hb; try simp only [decide_eq_true_eq, decide_eq_false_iff_not] at hb)))
  have hLg : ∀ H k, (∀ X, X < s.next → H.at_ X = s.t.at_ X) → cLegal [.agg ⟨[.int .i64 size, .int .i64 top, .slice a0 ds.length c0, .slice a1 rs.length c1]⟩] ⟨H, k⟩ = some (.int .i64 (newE size top ds), noneT ⟨H, k⟩ (23 + 8 * ds.length)) := fun H k hH => by
    unfold cLegal
    simp only [(rf H hH).1, (rf H hH).2.1, Option.bind_some, dscsL_of, intsL_of, hrr]
  have hMy : ∀ H k, (∀ X, X < s.next → H.at_ X = s.t.at_ X) → cMay [.agg ⟨[.int .i64 size, .int .i64 top, .slice a0 ds.length c0, .slice a1 rs.length c1]⟩] ⟨H, k⟩ = some (.int .i64 (newE size top ds), noneT ⟨H, k⟩ (1 + ds.length)) := fun H k hH => by
    unfold cMay
    simp only [(rf H hH).1, Option.bind_some, dscsL_of]
    rw [if_pos (by omega)]
  generalize newE size top ds = E at *
  obtain ⟨_, _, ho, hO⟩ := row_dscs (s := ⟨V, 0⟩) (v := .slice (some ⟨KO, 0, none⟩) ds.length OC) (ds := ds) (by simp only [(rV V (fun X _ => rfl)).2.2, Option.bind_some, dscsL_of])
  cases ho
  obtain ⟨_, _, ho, hDD⟩ := row_dscs (s := ⟨V, 0⟩) (v := .slice A0 ds.length C0) (ds := turnL ds ns) (by simp only [(rV V (fun X _ => rfl)).1, Option.bind_some, dscsL_of])
  rw [turnL_len] at ho
  cases ho
  obtain ⟨_, _, ho, hCC⟩ := row_dscs (s := ⟨V, 0⟩) (v := .slice a0 ds.length c0) (ds := ds) (by simp only [(rf V hVs).1, Option.bind_some, dscsL_of])
  cases ho
  have tb : ∀ n m : Int, m = 3 ∨ m = 4 → -m < n.tmod m ∧ n.tmod m < m ∧ 0 ≤ (n.tmod m + m).tmod m ∧ (n.tmod m + m).tmod m < m := fun n m hm => by
    have hm0 : 0 < m := by omega
    have h1 := Int.tmod_lt_of_pos n hm0
    have h2 : -m < n.tmod m := by
      have := Int.tmod_lt_of_pos (-n) hm0
      rw [Int.neg_tmod] at this
      omega
    have h3 := Int.tmod_lt_of_pos (n.tmod m + m) hm0
    have h4 := Int.tmod_nonneg m (show 0 ≤ n.tmod m + m by omega)
    exact ⟨h2, h1, h4, h3⟩
  refine w_loop (fun m T1 h1 => ∃ i, i ≤ ds.length ∧ m = ds.length - i ∧ Eva.look T1 1 = .slice a2 ns.length c2 ∧ Eva.look T1 2 = .pointer (some ⟨s.next, 0, none⟩) ∧ Eva.look T1 5 = .slice (some ⟨KO, 0, none⟩) ds.length OC ∧ Eva.look T1 6 = .pointer (some ⟨D, 0, none⟩) ∧ Eva.look T1 7 = .int .i64 (i : Int) ∧
      h1.next = D + 1 + (2 + 4 * ds.length + 64 * rs.length) + 65 * i ∧ ∀ X, X < D + 1 → h1.t.at_ X = V.at_ X) ds.length ?_ ?_
  · refine ⟨0, by omega, by omega, ?_, ?_, ?_, ?_, ?_, ?_, fun X hX => ?_⟩ <;> (try simp (disch := omega) only [go_sem, reduceIte, sliceB, fillT_out]) <;> (try rfl)
    · rw [← hV]
  · rintro m T1 h6 ⟨i, hi, hm, t1, t2, t5, t6, t7, hnx, hold⟩
    have gc := (hold s.next (by omega)).trans hVc
    have gd := (hold D (by omega)).trans hVd
    by_cases hlt : i < ds.length
    · obtain ⟨d, hd⟩ : ∃ d, ds[i]? = some d := ⟨ds[i]'(by omega), List.getElem?_eq_getElem (by omega)⟩
      obtain ⟨d', hd', hdd⟩ : ∃ d', (turnL ds ns)[i]? = some d' ∧ d' = (match ns[i]? with | some n => d.turn n | none => d) := ⟨_, by rw [turnL_get, hd]; rfl, rfl⟩
      obtain ⟨B1, o1, cs1, ty1, rw1, r1, hB1, hO3, hO4⟩ := hO i d hd
      cases r1
      rw [Nat.zero_add] at hO3 hO4
      obtain ⟨B2, o2, cs2, ty2, rw2, rfl, hB2, hD3, hD4⟩ := hDD i d' hd'
      obtain ⟨B3, o3, cs3, ty3, rw3, rfl, hB3, hC3, hC4⟩ := hCC i d hd
      have gO := (hold KO (by omega)).trans hB1
      have l2 : B2 < D := occA B2 (.inl (by simp [occ]))
      have gD := (hold B2 (by omega)).trans hB2
      have l3 : B3 < s.next := lt B3 (.inl (by simp [occ]))
      have gC := (hold B3 (by omega)).trans hB3
      by_cases hin : i < ns.length
      · obtain ⟨x, hx⟩ : ∃ x, ns[i]? = some x := ⟨ns[i]'(by omega), List.getElem?_eq_getElem (by omega)⟩
        rw [hx] at hdd
        simp only at hdd
        subst hdd
        obtain ⟨B4, o4, cs4, ty4, rw4, rfl, hB4, hx4⟩ := hel2 i x hx
        have l4 : B4 < s.next := lt B4 (.inr (.inr (by simp [occ])))
        have gx := (hold B4 (by omega)).trans ((hVs B4 l4).trans hB4)
        by_cases hk : d.k = 3
        · obtain ⟨m1, m2, m3, m4⟩ := tb x 4 (.inr rfl)
          have hv : (d.turn x).k = 3 ∧ (d.turn x).v = 1 + (x.tmod 4 + 4).tmod 4 ∧ (d.turn x).b = d.b := by refine ⟨hk, ?_, rfl⟩; simp only [Dsc.turn, turnV, hk, if_true]
          rw [hv.1, hv.2.1, hv.2.2] at hD4
          rw [hk] at hO4 hC4
          repeat' (first | simp (disch := omega) only [go_sem, reduceIte, sliceB, t1, t2, t5, t6, t7, gx, hx4, gO, gD, gC, gc, gd, hO3, hO4, hD3, hD4, hC3, hC4, Int.toNat_natCast] | (with_reducible refine w_chain0 ?_ ?_; focus (decide +kernel)) | (with_reducible refine condK_of _ _ ?_ ?_ <;> (intro hb; try simp only [decide_eq_true_eq, decide_eq_false_iff_not] at hb)) | (with_reducible refine gdK_of_f _ _ _ _ _ ?_ ?_ <;> (intro hb; try simp only [decide_eq_true_eq, decide_eq_false_iff_not] at hb)) | (with_reducible refine gdK_of_t _ _ _ _ _ ?_ ?_ <;> (intro hb; try simp only [decide_eq_true_eq, decide_eq_false_iff_not] at hb)) | (with_reducible refine gK_of_f _ _ _ ?_ ?_ <;> (intro hb; try simp only [decide_eq_true_eq, decide_eq_false_iff_not] at hb)) | (with_reducible refine gK_of_t _ _ _ ?_ ?_ <;> (intro hb; try simp only [decide_eq_true_eq, decide_eq_false_iff_not] at hb)))
          refine ⟨ds.length - (i + 1), by omega, i + 1, by omega, rfl, by simp, by omega, fun X hX => ?_⟩
          simp (disch := omega) only [go_sem, reduceIte, sliceB]
          exact hold X hX
        · obtain ⟨m1, m2, m3, m4⟩ := tb x 3 (.inl rfl)
          have hv : (d.turn x).k = d.k ∧ (d.turn x).v = 1 + (x.tmod 3 + 3).tmod 3 ∧ (d.turn x).b = d.b := by refine ⟨rfl, ?_, rfl⟩; simp only [Dsc.turn, turnV, if_neg hk]
          rw [hv.1, hv.2.1, hv.2.2] at hD4
          repeat' (first | simp (disch := omega) only [go_sem, reduceIte, sliceB, t1, t2, t5, t6, t7, gx, hx4, gO, gD, gC, gc, gd, hO3, hO4, hD3, hD4, hC3, hC4, Int.toNat_natCast] | (with_reducible refine w_chain0 ?_ ?_; focus (decide +kernel)) | (with_reducible refine condK_of _ _ ?_ ?_ <;> (intro hb; try simp only [decide_eq_true_eq, decide_eq_false_iff_not] at hb)) | (with_reducible refine gdK_of_f _ _ _ _ _ ?_ ?_ <;> (intro hb; try simp only [decide_eq_true_eq, decide_eq_false_iff_not] at hb)) | (with_reducible refine gdK_of_t _ _ _ _ _ ?_ ?_ <;> (intro hb; try simp only [decide_eq_true_eq, decide_eq_false_iff_not] at hb)) | (with_reducible refine gK_of_f _ _ _ ?_ ?_ <;> (intro hb; try simp only [decide_eq_true_eq, decide_eq_false_iff_not] at hb)) | (with_reducible refine gK_of_t _ _ _ ?_ ?_ <;> (intro hb; try simp only [decide_eq_true_eq, decide_eq_false_iff_not] at hb)))
          refine ⟨ds.length - (i + 1), by omega, i + 1, by omega, rfl, by simp, by omega, fun X hX => ?_⟩
          simp (disch := omega) only [go_sem, reduceIte, sliceB]
          exact hold X hX
      · rw [List.getElem?_eq_none (show ns.length ≤ i by omega)] at hdd
        simp only at hdd
        subst hdd
        repeat' (first | simp (disch := omega) only [go_sem, reduceIte, sliceB, t1, t2, t5, t6, t7, gO, gD, gC, gc, gd, hO3, hO4, hD3, hD4, hC3, hC4, Int.toNat_natCast] | (with_reducible refine w_chain0 ?_ ?_; focus (decide +kernel)) | (with_reducible refine condK_of _ _ ?_ ?_ <;> (intro hb; try simp only [decide_eq_true_eq, decide_eq_false_iff_not] at hb)) | (with_reducible refine gdK_of_f _ _ _ _ _ ?_ ?_ <;> (intro hb; try simp only [decide_eq_true_eq, decide_eq_false_iff_not] at hb)) | (with_reducible refine gdK_of_t _ _ _ _ _ ?_ ?_ <;> (intro hb; try simp only [decide_eq_true_eq, decide_eq_false_iff_not] at hb)) | (with_reducible refine gK_of_f _ _ _ ?_ ?_ <;> (intro hb; try simp only [decide_eq_true_eq, decide_eq_false_iff_not] at hb)) | (with_reducible refine gK_of_t _ _ _ ?_ ?_ <;> (intro hb; try simp only [decide_eq_true_eq, decide_eq_false_iff_not] at hb)))
        refine ⟨ds.length - (i + 1), by omega, i + 1, by omega, rfl, by simp, by omega, fun X hX => ?_⟩
        simp (disch := omega) only [go_sem, reduceIte, sliceB]
        exact hold X hX
    · obtain rfl : i = ds.length := by omega
      have hs6 : ∀ X, X < s.next → h6.t.at_ X = s.t.at_ X := fun X hX => (hold X (by omega)).trans (hVs X hX)
      have l1 := fun k => hLg h6.t k hs6
      have hFo : ∀ X, X < s.next + 1 → (fillT h6.t (h6.next + 9) (fun _ => none) (23 + 8 * ds.length)).at_ X = h6.t.at_ X := fun X hX => fillT_out _ _ _ (.inl (by omega))
      have gF := (hFo s.next (by omega)).trans gc
      have l2 := fun k => hMy (fillT h6.t (h6.next + 9) (fun _ => none) (23 + 8 * ds.length)) k (fun X hX => (hFo X (by omega)).trans (hs6 X hX))
      have hvq : veq (.agg ⟨[.int .i64 size, .int .i64 top, .slice a0 ds.length c0, .slice a1 rs.length c1]⟩) (.agg ⟨[.int .i64 size, .int .i64 top, .slice a0 ds.length c0, .slice a1 rs.length c1]⟩) = true := by
        have e1 := veq_row (rf s.t (fun _ _ => rfl)).1
        have e2 := veq_row (rf s.t (fun _ _ => rfl)).2.1
        unfold veq
        simp only [veqL, e1, e2]
        simp [veq]
      repeat' (first | simp (disch := omega) only [go_sem, reduceIte, sliceB, t1, t2, t5, t6, t7] | (with_reducible refine w_chain0 ?_ ?_; focus (decide +kernel)) | (with_reducible refine condK_of _ _ ?_ ?_ <;> (intro hb; try simp only [decide_eq_true_eq, decide_eq_false_iff_not] at hb)) | (with_reducible refine gdK_of_f _ _ _ _ _ ?_ ?_ <;> (intro hb; try simp only [decide_eq_true_eq, decide_eq_false_iff_not] at hb)) | (with_reducible refine gdK_of_t _ _ _ _ _ ?_ ?_ <;> (intro hb; try simp only [decide_eq_true_eq, decide_eq_false_iff_not] at hb)) | (with_reducible refine gK_of_f _ _ _ ?_ ?_ <;> (intro hb; try simp only [decide_eq_true_eq, decide_eq_false_iff_not] at hb)) | (with_reducible refine gK_of_t _ _ _ ?_ ?_ <;> (intro hb; try simp only [decide_eq_true_eq, decide_eq_false_iff_not] at hb)))
      refine w_plan [(0, []), (2, []), (1, [2]), (3, []), (4, []), (5, []), (6, []), (7, []), (8, [])] 0 9 (by decide +kernel) ?_
      repeat' (first | simp (disch := omega) only [go_sem, reduceIte, sliceB, t1, t2, t5, t6, t7, gc, gF, h4, l1, h5, l2, hvq, h1, cAwk, noneT, Tryz.results4] | (with_reducible refine w_chain0 ?_ ?_; focus (decide +kernel)) | (with_reducible refine condK_of _ _ ?_ ?_ <;> (intro hb; try simp only [decide_eq_true_eq, decide_eq_false_iff_not] at hb)) | (with_reducible refine gdK_of_f _ _ _ _ _ ?_ ?_ <;> (intro hb; try simp only [decide_eq_true_eq, decide_eq_false_iff_not] at hb)) | (with_reducible refine gdK_of_t _ _ _ _ _ ?_ ?_ <;> (intro hb; try simp only [decide_eq_true_eq, decide_eq_false_iff_not] at hb)) | (with_reducible refine gK_of_f _ _ _ ?_ ?_ <;> (intro hb; try simp only [decide_eq_true_eq, decide_eq_false_iff_not] at hb)) | (with_reducible refine gK_of_t _ _ _ ?_ ?_ <;> (intro hb; try simp only [decide_eq_true_eq, decide_eq_false_iff_not] at hb)))
      exact endsX_same rfl (by simp only; omega) fun X hX => by
        simp (disch := omega) only [go_sem, reduceIte, sliceB, fillT_out]
        exact hs6 X hX
end
end Go.Proofs.YtclmjcjaebonnaaGreatDoor
end
