/-
  The document's rising rows over the tree: With; components of columns: Comps.
-/
import Derived.Test.YtmcigeebeoobdaaGreatDoorPz19
import Derived.Test.YtmcigeebeoobdaaGreatDoorPz13
set_option linter.unusedSimpArgs false
set_option linter.unusedVariables false
namespace Go.Sym
open Go Go.RowKit Go.Viv Go.Eva
/-- What is appended: any row. -/
theorem news_any {P : Program} {t : Tr AObj} {xt e : TypeId} {k n c : Nat} {a : Option Addr} {z vs : List Value} (hx : P.underlying xt = some (.slice e)) (hr : rowB t k (.slice a n c) = some vs) (hl : vs.length = n * k) : newsB P t k z xt (.slice a n c) = some (n, vs) := by
  unfold rowB at hr
  split at hr <;> try (cases hr; done)
  · rename_i e1; simp only [Value.slice.injEq] at e1; obtain ⟨rfl, rfl, rfl⟩ := e1; cases hr
    simp only [newsB, hx, srcB, lenV, firstB, Option.map_some]
  · rename_i e1; simp only [Value.slice.injEq] at e1; obtain ⟨rfl, rfl, rfl⟩ := e1; cases hr
    simp only [newsB, hx, srcB, lenV, firstB, Option.map_some, Nat.beq_refl]
  · rename_i B' o n' c' e1
    simp only [Value.slice.injEq] at e1
    obtain ⟨rfl, rfl, rfl⟩ := e1
    split at hr <;> try (cases hr; done)
    rename_i cs ty rw hB'
    cases n with
    | zero =>
      have : vs = [] := List.length_eq_zero_iff.1 (by rw [hl]; omega)
      subst this
      simp only [newsB, hx, srcB, lenV, firstB, Option.map_some, Nat.beq_refl]
    | succ n =>
      have b0 : Nat.beq (n + 1) 0 = false := rfl
      simp only [newsB, hx, srcB, lenV, firstB, b0, nble_t (Nat.le_refl (n + 1)), hB', hr, Option.map_some]
/-- A row appended to one's own, in a run. -/
theorem append_rows {P : Program} {h : Hp} {st xt e : TypeId} {k c : Nat} {a : Option Addr} {z vs : List Value} (hu : P.underlying st = some (.slice e)) (hx : P.underlying xt = some (.slice e)) (hs : sizeB P e = some (k + 1)) (hz : plainZero P e = some z) (hzl : z.length = k + 1)
    (hb : Nat.ble (((P.info? e).map (·.bytes)).getD 10000000) 1000000 = true) {B n m : Nat} {cs : List Value} (hB : h.t.at_ B = some (.cells cs e true)) (hcl : cs.length = (n + 1) * (k + 1)) (hn : n + 1 ≤ 1000000) (hr : rowB h.t (k + 1) (.slice a m c) = some vs) (hl : vs.length = m * (k + 1)) (hone : vs.all oneB = true) (hm : m ≤ 1000000)
    {Q : Value × Hp → Prop} (hQ0 : m = 0 → Q (.slice (some ⟨B, 0, none⟩) (n + 1) 0, h)) (hQ1 : m ≠ 0 → ∀ h', h'.next = h.next + 1 → h'.t.at_ h.next = some (.cells (cs ++ vs) e true) → (∀ X, X ≠ B → X ≠ h.next → h'.t.at_ X = h.t.at_ X) → Q (.slice (some ⟨h.next, 0, none⟩) (n + 1 + m) 0, h')) :
    onSome (appendB P h [st, xt] (.slice (some ⟨B, 0, none⟩) (n + 1) 0) (.slice a m c)) Q := by
  have hnews := news_any (z := z) hx hr hl
  cases m with
  | zero =>
    have hv : vs = [] := List.length_eq_zero_iff.1 (by rw [hl]; omega)
    subst hv
    refine ⟨_, ?_, hQ0 rfl⟩
    have hchk : (List.all [] oneB && Nat.beq ([] : List Value).length (0 * (k + 1)) && Nat.beq z.length (k + 1) && Nat.ble 0 1000000 && Nat.ble (((P.info? e).map (·.bytes)).getD 10000000) 1000000) = true := by
      rw [hb, nbeq_t hzl, nbeq_t (show ([] : List Value).length = 0 * (k + 1) by simp)]
      rfl
    unfold appendB
    simp only [hu, hs, hz, hnews, hchk, appendB.app, hB]
  | succ m =>
    have := append_row (st := st) (xt := xt) (x := .slice a (m + 1) c) hu hs hz hzl hb (RowAt.some hB hcl) hnews hl hone (by omega) (by omega)
    refine ⟨_, this, hQ1 (by omega) _ rfl (Tr.at_set_same _ _ _) fun X hX1 hX2 => ?_⟩
    show (Tr.set _ h.next _).at_ X = _
    rw [Tr.at_set_ne _ _ (Ne.symm hX2), if_neg (by omega), Tr.at_set_ne _ _ (Ne.symm hX1)]
/-- A row appended to an empty literal, in a run. -/
theorem append_lit {P : Program} {h : Hp} {st xt e : TypeId} {k B n c : Nat} {a : Option Addr} {z vs : List Value} (hu : P.underlying st = some (.slice e)) (hx : P.underlying xt = some (.slice e)) (hs : sizeB P e = some (k + 1)) (hz : plainZero P e = some z) (hzl : z.length = k + 1)
    (hb : Nat.ble (((P.info? e).map (·.bytes)).getD 10000000) 1000000 = true) (hB : h.t.at_ B = some (.cells [] e true)) (hr : rowB h.t (k + 1) (.slice a n c) = some vs) (hn : n ≤ 1000000) (hone : vs.all oneB = true) (hl : vs.length = n * (k + 1)) {Q : Value × Hp → Prop}
    (hQ0 : n = 0 → ∀ h', h'.next = h.next → (∀ X, h'.t.at_ X = h.t.at_ X) → Q (.slice (some ⟨B, 0, none⟩) 0 1, h')) (hQ1 : 0 < n → ∀ h', h'.next = h.next + 1 → h'.t.at_ h.next = some (.cells vs e true) → (∀ X, X ≠ h.next → h'.t.at_ X = h.t.at_ X) → Q (.slice (some ⟨h.next, 0, none⟩) n 0, h')) :
    onSome (appendB P h [st, xt] (.slice (some ⟨B, 0, none⟩) 0 1) (.slice a n c)) Q := by
  rcases app_lit (st := st) (xt := xt) hu hx hs hz hzl hb hB hr hn hone hl with ⟨h1, e1⟩ | ⟨h1, e1⟩
  · refine ⟨_, e1, hQ0 h1 _ rfl fun X => ?_⟩
    show (h.t.set B _).at_ X = _
    by_cases e : B = X
    · subst e; rw [Tr.at_set_same, hB]
    · rw [Tr.at_set_ne _ _ e]
  · exact ⟨_, e1, hQ1 h1 _ rfl (Tr.at_set_same _ _ _) fun X hX => Tr.at_set_ne _ _ (Ne.symm hX)⟩
/-- The end of a row of one's own, cut off. -/
theorem onSome_tail {P : Program} {T : Tr AObj} {st e : TypeId} {B n p k : Nat} {cs : List Value} (hu : P.underlying st = some (.slice e)) (hs : sizeB P e = some k) (hB : T.at_ B = some (.cells cs e true)) (hl : cs.length = n * k) (hp : p ≤ n) {K : Value → Prop} (hK : ∀ a c, rowB T k (.slice a (n - p) c) = some (cs.drop (p * k)) → K (.slice a (n - p) c)) : onSome (sliceB P T st (.slice (some ⟨B, 0, none⟩) n 0) (some (.int .i64 (p : Int))) none none) K := by
  have hw : wrapInt (.int .i64 (p : Int)) = some p := rfl
  by_cases hnp : n = p
  · subst hnp
    refine ⟨.slice (some ⟨B, match Nat.beq n 0 with | true => 0 | false => 1, none⟩) (n - n) 0, ?_, hK _ _ ?_⟩
    · unfold sliceB
      simp only [hu, hs, Option.elim, hw, hB, nble_t (Nat.le_refl n), Bool.and_self, Nat.beq_refl]
      cases Nat.beq n 0 <;> rfl
    · simp only [rowB, hB]
      unfold readCells
      rw [Nat.sub_self, Nat.zero_mul, List.drop_of_length_le (Nat.le_of_eq hl)]
      simp [has]
  · refine ⟨.slice (some ⟨B, p * k, none⟩) (n - p) 0, ?_, hK _ _ ?_⟩
    · unfold sliceB
      simp only [hu, hs, Option.elim, hw, hB, nble_t hp, nble_t (Nat.le_refl n), Bool.and_self, Nat.beq_refl, nbeq_f hnp, Nat.zero_add]
    · simp only [rowB, hB]
      unfold readCells
      rw [has_le (by rw [List.length_drop, hl, Nat.sub_mul]; exact Nat.le_refl _), List.take_of_length_le (by rw [List.length_drop, hl, Nat.sub_mul]; exact Nat.le_refl _)]
/-- The beginning of a row of one's own, in a run. -/
theorem onSome_head {P : Program} {T : Tr AObj} {st e : TypeId} {B n p k : Nat} {cs : List Value} (hu : P.underlying st = some (.slice e)) (hs : sizeB P e = some k) (hB : T.at_ B = some (.cells cs e true)) (hl : cs.length = n * k) (hp : p ≤ n) {K : Value → Prop} (hK : rowB T k (.slice (some ⟨B, 0, none⟩) p 0) = some (cs.take (p * k)) → K (.slice (some ⟨B, 0, none⟩) p 0)) : onSome (sliceB P T st (.slice (some ⟨B, 0, none⟩) n 0) none (some (.int .i64 (p : Int))) none) K := by
  have hw : wrapInt (.int .i64 (p : Int)) = some p := rfl
  refine ⟨.slice (some ⟨B, 0, none⟩) p 0, ?_, hK ?_⟩
  · unfold sliceB
    simp only [hu, hs, Option.elim, hw, hB, nble_t (Nat.zero_le p), nble_t hp, Bool.and_self, Nat.beq_refl, Nat.sub_zero, Nat.zero_mul, Nat.add_zero]
    cases Nat.beq p 0 <;> rfl
  · simp only [rowB, hB]
    unfold readCells
    have : p * k ≤ n * k := Nat.mul_le_mul_right _ hp
    rw [List.drop_zero, has_le (by omega)]
end Go.Sym
namespace Go.Proofs.YtmcigeebeoobdaaGreatDoor
open Go Go.RowKit Go.Viv Go.Eva Go.Sym
/-- Behind a body that makes one row that stays. -/
theorem endsF_one {s h : Hp} {k n c : Nat} {cs cs' : List Value} {e : TypeId} {u : Value} (hk : s.next ≤ k) (hB : h.t.at_ k = some (.cells cs' e true)) (hcs : cs' = cs) (hren : ∀ κ, renL κ cs = cs) (hu : u = .slice (some ⟨k, 0, none⟩) n c) (hold : ∀ X, X < s.next → h.t.at_ X = s.t.at_ X) : ∃ ex, EndsF s [] ex [.cells cs e true] h (.slice (some ⟨s.next, 0, none⟩) n c) u := by
  subst hu hcs
  refine ⟨[k], by simp, by simpa using hk, rfl, by simp, by simp, fun X hX _ => hold X hX, fun j ob hj => ?_, Wk.of ?_⟩
  · rcases j with _ | j
    · simp only [List.getElem?_cons_zero, Option.some.injEq] at hj
      subst hj
      show h.t.at_ k = _
      rw [hB]
      simp only [renO, hren]
    · simp at hj
  · show _ = ren _ (.slice (some ⟨s.next, 0, none⟩) _ _)
    simp only [ren, inv_self]
    rfl
open Classical in
noncomputable def cWith1 : Sym.CallS := fun args s => match args with
  | [.slice none 0 0, .int .i64 i] => some (.slice (some ⟨s.next, 0, none⟩) 1 0, ⟨news s.t s.next [.cells (intsC [i]) 3 true], s.next + 1⟩)
  | [.slice (some ⟨B, 0, none⟩) (n + 1) 0, .int .i64 i] => (match s.t.at_ B with
    | some (.cells cs e true) => (match intsL cs with
      | some l => if e = 3 ∧ l.length = n + 1 ∧ n ≤ 1000 ∧ Rises l then (if l[posS i l]? = some i then some (.slice (some ⟨B, 0, none⟩) (n + 1) 0, s) else some (.slice (some ⟨s.next, 0, none⟩) (n + 2) 0, ⟨news s.t s.next [.cells (intsC (insS i l)) 3 true], s.next + 1⟩)) else none
      | none => none)
    | _ => none)
  | _ => none
section
variable {G : Nat} {ν : Toks} {W : World} {may : Nat → Prop} {call : CallB}
theorem cAt1_eq {H : Hp} {v : Value} {l : List Int} {i : Int} (hv : (rowB H.t 1 v).bind intsL = some l) (hr : Rises l) (hl : l.length ≤ 1000000) : cAt1 [v, .int .i64 i] H = some (.tuple ⟨[.int .i64 (posS i l : Nat), .bool (decide (l[posS i l]? = some i))]⟩, H) := by
  simp only [cAt1, hv]
  rw [if_pos ⟨hr, hl⟩]
set_option maxRecDepth 4000 in
theorem with1_ok (hc : CallOK Tryz.prog G (LBegin Tryz.prog ν LL W may) ν call) (hat : ∀ a h, call 33 a h = cAt1 a h) : SpecOK Tryz.prog G (LBegin Tryz.prog ν LL W may) ν 68 cWith1 := by
  refine fun_ok rfl (by kernel_rfl) hc fun args s v h' e Lv hlv hG => ?_
  have hb := apb3
  unfold cWith1 at e
  split at e <;> try (cases e; done)
  · rename_i i
    cases e
    have ha : ∀ H : Hp, cAt1 [.slice none 0 0, .int .i64 i] H = some (.tuple ⟨[.int .i64 0, .bool false]⟩, H) := fun H => by
      rw [cAt1_eq (l := []) rfl trivial (by simp)]
      rfl
    refine ⟨[], [.cells (intsC [i]) 3 true], rfl, 0, ?_⟩
    refine ⟨Tryz.f68, _, Tryz.func68, rfl, by simp [Tryz.f68], ?_⟩; rw [Tryz.ntmps68]
    have it0 : Int.toNat 0 = 0 := rfl
    repeat' (first | simp (disch := omega) only [go_sem, reduceIte, sliceB, hat, ha, it0, Option.isNone_none, Bool.true_or] | (with_reducible refine w_chain0 ?_ ?_; focus (decide +kernel)) | (with_reducible refine condK_of _ _ ?_ ?_ <;> (intro hb; try simp only [decide_eq_true_eq, decide_eq_false_iff_not] at hb)) | (with_reducible refine gdK_of_f _ _ _ _ _ ?_ ?_ <;> (intro hb; try simp only [decide_eq_true_eq, decide_eq_false_iff_not] at hb)) | (with_reducible refine gdK_of_t _ _ _ _ _ ?_ ?_ <;> (intro hb; try simp only [decide_eq_true_eq, decide_eq_false_iff_not] at hb)) | (with_reducible refine gK_of_f _ _ _ ?_ ?_ <;> (intro hb; try simp only [decide_eq_true_eq, decide_eq_false_iff_not] at hb)) | (with_reducible refine gK_of_t _ _ _ ?_ ?_ <;> (intro hb; try simp only [decide_eq_true_eq, decide_eq_false_iff_not] at hb)))
    refine append_lit (B := s.next) (n := 0) (vs := []) und22 und22 size3 pz3 rfl apb3 ?_ rfl (by omega) rfl rfl (fun _ h1 n1 s1 => ?_) (fun h0 => absurd h0 (by omega))
    · simp (disch := omega) only [go_sem, reduceIte, sliceB]
    try simp only at n1 s1
    repeat' (first | simp (disch := omega) only [go_sem, reduceIte, sliceB, n1, s1] | (with_reducible refine w_chain0 ?_ ?_; focus (decide +kernel)) | (with_reducible refine condK_of _ _ ?_ ?_ <;> (intro hb; try simp only [decide_eq_true_eq, decide_eq_false_iff_not] at hb)) | (with_reducible refine gdK_of_f _ _ _ _ _ ?_ ?_ <;> (intro hb; try simp only [decide_eq_true_eq, decide_eq_false_iff_not] at hb)) | (with_reducible refine gdK_of_t _ _ _ _ _ ?_ ?_ <;> (intro hb; try simp only [decide_eq_true_eq, decide_eq_false_iff_not] at hb)) | (with_reducible refine gK_of_f _ _ _ ?_ ?_ <;> (intro hb; try simp only [decide_eq_true_eq, decide_eq_false_iff_not] at hb)) | (with_reducible refine gK_of_t _ _ _ ?_ ?_ <;> (intro hb; try simp only [decide_eq_true_eq, decide_eq_false_iff_not] at hb)))
    refine append_lit (B := s.next) (n := 1) (vs := [.int .i64 i]) und22 und22 size3 pz3 rfl apb3 ?_ ?_ (by omega) rfl rfl (fun h0 => absurd h0 (by omega)) (fun _ h2 n2 c2 s2 => ?_)
    · simp (disch := omega) only [go_sem, reduceIte, sliceB, s1]
    · simp only [rowB]
      simp (disch := omega) only [go_sem, reduceIte, sliceB, s1]
    try simp only at n2 s2 c2
    repeat' (first | simp (disch := omega) only [go_sem, reduceIte, sliceB, n1, s1, n2, it0, Option.isNone_none, Bool.true_or] | (with_reducible refine w_chain0 ?_ ?_; focus (decide +kernel)) | (with_reducible refine condK_of _ _ ?_ ?_ <;> (intro hb; try simp only [decide_eq_true_eq, decide_eq_false_iff_not] at hb)) | (with_reducible refine gdK_of_f _ _ _ _ _ ?_ ?_ <;> (intro hb; try simp only [decide_eq_true_eq, decide_eq_false_iff_not] at hb)) | (with_reducible refine gdK_of_t _ _ _ _ _ ?_ ?_ <;> (intro hb; try simp only [decide_eq_true_eq, decide_eq_false_iff_not] at hb)) | (with_reducible refine gK_of_f _ _ _ ?_ ?_ <;> (intro hb; try simp only [decide_eq_true_eq, decide_eq_false_iff_not] at hb)) | (with_reducible refine gK_of_t _ _ _ ?_ ?_ <;> (intro hb; try simp only [decide_eq_true_eq, decide_eq_false_iff_not] at hb)))
    refine append_rows (n := 0) (m := 0) (vs := []) und22 und22 size3 pz3 rfl apb3 c2 rfl (by omega) rfl rfl rfl (by omega) (fun _ => ?_) (fun h0 => absurd rfl h0)
    repeat' (first | simp (disch := omega) only [go_sem, reduceIte, sliceB, n2, Tryz.results68] | (with_reducible refine w_chain0 ?_ ?_; focus (decide +kernel)) | (with_reducible refine condK_of _ _ ?_ ?_ <;> (intro hb; try simp only [decide_eq_true_eq, decide_eq_false_iff_not] at hb)) | (with_reducible refine gdK_of_f _ _ _ _ _ ?_ ?_ <;> (intro hb; try simp only [decide_eq_true_eq, decide_eq_false_iff_not] at hb)) | (with_reducible refine gdK_of_t _ _ _ _ _ ?_ ?_ <;> (intro hb; try simp only [decide_eq_true_eq, decide_eq_false_iff_not] at hb)) | (with_reducible refine gK_of_f _ _ _ ?_ ?_ <;> (intro hb; try simp only [decide_eq_true_eq, decide_eq_false_iff_not] at hb)) | (with_reducible refine gK_of_t _ _ _ ?_ ?_ <;> (intro hb; try simp only [decide_eq_true_eq, decide_eq_false_iff_not] at hb)))
    refine endsF_one (k := s.next + 1 + 1) (by omega) c2 rfl (fun κ => intsC_ren κ [i]) rfl fun X hX => ?_
    rw [s2 X (by omega)]
    simp (disch := omega) only [go_sem, reduceIte, sliceB, s1]
  · rename_i B n i
    split at e <;> try (cases e; done)
    rename_i cs ety hB
    split at e <;> try (cases e; done)
    rename_i l hl
    split at e <;> try (cases e; done)
    rename_i hq
    obtain ⟨rfl, hln, hn, hr⟩ := hq
    obtain rfl := intsL_eq hl
    have lB := hlv.lt _ (hlv.arg B (by simp [occL, occ]))
    have hrow : ∀ H : Hp, H.t.at_ B = s.t.at_ B → rowB H.t 1 (.slice (some ⟨B, 0, none⟩) (n + 1) 0) = some (intsC l) := fun H h1 => by
      simp only [rowB, h1, hB]
      unfold readCells
      rw [List.drop_zero, Nat.mul_one, has_le (by rw [intsC_len]; omega), List.take_of_length_le (by rw [intsC_len]; omega)]
    have ha := cAt1_eq (H := s) (i := i) (v := .slice (some ⟨B, 0, none⟩) (n + 1) 0) (by rw [hrow s rfl]; exact intsL_of l) hr (by omega)
    split at e
    · rename_i hp
      cases e
      rw [hp] at ha
      simp only [decide_true] at ha
      refine ⟨[], [], by cases s; rfl, 0, ?_⟩
      refine ⟨Tryz.f68, _, Tryz.func68, rfl, by simp [Tryz.f68], ?_⟩; rw [Tryz.ntmps68]
      repeat' (first | simp (disch := omega) only [go_sem, reduceIte, sliceB, hat, ha, Tryz.results68] | (with_reducible refine w_chain0 ?_ ?_; focus (decide +kernel)) | (with_reducible refine condK_of _ _ ?_ ?_ <;> (intro hb; try simp only [decide_eq_true_eq, decide_eq_false_iff_not] at hb)) | (with_reducible refine gdK_of_f _ _ _ _ _ ?_ ?_ <;> (intro hb; try simp only [decide_eq_true_eq, decide_eq_false_iff_not] at hb)) | (with_reducible refine gdK_of_t _ _ _ _ _ ?_ ?_ <;> (intro hb; try simp only [decide_eq_true_eq, decide_eq_false_iff_not] at hb)) | (with_reducible refine gK_of_f _ _ _ ?_ ?_ <;> (intro hb; try simp only [decide_eq_true_eq, decide_eq_false_iff_not] at hb)) | (with_reducible refine gK_of_t _ _ _ ?_ ?_ <;> (intro hb; try simp only [decide_eq_true_eq, decide_eq_false_iff_not] at hb)))
      all_goals (refine ends_mk [] ?_ rfl ?_ ?_ ?_ ?_ <;> (try (intro X hX1 hX2; simp only [KeyIn, or_false, not_or, not_false_eq_true] at hX2)) <;> (try simp (disch := omega) only [go_sem, reduceIte, sliceB, AllMods, DistG, KeyIn, setL, news, not_false_eq_true, or_false, not_or, ne_eq, AllAt, AllObs, Dist, NotIn, kap_zero, kap_succ, kap_nil, inv_lt, inv_self, inv_add, ren_int, intsC_ren, and_true, and_self]) <;> (try omega))
    · rename_i hp
      cases e
      rw [decide_eq_false hp] at ha
      have hple := posS_le i l
      have hin := insS_new hp
      obtain ⟨p, hpp⟩ : ∃ p, posS i l = p := ⟨_, rfl⟩
      rw [hpp] at ha hple hin
      refine ⟨[], [.cells (intsC (insS i l)) 3 true], rfl, 0, ?_⟩
      refine ⟨Tryz.f68, _, Tryz.func68, rfl, by simp [Tryz.f68], ?_⟩; rw [Tryz.ntmps68]
      have hcl : (intsC l).length = (n + 1) * 1 := by rw [intsC_len]; omega
      have ht1 : (intsC l).take (p * 1) = intsC (l.take p) := by rw [Nat.mul_one]; simp [intsC, List.map_take]
      have ht2 : (intsC l).drop (p * 1) = intsC (l.drop p) := by rw [Nat.mul_one]; simp [intsC, List.map_drop]
      have hpl : p ≤ n + 1 := by omega
      repeat' (first | simp (disch := omega) only [go_sem, reduceIte, hat, ha] | (with_reducible refine w_chain0 ?_ ?_; focus (decide +kernel)) | (with_reducible refine condK_of _ _ ?_ ?_ <;> (intro hb; try simp only [decide_eq_true_eq, decide_eq_false_iff_not] at hb)) | (with_reducible refine gdK_of_f _ _ _ _ _ ?_ ?_ <;> (intro hb; try simp only [decide_eq_true_eq, decide_eq_false_iff_not] at hb)) | (with_reducible refine gdK_of_t _ _ _ _ _ ?_ ?_ <;> (intro hb; try simp only [decide_eq_true_eq, decide_eq_false_iff_not] at hb)) | (with_reducible refine gK_of_f _ _ _ ?_ ?_ <;> (intro hb; try simp only [decide_eq_true_eq, decide_eq_false_iff_not] at hb)) | (with_reducible refine gK_of_t _ _ _ ?_ ?_ <;> (intro hb; try simp only [decide_eq_true_eq, decide_eq_false_iff_not] at hb)))
      refine onSome_head (n := n + 1) (p := p) und22 size3 (T := s.t.set s.next (some (AObj.cells [] 3 true))) (cs := intsC l) (by simp (disch := omega) only [go_sem, reduceIte, sliceB]; exact hB) hcl hpl (fun hrh => ?_)
      rw [ht1] at hrh
      repeat' (first | simp (disch := omega) only [go_sem, reduceIte, sliceB] | (with_reducible refine w_chain0 ?_ ?_; focus (decide +kernel)) | (with_reducible refine condK_of _ _ ?_ ?_ <;> (intro hb; try simp only [decide_eq_true_eq, decide_eq_false_iff_not] at hb)) | (with_reducible refine gdK_of_f _ _ _ _ _ ?_ ?_ <;> (intro hb; try simp only [decide_eq_true_eq, decide_eq_false_iff_not] at hb)) | (with_reducible refine gdK_of_t _ _ _ _ _ ?_ ?_ <;> (intro hb; try simp only [decide_eq_true_eq, decide_eq_false_iff_not] at hb)) | (with_reducible refine gK_of_f _ _ _ ?_ ?_ <;> (intro hb; try simp only [decide_eq_true_eq, decide_eq_false_iff_not] at hb)) | (with_reducible refine gK_of_t _ _ _ ?_ ?_ <;> (intro hb; try simp only [decide_eq_true_eq, decide_eq_false_iff_not] at hb)))
      refine append_lit (B := s.next) (vs := intsC (l.take p)) und22 und22 size3 pz3 rfl apb3 ?_ hrh (by omega) (intsC_one _) (by rw [intsC_len, List.length_take]; omega) (fun h0 h1 n1 s1 => ?_) (fun h0 h1 n1 c1 s1 => ?_)
      · simp (disch := omega) only [go_sem, reduceIte, sliceB]
      · subst h0
        try simp only at n1 s1
        repeat' (first | simp (disch := omega) only [go_sem, reduceIte, sliceB, n1, s1] | (with_reducible refine w_chain0 ?_ ?_; focus (decide +kernel)) | (with_reducible refine condK_of _ _ ?_ ?_ <;> (intro hb; try simp only [decide_eq_true_eq, decide_eq_false_iff_not] at hb)) | (with_reducible refine gdK_of_f _ _ _ _ _ ?_ ?_ <;> (intro hb; try simp only [decide_eq_true_eq, decide_eq_false_iff_not] at hb)) | (with_reducible refine gdK_of_t _ _ _ _ _ ?_ ?_ <;> (intro hb; try simp only [decide_eq_true_eq, decide_eq_false_iff_not] at hb)) | (with_reducible refine gK_of_f _ _ _ ?_ ?_ <;> (intro hb; try simp only [decide_eq_true_eq, decide_eq_false_iff_not] at hb)) | (with_reducible refine gK_of_t _ _ _ ?_ ?_ <;> (intro hb; try simp only [decide_eq_true_eq, decide_eq_false_iff_not] at hb)))
        refine append_lit (B := s.next) (n := 1) (vs := [.int .i64 i]) und22 und22 size3 pz3 rfl apb3 ?_ ?_ (by omega) rfl rfl (fun h0 => absurd h0 (by omega)) (fun _ h2 n2 c2 s2 => ?_)
        · simp (disch := omega) only [go_sem, reduceIte, sliceB, s1]
        · simp only [rowB]
          simp (disch := omega) only [go_sem, reduceIte, sliceB, s1]
        try simp only at n2 s2 c2
        repeat' (first | simp (disch := omega) only [go_sem, reduceIte, n1, s1, n2] | (with_reducible refine w_chain0 ?_ ?_; focus (decide +kernel)) | (with_reducible refine condK_of _ _ ?_ ?_ <;> (intro hb; try simp only [decide_eq_true_eq, decide_eq_false_iff_not] at hb)) | (with_reducible refine gdK_of_f _ _ _ _ _ ?_ ?_ <;> (intro hb; try simp only [decide_eq_true_eq, decide_eq_false_iff_not] at hb)) | (with_reducible refine gdK_of_t _ _ _ _ _ ?_ ?_ <;> (intro hb; try simp only [decide_eq_true_eq, decide_eq_false_iff_not] at hb)) | (with_reducible refine gK_of_f _ _ _ ?_ ?_ <;> (intro hb; try simp only [decide_eq_true_eq, decide_eq_false_iff_not] at hb)) | (with_reducible refine gK_of_t _ _ _ ?_ ?_ <;> (intro hb; try simp only [decide_eq_true_eq, decide_eq_false_iff_not] at hb)))
        refine onSome_tail (n := n + 1) (p := 0) und22 size3 (cs := intsC l) (by rw [s2 _ (by omega)]; simp (disch := omega) only [go_sem, reduceIte, sliceB, s1]; exact hB) hcl hpl (fun ta tc hrt => ?_)
        rw [ht2] at hrt
        repeat' (first | simp (disch := omega) only [go_sem, reduceIte, sliceB, n2] | (with_reducible refine w_chain0 ?_ ?_; focus (decide +kernel)) | (with_reducible refine condK_of _ _ ?_ ?_ <;> (intro hb; try simp only [decide_eq_true_eq, decide_eq_false_iff_not] at hb)) | (with_reducible refine gdK_of_f _ _ _ _ _ ?_ ?_ <;> (intro hb; try simp only [decide_eq_true_eq, decide_eq_false_iff_not] at hb)) | (with_reducible refine gdK_of_t _ _ _ _ _ ?_ ?_ <;> (intro hb; try simp only [decide_eq_true_eq, decide_eq_false_iff_not] at hb)) | (with_reducible refine gK_of_f _ _ _ ?_ ?_ <;> (intro hb; try simp only [decide_eq_true_eq, decide_eq_false_iff_not] at hb)) | (with_reducible refine gK_of_t _ _ _ ?_ ?_ <;> (intro hb; try simp only [decide_eq_true_eq, decide_eq_false_iff_not] at hb)))
        refine append_rows (n := 0) (m := n + 1 - 0) (vs := intsC (l.drop 0)) und22 und22 size3 pz3 rfl apb3 c2 rfl (by omega) hrt (by rw [intsC_len, List.length_drop]; omega) (intsC_one _) (by omega) (fun h0 => absurd h0 (by omega)) (fun _ h3 n3 c3 s3 => ?_)
        try simp only at n3 s3 c3
        rw [n2] at c3 n3 s3
        repeat' (first | simp (disch := omega) only [go_sem, reduceIte, sliceB, n2, n3, Tryz.results68] | (with_reducible refine w_chain0 ?_ ?_; focus (decide +kernel)) | (with_reducible refine condK_of _ _ ?_ ?_ <;> (intro hb; try simp only [decide_eq_true_eq, decide_eq_false_iff_not] at hb)) | (with_reducible refine gdK_of_f _ _ _ _ _ ?_ ?_ <;> (intro hb; try simp only [decide_eq_true_eq, decide_eq_false_iff_not] at hb)) | (with_reducible refine gdK_of_t _ _ _ _ _ ?_ ?_ <;> (intro hb; try simp only [decide_eq_true_eq, decide_eq_false_iff_not] at hb)) | (with_reducible refine gK_of_f _ _ _ ?_ ?_ <;> (intro hb; try simp only [decide_eq_true_eq, decide_eq_false_iff_not] at hb)) | (with_reducible refine gK_of_t _ _ _ ?_ ?_ <;> (intro hb; try simp only [decide_eq_true_eq, decide_eq_false_iff_not] at hb)))
        refine endsF_one (k := s.next + 1 + 1 + 1) (by omega) c3 ?_ (fun κ => intsC_ren κ _) (by congr 1; omega) fun X hX => ?_
        · rw [hin]
          simp [intsC]
        · rw [s3 X (by omega) (by omega)]
          try simp (disch := omega) only [go_sem, reduceIte, sliceB, n2]
          rw [s2 X (by omega)]
          simp (disch := omega) only [go_sem, reduceIte, sliceB, s1]
      · try simp only at n1 s1 c1
        repeat' (first | simp (disch := omega) only [go_sem, reduceIte, sliceB, n1, s1] | (with_reducible refine w_chain0 ?_ ?_; focus (decide +kernel)) | (with_reducible refine condK_of _ _ ?_ ?_ <;> (intro hb; try simp only [decide_eq_true_eq, decide_eq_false_iff_not] at hb)) | (with_reducible refine gdK_of_f _ _ _ _ _ ?_ ?_ <;> (intro hb; try simp only [decide_eq_true_eq, decide_eq_false_iff_not] at hb)) | (with_reducible refine gdK_of_t _ _ _ _ _ ?_ ?_ <;> (intro hb; try simp only [decide_eq_true_eq, decide_eq_false_iff_not] at hb)) | (with_reducible refine gK_of_f _ _ _ ?_ ?_ <;> (intro hb; try simp only [decide_eq_true_eq, decide_eq_false_iff_not] at hb)) | (with_reducible refine gK_of_t _ _ _ ?_ ?_ <;> (intro hb; try simp only [decide_eq_true_eq, decide_eq_false_iff_not] at hb)))
        obtain ⟨q, rfl⟩ : ∃ q, p = q + 1 := ⟨p - 1, by omega⟩
        refine append_on (B := s.next + 1) (cs := intsC (l.take (q + 1))) (new := [.int .i64 i]) und22 und22 size3 pz3 rfl apb3 (.some ?_ (by rw [intsC_len, List.length_take]; omega)) ?_ rfl rfl (by omega) (by omega) (fun h2 r2 n2 s2 => ?_)
        · simp (disch := omega) only [go_sem, reduceIte, sliceB, c1]
        · simp (disch := omega) only [go_sem, reduceIte, sliceB]
        try simp only at n2 s2 r2
        repeat' (first | simp (disch := omega) only [go_sem, reduceIte, n1, n2] | (with_reducible refine w_chain0 ?_ ?_; focus (decide +kernel)) | (with_reducible refine condK_of _ _ ?_ ?_ <;> (intro hb; try simp only [decide_eq_true_eq, decide_eq_false_iff_not] at hb)) | (with_reducible refine gdK_of_f _ _ _ _ _ ?_ ?_ <;> (intro hb; try simp only [decide_eq_true_eq, decide_eq_false_iff_not] at hb)) | (with_reducible refine gdK_of_t _ _ _ _ _ ?_ ?_ <;> (intro hb; try simp only [decide_eq_true_eq, decide_eq_false_iff_not] at hb)) | (with_reducible refine gK_of_f _ _ _ ?_ ?_ <;> (intro hb; try simp only [decide_eq_true_eq, decide_eq_false_iff_not] at hb)) | (with_reducible refine gK_of_t _ _ _ ?_ ?_ <;> (intro hb; try simp only [decide_eq_true_eq, decide_eq_false_iff_not] at hb)))
        refine onSome_tail (n := n + 1) (p := q + 1) und22 size3 (cs := intsC l) (by rw [s2 _ (by omega) (by omega)]; simp (disch := omega) only [go_sem, reduceIte, sliceB, s1]; exact hB) hcl hpl (fun ta tc hrt => ?_)
        rw [ht2] at hrt
        repeat' (first | simp (disch := omega) only [go_sem, reduceIte, sliceB, n2] | (with_reducible refine w_chain0 ?_ ?_; focus (decide +kernel)) | (with_reducible refine condK_of _ _ ?_ ?_ <;> (intro hb; try simp only [decide_eq_true_eq, decide_eq_false_iff_not] at hb)) | (with_reducible refine gdK_of_f _ _ _ _ _ ?_ ?_ <;> (intro hb; try simp only [decide_eq_true_eq, decide_eq_false_iff_not] at hb)) | (with_reducible refine gdK_of_t _ _ _ _ _ ?_ ?_ <;> (intro hb; try simp only [decide_eq_true_eq, decide_eq_false_iff_not] at hb)) | (with_reducible refine gK_of_f _ _ _ ?_ ?_ <;> (intro hb; try simp only [decide_eq_true_eq, decide_eq_false_iff_not] at hb)) | (with_reducible refine gK_of_t _ _ _ ?_ ?_ <;> (intro hb; try simp only [decide_eq_true_eq, decide_eq_false_iff_not] at hb)))
        rcases r2.inv with ⟨r21, _⟩ | ⟨_, _, r22, r23⟩
        · omega
        refine append_rows (n := q + 1) (m := n + 1 - (q + 1)) (vs := intsC (l.drop (q + 1))) und22 und22 size3 pz3 rfl apb3 r22 r23 (by omega) hrt (by rw [intsC_len, List.length_drop]; omega) (intsC_one _) (by omega) (fun h0 => ?_) (fun h0 h3 n3 c3 s3 => ?_)
        · repeat' (first | simp (disch := omega) only [go_sem, reduceIte, sliceB, n2, Tryz.results68] | (with_reducible refine w_chain0 ?_ ?_; focus (decide +kernel)) | (with_reducible refine condK_of _ _ ?_ ?_ <;> (intro hb; try simp only [decide_eq_true_eq, decide_eq_false_iff_not] at hb)) | (with_reducible refine gdK_of_f _ _ _ _ _ ?_ ?_ <;> (intro hb; try simp only [decide_eq_true_eq, decide_eq_false_iff_not] at hb)) | (with_reducible refine gdK_of_t _ _ _ _ _ ?_ ?_ <;> (intro hb; try simp only [decide_eq_true_eq, decide_eq_false_iff_not] at hb)) | (with_reducible refine gK_of_f _ _ _ ?_ ?_ <;> (intro hb; try simp only [decide_eq_true_eq, decide_eq_false_iff_not] at hb)) | (with_reducible refine gK_of_t _ _ _ ?_ ?_ <;> (intro hb; try simp only [decide_eq_true_eq, decide_eq_false_iff_not] at hb)))
          refine endsF_one (k := s.next + 1 + 1 + 1) (by omega) r22 ?_ (fun κ => intsC_ren κ _) (by congr 1; omega) fun X hX => ?_
          · rw [hin, List.drop_of_length_le (by omega)]
            simp [intsC]
          · rw [s2 X (by omega) (by omega)]
            simp (disch := omega) only [go_sem, reduceIte, sliceB, s1]
        · try simp only at n3 s3 c3
          rw [n2] at c3 n3 s3
          repeat' (first | simp (disch := omega) only [go_sem, reduceIte, sliceB, n2, n3, Tryz.results68] | (with_reducible refine w_chain0 ?_ ?_; focus (decide +kernel)) | (with_reducible refine condK_of _ _ ?_ ?_ <;> (intro hb; try simp only [decide_eq_true_eq, decide_eq_false_iff_not] at hb)) | (with_reducible refine gdK_of_f _ _ _ _ _ ?_ ?_ <;> (intro hb; try simp only [decide_eq_true_eq, decide_eq_false_iff_not] at hb)) | (with_reducible refine gdK_of_t _ _ _ _ _ ?_ ?_ <;> (intro hb; try simp only [decide_eq_true_eq, decide_eq_false_iff_not] at hb)) | (with_reducible refine gK_of_f _ _ _ ?_ ?_ <;> (intro hb; try simp only [decide_eq_true_eq, decide_eq_false_iff_not] at hb)) | (with_reducible refine gK_of_t _ _ _ ?_ ?_ <;> (intro hb; try simp only [decide_eq_true_eq, decide_eq_false_iff_not] at hb)))
          refine endsF_one (k := s.next + 1 + 1 + 1 + 1) (by omega) c3 ?_ (fun κ => intsC_ren κ _) (by congr 1; omega) fun X hX => ?_
          · rw [hin]
            simp [intsC]
          · rw [s3 X (by omega) (by omega), s2 X (by omega) (by omega)]
            simp (disch := omega) only [go_sem, reduceIte, sliceB, s1]
end
end Go.Proofs.YtmcigeebeoobdaaGreatDoor
