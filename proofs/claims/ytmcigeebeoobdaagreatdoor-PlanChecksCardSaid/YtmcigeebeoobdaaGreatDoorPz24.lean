/-
  Several texts in one. PlanChecks over the tree: the walk of the law.
-/
import Derived.Test.YtmcigeebeoobdaaGreatDoorPz23
import Derived.Test.YtmcigeebeoobdaaGreatDoorPz15
import Derived.Test.YtmcigeebeoobdaaGreatDoorPz02
section
set_option linter.unusedSimpArgs false
set_option linter.unusedVariables false
namespace Go.Sym
open Go Go.RowKit Go.Viv Go.Eva
theorem on_row {x : Option (Value × Hp)} {R : Value → Hp → Prop} {K : Value × Hp → Prop} (h : ∃ v h', x = some (v, h') ∧ R v h') (hK : ∀ v h', R v h' → K (v, h')) : onSome x K := by
  obtain ⟨v, h', e, hp⟩ := h
  exact ⟨_, e, hK v h' hp⟩
/-- A row of numbers that a call made. -/
structure RowIn (H h1 : Hp) (v : Value) (L : List Int) : Prop where
  row : (rowB h1.t 1 v).bind intsL = some L
  nx : H.next ≤ h1.next
  old : ∀ X, X < H.next → h1.t.at_ X = H.t.at_ X
  lt : ∀ X, occ X v = true → X < h1.next
theorem RowIn.later {H h1 h2 : Hp} {v : Value} {L : List Int} (h : RowIn H h1 v L) (hf : ∀ X, X < h1.next → h2.t.at_ X = h1.t.at_ X) : (rowB h2.t 1 v).bind intsL = some L := by
  rw [rowB_frame (t := h1.t) fun X hX => hf X (h.lt X hX)]
  exact h.row
end Go.Sym
namespace Go.Proofs.YtmcigeebeoobdaaGreatDoor
open Go Go.RowKit Go.Viv Go.Eva Go.Sym
theorem row_ints {H : Hp} {B n c : Nat} {L : List Int} (hB : H.t.at_ B = some (.cells (intsC L) 3 true)) (hn : L.length = n) : (rowB H.t 1 (.slice (some ⟨B, 0, none⟩) n c)).bind intsL = some L := by
  simp only [rowB, hB]
  unfold readCells
  rw [List.drop_zero, Nat.mul_one, has_le (by rw [intsC_len]; omega), List.take_of_length_le (by rw [intsC_len]; omega)]
  exact intsL_of _
theorem occ_sl {X B n c : Nat} (h : occ X (.slice (some ⟨B, 0, none⟩) n c) = true) : X = B := by
  have := h
  simp [occ] at this
  omega
theorem rowK_in (H : Hp) (L : List Int) : RowIn H ⟨news H.t H.next (rowKO L), H.next + (rowKO L).length⟩ (rowKV H.next L) L := by
  cases L with
  | nil => exact ⟨rfl, Nat.le_refl _, fun _ _ => rfl, fun X h => by cases h⟩
  | cons a L =>
    refine ⟨row_ints (B := H.next) (Tr.at_set_same _ _ _) rfl, Nat.le_succ _, fun X hX => Tr.at_set_ne _ _ (by omega), fun X h => ?_⟩
    have : X = H.next := occ_sl h
    show X < H.next + 1
    omega
theorem rowI_in (H : Hp) (L : List Int) : RowIn H ⟨news H.t H.next (rowIO L), H.next + (rowIO L).length⟩ (rowIV H.next L) L := by
  cases L with
  | nil => exact ⟨rfl, Nat.le_refl _, fun _ _ => rfl, fun X h => by cases h⟩
  | cons a L =>
    refine ⟨row_ints (B := H.next) (Tr.at_set_same _ _ _) rfl, Nat.le_succ _, fun X hX => Tr.at_set_ne _ _ (by omega), fun X h => ?_⟩
    have : X = H.next := occ_sl h
    show X < H.next + 1
    omega
theorem reads_row {H : Hp} {w : Value} {q : List Coln} {n : Int} (hw : (rowB H.t 2 w).bind colsL = some q) (hp : planE n q = 0) : ∃ v h1, cReads [w] H = some (v, h1) ∧ RowIn H h1 v (dcF [1, 3, 4] q) := by
  obtain ⟨e, ha⟩ := comp_same hp (ks := [1, 3, 4]) (by simp)
  have hl := (planE_yes hp).1
  refine ⟨_, _, ?_, by have := rowK_in H (sortI (compF [1, 3, 4] q)); rwa [e] at this⟩
  simp only [cReads, hw]
  rw [if_pos ⟨ha, by omega⟩, e]
theorem writes_row {H : Hp} {w : Value} {q : List Coln} {n : Int} (hw : (rowB H.t 2 w).bind colsL = some q) (hp : planE n q = 0) : ∃ v h1, cWrites [w] H = some (v, h1) ∧ RowIn H h1 v (dcF [2] q) := by
  obtain ⟨e, ha⟩ := comp_same hp (ks := [2]) (by simp)
  have hl := (planE_yes hp).1
  refine ⟨_, _, ?_, by have := rowK_in H (sortI (compF [2] q)); rwa [e] at this⟩
  simp only [cWrites, hw]
  rw [if_pos ⟨ha, by omega⟩, e]
theorem dcomps_row {H : Hp} {w k : Value} {q : List Coln} {ks : List Int} {n : Int} (hw : (rowB H.t 2 w).bind colsL = some q) (hk : (rowB H.t 1 k).bind intsL = some ks) (hp : planE n q = 0) (hl : ks.length ≤ 4) : ∃ v h1, cDComps [w, k] H = some (v, h1) ∧ RowIn H h1 v (dcF ks q) := by
  refine ⟨_, _, ?_, rowI_in H _⟩
  simp only [cDComps, hw, hk]
  rw [if_pos ⟨(planE_yes hp).1, hl⟩]
theorem parts_row {H : Hp} {w : Value} {q : List Coln} {n : Int} (hw : (rowB H.t 2 w).bind colsL = some q) (hp : planE n q = 0) : ∃ u h1, cParts [w] H = some (u, h1) ∧ ∃ v1 v2, u = .tuple ⟨[v1, v2, .bool (q.any fun x => x.k == 5)]⟩ ∧ RowIn H h1 v1 (dcF [1, 2] q) ∧ RowIn H h1 v2 (dcF [4] q) := by
  obtain ⟨e1, a1⟩ := comp_same hp (ks := [1, 2]) (by simp)
  obtain ⟨e2, a2⟩ := comp_same hp (ks := [4]) (by simp)
  have hl := (planE_yes hp).1
  have hc : cParts [w] H = some (.tuple ⟨[rowKV H.next (sortI (compF [1, 2] q)), rowKV (H.next + (rowKO (sortI (compF [1, 2] q))).length) (sortI (compF [4] q)), .bool (q.any fun x => x.k == 5)]⟩, ⟨news H.t H.next (rowKO (sortI (compF [1, 2] q)) ++ rowKO (sortI (compF [4] q))), H.next + (rowKO (sortI (compF [1, 2] q)) ++ rowKO (sortI (compF [4] q))).length⟩) := by
    simp only [cParts, hw]
    rw [if_pos ⟨a1, a2, by omega⟩]
  rw [e1, e2] at hc
  have h1 := rowK_in H (dcF [1, 2] q)
  have h2 := rowK_in ⟨news H.t H.next (rowKO (dcF [1, 2] q)), H.next + (rowKO (dcF [1, 2] q)).length⟩ (dcF [4] q)
  have hn : news (news H.t H.next (rowKO (dcF [1, 2] q))) (H.next + (rowKO (dcF [1, 2] q)).length) (rowKO (dcF [4] q)) = news H.t H.next (rowKO (dcF [1, 2] q) ++ rowKO (dcF [4] q)) := by
    cases dcF [1, 2] q with
    | nil => rfl
    | cons a r => rfl
  simp only [hn] at h2
  refine ⟨_, _, hc, _, _, rfl, ⟨?_, ?_, ?_, ?_⟩, ⟨?_, ?_, ?_, ?_⟩⟩
  · exact h1.later (h2 := ⟨news H.t H.next (rowKO (dcF [1, 2] q) ++ rowKO (dcF [4] q)), 0⟩) fun X hX => h2.old X hX
  · simp only; omega
  · exact fun X hX => (h2.old X (by simp only; omega)).trans (h1.old X hX)
  · intro X hX
    have := h1.lt X hX
    simp only [List.length_append] at this ⊢
    omega
  · exact h2.row
  · simp only; omega
  · exact fun X hX => (h2.old X (by simp only; omega)).trans (h1.old X hX)
  · intro X hX
    have := h2.lt X hX
    simp only [List.length_append] at this ⊢
    omega
theorem same_row {H : Hp} {v w : Value} {L : List Int} (hv : (rowB H.t 1 v).bind intsL = some L) (hw : (rowB H.t 1 w).bind intsL = some L) (hl : L.length ≤ 1000000) : cSame1 [v, w] H = some (.bool true, H) := by
  simp only [cSame1, hv, hw]
  rw [if_pos ⟨hl, hl⟩]
  simp
theorem dcF_small {n : Int} {q : List Coln} (hp : planE n q = 0) (ks : List Int) (hk : ks.length ≤ 4) : (dcF ks q).length ≤ 1000000 := by
  have h1 := dcF_len ks q
  have h2 := (planE_yes hp).1
  have : q.length * ks.length ≤ 16 * 4 := Nat.mul_le_mul h2 hk
  omega
theorem planMay_eq {H : Hp} {w : Value} {q : List Coln} {n : Int} (hw : (rowB H.t 2 w).bind colsL = some q) (hl : q.length ≤ 1000000) : cPlanMay [.int .i64 n, w] H = some (.int .i64 (planE n q), H) := by
  simp only [cPlanMay, hw]
  rw [if_pos hl]
theorem planCheck_eq {H : Hp} {w : Value} {q : List Coln} {a : Option Addr} {n c : Nat} (hw : (rowB H.t 2 w).bind colsL = some q) (hl : q.length ≤ 1000000) (hn : n ≤ 1000000) (hr : roomB H.t 37 w = true) : cPlanCheck [.slice a n c, w] H = some (.int .i64 (planE n q), H) := by
  simp only [cPlanCheck, hw]
  rw [if_pos ⟨hl, hn, hr⟩]
theorem tame_eq {H : Hp} {v : Value} {l : List Int} {n : Int} (hv : (rowB H.t 1 v).bind intsL = some l) (h0 : 0 ≤ n) (h1 : n ≤ 100) : cTame [v, .int .i64 n] H = some (.slice (some ⟨H.next, 0, none⟩) (tameP n l).length 0, ⟨H.t.set H.next (some (.cells (colsC (tameP n l)) 37 true)), H.next + 1⟩) := by
  simp only [cTame, hv]
  rw [if_pos ⟨h0, h1⟩]
  rfl
theorem _root_.Go.Sym.RowIn.step {k k2 : Hp} {ob : Option AObj} {v : Value} {L : List Int} (h : RowIn ⟨k.t.set k.next ob, k.next + 1⟩ k2 v L) : k.next ≤ k2.next ∧ ∀ X, X < k.next → k2.t.at_ X = k.t.at_ X :=
  ⟨by have := h.nx; simp only at this; omega, fun X hX => (h.old X (by simp only; omega)).trans (Tr.at_set_ne _ _ (by omega))⟩
theorem tame_row {H : Hp} {B : Nat} {p : List Coln} (hB : H.t.at_ B = some (.cells (colsC p) 37 true)) : (rowB H.t 2 (.slice (some ⟨B, 0, none⟩) p.length 0)).bind colsL = some p ∧ roomB H.t 37 (.slice (some ⟨B, 0, none⟩) p.length 0) = true := by
  constructor
  · simp only [rowB, hB]
    unfold readCells
    rw [List.drop_zero, has_le (by rw [colsC_len]; omega), List.take_of_length_le (by rw [colsC_len]; omega)]
    exact colsL_of _
  · simp only [roomB, hB]
    rfl
def cAwk17 : Sym.CallS := fun args s => match args with
  | [] => some (.bool true, s)
  | _ => none
def cPck : Sym.CallS := fun args s => match args with
  | [.int .i64 n, v, w] => match (rowB s.t 2 v).bind colsL, (rowB s.t 1 w).bind intsL with
    | some l, some ks => if roomB s.t 37 v = true then some (.bool true, s) else none
    | _, _ => none
  | _ => none
section
variable {G : Nat} {ν : Toks} {W : World} {may : Nat → Prop} {call : CallB}
set_option maxRecDepth 8000 in
set_option maxHeartbeats 2000000 in
theorem pck_ok (hc : CallOK Tryz.prog G (LBegin Tryz.prog ν LL W may) ν call) (haw : ∀ a h, call 25 a h = cAwk17 a h) (hck : ∀ a h, call 26 a h = cPlanCheck a h) (hpm : ∀ a h, call 20 a h = cPlanMay a h) (hpt : ∀ a h, call 27 a h = cParts a h) (hre : ∀ a h, call 28 a h = cReads a h) (hwr : ∀ a h, call 30 a h = cWrites a h) (hdc : ∀ a h, call 29 a h = cDComps a h) (hsa : ∀ a h, call 12 a h = cSame1 a h) (htm : ∀ a h, call 10 a h = cTame a h) : SpecOK Tryz.prog G (LBegin Tryz.prog ν LL W may) ν 7 cPck := by
  refine fun_ok rfl (by kernel_rfl) hc fun args s v h' e Lv hlv hG => ?_
  unfold cPck at e
  split at e <;> try (cases e; done)
  rename_i n0 v0 w0
  split at e <;> try (cases e; done)
  rename_i l ks hl hks
  split at e <;> try (cases e; done)
  rename_i hroom
  simp only [Option.some.injEq, Prod.mk.injEq] at e
  obtain ⟨rfl, rfl⟩ := e
  have ltv : ∀ X, occ X v0 = true → X < s.next := fun X h => hlv.lt _ (hlv.arg X (by simp [occL, h]))
  have ltw : ∀ X, occ X w0 = true → X < s.next := fun X h => hlv.lt _ (hlv.arg X (by simp [occL, h]))
  have hks2 : ∀ t : Tr AObj, (∀ X, X < s.next → t.at_ X = s.t.at_ X) → (rowB t 1 w0).bind intsL = some ks := fun t hf => by
    rw [rowB_frame (t := s.t) fun X h => hf X (ltw X h)]; exact hks
  obtain ⟨vs, hv, hvs⟩ := Option.bind_eq_some_iff.1 hl
  obtain rfl := colsL_eq hvs
  obtain ⟨a, n, c, rfl⟩ := row_slice hv
  have hlen : n = l.length := by
    obtain ⟨a', n', c', e1, e2, _⟩ := Go.Sym.row_at hv
    cases e1
    rw [colsC_len] at e2
    omega
  subst hlen
  obtain ⟨N, hN, hN65⟩ : ∃ N : Nat, (n0 % 256).tmod 66 = (N : Int) ∧ N < 66 := by
    refine ⟨((n0 % 256).tmod 66).toNat, ?_, ?_⟩ <;>
    · rw [Int.tmod_eq_emod_of_nonneg (by omega)]
      omega
  have d0 : ∀ H, cAwk17 [] H = some (.bool true, H) := fun _ => rfl
  have hdb := apb123
  simp only [Option.map] at hdb
  refine ⟨[], [], by cases s; rfl, 0, ?_⟩
  refine ⟨Tryz.f7, _, Tryz.func7, rfl, by simp [Tryz.f7], ?_⟩; rw [Tryz.ntmps7]
  by_cases h40 : 40 < l.length
  · have h40' : (40 : Int) < l.length := by omega
    repeat' (first | simp (disch := omega) only [go_sem, reduceIte, sliceB, h40', haw, d0, Tryz.results7] | (with_reducible refine w_chain0 ?_ ?_; focus (decide +kernel)) | (with_reducible refine condK_of _ _ ?_ ?_ <;> (intro hb; try simp only [decide_eq_true_eq, decide_eq_false_iff_not] at hb)) | (with_reducible refine gdK_of_f _ _ _ _ _ ?_ ?_ <;> (intro hb; try simp only [decide_eq_true_eq, decide_eq_false_iff_not] at hb)) | (with_reducible refine gdK_of_t _ _ _ _ _ ?_ ?_ <;> (intro hb; try simp only [decide_eq_true_eq, decide_eq_false_iff_not] at hb)) | (with_reducible refine gK_of_f _ _ _ ?_ ?_ <;> (intro hb; try simp only [decide_eq_true_eq, decide_eq_false_iff_not] at hb)) | (with_reducible refine gK_of_t _ _ _ ?_ ?_ <;> (intro hb; try simp only [decide_eq_true_eq, decide_eq_false_iff_not] at hb)))
    all_goals (refine ends_mk [] ?_ rfl ?_ ?_ ?_ ?_ <;> (try (intro X hX1 hX2; simp only [KeyIn, or_false, not_or, not_false_eq_true] at hX2)) <;> (try simp (disch := omega) only [go_sem, reduceIte, sliceB, AllMods, DistG, KeyIn, setL, news, not_false_eq_true, or_false, not_or, ne_eq, AllAt, AllObs, Dist, NotIn, kap_zero, kap_succ, kap_nil, inv_lt, inv_self, inv_add, ren_int, intsC_ren, and_true, and_self]) <;> (try omega))
  · have h40' : ¬ (40 : Int) < l.length := by omega
    repeat' (first | simp (disch := omega) only [go_sem, reduceIte, sliceB, h40', b_and8, hN] | (with_reducible refine w_chain0 ?_ ?_; focus (decide +kernel)) | (with_reducible refine condK_of _ _ ?_ ?_ <;> (intro hb; try simp only [decide_eq_true_eq, decide_eq_false_iff_not] at hb)) | (with_reducible refine gdK_of_f _ _ _ _ _ ?_ ?_ <;> (intro hb; try simp only [decide_eq_true_eq, decide_eq_false_iff_not] at hb)) | (with_reducible refine gdK_of_t _ _ _ _ _ ?_ ?_ <;> (intro hb; try simp only [decide_eq_true_eq, decide_eq_false_iff_not] at hb)) | (with_reducible refine gK_of_f _ _ _ ?_ ?_ <;> (intro hb; try simp only [decide_eq_true_eq, decide_eq_false_iff_not] at hb)) | (with_reducible refine gK_of_t _ _ _ ?_ ?_ <;> (intro hb; try simp only [decide_eq_true_eq, decide_eq_false_iff_not] at hb)))
    refine w_loop (fun mm T1 h => ∃ (i : Nat) (w : Value) (q : List Coln), i ≤ 2 ∧ mm = 2 - i ∧ Eva.look T1 0 = .int .i64 (N : Int) ∧ Eva.look T1 2 = w0 ∧ Eva.look T1 8 = .int .i64 (i : Int) ∧ Eva.look T1 7 = w ∧ (rowB h.t 2 w).bind colsL = some q ∧ q.length ≤ 40 ∧ roomB h.t 37 w = true ∧ (i = 2 → planE N q = 0) ∧ (∀ X, occ X w = true → X < h.next) ∧ s.next ≤ h.next ∧ ∀ X, X < s.next → h.t.at_ X = s.t.at_ X) 2 ?_ ?_
    · refine ⟨0, .slice a l.length c, l, by omega, by omega, ?_, ?_, ?_, ?_, hl, by omega, hroom, fun h => by omega, fun X h => ltv X h, Nat.le_refl _, fun _ _ => rfl⟩ <;> (simp (disch := omega) only [go_sem, reduceIte, sliceB, hN]) <;> rfl
    · rintro mm T1 h ⟨i, w, q, hi, hmm, t0, t2, t8, t7, hw, hq40, hrm, hlast, hwl, hnx, hold⟩
      by_cases hlt : i < 2
      · have hlt' : (i : Int) < 2 := by omega
        have hN6 : N ≤ 1000000 := by omega
        have hf : ∀ H : Hp, (∀ X, X < h.next → H.t.at_ X = h.t.at_ X) → (rowB H.t 2 w).bind colsL = some q ∧ roomB H.t 37 w = true := fun H hH => by
          refine ⟨by rw [rowB_frame (t := h.t) fun X hX => hH X (hwl X hX)]; exact hw, ?_⟩
          rw [← hrm]
          unfold roomB
          split
          · rw [hH _ (hwl _ (by simp [occ]))]
          · rfl
          · rfl
        have e1 : ∀ (H : Hp) (a : Option Addr) (c : Nat), (∀ X, X < h.next → H.t.at_ X = h.t.at_ X) → cPlanCheck [.slice a N c, w] H = some (.int .i64 (planE N q), H) := fun H a c hH => planCheck_eq (hf H hH).1 (by omega) hN6 (hf H hH).2
        have e2 : ∀ (H : Hp), (∀ X, X < h.next → H.t.at_ X = h.t.at_ X) → cPlanMay [.int .i64 N, w] H = some (.int .i64 (planE N q), H) := fun H hH => planMay_eq (hf H hH).1 (by omega)
        have e3 : ∀ (H : Hp), (∀ X, X < s.next → H.t.at_ X = s.t.at_ X) → cTame [w0, .int .i64 N] H = some (.slice (some ⟨H.next, 0, none⟩) (tameP N ks).length 0, ⟨H.t.set H.next (some (.cells (colsC (tameP N ks)) 37 true)), H.next + 1⟩) := fun H hH => tame_eq (hks2 H.t hH) (by omega) (by omega)
        obtain ⟨vq, hwq, hvq⟩ := Option.bind_eq_some_iff.1 hw
        obtain rfl := colsL_eq hvq
        obtain ⟨aq, nq, cq, rfl, hlq, hatq⟩ := Go.Sym.row_at hwq
        rw [colsC_len] at hlq
        obtain rfl : nq = q.length := by omega
        repeat' (first | simp (disch := omega) only [go_sem, reduceIte, sliceB, t0, t2, t7, t8, hlt', hdb, hck, hpm] | (with_reducible refine w_chain0 ?_ ?_; focus (decide +kernel)) | (with_reducible refine condK_of _ _ ?_ ?_ <;> (intro hb; try simp only [decide_eq_true_eq, decide_eq_false_iff_not] at hb)) | (with_reducible refine gdK_of_f _ _ _ _ _ ?_ ?_ <;> (intro hb; try simp only [decide_eq_true_eq, decide_eq_false_iff_not] at hb)) | (with_reducible refine gdK_of_t _ _ _ _ _ ?_ ?_ <;> (intro hb; try simp only [decide_eq_true_eq, decide_eq_false_iff_not] at hb)) | (with_reducible refine gK_of_f _ _ _ ?_ ?_ <;> (intro hb; try simp only [decide_eq_true_eq, decide_eq_false_iff_not] at hb)) | (with_reducible refine gK_of_t _ _ _ ?_ ?_ <;> (intro hb; try simp only [decide_eq_true_eq, decide_eq_false_iff_not] at hb)))
        refine ⟨_, e1 _ _ _ (fun X hX => ?_), ?_⟩
        · simp (disch := omega) only [go_sem, reduceIte, sliceB]
        repeat' (first | simp (disch := omega) only [go_sem, reduceIte, sliceB, t0, t2, t7, t8, hck, hpm] | (with_reducible refine w_chain0 ?_ ?_; focus (decide +kernel)) | (with_reducible refine condK_of _ _ ?_ ?_ <;> (intro hb; try simp only [decide_eq_true_eq, decide_eq_false_iff_not] at hb)) | (with_reducible refine gdK_of_f _ _ _ _ _ ?_ ?_ <;> (intro hb; try simp only [decide_eq_true_eq, decide_eq_false_iff_not] at hb)) | (with_reducible refine gdK_of_t _ _ _ _ _ ?_ ?_ <;> (intro hb; try simp only [decide_eq_true_eq, decide_eq_false_iff_not] at hb)) | (with_reducible refine gK_of_f _ _ _ ?_ ?_ <;> (intro hb; try simp only [decide_eq_true_eq, decide_eq_false_iff_not] at hb)) | (with_reducible refine gK_of_t _ _ _ ?_ ?_ <;> (intro hb; try simp only [decide_eq_true_eq, decide_eq_false_iff_not] at hb)))
        refine ⟨_, e2 _ (fun X hX => ?_), ?_⟩
        · simp (disch := omega) only [go_sem, reduceIte, sliceB]
        repeat' (first | simp (disch := omega) only [go_sem, reduceIte, sliceB, t0, t2, t7, t8, hck, hpm] | (with_reducible refine w_chain0 ?_ ?_; focus (decide +kernel)) | (with_reducible refine condK_of _ _ ?_ ?_ <;> (intro hb; try simp only [decide_eq_true_eq, decide_eq_false_iff_not] at hb)) | (with_reducible refine gdK_of_f _ _ _ _ _ ?_ ?_ <;> (intro hb; try simp only [decide_eq_true_eq, decide_eq_false_iff_not] at hb)) | (with_reducible refine gdK_of_t _ _ _ _ _ ?_ ?_ <;> (intro hb; try simp only [decide_eq_true_eq, decide_eq_false_iff_not] at hb)) | (with_reducible refine gK_of_f _ _ _ ?_ ?_ <;> (intro hb; try simp only [decide_eq_true_eq, decide_eq_false_iff_not] at hb)) | (with_reducible refine gK_of_t _ _ _ ?_ ?_ <;> (intro hb; try simp only [decide_eq_true_eq, decide_eq_false_iff_not] at hb)))
        refine ⟨_, e2 _ (fun X hX => ?_), ?_⟩
        · simp (disch := omega) only [go_sem, reduceIte, sliceB]
        by_cases hp : planE N q = 0
        · have heq : (planE N q = 0) = True := by simp [hp]
          repeat' (first | simp (disch := omega) only [go_sem, reduceIte, sliceB, t0, t2, t7, t8, hp, hpt] | (with_reducible refine w_chain0 ?_ ?_; focus (decide +kernel)) | (with_reducible refine condK_of _ _ ?_ ?_ <;> (intro hb; try simp only [decide_eq_true_eq, decide_eq_false_iff_not] at hb)) | (with_reducible refine gdK_of_f _ _ _ _ _ ?_ ?_ <;> (intro hb; try simp only [decide_eq_true_eq, decide_eq_false_iff_not] at hb)) | (with_reducible refine gdK_of_t _ _ _ _ _ ?_ ?_ <;> (intro hb; try simp only [decide_eq_true_eq, decide_eq_false_iff_not] at hb)) | (with_reducible refine gK_of_f _ _ _ ?_ ?_ <;> (intro hb; try simp only [decide_eq_true_eq, decide_eq_false_iff_not] at hb)) | (with_reducible refine gK_of_t _ _ _ ?_ ?_ <;> (intro hb; try simp only [decide_eq_true_eq, decide_eq_false_iff_not] at hb)))
          refine on_row (parts_row (n := N) (q := q) (hf _ (fun X hX => ?_)).1 hp) (fun u h1 hR => ?_)
          · simp (disch := omega) only [go_sem, reduceIte, sliceB]
          obtain ⟨v1, v2, rfl, hv1, hv2⟩ := hR
          obtain ⟨n1, o1⟩ := hv1.step
          repeat' (first | simp (disch := omega) only [go_sem, reduceIte, sliceB, t0, t2, t7, t8] | (with_reducible refine w_chain0 ?_ ?_; focus (decide +kernel)) | (with_reducible refine condK_of _ _ ?_ ?_ <;> (intro hb; try simp only [decide_eq_true_eq, decide_eq_false_iff_not] at hb)) | (with_reducible refine gdK_of_f _ _ _ _ _ ?_ ?_ <;> (intro hb; try simp only [decide_eq_true_eq, decide_eq_false_iff_not] at hb)) | (with_reducible refine gdK_of_t _ _ _ _ _ ?_ ?_ <;> (intro hb; try simp only [decide_eq_true_eq, decide_eq_false_iff_not] at hb)) | (with_reducible refine gK_of_f _ _ _ ?_ ?_ <;> (intro hb; try simp only [decide_eq_true_eq, decide_eq_false_iff_not] at hb)) | (with_reducible refine gK_of_t _ _ _ ?_ ?_ <;> (intro hb; try simp only [decide_eq_true_eq, decide_eq_false_iff_not] at hb)))
          refine w_loop (fun mm2 T2 h2 => ∃ (j : Nat), j ≤ q.length ∧ mm2 = q.length - j ∧ Eva.look T2 0 = .int .i64 (N : Int) ∧ Eva.look T2 2 = w0 ∧ Eva.look T2 7 = .slice aq q.length cq ∧ Eva.look T2 8 = .int .i64 (i : Int) ∧ Eva.look T2 9 = v1 ∧ Eva.look T2 10 = v2 ∧ Eva.look T2 11 = .bool (q.any fun x => x.k == 5) ∧ Eva.look T2 12 = .bool ((q.take j).any fun x => x.k == 5) ∧ Eva.look T2 13 = .int .i64 (j : Int) ∧ h1.next ≤ h2.next ∧ ∀ X, X < h1.next → h2.t.at_ X = h1.t.at_ X) q.length ?_ ?_
          · refine ⟨0, by omega, by omega, ?_, ?_, ?_, ?_, ?_, ?_, ?_, ?_, ?_, Nat.le_refl _, fun _ _ => rfl⟩ <;> first | ((simp (disch := omega) only [go_sem, reduceIte, sliceB, t0, t2, t7, t8]); done) | ((simp (disch := omega) only [go_sem, reduceIte, sliceB, t0, t2, t7, t8]); rfl)
          · rintro mm2 T2 h2 ⟨j, hj, hmm2, u0, u2, u7, u8, u9, u10, u11, u12, u13, n2, o2⟩
            by_cases hjl : j < q.length
            · obtain ⟨x, hx⟩ : ∃ x, q[j]? = some x := ⟨_, List.getElem?_eq_getElem hjl⟩
              obtain ⟨B, o, cs, ty, rw_, rfl, hB, g1, g2⟩ := hatq j hjl
              rw [colsC_at hx] at g2
              obtain ⟨y1, y2⟩ := two_at g2
              have lB := hwl B (by simp [occ])
              have oB := (o2 B (by omega)).trans ((o1 B lB).trans hB)
              have htk : ((q.take (j + 1)).any fun x => x.k == 5) = ((q.take j).any (fun x => x.k == 5) || x.k == 5) := by
                rw [List.take_add_one, hx]
                simp [List.any_append]
              cases ha : (q.take j).any fun x => x.k == 5 with
              | true =>
                rw [ha] at u12 htk
                repeat' (first | simp (disch := omega) only [go_sem, reduceIte, sliceB, u0, u2, u7, u8, u9, u10, u11, u12, u13, undef] | (with_reducible refine w_chain0 ?_ ?_; focus (decide +kernel)) | (with_reducible refine condK_of _ _ ?_ ?_ <;> (intro hb; try simp only [decide_eq_true_eq, decide_eq_false_iff_not] at hb)) | (with_reducible refine gdK_of_f _ _ _ _ _ ?_ ?_ <;> (intro hb; try simp only [decide_eq_true_eq, decide_eq_false_iff_not] at hb)) | (with_reducible refine gdK_of_t _ _ _ _ _ ?_ ?_ <;> (intro hb; try simp only [decide_eq_true_eq, decide_eq_false_iff_not] at hb)) | (with_reducible refine gK_of_f _ _ _ ?_ ?_ <;> (intro hb; try simp only [decide_eq_true_eq, decide_eq_false_iff_not] at hb)) | (with_reducible refine gK_of_t _ _ _ ?_ ?_ <;> (intro hb; try simp only [decide_eq_true_eq, decide_eq_false_iff_not] at hb)))
                exact ⟨q.length - (j + 1), by omega, j + 1, by omega, rfl, by rw [htk]; rfl, by simp, by omega, o2⟩
              | false =>
                rw [ha] at u12 htk
                repeat' (first | simp (disch := omega) only [go_sem, reduceIte, sliceB, u0, u2, u7, u8, u9, u10, u11, u12, u13, oB, y1, y2, g1, g2, undef, Int.toNat_natCast] | (with_reducible refine w_chain0 ?_ ?_; focus (decide +kernel)) | (with_reducible refine condK_of _ _ ?_ ?_ <;> (intro hb; try simp only [decide_eq_true_eq, decide_eq_false_iff_not] at hb)) | (with_reducible refine gdK_of_f _ _ _ _ _ ?_ ?_ <;> (intro hb; try simp only [decide_eq_true_eq, decide_eq_false_iff_not] at hb)) | (with_reducible refine gdK_of_t _ _ _ _ _ ?_ ?_ <;> (intro hb; try simp only [decide_eq_true_eq, decide_eq_false_iff_not] at hb)) | (with_reducible refine gK_of_f _ _ _ ?_ ?_ <;> (intro hb; try simp only [decide_eq_true_eq, decide_eq_false_iff_not] at hb)) | (with_reducible refine gK_of_t _ _ _ ?_ ?_ <;> (intro hb; try simp only [decide_eq_true_eq, decide_eq_false_iff_not] at hb)))
                refine ⟨q.length - (j + 1), by omega, j + 1, by omega, rfl, ?_, by simp, by omega, o2⟩
                rw [htk]
                by_cases h5 : x.k = 5 <;> simp [h5]
            · obtain rfl : j = q.length := by omega
              rw [List.take_length] at u12
              have fr2 : ∀ X, X < h.next → h2.t.at_ X = h.t.at_ X := fun X hX => (o2 X (by omega)).trans (o1 X hX)
              have hnn : h.next ≤ h2.next := by omega
              have c0 : ∀ H : Hp, (∀ X, X < h.next → H.t.at_ X = h.t.at_ X) → (rowB H.t 2 (.slice aq q.length cq)).bind colsL = some q := fun H hH => (hf H hH).1
              have fh2 := fr2
              repeat' (first | simp (disch := omega) only [go_sem, reduceIte, sliceB, u0, u2, u7, u8, u9, u10, u11, u12, u13, hre] | (with_reducible refine w_chain0 ?_ ?_; focus (decide +kernel)) | (with_reducible refine condK_of _ _ ?_ ?_ <;> (intro hb; try simp only [decide_eq_true_eq, decide_eq_false_iff_not] at hb)) | (with_reducible refine gdK_of_f _ _ _ _ _ ?_ ?_ <;> (intro hb; try simp only [decide_eq_true_eq, decide_eq_false_iff_not] at hb)) | (with_reducible refine gdK_of_t _ _ _ _ _ ?_ ?_ <;> (intro hb; try simp only [decide_eq_true_eq, decide_eq_false_iff_not] at hb)) | (with_reducible refine gK_of_f _ _ _ ?_ ?_ <;> (intro hb; try simp only [decide_eq_true_eq, decide_eq_false_iff_not] at hb)) | (with_reducible refine gK_of_t _ _ _ ?_ ?_ <;> (intro hb; try simp only [decide_eq_true_eq, decide_eq_false_iff_not] at hb)))
              refine on_row (reads_row (n := N) (q := q) (c0 _ fr2) hp) (fun r3 k3 hr3 => ?_)
              have m3 : h2.next ≤ k3.next := hr3.nx
              have fk3 : ∀ X, X < h.next → k3.t.at_ X = h.t.at_ X := fun X hX => (hr3.old X (by omega)).trans (fr2 X hX)
              repeat' (first | simp (disch := omega) only [go_sem, reduceIte, sliceB, u0, u2, u7, u8, u9, u10, u11, u12, u13, undef, hdc] | (with_reducible refine w_chain0 ?_ ?_; focus (decide +kernel)) | (with_reducible refine condK_of _ _ ?_ ?_ <;> (intro hb; try simp only [decide_eq_true_eq, decide_eq_false_iff_not] at hb)) | (with_reducible refine gdK_of_f _ _ _ _ _ ?_ ?_ <;> (intro hb; try simp only [decide_eq_true_eq, decide_eq_false_iff_not] at hb)) | (with_reducible refine gdK_of_t _ _ _ _ _ ?_ ?_ <;> (intro hb; try simp only [decide_eq_true_eq, decide_eq_false_iff_not] at hb)) | (with_reducible refine gK_of_f _ _ _ ?_ ?_ <;> (intro hb; try simp only [decide_eq_true_eq, decide_eq_false_iff_not] at hb)) | (with_reducible refine gK_of_t _ _ _ ?_ ?_ <;> (intro hb; try simp only [decide_eq_true_eq, decide_eq_false_iff_not] at hb)))
              refine on_row (dcomps_row (n := N) (q := q) (ks := [1, 3, 4]) (c0 _ fun X hX => ?_) (row_ints (Tr.at_set_same _ _ _) rfl) hp (by simp)) (fun r4 k4 hr4 => ?_)
              · simp (disch := omega) only [go_sem, reduceIte, sliceB]
                exact fk3 X hX
              obtain ⟨mk4, pk4⟩ := hr4.step
              have fk4 : ∀ X, X < h.next → k4.t.at_ X = h.t.at_ X := fun X hX => (pk4 X (by omega)).trans (fk3 X hX)
              repeat' (first | simp (disch := omega) only [go_sem, reduceIte, sliceB, u0, u2, u7, u8, u9, u10, u11, u12, u13, undef, hsa] | (with_reducible refine w_chain0 ?_ ?_; focus (decide +kernel)) | (with_reducible refine condK_of _ _ ?_ ?_ <;> (intro hb; try simp only [decide_eq_true_eq, decide_eq_false_iff_not] at hb)) | (with_reducible refine gdK_of_f _ _ _ _ _ ?_ ?_ <;> (intro hb; try simp only [decide_eq_true_eq, decide_eq_false_iff_not] at hb)) | (with_reducible refine gdK_of_t _ _ _ _ _ ?_ ?_ <;> (intro hb; try simp only [decide_eq_true_eq, decide_eq_false_iff_not] at hb)) | (with_reducible refine gK_of_f _ _ _ ?_ ?_ <;> (intro hb; try simp only [decide_eq_true_eq, decide_eq_false_iff_not] at hb)) | (with_reducible refine gK_of_t _ _ _ ?_ ?_ <;> (intro hb; try simp only [decide_eq_true_eq, decide_eq_false_iff_not] at hb)))
              refine ⟨_, same_row (L := dcF [1, 3, 4] q) (hr3.later pk4) hr4.row (dcF_small hp _ (by simp)), ?_⟩
              repeat' (first | simp (disch := omega) only [go_sem, reduceIte, sliceB, u0, u2, u7, u8, u9, u10, u11, u12, u13, undef, hwr] | (with_reducible refine w_chain0 ?_ ?_; focus (decide +kernel)) | (with_reducible refine condK_of _ _ ?_ ?_ <;> (intro hb; try simp only [decide_eq_true_eq, decide_eq_false_iff_not] at hb)) | (with_reducible refine gdK_of_f _ _ _ _ _ ?_ ?_ <;> (intro hb; try simp only [decide_eq_true_eq, decide_eq_false_iff_not] at hb)) | (with_reducible refine gdK_of_t _ _ _ _ _ ?_ ?_ <;> (intro hb; try simp only [decide_eq_true_eq, decide_eq_false_iff_not] at hb)) | (with_reducible refine gK_of_f _ _ _ ?_ ?_ <;> (intro hb; try simp only [decide_eq_true_eq, decide_eq_false_iff_not] at hb)) | (with_reducible refine gK_of_t _ _ _ ?_ ?_ <;> (intro hb; try simp only [decide_eq_true_eq, decide_eq_false_iff_not] at hb)))
              refine on_row (writes_row (n := N) (q := q) (c0 _ fk4) hp) (fun r5 k5 hr5 => ?_)
              have m5 : k4.next ≤ k5.next := hr5.nx
              have fk5 : ∀ X, X < h.next → k5.t.at_ X = h.t.at_ X := fun X hX => (hr5.old X (by omega)).trans (fk4 X hX)
              repeat' (first | simp (disch := omega) only [go_sem, reduceIte, sliceB, u0, u2, u7, u8, u9, u10, u11, u12, u13, undef, hdc] | (with_reducible refine w_chain0 ?_ ?_; focus (decide +kernel)) | (with_reducible refine condK_of _ _ ?_ ?_ <;> (intro hb; try simp only [decide_eq_true_eq, decide_eq_false_iff_not] at hb)) | (with_reducible refine gdK_of_f _ _ _ _ _ ?_ ?_ <;> (intro hb; try simp only [decide_eq_true_eq, decide_eq_false_iff_not] at hb)) | (with_reducible refine gdK_of_t _ _ _ _ _ ?_ ?_ <;> (intro hb; try simp only [decide_eq_true_eq, decide_eq_false_iff_not] at hb)) | (with_reducible refine gK_of_f _ _ _ ?_ ?_ <;> (intro hb; try simp only [decide_eq_true_eq, decide_eq_false_iff_not] at hb)) | (with_reducible refine gK_of_t _ _ _ ?_ ?_ <;> (intro hb; try simp only [decide_eq_true_eq, decide_eq_false_iff_not] at hb)))
              refine on_row (dcomps_row (n := N) (q := q) (ks := [2]) (c0 _ fun X hX => ?_) (row_ints (Tr.at_set_same _ _ _) rfl) hp (by simp)) (fun r6 k6 hr6 => ?_)
              · simp (disch := omega) only [go_sem, reduceIte, sliceB]
                exact fk5 X hX
              obtain ⟨mk6, pk6⟩ := hr6.step
              have fk6 : ∀ X, X < h.next → k6.t.at_ X = h.t.at_ X := fun X hX => (pk6 X (by omega)).trans (fk5 X hX)
              repeat' (first | simp (disch := omega) only [go_sem, reduceIte, sliceB, u0, u2, u7, u8, u9, u10, u11, u12, u13, undef, hsa] | (with_reducible refine w_chain0 ?_ ?_; focus (decide +kernel)) | (with_reducible refine condK_of _ _ ?_ ?_ <;> (intro hb; try simp only [decide_eq_true_eq, decide_eq_false_iff_not] at hb)) | (with_reducible refine gdK_of_f _ _ _ _ _ ?_ ?_ <;> (intro hb; try simp only [decide_eq_true_eq, decide_eq_false_iff_not] at hb)) | (with_reducible refine gdK_of_t _ _ _ _ _ ?_ ?_ <;> (intro hb; try simp only [decide_eq_true_eq, decide_eq_false_iff_not] at hb)) | (with_reducible refine gK_of_f _ _ _ ?_ ?_ <;> (intro hb; try simp only [decide_eq_true_eq, decide_eq_false_iff_not] at hb)) | (with_reducible refine gK_of_t _ _ _ ?_ ?_ <;> (intro hb; try simp only [decide_eq_true_eq, decide_eq_false_iff_not] at hb)))
              refine ⟨_, same_row (L := dcF [2] q) (hr5.later pk6) hr6.row (dcF_small hp _ (by simp)), ?_⟩
              have z1 : ∀ X, X < h1.next → k6.t.at_ X = h1.t.at_ X := fun X hX => (pk6 X (by omega)).trans ((hr5.old X (by omega)).trans ((pk4 X (by omega)).trans ((hr3.old X (by omega)).trans (o2 X hX))))
              repeat' (first | simp (disch := omega) only [go_sem, reduceIte, sliceB, u0, u2, u7, u8, u9, u10, u11, u12, u13, undef, hdc] | (with_reducible refine w_chain0 ?_ ?_; focus (decide +kernel)) | (with_reducible refine condK_of _ _ ?_ ?_ <;> (intro hb; try simp only [decide_eq_true_eq, decide_eq_false_iff_not] at hb)) | (with_reducible refine gdK_of_f _ _ _ _ _ ?_ ?_ <;> (intro hb; try simp only [decide_eq_true_eq, decide_eq_false_iff_not] at hb)) | (with_reducible refine gdK_of_t _ _ _ _ _ ?_ ?_ <;> (intro hb; try simp only [decide_eq_true_eq, decide_eq_false_iff_not] at hb)) | (with_reducible refine gK_of_f _ _ _ ?_ ?_ <;> (intro hb; try simp only [decide_eq_true_eq, decide_eq_false_iff_not] at hb)) | (with_reducible refine gK_of_t _ _ _ ?_ ?_ <;> (intro hb; try simp only [decide_eq_true_eq, decide_eq_false_iff_not] at hb)))
              refine on_row (dcomps_row (n := N) (q := q) (ks := [1, 2]) (c0 _ fun X hX => ?_) (row_ints (Tr.at_set_same _ _ _) rfl) hp (by simp)) (fun r7 k7 hr7 => ?_)
              · simp (disch := omega) only [go_sem, reduceIte, sliceB]
                exact fk6 X hX
              obtain ⟨mk7, pk7⟩ := hr7.step
              have fk7 : ∀ X, X < h.next → k7.t.at_ X = h.t.at_ X := fun X hX => (pk7 X (by omega)).trans (fk6 X hX)
              repeat' (first | simp (disch := omega) only [go_sem, reduceIte, sliceB, u0, u2, u7, u8, u9, u10, u11, u12, u13, undef, hsa] | (with_reducible refine w_chain0 ?_ ?_; focus (decide +kernel)) | (with_reducible refine condK_of _ _ ?_ ?_ <;> (intro hb; try simp only [decide_eq_true_eq, decide_eq_false_iff_not] at hb)) | (with_reducible refine gdK_of_f _ _ _ _ _ ?_ ?_ <;> (intro hb; try simp only [decide_eq_true_eq, decide_eq_false_iff_not] at hb)) | (with_reducible refine gdK_of_t _ _ _ _ _ ?_ ?_ <;> (intro hb; try simp only [decide_eq_true_eq, decide_eq_false_iff_not] at hb)) | (with_reducible refine gK_of_f _ _ _ ?_ ?_ <;> (intro hb; try simp only [decide_eq_true_eq, decide_eq_false_iff_not] at hb)) | (with_reducible refine gK_of_t _ _ _ ?_ ?_ <;> (intro hb; try simp only [decide_eq_true_eq, decide_eq_false_iff_not] at hb)))
              refine ⟨_, same_row (L := dcF [1, 2] q) (hv1.later fun X hX => (pk7 X (by omega)).trans (z1 X hX)) hr7.row (dcF_small hp _ (by simp)), ?_⟩
              repeat' (first | simp (disch := omega) only [go_sem, reduceIte, sliceB, u0, u2, u7, u8, u9, u10, u11, u12, u13, undef, hdc] | (with_reducible refine w_chain0 ?_ ?_; focus (decide +kernel)) | (with_reducible refine condK_of _ _ ?_ ?_ <;> (intro hb; try simp only [decide_eq_true_eq, decide_eq_false_iff_not] at hb)) | (with_reducible refine gdK_of_f _ _ _ _ _ ?_ ?_ <;> (intro hb; try simp only [decide_eq_true_eq, decide_eq_false_iff_not] at hb)) | (with_reducible refine gdK_of_t _ _ _ _ _ ?_ ?_ <;> (intro hb; try simp only [decide_eq_true_eq, decide_eq_false_iff_not] at hb)) | (with_reducible refine gK_of_f _ _ _ ?_ ?_ <;> (intro hb; try simp only [decide_eq_true_eq, decide_eq_false_iff_not] at hb)) | (with_reducible refine gK_of_t _ _ _ ?_ ?_ <;> (intro hb; try simp only [decide_eq_true_eq, decide_eq_false_iff_not] at hb)))
              refine on_row (dcomps_row (n := N) (q := q) (ks := [4]) (c0 _ fun X hX => ?_) (row_ints (Tr.at_set_same _ _ _) rfl) hp (by simp)) (fun r8 k8 hr8 => ?_)
              · simp (disch := omega) only [go_sem, reduceIte, sliceB]
                exact fk7 X hX
              obtain ⟨mk8, pk8⟩ := hr8.step
              have fk8 : ∀ X, X < h.next → k8.t.at_ X = h.t.at_ X := fun X hX => (pk8 X (by omega)).trans (fk7 X hX)
              repeat' (first | simp (disch := omega) only [go_sem, reduceIte, sliceB, u0, u2, u7, u8, u9, u10, u11, u12, u13, undef, hsa] | (with_reducible refine w_chain0 ?_ ?_; focus (decide +kernel)) | (with_reducible refine condK_of _ _ ?_ ?_ <;> (intro hb; try simp only [decide_eq_true_eq, decide_eq_false_iff_not] at hb)) | (with_reducible refine gdK_of_f _ _ _ _ _ ?_ ?_ <;> (intro hb; try simp only [decide_eq_true_eq, decide_eq_false_iff_not] at hb)) | (with_reducible refine gdK_of_t _ _ _ _ _ ?_ ?_ <;> (intro hb; try simp only [decide_eq_true_eq, decide_eq_false_iff_not] at hb)) | (with_reducible refine gK_of_f _ _ _ ?_ ?_ <;> (intro hb; try simp only [decide_eq_true_eq, decide_eq_false_iff_not] at hb)) | (with_reducible refine gK_of_t _ _ _ ?_ ?_ <;> (intro hb; try simp only [decide_eq_true_eq, decide_eq_false_iff_not] at hb)))
              refine ⟨_, same_row (L := dcF [4] q) (hv2.later fun X hX => (pk8 X (by omega)).trans ((pk7 X (by omega)).trans (z1 X hX))) hr8.row (dcF_small hp _ (by simp)), ?_⟩
              generalize (q.any fun x => x.k == 5) = bb at *
              have hnb : ∀ (H : Tr AObj) (ox oy : Operand), binB Tryz.prog H .neq 4 ox oy (.bool bb) (.bool bb) = some (.bool false) := fun H ox oy => by
                rw [b_neqB und4]
                cases bb <;> rfl
              repeat' (first | simp (disch := omega) only [go_sem, reduceIte, sliceB, u0, u2, u7, u8, u9, u10, u11, u12, u13, undef, htm, hnb] | (with_reducible refine w_chain0 ?_ ?_; focus (decide +kernel)) | (with_reducible refine condK_of _ _ ?_ ?_ <;> (intro hb; try simp only [decide_eq_true_eq, decide_eq_false_iff_not] at hb)) | (with_reducible refine gdK_of_f _ _ _ _ _ ?_ ?_ <;> (intro hb; try simp only [decide_eq_true_eq, decide_eq_false_iff_not] at hb)) | (with_reducible refine gdK_of_t _ _ _ _ _ ?_ ?_ <;> (intro hb; try simp only [decide_eq_true_eq, decide_eq_false_iff_not] at hb)) | (with_reducible refine gK_of_f _ _ _ ?_ ?_ <;> (intro hb; try simp only [decide_eq_true_eq, decide_eq_false_iff_not] at hb)) | (with_reducible refine gK_of_t _ _ _ ?_ ?_ <;> (intro hb; try simp only [decide_eq_true_eq, decide_eq_false_iff_not] at hb)))
              have hs8 : ∀ X, X < s.next → k8.t.at_ X = s.t.at_ X := fun X hX => (fk8 X (by omega)).trans (hold X hX)
              refine ⟨_, e3 _ hs8, ?_⟩
              repeat' (first | simp (disch := omega) only [go_sem, reduceIte, sliceB, u0, u2, u7, u8, u9, u10, u11, u12, u13] | (with_reducible refine w_chain0 ?_ ?_; focus (decide +kernel)) | (with_reducible refine condK_of _ _ ?_ ?_ <;> (intro hb; try simp only [decide_eq_true_eq, decide_eq_false_iff_not] at hb)) | (with_reducible refine gdK_of_f _ _ _ _ _ ?_ ?_ <;> (intro hb; try simp only [decide_eq_true_eq, decide_eq_false_iff_not] at hb)) | (with_reducible refine gdK_of_t _ _ _ _ _ ?_ ?_ <;> (intro hb; try simp only [decide_eq_true_eq, decide_eq_false_iff_not] at hb)) | (with_reducible refine gK_of_f _ _ _ ?_ ?_ <;> (intro hb; try simp only [decide_eq_true_eq, decide_eq_false_iff_not] at hb)) | (with_reducible refine gK_of_t _ _ _ ?_ ?_ <;> (intro hb; try simp only [decide_eq_true_eq, decide_eq_false_iff_not] at hb)))
              have hQ := tame_row (p := tameP N ks) (B := k8.next) (H := ⟨k8.t.set k8.next (some (.cells (colsC (tameP N ks)) 37 true)), 0⟩) (Tr.at_set_same _ _ _)
              refine ⟨2 - (i + 1), by omega, i + 1, _, tameP N ks, by omega, rfl, by simp, rfl, hQ.1, by have := (tameP_len (m := N) (by omega) ks).1; omega, hQ.2, fun _ => tameP_may (by omega) ks, fun X hX => by have := occ_sl hX; omega, by omega, fun X hX => ?_⟩
              simp (disch := omega) only [go_sem, reduceIte, sliceB]
              exact hs8 X hX
        · repeat' (first | simp (disch := omega) only [go_sem, reduceIte, sliceB, t0, t2, t7, t8, hp, htm] | (with_reducible refine w_chain0 ?_ ?_; focus (decide +kernel)) | (with_reducible refine condK_of _ _ ?_ ?_ <;> (intro hb; try simp only [decide_eq_true_eq, decide_eq_false_iff_not] at hb)) | (with_reducible refine gdK_of_f _ _ _ _ _ ?_ ?_ <;> (intro hb; try simp only [decide_eq_true_eq, decide_eq_false_iff_not] at hb)) | (with_reducible refine gdK_of_t _ _ _ _ _ ?_ ?_ <;> (intro hb; try simp only [decide_eq_true_eq, decide_eq_false_iff_not] at hb)) | (with_reducible refine gK_of_f _ _ _ ?_ ?_ <;> (intro hb; try simp only [decide_eq_true_eq, decide_eq_false_iff_not] at hb)) | (with_reducible refine gK_of_t _ _ _ ?_ ?_ <;> (intro hb; try simp only [decide_eq_true_eq, decide_eq_false_iff_not] at hb)))
          refine ⟨_, e3 _ (fun X hX => ?_), ?_⟩
          · simp (disch := omega) only [go_sem, reduceIte, sliceB]
            exact hold X hX
          repeat' (first | simp (disch := omega) only [go_sem, reduceIte, sliceB, t0, t2, t7, t8] | (with_reducible refine w_chain0 ?_ ?_; focus (decide +kernel)) | (with_reducible refine condK_of _ _ ?_ ?_ <;> (intro hb; try simp only [decide_eq_true_eq, decide_eq_false_iff_not] at hb)) | (with_reducible refine gdK_of_f _ _ _ _ _ ?_ ?_ <;> (intro hb; try simp only [decide_eq_true_eq, decide_eq_false_iff_not] at hb)) | (with_reducible refine gdK_of_t _ _ _ _ _ ?_ ?_ <;> (intro hb; try simp only [decide_eq_true_eq, decide_eq_false_iff_not] at hb)) | (with_reducible refine gK_of_f _ _ _ ?_ ?_ <;> (intro hb; try simp only [decide_eq_true_eq, decide_eq_false_iff_not] at hb)) | (with_reducible refine gK_of_t _ _ _ ?_ ?_ <;> (intro hb; try simp only [decide_eq_true_eq, decide_eq_false_iff_not] at hb)))
          have hQ := tame_row (p := tameP N ks) (B := h.next + 1) (H := ⟨(h.t.set h.next (some (.cells (rep [.int .i64 0, .int .i64 0, .int .i64 0] N) 123 true))).set (h.next + 1) (some (.cells (colsC (tameP N ks)) 37 true)), 0⟩) (Tr.at_set_same _ _ _)
          refine ⟨2 - (i + 1), by omega, i + 1, _, tameP N ks, by omega, rfl, by simp, rfl, hQ.1, by have := (tameP_len (m := N) (by omega) ks).1; omega, hQ.2, fun _ => tameP_may (by omega) ks, fun X hX => by have := occ_sl hX; omega, by omega, fun X hX => ?_⟩
          simp (disch := omega) only [go_sem, reduceIte, sliceB]
          exact hold X hX
      · obtain rfl : i = 2 := by omega
        have hp := hlast rfl
        repeat' (first | simp (disch := omega) only [go_sem, reduceIte, sliceB, t0, t2, t7, t8, hpm] | (with_reducible refine w_chain0 ?_ ?_; focus (decide +kernel)) | (with_reducible refine condK_of _ _ ?_ ?_ <;> (intro hb; try simp only [decide_eq_true_eq, decide_eq_false_iff_not] at hb)) | (with_reducible refine gdK_of_f _ _ _ _ _ ?_ ?_ <;> (intro hb; try simp only [decide_eq_true_eq, decide_eq_false_iff_not] at hb)) | (with_reducible refine gdK_of_t _ _ _ _ _ ?_ ?_ <;> (intro hb; try simp only [decide_eq_true_eq, decide_eq_false_iff_not] at hb)) | (with_reducible refine gK_of_f _ _ _ ?_ ?_ <;> (intro hb; try simp only [decide_eq_true_eq, decide_eq_false_iff_not] at hb)) | (with_reducible refine gK_of_t _ _ _ ?_ ?_ <;> (intro hb; try simp only [decide_eq_true_eq, decide_eq_false_iff_not] at hb)))
        refine ⟨_, planMay_eq hw (by omega), ?_⟩
        repeat' (first | simp (disch := omega) only [go_sem, reduceIte, sliceB, t0, t2, t7, t8, hp, haw, d0, Tryz.results7] | (with_reducible refine w_chain0 ?_ ?_; focus (decide +kernel)) | (with_reducible refine condK_of _ _ ?_ ?_ <;> (intro hb; try simp only [decide_eq_true_eq, decide_eq_false_iff_not] at hb)) | (with_reducible refine gdK_of_f _ _ _ _ _ ?_ ?_ <;> (intro hb; try simp only [decide_eq_true_eq, decide_eq_false_iff_not] at hb)) | (with_reducible refine gdK_of_t _ _ _ _ _ ?_ ?_ <;> (intro hb; try simp only [decide_eq_true_eq, decide_eq_false_iff_not] at hb)) | (with_reducible refine gK_of_f _ _ _ ?_ ?_ <;> (intro hb; try simp only [decide_eq_true_eq, decide_eq_false_iff_not] at hb)) | (with_reducible refine gK_of_t _ _ _ ?_ ?_ <;> (intro hb; try simp only [decide_eq_true_eq, decide_eq_false_iff_not] at hb)))
        all_goals (refine ends_mk [] ?_ rfl ?_ ?_ ?_ ?_ <;> (try (intro X hX1 hX2; simp only [KeyIn, or_false, not_or, not_false_eq_true] at hX2)) <;> (try simp (disch := omega) only [go_sem, reduceIte, sliceB, AllMods, DistG, KeyIn, setL, news, not_false_eq_true, or_false, not_or, ne_eq, AllAt, AllObs, Dist, NotIn, kap_zero, kap_succ, kap_nil, inv_lt, inv_self, inv_add, ren_int, intsC_ren, and_true, and_self]) <;> (try omega))
        exact hold X hX1
end
end Go.Proofs.YtmcigeebeoobdaaGreatDoor
end

/-
  Contracts of package plan: check, Check.
-/
section
namespace Go.Viv
open Go.Lib Go.RowKit
theorem colE_1 {n : Int} {k c : Int} {a : List Coln} (h : k < 1 ∨ 5 < k ∨ (k = 5 ∧ c ≠ 0)) : colE n ⟨k, c⟩ a = 1 := by unfold colE; rw [if_pos h]
theorem colE_11 {n : Int} {k c : Int} {a : List Coln} (h1 : 1 ≤ k) (h5 : k ≤ 4) (h : c < 0 ∨ n ≤ c) : colE n ⟨k, c⟩ a = 11 := by
  unfold colE; rw [if_neg (by simp; omega), if_pos (by simp; omega)]
theorem colE_more {n : Int} {k c : Int} {a : List Coln} (h1 : 1 ≤ k) (h5 : k ≤ 4) (h : 0 ≤ c) (hn : c < n) : colE n ⟨k, c⟩ a = if a.any (fun x => ((x.k == 5) == false) && x.c == c) then 15 else 0 := by
  unfold colE; rw [if_neg (by simp; omega), if_neg (by simp; omega)]
  have e : (fun x => twiceB x ⟨k, c⟩) = (fun x => ((x.k == 5) == false) && x.c == c) := by
    funext x
    unfold twiceB
    rw [show (k == 5) = false from beq_eq_false_iff_ne.2 (by omega)]
  rw [e]
theorem colE_five {n : Int} {a : List Coln} : colE n ⟨5, 0⟩ a = if a.any (fun x => ((x.k == 5) == true) && x.c == 0) then 15 else 0 := by
  unfold colE; rw [if_neg (by simp), if_neg (by simp)]
  rfl
end Go.Viv
namespace Go.Proofs.YtmcigeebeoobdaaGreatDoor
open Go.RowKit Go.Viv
theorem enter34 (args : Array Value) (W : World) : (callFunc 107 args).run Tryz.prog W = .ok (.enter 107 args) W := by kernel_rfl
theorem enter26 (args : Array Value) (W : World) : (callFunc 65 args).run Tryz.prog W = .ok (.enter 65 args) W := by kernel_rfl
/-- What the closure asks, of a column ahead. -/
theorem twice_row (all : Bool) (y : Coln) (l : List Coln) (A : Option Addr) (cap B C : Nat) (w : World) (hr : RowC w A (l.flatMap cellsK)) (hn : l.length ≤ cap) (hc : cap ≤ 9223372036854775807) (ha : w.cell? ⟨B, 0, none⟩ = some (.bool all)) (hy : w.cell? ⟨C, 1, none⟩ = some (.int .i64 y.c)) :
    Calls Tryz.prog 64 #[.slice A l.length cap, .func (.func 107) #[] #[.pointer (some ⟨B, 0, none⟩), .pointer (some ⟨C, 0, none⟩)]] w fun e w' => e = .returned (.bool (l.any fun x => ((x.k == 5) == all) && x.c == y.c)) ∧ Fr (fun _ => False) w w' :=
  cont_col _ _ _ l A cap w hr hn hc enter34 (fun W x hW => twice_any x y all B C W (cell_fr ha hW) (cell_fr hy hW))
set_option maxRecDepth 100000 in
set_option maxHeartbeats 1000000 in
theorem colcheck_any (n : Nat) (D : Option Addr) (dc : Nat) (y : Coln) (l : List Coln) (A : Option Addr) (cap : Nat) (w : World) (hr : RowC w A (l.flatMap cellsK)) (hn : l.length ≤ cap) (hc : cap ≤ 9223372036854775807) (_hm : n ≤ 9223372036854775807) :
    Calls Tryz.prog 63 #[.slice D n dc, y.agg, .slice A l.length cap] w fun e w' => e = .returned (.int .i64 (colE n y l)) ∧ Fr (fun _ => False) w w' := by
  obtain ⟨k, c⟩ := y
  have HR := Lib.hid hr
  have HN := Lib.hid (And.intro hn hc)
  clear hr hn hc
  obtain ⟨m, hml⟩ : ∃ m, l.length = m := ⟨_, rfl⟩
  have HM := Lib.hid hml
  rw [hml]
  clear hml
  have tail : ∀ all : Bool, Calls Tryz.prog 64 #[.slice A m cap, .func (.func 107) #[] #[.pointer (some ⟨w.heap.size + 1, 0, none⟩), .pointer (some ⟨w.heap.size, 0, none⟩)]] ((w.alloc (.cells #[.int .i64 k, .int .i64 c] 37)).alloc (.cells #[.bool all] 4)) fun e w' => e = .returned (.bool (l.any fun x => ((x.k == 5) == all) && x.c == c)) ∧ Fr (fun _ => False) w w' := by
    intro all
    rw [← HM.out]
    have hb := (Blk.new w 37 #[.int .i64 k, .int .i64 c])
    have hb2 := hb.alloc (.cells #[.bool all] 4)
    have hfr : Fr (fun _ => False) w ((w.alloc (.cells #[.int .i64 k, .int .i64 c] 37)).alloc (.cells #[.bool all] 4)) := (Fr.alloc1 _ _ _).alloc _
    refine (twice_row all ⟨k, c⟩ l A cap (w.heap.size + 1) w.heap.size _ (HR.out.fr hfr) HN.out.1 HN.out.2 ?_ ?_).mono ?_
    · simp
    · exact hb2.cell 1
    · rintro e w' ⟨h1, h2⟩
      exact ⟨h1, fr_two hfr h2⟩
  have HT := Lib.hid tail
  clear tail
  by_cases h1 : k < 1
  · have HE := Lib.hid (colE_1 (n := n) (a := l) (.inl h1) (c := c))
    have h5 : (k == 5) = false := beq_eq_false_iff_ne.2 (by omega)
    go_enter Tryz.func63, Tryz.ntmps63
    go_wp2
    go_ret
    exact ⟨by rw [HE.out]; rfl, (Fr.alloc1 _ _ _).alloc _⟩
  · by_cases h2 : 5 < k
    · have HE := Lib.hid (colE_1 (n := n) (a := l) (.inr (.inl h2)) (c := c))
      have h5 : (k == 5) = false := beq_eq_false_iff_ne.2 (by omega)
      go_enter Tryz.func63, Tryz.ntmps63
      go_wp2
      go_ret
      exact ⟨by rw [HE.out]; rfl, (Fr.alloc1 _ _ _).alloc _⟩
    · by_cases h5 : k = 5
      · subst h5
        clear h1 h2
        by_cases h0 : c = 0
        · subst h0
          have HE := Lib.hid (colE_five (n := n) (a := l))
          have HT1 := Lib.hid (HT.out true)
          obtain ⟨t, ht⟩ : ∃ t, (l.any fun x => ((x.k == 5) == true) && x.c == 0) = t := ⟨_, rfl⟩
          rw [ht] at HE HT1
          clear ht
          cases t
          all_goals
            go_enter Tryz.func63, Tryz.ntmps63
            go_wp2_with fail
            refine HT1.out.mono ?_
            rintro e w2 ⟨rfl, hf2⟩
            have H2 := Lib.hid hf2
            clear hf2
            go_wp2
            go_ret
            exact ⟨by rw [HE.out]; rfl, H2.out⟩
        · have HE := Lib.hid (colE_1 (n := n) (a := l) (.inr (.inr ⟨rfl, h0⟩)) (c := c))
          have h0' : (c != 0) = true := bne_iff_ne.2 h0
          clear h0
          go_enter Tryz.func63, Tryz.ntmps63
          go_wp2
          go_ret
          exact ⟨by rw [HE.out]; rfl, (Fr.alloc1 _ _ _).alloc _⟩
      · have h5' : (k == 5) = false := beq_eq_false_iff_ne.2 h5
        have g1 : 1 ≤ k := by omega
        have g4 : k ≤ 4 := by omega
        have g5 : k ≤ 5 := by omega
        clear h5
        by_cases h0 : c < 0
        · have HE := Lib.hid (colE_11 (n := n) (a := l) g1 g4 (.inl h0) (c := c))
          go_enter Tryz.func63, Tryz.ntmps63
          go_wp2
          go_ret
          exact ⟨by rw [HE.out]; rfl, (Fr.alloc1 _ _ _).alloc _⟩
        · have g0 : 0 ≤ c := by omega
          by_cases hnc : (n : Int) ≤ c
          · have HE := Lib.hid (colE_11 (n := n) (a := l) g1 g4 (.inr hnc) (c := c))
            go_enter Tryz.func63, Tryz.ntmps63
            go_wp2
            go_ret
            exact ⟨by rw [HE.out]; rfl, (Fr.alloc1 _ _ _).alloc _⟩
          · have gn : c < n := by omega
            have HE := Lib.hid (colE_more (a := l) g1 g4 g0 gn)
            have HT1 := Lib.hid (HT.out false)
            obtain ⟨t, ht⟩ : ∃ t, (l.any fun x => ((x.k == 5) == false) && x.c == c) = t := ⟨_, rfl⟩
            rw [ht] at HE HT1
            clear ht
            cases t
            all_goals
              go_enter Tryz.func63, Tryz.ntmps63
              go_wp2_with fail
              refine HT1.out.mono ?_
              rintro e w2 ⟨rfl, hf2⟩
              have H2 := Lib.hid hf2
              clear hf2
              go_wp2
              go_ret
              exact ⟨by rw [HE.out]; rfl, H2.out⟩
end Go.Proofs.YtmcigeebeoobdaaGreatDoor
end

/-
  Contracts of package plan: Check.
-/
section
namespace Go.Proofs.YtmcigeebeoobdaaGreatDoor
open Go.RowKit Go.Viv
theorem asks_row (l : List Coln) (A : Option Addr) (cap : Nat) (w : World) (hr : RowC w A (l.flatMap cellsK)) (hn : l.length ≤ cap) (hc : cap ≤ 9223372036854775807) :
    Calls Tryz.prog 64 #[.slice A l.length cap, .func (.func 65) #[] #[]] w fun e w' => e = .returned (.bool (l.any askB)) ∧ Fr (fun _ => False) w w' :=
  cont_col _ _ _ l A cap w hr hn hc enter26 (fun W x _ => asks_any x W)
set_option maxRecDepth 100000 in
set_option maxHeartbeats 1000000 in
theorem planCheck_any (n : Nat) (D : Option Addr) (dc : Nat) (l : List Coln) (A : Option Addr) (cap : Nat) (w : World) (hr : RowC w A (l.flatMap cellsK)) (hn : l.length ≤ cap) (hc : cap ≤ 9223372036854775807) (hm : n ≤ 9223372036854775807) :
    Calls Tryz.prog 26 #[.slice D n dc, .slice A l.length cap] w fun e w' => e = .returned (.int .i64 (planE n l)) ∧ Fr (fun _ => False) w w' := by
  have HR := Lib.hid hr
  have HN := Lib.hid (And.intro hn (And.intro hc hm))
  obtain ⟨m, hml⟩ : ∃ m, l.length = m := ⟨_, rfl⟩
  have HM := Lib.hid hml
  rw [hml] at hn ⊢
  clear hr hml
  by_cases h16 : 16 < m
  · have h16' : (16 : Int) < m := by omega
    have HE := Lib.hid (planE_many (n := n) (l := l) (by rw [HM.out]; exact h16))
    go_enter Tryz.func26, Tryz.ntmps26
    go_wp2
    go_ret
    exact ⟨by rw [HE.out]; rfl, Fr.refl _ _⟩
  · have h16' : (m : Int) ≤ 16 := by omega
    have hle : m ≤ 16 := by omega
    clear h16
    go_enter Tryz.func26, Tryz.ntmps26
    go_wp2_with fail
    go_loopw [5, 6, 7, 13] (fun _ _ _ t wr => ∃ k : Nat, k ≤ m ∧ t = .int .i64 k ∧ colsE n [] (l.take k) = 0 ∧ Fr (fun _ => False) w wr) (fun _ _ _ t _ => m - (intOf t).toNat)
    case atStart => exact ⟨0, by omega, rfl, rfl, Fr.refl _ _⟩
    case round =>
      obtain ⟨k, hk, rfl, hall, hfr⟩ := hrel
      by_cases hlt : k < m
      · have hkl : k < l.length := by rw [HM.out]; exact hlt
        have hx : l[k]? = some l[k] := List.getElem?_eq_getElem hkl
        obtain ⟨b, o, rfl, hbw, d0, d1⟩ := rowK_at (HR.out.fr hfr) hx
        have hsn := colsE_take hkl hall
        have hst := colsE_at hkl hall
        obtain ⟨y, hy⟩ : ∃ y, l[k] = y := ⟨_, rfl⟩
        rw [hy] at hx hsn hst d0 d1
        obtain ⟨er, her⟩ : ∃ e, colE n y (l.take k) = e := ⟨_, rfl⟩
        rw [her] at hsn hst
        have HC := Lib.hid (fun W (hW : Fr (fun _ => False) w W) => show Calls Tryz.prog 63 #[.slice D n dc, y.agg, .slice (some ⟨b, o, none⟩) k cap] W fun e w' => e = .returned (.int .i64 er) ∧ Fr (fun _ => False) W w' from by
          have := colcheck_any n D dc y (l.take k) (some ⟨b, o, none⟩) cap W (rowK_take (HR.out.fr hW) k) (by rw [List.length_take]; have := HN.out.1; omega) HN.out.2.1 HN.out.2.2
          rw [her, List.length_take, show min k l.length = k from by omega] at this
          exact this)
        have HX := Lib.hid (And.intro hsn (And.intro hst hfr))
        have hkc : (k : Int) ≤ cap := by omega
        have hkc2 : k ≤ cap := by omega
        clear hx hsn hst hall hfr her hkl hy
        obtain ⟨wB, hwB⟩ : ∃ wB, wB = wr := ⟨wr, rfl⟩
        subst hwB
        go_wp2_with fail
        obtain ⟨W1, hW1⟩ : ∃ W1, W1 = wB.alloc (.cells #[.int .i64 y.k, .int .i64 y.c] 37) := ⟨_, rfl⟩
        have hb1 : Blk W1 wB.heap.size 37 #[.int .i64 y.k, .int .i64 y.c] := by rw [hW1]; exact Blk.new _ _ _
        have hf1 : Fr (fun _ => False) w W1 := by rw [hW1]; exact HX.out.2.2.alloc _
        rw [← hW1]
        have c0 : W1.cell? ⟨wB.heap.size, 0, none⟩ = some (.int .i64 y.k) := hb1.cell 0
        have c1 : W1.cell? ⟨wB.heap.size, 1, none⟩ = some (.int .i64 y.c) := hb1.cell 1
        have lt := hb1.lt
        have k0 := cell_regrown c0
        have k1 := cell_regrown c1
        have H1 := Lib.hid hf1
        clear hW1 hb1 hf1 d0 d1
        refine wp_region_quiet_below (by kernel_rfl) (by kernel_rfl) ?_
        repeat (first | go_big_quiet_step ((go_at_call 63; exact calls_reg (HC.out _ (fr_regrown H1.out _ _)))) | quiet_step ((go_at_call 63; exact calls_reg (HC.out _ (fr_regrown H1.out _ _)))))
        refine wpQuiet_nil ?_
        intro wq hq
        obtain ⟨pq, rfl⟩ := hq
        by_cases h0 : er = 0
        · subst h0
          go_wp2
          go_roundw
          case rel => exact ⟨k + 1, by omega, by go_num, HX.out.1, fr_regrown H1.out _ _⟩
          case measure => simp [intOf]; omega
        · have h0' : (er != 0) = true := bne_iff_ne.2 h0
          have HE := Lib.hid (HX.out.2.1 h0)
          have HZ := Lib.hid h0
          clear h0
          go_wp2
          go_ret
          exact ⟨by rw [planE_fault (by rw [HM.out]; exact hle) (by rw [HE.out]; exact HZ.out), HE.out]; rfl, fr_regrown H1.out _ _⟩
      · obtain rfl : k = m := by omega
        have HP := Lib.hid (planE_asks (n := n) (l := l) (by rw [HM.out]; exact hle) (by rw [← hall, List.take_of_length_le (by rw [HM.out]; exact Nat.le_refl _)]))
        have HC := Lib.hid (show Calls Tryz.prog 64 #[.slice A k cap, .func (.func 65) #[] #[]] wr fun e w' => e = .returned (.bool (l.any askB)) ∧ Fr (fun _ => False) wr w' from by
          rw [← HM.out]; exact asks_row l A cap wr (HR.out.fr hfr) HN.out.1 HN.out.2.1)
        have HF := Lib.hid hfr
        obtain ⟨t, ht⟩ : ∃ t, l.any askB = t := ⟨_, rfl⟩
        rw [ht] at HP HC
        clear hall hfr ht
        obtain ⟨wB, hwB⟩ : ∃ wB, wB = wr := ⟨wr, rfl⟩
        subst hwB
        cases t
        all_goals
          go_wp2_with fail
          refine HC.out.mono ?_
          rintro e w2 ⟨rfl, hf2⟩
          have H2 := Lib.hid hf2
          clear hf2
          go_wp2
          go_ret
          exact ⟨by rw [HP.out]; rfl, fr_two HF.out H2.out⟩
end Go.Proofs.YtmcigeebeoobdaaGreatDoor
end
