/-
  Several texts in one. A plan made of numbers, over the tree: Tame of the plan laws.
-/
import Derived.Test.YtmcigeebeoobdaaGreatDoorPz22
import Derived.Test.YtmcigeebeoobdaaGreatDoorPz01
section
set_option linter.unusedSimpArgs false
set_option linter.unusedVariables false
namespace Go.Viv
open Go Go.RowKit Go.Eva Go.Sym
/-- The bits of what is used. -/
def Used (U : Int) (ds : List Coln) : Prop := ∀ j : Nat, j < 64 → ((BitVec.ofInt 64 U).getLsbD j = true ↔ ∃ x ∈ ds, x.c = j)
theorem Used.nil : Used 0 [] := by
  intro j _
  simp
theorem Used.add {U : Int} {ds : List Coln} (h : Used U ds) {c : Nat} (hc : c < 64) (k : Int) : Used (bits .or .i64 U (IntKind.i64.wrap (2 ^ c))) (ds ++ [⟨k, (c : Int)⟩]) := by
  intro j hj
  rw [bits_or, BitVec.getLsbD_or, bit_pow c j hc, Bool.or_eq_true, h j hj, decide_eq_true_eq]
  constructor
  · rintro (⟨x, hx, e⟩ | e)
    · exact ⟨x, by simp [hx], e⟩
    · exact ⟨⟨k, (c : Int)⟩, by simp, by simp [e]⟩
  · rintro ⟨x, hx, e⟩
    rcases List.mem_append.1 hx with hx | hx
    · exact .inl ⟨x, hx, e⟩
    · rw [List.mem_singleton.1 hx] at e
      simp at e
      exact .inr (by omega)
theorem rwB_any (ds : List Coln) (y : Coln) : (ds ++ [y]).any rwB = (ds.any rwB || rwB y) := by simp
def kindT : Nat → Int
  | 0 => 1
  | 1 => 2
  | 2 => 3
  | 3 => 4
  | 4 => 1
  | _ => 2
theorem kindT_in (r : Nat) : 1 ≤ kindT r ∧ kindT r ≤ 4 := by
  unfold kindT
  split <;> omega
def tameX (x : Int) : Nat := (x % 65536).toNat
def tameC (m : Int) (x : Int) : Nat := tameX x / 8 % (min m 64).toNat
def tameS (m : Int) (ds : List Coln) (x : Int) : List Coln := if m = 0 ∨ tameX x % 7 = 6 then ds else if ∃ y ∈ ds, y.c = (tameC m x : Int) then ds else ds ++ [⟨kindT (tameX x % 7), (tameC m x : Int)⟩]
def tameF (m : Int) (l : List Int) : List Coln := (l.take 6).foldl (tameS m) []
def tameP (m : Int) (l : List Int) : List Coln := if (tameF m l).any rwB then tameF m l else tameF m l ++ [⟨5, 0⟩]
theorem tameF_take {m : Int} {l : List Int} {j : Nat} {x : Int} (h : l[j]? = some x) : (l.take (j + 1)).foldl (tameS m) [] = tameS m ((l.take j).foldl (tameS m) []) x := by
  rw [List.take_add_one, h]
  simp only [Option.toList, List.foldl_append, List.foldl_cons, List.foldl_nil]
theorem tameAt {m : Int} (hm : 0 < m) : ∀ (l : List Int) (q : Nat) (ds : List Coln), TameAt m q ds → TameAt m (q + l.length) (l.foldl (tameS m) ds)
  | [], q, ds, h => h
  | x :: l, q, ds, h => by
    rw [List.foldl_cons, show q + (x :: l).length = q + 1 + l.length from by simp; omega]
    refine tameAt hm l (q + 1) _ ?_
    unfold tameS
    split
    · exact h.more
    · split
      · exact h.more
      · rename_i hn
        have hk := kindT_in (tameX x % 7)
        have hc : tameC m x < (min m 64).toNat := Nat.mod_lt _ (by omega)
        exact h.snoc ⟨hk.1, hk.2, by simp, by simp only; omega, by simp only; omega⟩ (fun y hy e => hn ⟨y, hy, e⟩)
theorem tameF_at {m : Int} (hm : 0 < m) (l : List Int) : ∃ q, q ≤ 6 ∧ TameAt m q (tameF m l) := by
  have := tameAt hm (l.take 6) 0 [] (TameAt.nil m)
  exact ⟨_, by rw [List.length_take]; omega, this⟩
theorem tameP_tame {m : Int} (hm : 0 < m) (l : List Int) : Tame17 m (tameP m l) := by
  obtain ⟨q, hq, h⟩ := tameF_at hm l
  unfold tameP
  by_cases hs : (tameF m l).any rwB = true
  · rw [if_pos hs]; exact h.done hq hs
  · rw [if_neg hs]; exact h.ent hq
theorem tameS_zero (ds : List Coln) (x : Int) : tameS 0 ds x = ds := by unfold tameS; rw [if_pos (.inl rfl)]
theorem tameP_zero (l : List Int) : tameP 0 l = [⟨5, 0⟩] := by
  have : ∀ l : List Int, l.foldl (tameS 0) [] = [] := by
    intro l
    induction l with
    | nil => rfl
    | cons x l ih => rw [List.foldl_cons, tameS_zero]; exact ih
  unfold tameP tameF
  rw [this]
  rfl
theorem tameP_may {m : Int} (hm : 0 ≤ m) (l : List Int) : planE m (tameP m l) = 0 := by
  rcases Int.lt_or_eq_of_le hm with h | rfl
  · exact (tameP_tame h l).may (Int.le_refl _)
  · rw [tameP_zero]; rfl
theorem tameP_len {m : Int} (hm : 0 ≤ m) (l : List Int) : (tameP m l).length ≤ 7 ∧ tameP m l ≠ [] := by
  rcases Int.lt_or_eq_of_le hm with h | rfl
  · have := (tameP_tame h l)
    exact ⟨this.len, fun e => by have := this.pos; rw [e] at this; simp at this⟩
  · rw [tameP_zero]; exact ⟨by simp, by simp⟩
theorem tameF_len (m : Int) (l : List Int) (q : Nat) (ds : List Coln) (h : ds.length ≤ q) : (l.foldl (tameS m) ds).length ≤ q + l.length := by
  induction l generalizing q ds with
  | nil => exact h
  | cons x l ih =>
    rw [List.foldl_cons, List.length_cons]
    have := ih (q + 1) (tameS m ds x) (by
      unfold tameS
      split
      · omega
      · split
        · omega
        · rw [List.length_append, List.length_singleton]; omega)
    omega
theorem colsC_snoc (l : List Coln) (x : Coln) : colsC (l ++ [x]) = colsC l ++ [.int .i64 x.k, .int .i64 x.c] := by
  induction l with
  | nil => rfl
  | cons a l ih =>
    show colC a ++ colsC (l ++ [x]) = (colC a ++ colsC l) ++ _
    rw [ih, List.append_assoc]
theorem colsC_ren (κ : Nat → Nat) (l : List Coln) : renL κ (colsC l) = colsC l := by
  induction l with
  | nil => rfl
  | cons a l ih =>
    show renL κ (.int .i64 a.k :: .int .i64 a.c :: colsC l) = .int .i64 a.k :: .int .i64 a.c :: colsC l
    simp only [renL, ih]
    rfl
end Go.Viv
namespace Go.Sym
open Go Go.RowKit Go.Viv Go.Eva
section
variable {P : Program} {H : Tr AObj} {t : TypeId} {ox oy : Operand}
theorem b_and16 {x : Int} : binB P H .and t ox oy (.int .i64 x) (.int .i64 65535) = some (.int .i64 (tameX x : Int)) := by
  have h : bits .and .i64 x 65535 = (tameX x : Int) := by
    rw [i64_mask x 65535 16 (by decide) (by decide)]
    unfold tameX
    omega
  rw [← h]; rfl
theorem b_and8 {x : Int} : binB P H .and t ox oy (.int .i64 x) (.int .i64 255) = some (.int .i64 (x % 256)) := by
  have h : bits .and .i64 x 255 = x % 256 := by
    rw [i64_mask x 255 8 (by decide) (by decide)]
    rfl
  rw [← h]; rfl
theorem b_shr3 (yk : IntKind) {a : Nat} : binB P H .shr t ox oy (.int .i64 (a : Int)) (.int yk 3) = some (.int .i64 ((a / 8 : Nat) : Int)) := by
  exact b_shr (P := P) (H := H) (t := t) (ox := ox) (oy := oy) yk (a := (a : Int)) (k := 3) rfl (by omega)
theorem b_shlw (yk : IntKind) {a : Int} {c : Nat} (hk : c ≤ 64) : binB P H .shl t ox oy (.int .i64 a) (.int yk (c : Int)) = some (.int .i64 (IntKind.i64.wrap (a * 2 ^ c))) := by
  rw [bin_int, binOp_shl]
  unfold Op.shift
  rw [if_neg (by omega)]
  simp only
  rw [show min ((c : Int).toNat) IntKind.i64.bits = c by simp [IntKind.bits]; omega]
  rfl
theorem b_orw {a b : Int} : binB P H .or t ox oy (.int .i64 a) (.int .i64 b) = some (.int .i64 (bits .or .i64 a b)) := rfl
end
end Go.Sym
namespace Go.Proofs.YtmcigeebeoobdaaGreatDoor
open Go Go.RowKit Go.Viv Go.Eva Go.Sym
def cTame : Sym.CallS := fun args s => match args with
  | [v, .int .i64 m] => match (rowB s.t 1 v).bind intsL with
    | some l => if 0 ≤ m ∧ m ≤ 100 then some (.slice (some ⟨s.next, 0, none⟩) (tameP m l).length 0, ⟨news s.t s.next [.cells (colsC (tameP m l)) 37 true], s.next + 1⟩) else none
    | none => none
  | _ => none
section
variable {G : Nat} {ν : Toks} {W : World} {may : Nat → Prop} {call : CallB}
set_option maxRecDepth 8000 in
set_option maxHeartbeats 2000000 in
theorem tame_ok (hc : CallOK Tryz.prog G (LBegin Tryz.prog ν LL W may) ν call) : SpecOK Tryz.prog G (LBegin Tryz.prog ν LL W may) ν 10 cTame := by
  refine fun_ok rfl (by kernel_rfl) hc fun args s v h' e Lv hlv hG => ?_
  unfold cTame at e
  split at e <;> try (cases e; done)
  rename_i v0 m
  split at e <;> try (cases e; done)
  rename_i l hl
  split at e <;> try (cases e; done)
  rename_i hq
  obtain ⟨hm0, hm1⟩ := hq
  simp only [Option.some.injEq, Prod.mk.injEq] at e
  obtain ⟨rfl, rfl⟩ := e
  obtain ⟨vs, hv, hvs⟩ := Option.bind_eq_some_iff.1 hl
  obtain rfl := intsL_eq hvs
  have ltv : ∀ X, occ X v0 = true → X < s.next := fun X h => hlv.lt _ (hlv.arg X (by simp [occL, h]))
  obtain ⟨a, n, c, rfl, hlen, hat⟩ := Go.Sym.row_at hv
  rw [intsC_len] at hlen
  obtain rfl : n = l.length := by omega
  have hmin : semV (Builtin.min2 (.int .i64 m) (.int .i64 64)) = some (.int .i64 ((min m 64).toNat : Int)) := by
    rw [show ((min m 64).toNat : Int) = if (64 : Int) < m then 64 else m by omega]
    rfl
  refine ⟨[], [.cells (colsC (tameP m l)) 37 true], by cases s; rfl, 0, ?_⟩
  refine ⟨Tryz.f10, _, Tryz.func10, rfl, by simp [Tryz.f10], ?_⟩; rw [Tryz.ntmps10]
  repeat' (first | simp (disch := omega) only [go_sem, reduceIte, sliceB] | (with_reducible refine w_chain0 ?_ ?_; focus (decide +kernel)) | (with_reducible refine condK_of _ _ ?_ ?_ <;> (intro hb; try simp only [decide_eq_true_eq, decide_eq_false_iff_not] at hb)) | (with_reducible refine gdK_of_f _ _ _ _ _ ?_ ?_ <;> (intro hb; try simp only [decide_eq_true_eq, decide_eq_false_iff_not] at hb)) | (with_reducible refine gdK_of_t _ _ _ _ _ ?_ ?_ <;> (intro hb; try simp only [decide_eq_true_eq, decide_eq_false_iff_not] at hb)) | (with_reducible refine gK_of_f _ _ _ ?_ ?_ <;> (intro hb; try simp only [decide_eq_true_eq, decide_eq_false_iff_not] at hb)) | (with_reducible refine gK_of_t _ _ _ ?_ ?_ <;> (intro hb; try simp only [decide_eq_true_eq, decide_eq_false_iff_not] at hb)))
  refine w_loop (fun mm T1 h => ∃ (j : Nat) (w : Value) (kk : Nat) (U : Int) (ds : List Coln), j ≤ l.length ∧ j ≤ 6 ∧ mm = l.length - j ∧ ds = (l.take j).foldl (tameS m) [] ∧ Used U ds ∧ Eva.look T1 0 = .slice a l.length c ∧ Eva.look T1 1 = .int .i64 m ∧ Eva.look T1 8 = .int .i64 (j : Int) ∧ Eva.look T1 5 = w ∧ Eva.look T1 6 = .int .i64 U ∧ Eva.look T1 7 = .bool (ds.any rwB) ∧ RowAt h.t 37 2 w ds.length (colsC ds) kk ∧ (ds.length ≠ 0 → s.next ≤ kk ∧ kk < h.next) ∧ s.next ≤ h.next ∧ ∀ X, X < s.next → h.t.at_ X = s.t.at_ X) l.length ?_ ?_
  · refine ⟨0, .slice none 0 0, 0, 0, [], by omega, by omega, by omega, rfl, Used.nil, ?_, ?_, ?_, ?_, ?_, ?_, .nil 0, fun h => absurd rfl h, Nat.le_refl _, fun _ _ => rfl⟩ <;> (simp (disch := omega) only [go_sem, reduceIte, sliceB]) <;> rfl
  · rintro mm T1 h ⟨j, w, kk, U, ds, hj, hj6, hmm, hds, hU, t0, t1, t8, t5, t6, t7, hrow, hkk, hnx, hold⟩
    have hdl : ds.length ≤ 6 := by
      rw [hds]
      have := tameF_len m (l.take j) 0 [] (Nat.le_refl _)
      rw [List.length_take] at this
      omega
    by_cases hlt : j < l.length
    · by_cases hlt6 : j < 6
      · obtain ⟨x, hx⟩ : ∃ x, l[j]? = some x := ⟨_, List.getElem?_eq_getElem hlt⟩
        obtain ⟨B, o, cs, ty, rw_, rfl, hB, g1, g2⟩ := hat j hlt
        rw [ints_at hx] at g2
        have g3 := Go.Sym.one_at g2
        have lB := ltv B (by simp [occ])
        have oB := (hold B lB).trans hB
        have hst := tameF_take (m := m) hx
        rw [← hds] at hst
        have hj6' : (j : Int) < 6 := by omega
        by_cases hz : m = 0
        · subst hz
          rw [tameS_zero] at hst
          repeat' (first | simp (disch := omega) only [go_sem, reduceIte, sliceB, t0, t1, t5, t6, t7, t8, oB, g3, hlt6, hj6', undef, b_and16, Int.toNat_natCast] | (with_reducible refine w_chain0 ?_ ?_; focus (decide +kernel)) | (with_reducible refine condK_of _ _ ?_ ?_ <;> (intro hb; try simp only [decide_eq_true_eq, decide_eq_false_iff_not] at hb)) | (with_reducible refine gdK_of_f _ _ _ _ _ ?_ ?_ <;> (intro hb; try simp only [decide_eq_true_eq, decide_eq_false_iff_not] at hb)) | (with_reducible refine gdK_of_t _ _ _ _ _ ?_ ?_ <;> (intro hb; try simp only [decide_eq_true_eq, decide_eq_false_iff_not] at hb)) | (with_reducible refine gK_of_f _ _ _ ?_ ?_ <;> (intro hb; try simp only [decide_eq_true_eq, decide_eq_false_iff_not] at hb)) | (with_reducible refine gK_of_t _ _ _ ?_ ?_ <;> (intro hb; try simp only [decide_eq_true_eq, decide_eq_false_iff_not] at hb)))
          exact ⟨l.length - (j + 1), by omega, j + 1, _, kk, U, ds, by omega, by omega, rfl, hst.symm, hU, by simp, rfl, rfl, rfl, hrow, hkk, by omega, hold⟩
        obtain ⟨c, hcc⟩ : ∃ c, tameC m x = c := ⟨_, rfl⟩
        have hc64 : c < 64 := by
          have : tameC m x < (min m 64).toNat := Nat.mod_lt _ (by omega)
          omega
        have hcm : (((tameX x / 8 : Nat) : Int)).tmod ((min m 64).toNat : Int) = (c : Int) := by
          rw [← hcc]; rfl
        have hK0 : ((min m 64).toNat : Int) ≠ 0 := by omega
        obtain ⟨R, hR⟩ : ∃ R, tameX x % 7 = R := ⟨_, rfl⟩
        have hRl : R < 7 := by omega
        have hR7 : ((tameX x : Nat) : Int).tmod 7 = (R : Int) := by rw [← hR]; rfl
        unfold tameS at hst
        rw [hcc, hR] at hst
        by_cases h6 : R = 6
        · rw [if_pos (.inr h6)] at hst
          subst h6
          repeat' (first | simp (disch := omega) only [go_sem, reduceIte, sliceB, t0, t1, t5, t6, t7, t8, oB, g3, hlt6, hj6', undef, hz, b_and16, hR7, Int.toNat_natCast] | (with_reducible refine w_chain0 ?_ ?_; focus (decide +kernel)) | (with_reducible refine condK_of _ _ ?_ ?_ <;> (intro hb; try simp only [decide_eq_true_eq, decide_eq_false_iff_not] at hb)) | (with_reducible refine gdK_of_f _ _ _ _ _ ?_ ?_ <;> (intro hb; try simp only [decide_eq_true_eq, decide_eq_false_iff_not] at hb)) | (with_reducible refine gdK_of_t _ _ _ _ _ ?_ ?_ <;> (intro hb; try simp only [decide_eq_true_eq, decide_eq_false_iff_not] at hb)) | (with_reducible refine gK_of_f _ _ _ ?_ ?_ <;> (intro hb; try simp only [decide_eq_true_eq, decide_eq_false_iff_not] at hb)) | (with_reducible refine gK_of_t _ _ _ ?_ ?_ <;> (intro hb; try simp only [decide_eq_true_eq, decide_eq_false_iff_not] at hb)))
          exact ⟨l.length - (j + 1), by omega, j + 1, _, kk, U, ds, by omega, by omega, rfl, hst.symm, hU, by simp, rfl, rfl, rfl, hrow, hkk, by omega, hold⟩
        · rw [if_neg (by omega)] at hst
          have hbit : ((U / 2 ^ c) % 2 = 1) ↔ ∃ y ∈ ds, y.c = (c : Int) := by
            rw [← hU c hc64, ← bit_fdiv U c hc64, Int.fdiv_eq_ediv_of_nonneg _ (Int.le_of_lt (Int.pow_pos (by decide)))]
          have hsh : ∀ H t ox oy, binB Tryz.prog H .shr t ox oy (.int .i64 U) (.int .i64 (c : Int)) = some (.int .i64 (U / 2 ^ c)) := fun H t ox oy => b_shr .i64 rfl (by omega)
          have hb1 : ∀ H t ox oy, binB Tryz.prog H .and t ox oy (.int .i64 (U / 2 ^ c)) (.int .i64 1) = some (.int .i64 ((U / 2 ^ c) % 2)) := fun H t ox oy => by
            have h : bits .and .i64 (U / 2 ^ c) 1 = (U / 2 ^ c) % 2 := i64_mask _ 1 1 (by decide) (by decide)
            rw [← h]; rfl
          generalize U / 2 ^ c = Z at hbit hsh hb1
          by_cases hin : ∃ y ∈ ds, y.c = (c : Int)
          · rw [if_pos hin] at hst
            have hz1 := hbit.2 hin
            repeat' (first | simp (disch := omega) only [go_sem, reduceIte, sliceB, t0, t1, t5, t6, t7, t8, oB, g3, hlt6, hj6', undef, hz, b_and16, b_shr3, hR7, h6, hcm, hmin, hK0, hsh, hb1, hz1, Int.toNat_natCast] | (with_reducible refine w_chain0 ?_ ?_; focus (decide +kernel)) | (with_reducible refine condK_of _ _ ?_ ?_ <;> (intro hb; try simp only [decide_eq_true_eq, decide_eq_false_iff_not] at hb)) | (with_reducible refine gdK_of_f _ _ _ _ _ ?_ ?_ <;> (intro hb; try simp only [decide_eq_true_eq, decide_eq_false_iff_not] at hb)) | (with_reducible refine gdK_of_t _ _ _ _ _ ?_ ?_ <;> (intro hb; try simp only [decide_eq_true_eq, decide_eq_false_iff_not] at hb)) | (with_reducible refine gK_of_f _ _ _ ?_ ?_ <;> (intro hb; try simp only [decide_eq_true_eq, decide_eq_false_iff_not] at hb)) | (with_reducible refine gK_of_t _ _ _ ?_ ?_ <;> (intro hb; try simp only [decide_eq_true_eq, decide_eq_false_iff_not] at hb)))
            exact ⟨l.length - (j + 1), by omega, j + 1, _, kk, U, ds, by omega, by omega, rfl, hst.symm, hU, by simp, rfl, rfl, rfl, hrow, hkk, by omega, hold⟩
          · rw [if_neg hin] at hst
            have hz1 : Z % 2 = 0 := by
              have := mt hbit.1 hin
              omega
            have hshl : ∀ H t ox oy, binB Tryz.prog H .shl t ox oy (.int .i64 1) (.int .i64 (c : Int)) = some (.int .i64 (IntKind.i64.wrap (2 ^ c))) := fun H t ox oy => by
              have := b_shlw (P := Tryz.prog) (H := H) (t := t) (ox := ox) (oy := oy) .i64 (a := 1) (c := c) (by omega)
              rwa [Int.one_mul] at this
            have hUn := hU.add hc64
            obtain ⟨V, hV⟩ : ∃ V, bits .or .i64 U (IntKind.i64.wrap (2 ^ c)) = V := ⟨_, rfl⟩
            have hor : ∀ H t ox oy, binB Tryz.prog H .or t ox oy (.int .i64 U) (.int .i64 (IntKind.i64.wrap (2 ^ c))) = some (.int .i64 V) := fun H t ox oy => by rw [b_orw, hV]
            rw [hV] at hUn
            clear hV hbit
            generalize IntKind.i64.wrap (2 ^ c) = Y at hshl hor
            obtain ⟨k3, hrow3, hk31, hk32, hk33⟩ := row_pick hrow (a := s.next) (b := h.next) hkk hnx
            have hRR : R = 0 ∨ R = 1 ∨ R = 2 ∨ R = 3 ∨ R = 4 ∨ R = 5 := by omega
            rcases hRR with rfl | rfl | rfl | rfl | rfl | rfl
            · have hR0 : ((tameX x : Nat) : Int).tmod 7 = 0 := hR7
              have hst0 : List.foldl (tameS m) [] (List.take (j + 1) l) = ds ++ [⟨1, (c : Int)⟩] := hst
              have hix : ([.int .i64 1, .int .i64 2, .int .i64 3, .int .i64 4, .int .i64 1, .int .i64 2] : List Value)[Int.toNat 0]? = some (.int .i64 1) := rfl
              clear hst hR7
              cases hs : ds.any rwB
              all_goals
                repeat' (first | simp (disch := omega) only [go_sem, reduceIte, sliceB, t0, t1, t5, t6, t7, t8, oB, g3, hlt6, hj6', undef, hz, b_and16, b_shr3, hR0, h6, hcm, hmin, hK0, hsh, hb1, hz1, hshl, hor, hs, hix, Int.toNat_natCast] | (with_reducible refine w_chain0 ?_ ?_; focus (decide +kernel)) | (with_reducible refine condK_of _ _ ?_ ?_ <;> (intro hb; try simp only [decide_eq_true_eq, decide_eq_false_iff_not] at hb)) | (with_reducible refine gdK_of_f _ _ _ _ _ ?_ ?_ <;> (intro hb; try simp only [decide_eq_true_eq, decide_eq_false_iff_not] at hb)) | (with_reducible refine gdK_of_t _ _ _ _ _ ?_ ?_ <;> (intro hb; try simp only [decide_eq_true_eq, decide_eq_false_iff_not] at hb)) | (with_reducible refine gK_of_f _ _ _ ?_ ?_ <;> (intro hb; try simp only [decide_eq_true_eq, decide_eq_false_iff_not] at hb)) | (with_reducible refine gK_of_t _ _ _ ?_ ?_ <;> (intro hb; try simp only [decide_eq_true_eq, decide_eq_false_iff_not] at hb)))
                refine append_on (B := k3) (new := [.int .i64 1, .int .i64 (c : Int)]) und34 und34 size37 pz37 rfl apb37 (hrow3.frame2 fun h0 => ?_) ?_ rfl rfl ?_ (by omega) (fun h5 r5 n5 s5 => ?_)
                · have := hk33 h0
                  simp (disch := omega) only [go_sem, reduceIte, sliceB]
                · simp (disch := omega) only [go_sem, reduceIte, sliceB]
                · omega
                try simp only at n5 s5 r5
                repeat' (first | simp (disch := omega) only [go_sem, reduceIte, sliceB, t0, t1, t5, t6, t7, t8, n5] | (with_reducible refine w_chain0 ?_ ?_; focus (decide +kernel)) | (with_reducible refine condK_of _ _ ?_ ?_ <;> (intro hb; try simp only [decide_eq_true_eq, decide_eq_false_iff_not] at hb)) | (with_reducible refine gdK_of_f _ _ _ _ _ ?_ ?_ <;> (intro hb; try simp only [decide_eq_true_eq, decide_eq_false_iff_not] at hb)) | (with_reducible refine gdK_of_t _ _ _ _ _ ?_ ?_ <;> (intro hb; try simp only [decide_eq_true_eq, decide_eq_false_iff_not] at hb)) | (with_reducible refine gK_of_f _ _ _ ?_ ?_ <;> (intro hb; try simp only [decide_eq_true_eq, decide_eq_false_iff_not] at hb)) | (with_reducible refine gK_of_t _ _ _ ?_ ?_ <;> (intro hb; try simp only [decide_eq_true_eq, decide_eq_false_iff_not] at hb)))
                refine ⟨l.length - (j + 1), by omega, j + 1, _, h.next + 1 + 1, V, _, by omega, by omega, rfl, hst0.symm, hUn 1, by simp, rfl, rfl, by rw [rwB_any, hs]; rfl, ?_, fun _ => by omega, by omega, fun X hX => ?_⟩
                · rw [List.length_append, colsC_snoc]
                  exact r5
                · rw [s5 X (by omega) (by omega)]
                  simp (disch := omega) only [go_sem, reduceIte, sliceB]
                  exact hold X hX
            · have hR0 : ((tameX x : Nat) : Int).tmod 7 = 1 := hR7
              have hst0 : List.foldl (tameS m) [] (List.take (j + 1) l) = ds ++ [⟨2, (c : Int)⟩] := hst
              have hix : ([.int .i64 1, .int .i64 2, .int .i64 3, .int .i64 4, .int .i64 1, .int .i64 2] : List Value)[Int.toNat 1]? = some (.int .i64 2) := rfl
              clear hst hR7
              cases hs : ds.any rwB
              all_goals
                repeat' (first | simp (disch := omega) only [go_sem, reduceIte, sliceB, t0, t1, t5, t6, t7, t8, oB, g3, hlt6, hj6', undef, hz, b_and16, b_shr3, hR0, h6, hcm, hmin, hK0, hsh, hb1, hz1, hshl, hor, hs, hix, Int.toNat_natCast] | (with_reducible refine w_chain0 ?_ ?_; focus (decide +kernel)) | (with_reducible refine condK_of _ _ ?_ ?_ <;> (intro hb; try simp only [decide_eq_true_eq, decide_eq_false_iff_not] at hb)) | (with_reducible refine gdK_of_f _ _ _ _ _ ?_ ?_ <;> (intro hb; try simp only [decide_eq_true_eq, decide_eq_false_iff_not] at hb)) | (with_reducible refine gdK_of_t _ _ _ _ _ ?_ ?_ <;> (intro hb; try simp only [decide_eq_true_eq, decide_eq_false_iff_not] at hb)) | (with_reducible refine gK_of_f _ _ _ ?_ ?_ <;> (intro hb; try simp only [decide_eq_true_eq, decide_eq_false_iff_not] at hb)) | (with_reducible refine gK_of_t _ _ _ ?_ ?_ <;> (intro hb; try simp only [decide_eq_true_eq, decide_eq_false_iff_not] at hb)))
                refine append_on (B := k3) (new := [.int .i64 2, .int .i64 (c : Int)]) und34 und34 size37 pz37 rfl apb37 (hrow3.frame2 fun h0 => ?_) ?_ rfl rfl ?_ (by omega) (fun h5 r5 n5 s5 => ?_)
                · have := hk33 h0
                  simp (disch := omega) only [go_sem, reduceIte, sliceB]
                · simp (disch := omega) only [go_sem, reduceIte, sliceB]
                · omega
                try simp only at n5 s5 r5
                repeat' (first | simp (disch := omega) only [go_sem, reduceIte, sliceB, t0, t1, t5, t6, t7, t8, n5] | (with_reducible refine w_chain0 ?_ ?_; focus (decide +kernel)) | (with_reducible refine condK_of _ _ ?_ ?_ <;> (intro hb; try simp only [decide_eq_true_eq, decide_eq_false_iff_not] at hb)) | (with_reducible refine gdK_of_f _ _ _ _ _ ?_ ?_ <;> (intro hb; try simp only [decide_eq_true_eq, decide_eq_false_iff_not] at hb)) | (with_reducible refine gdK_of_t _ _ _ _ _ ?_ ?_ <;> (intro hb; try simp only [decide_eq_true_eq, decide_eq_false_iff_not] at hb)) | (with_reducible refine gK_of_f _ _ _ ?_ ?_ <;> (intro hb; try simp only [decide_eq_true_eq, decide_eq_false_iff_not] at hb)) | (with_reducible refine gK_of_t _ _ _ ?_ ?_ <;> (intro hb; try simp only [decide_eq_true_eq, decide_eq_false_iff_not] at hb)))
                refine ⟨l.length - (j + 1), by omega, j + 1, _, h.next + 1 + 1, V, _, by omega, by omega, rfl, hst0.symm, hUn 2, by simp, rfl, rfl, by rw [rwB_any, hs]; rfl, ?_, fun _ => by omega, by omega, fun X hX => ?_⟩
                · rw [List.length_append, colsC_snoc]
                  exact r5
                · rw [s5 X (by omega) (by omega)]
                  simp (disch := omega) only [go_sem, reduceIte, sliceB]
                  exact hold X hX
            · have hR0 : ((tameX x : Nat) : Int).tmod 7 = 2 := hR7
              have hst0 : List.foldl (tameS m) [] (List.take (j + 1) l) = ds ++ [⟨3, (c : Int)⟩] := hst
              have hix : ([.int .i64 1, .int .i64 2, .int .i64 3, .int .i64 4, .int .i64 1, .int .i64 2] : List Value)[Int.toNat 2]? = some (.int .i64 3) := rfl
              clear hst hR7
              cases hs : ds.any rwB
              all_goals
                repeat' (first | simp (disch := omega) only [go_sem, reduceIte, sliceB, t0, t1, t5, t6, t7, t8, oB, g3, hlt6, hj6', undef, hz, b_and16, b_shr3, hR0, h6, hcm, hmin, hK0, hsh, hb1, hz1, hshl, hor, hs, hix, Int.toNat_natCast] | (with_reducible refine w_chain0 ?_ ?_; focus (decide +kernel)) | (with_reducible refine condK_of _ _ ?_ ?_ <;> (intro hb; try simp only [decide_eq_true_eq, decide_eq_false_iff_not] at hb)) | (with_reducible refine gdK_of_f _ _ _ _ _ ?_ ?_ <;> (intro hb; try simp only [decide_eq_true_eq, decide_eq_false_iff_not] at hb)) | (with_reducible refine gdK_of_t _ _ _ _ _ ?_ ?_ <;> (intro hb; try simp only [decide_eq_true_eq, decide_eq_false_iff_not] at hb)) | (with_reducible refine gK_of_f _ _ _ ?_ ?_ <;> (intro hb; try simp only [decide_eq_true_eq, decide_eq_false_iff_not] at hb)) | (with_reducible refine gK_of_t _ _ _ ?_ ?_ <;> (intro hb; try simp only [decide_eq_true_eq, decide_eq_false_iff_not] at hb)))
                refine append_on (B := k3) (new := [.int .i64 3, .int .i64 (c : Int)]) und34 und34 size37 pz37 rfl apb37 (hrow3.frame2 fun h0 => ?_) ?_ rfl rfl ?_ (by omega) (fun h5 r5 n5 s5 => ?_)
                · have := hk33 h0
                  simp (disch := omega) only [go_sem, reduceIte, sliceB]
                · simp (disch := omega) only [go_sem, reduceIte, sliceB]
                · omega
                try simp only at n5 s5 r5
                repeat' (first | simp (disch := omega) only [go_sem, reduceIte, sliceB, t0, t1, t5, t6, t7, t8, n5] | (with_reducible refine w_chain0 ?_ ?_; focus (decide +kernel)) | (with_reducible refine condK_of _ _ ?_ ?_ <;> (intro hb; try simp only [decide_eq_true_eq, decide_eq_false_iff_not] at hb)) | (with_reducible refine gdK_of_f _ _ _ _ _ ?_ ?_ <;> (intro hb; try simp only [decide_eq_true_eq, decide_eq_false_iff_not] at hb)) | (with_reducible refine gdK_of_t _ _ _ _ _ ?_ ?_ <;> (intro hb; try simp only [decide_eq_true_eq, decide_eq_false_iff_not] at hb)) | (with_reducible refine gK_of_f _ _ _ ?_ ?_ <;> (intro hb; try simp only [decide_eq_true_eq, decide_eq_false_iff_not] at hb)) | (with_reducible refine gK_of_t _ _ _ ?_ ?_ <;> (intro hb; try simp only [decide_eq_true_eq, decide_eq_false_iff_not] at hb)))
                refine ⟨l.length - (j + 1), by omega, j + 1, _, h.next + 1 + 1, V, _, by omega, by omega, rfl, hst0.symm, hUn 3, by simp, rfl, rfl, by rw [rwB_any, hs]; rfl, ?_, fun _ => by omega, by omega, fun X hX => ?_⟩
                · rw [List.length_append, colsC_snoc]
                  exact r5
                · rw [s5 X (by omega) (by omega)]
                  simp (disch := omega) only [go_sem, reduceIte, sliceB]
                  exact hold X hX
            · have hR0 : ((tameX x : Nat) : Int).tmod 7 = 3 := hR7
              have hst0 : List.foldl (tameS m) [] (List.take (j + 1) l) = ds ++ [⟨4, (c : Int)⟩] := hst
              have hix : ([.int .i64 1, .int .i64 2, .int .i64 3, .int .i64 4, .int .i64 1, .int .i64 2] : List Value)[Int.toNat 3]? = some (.int .i64 4) := rfl
              clear hst hR7
              cases hs : ds.any rwB
              all_goals
                repeat' (first | simp (disch := omega) only [go_sem, reduceIte, sliceB, t0, t1, t5, t6, t7, t8, oB, g3, hlt6, hj6', undef, hz, b_and16, b_shr3, hR0, h6, hcm, hmin, hK0, hsh, hb1, hz1, hshl, hor, hs, hix, Int.toNat_natCast] | (with_reducible refine w_chain0 ?_ ?_; focus (decide +kernel)) | (with_reducible refine condK_of _ _ ?_ ?_ <;> (intro hb; try simp only [decide_eq_true_eq, decide_eq_false_iff_not] at hb)) | (with_reducible refine gdK_of_f _ _ _ _ _ ?_ ?_ <;> (intro hb; try simp only [decide_eq_true_eq, decide_eq_false_iff_not] at hb)) | (with_reducible refine gdK_of_t _ _ _ _ _ ?_ ?_ <;> (intro hb; try simp only [decide_eq_true_eq, decide_eq_false_iff_not] at hb)) | (with_reducible refine gK_of_f _ _ _ ?_ ?_ <;> (intro hb; try simp only [decide_eq_true_eq, decide_eq_false_iff_not] at hb)) | (with_reducible refine gK_of_t _ _ _ ?_ ?_ <;> (intro hb; try simp only [decide_eq_true_eq, decide_eq_false_iff_not] at hb)))
                refine append_on (B := k3) (new := [.int .i64 4, .int .i64 (c : Int)]) und34 und34 size37 pz37 rfl apb37 (hrow3.frame2 fun h0 => ?_) ?_ rfl rfl ?_ (by omega) (fun h5 r5 n5 s5 => ?_)
                · have := hk33 h0
                  simp (disch := omega) only [go_sem, reduceIte, sliceB]
                · simp (disch := omega) only [go_sem, reduceIte, sliceB]
                · omega
                try simp only at n5 s5 r5
                repeat' (first | simp (disch := omega) only [go_sem, reduceIte, sliceB, t0, t1, t5, t6, t7, t8, n5] | (with_reducible refine w_chain0 ?_ ?_; focus (decide +kernel)) | (with_reducible refine condK_of _ _ ?_ ?_ <;> (intro hb; try simp only [decide_eq_true_eq, decide_eq_false_iff_not] at hb)) | (with_reducible refine gdK_of_f _ _ _ _ _ ?_ ?_ <;> (intro hb; try simp only [decide_eq_true_eq, decide_eq_false_iff_not] at hb)) | (with_reducible refine gdK_of_t _ _ _ _ _ ?_ ?_ <;> (intro hb; try simp only [decide_eq_true_eq, decide_eq_false_iff_not] at hb)) | (with_reducible refine gK_of_f _ _ _ ?_ ?_ <;> (intro hb; try simp only [decide_eq_true_eq, decide_eq_false_iff_not] at hb)) | (with_reducible refine gK_of_t _ _ _ ?_ ?_ <;> (intro hb; try simp only [decide_eq_true_eq, decide_eq_false_iff_not] at hb)))
                refine ⟨l.length - (j + 1), by omega, j + 1, _, h.next + 1 + 1, V, _, by omega, by omega, rfl, hst0.symm, hUn 4, by simp, rfl, rfl, by rw [rwB_any, hs]; rfl, ?_, fun _ => by omega, by omega, fun X hX => ?_⟩
                · rw [List.length_append, colsC_snoc]
                  exact r5
                · rw [s5 X (by omega) (by omega)]
                  simp (disch := omega) only [go_sem, reduceIte, sliceB]
                  exact hold X hX
            · have hR0 : ((tameX x : Nat) : Int).tmod 7 = 4 := hR7
              have hst0 : List.foldl (tameS m) [] (List.take (j + 1) l) = ds ++ [⟨1, (c : Int)⟩] := hst
              have hix : ([.int .i64 1, .int .i64 2, .int .i64 3, .int .i64 4, .int .i64 1, .int .i64 2] : List Value)[Int.toNat 4]? = some (.int .i64 1) := rfl
              clear hst hR7
              cases hs : ds.any rwB
              all_goals
                repeat' (first | simp (disch := omega) only [go_sem, reduceIte, sliceB, t0, t1, t5, t6, t7, t8, oB, g3, hlt6, hj6', undef, hz, b_and16, b_shr3, hR0, h6, hcm, hmin, hK0, hsh, hb1, hz1, hshl, hor, hs, hix, Int.toNat_natCast] | (with_reducible refine w_chain0 ?_ ?_; focus (decide +kernel)) | (with_reducible refine condK_of _ _ ?_ ?_ <;> (intro hb; try simp only [decide_eq_true_eq, decide_eq_false_iff_not] at hb)) | (with_reducible refine gdK_of_f _ _ _ _ _ ?_ ?_ <;> (intro hb; try simp only [decide_eq_true_eq, decide_eq_false_iff_not] at hb)) | (with_reducible refine gdK_of_t _ _ _ _ _ ?_ ?_ <;> (intro hb; try simp only [decide_eq_true_eq, decide_eq_false_iff_not] at hb)) | (with_reducible refine gK_of_f _ _ _ ?_ ?_ <;> (intro hb; try simp only [decide_eq_true_eq, decide_eq_false_iff_not] at hb)) | (with_reducible refine gK_of_t _ _ _ ?_ ?_ <;> (intro hb; try simp only [decide_eq_true_eq, decide_eq_false_iff_not] at hb)))
                refine append_on (B := k3) (new := [.int .i64 1, .int .i64 (c : Int)]) und34 und34 size37 pz37 rfl apb37 (hrow3.frame2 fun h0 => ?_) ?_ rfl rfl ?_ (by omega) (fun h5 r5 n5 s5 => ?_)
                · have := hk33 h0
                  simp (disch := omega) only [go_sem, reduceIte, sliceB]
                · simp (disch := omega) only [go_sem, reduceIte, sliceB]
                · omega
                try simp only at n5 s5 r5
                repeat' (first | simp (disch := omega) only [go_sem, reduceIte, sliceB, t0, t1, t5, t6, t7, t8, n5] | (with_reducible refine w_chain0 ?_ ?_; focus (decide +kernel)) | (with_reducible refine condK_of _ _ ?_ ?_ <;> (intro hb; try simp only [decide_eq_true_eq, decide_eq_false_iff_not] at hb)) | (with_reducible refine gdK_of_f _ _ _ _ _ ?_ ?_ <;> (intro hb; try simp only [decide_eq_true_eq, decide_eq_false_iff_not] at hb)) | (with_reducible refine gdK_of_t _ _ _ _ _ ?_ ?_ <;> (intro hb; try simp only [decide_eq_true_eq, decide_eq_false_iff_not] at hb)) | (with_reducible refine gK_of_f _ _ _ ?_ ?_ <;> (intro hb; try simp only [decide_eq_true_eq, decide_eq_false_iff_not] at hb)) | (with_reducible refine gK_of_t _ _ _ ?_ ?_ <;> (intro hb; try simp only [decide_eq_true_eq, decide_eq_false_iff_not] at hb)))
                refine ⟨l.length - (j + 1), by omega, j + 1, _, h.next + 1 + 1, V, _, by omega, by omega, rfl, hst0.symm, hUn 1, by simp, rfl, rfl, by rw [rwB_any, hs]; rfl, ?_, fun _ => by omega, by omega, fun X hX => ?_⟩
                · rw [List.length_append, colsC_snoc]
                  exact r5
                · rw [s5 X (by omega) (by omega)]
                  simp (disch := omega) only [go_sem, reduceIte, sliceB]
                  exact hold X hX
            · have hR0 : ((tameX x : Nat) : Int).tmod 7 = 5 := hR7
              have hst0 : List.foldl (tameS m) [] (List.take (j + 1) l) = ds ++ [⟨2, (c : Int)⟩] := hst
              have hix : ([.int .i64 1, .int .i64 2, .int .i64 3, .int .i64 4, .int .i64 1, .int .i64 2] : List Value)[Int.toNat 5]? = some (.int .i64 2) := rfl
              clear hst hR7
              cases hs : ds.any rwB
              all_goals
                repeat' (first | simp (disch := omega) only [go_sem, reduceIte, sliceB, t0, t1, t5, t6, t7, t8, oB, g3, hlt6, hj6', undef, hz, b_and16, b_shr3, hR0, h6, hcm, hmin, hK0, hsh, hb1, hz1, hshl, hor, hs, hix, Int.toNat_natCast] | (with_reducible refine w_chain0 ?_ ?_; focus (decide +kernel)) | (with_reducible refine condK_of _ _ ?_ ?_ <;> (intro hb; try simp only [decide_eq_true_eq, decide_eq_false_iff_not] at hb)) | (with_reducible refine gdK_of_f _ _ _ _ _ ?_ ?_ <;> (intro hb; try simp only [decide_eq_true_eq, decide_eq_false_iff_not] at hb)) | (with_reducible refine gdK_of_t _ _ _ _ _ ?_ ?_ <;> (intro hb; try simp only [decide_eq_true_eq, decide_eq_false_iff_not] at hb)) | (with_reducible refine gK_of_f _ _ _ ?_ ?_ <;> (intro hb; try simp only [decide_eq_true_eq, decide_eq_false_iff_not] at hb)) | (with_reducible refine gK_of_t _ _ _ ?_ ?_ <;> (intro hb; try simp only [decide_eq_true_eq, decide_eq_false_iff_not] at hb)))
                refine append_on (B := k3) (new := [.int .i64 2, .int .i64 (c : Int)]) und34 und34 size37 pz37 rfl apb37 (hrow3.frame2 fun h0 => ?_) ?_ rfl rfl ?_ (by omega) (fun h5 r5 n5 s5 => ?_)
                · have := hk33 h0
                  simp (disch := omega) only [go_sem, reduceIte, sliceB]
                · simp (disch := omega) only [go_sem, reduceIte, sliceB]
                · omega
                try simp only at n5 s5 r5
                repeat' (first | simp (disch := omega) only [go_sem, reduceIte, sliceB, t0, t1, t5, t6, t7, t8, n5] | (with_reducible refine w_chain0 ?_ ?_; focus (decide +kernel)) | (with_reducible refine condK_of _ _ ?_ ?_ <;> (intro hb; try simp only [decide_eq_true_eq, decide_eq_false_iff_not] at hb)) | (with_reducible refine gdK_of_f _ _ _ _ _ ?_ ?_ <;> (intro hb; try simp only [decide_eq_true_eq, decide_eq_false_iff_not] at hb)) | (with_reducible refine gdK_of_t _ _ _ _ _ ?_ ?_ <;> (intro hb; try simp only [decide_eq_true_eq, decide_eq_false_iff_not] at hb)) | (with_reducible refine gK_of_f _ _ _ ?_ ?_ <;> (intro hb; try simp only [decide_eq_true_eq, decide_eq_false_iff_not] at hb)) | (with_reducible refine gK_of_t _ _ _ ?_ ?_ <;> (intro hb; try simp only [decide_eq_true_eq, decide_eq_false_iff_not] at hb)))
                refine ⟨l.length - (j + 1), by omega, j + 1, _, h.next + 1 + 1, V, _, by omega, by omega, rfl, hst0.symm, hUn 2, by simp, rfl, rfl, by rw [rwB_any, hs]; rfl, ?_, fun _ => by omega, by omega, fun X hX => ?_⟩
                · rw [List.length_append, colsC_snoc]
                  exact r5
                · rw [s5 X (by omega) (by omega)]
                  simp (disch := omega) only [go_sem, reduceIte, sliceB]
                  exact hold X hX
      · obtain rfl : j = 6 := by omega
        have hTF : tameF m l = ds := hds.symm
        cases hs : ds.any rwB with
        | true =>
          have hP : tameP m l = ds := by unfold tameP; rw [hTF, if_pos hs]
          rcases hrow.inv with ⟨r1, r2, r3⟩ | ⟨r1, r2, r3, r4⟩
          · have : ds = [] := List.length_eq_zero_iff.1 r1
            rw [this] at hs
            cases hs
          · repeat' (first | simp (disch := omega) only [go_sem, reduceIte, sliceB, t0, t1, t5, t6, t7, t8, hs, hlt6, undef, Tryz.results10] | (with_reducible refine w_chain0 ?_ ?_; focus (decide +kernel)) | (with_reducible refine condK_of _ _ ?_ ?_ <;> (intro hb; try simp only [decide_eq_true_eq, decide_eq_false_iff_not] at hb)) | (with_reducible refine gdK_of_f _ _ _ _ _ ?_ ?_ <;> (intro hb; try simp only [decide_eq_true_eq, decide_eq_false_iff_not] at hb)) | (with_reducible refine gdK_of_t _ _ _ _ _ ?_ ?_ <;> (intro hb; try simp only [decide_eq_true_eq, decide_eq_false_iff_not] at hb)) | (with_reducible refine gK_of_f _ _ _ ?_ ?_ <;> (intro hb; try simp only [decide_eq_true_eq, decide_eq_false_iff_not] at hb)) | (with_reducible refine gK_of_t _ _ _ ?_ ?_ <;> (intro hb; try simp only [decide_eq_true_eq, decide_eq_false_iff_not] at hb)))
            rw [hP]
            exact endsF_one (hkk (by omega)).1 r3 rfl (fun κ => colsC_ren κ _) r2 hold
        | false =>
          have hP : tameP m l = ds ++ [⟨5, 0⟩] := by unfold tameP; rw [hTF, if_neg (by rw [hs]; decide)]
          obtain ⟨k3, hrow3, hk31, hk32, hk33⟩ := row_pick hrow (a := s.next) (b := h.next) hkk hnx
          repeat' (first | simp (disch := omega) only [go_sem, reduceIte, sliceB, t0, t1, t5, t6, t7, t8, hs, hlt6, undef] | (with_reducible refine w_chain0 ?_ ?_; focus (decide +kernel)) | (with_reducible refine condK_of _ _ ?_ ?_ <;> (intro hb; try simp only [decide_eq_true_eq, decide_eq_false_iff_not] at hb)) | (with_reducible refine gdK_of_f _ _ _ _ _ ?_ ?_ <;> (intro hb; try simp only [decide_eq_true_eq, decide_eq_false_iff_not] at hb)) | (with_reducible refine gdK_of_t _ _ _ _ _ ?_ ?_ <;> (intro hb; try simp only [decide_eq_true_eq, decide_eq_false_iff_not] at hb)) | (with_reducible refine gK_of_f _ _ _ ?_ ?_ <;> (intro hb; try simp only [decide_eq_true_eq, decide_eq_false_iff_not] at hb)) | (with_reducible refine gK_of_t _ _ _ ?_ ?_ <;> (intro hb; try simp only [decide_eq_true_eq, decide_eq_false_iff_not] at hb)))
          refine append_on (B := k3) (new := [.int .i64 5, .int .i64 0]) und34 und34 size37 pz37 rfl apb37 (hrow3.frame2 fun h0 => ?_) ?_ rfl rfl ?_ (by omega) (fun h5 r5 n5 s5 => ?_)
          · have := hk33 h0
            simp (disch := omega) only [go_sem, reduceIte, sliceB]
          · simp (disch := omega) only [go_sem, reduceIte, sliceB]
          · omega
          try simp only at n5 s5 r5
          repeat' (first | simp (disch := omega) only [go_sem, reduceIte, sliceB, t0, t1, t5, t6, t7, t8, n5, Tryz.results10] | (with_reducible refine w_chain0 ?_ ?_; focus (decide +kernel)) | (with_reducible refine condK_of _ _ ?_ ?_ <;> (intro hb; try simp only [decide_eq_true_eq, decide_eq_false_iff_not] at hb)) | (with_reducible refine gdK_of_f _ _ _ _ _ ?_ ?_ <;> (intro hb; try simp only [decide_eq_true_eq, decide_eq_false_iff_not] at hb)) | (with_reducible refine gdK_of_t _ _ _ _ _ ?_ ?_ <;> (intro hb; try simp only [decide_eq_true_eq, decide_eq_false_iff_not] at hb)) | (with_reducible refine gK_of_f _ _ _ ?_ ?_ <;> (intro hb; try simp only [decide_eq_true_eq, decide_eq_false_iff_not] at hb)) | (with_reducible refine gK_of_t _ _ _ ?_ ?_ <;> (intro hb; try simp only [decide_eq_true_eq, decide_eq_false_iff_not] at hb)))
          rw [hP]
          cases r5 with
          | some q1 q2 =>
            refine endsF_one (by omega) q1 (colsC_snoc ds ⟨5, 0⟩).symm (fun κ => colsC_ren κ _) (by rw [List.length_append]; rfl) (fun X hX => ?_)
            rw [s5 X (by omega) (by omega)]
            simp (disch := omega) only [go_sem, reduceIte, sliceB]
            exact hold X hX
    · obtain rfl : j = l.length := by omega
      have hTF : tameF m l = ds := by
        rw [hds]; unfold tameF
        rw [List.take_of_length_le hj6, List.take_length]
      cases hs : ds.any rwB with
      | true =>
        have hP : tameP m l = ds := by unfold tameP; rw [hTF, if_pos hs]
        rcases hrow.inv with ⟨r1, r2, r3⟩ | ⟨r1, r2, r3, r4⟩
        · have : ds = [] := List.length_eq_zero_iff.1 r1
          rw [this] at hs
          cases hs
        · repeat' (first | simp (disch := omega) only [go_sem, reduceIte, sliceB, t0, t1, t5, t6, t7, t8, hs, undef, Tryz.results10] | (with_reducible refine w_chain0 ?_ ?_; focus (decide +kernel)) | (with_reducible refine condK_of _ _ ?_ ?_ <;> (intro hb; try simp only [decide_eq_true_eq, decide_eq_false_iff_not] at hb)) | (with_reducible refine gdK_of_f _ _ _ _ _ ?_ ?_ <;> (intro hb; try simp only [decide_eq_true_eq, decide_eq_false_iff_not] at hb)) | (with_reducible refine gdK_of_t _ _ _ _ _ ?_ ?_ <;> (intro hb; try simp only [decide_eq_true_eq, decide_eq_false_iff_not] at hb)) | (with_reducible refine gK_of_f _ _ _ ?_ ?_ <;> (intro hb; try simp only [decide_eq_true_eq, decide_eq_false_iff_not] at hb)) | (with_reducible refine gK_of_t _ _ _ ?_ ?_ <;> (intro hb; try simp only [decide_eq_true_eq, decide_eq_false_iff_not] at hb)))
          rw [hP]
          exact endsF_one (hkk (by omega)).1 r3 rfl (fun κ => colsC_ren κ _) r2 hold
      | false =>
        have hP : tameP m l = ds ++ [⟨5, 0⟩] := by unfold tameP; rw [hTF, if_neg (by rw [hs]; decide)]
        obtain ⟨k3, hrow3, hk31, hk32, hk33⟩ := row_pick hrow (a := s.next) (b := h.next) hkk hnx
        repeat' (first | simp (disch := omega) only [go_sem, reduceIte, sliceB, t0, t1, t5, t6, t7, t8, hs, undef] | (with_reducible refine w_chain0 ?_ ?_; focus (decide +kernel)) | (with_reducible refine condK_of _ _ ?_ ?_ <;> (intro hb; try simp only [decide_eq_true_eq, decide_eq_false_iff_not] at hb)) | (with_reducible refine gdK_of_f _ _ _ _ _ ?_ ?_ <;> (intro hb; try simp only [decide_eq_true_eq, decide_eq_false_iff_not] at hb)) | (with_reducible refine gdK_of_t _ _ _ _ _ ?_ ?_ <;> (intro hb; try simp only [decide_eq_true_eq, decide_eq_false_iff_not] at hb)) | (with_reducible refine gK_of_f _ _ _ ?_ ?_ <;> (intro hb; try simp only [decide_eq_true_eq, decide_eq_false_iff_not] at hb)) | (with_reducible refine gK_of_t _ _ _ ?_ ?_ <;> (intro hb; try simp only [decide_eq_true_eq, decide_eq_false_iff_not] at hb)))
        refine append_on (B := k3) (new := [.int .i64 5, .int .i64 0]) und34 und34 size37 pz37 rfl apb37 (hrow3.frame2 fun h0 => ?_) ?_ rfl rfl ?_ (by omega) (fun h5 r5 n5 s5 => ?_)
        · have := hk33 h0
          simp (disch := omega) only [go_sem, reduceIte, sliceB]
        · simp (disch := omega) only [go_sem, reduceIte, sliceB]
        · omega
        try simp only at n5 s5 r5
        repeat' (first | simp (disch := omega) only [go_sem, reduceIte, sliceB, t0, t1, t5, t6, t7, t8, n5, Tryz.results10] | (with_reducible refine w_chain0 ?_ ?_; focus (decide +kernel)) | (with_reducible refine condK_of _ _ ?_ ?_ <;> (intro hb; try simp only [decide_eq_true_eq, decide_eq_false_iff_not] at hb)) | (with_reducible refine gdK_of_f _ _ _ _ _ ?_ ?_ <;> (intro hb; try simp only [decide_eq_true_eq, decide_eq_false_iff_not] at hb)) | (with_reducible refine gdK_of_t _ _ _ _ _ ?_ ?_ <;> (intro hb; try simp only [decide_eq_true_eq, decide_eq_false_iff_not] at hb)) | (with_reducible refine gK_of_f _ _ _ ?_ ?_ <;> (intro hb; try simp only [decide_eq_true_eq, decide_eq_false_iff_not] at hb)) | (with_reducible refine gK_of_t _ _ _ ?_ ?_ <;> (intro hb; try simp only [decide_eq_true_eq, decide_eq_false_iff_not] at hb)))
        rw [hP]
        cases r5 with
        | some q1 q2 =>
          refine endsF_one (by omega) q1 (colsC_snoc ds ⟨5, 0⟩).symm (fun κ => colsC_ren κ _) (by rw [List.length_append]; rfl) (fun X hX => ?_)
          rw [s5 X (by omega) (by omega)]
          simp (disch := omega) only [go_sem, reduceIte, sliceB]
          exact hold X hX
end
end Go.Proofs.YtmcigeebeoobdaaGreatDoor
end

/-
  Of a plan that may be: its components, sorted, are the document's. No program in sight.
-/
section
namespace Go.Viv
open Go Go.RowKit Go.Eva Go.Sym Go.Proofs.YtmcigeebeoobdaaGreatDoor
theorem rise_apart : ∀ {l : List Int}, Rises l → apart l = true
  | [], _ => rfl
  | [_], _ => rfl
  | a :: b :: l, h => by
    simp only [apart, Bool.and_eq_true, Bool.not_eq_true', decide_eq_false_iff_not]
    exact ⟨by have := h.1; omega, rise_apart h.2⟩
theorem rise_pair : ∀ {l : List Int}, l.Pairwise (fun a b => a < b) → Rises l
  | [], _ => trivial
  | [_], _ => trivial
  | a :: b :: l, h => ⟨(List.pairwise_cons.1 h).1 b (by simp), rise_pair (List.pairwise_cons.1 h).2⟩
theorem colsE_pair {n : Int} : ∀ {l a : List Coln}, colsE n a l = 0 → (∀ y ∈ l, 1 ≤ y.k ∧ y.k ≤ 5) ∧ l.Pairwise (fun x y => twiceB x y = false) ∧ ∀ x ∈ a, ∀ y ∈ l, twiceB x y = false
  | [], _, _ => ⟨by simp, .nil, by simp⟩
  | y :: r, a, h => by
    have hy : colE n y a = 0 := by
      rw [colsE] at h
      split at h
      · assumption
      · exact h
    rw [colsE_yes hy] at h
    obtain ⟨h1, h2, h3⟩ := colsE_pair h
    unfold colE at hy
    split at hy
    · cases hy
    · rename_i hk
      split at hy
      · cases hy
      · split at hy
        · cases hy
        · rename_i hany
          have hany' : ∀ x ∈ a, twiceB x y = false := fun x hx => by
            cases ht : twiceB x y with
            | false => rfl
            | true => exact absurd (List.any_eq_true.2 ⟨x, hx, ht⟩) hany
          refine ⟨fun z hz => ?_, List.pairwise_cons.2 ⟨fun z hz => h3 y (by simp) z hz, h2⟩, fun x hx z hz => ?_⟩
          · rcases List.mem_cons.1 hz with rfl | hz
            · omega
            · exact h1 z hz
          · rcases List.mem_cons.1 hz with rfl | hz
            · exact hany' x hx
            · exact h3 x (by simp [hx]) z hz
theorem planE_yes {n : Int} {l : List Coln} (h : planE n l = 0) : l.length ≤ 16 ∧ colsE n [] l = 0 := by
  unfold planE at h
  split at h
  · cases h
  · rename_i h1
    split at h
    · contradiction
    · rename_i h2
      exact ⟨by omega, Decidable.not_not.1 h2⟩
theorem compF_nodup {n : Int} {l : List Coln} (h : planE n l = 0) {ks : List Int} (hks : ∀ k ∈ ks, 1 ≤ k ∧ k ≤ 4) : (compF ks l).Pairwise (fun a b => a ≠ b) := by
  obtain ⟨h1, h2, _⟩ := colsE_pair (planE_yes h).2
  unfold compF
  rw [List.pairwise_map]
  refine List.Pairwise.imp_of_mem (fun {x y} hx hy ht => ?_) (h2.filter _)
  have hk : ∀ x : Coln, x ∈ l.filter (fun x => ks.any fun y => decide (x.k = y)) → x.k ≠ 5 := fun x hx => by
    obtain ⟨z, hz, e⟩ := List.any_eq_true.1 (List.mem_filter.1 hx).2
    have := hks z hz
    have := of_decide_eq_true e
    omega
  have kx := hk x hx
  have ky := hk y hy
  unfold twiceB at ht
  rw [show (x.k == 5) = false from beq_eq_false_iff_ne.2 kx, show (y.k == 5) = false from beq_eq_false_iff_ne.2 ky] at ht
  simpa using ht
theorem mem_dcS {ks : List Int} {out : List Int} {x : Coln} {i : Int} : i ∈ dcS ks out x ↔ i ∈ out ∨ (x.k ∈ ks ∧ x.c = i) := by
  unfold dcS
  induction ks generalizing out with
  | nil => simp
  | cons y ks ih =>
    rw [List.foldl_cons, ih]
    by_cases h : x.k = y
    · rw [if_pos h, mem_insS]
      simp only [List.mem_cons, h, true_or, true_and]
      constructor
      · rintro ((h1 | h1) | h1)
        · exact .inr h1.symm
        · exact .inl h1
        · exact .inr h1.2
      · rintro (h1 | h1)
        · exact .inl (.inr h1)
        · exact .inl (.inl h1.symm)
    · rw [if_neg h]
      simp only [List.mem_cons, h, false_or]
theorem mem_dcF {ks : List Int} {l : List Coln} {i : Int} : i ∈ dcF ks l ↔ ∃ x ∈ l, x.k ∈ ks ∧ x.c = i := by
  unfold dcF
  have : ∀ (l : List Coln) (out : List Int), i ∈ l.foldl (dcS ks) out ↔ i ∈ out ∨ ∃ x ∈ l, x.k ∈ ks ∧ x.c = i := by
    intro l
    induction l with
    | nil => intro out; simp
    | cons x l ih =>
      intro out
      rw [List.foldl_cons, ih, mem_dcS]
      constructor
      · rintro ((h | h) | ⟨y, hy, h⟩)
        · exact .inl h
        · exact .inr ⟨x, by simp, h⟩
        · exact .inr ⟨y, by simp [hy], h⟩
      · rintro (h | ⟨y, hy, h⟩)
        · exact .inl (.inl h)
        · rcases List.mem_cons.1 hy with rfl | hy
          · exact .inl (.inr h)
          · exact .inr ⟨y, hy, h⟩
  rw [this]
  simp
theorem mem_compF {ks : List Int} {l : List Coln} {i : Int} : i ∈ compF ks l ↔ ∃ x ∈ l, x.k ∈ ks ∧ x.c = i := by
  unfold compF
  simp only [List.mem_map, List.mem_filter, List.any_eq_true, decide_eq_true_eq]
  constructor
  · rintro ⟨x, ⟨hx, y, hy, e⟩, hi⟩
    exact ⟨x, hx, e ▸ hy, hi⟩
  · rintro ⟨x, hx, hk, hi⟩
    exact ⟨x, ⟨hx, x.k, hk, rfl⟩, hi⟩
/-- A plan that may be: its components, sorted, are the document's. -/
theorem comp_same {n : Int} {l : List Coln} (h : planE n l = 0) {ks : List Int} (hks : ∀ k ∈ ks, 1 ≤ k ∧ k ≤ 4) : sortI (compF ks l) = dcF ks l ∧ apart (sortI (compF ks l)) = true := by
  have hp : (sortI (compF ks l)).Perm (compF ks l) := List.mergeSort_perm _ _
  have hn : (sortI (compF ks l)).Pairwise (fun a b => a ≠ b) := (hp.pairwise_iff (fun {a b} (h : a ≠ b) => h.symm)).2 (compF_nodup h hks)
  have hs : (sortI (compF ks l)).Pairwise (fun a b => a ≤ b) := by
    have := List.pairwise_mergeSort (le := fun a b : Int => decide (a ≤ b)) (by simp; omega) (by simp; omega) (compF ks l)
    exact this.imp (by simp)
  have hr : Rises (sortI (compF ks l)) := rise_pair ((hs.and hn).imp fun ⟨h1, h2⟩ => by omega)
  exact ⟨rises_ext hr (dcF_rise ks l) fun i => by rw [hp.mem_iff, mem_compF, mem_dcF], rise_apart hr⟩
end Go.Viv
end
