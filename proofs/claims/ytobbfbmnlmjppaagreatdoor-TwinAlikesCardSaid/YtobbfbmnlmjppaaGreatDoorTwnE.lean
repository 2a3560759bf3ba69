/-
  A world's rows: one element turned in a row of one's own, and one more appended.
-/
import Derived.Test.YtobbfbmnlmjppaaGreatDoorTwnD
namespace Go.Proofs.YtobbfbmnlmjppaaGreatDoor
open Go.RowKit Go.Viv Go.Lib
theorem flat_set (l : List Dc) (k j : Nat) (x y : Dc) (u : Value) (hk : l[k]? = some x) (hj : j < 3) (h : (descC x).set j u = descC y) : (l.flatMap descC).set (k * 3 + j) u = (l.set k y).flatMap descC := by
  have hkl : k < l.length := (List.getElem?_eq_some_iff.1 hk).1
  refine List.ext_getElem? (fun i => ?_)
  have e : i = i / 3 * 3 + i % 3 := by omega
  have hm : i % 3 < 3 := Nat.mod_lt _ (by decide)
  have g1 := chunk_get descC 3 descC_len l (i / 3) (i % 3) hm
  have g2 := chunk_get descC 3 descC_len (l.set k y) (i / 3) (i % 3) hm
  rw [← e] at g1 g2
  rw [g2, List.getElem?_set, List.getElem?_set]
  have hlen : k * 3 + j < (l.flatMap descC).length := by rw [descs_len]; omega
  by_cases hi : k * 3 + j = i
  · have h1 : i / 3 = k := by omega
    have h2 : i % 3 = j := by omega
    rw [if_pos hi, if_pos hlen, h1, h2, if_pos rfl, if_pos hkl]
    show some u = (descC y)[j]?
    rw [← h, List.getElem?_set, if_pos rfl, if_pos (by rw [descC_len]; exact hj)]
  · rw [if_neg hi, g1]
    by_cases hk2 : k = i / 3
    · rw [if_pos hk2, ← hk2, if_pos hkl, hk]
      show (descC x)[i % 3]? = (descC y)[i % 3]?
      rw [← h, List.getElem?_set, if_neg (by omega)]
    · rw [if_neg hk2]
theorem own_elem {W : World} {base cap : Nat} {A : Option Addr} {l : List Dc} (own : W.ownsRow base 52 3 (.slice A l.length cap) l.length (l.flatMap descC)) {k : Nat} {x : Dc} (hk : l[k]? = some x) :
    ∃ g, A = some ⟨g, 0, none⟩ ∧ base ≤ g ∧ g < W.heap.size ∧ (∀ j u, (descC x)[j]? = some u → W.cell? ⟨g, k * 3 + j, none⟩ = some u) ∧ (∀ i, W.frozen? ⟨g, i, none⟩ = false) ∧
      ∀ j u y, j < 3 → (descC x).set j u = descC y → (W.setCell ⟨g, k * 3 + j, none⟩ u).ownsRow base 52 3 (.slice A l.length cap) l.length ((l.set k y).flatMap descC) := by
  have hkl : k < l.length := (List.getElem?_eq_some_iff.1 hk).1
  have own0 := own
  obtain ⟨g, cp, cur, hv, h1, h2, hb, h3, h4⟩ := own_cases own (by omega)
  cases hv
  refine ⟨g, rfl, own_far own0 _ rfl, hb.lt, fun j u hj => ?_, fun i => hb.frozen i, fun j u y hj h => ?_⟩
  · have hj3 : j < 3 := by
      have := (List.getElem?_eq_some_iff.1 hj).1
      simpa [descC] using this
    rw [hb.cell, ← Array.getElem?_toList]
    have g1 := chunk_get descC 3 descC_len l k j hj3
    rw [hk] at g1
    rw [← h4, List.getElem?_take, if_pos (by omega)] at g1
    rw [g1]; exact hj
  · have := (own0.stored (k * 3 + j) u).1
    rw [flat_set l k j x y u hk hj h] at this
    exact this
theorem rowC_own {W : World} {base size n cap : Nat} {e : TypeId} {A : Option Addr} {xs : List Value} (own : W.ownsRow base e size (.slice A n cap) n xs) : n ≤ cap ∧ cap ≤ 9223372036854775807 ∧ RowC W A xs := by
  obtain ⟨A', cap', hv, h1, h2, h3⟩ := rowC_of_own own
  cases hv
  unfold maxLen at h2
  exact ⟨h1, h2, h3⟩
theorem rowC_frS {w w' : World} {S : Nat → Prop} {A : Option Addr} {cs : List Value} (h : RowC w A cs) (hf : Fr S w w') (hn : ∀ a, A = some a → ¬ S a.block) : RowC w' A cs := by
  rcases h with h | ⟨b, o, h1, h2, h3⟩
  · exact .inl h
  · exact .inr ⟨b, o, h1, Nat.lt_of_lt_of_le h2 hf.size, fun i u hi => by rw [hf.cell (p := ⟨b, o + i, none⟩) h2 (hn ⟨b, o, none⟩ h1)]; exact h3 i u hi⟩
theorem app_grow {P : Program} {T E : TypeId} {z : Value} {size bytes : Nat} (hT : P.underlying T = some (.slice E)) (hE : (P.info? E).map (fun i => (i.zero, i.size, i.bytes)) = some (some z, size, bytes)) (hz : z.cells.size = size) (hs : 0 < size)
    {W : World} {base n cap : Nat} {A : Option Addr} {xs : List Value} (hown : W.ownsRow base E size (.slice A n cap) n xs) {cs : Array Value} (hl : cs.size = size) (h1 : ∀ u ∈ cs.toList, u.oneCell' = true)
    (hn : n + 1 ≤ maxLen) (hb : (n + 1) * bytes ≤ 140737488355328) (hbase : base ≤ W.heap.size) :
    ∃ A' cap' w', appendV P T T (.slice A n cap) (.slice (some ⟨W.heap.size, 0, none⟩) 1 1) (W.alloc (.cells cs E)) = .ok (.slice A' (n + 1) cap') w' ∧ w'.ownsRow base E size (.slice A' (n + 1) cap') (n + 1) (xs ++ cs.toList) ∧ Fr (fun k => (Value.slice A n cap).ownBlock = some k) W w' := by
  obtain ⟨i0, hi, hz0, hz1, hz2⟩ := info_parts hE
  have hsrc := RowC.blk (Blk.new W E cs)
  obtain ⟨v', w', h, ho, hgr, _⟩ := run_append_own_at (P := P) (W.alloc (.cells cs E)) base T T E i0 z size bytes hT hi hz0 hz1 hz2 hz hs (.slice A n cap) n xs (hown.alloc _) ⟨W.heap.size, 0, none⟩ 1 1 cs.toList (by simp [hl]) (fun j u hj => by
    rw [show (⟨W.heap.size, 0, none⟩ : Addr).add j = ⟨W.heap.size, 0 + j, none⟩ by simp [Addr.add]; omega, Nat.zero_add, (Blk.new W E cs).cell, ← Array.getElem?_toList]; exact hj) h1 hn hb (by simp; omega)
  obtain ⟨A', cap', rfl, _, _, _⟩ := rowC_of_own ho
  exact ⟨A', cap', w', h, ho, Fr.grown ((Fr.refl _ _).alloc _) hgr (fun k hk => .inl hk)⟩
/-- One more element. -/
theorem moreR (l : List Int) {W : World} {base cap : Nat} {A : Option Addr} (own : W.ownsRow base 2 1 (.slice A l.length cap) l.length (ints l)) (h60 : l.length ≤ 60) (hbase : base ≤ W.heap.size) :
    ∃ A' cap' w', appendV Tryz.prog 48 48 (.slice A l.length cap) (.slice (some ⟨W.heap.size, 0, none⟩) 1 1) (W.alloc (.cells #[.int .i64 0] 2)) = .ok (.slice A' (l.length + 1) cap') w' ∧ w'.ownsRow base 2 1 (.slice A' (l.length + 1) cap') (l.length + 1) (ints (l ++ [0])) ∧ Fr (fun k => (Value.slice A l.length cap).ownBlock = some k) W w' := by
  obtain ⟨A', cap', w', h1, h2, h3⟩ := app_grow (P := Tryz.prog) (T := 48) Tryz.underlying48 infoI64 rfl (by omega) own (cs := #[.int .i64 0]) rfl (by simp [Value.oneCell']) (by unfold maxLen; omega) (by omega) hbase
  exact ⟨A', cap', w', h1, by simpa [ints] using h2, h3⟩
theorem moreD (l : List Dc) {W : World} {base cap : Nat} {A : Option Addr} (own : W.ownsRow base 52 3 (.slice A l.length cap) l.length (l.flatMap descC)) (h70 : l.length ≤ 70) (hbase : base ≤ W.heap.size) :
    ∃ A' cap' w', appendV Tryz.prog 47 47 (.slice A l.length cap) (.slice (some ⟨W.heap.size, 0, none⟩) 1 1) (W.alloc (.cells #[.int .i64 1, .int .i64 1, .int .i64 0] 52)) = .ok (.slice A' (l.length + 1) cap') w' ∧ w'.ownsRow base 52 3 (.slice A' (l.length + 1) cap') (l.length + 1) ((l ++ [(⟨1, 1, 0⟩ : Dc)]).flatMap descC) ∧ Fr (fun k => (Value.slice A l.length cap).ownBlock = some k) W w' := by
  obtain ⟨A', cap', w', h1, h2, h3⟩ := app_grow (P := Tryz.prog) (T := 47) Tryz.underlying47 infoDesc rfl (by omega) own (cs := #[.int .i64 1, .int .i64 1, .int .i64 0]) rfl (by simp [Value.oneCell']) (by unfold maxLen; omega) (by omega) hbase
  exact ⟨A', cap', w', h1, by simpa [descC] using h2, h3⟩
theorem sameL_set {l : List Dc} {k : Nat} {x y : Dc} (hk : l[k]? = some x) : sameL l (l.set k y) = sameD x y ∧ sameL (l.set k y) l = sameD y x := by
  have hkl : k < l.length := (List.getElem?_eq_some_iff.1 hk).1
  have hy : (l.set k y)[k]? = some y := by rw [List.getElem?_set, if_pos rfl, if_pos hkl]
  have hsym : sameD y x = sameD x y := by simp only [sameD, BEq.comm (a := y.k), BEq.comm (a := y.b)]
  cases hs : sameD x y with
  | true =>
    refine ⟨sameL_of rfl (by simp) (fun i a b _ h1 h2 => ?_), (sameL_of rfl (by simp) (fun i a b _ h1 h2 => ?_)).trans (hsym.trans hs).symm⟩
    · rw [List.getElem?_set] at h2
      by_cases hi : k = i
      · subst hi
        rw [if_pos rfl, if_pos hkl] at h2
        rw [hk] at h1
        cases h1; cases h2
        exact hs
      · rw [if_neg hi, h1] at h2
        cases h2
        simp [sameD]
    · rw [List.getElem?_set] at h1
      by_cases hi : k = i
      · subst hi
        rw [if_pos rfl, if_pos hkl] at h1
        rw [hk] at h2
        cases h1; cases h2
        exact hsym.trans hs
      · rw [if_neg hi, h2] at h1
        cases h1
        simp [sameD]
  | false =>
    exact ⟨sameL_not hk hy hs, (sameL_not hy hk (hsym.trans hs)).trans (hsym.trans hs).symm⟩
end Go.Proofs.YtobbfbmnlmjppaaGreatDoor
