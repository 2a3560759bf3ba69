/-
  Contracts of package dense: a Dense in memory, and what New, Put, Take, Get, Len, Row do to it.
-/
import Derived.Test.YtbcaajgomekjaaaRows
import Derived.Test.YtbcaajgomekjaaaBase
import Derived.Outline
import Derived.Lib.Hide
import Derived.Deep.RegionHeld3
import Derived.BigRegion
namespace Go.Proofs.Ytbcaajgomekjaaa
open Go.RowKit Go.Maps Go.Viv

structure Val where
  k : Int
  a : Int
  b : Int
def Val.cells (v : Val) : List Value := [.int .i64 v.k, .int .i64 v.a, .int .i64 v.b]
def Val.agg (v : Val) : Value := .agg #[.int .i64 v.k, .int .i64 v.a, .int .i64 v.b]
def Val.zero : Val := ⟨0, 0, 0⟩
def rowCells (r : Int × Val) : List Value := .int .i64 r.1 :: r.2.cells

theorem zero3 (w : World) : (zeroValue 3).run Try.prog w = .ok (.int .i64 0) w := by kernel_rfl


theorem rowCells_len (r : Int × Val) : (rowCells r).length = 4 := rfl

def pos (rs : List (Int × Val)) (i : Int) : Option Nat := rs.findIdx? (fun r => r.1 == i)
def getV (rs : List (Int × Val)) (i : Int) : Val := ((rs.find? (fun r => r.1 == i)).map (·.2)).getD Val.zero
def hasV (rs : List (Int × Val)) (i : Int) : Bool := (rs.find? (fun r => r.1 == i)).isSome

theorem pos_some {rs : List (Int × Val)} {i : Int} {k : Nat} (h : pos rs i = some k) : ∃ v, rs[k]? = some (i, v) ∧ k < rs.length ∧ getV rs i = v ∧ hasV rs i = true := by
  obtain ⟨hk, h1, h2⟩ := List.findIdx?_eq_some_iff_getElem.1 h
  have hf : rs.find? (fun r => r.1 == i) = some rs[k] := List.find?_eq_some_iff_getElem.2 ⟨h1, k, hk, rfl, fun j hj => by simpa using h2 j hj⟩
  have h1' : rs[k].1 = i := by simpa using h1
  refine ⟨rs[k].2, ?_, hk, ?_, ?_⟩
  · rw [List.getElem?_eq_getElem hk, ← h1']
  · simp [getV, hf]
  · simp [hasV, hf]
theorem pos_none {rs : List (Int × Val)} {i : Int} (h : pos rs i = none) : getV rs i = Val.zero ∧ hasV rs i = false ∧ ∀ r ∈ rs, r.1 ≠ i := by
  have h1 := List.findIdx?_eq_none_iff.1 h
  have hf : rs.find? (fun r => r.1 == i) = none := List.find?_eq_none.2 (fun r hr => by simpa using h1 r hr)
  exact ⟨by simp [getV, hf], by simp [hasV, hf], fun r hr => by simpa using h1 r hr⟩

def DenseIs (w : World) (p : Nat) (rs : List (Int × Val)) (S : Nat → Prop) : Prop :=
  ∃ sv bm, Blk w p 53 #[sv, .map (some bm)] ∧ w.ownsRow 0 56 4 sv rs.length (rs.flatMap rowCells) ∧ IMap w Try.prog 3 3 bm rs.length (fun i => (pos rs i).map (fun n : Nat => (n : Int))) ∧
    (rs.map (·.1)).Nodup ∧ (∀ r ∈ rs, 0 ≤ r.1 ∧ r.1 < 65536) ∧ S p ∧ S bm ∧ ∀ k, sv.ownBlock = some k → S k

theorem DenseIs.keep {w w' : World} {p : Nat} {rs : List (Int × Val)} {S T : Nat → Prop} (h : DenseIs w p rs S) (hf : Fr T w w') (hd : ∀ k, S k → ¬ T k) : DenseIs w' p rs S := by
  obtain ⟨sv, bm, h1, h2, h3, h4, h5, h6, h7, h8⟩ := h
  exact ⟨sv, bm, h1.fr hf (hd _ h6), own_fr h2 hf (fun k hk => hd _ (h8 k hk)), h3.fr hf (hd _ h7), h4, h5, h6, h7, h8⟩
theorem DenseIs.mono {w : World} {p : Nat} {rs : List (Int × Val)} {S T : Nat → Prop} (h : DenseIs w p rs S) (hd : ∀ k, S k → T k) : DenseIs w p rs T := by
  obtain ⟨sv, bm, h1, h2, h3, h4, h5, h6, h7, h8⟩ := h
  exact ⟨sv, bm, h1, h2, h3, h4, h5, hd _ h6, hd _ h7, fun k hk => hd _ (h8 k hk)⟩
theorem DenseIs.len {w : World} {p : Nat} {rs : List (Int × Val)} {S : Nat → Prop} (h : DenseIs w p rs S) : rs.length ≤ 65536 := by
  obtain ⟨sv, bm, h1, h2, h3, h4, h5, h6, h7, h8⟩ := h
  have := nodup_le (rs.map (·.1)) ((List.range 65536).map (fun n : Nat => (n : Int))) h4 (fun x hx => by
    obtain ⟨r, hr, rfl⟩ := List.mem_map.1 hx
    have := h5 r hr
    exact List.mem_map.2 ⟨r.1.toNat, by simp; omega, by omega⟩)
  simpa using this

theorem row_cells {w : World} {g cap : Nat} {rs : List (Int × Val)} (h : w.ownsRow 0 56 4 (.slice (some ⟨g, 0, none⟩) rs.length cap) rs.length (rs.flatMap rowCells)) {k : Nat} {i : Int} {v : Val} (hk : rs[k]? = some (i, v)) :
    w.cell? ⟨g, k * 4, none⟩ = some (.int .i64 i) ∧ w.cell? ⟨g, k * 4 + 1, none⟩ = some (.int .i64 v.k) ∧ w.cell? ⟨g, k * 4 + 1 + 1, none⟩ = some (.int .i64 v.a) ∧ w.cell? ⟨g, k * 4 + 1 + 2, none⟩ = some (.int .i64 v.b) := by
  have hl : k < rs.length := (List.getElem?_eq_some_iff.1 hk).1
  have hc : ∀ c, c < 4 → w.cell? ⟨g, k * 4 + c, none⟩ = (rowCells (i, v))[c]? := fun c hc => by
    rw [h.cellAt _ (by omega), chunk_get rowCells 4 rowCells_len rs k c hc, hk]
    rfl
  exact ⟨hc 0 (by omega), hc 1 (by omega), hc 2 (by omega), hc 3 (by omega)⟩

theorem get_any (p : Nat) (i : Int) (rs : List (Int × Val)) (S : Nat → Prop) (w : World) (h : DenseIs w p rs S) (hi : (Lit.int .i64 i).wf = true) :
    Calls Try.prog 9 #[.pointer (some ⟨p, 0, none⟩), .int .i64 i] w fun e w' => e = .returned (.tuple #[(getV rs i).agg, .bool (hasV rs i)]) ∧ Fr (fun _ => False) w w' := by
  obtain ⟨sv, bm, h1, h2, h3, h4, h5, h6, h7, h8⟩ := h
  have c1 := h1.cell 1
  have hpl := h1.lt
  have hrun := fun o => (h3.of_block (w' := w.alloc o) (Below.heap_alloc w o bm h3.lt)).look Try.underlying3 Try.underlying3 Try.underlying46 zero3 hi
  simp at c1
  cases hp : pos rs i with
  | none =>
    obtain ⟨g1, g2, _⟩ := pos_none hp
    rw [g1, g2]
    simp only [hp, Option.map_none, Option.getD_none, Option.isSome_none] at hrun
    clear h2 h3 h5 h8 hp g1 g2
    go_enter Try.func9, Try.ntmps9
    go_wp2
    exact bodyPost_ret (v := .tuple #[Val.zero.agg, .bool false]) (by simp [results, Try.results9, go_sem, Val.zero, Val.agg]) rfl ⟨rfl, (Fr.refl _ _).alloc _⟩
  | some k =>
    obtain ⟨v, hk, hkl, g1, g2⟩ := pos_some hp
    rw [g1, g2]
    obtain ⟨g, cap, cur, rfl, hcap, _, hb, hcs, hct⟩ := own_cases h2 (by omega)
    obtain ⟨k0, k1, k2, k3⟩ := row_cells h2 hk
    have hgl := hb.lt
    have c0 := h1.cell 0
    simp at c0
    simp only [hp, Option.map_some, Option.getD_some, Option.isSome_some] at hrun
    clear h2 h3 h5 h8 hp g1 g2 hct hcs hk k0
    go_enter Try.func9, Try.ntmps9
    go_wp2
    exact bodyPost_ret (v := .tuple #[v.agg, .bool true]) (by simp [results, Try.results9, go_sem, Val.agg]) rfl ⟨rfl, (Fr.refl _ _).alloc _⟩

def putV (rs : List (Int × Val)) (i : Int) (v : Val) : List (Int × Val) :=
  if i < 0 ∨ 65536 ≤ i then rs else
  match pos rs i with
  | some k => rs.set k (i, v)
  | none => rs ++ [(i, v)]

def Ext (S : Nat → Prop) (w w' : World) (k : Nat) : Prop := S k ∨ (w.heap.size ≤ k ∧ k < w'.heap.size)

theorem pos_set {rs : List (Int × Val)} {k : Nat} {i : Int} {v v0 : Val} (hk : rs[k]? = some (i, v0)) (j : Int) : pos (rs.set k (i, v)) j = pos rs j := by
  unfold pos
  have hl : k < rs.length := (List.getElem?_eq_some_iff.1 hk).1
  have : ∀ (l : List (Int × Val)) (k : Nat), l[k]? = some (i, v0) → (l.set k (i, v)).findIdx? (fun r => r.1 == j) = l.findIdx? (fun r => r.1 == j) := by
    intro l
    induction l with
    | nil => intro k h; simp at h
    | cons y r ih =>
      intro k h
      cases k with
      | zero => simp at h; subst h; simp [List.findIdx?_cons]
      | succ k => simp at h; simp [List.findIdx?_cons, ih k h]
  exact this rs k hk
theorem fst_set {rs : List (Int × Val)} {k : Nat} {i : Int} {v v0 : Val} (hk : rs[k]? = some (i, v0)) : (rs.set k (i, v)).map (·.1) = rs.map (·.1) := by
  rw [List.map_set]
  obtain ⟨hl, he⟩ := List.getElem?_eq_some_iff.1 hk
  apply List.ext_getElem?
  intro j
  rw [List.getElem?_set]
  split
  · rename_i h; subst h; simp [hl, he]
  · rfl

theorem dense_set {w : World} {p k g cap bm : Nat} {i : Int} {v v0 : Val} {rs : List (Int × Val)} {S : Nat → Prop} (h1 : Blk w p 53 #[.slice (some ⟨g, 0, none⟩) rs.length cap, .map (some bm)])
    (h2 : w.ownsRow 0 56 4 (.slice (some ⟨g, 0, none⟩) rs.length cap) rs.length (rs.flatMap rowCells)) (h3 : IMap w Try.prog 3 3 bm rs.length (fun i => (pos rs i).map (fun n : Nat => (n : Int))))
    (h4 : (rs.map (·.1)).Nodup) (h5 : ∀ r ∈ rs, 0 ≤ r.1 ∧ r.1 < 65536) (h6 : S p) (h7 : S bm) (h8 : ∀ k, (Value.slice (some ⟨g, 0, none⟩) rs.length cap).ownBlock = some k → S k) (hk : rs[k]? = some (i, v0)) :
    DenseIs (((w.setCell ⟨g, k * 4 + 1, none⟩ (.int .i64 v.k)).setCell ⟨g, k * 4 + 1 + 1, none⟩ (.int .i64 v.a)).setCell ⟨g, k * 4 + 1 + 2, none⟩ (.int .i64 v.b)) p (rs.set k (i, v)) S := by
  have hl : k < rs.length := (List.getElem?_eq_some_iff.1 hk).1
  have hg : g ≠ p := fun e => own_blk_ne h2 h1 (by decide) (by rw [← e]; rfl)
  have hgm : g ≠ bm := fun e => own_map_ne h2 h3 (by rw [← e]; rfl)
  have hf : Fr (fun x => x = g) w (((w.setCell ⟨g, k * 4 + 1, none⟩ (.int .i64 v.k)).setCell ⟨g, k * 4 + 1 + 1, none⟩ (.int .i64 v.a)).setCell ⟨g, k * 4 + 1 + 2, none⟩ (.int .i64 v.b)) :=
    by
      refine Fr.setCell (Fr.setCell (Fr.setCell (Fr.refl _ w) ?_ _) ?_ _) ?_ _ <;> exact .inl rfl
  have h2' := ((h2.stored (k * 4 + 1) (.int .i64 v.k)).1.stored (k * 4 + 1 + 1) (.int .i64 v.a)).1.stored (k * 4 + 1 + 2) (.int .i64 v.b) |>.1
  refine ⟨_, bm, h1.fr hf (Ne.symm hg), ?_, ?_, by rw [fst_set hk]; exact h4, ?_, h6, h7, h8⟩
  · rw [List.length_set]
    have e : (rs.set k (i, v)).flatMap rowCells = (((rs.flatMap rowCells).set (k * 4 + 1) (.int .i64 v.k)).set (k * 4 + 1 + 1) (.int .i64 v.a)).set (k * 4 + 1 + 2) (.int .i64 v.b) := by
      have hlen := chunk_len rowCells 4 rowCells_len rs
      have hc := fun c hc => chunk_get rowCells 4 rowCells_len rs k c hc
      rw [hk] at hc
      apply List.ext_getElem?
      intro j
      rw [chunk_set rowCells 4 rowCells_len rs k (i, v) hl]
      simp only [List.getElem?_set, List.length_set, hlen]
      have h40 := hc 0 (by omega)
      simp [rowCells, Val.cells] at h40
      rw [List.getElem?_append, List.getElem?_append, List.length_append, List.length_take, hlen, List.getElem?_take, List.getElem?_drop, rowCells_len, show min (k * 4) (rs.length * 4) = k * 4 by omega]
      by_cases a1 : j < k * 4
      · rw [if_pos (by omega), if_pos a1, if_pos a1, if_neg (by omega), if_neg (by omega), if_neg (by omega)]
      · by_cases a2 : j < k * 4 + 4
        · rw [if_pos a2, if_neg a1]
          obtain rfl | rfl | rfl | rfl : j = k * 4 ∨ j = k * 4 + 1 ∨ j = k * 4 + 1 + 1 ∨ j = k * 4 + 1 + 2 := by omega
          · rw [if_neg (by omega), if_neg (by omega), if_neg (by omega)]
            simp [rowCells, h40]
          · rw [if_neg (by omega), if_neg (by omega), if_pos rfl, if_pos (by omega)]
            simp [rowCells, Val.cells]
          · rw [if_neg (by omega), if_pos rfl, if_pos (by omega), show k * 4 + 1 + 1 - k * 4 = 2 by omega]
            simp [rowCells, Val.cells]
          · rw [if_pos rfl, if_pos (by omega), show k * 4 + 1 + 2 - k * 4 = 3 by omega]
            simp [rowCells, Val.cells]
        · rw [if_neg a2, if_neg (by omega), if_neg (by omega), if_neg (by omega), show k * 4 + 4 + (j - (k * 4 + 4)) = j by omega]
    rw [e]
    exact h2'
  · rw [List.length_set]
    have e : (fun i_1 => Option.map (fun n : Nat => (n : Int)) (pos (rs.set k (i, v)) i_1)) = fun i => (pos rs i).map (fun n : Nat => (n : Int)) := by
      funext j; rw [pos_set hk]
    rw [e]
    exact h3.fr hf (Ne.symm hgm)
  · intro r hr
    have hm : r.1 ∈ (rs.set k (i, v)).map (·.1) := List.mem_map.2 ⟨r, hr, rfl⟩
    rw [fst_set hk] at hm
    obtain ⟨r', hr', e⟩ := List.mem_map.1 hm
    rw [← e]
    exact h5 r' hr'

theorem put_found (p : Nat) (i : Int) (v : Val) (rs : List (Int × Val)) (S : Nat → Prop) (w : World) (h : DenseIs w p rs S) (hi : (Lit.int .i64 i).wf = true) (h0 : 0 ≤ i) (h1' : i < 65536) (k : Nat) (hp : pos rs i = some k) :
    Calls Try.prog 8 #[.pointer (some ⟨p, 0, none⟩), .int .i64 i, v.agg] w fun e w' => e = .returned (.tuple #[(getV rs i).agg, .bool (hasV rs i)]) ∧ DenseIs w' p (rs.set k (i, v)) S ∧ Fr S w w' := by
  obtain ⟨sv, bm, h1, h2, h3, h4, h5, h6, h7, h8⟩ := h
  have c1 := h1.cell 1
  have hpl := h1.lt
  have hrun := fun o o' => (h3.of_block (w' := (w.alloc o).alloc o') (by rw [Below.heap_alloc _ _ _ (by have := h3.lt; simp; omega), Below.heap_alloc _ _ _ h3.lt])).look Try.underlying3 Try.underlying3 Try.underlying46 zero3 hi
  simp at c1
  obtain ⟨v0, hk, hkl, g1, g2⟩ := pos_some hp
  rw [g1, g2]
  obtain ⟨g, cap, cur, rfl, hcap, _, hb, hcs, hct⟩ := own_cases h2 (by omega)
  obtain ⟨k0, k1, k2, k3⟩ := row_cells h2 hk
  have hgl := hb.lt
  have c0 := h1.cell 0
  have f1 := h2.frozenAt (k * 4 + 1)
  have f2 := h2.frozenAt (k * 4 + 1 + 1)
  have f3 := h2.frozenAt (k * 4 + 1 + 2)
  simp at c0
  simp only [hp, Option.map_some, Option.getD_some, Option.isSome_some] at hrun
  have H2 := Lib.hid h2
  have H3 := Lib.hid h3
  have HK := Lib.hid hk
  have H5 := Lib.hid h5
  have H8 := Lib.hid h8
  clear h8
  have q1 : p < w.heap.size + 1 := by omega
  have q2 : p < w.heap.size + 1 + 1 := by omega
  have q1' : g < w.heap.size + 1 := by omega
  have q2' : g < w.heap.size + 1 + 1 := by omega
  clear h2 h3 h5 hp g1 g2 hct hcs hk k0
  unfold Val.agg
  go_enter Try.func8, Try.ntmps8
  go_wp2
  go_region
  go_wp2
  refine bodyPost_ret (v := .tuple #[.agg #[.int .i64 v0.k, .int .i64 v0.a, .int .i64 v0.b], .bool true]) (by simp [results, Try.results8, go_sem]) rfl ⟨rfl, ?_, ?_⟩
  · have hd := dense_set (v := v) h1 H2.out H3.out h4 H5.out h6 h7 H8.out HK.out
    exact (hd.keep (T := fun _ => False) (((Fr.alloc1 _ _ _).alloc _).alloc _).drew (fun _ _ h => h))
  · exact (((((Fr.refl _ _).setCell (.inl (H8.out g rfl)) _).setCell (.inl (H8.out g rfl)) _).setCell (.inl (H8.out g rfl)) _).alloc _ |>.alloc _ |>.alloc _).drew
end Go.Proofs.Ytbcaajgomekjaaa
