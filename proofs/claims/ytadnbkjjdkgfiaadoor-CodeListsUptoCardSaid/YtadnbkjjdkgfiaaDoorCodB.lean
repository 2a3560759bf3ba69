/-
  Contracts of package code: Of.
-/
import Derived.Test.YtadnbkjjdkgfiaaDoorCodA
namespace Go.Proofs.YtadnbkjjdkgfiaaDoor
open Go.RowKit Go.Viv

theorem z83 : shapeCells.size = Tryd.zeroCells83.size := by kernel_rfl
theorem shape_blk (w1 : World) : Blk ((w1.alloc (.cells Tryd.zeroCells83 83)).setCells w1.heap.size 0 shapeCells.toList) w1.heap.size 83 shapeCells := blk_whole (Blk.new w1 83 Tryd.zeroCells83) z83
theorem shape_there (w1 : World) : (w1.alloc (.cells Tryd.zeroCells83 83)).there w1.heap.size 0 shapeCells.size := blk_there (Blk.new w1 83 Tryd.zeroCells83) _ (Nat.le_of_eq z83)
theorem tab_at (k : Nat) (x : Shp) (h : shapeTab[k]? = some x) : shapeCells[k * 5]? = some (str x.name) ∧ shapeCells[k * 5 + 1]? = some (.bool x.r) ∧ shapeCells[k * 5 + 2]? = some (.bool x.s) ∧ shapeCells[k * 5 + 3]? = some (.bool x.n) ∧ shapeCells[k * 5 + 4]? = some (.bool x.up) := by
  have g := fun c hc => chunk_get cellsS 5 (fun _ => rfl) shapeTab k c hc
  rw [h] at g
  unfold shapeCells
  simp only [List.getElem?_toArray]
  exact ⟨by have := g 0 (by omega); rw [Nat.add_zero] at this; rw [this]; rfl, by rw [g 1 (by omega)]; rfl, by rw [g 2 (by omega)]; rfl, by rw [g 3 (by omega)]; rfl, by rw [g 4 (by omega)]; rfl⟩
theorem blk5 {W : World} {g o : Nat} {t : TypeId} {C : Array Value} (h : Blk W g t C) {a b c d e : Value} (h0 : C[o]? = some a) (h1 : C[o + 1]? = some b) (h2 : C[o + 2]? = some c) (h3 : C[o + 3]? = some d) (h4 : C[o + 4]? = some e) :
    W.cell? ⟨g, o, none⟩ = some a ∧ W.cell? ⟨g, o + 1, none⟩ = some b ∧ W.cell? ⟨g, o + 2, none⟩ = some c ∧ W.cell? ⟨g, o + 3, none⟩ = some d ∧ W.cell? ⟨g, o + 4, none⟩ = some e :=
  ⟨by rw [h.cell]; exact h0, by rw [h.cell]; exact h1, by rw [h.cell]; exact h2, by rw [h.cell]; exact h3, by rw [h.cell]; exact h4⟩
theorem blk5z {W : World} {g : Nat} {t : TypeId} {a b c d e : Value} (h : Blk W g t #[a, b, c, d, e]) :
    W.cell? ⟨g, 0, none⟩ = some a ∧ W.cell? ⟨g, 1, none⟩ = some b ∧ W.cell? ⟨g, 2, none⟩ = some c ∧ W.cell? ⟨g, 3, none⟩ = some d ∧ W.cell? ⟨g, 4, none⟩ = some e :=
  ⟨h.cell 0, h.cell 1, h.cell 2, h.cell 3, h.cell 4⟩
theorem free5 {W : World} {g : Nat} {t : TypeId} {C : Array Value} (h : Blk W g t C) : W.frozen? ⟨g, 0, none⟩ = false ∧ W.frozen? ⟨g, 1, none⟩ = false ∧ W.frozen? ⟨g, 2, none⟩ = false ∧ W.frozen? ⟨g, 3, none⟩ = false ∧ W.frozen? ⟨g, 4, none⟩ = false :=
  ⟨h.frozen 0, h.frozen 1, h.frozen 2, h.frozen 3, h.frozen 4⟩
theorem fr_new5 (w w1 : World) (L : Nat) (hL : w.heap.size ≤ L) (h : Fr (fun _ => False) w w1) (a b c d e : Value) : Fr (fun _ => False) w (((((w1.setCell ⟨L, 0, none⟩ a).setCell ⟨L, 1, none⟩ b).setCell ⟨L, 2, none⟩ c).setCell ⟨L, 3, none⟩ d).setCell ⟨L, 4, none⟩ e) :=
  ((((h.setCell (.inr hL) _).setCell (.inr hL) _).setCell (.inr hL) _).setCell (.inr hL) _).setCell (.inr hL) _
/-- The shape of an instruction's number. -/
def ofOp (op : Int) : Option Shp := if 1 ≤ op ∧ op ≤ 18 then shapeTab[op.toNat]? else none

set_option maxRecDepth 100000 in
set_option maxHeartbeats 2000000 in
theorem of_no (op : Int) (w : World) (h : op < 1 ∨ 18 < op) : Calls Tryd.prog 54 #[.int .i64 op] w fun e w' => e = .returned (.tuple #[Shp.agg ⟨[], false, false, false, false⟩, .bool false]) ∧ Fr (fun _ => False) w w' := by
  rcases h with h | h
  · go_enter Tryd.func54, Tryd.ntmps54
    go_wp2
    exact bodyPost_ret (v := .tuple #[Shp.agg ⟨[], false, false, false, false⟩, .bool false]) (by simp [results, Tryd.results54, go_sem]) rfl ⟨rfl, Fr.alloc1 _ _ _⟩
  · have h' : 1 ≤ op := by omega
    go_enter Tryd.func54, Tryd.ntmps54
    go_wp2
    exact bodyPost_ret (v := .tuple #[Shp.agg ⟨[], false, false, false, false⟩, .bool false]) (by simp [results, Tryd.results54, go_sem]) rfl ⟨rfl, Fr.alloc1 _ _ _⟩

set_option maxRecDepth 100000 in
set_option maxHeartbeats 2000000 in
theorem of_yes (k : Nat) (x : Shp) (w : World) (h1 : 1 ≤ k) (h2 : k ≤ 18) (hx : shapeTab[k]? = some x) : Calls Tryd.prog 54 #[.int .i64 (k : Int)] w fun e w' => e = .returned (.tuple #[x.agg, .bool true]) ∧ Fr (fun _ => False) w w' := by
  have h1' : (1 : Int) ≤ k := by omega
  have h2' : (k : Int) ≤ 18 := by omega
  have h3' : (k : Int) < 19 := by omega
  have HX := Lib.hid hx
  clear hx
  go_enter Tryd.func54, Tryd.ntmps54
  go_wp2_with fail
  refine (shapes_any _).mono ?_
  rintro e w1 ⟨rfl, hf1⟩
  have HF := Lib.hid hf1
  clear hf1
  obtain ⟨C, hC⟩ : ∃ C, C = shapeCells := ⟨_, rfl⟩
  rw [← hC]
  have HC := Lib.hid hC
  clear hC
  have HT := Lib.hid (show C[k * 5]? = some (str x.name) ∧ C[k * 5 + 1]? = some (.bool x.r) ∧ C[k * 5 + 2]? = some (.bool x.s) ∧ C[k * 5 + 3]? = some (.bool x.n) ∧ C[k * 5 + 4]? = some (.bool x.up) from by rw [HC.out]; exact tab_at k x HX.out)
  have HI := Lib.hid (show (Tryd.prog.info? 83).map (·.size) = some C.size ∧ C.all (·.oneCell') = true ∧ (w1.alloc (.cells Tryd.zeroCells83 83)).there w1.heap.size 0 C.size from by rw [HC.out]; exact ⟨info83, shape_one, shape_there w1⟩)
  have HB := Lib.hid (show Blk ((w1.alloc (.cells Tryd.zeroCells83 83)).setCells w1.heap.size 0 C.toList) w1.heap.size 83 C ∧ Fr (fun _ => False) w1 ((w1.alloc (.cells Tryd.zeroCells83 83)).setCells w1.heap.size 0 C.toList) from by
    rw [HC.out]; exact ⟨shape_blk w1, setCells_fr _ w1 _ 0 (Fr.alloc1 _ _ _) (.inr (Nat.le_refl _))⟩)
  go_wp2_with (refine wpList_store_mid rfl 83 (.tmp 4) (.tmp 12) rfl w1.heap.size 0 C rfl rfl HI.out.2.2 HI.out.1 HI.out.2.1 ?_; revert HB; generalize (w1.alloc (.cells Tryd.zeroCells83 83)).setCells w1.heap.size 0 C.toList = W; intro HB; obtain ⟨c0, c1, c2, c3, c4⟩ := blk5 HB.out.1 HT.out.1 HT.out.2.1 HT.out.2.2.1 HT.out.2.2.2.1 HT.out.2.2.2.2; have HR := Lib.hid ((Blk.new w 82 #[.string ⟨#[]⟩, .bool false, .bool false, .bool false, .bool false]).fr (fr_two HF.out HB.out.2) (fun h => h)); obtain ⟨r0, r1, r2, r3, r4⟩ := blk5z HR.out; obtain ⟨f0, f1, f2, f3, f4⟩ := free5 HR.out)
  refine bodyPost_ret (v := .tuple #[x.agg, .bool true]) (by simp [results, Tryd.results54, go_sem, r0, r1, r2, r3, r4]) rfl ⟨rfl, ?_⟩
  exact fr_new5 w _ _ (Nat.le_refl _) (fr_two (fr_two (Fr.alloc1 _ _ _) HF.out) HB.out.2) _ _ _ _ _
end Go.Proofs.YtadnbkjjdkgfiaaDoor
