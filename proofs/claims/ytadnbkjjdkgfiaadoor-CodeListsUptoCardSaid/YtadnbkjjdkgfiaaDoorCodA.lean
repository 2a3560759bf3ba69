/-
  Contracts of package code: shapes, Of.
-/
import Derived.Test.YtadnbkjjdkgfiaaDoorValTC
import Derived.Test.YtadnbkjjdkgfiaaDoorRowC
import Derived.Deep.MidRow
namespace Go.Viv
open Go.Lib Go.Proofs.YtadnbkjjdkgfiaaDoor Go.RowKit
/-- An instruction's name, and which of its fields it names. -/
structure Shp where
  name : List UInt8
  r : Bool
  s : Bool
  n : Bool
  up : Bool
abbrev cellsS (x : Shp) : List Value := [str x.name, .bool x.r, .bool x.s, .bool x.n, .bool x.up]
abbrev Shp.agg (x : Shp) : Value := .agg #[str x.name, .bool x.r, .bool x.s, .bool x.n, .bool x.up]
def two (l : List UInt8) : Shp := ⟨l, true, true, false, false⟩
def numb (l : List UInt8) : Shp := ⟨l, true, false, true, true⟩
def shapeTab : List Shp := [⟨[], false, false, false, false⟩, ⟨[99, 111, 110, 115, 116], true, false, true, false⟩, two [109, 111, 118, 101], two [97, 100, 100], two [115, 117, 98], two [109, 117, 108], two [100, 105, 118], numb [103, 101, 116], numb [103, 101, 116, 98], numb [112, 117, 116], numb [112, 117, 116, 98], numb [114, 101, 115], numb [115, 97, 118, 101], numb [115, 107, 105, 112], ⟨[107, 105, 108, 108], false, false, false, false⟩, ⟨[115, 112, 97, 119, 110], true, false, false, false⟩, numb [103, 105, 118, 101], ⟨[100, 114, 111, 112], false, false, true, true⟩, ⟨[102, 97, 117, 108, 116], true, false, false, false⟩]
def shapeCells : Array Value := (shapeTab.flatMap cellsS).toArray
end Go.Viv
namespace Go.Proofs.YtadnbkjjdkgfiaaDoor
open Go.RowKit Go.Viv

theorem shp1_any (l : List UInt8) (w : World) : Calls Tryd.prog 69 #[str l] w fun e w' => e = .returned (two l).agg ∧ Fr (fun _ => False) w w' := by
  go_enter Tryd.func69, Tryd.ntmps69
  go_wp2
  exact bodyPost_ret (v := (two l).agg) (by simp [results, Tryd.results69, go_sem, two]) rfl ⟨rfl, Fr.alloc1 _ _ _⟩
theorem shp2_any (l : List UInt8) (w : World) : Calls Tryd.prog 70 #[str l] w fun e w' => e = .returned (numb l).agg ∧ Fr (fun _ => False) w w' := by
  go_enter Tryd.func70, Tryd.ntmps70
  go_wp2
  exact bodyPost_ret (v := (numb l).agg) (by simp [results, Tryd.results70, go_sem, numb]) rfl ⟨rfl, Fr.alloc1 _ _ _⟩
theorem info83 : (Tryd.prog.info? 83).map (·.size) = some shapeCells.size := by kernel_rfl
theorem shape_one : shapeCells.all (·.oneCell') = true := by kernel_rfl
theorem shape_size : shapeCells.size = 95 := by kernel_rfl

theorem blk_there {w : World} {g : Nat} {t : TypeId} {cs : Array Value} (h : Blk w g t cs) (n : Nat) (hn : n ≤ cs.size) : w.there g 0 n := fun j hj => by
  rw [h.cell, h.frozen, Array.getElem?_eq_getElem (by omega)]
  exact ⟨rfl, rfl⟩
theorem setCells_fr {S : Nat → Prop} {b : Nat} : ∀ (vs : List Value) (w w' : World) (o : Nat), Fr S w w' → (S b ∨ w.heap.size ≤ b) → Fr S w (w'.setCells b o vs)
  | [], _, _, _, h, _ => h
  | v :: vs, w, w', o, h, hb => by
    have := setCells_fr vs w (w'.setCell ⟨b, o, none⟩ v) (o + 1) (h.setCell hb v) hb
    simpa [World.setCells] using this
theorem blk_setCells {b : Nat} {t : TypeId} : ∀ (vs : List Value) (w : World) (o : Nat) (cs : Array Value), Blk w b t cs → Blk (w.setCells b o vs) b t (setAll cs.toList o vs).toArray
  | [], _, _, cs, h => by simpa [World.setCells, setAll] using h
  | v :: vs, w, o, cs, h => by
    have h1 := h.set_ o v
    have := blk_setCells vs _ (o + 1) _ h1
    simpa [World.setCells, setAll] using this
/-- A row stored whole. -/
theorem blk_whole {w : World} {b : Nat} {t : TypeId} {cs ds : Array Value} (h : Blk w b t cs) (hs : ds.size = cs.size) : Blk (w.setCells b 0 ds.toList) b t ds := by
  have h1 := blk_setCells ds.toList w 0 cs h
  rw [setAll_eq _ _ _ (by simp [hs])] at h1
  rw [List.take_zero, List.nil_append, Nat.zero_add, List.drop_of_length_le (by simp [hs]), List.append_nil] at h1
  exact h1
def zeroS : Array Value := (Array.replicate 19 [Value.string ⟨#[]⟩, .bool false, .bool false, .bool false, .bool false]).toList.flatten.toArray

set_option maxRecDepth 100000 in
set_option maxHeartbeats 2000000 in
theorem shapes_any (w : World) : Calls Tryd.prog 49 #[] w fun e w' => e = .returned (.agg shapeCells) ∧ Fr (fun _ => False) w w' := by
  have HF := Lib.hid (Fr.refl (fun _ => False) (w.alloc (.cells zeroS 83)))
  go_enter Tryd.func49, Tryd.ntmps49
  go_wp2_with (first
    | (go_at_call 69; refine (shp1_any _ _).mono ?_; rintro e w1 ⟨rfl, hf⟩; have HF2 := Lib.hid (fr_two HF.out hf); clear hf HF; have HF := HF2; clear HF2)
    | (go_at_call 70; refine (shp2_any _ _).mono ?_; rintro e w1 ⟨rfl, hf⟩; have HF2 := Lib.hid (fr_two HF.out hf); clear hf HF; have HF := HF2; clear HF2)
    | (refine wpList_store_mid rfl 83 (.tmp 0) (.tmp 34) rfl w.heap.size 0 shapeCells rfl (by kernel_rfl) ?ht info83 shape_one ?_))
  case ht => exact blk_there ((Blk.new w 83 zeroS).fr HF.out (fun h => h)) _ (by decide)
  refine bodyPost_ret (v := .agg shapeCells) (results_cell_row rfl _ _ w.heap.size 83 shapeCells (0, 0) _ rfl ?_ Tryd.underlying83 rfl info83) rfl ⟨rfl, ?_⟩
  · exact blk_whole ((Blk.new w 83 zeroS).fr HF.out (fun h => h)) (by decide)
  · exact setCells_fr _ w _ 0 (fr_two (Fr.alloc1 _ _ _) HF.out) (.inr (Nat.le_refl _))
end Go.Proofs.YtadnbkjjdkgfiaaDoor
