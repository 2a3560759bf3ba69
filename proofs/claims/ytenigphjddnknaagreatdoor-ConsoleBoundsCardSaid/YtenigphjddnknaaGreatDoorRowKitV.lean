/-
  From the given rows of the console's laws to what their walks ask of memory.
-/
import Derived.Test.YtenigphjddnknaaGreatDoorRowKitG
import Derived.Test.YtenigphjddnknaaGreatDoorRows
import Derived.Test.YtenigphjddnknaaGreatDoorSpx
import Derived.HandedShaped
import Derived.Shelf.Vars
namespace Go.Proofs.YtenigphjddnknaaGreatDoor
open Go.Fv Go.ChangeShapes Go.WideShapes Go.ChangeAt Go.RowKit Go.Joins Go.Viv
theorem own : ownKnob Tryz.prog.godebug = none := by kernel_rfl
theorem laidOut : laidOutB Tryz.prog = true := by kernel_rfl
theorem lay_met (os : Os) (args : Array Value) : laidMetH Tryz.prog Rows.consoleStoryRow.laid ((World.laidAll Tryz.prog os Rows.consoleStoryRow.laid).forCall (fun _ _ => 0) ⟨#[], args, []⟩).memory := by
  rw [MakeChecks.laidMetH_plain _ _ _ (by kernel_rfl)]
  exact laidMet_laidAll _ (by kernel_rfl) (by kernel_rfl)
theorem lay_shaped (os : Os) : (World.laidAll Tryz.prog os Rows.consoleStoryRow.laid).Shaped Tryz.prog :=
  World.shaped_of_ZipB (by kernel_rfl) (by kernel_rfl)
theorem max_of {W : World} (h : W.ShapedOpen Tryz.prog) : ∃ m, W.cell? ⟨0, 0, none⟩ = some (.int .i64 m) :=
  cell_of_shapedOpen_int (t := 3) (zero := #[.int .i64 0]) h (of_decide_eq_true (by kernel_rfl)) (by kernel_rfl) rfl (by kernel_rfl) (by kernel_rfl) Tryz.underlying3
theorem gBr : Tryz.prog.globalNamed "math/bits.deBruijn64tab" = some 7 := by kernel_rfl
theorem gPow : Tryz.prog.globalNamed "internal/strconv.uint64pow10" = some 3 := by kernel_rfl
theorem envS_of_laid {W : World} (hs : W.ShapedOpen Tryz.prog) (h : laidMetH Tryz.prog Rows.consoleStoryRow.laid W) : EnvS W := by
  rw [MakeChecks.laidMetH_plain _ _ _ (by kernel_rfl)] at h
  have h1 : laidMet Tryz.prog (("math/bits.deBruijn32tab", Rows.laid_math_bits_deBruijn32tab) :: ("math/bits.deBruijn64tab", Lib.tabData .u8 (deB.map Int.ofNat)) :: ("internal/strconv.uint64pow10", Lib.tabData .u64 Lib.pow10Tab) :: _) W := h
  have h2 := Lib.tabIs_of_head (t := 404) (e := 5) (n := 64) gBr (by kernel_rfl) Tryz.underlying404 Tryz.underlying5 (by kernel_rfl) (by kernel_rfl) h1.tail
  have h3 := Lib.tabIs_of_head (t := 273) (e := 75) (n := 20) gPow (by kernel_rfl) Tryz.underlying273 Tryz.underlying75 (by kernel_rfl) (by kernel_rfl) h1.tail.tail
  refine ⟨max_of hs, h3, ?_⟩
  unfold Lib.TabIs World.var? at h2
  rw [gBr] at h2
  simp only [Option.bind_some] at h2
  split at h2
  · rename_i cs e fr hh
    simp only [Option.some.injEq] at h2
    exact ⟨e, fr, by rw [hh, h2]; rfl⟩
  · cases h2
end Go.Proofs.YtenigphjddnknaaGreatDoor
