/-
  From a run to the given row: what laws of numbers share.
-/
import Derived.Test.YtnlinpocnopibaaGreatDoorRowKitG
import Derived.Test.YtnlinpocnopibaaGreatDoorRows
import Derived.Test.YtnlinpocnopibaaGreatDoorKFvH
namespace Go.Proofs.YtnlinpocnopibaaGreatDoor
open Go.ChangeShapes Go.WideShapes Go.ChangeAt Go.RowKit Go.Joins Go.Viv
theorem own : ownKnob Tryz.prog.godebug = none := by kernel_rfl
theorem laidOut : laidOutB Tryz.prog = true := by kernel_rfl
theorem gBr : Tryz.prog.globalNamed "math/bits.deBruijn64tab" = some 0 := by kernel_rfl
theorem lay_met (os : Os) (args : Array Value) : laidMetH Tryz.prog Rows.scriptCursorRow.laid ((World.laidAll Tryz.prog os Rows.scriptCursorRow.laid).forCall (fun _ _ => 0) ⟨#[], args, []⟩).memory := by
  rw [MakeChecks.laidMetH_plain _ _ _ (by kernel_rfl)]
  exact laidMet_laidAll _ (by kernel_rfl) (by kernel_rfl)
theorem lay_shaped (os : Os) : (World.laidAll Tryz.prog os Rows.scriptCursorRow.laid).Shaped Tryz.prog :=
  World.shaped_of_ZipB (by kernel_rfl) (by kernel_rfl)
theorem envT_of_laid {W : World} (h : laidMetH Tryz.prog Rows.scriptCursorRow.laid W) : EnvT W := by
  rw [MakeChecks.laidMetH_plain _ _ _ (by kernel_rfl)] at h
  have h1 : laidMet Tryz.prog (("math/bits.deBruijn64tab", Lib.tabData .u8 (deB.map Int.ofNat)) :: []) W := h
  have h2 := Lib.tabIs_of_head (t := 382) (e := 5) (n := 64) gBr (by kernel_rfl) Tryz.underlying382 Tryz.underlying5 (by kernel_rfl) (by kernel_rfl) h1
  unfold Lib.TabIs World.var? at h2
  rw [gBr] at h2
  simp only [Option.bind_some] at h2
  split at h2
  · rename_i cs e fr hh
    simp only [Option.some.injEq] at h2
    exact ⟨e, fr, by rw [hh, h2]; rfl⟩
  · cases h2
end Go.Proofs.YtnlinpocnopibaaGreatDoor
