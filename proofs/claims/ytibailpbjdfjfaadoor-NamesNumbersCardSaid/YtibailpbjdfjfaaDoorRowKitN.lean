/-
  From a walk to the given row: what NamesNumbers needs.
-/
import Derived.Test.YtibailpbjdfjfaaDoorRowKitG
import Derived.Test.YtibailpbjdfjfaaDoorNamB
namespace Go.Proofs.YtibailpbjdfjfaaDoor
open Go.ChangeShapes Go.WideShapes Go.ChangeAt Go.RowKit Go.Joins Go.Viv
theorem own : ownKnob Tryd.prog.godebug = none := by kernel_rfl
theorem laidOut : laidOutB Tryd.prog = true := by kernel_rfl
theorem gBr : Tryd.prog.globalNamed "math/bits.deBruijn64tab" = some 7 := by kernel_rfl
theorem lay_met (os : Os) (args : Array Value) : laidMetH Tryd.prog Rows.namesNumbersRow.laid ((World.laidAll Tryd.prog os Rows.namesNumbersRow.laid).forCall (fun _ _ => 0) ⟨#[], args, []⟩).memory := by
  rw [MakeChecks.laidMetH_plain _ _ _ (by kernel_rfl)]
  exact laidMet_laidAll _ (by kernel_rfl) (by kernel_rfl)
theorem lay_shaped (os : Os) : (World.laidAll Tryd.prog os Rows.namesNumbersRow.laid).Shaped Tryd.prog :=
  World.shaped_of_ZipB (by kernel_rfl) (by kernel_rfl)
theorem lt_of_var {W : World} {n : String} {g : Nat} {cs : Array Value} (hg : Tryd.prog.globalNamed n = some g) (h : W.var? Tryd.prog n = some cs) : g < W.heap.size := by
  by_cases hlt : g < W.heap.size
  · exact hlt
  · have e : W.heap[g]? = none := Array.getElem?_eq_none (by omega)
    unfold World.var? at h
    rw [hg] at h
    simp [e] at h
/-- What the condition gives the walks. -/
theorem envN_of_laid {W : World} (h : laidMetH Tryd.prog Rows.namesNumbersRow.laid W) : EnvN W := by
  rw [MakeChecks.laidMetH_plain _ _ _ (by kernel_rfl)] at h
  have h1 : laidMet Tryd.prog (("math/bits.deBruijn32tab", Rows.laid_math_bits_deBruijn32tab) :: ("math/bits.deBruijn64tab", Rows.laid_math_bits_deBruijn64tab) :: ("internal/strconv.uint64pow10", Lib.tabData .u64 Lib.pow10Tab) :: []) W := h
  have h2 := h1.tail
  have h3 := h2.tail
  refine ⟨Lib.tabIs_of_head globPowN (by kernel_rfl) Tryd.underlying95 Tryd.underlying67 (by kernel_rfl) (by kernel_rfl) h3, ?_⟩
  obtain ⟨ps, ⟨g', t', cs, fuel, p, q, hg', ht', hvar, hd, _, _⟩, _⟩ := h2
  exact lt_of_var gBr hvar
end Go.Proofs.YtibailpbjdfjfaaDoor
