/-
  From the given rows of the console's laws to what ConsoleBounds asks of memory: the error's variable too.
-/
import Derived.Test.YtenigphjddnknaaGreatDoorRowKitV
import Derived.Test.YtenigphjddnknaaGreatDoorBnw
import Derived.Stop.LaidErr
namespace Go.Proofs.YtenigphjddnknaaGreatDoor
open Go.Fv Go.ChangeShapes Go.WideShapes Go.ChangeAt Go.RowKit Go.Joins Go.Viv
theorem star : "*" ++ "errors.errorString" = "*errors.errorString" := by decide
theorem rowErr (u : TypeId) (h : Tryz.prog.typeName? 3 u = some "*errors.errorString") : u = 437 :=
  typeName_ptr_named (nm := "errors.errorString") (by rw [star]; kernel_rfl) (by kernel_rfl) (by decide) u (by rw [star]; exact h)
theorem envB_of_laid {W : World} (hs : W.ShapedOpen Tryz.prog) (h : laidMetH Tryz.prog Rows.consoleStoryRow.laid W) : EnvB W := by
  refine ⟨envS_of_laid hs h, ?_⟩
  rw [MakeChecks.laidMetH_plain _ _ _ (by kernel_rfl)] at h
  have h1 : laidMet Tryz.prog (("math/bits.deBruijn32tab", Rows.laid_math_bits_deBruijn32tab) :: ("math/bits.deBruijn64tab", Lib.tabData .u8 (deB.map Int.ofNat)) :: ("internal/strconv.uint64pow10", Lib.tabData .u64 Lib.pow10Tab) :: ("unicode/utf8.acceptRanges", Rows.laid_unicode_utf8_acceptRanges) :: ("strconv.ErrRange", Rows.laid_strconv_ErrRange) :: ("strconv.ErrSyntax", Rows.laid_strconv_ErrSyntax) :: _) W := h
  have h5 := h1.tail.tail.tail.tail.tail
  obtain ⟨a0, s0, hv0, _⟩ := laid_sentinel h5 globSy (by kernel_rfl) Tryz.underlying67 rowErr Tryz.underlying437 Tryz.underlying439 rfl rfl Tryz.underlying9 (by kernel_rfl) (by kernel_rfl)
  exact ⟨_, _, hv0⟩
end Go.Proofs.YtenigphjddnknaaGreatDoor
