/-
  From a walk to the given row: what the plan laws share.
-/
import Derived.Test.YtibailpbjdfjfaaDoorRowKitG
import Derived.Test.YtibailpbjdfjfaaDoorPlnC
namespace Go.Proofs.YtibailpbjdfjfaaDoor
open Go.ChangeShapes Go.WideShapes Go.ChangeAt Go.RowKit Go.Joins Go.Viv
theorem own : ownKnob Tryd.prog.godebug = none := by kernel_rfl
theorem laidOut : laidOutB Tryd.prog = true := by kernel_rfl
theorem gBr : Tryd.prog.globalNamed "math/bits.deBruijn64tab" = some 7 := by kernel_rfl
theorem one3 : Tryd.prog.cellsOf 3 = 1 := by kernel_rfl
theorem cellsCol : Tryd.prog.cellsOf 43 = 2 := by kernel_rfl
theorem lay_met (os : Os) (args : Array Value) : laidMetH Tryd.prog Rows.planBoundsRow.laid ((World.laidAll Tryd.prog os Rows.planBoundsRow.laid).forCall (fun _ _ => 0) ⟨#[], args, []⟩).memory := by
  rw [MakeChecks.laidMetH_plain _ _ _ (by kernel_rfl)]
  exact laidMet_laidAll _ (by kernel_rfl) (by kernel_rfl)
theorem lay_shaped (os : Os) : (World.laidAll Tryd.prog os Rows.planBoundsRow.laid).Shaped Tryd.prog :=
  World.shaped_of_ZipB (by kernel_rfl) (by kernel_rfl)
theorem lt_of_var {W : World} {n : String} {g : Nat} {cs : Array Value} (hg : Tryd.prog.globalNamed n = some g) (h : W.var? Tryd.prog n = some cs) : g < W.heap.size := by
  by_cases hlt : g < W.heap.size
  · exact hlt
  · have e : W.heap[g]? = none := Array.getElem?_eq_none (by omega)
    unfold World.var? at h
    rw [hg] at h
    simp [e] at h
theorem star : "*" ++ "errors.errorString" = "*errors.errorString" := by decide
theorem rowErr (u : TypeId) (h : Tryd.prog.typeName? 3 u = some "*errors.errorString") : u = 115 :=
  typeName_ptr_named (nm := "errors.errorString") (by rw [star]; kernel_rfl) (by kernel_rfl) (by decide) u (by rw [star]; exact h)
theorem in_wf {n : Int} (h : (Lit.int .i64 n).wf = true) : inI n := by
  simp [Lit.wf, IntKind.min, IntKind.max, IntKind.signed, IntKind.bits] at h
  exact h
theorem max_of {W : World} (h : W.ShapedOpen Tryd.prog) : ∃ m, W.cell? ⟨0, 0, none⟩ = some (.int .i64 m) :=
  cell_of_shapedOpen_int (t := 3) (zero := #[.int .i64 0]) h (of_decide_eq_true (by kernel_rfl)) (by kernel_rfl) rfl (by kernel_rfl) (by kernel_rfl) Tryd.underlying3
/-- What the condition gives the walks. -/
theorem envP_of_laid {W : World} (hs : W.ShapedOpen Tryd.prog) (h : laidMetH Tryd.prog Rows.planBoundsRow.laid W) : EnvP W := by
  rw [MakeChecks.laidMetH_plain _ _ _ (by kernel_rfl)] at h
  have h1 : laidMet Tryd.prog (("math/bits.deBruijn32tab", Rows.laid_math_bits_deBruijn32tab) :: ("math/bits.deBruijn64tab", Rows.laid_math_bits_deBruijn64tab) :: ("internal/strconv.uint64pow10", Lib.tabData .u64 Lib.pow10Tab) :: ("unicode/utf8.acceptRanges", Rows.laid_unicode_utf8_acceptRanges) :: ("strconv.ErrRange", Rows.laid_strconv_ErrRange) :: ("strconv.ErrSyntax", Rows.laid_strconv_ErrSyntax) :: ("unicode/utf8.first", Rows.laid_unicode_utf8_first) :: []) W := h
  have h2 := h1.tail
  have h3 := h2.tail
  have h4 := h3.tail.tail
  have h5 := h4.tail
  refine ⟨Lib.tabIs_of_head globPow (by kernel_rfl) Tryd.underlying95 Tryd.underlying67 (by kernel_rfl) (by kernel_rfl) h3, ?_, ?_, max_of hs, ?_⟩
  · obtain ⟨a0, s0, hv0, _⟩ := laid_sentinel h5 globSy (by kernel_rfl) Tryd.underlying64 rowErr Tryd.underlying115 Tryd.underlying117 rfl rfl Tryd.underlying9 (by kernel_rfl) (by kernel_rfl)
    exact ⟨_, _, hv0⟩
  · obtain ⟨a0, s0, hv0, _⟩ := laid_sentinel h4 globRa (by kernel_rfl) Tryd.underlying64 rowErr Tryd.underlying115 Tryd.underlying117 rfl rfl Tryd.underlying9 (by kernel_rfl) (by kernel_rfl)
    exact ⟨_, _, hv0⟩
  · obtain ⟨ps, ⟨g', t', cs, fuel, p, q, hg', ht', hvar, hd, _, _⟩, _⟩ := h2
    exact lt_of_var gBr hvar
theorem rowI_ints {w : World} {A : Option Addr} {l : List Int} (h : RowC w A (l.flatMap fun n => [Value.int .i64 n])) : RowC w A (ints l) := by
  have e : ∀ l : List Int, (l.flatMap fun n => [Value.int .i64 n]) = ints l := by
    intro l
    induction l with
    | nil => rfl
    | cons x r ih => rw [List.flatMap_cons, ih]; rfl
  rw [← e]; exact h
theorem max_le {n : Nat} (h : n ≤ maxLen) : n ≤ 9223372036854775807 := by unfold maxLen at h; exact h
/-- Columns, and whole numbers, among the arguments. -/
theorem elem_col {H : Type} {enc : TypeId × Value → H} {w : World} {base : Nat} {spare : Nat → Bool} {held : Bool} (n : Nat) (cs : List Value) (x : DataW H × List MemPlace) (h : DataW.trod enc Tryd.prog w base spare held n 43 cs = some x) :
    ∃ v : Coln, cs = cellsK v ∧ inI v.c := by
  obtain ⟨ns, h1, h2, h3⟩ := elem_ints Tryd.underlying43 (by
    rintro (_ | _ | j) f hj
    · obtain rfl := Option.some.inj hj
      exact ⟨rfl, one3, Tryd.underlying3⟩
    · obtain rfl := Option.some.inj hj
      exact ⟨rfl, one3, Tryd.underlying3⟩
    · simp at hj) cellsCol h
  match ns, h2 with
  | [a, b], _ => exact ⟨⟨a, b⟩, h1, in_wf (h3 b (by simp))⟩
theorem elem_int {H : Type} {enc : TypeId × Value → H} {w : World} {base : Nat} {spare : Nat → Bool} {held : Bool} (n : Nat) (cs : List Value) (x : DataW H × List MemPlace) (h : DataW.trod enc Tryd.prog w base spare held n 3 cs = some x) :
    ∃ v : Int, cs = [Value.int .i64 v] ∧ inI v := by
  obtain ⟨k, e, _, wf⟩ := DataW.trod_int Tryd.underlying3 h
  exact ⟨k, e, in_wf wf⟩
end Go.Proofs.YtibailpbjdfjfaaDoor
