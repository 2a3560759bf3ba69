/-
  Slices of instructions, and of whole numbers, among the arguments.
-/
import Derived.Test.YtadnbkjjdkgfiaaDoorRowVals
import Derived.Test.YtadnbkjjdkgfiaaDoorCodC
namespace Go.Proofs.YtadnbkjjdkgfiaaDoor
open Go.ChangeShapes Go.WideShapes Go.ChangeAt Go.RowKit Go.Joins Go.Viv
theorem cells42 : Tryd.prog.cellsOf 42 = 4 := by kernel_rfl
theorem elem_ins {H : Type} {enc : TypeId × Value → H} {w : World} {base : Nat} {spare : Nat → Bool} {held : Bool} (n : Nat) (cs : List Value) (x : DataW H × List MemPlace) (h : DataW.trod enc Tryd.prog w base spare held n 42 cs = some x) :
    ∃ v : Insn, cs = cellsI v ∧ True := by
  obtain ⟨ns, h1, h2, _⟩ := elem_ints Tryd.underlying42 (by
    rintro (_ | _ | _ | _ | j) f hj
    · obtain rfl := Option.some.inj hj
      exact ⟨rfl, one3, Tryd.underlying3⟩
    · obtain rfl := Option.some.inj hj
      exact ⟨rfl, one3, Tryd.underlying3⟩
    · obtain rfl := Option.some.inj hj
      exact ⟨rfl, one3, Tryd.underlying3⟩
    · obtain rfl := Option.some.inj hj
      exact ⟨rfl, one2, Tryd.underlying2⟩
    · simp at hj) cells42 h
  match ns, h2 with
  | [a, b, c, d], _ => exact ⟨⟨a, b, c, d⟩, h1, trivial⟩
theorem elem_int {H : Type} {enc : TypeId × Value → H} {w : World} {base : Nat} {spare : Nat → Bool} {held : Bool} (n : Nat) (cs : List Value) (x : DataW H × List MemPlace) (h : DataW.trod enc Tryd.prog w base spare held n 3 cs = some x) :
    ∃ v : Int, cs = [Value.int .i64 v] ∧ True := by
  obtain ⟨k, e, _, _⟩ := DataW.trod_int Tryd.underlying3 h
  exact ⟨k, e, trivial⟩
end Go.Proofs.YtadnbkjjdkgfiaaDoor
