/-
  Slices of values among the arguments.
-/
import Derived.Test.YtadnbkjjdkgfiaaDoorRowKit
import Derived.Test.YtadnbkjjdkgfiaaDoorRowArg
import Derived.Test.YtadnbkjjdkgfiaaDoorValC
namespace Go.Proofs.YtadnbkjjdkgfiaaDoor
open Go.ChangeShapes Go.WideShapes Go.ChangeAt Go.RowKit Go.Joins Go.Viv

theorem one3 : Tryd.prog.cellsOf 3 = 1 := by kernel_rfl
theorem one2 : Tryd.prog.cellsOf 2 = 1 := by kernel_rfl
theorem elem_val {H : Type} {enc : TypeId × Value → H} {w : World} {base : Nat} {spare : Nat → Bool} {held : Bool} (n : Nat) (cs : List Value) (x : DataW H × List MemPlace) (h : DataW.trod enc Tryd.prog w base spare held n 24 cs = some x) :
    ∃ v : Val, cs = [.int .i64 v.k, .int .i64 v.a, .int .i64 v.b] ∧ (inI v.k ∧ inI v.a ∧ inI v.b) := by
  obtain ⟨ns, h1, h2, h3⟩ := elem_ints Tryd.underlying24 (by
    rintro (_ | _ | _ | j) f hj
    · obtain rfl := Option.some.inj hj
      exact ⟨rfl, one3, Tryd.underlying3⟩
    · obtain rfl := Option.some.inj hj
      exact ⟨rfl, one2, Tryd.underlying2⟩
    · obtain rfl := Option.some.inj hj
      exact ⟨rfl, one2, Tryd.underlying2⟩
    · simp at hj) cells24 h
  match ns, h2 with
  | [a, b, c], _ => exact ⟨⟨a, b, c⟩, h1, in_wf (h3 a (by simp)), in_wf (h3 b (by simp)), in_wf (h3 c (by simp))⟩
end Go.Proofs.YtadnbkjjdkgfiaaDoor
