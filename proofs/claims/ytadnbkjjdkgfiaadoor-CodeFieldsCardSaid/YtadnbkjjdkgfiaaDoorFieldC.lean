/-
  CodeFields' walk, joined with Tame's.
-/
import Derived.Test.YtadnbkjjdkgfiaaDoorFieldB
import Derived.Test.YtadnbkjjdkgfiaaDoorTameA
namespace Go.Proofs.YtadnbkjjdkgfiaaDoor
open Go.RowKit Go.Viv
theorem tameC : TameC := fun x c m r w hc hm hr => tame_any x c m r hc hm hr w
theorem fields_any (x fd n : Int) (w : World) (he : EnvC w) : Calls Tryd.prog 10 #[.int .i64 x, .int .i64 fd, .int .i64 n] w fun e w' => e = .returned (.bool true) ∧ Fr (fun _ => False) w w' := fields_of tameC x fd n w he
end Go.Proofs.YtadnbkjjdkgfiaaDoor
