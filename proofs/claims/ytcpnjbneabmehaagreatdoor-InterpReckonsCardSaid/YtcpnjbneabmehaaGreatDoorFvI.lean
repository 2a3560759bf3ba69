/-
  InterpReckons: what the document fixes, and each case of the law.
-/
import Derived.Test.YtcpnjbneabmehaaGreatDoorFvH
namespace Go.Proofs.YtcpnjbneabmehaaGreatDoor
open Go Go.RowKit Go.Viv Go.Eva Go.Fv
set_option maxHeartbeats 8000000 in
theorem awake_true : True_ 15 [] :=
  fast_any (ν := fun _ => 0) (l := []) (u := []) (fun _ h => by cases h) (fun _ h => by cases h) (aw := none) (fun _ h => by cases h) (args := []) (fun _ h => by cases h) (by kernel_rfl)
end Go.Proofs.YtcpnjbneabmehaaGreatDoor
