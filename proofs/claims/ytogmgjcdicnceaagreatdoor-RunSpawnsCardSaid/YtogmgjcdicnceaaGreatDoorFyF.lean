/-
  The document of the runs's laws, by the shallow run.
-/
import Derived.Test.YtogmgjcdicnceaaGreatDoorFwE
namespace Go.Proofs.YtogmgjcdicnceaaGreatDoor
open Go Go.RowKit Go.Viv Go.Eva Go.Fv
set_option maxHeartbeats 8000000 in
theorem awakeR_true : True_ 10 [] :=
  fastW_any (ν := fun _ => 0) (l := []) (u := []) (fun _ h => by cases h) (fun _ h => by cases h) (aw := none) (fun _ h => by cases h) (args := []) (fun _ h => by cases h) (by kernel_rfl)
end Go.Proofs.YtogmgjcdicnceaaGreatDoor
