/-
  The document of the scripts' laws, by the shallow run.
-/
import Derived.Test.YtnlinpocnopibaaGreatDoorKFwE
namespace Go.Proofs.YtnlinpocnopibaaGreatDoor
open Go Go.RowKit Go.Viv Go.Eva Go.Fv Go.Fw
set_option maxHeartbeats 8000000 in
theorem awakeX_true : True_ 23 [] := closed_any (aw := none) (fun _ h => by cases h) (by kernel_rfl)
end Go.Proofs.YtnlinpocnopibaaGreatDoor
