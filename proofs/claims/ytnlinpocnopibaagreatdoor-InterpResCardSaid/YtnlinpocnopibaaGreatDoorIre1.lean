/-
  InterpRes: the runs of some cases, reckoned by the kernel.
-/
import Derived.Test.YtnlinpocnopibaaGreatDoorFwE
import Derived.Test.YtnlinpocnopibaaGreatDoorIrR
namespace Go.Proofs.YtnlinpocnopibaaGreatDoor
open Go Go.RowKit Go.Viv Go.Eva Go.Fv Go.Fw
set_option maxHeartbeats 8000000 in
theorem resn12 : runG (awIc (some 15)) (reR 12) 3 [tk 0] = true := by kernel_rfl
set_option maxHeartbeats 8000000 in
theorem resn13 : runG (awIc (some 15)) (reR 13) 3 [tk 0] = true := by kernel_rfl
set_option maxHeartbeats 8000000 in
theorem resn14 : runG (awIc (some 15)) (reR 14) 3 [tk 0] = true := by kernel_rfl
set_option maxHeartbeats 8000000 in
theorem resn15 : runG (awIc (some 15)) (reR 15) 3 [tk 0] = true := by kernel_rfl
set_option maxHeartbeats 8000000 in
theorem resn16 : runG (awIc (some 15)) (reR 16) 3 [tk 0] = true := by kernel_rfl
end Go.Proofs.YtnlinpocnopibaaGreatDoor
