/-
  InterpRes: the runs of some cases, reckoned by the kernel.
-/
import Derived.Test.YtnlinpocnopibaaGreatDoorFwE
import Derived.Test.YtnlinpocnopibaaGreatDoorIrR
namespace Go.Proofs.YtnlinpocnopibaaGreatDoor
open Go Go.RowKit Go.Viv Go.Eva Go.Fv Go.Fw
set_option maxHeartbeats 8000000 in
theorem resn17 : runG (awIc (some 15)) (reR 17) 3 [tk 0] = true := by kernel_rfl
set_option maxHeartbeats 8000000 in
theorem resn18 : runG (awIc (some 15)) (reR 18) 3 [tk 0] = true := by kernel_rfl
set_option maxHeartbeats 8000000 in
theorem resn19 : runG (awIc (some 15)) (reR 19) 3 [tk 0] = true := by kernel_rfl
set_option maxHeartbeats 8000000 in
theorem resn20 : runG (awIc (some 15)) (reR 20) 3 [tk 0] = true := by kernel_rfl
end Go.Proofs.YtnlinpocnopibaaGreatDoor
