/-
  InterpRes: the runs of some cases, reckoned by the kernel.
-/
import Derived.Test.YtnlinpocnopibaaGreatDoorFwE
import Derived.Test.YtnlinpocnopibaaGreatDoorIrR
namespace Go.Proofs.YtnlinpocnopibaaGreatDoor
open Go Go.RowKit Go.Viv Go.Eva Go.Fv Go.Fw
set_option maxHeartbeats 8000000 in
theorem resn0 : runG (awIc (some 15)) (reR 0) 3 [tk 0] = true := by kernel_rfl
set_option maxHeartbeats 8000000 in
theorem resn1 : runG (awIc (some 15)) (reR 1) 3 [tk 0] = true := by kernel_rfl
set_option maxHeartbeats 8000000 in
theorem resn2 : runG (awIc (some 15)) (reR 2) 3 [tk 0] = true := by kernel_rfl
set_option maxHeartbeats 8000000 in
theorem resn3 : runG (awIc (some 15)) (reR 3) 3 [tk 0] = true := by kernel_rfl
set_option maxHeartbeats 8000000 in
theorem resn4 : runG (awIc (some 15)) (reR 4) 3 [tk 0] = true := by kernel_rfl
set_option maxHeartbeats 8000000 in
theorem resn5 : runG (awIc (some 15)) (reR 5) 3 [tk 0] = true := by kernel_rfl
set_option maxHeartbeats 8000000 in
theorem resn6 : runG (awIc (some 15)) (reR 6) 3 [tk 0] = true := by kernel_rfl
set_option maxHeartbeats 8000000 in
theorem resn7 : runG (awIc (some 15)) (reR 7) 3 [tk 0] = true := by kernel_rfl
set_option maxHeartbeats 8000000 in
theorem resn8 : runG (awIc (some 15)) (reR 8) 3 [tk 0] = true := by kernel_rfl
set_option maxHeartbeats 8000000 in
theorem resn9 : runG (awIc (some 15)) (reR 9) 3 [tk 0] = true := by kernel_rfl
set_option maxHeartbeats 8000000 in
theorem resn10 : runG (awIc (some 15)) (reR 10) 3 [tk 0] = true := by kernel_rfl
set_option maxHeartbeats 8000000 in
theorem resn11 : runG (awIc (some 15)) (reR 11) 3 [tk 0] = true := by kernel_rfl
end Go.Proofs.YtnlinpocnopibaaGreatDoor
