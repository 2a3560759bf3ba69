/-
  RunChain: the runs of some cases, reckoned by the kernel.
-/
import Derived.Test.YtnlinpocnopibaaGreatDoorFwE
import Derived.Test.YtnlinpocnopibaaGreatDoorRcR
namespace Go.Proofs.YtnlinpocnopibaaGreatDoor
open Go Go.RowKit Go.Viv Go.Eva Go.Fv Go.Fw
set_option maxHeartbeats 8000000 in
theorem chai7_0 : runC (some 19) (chR 7 0) 51 (chC 7 0) 6 [tk 0, tk 1, tk 2, tk 3] = true := by kernel_rfl
set_option maxHeartbeats 8000000 in
theorem chai7_1 : runC (some 19) (chR 7 1) 51 (chC 7 1) 6 [tk 0, tk 1, tk 2, tk 3] = true := by kernel_rfl
set_option maxHeartbeats 8000000 in
theorem chai7_2 : runC (some 19) (chR 7 2) 51 (chC 7 2) 6 [tk 0, tk 1, tk 2, tk 3] = true := by kernel_rfl
set_option maxHeartbeats 8000000 in
theorem chai7_3 : runC (some 19) (chR 7 3) 51 (chC 7 3) 6 [tk 0, tk 1, tk 2, tk 3] = true := by kernel_rfl
set_option maxHeartbeats 8000000 in
theorem chai7_4 : runC (some 19) (chR 7 4) 51 (chC 7 4) 6 [tk 0, tk 1, tk 2, tk 3] = true := by kernel_rfl
set_option maxHeartbeats 8000000 in
theorem chai7_5 : runC (some 19) (chR 7 5) 51 (chC 7 5) 6 [tk 0, tk 1, tk 2, tk 3] = true := by kernel_rfl
set_option maxHeartbeats 8000000 in
theorem chai7_6 : runC (some 19) (chR 7 6) 51 (chC 7 6) 6 [tk 0, tk 1, tk 2, tk 3] = true := by kernel_rfl
end Go.Proofs.YtnlinpocnopibaaGreatDoor
