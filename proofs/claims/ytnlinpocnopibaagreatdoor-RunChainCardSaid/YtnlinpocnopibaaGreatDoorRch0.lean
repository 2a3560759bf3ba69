/-
  RunChain: the runs of some cases, reckoned by the kernel.
-/
import Derived.Test.YtnlinpocnopibaaGreatDoorFwE
import Derived.Test.YtnlinpocnopibaaGreatDoorRcR
namespace Go.Proofs.YtnlinpocnopibaaGreatDoor
open Go Go.RowKit Go.Viv Go.Eva Go.Fv Go.Fw
set_option maxHeartbeats 8000000 in
theorem chai1_0 : runC (some 19) (chR 1 0) 51 (chC 1 0) 6 [tk 0, tk 1, tk 2, tk 3] = true := by kernel_rfl
set_option maxHeartbeats 8000000 in
theorem chai2_0 : runC (some 19) (chR 2 0) 51 (chC 2 0) 6 [tk 0, tk 1, tk 2, tk 3] = true := by kernel_rfl
set_option maxHeartbeats 8000000 in
theorem chai2_1 : runC (some 19) (chR 2 1) 51 (chC 2 1) 6 [tk 0, tk 1, tk 2, tk 3] = true := by kernel_rfl
set_option maxHeartbeats 8000000 in
theorem chai3_0 : runC (some 19) (chR 3 0) 51 (chC 3 0) 6 [tk 0, tk 1, tk 2, tk 3] = true := by kernel_rfl
set_option maxHeartbeats 8000000 in
theorem chai3_1 : runC (some 19) (chR 3 1) 51 (chC 3 1) 6 [tk 0, tk 1, tk 2, tk 3] = true := by kernel_rfl
set_option maxHeartbeats 8000000 in
theorem chai3_2 : runC (some 19) (chR 3 2) 51 (chC 3 2) 6 [tk 0, tk 1, tk 2, tk 3] = true := by kernel_rfl
set_option maxHeartbeats 8000000 in
theorem chai4_0 : runC (some 19) (chR 4 0) 51 (chC 4 0) 6 [tk 0, tk 1, tk 2, tk 3] = true := by kernel_rfl
set_option maxHeartbeats 8000000 in
theorem chai4_1 : runC (some 19) (chR 4 1) 51 (chC 4 1) 6 [tk 0, tk 1, tk 2, tk 3] = true := by kernel_rfl
set_option maxHeartbeats 8000000 in
theorem chai4_2 : runC (some 19) (chR 4 2) 51 (chC 4 2) 6 [tk 0, tk 1, tk 2, tk 3] = true := by kernel_rfl
set_option maxHeartbeats 8000000 in
theorem chai4_3 : runC (some 19) (chR 4 3) 51 (chC 4 3) 6 [tk 0, tk 1, tk 2, tk 3] = true := by kernel_rfl
end Go.Proofs.YtnlinpocnopibaaGreatDoor
