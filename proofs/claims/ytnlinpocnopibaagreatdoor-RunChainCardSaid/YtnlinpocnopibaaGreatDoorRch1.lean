/-
  RunChain: the runs of some cases, reckoned by the kernel.
-/
import Derived.Test.YtnlinpocnopibaaGreatDoorFwE
import Derived.Test.YtnlinpocnopibaaGreatDoorRcR
namespace Go.Proofs.YtnlinpocnopibaaGreatDoor
open Go Go.RowKit Go.Viv Go.Eva Go.Fv Go.Fw
set_option maxHeartbeats 8000000 in
theorem chai5_0 : runC (some 19) (chR 5 0) 51 (chC 5 0) 6 [tk 0, tk 1, tk 2, tk 3] = true := by kernel_rfl
set_option maxHeartbeats 8000000 in
theorem chai5_1 : runC (some 19) (chR 5 1) 51 (chC 5 1) 6 [tk 0, tk 1, tk 2, tk 3] = true := by kernel_rfl
set_option maxHeartbeats 8000000 in
theorem chai5_2 : runC (some 19) (chR 5 2) 51 (chC 5 2) 6 [tk 0, tk 1, tk 2, tk 3] = true := by kernel_rfl
set_option maxHeartbeats 8000000 in
theorem chai5_3 : runC (some 19) (chR 5 3) 51 (chC 5 3) 6 [tk 0, tk 1, tk 2, tk 3] = true := by kernel_rfl
set_option maxHeartbeats 8000000 in
theorem chai5_4 : runC (some 19) (chR 5 4) 51 (chC 5 4) 6 [tk 0, tk 1, tk 2, tk 3] = true := by kernel_rfl
end Go.Proofs.YtnlinpocnopibaaGreatDoor
