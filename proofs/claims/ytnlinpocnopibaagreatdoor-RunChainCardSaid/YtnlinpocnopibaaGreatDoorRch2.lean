/-
  RunChain: the runs of some cases, reckoned by the kernel.
-/
import Derived.Test.YtnlinpocnopibaaGreatDoorFwE
import Derived.Test.YtnlinpocnopibaaGreatDoorRcR
namespace Go.Proofs.YtnlinpocnopibaaGreatDoor
open Go Go.RowKit Go.Viv Go.Eva Go.Fv Go.Fw
set_option maxHeartbeats 8000000 in
theorem chai6_0 : runC (some 19) (chR 6 0) 51 (chC 6 0) 6 [tk 0, tk 1, tk 2, tk 3] = true := by kernel_rfl
set_option maxHeartbeats 8000000 in
theorem chai6_1 : runC (some 19) (chR 6 1) 51 (chC 6 1) 6 [tk 0, tk 1, tk 2, tk 3] = true := by kernel_rfl
set_option maxHeartbeats 8000000 in
theorem chai6_2 : runC (some 19) (chR 6 2) 51 (chC 6 2) 6 [tk 0, tk 1, tk 2, tk 3] = true := by kernel_rfl
set_option maxHeartbeats 8000000 in
theorem chai6_3 : runC (some 19) (chR 6 3) 51 (chC 6 3) 6 [tk 0, tk 1, tk 2, tk 3] = true := by kernel_rfl
set_option maxHeartbeats 8000000 in
theorem chai6_4 : runC (some 19) (chR 6 4) 51 (chC 6 4) 6 [tk 0, tk 1, tk 2, tk 3] = true := by kernel_rfl
set_option maxHeartbeats 8000000 in
theorem chai6_5 : runC (some 19) (chR 6 5) 51 (chC 6 5) 6 [tk 0, tk 1, tk 2, tk 3] = true := by kernel_rfl
end Go.Proofs.YtnlinpocnopibaaGreatDoor
