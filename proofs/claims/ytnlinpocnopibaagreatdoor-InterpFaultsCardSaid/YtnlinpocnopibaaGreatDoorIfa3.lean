/-
  InterpFaults: the runs of some cases, reckoned by the kernel.
-/
import Derived.Test.YtnlinpocnopibaaGreatDoorFwE
import Derived.Test.YtnlinpocnopibaaGreatDoorIfR
namespace Go.Proofs.YtnlinpocnopibaaGreatDoor
open Go Go.RowKit Go.Viv Go.Eva Go.Fv Go.Fw
set_option maxHeartbeats 8000000 in
theorem faul14_2 : runC (some 15) (faR 15 13 15) 12 (faC 15 13 15) 5 [tk 0, tk 1] = true := by kernel_rfl
set_option maxHeartbeats 8000000 in
theorem faul15_0 : runC (some 15) (faR 16 0 8) 12 (faC 16 0 8) 5 [tk 0, tk 1] = true := by kernel_rfl
set_option maxHeartbeats 8000000 in
theorem faul15_1 : runC (some 15) (faR 16 8 12) 12 (faC 16 8 12) 5 [tk 0, tk 1] = true := by kernel_rfl
set_option maxHeartbeats 8000000 in
theorem faul15_2 : runC (some 15) (faR 16 12 16) 12 (faC 16 12 16) 5 [tk 0, tk 1] = true := by kernel_rfl
set_option maxHeartbeats 8000000 in
theorem faul16_0 : runC (some 15) (faR 17 0 8) 12 (faC 17 0 8) 5 [tk 0, tk 1] = true := by kernel_rfl
set_option maxHeartbeats 8000000 in
theorem faul16_1 : runC (some 15) (faR 17 8 12) 12 (faC 17 8 12) 5 [tk 0, tk 1] = true := by kernel_rfl
end Go.Proofs.YtnlinpocnopibaaGreatDoor
