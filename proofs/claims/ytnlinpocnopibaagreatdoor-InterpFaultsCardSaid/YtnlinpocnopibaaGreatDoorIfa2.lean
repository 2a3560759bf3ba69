/-
  InterpFaults: the runs of some cases, reckoned by the kernel.
-/
import Derived.Test.YtnlinpocnopibaaGreatDoorFwE
import Derived.Test.YtnlinpocnopibaaGreatDoorIfR
namespace Go.Proofs.YtnlinpocnopibaaGreatDoor
open Go Go.RowKit Go.Viv Go.Eva Go.Fv Go.Fw
set_option maxHeartbeats 8000000 in
theorem faul12_1 : runC (some 15) (faR 13 8 13) 12 (faC 13 8 13) 5 [tk 0, tk 1] = true := by kernel_rfl
set_option maxHeartbeats 8000000 in
theorem faul13_0 : runC (some 15) (faR 14 0 8) 12 (faC 14 0 8) 5 [tk 0, tk 1] = true := by kernel_rfl
set_option maxHeartbeats 8000000 in
theorem faul13_1 : runC (some 15) (faR 14 8 13) 12 (faC 14 8 13) 5 [tk 0, tk 1] = true := by kernel_rfl
set_option maxHeartbeats 8000000 in
theorem faul13_2 : runC (some 15) (faR 14 13 14) 12 (faC 14 13 14) 5 [tk 0, tk 1] = true := by kernel_rfl
set_option maxHeartbeats 8000000 in
theorem faul14_0 : runC (some 15) (faR 15 0 8) 12 (faC 15 0 8) 5 [tk 0, tk 1] = true := by kernel_rfl
set_option maxHeartbeats 8000000 in
theorem faul14_1 : runC (some 15) (faR 15 8 13) 12 (faC 15 8 13) 5 [tk 0, tk 1] = true := by kernel_rfl
end Go.Proofs.YtnlinpocnopibaaGreatDoor
