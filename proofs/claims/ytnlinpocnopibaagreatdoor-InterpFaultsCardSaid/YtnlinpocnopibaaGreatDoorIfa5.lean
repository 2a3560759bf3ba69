/-
  InterpFaults: the runs of some cases, reckoned by the kernel.
-/
import Derived.Test.YtnlinpocnopibaaGreatDoorFwE
import Derived.Test.YtnlinpocnopibaaGreatDoorIfR
namespace Go.Proofs.YtnlinpocnopibaaGreatDoor
open Go Go.RowKit Go.Viv Go.Eva Go.Fv Go.Fw
set_option maxHeartbeats 8000000 in
theorem faul18_0 : runC (some 15) (faR 19 0 7) 12 (faC 19 0 7) 5 [tk 0, tk 1] = true := by kernel_rfl
set_option maxHeartbeats 8000000 in
theorem faul18_1 : runC (some 15) (faR 19 7 11) 12 (faC 19 7 11) 5 [tk 0, tk 1] = true := by kernel_rfl
set_option maxHeartbeats 8000000 in
theorem faul18_2 : runC (some 15) (faR 19 11 14) 12 (faC 19 11 14) 5 [tk 0, tk 1] = true := by kernel_rfl
set_option maxHeartbeats 8000000 in
theorem faul18_3 : runC (some 15) (faR 19 14 17) 12 (faC 19 14 17) 5 [tk 0, tk 1] = true := by kernel_rfl
set_option maxHeartbeats 8000000 in
theorem faul18_4 : runC (some 15) (faR 19 17 19) 12 (faC 19 17 19) 5 [tk 0, tk 1] = true := by kernel_rfl
set_option maxHeartbeats 8000000 in
theorem faul19_0 : runC (some 15) (faR 20 0 7) 12 (faC 20 0 7) 5 [tk 0, tk 1] = true := by kernel_rfl
end Go.Proofs.YtnlinpocnopibaaGreatDoor
