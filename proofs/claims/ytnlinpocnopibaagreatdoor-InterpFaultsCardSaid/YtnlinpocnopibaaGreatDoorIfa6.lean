/-
  InterpFaults: the runs of some cases, reckoned by the kernel.
-/
import Derived.Test.YtnlinpocnopibaaGreatDoorFwE
import Derived.Test.YtnlinpocnopibaaGreatDoorIfR
namespace Go.Proofs.YtnlinpocnopibaaGreatDoor
open Go Go.RowKit Go.Viv Go.Eva Go.Fv Go.Fw
set_option maxHeartbeats 8000000 in
theorem faul19_1 : runC (some 15) (faR 20 7 11) 12 (faC 20 7 11) 5 [tk 0, tk 1] = true := by kernel_rfl
set_option maxHeartbeats 8000000 in
theorem faul19_2 : runC (some 15) (faR 20 11 14) 12 (faC 20 11 14) 5 [tk 0, tk 1] = true := by kernel_rfl
set_option maxHeartbeats 8000000 in
theorem faul19_3 : runC (some 15) (faR 20 14 17) 12 (faC 20 14 17) 5 [tk 0, tk 1] = true := by kernel_rfl
set_option maxHeartbeats 8000000 in
theorem faul19_4 : runC (some 15) (faR 20 17 19) 12 (faC 20 17 19) 5 [tk 0, tk 1] = true := by kernel_rfl
set_option maxHeartbeats 8000000 in
theorem faul19_5 : runC (some 15) (faR 20 19 20) 12 (faC 20 19 20) 5 [tk 0, tk 1] = true := by kernel_rfl
end Go.Proofs.YtnlinpocnopibaaGreatDoor
