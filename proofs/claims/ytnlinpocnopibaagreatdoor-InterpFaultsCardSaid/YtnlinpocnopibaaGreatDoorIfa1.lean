/-
  InterpFaults: the runs of some cases, reckoned by the kernel.
-/
import Derived.Test.YtnlinpocnopibaaGreatDoorFwE
import Derived.Test.YtnlinpocnopibaaGreatDoorIfR
namespace Go.Proofs.YtnlinpocnopibaaGreatDoor
open Go Go.RowKit Go.Viv Go.Eva Go.Fv Go.Fw
set_option maxHeartbeats 8000000 in
theorem faul9_0 : runC (some 15) (faR 10 0 9) 12 (faC 10 0 9) 5 [tk 0, tk 1] = true := by kernel_rfl
set_option maxHeartbeats 8000000 in
theorem faul9_1 : runC (some 15) (faR 10 9 10) 12 (faC 10 9 10) 5 [tk 0, tk 1] = true := by kernel_rfl
set_option maxHeartbeats 8000000 in
theorem faul10_0 : runC (some 15) (faR 11 0 8) 12 (faC 11 0 8) 5 [tk 0, tk 1] = true := by kernel_rfl
set_option maxHeartbeats 8000000 in
theorem faul10_1 : runC (some 15) (faR 11 8 11) 12 (faC 11 8 11) 5 [tk 0, tk 1] = true := by kernel_rfl
set_option maxHeartbeats 8000000 in
theorem faul11_0 : runC (some 15) (faR 12 0 8) 12 (faC 12 0 8) 5 [tk 0, tk 1] = true := by kernel_rfl
set_option maxHeartbeats 8000000 in
theorem faul11_1 : runC (some 15) (faR 12 8 12) 12 (faC 12 8 12) 5 [tk 0, tk 1] = true := by kernel_rfl
set_option maxHeartbeats 8000000 in
theorem faul12_0 : runC (some 15) (faR 13 0 8) 12 (faC 13 0 8) 5 [tk 0, tk 1] = true := by kernel_rfl
end Go.Proofs.YtnlinpocnopibaaGreatDoor
