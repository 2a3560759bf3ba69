/-
  InterpFaults: the runs of some cases, reckoned by the kernel.
-/
import Derived.Test.YtnlinpocnopibaaGreatDoorFwE
import Derived.Test.YtnlinpocnopibaaGreatDoorIfR
namespace Go.Proofs.YtnlinpocnopibaaGreatDoor
open Go Go.RowKit Go.Viv Go.Eva Go.Fv Go.Fw
set_option maxHeartbeats 8000000 in
theorem faul0_0 : runC (some 15) (faR 1 0 1) 12 (faC 1 0 1) 5 [tk 0, tk 1] = true := by kernel_rfl
set_option maxHeartbeats 8000000 in
theorem faul1_0 : runC (some 15) (faR 2 0 2) 12 (faC 2 0 2) 5 [tk 0, tk 1] = true := by kernel_rfl
set_option maxHeartbeats 8000000 in
theorem faul2_0 : runC (some 15) (faR 3 0 3) 12 (faC 3 0 3) 5 [tk 0, tk 1] = true := by kernel_rfl
set_option maxHeartbeats 8000000 in
theorem faul3_0 : runC (some 15) (faR 4 0 4) 12 (faC 4 0 4) 5 [tk 0, tk 1] = true := by kernel_rfl
set_option maxHeartbeats 8000000 in
theorem faul4_0 : runC (some 15) (faR 5 0 5) 12 (faC 5 0 5) 5 [tk 0, tk 1] = true := by kernel_rfl
set_option maxHeartbeats 8000000 in
theorem faul5_0 : runC (some 15) (faR 6 0 6) 12 (faC 6 0 6) 5 [tk 0, tk 1] = true := by kernel_rfl
set_option maxHeartbeats 8000000 in
theorem faul6_0 : runC (some 15) (faR 7 0 7) 12 (faC 7 0 7) 5 [tk 0, tk 1] = true := by kernel_rfl
set_option maxHeartbeats 8000000 in
theorem faul7_0 : runC (some 15) (faR 8 0 8) 12 (faC 8 0 8) 5 [tk 0, tk 1] = true := by kernel_rfl
set_option maxHeartbeats 8000000 in
theorem faul8_0 : runC (some 15) (faR 9 0 9) 12 (faC 9 0 9) 5 [tk 0, tk 1] = true := by kernel_rfl
end Go.Proofs.YtnlinpocnopibaaGreatDoor
