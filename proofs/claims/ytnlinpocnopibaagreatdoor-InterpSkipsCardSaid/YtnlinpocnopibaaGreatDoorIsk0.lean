/-
  InterpSkips: the runs of some cases, reckoned by the kernel.
-/
import Derived.Test.YtnlinpocnopibaaGreatDoorFwE
import Derived.Test.YtnlinpocnopibaaGreatDoorIsR
namespace Go.Proofs.YtnlinpocnopibaaGreatDoor
open Go Go.RowKit Go.Viv Go.Eva Go.Fv Go.Fw
set_option maxHeartbeats 8000000 in
theorem skip0 : runC (some 15) (skR 1) 41 (skC 1) 4 [tk 0, tk 1] = true := by kernel_rfl
set_option maxHeartbeats 8000000 in
theorem skip1 : runC (some 15) (skR 2) 41 (skC 2) 4 [tk 0, tk 1] = true := by kernel_rfl
set_option maxHeartbeats 8000000 in
theorem skip2 : runC (some 15) (skR 3) 41 (skC 3) 4 [tk 0, tk 1] = true := by kernel_rfl
set_option maxHeartbeats 8000000 in
theorem skip3 : runC (some 15) (skR 4) 41 (skC 4) 4 [tk 0, tk 1] = true := by kernel_rfl
set_option maxHeartbeats 8000000 in
theorem skip4 : runC (some 15) (skR 5) 41 (skC 5) 4 [tk 0, tk 1] = true := by kernel_rfl
set_option maxHeartbeats 8000000 in
theorem skip5 : runC (some 15) (skR 6) 41 (skC 6) 4 [tk 0, tk 1] = true := by kernel_rfl
set_option maxHeartbeats 8000000 in
theorem skip6 : runC (some 15) (skR 7) 41 (skC 7) 4 [tk 0, tk 1] = true := by kernel_rfl
set_option maxHeartbeats 8000000 in
theorem skip7 : runC (some 15) (skR 8) 41 (skC 8) 4 [tk 0, tk 1] = true := by kernel_rfl
set_option maxHeartbeats 8000000 in
theorem skip8 : runC (some 15) (skR 9) 41 (skC 9) 4 [tk 0, tk 1] = true := by kernel_rfl
end Go.Proofs.YtnlinpocnopibaaGreatDoor
