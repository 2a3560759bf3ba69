/-
  InterpSkips: the runs of some cases, reckoned by the kernel.
-/
import Derived.Test.YtnlinpocnopibaaGreatDoorFwE
import Derived.Test.YtnlinpocnopibaaGreatDoorIsR
namespace Go.Proofs.YtnlinpocnopibaaGreatDoor
open Go Go.RowKit Go.Viv Go.Eva Go.Fv Go.Fw
set_option maxHeartbeats 8000000 in
theorem skip16 : runC (some 15) (skR 17) 41 (skC 17) 4 [tk 0, tk 1] = true := by kernel_rfl
set_option maxHeartbeats 8000000 in
theorem skip17 : runC (some 15) (skR 18) 41 (skC 18) 4 [tk 0, tk 1] = true := by kernel_rfl
end Go.Proofs.YtnlinpocnopibaaGreatDoor
