/-
  ScriptCursor: the runs of some cases, reckoned by the kernel.
-/
import Derived.Test.YtnlinpocnopibaaGreatDoorKFwE
import Derived.Test.YtnlinpocnopibaaGreatDoorKScR
namespace Go.Proofs.YtnlinpocnopibaaGreatDoor
open Go Go.RowKit Go.Viv Go.Eva Go.Fv Go.Fw
set_option maxHeartbeats 8000000 in
theorem scur0 : runG (awIc (some 23)) (scR 1) 7 [tk 0, tk 1] = true := by kernel_rfl
set_option maxHeartbeats 8000000 in
theorem scur1 : runG (awIc (some 23)) (scR 2) 7 [tk 0, tk 1] = true := by kernel_rfl
set_option maxHeartbeats 8000000 in
theorem scur2 : runG (awIc (some 23)) (scR 3) 7 [tk 0, tk 1] = true := by kernel_rfl
set_option maxHeartbeats 8000000 in
theorem scur3 : runG (awIc (some 23)) (scR 4) 7 [tk 0, tk 1] = true := by kernel_rfl
set_option maxHeartbeats 8000000 in
theorem scur4 : runG (awIc (some 23)) (scR 5) 7 [tk 0, tk 1] = true := by kernel_rfl
set_option maxHeartbeats 8000000 in
theorem scur5 : runG (awIc (some 23)) (scR 6) 7 [tk 0, tk 1] = true := by kernel_rfl
end Go.Proofs.YtnlinpocnopibaaGreatDoor
