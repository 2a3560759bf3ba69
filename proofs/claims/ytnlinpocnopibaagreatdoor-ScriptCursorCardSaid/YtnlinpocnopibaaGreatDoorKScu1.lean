/-
  ScriptCursor: the runs of some cases, reckoned by the kernel.
-/
import Derived.Test.YtnlinpocnopibaaGreatDoorKFwE
import Derived.Test.YtnlinpocnopibaaGreatDoorKScR
namespace Go.Proofs.YtnlinpocnopibaaGreatDoor
open Go Go.RowKit Go.Viv Go.Eva Go.Fv Go.Fw
set_option maxHeartbeats 8000000 in
theorem scur6 : runG (awIc (some 23)) (scR 7) 7 [tk 0, tk 1] = true := by kernel_rfl
set_option maxHeartbeats 8000000 in
theorem scur7 : runG (awIc (some 23)) (scR 8) 7 [tk 0, tk 1] = true := by kernel_rfl
set_option maxHeartbeats 8000000 in
theorem scur8 : runG (awIc (some 23)) (scR 9) 7 [tk 0, tk 1] = true := by kernel_rfl
set_option maxHeartbeats 8000000 in
theorem scur9 : runG (awIc (some 23)) (scR 10) 7 [tk 0, tk 1] = true := by kernel_rfl
end Go.Proofs.YtnlinpocnopibaaGreatDoor
