/-
  CursorSpawns: the runs of some cases, reckoned by the kernel.
-/
import Derived.Test.YtogmgjcdicnceaaGreatDoorCsN
namespace Go.Proofs.YtogmgjcdicnceaaGreatDoor
open Go Go.RowKit Go.Viv Go.Eva Go.Fv Go.Fw
set_option maxHeartbeats 8000000 in
theorem csu10_3 : runF (awIc (some 26)) (csR 10 7 3) (csF 10 7) 6 [tk 0, tk 1] = true := by kernel_rfl
set_option maxHeartbeats 8000000 in
theorem csu10_15 : runF (awIc (some 26)) (csR 10 7 15) (csF 10 7) 6 [tk 0, tk 1] = true := by kernel_rfl
set_option maxHeartbeats 8000000 in
theorem csu10_27 : runF (awIc (some 26)) (csR 10 7 27) (csF 10 7) 6 [tk 0, tk 1] = true := by kernel_rfl
set_option maxHeartbeats 8000000 in
theorem csu10_39 : runF (awIc (some 26)) (csR 10 7 39) (csF 10 7) 6 [tk 0, tk 1] = true := by kernel_rfl
set_option maxHeartbeats 8000000 in
theorem csu10_51 : runF (awIc (some 26)) (csR 10 7 51) (csF 10 7) 6 [tk 0, tk 1] = true := by kernel_rfl
set_option maxHeartbeats 8000000 in
theorem csu10_63 : runF (awIc (some 26)) (csR 10 7 63) (csF 10 7) 6 [tk 0, tk 1] = true := by kernel_rfl
set_option maxHeartbeats 8000000 in
theorem csu10_75 : runF (awIc (some 26)) (csR 10 7 75) (csF 10 7) 6 [tk 0, tk 1] = true := by kernel_rfl
set_option maxHeartbeats 8000000 in
theorem csu10_87 : runF (awIc (some 26)) (csR 10 7 87) (csF 10 7) 6 [tk 0, tk 1] = true := by kernel_rfl
set_option maxHeartbeats 8000000 in
theorem csu10_99 : runF (awIc (some 26)) (csR 10 7 99) (csF 10 7) 6 [tk 0, tk 1] = true := by kernel_rfl
set_option maxHeartbeats 8000000 in
theorem csu10_111 : runF (awIc (some 26)) (csR 10 7 111) (csF 10 7) 6 [tk 0, tk 1] = true := by kernel_rfl
set_option maxHeartbeats 8000000 in
theorem csu10_123 : runF (awIc (some 26)) (csR 10 7 123) (csF 10 7) 6 [tk 0, tk 1] = true := by kernel_rfl
set_option maxHeartbeats 8000000 in
theorem csu9_11 : runF (awIc (some 26)) (csR 9 6 11) (csF 9 6) 6 [tk 0, tk 1] = true := by kernel_rfl
set_option maxHeartbeats 8000000 in
theorem csu9_23 : runF (awIc (some 26)) (csR 9 6 23) (csF 9 6) 6 [tk 0, tk 1] = true := by kernel_rfl
set_option maxHeartbeats 8000000 in
theorem csu9_35 : runF (awIc (some 26)) (csR 9 6 35) (csF 9 6) 6 [tk 0, tk 1] = true := by kernel_rfl
set_option maxHeartbeats 8000000 in
theorem csu9_47 : runF (awIc (some 26)) (csR 9 6 47) (csF 9 6) 6 [tk 0, tk 1] = true := by kernel_rfl
set_option maxHeartbeats 8000000 in
theorem csu9_59 : runF (awIc (some 26)) (csR 9 6 59) (csF 9 6) 6 [tk 0, tk 1] = true := by kernel_rfl
set_option maxHeartbeats 8000000 in
theorem csu8_7 : runF (awIc (some 26)) (csR 8 5 7) (csF 8 5) 6 [tk 0, tk 1] = true := by kernel_rfl
set_option maxHeartbeats 8000000 in
theorem csu8_19 : runF (awIc (some 26)) (csR 8 5 19) (csF 8 5) 6 [tk 0, tk 1] = true := by kernel_rfl
set_option maxHeartbeats 8000000 in
theorem csu8_31 : runF (awIc (some 26)) (csR 8 5 31) (csF 8 5) 6 [tk 0, tk 1] = true := by kernel_rfl
set_option maxHeartbeats 8000000 in
theorem csu7_15 : runF (awIc (some 26)) (csR 7 4 15) (csF 7 4) 6 [tk 0, tk 1] = true := by kernel_rfl
set_option maxHeartbeats 8000000 in
theorem csu5_3 : runF (awIc (some 26)) (csR 5 2 3) (csF 5 2) 6 [tk 0, tk 1] = true := by kernel_rfl
end Go.Proofs.YtogmgjcdicnceaaGreatDoor
