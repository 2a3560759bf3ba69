/-
  CursorSpawns: the runs of some cases, reckoned by the kernel.
-/
import Derived.Test.YtogmgjcdicnceaaGreatDoorCsN
namespace Go.Proofs.YtogmgjcdicnceaaGreatDoor
open Go Go.RowKit Go.Viv Go.Eva Go.Fv Go.Fw
set_option maxHeartbeats 8000000 in
theorem csu10_7 : runF (awIc (some 26)) (csR 10 7 7) (csF 10 7) 6 [tk 0, tk 1] = true := by kernel_rfl
set_option maxHeartbeats 8000000 in
theorem csu10_19 : runF (awIc (some 26)) (csR 10 7 19) (csF 10 7) 6 [tk 0, tk 1] = true := by kernel_rfl
set_option maxHeartbeats 8000000 in
theorem csu10_31 : runF (awIc (some 26)) (csR 10 7 31) (csF 10 7) 6 [tk 0, tk 1] = true := by kernel_rfl
set_option maxHeartbeats 8000000 in
theorem csu10_43 : runF (awIc (some 26)) (csR 10 7 43) (csF 10 7) 6 [tk 0, tk 1] = true := by kernel_rfl
set_option maxHeartbeats 8000000 in
theorem csu10_55 : runF (awIc (some 26)) (csR 10 7 55) (csF 10 7) 6 [tk 0, tk 1] = true := by kernel_rfl
set_option maxHeartbeats 8000000 in
theorem csu10_67 : runF (awIc (some 26)) (csR 10 7 67) (csF 10 7) 6 [tk 0, tk 1] = true := by kernel_rfl
set_option maxHeartbeats 8000000 in
theorem csu10_79 : runF (awIc (some 26)) (csR 10 7 79) (csF 10 7) 6 [tk 0, tk 1] = true := by kernel_rfl
set_option maxHeartbeats 8000000 in
theorem csu10_91 : runF (awIc (some 26)) (csR 10 7 91) (csF 10 7) 6 [tk 0, tk 1] = true := by kernel_rfl
set_option maxHeartbeats 8000000 in
theorem csu10_103 : runF (awIc (some 26)) (csR 10 7 103) (csF 10 7) 6 [tk 0, tk 1] = true := by kernel_rfl
set_option maxHeartbeats 8000000 in
theorem csu10_115 : runF (awIc (some 26)) (csR 10 7 115) (csF 10 7) 6 [tk 0, tk 1] = true := by kernel_rfl
set_option maxHeartbeats 8000000 in
theorem csu10_127 : runF (awIc (some 26)) (csR 10 7 127) (csF 10 7) 6 [tk 0, tk 1] = true := by kernel_rfl
set_option maxHeartbeats 8000000 in
theorem csu9_15 : runF (awIc (some 26)) (csR 9 6 15) (csF 9 6) 6 [tk 0, tk 1] = true := by kernel_rfl
set_option maxHeartbeats 8000000 in
theorem csu9_27 : runF (awIc (some 26)) (csR 9 6 27) (csF 9 6) 6 [tk 0, tk 1] = true := by kernel_rfl
set_option maxHeartbeats 8000000 in
theorem csu9_39 : runF (awIc (some 26)) (csR 9 6 39) (csF 9 6) 6 [tk 0, tk 1] = true := by kernel_rfl
set_option maxHeartbeats 8000000 in
theorem csu9_51 : runF (awIc (some 26)) (csR 9 6 51) (csF 9 6) 6 [tk 0, tk 1] = true := by kernel_rfl
set_option maxHeartbeats 8000000 in
theorem csu9_63 : runF (awIc (some 26)) (csR 9 6 63) (csF 9 6) 6 [tk 0, tk 1] = true := by kernel_rfl
set_option maxHeartbeats 8000000 in
theorem csu8_11 : runF (awIc (some 26)) (csR 8 5 11) (csF 8 5) 6 [tk 0, tk 1] = true := by kernel_rfl
set_option maxHeartbeats 8000000 in
theorem csu8_23 : runF (awIc (some 26)) (csR 8 5 23) (csF 8 5) 6 [tk 0, tk 1] = true := by kernel_rfl
set_option maxHeartbeats 8000000 in
theorem csu7_3 : runF (awIc (some 26)) (csR 7 4 3) (csF 7 4) 6 [tk 0, tk 1] = true := by kernel_rfl
set_option maxHeartbeats 8000000 in
theorem csu7_7 : runF (awIc (some 26)) (csR 7 4 7) (csF 7 4) 6 [tk 0, tk 1] = true := by kernel_rfl
set_option maxHeartbeats 8000000 in
theorem csu6_3 : runF (awIc (some 26)) (csR 6 3 3) (csF 6 3) 6 [tk 0, tk 1] = true := by kernel_rfl
set_option maxHeartbeats 8000000 in
theorem csu2_0 : runF (awIc (some 26)) (csR 2 0 0) (csF 2 0) 6 [tk 0, tk 1] = true := by kernel_rfl
end Go.Proofs.YtogmgjcdicnceaaGreatDoor
