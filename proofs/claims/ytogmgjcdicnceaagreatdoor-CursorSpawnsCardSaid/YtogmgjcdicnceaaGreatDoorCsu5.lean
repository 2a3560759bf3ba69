/-
  CursorSpawns: the runs of some cases, reckoned by the kernel.
-/
import Derived.Test.YtogmgjcdicnceaaGreatDoorCsN
namespace Go.Proofs.YtogmgjcdicnceaaGreatDoor
open Go Go.RowKit Go.Viv Go.Eva Go.Fv Go.Fw
set_option maxHeartbeats 8000000 in
theorem csu10_5 : runF (awIc (some 26)) (csR 10 7 5) (csF 10 7) 6 [tk 0, tk 1] = true := by kernel_rfl
set_option maxHeartbeats 8000000 in
theorem csu10_17 : runF (awIc (some 26)) (csR 10 7 17) (csF 10 7) 6 [tk 0, tk 1] = true := by kernel_rfl
set_option maxHeartbeats 8000000 in
theorem csu10_29 : runF (awIc (some 26)) (csR 10 7 29) (csF 10 7) 6 [tk 0, tk 1] = true := by kernel_rfl
set_option maxHeartbeats 8000000 in
theorem csu10_41 : runF (awIc (some 26)) (csR 10 7 41) (csF 10 7) 6 [tk 0, tk 1] = true := by kernel_rfl
set_option maxHeartbeats 8000000 in
theorem csu10_53 : runF (awIc (some 26)) (csR 10 7 53) (csF 10 7) 6 [tk 0, tk 1] = true := by kernel_rfl
set_option maxHeartbeats 8000000 in
theorem csu10_65 : runF (awIc (some 26)) (csR 10 7 65) (csF 10 7) 6 [tk 0, tk 1] = true := by kernel_rfl
set_option maxHeartbeats 8000000 in
theorem csu10_77 : runF (awIc (some 26)) (csR 10 7 77) (csF 10 7) 6 [tk 0, tk 1] = true := by kernel_rfl
set_option maxHeartbeats 8000000 in
theorem csu10_89 : runF (awIc (some 26)) (csR 10 7 89) (csF 10 7) 6 [tk 0, tk 1] = true := by kernel_rfl
set_option maxHeartbeats 8000000 in
theorem csu10_101 : runF (awIc (some 26)) (csR 10 7 101) (csF 10 7) 6 [tk 0, tk 1] = true := by kernel_rfl
set_option maxHeartbeats 8000000 in
theorem csu10_113 : runF (awIc (some 26)) (csR 10 7 113) (csF 10 7) 6 [tk 0, tk 1] = true := by kernel_rfl
set_option maxHeartbeats 8000000 in
theorem csu10_125 : runF (awIc (some 26)) (csR 10 7 125) (csF 10 7) 6 [tk 0, tk 1] = true := by kernel_rfl
set_option maxHeartbeats 8000000 in
theorem csu9_13 : runF (awIc (some 26)) (csR 9 6 13) (csF 9 6) 6 [tk 0, tk 1] = true := by kernel_rfl
set_option maxHeartbeats 8000000 in
theorem csu9_25 : runF (awIc (some 26)) (csR 9 6 25) (csF 9 6) 6 [tk 0, tk 1] = true := by kernel_rfl
set_option maxHeartbeats 8000000 in
theorem csu9_37 : runF (awIc (some 26)) (csR 9 6 37) (csF 9 6) 6 [tk 0, tk 1] = true := by kernel_rfl
set_option maxHeartbeats 8000000 in
theorem csu9_49 : runF (awIc (some 26)) (csR 9 6 49) (csF 9 6) 6 [tk 0, tk 1] = true := by kernel_rfl
set_option maxHeartbeats 8000000 in
theorem csu9_61 : runF (awIc (some 26)) (csR 9 6 61) (csF 9 6) 6 [tk 0, tk 1] = true := by kernel_rfl
set_option maxHeartbeats 8000000 in
theorem csu8_9 : runF (awIc (some 26)) (csR 8 5 9) (csF 8 5) 6 [tk 0, tk 1] = true := by kernel_rfl
set_option maxHeartbeats 8000000 in
theorem csu8_21 : runF (awIc (some 26)) (csR 8 5 21) (csF 8 5) 6 [tk 0, tk 1] = true := by kernel_rfl
set_option maxHeartbeats 8000000 in
theorem csu7_1 : runF (awIc (some 26)) (csR 7 4 1) (csF 7 4) 6 [tk 0, tk 1] = true := by kernel_rfl
set_option maxHeartbeats 8000000 in
theorem csu7_5 : runF (awIc (some 26)) (csR 7 4 5) (csF 7 4) 6 [tk 0, tk 1] = true := by kernel_rfl
set_option maxHeartbeats 8000000 in
theorem csu6_1 : runF (awIc (some 26)) (csR 6 3 1) (csF 6 3) 6 [tk 0, tk 1] = true := by kernel_rfl
set_option maxHeartbeats 8000000 in
theorem csu4_1 : runF (awIc (some 26)) (csR 4 1 1) (csF 4 1) 6 [tk 0, tk 1] = true := by kernel_rfl
end Go.Proofs.YtogmgjcdicnceaaGreatDoor
