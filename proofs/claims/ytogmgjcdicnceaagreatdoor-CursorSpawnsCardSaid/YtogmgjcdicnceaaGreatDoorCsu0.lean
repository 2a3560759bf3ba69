/-
  CursorSpawns: the runs of some cases, reckoned by the kernel.
-/
import Derived.Test.YtogmgjcdicnceaaGreatDoorCsN
namespace Go.Proofs.YtogmgjcdicnceaaGreatDoor
open Go Go.RowKit Go.Viv Go.Eva Go.Fv Go.Fw
set_option maxHeartbeats 8000000 in
theorem csu10_0 : runF (awIc (some 26)) (csR 10 7 0) (csF 10 7) 6 [tk 0, tk 1] = true := by kernel_rfl
set_option maxHeartbeats 8000000 in
theorem csu10_12 : runF (awIc (some 26)) (csR 10 7 12) (csF 10 7) 6 [tk 0, tk 1] = true := by kernel_rfl
set_option maxHeartbeats 8000000 in
theorem csu10_24 : runF (awIc (some 26)) (csR 10 7 24) (csF 10 7) 6 [tk 0, tk 1] = true := by kernel_rfl
set_option maxHeartbeats 8000000 in
theorem csu10_36 : runF (awIc (some 26)) (csR 10 7 36) (csF 10 7) 6 [tk 0, tk 1] = true := by kernel_rfl
set_option maxHeartbeats 8000000 in
theorem csu10_48 : runF (awIc (some 26)) (csR 10 7 48) (csF 10 7) 6 [tk 0, tk 1] = true := by kernel_rfl
set_option maxHeartbeats 8000000 in
theorem csu10_60 : runF (awIc (some 26)) (csR 10 7 60) (csF 10 7) 6 [tk 0, tk 1] = true := by kernel_rfl
set_option maxHeartbeats 8000000 in
theorem csu10_72 : runF (awIc (some 26)) (csR 10 7 72) (csF 10 7) 6 [tk 0, tk 1] = true := by kernel_rfl
set_option maxHeartbeats 8000000 in
theorem csu10_84 : runF (awIc (some 26)) (csR 10 7 84) (csF 10 7) 6 [tk 0, tk 1] = true := by kernel_rfl
set_option maxHeartbeats 8000000 in
theorem csu10_96 : runF (awIc (some 26)) (csR 10 7 96) (csF 10 7) 6 [tk 0, tk 1] = true := by kernel_rfl
set_option maxHeartbeats 8000000 in
theorem csu10_108 : runF (awIc (some 26)) (csR 10 7 108) (csF 10 7) 6 [tk 0, tk 1] = true := by kernel_rfl
set_option maxHeartbeats 8000000 in
theorem csu10_120 : runF (awIc (some 26)) (csR 10 7 120) (csF 10 7) 6 [tk 0, tk 1] = true := by kernel_rfl
set_option maxHeartbeats 8000000 in
theorem csu9_8 : runF (awIc (some 26)) (csR 9 6 8) (csF 9 6) 6 [tk 0, tk 1] = true := by kernel_rfl
set_option maxHeartbeats 8000000 in
theorem csu9_20 : runF (awIc (some 26)) (csR 9 6 20) (csF 9 6) 6 [tk 0, tk 1] = true := by kernel_rfl
set_option maxHeartbeats 8000000 in
theorem csu9_32 : runF (awIc (some 26)) (csR 9 6 32) (csF 9 6) 6 [tk 0, tk 1] = true := by kernel_rfl
set_option maxHeartbeats 8000000 in
theorem csu9_44 : runF (awIc (some 26)) (csR 9 6 44) (csF 9 6) 6 [tk 0, tk 1] = true := by kernel_rfl
set_option maxHeartbeats 8000000 in
theorem csu9_56 : runF (awIc (some 26)) (csR 9 6 56) (csF 9 6) 6 [tk 0, tk 1] = true := by kernel_rfl
set_option maxHeartbeats 8000000 in
theorem csu8_4 : runF (awIc (some 26)) (csR 8 5 4) (csF 8 5) 6 [tk 0, tk 1] = true := by kernel_rfl
set_option maxHeartbeats 8000000 in
theorem csu8_16 : runF (awIc (some 26)) (csR 8 5 16) (csF 8 5) 6 [tk 0, tk 1] = true := by kernel_rfl
set_option maxHeartbeats 8000000 in
theorem csu8_28 : runF (awIc (some 26)) (csR 8 5 28) (csF 8 5) 6 [tk 0, tk 1] = true := by kernel_rfl
set_option maxHeartbeats 8000000 in
theorem csu7_12 : runF (awIc (some 26)) (csR 7 4 12) (csF 7 4) 6 [tk 0, tk 1] = true := by kernel_rfl
set_option maxHeartbeats 8000000 in
theorem csu5_0 : runF (awIc (some 26)) (csR 5 2 0) (csF 5 2) 6 [tk 0, tk 1] = true := by kernel_rfl
end Go.Proofs.YtogmgjcdicnceaaGreatDoor
