/-
  CursorSpawns: the runs of some cases, reckoned by the kernel.
-/
import Derived.Test.YtogmgjcdicnceaaGreatDoorCsN
namespace Go.Proofs.YtogmgjcdicnceaaGreatDoor
open Go Go.RowKit Go.Viv Go.Eva Go.Fv Go.Fw
set_option maxHeartbeats 8000000 in
theorem csu10_4 : runF (awIc (some 26)) (csR 10 7 4) (csF 10 7) 6 [tk 0, tk 1] = true := by kernel_rfl
set_option maxHeartbeats 8000000 in
theorem csu10_16 : runF (awIc (some 26)) (csR 10 7 16) (csF 10 7) 6 [tk 0, tk 1] = true := by kernel_rfl
set_option maxHeartbeats 8000000 in
theorem csu10_28 : runF (awIc (some 26)) (csR 10 7 28) (csF 10 7) 6 [tk 0, tk 1] = true := by kernel_rfl
set_option maxHeartbeats 8000000 in
theorem csu10_40 : runF (awIc (some 26)) (csR 10 7 40) (csF 10 7) 6 [tk 0, tk 1] = true := by kernel_rfl
set_option maxHeartbeats 8000000 in
theorem csu10_52 : runF (awIc (some 26)) (csR 10 7 52) (csF 10 7) 6 [tk 0, tk 1] = true := by kernel_rfl
set_option maxHeartbeats 8000000 in
theorem csu10_64 : runF (awIc (some 26)) (csR 10 7 64) (csF 10 7) 6 [tk 0, tk 1] = true := by kernel_rfl
set_option maxHeartbeats 8000000 in
theorem csu10_76 : runF (awIc (some 26)) (csR 10 7 76) (csF 10 7) 6 [tk 0, tk 1] = true := by kernel_rfl
set_option maxHeartbeats 8000000 in
theorem csu10_88 : runF (awIc (some 26)) (csR 10 7 88) (csF 10 7) 6 [tk 0, tk 1] = true := by kernel_rfl
set_option maxHeartbeats 8000000 in
theorem csu10_100 : runF (awIc (some 26)) (csR 10 7 100) (csF 10 7) 6 [tk 0, tk 1] = true := by kernel_rfl
set_option maxHeartbeats 8000000 in
theorem csu10_112 : runF (awIc (some 26)) (csR 10 7 112) (csF 10 7) 6 [tk 0, tk 1] = true := by kernel_rfl
set_option maxHeartbeats 8000000 in
theorem csu10_124 : runF (awIc (some 26)) (csR 10 7 124) (csF 10 7) 6 [tk 0, tk 1] = true := by kernel_rfl
set_option maxHeartbeats 8000000 in
theorem csu9_12 : runF (awIc (some 26)) (csR 9 6 12) (csF 9 6) 6 [tk 0, tk 1] = true := by kernel_rfl
set_option maxHeartbeats 8000000 in
theorem csu9_24 : runF (awIc (some 26)) (csR 9 6 24) (csF 9 6) 6 [tk 0, tk 1] = true := by kernel_rfl
set_option maxHeartbeats 8000000 in
theorem csu9_36 : runF (awIc (some 26)) (csR 9 6 36) (csF 9 6) 6 [tk 0, tk 1] = true := by kernel_rfl
set_option maxHeartbeats 8000000 in
theorem csu9_48 : runF (awIc (some 26)) (csR 9 6 48) (csF 9 6) 6 [tk 0, tk 1] = true := by kernel_rfl
set_option maxHeartbeats 8000000 in
theorem csu9_60 : runF (awIc (some 26)) (csR 9 6 60) (csF 9 6) 6 [tk 0, tk 1] = true := by kernel_rfl
set_option maxHeartbeats 8000000 in
theorem csu8_8 : runF (awIc (some 26)) (csR 8 5 8) (csF 8 5) 6 [tk 0, tk 1] = true := by kernel_rfl
set_option maxHeartbeats 8000000 in
theorem csu8_20 : runF (awIc (some 26)) (csR 8 5 20) (csF 8 5) 6 [tk 0, tk 1] = true := by kernel_rfl
set_option maxHeartbeats 8000000 in
theorem csu7_0 : runF (awIc (some 26)) (csR 7 4 0) (csF 7 4) 6 [tk 0, tk 1] = true := by kernel_rfl
set_option maxHeartbeats 8000000 in
theorem csu7_4 : runF (awIc (some 26)) (csR 7 4 4) (csF 7 4) 6 [tk 0, tk 1] = true := by kernel_rfl
set_option maxHeartbeats 8000000 in
theorem csu6_0 : runF (awIc (some 26)) (csR 6 3 0) (csF 6 3) 6 [tk 0, tk 1] = true := by kernel_rfl
set_option maxHeartbeats 8000000 in
theorem csu4_0 : runF (awIc (some 26)) (csR 4 1 0) (csF 4 1) 6 [tk 0, tk 1] = true := by kernel_rfl
end Go.Proofs.YtogmgjcdicnceaaGreatDoor
