/-
  InterpFull: the runs of cases 8 and 9, reckoned by the kernel.
-/
import Derived.Test.YtcpnjbneabmehaaGreatDoorFwG
namespace Go.Proofs.YtcpnjbneabmehaaGreatDoor
open Go Go.RowKit Go.Viv Go.Eva Go.Fv
set_option maxHeartbeats 8000000 in
theorem ful8_0 : fulAll 8 0 = true := by kernel_rfl
set_option maxHeartbeats 8000000 in
theorem ful8_1 : fulAll 8 1 = true := by kernel_rfl
set_option maxHeartbeats 8000000 in
theorem ful8_2 : fulAll 8 2 = true := by kernel_rfl
set_option maxHeartbeats 8000000 in
theorem ful8_3 : fulAll 8 3 = true := by kernel_rfl
set_option maxHeartbeats 8000000 in
theorem ful8_4 : fulAll 8 4 = true := by kernel_rfl
set_option maxHeartbeats 8000000 in
theorem ful8_5 : fulAll 8 5 = true := by kernel_rfl
set_option maxHeartbeats 8000000 in
theorem ful8_6 : fulAll 8 6 = true := by kernel_rfl
set_option maxHeartbeats 8000000 in
theorem ful8_7 : fulAll 8 7 = true := by kernel_rfl
theorem ful8 : ∀ d, d < 8 → fulAll 8 d = true := fun d h => match d, h with
  | 0, _ => ful8_0
  | 1, _ => ful8_1
  | 2, _ => ful8_2
  | 3, _ => ful8_3
  | 4, _ => ful8_4
  | 5, _ => ful8_5
  | 6, _ => ful8_6
  | 7, _ => ful8_7
  | d + 8, h => absurd h (by omega)
set_option maxHeartbeats 8000000 in
theorem ful9_0 : fulAll 9 0 = true := by kernel_rfl
set_option maxHeartbeats 8000000 in
theorem ful9_1 : fulAll 9 1 = true := by kernel_rfl
set_option maxHeartbeats 8000000 in
theorem ful9_2 : fulAll 9 2 = true := by kernel_rfl
set_option maxHeartbeats 8000000 in
theorem ful9_3 : fulAll 9 3 = true := by kernel_rfl
set_option maxHeartbeats 8000000 in
theorem ful9_4 : fulAll 9 4 = true := by kernel_rfl
set_option maxHeartbeats 8000000 in
theorem ful9_5 : fulAll 9 5 = true := by kernel_rfl
set_option maxHeartbeats 8000000 in
theorem ful9_6 : fulAll 9 6 = true := by kernel_rfl
set_option maxHeartbeats 8000000 in
theorem ful9_7 : fulAll 9 7 = true := by kernel_rfl
theorem ful9 : ∀ d, d < 8 → fulAll 9 d = true := fun d h => match d, h with
  | 0, _ => ful9_0
  | 1, _ => ful9_1
  | 2, _ => ful9_2
  | 3, _ => ful9_3
  | 4, _ => ful9_4
  | 5, _ => ful9_5
  | 6, _ => ful9_6
  | 7, _ => ful9_7
  | d + 8, h => absurd h (by omega)
end Go.Proofs.YtcpnjbneabmehaaGreatDoor
