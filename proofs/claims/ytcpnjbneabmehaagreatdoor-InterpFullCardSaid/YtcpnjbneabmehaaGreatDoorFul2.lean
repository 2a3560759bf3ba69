/-
  InterpFull: the runs of cases 2 and 3, reckoned by the kernel.
-/
import Derived.Test.YtcpnjbneabmehaaGreatDoorFwG
namespace Go.Proofs.YtcpnjbneabmehaaGreatDoor
open Go Go.RowKit Go.Viv Go.Eva Go.Fv
set_option maxHeartbeats 8000000 in
theorem ful2_0 : fulAll 2 0 = true := by kernel_rfl
set_option maxHeartbeats 8000000 in
theorem ful2_1 : fulAll 2 1 = true := by kernel_rfl
set_option maxHeartbeats 8000000 in
theorem ful2_2 : fulAll 2 2 = true := by kernel_rfl
set_option maxHeartbeats 8000000 in
theorem ful2_3 : fulAll 2 3 = true := by kernel_rfl
set_option maxHeartbeats 8000000 in
theorem ful2_4 : fulAll 2 4 = true := by kernel_rfl
set_option maxHeartbeats 8000000 in
theorem ful2_5 : fulAll 2 5 = true := by kernel_rfl
set_option maxHeartbeats 8000000 in
theorem ful2_6 : fulAll 2 6 = true := by kernel_rfl
set_option maxHeartbeats 8000000 in
theorem ful2_7 : fulAll 2 7 = true := by kernel_rfl
theorem ful2 : ∀ d, d < 8 → fulAll 2 d = true := fun d h => match d, h with
  | 0, _ => ful2_0
  | 1, _ => ful2_1
  | 2, _ => ful2_2
  | 3, _ => ful2_3
  | 4, _ => ful2_4
  | 5, _ => ful2_5
  | 6, _ => ful2_6
  | 7, _ => ful2_7
  | d + 8, h => absurd h (by omega)
set_option maxHeartbeats 8000000 in
theorem ful3_0 : fulAll 3 0 = true := by kernel_rfl
set_option maxHeartbeats 8000000 in
theorem ful3_1 : fulAll 3 1 = true := by kernel_rfl
set_option maxHeartbeats 8000000 in
theorem ful3_2 : fulAll 3 2 = true := by kernel_rfl
set_option maxHeartbeats 8000000 in
theorem ful3_3 : fulAll 3 3 = true := by kernel_rfl
set_option maxHeartbeats 8000000 in
theorem ful3_4 : fulAll 3 4 = true := by kernel_rfl
set_option maxHeartbeats 8000000 in
theorem ful3_5 : fulAll 3 5 = true := by kernel_rfl
set_option maxHeartbeats 8000000 in
theorem ful3_6 : fulAll 3 6 = true := by kernel_rfl
set_option maxHeartbeats 8000000 in
theorem ful3_7 : fulAll 3 7 = true := by kernel_rfl
theorem ful3 : ∀ d, d < 8 → fulAll 3 d = true := fun d h => match d, h with
  | 0, _ => ful3_0
  | 1, _ => ful3_1
  | 2, _ => ful3_2
  | 3, _ => ful3_3
  | 4, _ => ful3_4
  | 5, _ => ful3_5
  | 6, _ => ful3_6
  | 7, _ => ful3_7
  | d + 8, h => absurd h (by omega)
end Go.Proofs.YtcpnjbneabmehaaGreatDoor
