/-
  InterpFull: the runs of cases 4 and 5, reckoned by the kernel.
-/
import Derived.Test.YtcpnjbneabmehaaGreatDoorFwG
namespace Go.Proofs.YtcpnjbneabmehaaGreatDoor
open Go Go.RowKit Go.Viv Go.Eva Go.Fv
set_option maxHeartbeats 8000000 in
theorem ful4_0 : fulAll 4 0 = true := by kernel_rfl
set_option maxHeartbeats 8000000 in
theorem ful4_1 : fulAll 4 1 = true := by kernel_rfl
set_option maxHeartbeats 8000000 in
theorem ful4_2 : fulAll 4 2 = true := by kernel_rfl
set_option maxHeartbeats 8000000 in
theorem ful4_3 : fulAll 4 3 = true := by kernel_rfl
set_option maxHeartbeats 8000000 in
theorem ful4_4 : fulAll 4 4 = true := by kernel_rfl
set_option maxHeartbeats 8000000 in
theorem ful4_5 : fulAll 4 5 = true := by kernel_rfl
set_option maxHeartbeats 8000000 in
theorem ful4_6 : fulAll 4 6 = true := by kernel_rfl
set_option maxHeartbeats 8000000 in
theorem ful4_7 : fulAll 4 7 = true := by kernel_rfl
theorem ful4 : ∀ d, d < 8 → fulAll 4 d = true := fun d h => match d, h with
  | 0, _ => ful4_0
  | 1, _ => ful4_1
  | 2, _ => ful4_2
  | 3, _ => ful4_3
  | 4, _ => ful4_4
  | 5, _ => ful4_5
  | 6, _ => ful4_6
  | 7, _ => ful4_7
  | d + 8, h => absurd h (by omega)
set_option maxHeartbeats 8000000 in
theorem ful5_0 : fulAll 5 0 = true := by kernel_rfl
set_option maxHeartbeats 8000000 in
theorem ful5_1 : fulAll 5 1 = true := by kernel_rfl
set_option maxHeartbeats 8000000 in
theorem ful5_2 : fulAll 5 2 = true := by kernel_rfl
set_option maxHeartbeats 8000000 in
theorem ful5_3 : fulAll 5 3 = true := by kernel_rfl
set_option maxHeartbeats 8000000 in
theorem ful5_4 : fulAll 5 4 = true := by kernel_rfl
set_option maxHeartbeats 8000000 in
theorem ful5_5 : fulAll 5 5 = true := by kernel_rfl
set_option maxHeartbeats 8000000 in
theorem ful5_6 : fulAll 5 6 = true := by kernel_rfl
set_option maxHeartbeats 8000000 in
theorem ful5_7 : fulAll 5 7 = true := by kernel_rfl
theorem ful5 : ∀ d, d < 8 → fulAll 5 d = true := fun d h => match d, h with
  | 0, _ => ful5_0
  | 1, _ => ful5_1
  | 2, _ => ful5_2
  | 3, _ => ful5_3
  | 4, _ => ful5_4
  | 5, _ => ful5_5
  | 6, _ => ful5_6
  | 7, _ => ful5_7
  | d + 8, h => absurd h (by omega)
end Go.Proofs.YtcpnjbneabmehaaGreatDoor
