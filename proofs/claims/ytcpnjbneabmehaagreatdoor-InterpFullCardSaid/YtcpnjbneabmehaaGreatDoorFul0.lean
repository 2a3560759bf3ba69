/-
  InterpFull: the runs of cases 0 and 1, reckoned by the kernel.
-/
import Derived.Test.YtcpnjbneabmehaaGreatDoorFwG
namespace Go.Proofs.YtcpnjbneabmehaaGreatDoor
open Go Go.RowKit Go.Viv Go.Eva Go.Fv
set_option maxHeartbeats 8000000 in
theorem ful0_0 : fulAll 0 0 = true := by kernel_rfl
set_option maxHeartbeats 8000000 in
theorem ful0_1 : fulAll 0 1 = true := by kernel_rfl
set_option maxHeartbeats 8000000 in
theorem ful0_2 : fulAll 0 2 = true := by kernel_rfl
set_option maxHeartbeats 8000000 in
theorem ful0_3 : fulAll 0 3 = true := by kernel_rfl
set_option maxHeartbeats 8000000 in
theorem ful0_4 : fulAll 0 4 = true := by kernel_rfl
set_option maxHeartbeats 8000000 in
theorem ful0_5 : fulAll 0 5 = true := by kernel_rfl
set_option maxHeartbeats 8000000 in
theorem ful0_6 : fulAll 0 6 = true := by kernel_rfl
set_option maxHeartbeats 8000000 in
theorem ful0_7 : fulAll 0 7 = true := by kernel_rfl
theorem ful0 : ∀ d, d < 8 → fulAll 0 d = true := fun d h => match d, h with
  | 0, _ => ful0_0
  | 1, _ => ful0_1
  | 2, _ => ful0_2
  | 3, _ => ful0_3
  | 4, _ => ful0_4
  | 5, _ => ful0_5
  | 6, _ => ful0_6
  | 7, _ => ful0_7
  | d + 8, h => absurd h (by omega)
set_option maxHeartbeats 8000000 in
theorem ful1_0 : fulAll 1 0 = true := by kernel_rfl
set_option maxHeartbeats 8000000 in
theorem ful1_1 : fulAll 1 1 = true := by kernel_rfl
set_option maxHeartbeats 8000000 in
theorem ful1_2 : fulAll 1 2 = true := by kernel_rfl
set_option maxHeartbeats 8000000 in
theorem ful1_3 : fulAll 1 3 = true := by kernel_rfl
set_option maxHeartbeats 8000000 in
theorem ful1_4 : fulAll 1 4 = true := by kernel_rfl
set_option maxHeartbeats 8000000 in
theorem ful1_5 : fulAll 1 5 = true := by kernel_rfl
set_option maxHeartbeats 8000000 in
theorem ful1_6 : fulAll 1 6 = true := by kernel_rfl
set_option maxHeartbeats 8000000 in
theorem ful1_7 : fulAll 1 7 = true := by kernel_rfl
theorem ful1 : ∀ d, d < 8 → fulAll 1 d = true := fun d h => match d, h with
  | 0, _ => ful1_0
  | 1, _ => ful1_1
  | 2, _ => ful1_2
  | 3, _ => ful1_3
  | 4, _ => ful1_4
  | 5, _ => ful1_5
  | 6, _ => ful1_6
  | 7, _ => ful1_7
  | d + 8, h => absurd h (by omega)
end Go.Proofs.YtcpnjbneabmehaaGreatDoor
