/-
  InterpFull: the runs of cases 6 and 7, reckoned by the kernel.
-/
import Derived.Test.YtcpnjbneabmehaaGreatDoorFwG
namespace Go.Proofs.YtcpnjbneabmehaaGreatDoor
open Go Go.RowKit Go.Viv Go.Eva Go.Fv
set_option maxHeartbeats 8000000 in
theorem ful6_0 : fulAll 6 0 = true := by kernel_rfl
set_option maxHeartbeats 8000000 in
theorem ful6_1 : fulAll 6 1 = true := by kernel_rfl
set_option maxHeartbeats 8000000 in
theorem ful6_2 : fulAll 6 2 = true := by kernel_rfl
set_option maxHeartbeats 8000000 in
theorem ful6_3 : fulAll 6 3 = true := by kernel_rfl
set_option maxHeartbeats 8000000 in
theorem ful6_4 : fulAll 6 4 = true := by kernel_rfl
set_option maxHeartbeats 8000000 in
theorem ful6_5 : fulAll 6 5 = true := by kernel_rfl
set_option maxHeartbeats 8000000 in
theorem ful6_6 : fulAll 6 6 = true := by kernel_rfl
set_option maxHeartbeats 8000000 in
theorem ful6_7 : fulAll 6 7 = true := by kernel_rfl
theorem ful6 : ∀ d, d < 8 → fulAll 6 d = true := fun d h => match d, h with
  | 0, _ => ful6_0
  | 1, _ => ful6_1
  | 2, _ => ful6_2
  | 3, _ => ful6_3
  | 4, _ => ful6_4
  | 5, _ => ful6_5
  | 6, _ => ful6_6
  | 7, _ => ful6_7
  | d + 8, h => absurd h (by omega)
set_option maxHeartbeats 8000000 in
theorem ful7_0 : fulAll 7 0 = true := by kernel_rfl
set_option maxHeartbeats 8000000 in
theorem ful7_1 : fulAll 7 1 = true := by kernel_rfl
set_option maxHeartbeats 8000000 in
theorem ful7_2 : fulAll 7 2 = true := by kernel_rfl
set_option maxHeartbeats 8000000 in
theorem ful7_3 : fulAll 7 3 = true := by kernel_rfl
set_option maxHeartbeats 8000000 in
theorem ful7_4 : fulAll 7 4 = true := by kernel_rfl
set_option maxHeartbeats 8000000 in
theorem ful7_5 : fulAll 7 5 = true := by kernel_rfl
set_option maxHeartbeats 8000000 in
theorem ful7_6 : fulAll 7 6 = true := by kernel_rfl
set_option maxHeartbeats 8000000 in
theorem ful7_7 : fulAll 7 7 = true := by kernel_rfl
theorem ful7 : ∀ d, d < 8 → fulAll 7 d = true := fun d h => match d, h with
  | 0, _ => ful7_0
  | 1, _ => ful7_1
  | 2, _ => ful7_2
  | 3, _ => ful7_3
  | 4, _ => ful7_4
  | 5, _ => ful7_5
  | 6, _ => ful7_6
  | 7, _ => ful7_7
  | d + 8, h => absurd h (by omega)
end Go.Proofs.YtcpnjbneabmehaaGreatDoor
