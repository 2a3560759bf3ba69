/-
  InterpWaits: the runs of cases 0 and 1, reckoned by the kernel.
-/
import Derived.Test.YtcpnjbneabmehaaGreatDoorWaG
namespace Go.Proofs.YtcpnjbneabmehaaGreatDoor
open Go Go.RowKit Go.Viv Go.Eva Go.Fv
set_option maxHeartbeats 8000000 in
theorem wai0_0 : waiAll 0 0 = true := by kernel_rfl
set_option maxHeartbeats 8000000 in
theorem wai0_1 : waiAll 0 1 = true := by kernel_rfl
set_option maxHeartbeats 8000000 in
theorem wai0_2 : waiAll 0 2 = true := by kernel_rfl
theorem wai0 : ∀ d, d < 3 → waiAll 0 d = true := fun d h => match d, h with
  | 0, _ => wai0_0
  | 1, _ => wai0_1
  | 2, _ => wai0_2
  | d + 3, h => absurd h (by omega)
set_option maxHeartbeats 8000000 in
theorem wai1_0 : waiAll 1 0 = true := by kernel_rfl
set_option maxHeartbeats 8000000 in
theorem wai1_1 : waiAll 1 1 = true := by kernel_rfl
set_option maxHeartbeats 8000000 in
theorem wai1_2 : waiAll 1 2 = true := by kernel_rfl
theorem wai1 : ∀ d, d < 3 → waiAll 1 d = true := fun d h => match d, h with
  | 0, _ => wai1_0
  | 1, _ => wai1_1
  | 2, _ => wai1_2
  | d + 3, h => absurd h (by omega)
end Go.Proofs.YtcpnjbneabmehaaGreatDoor
