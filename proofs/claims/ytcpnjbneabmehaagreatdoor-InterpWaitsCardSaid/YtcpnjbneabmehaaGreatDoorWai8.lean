/-
  InterpWaits: the runs of cases 8 and 9, reckoned by the kernel.
-/
import Derived.Test.YtcpnjbneabmehaaGreatDoorWaG
namespace Go.Proofs.YtcpnjbneabmehaaGreatDoor
open Go Go.RowKit Go.Viv Go.Eva Go.Fv
set_option maxHeartbeats 8000000 in
theorem wai8_0 : waiAll 8 0 = true := by kernel_rfl
set_option maxHeartbeats 8000000 in
theorem wai8_1 : waiAll 8 1 = true := by kernel_rfl
set_option maxHeartbeats 8000000 in
theorem wai8_2 : waiAll 8 2 = true := by kernel_rfl
theorem wai8 : ∀ d, d < 3 → waiAll 8 d = true := fun d h => match d, h with
  | 0, _ => wai8_0
  | 1, _ => wai8_1
  | 2, _ => wai8_2
  | d + 3, h => absurd h (by omega)
set_option maxHeartbeats 8000000 in
theorem wai9_0 : waiAll 9 0 = true := by kernel_rfl
set_option maxHeartbeats 8000000 in
theorem wai9_1 : waiAll 9 1 = true := by kernel_rfl
set_option maxHeartbeats 8000000 in
theorem wai9_2 : waiAll 9 2 = true := by kernel_rfl
theorem wai9 : ∀ d, d < 3 → waiAll 9 d = true := fun d h => match d, h with
  | 0, _ => wai9_0
  | 1, _ => wai9_1
  | 2, _ => wai9_2
  | d + 3, h => absurd h (by omega)
end Go.Proofs.YtcpnjbneabmehaaGreatDoor
