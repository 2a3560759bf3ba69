/-
  InterpWaits: the runs of cases 2 and 3, reckoned by the kernel.
-/
import Derived.Test.YtcpnjbneabmehaaGreatDoorWaG
namespace Go.Proofs.YtcpnjbneabmehaaGreatDoor
open Go Go.RowKit Go.Viv Go.Eva Go.Fv
set_option maxHeartbeats 8000000 in
theorem wai2_0 : waiAll 2 0 = true := by kernel_rfl
set_option maxHeartbeats 8000000 in
theorem wai2_1 : waiAll 2 1 = true := by kernel_rfl
set_option maxHeartbeats 8000000 in
theorem wai2_2 : waiAll 2 2 = true := by kernel_rfl
theorem wai2 : ∀ d, d < 3 → waiAll 2 d = true := fun d h => match d, h with
  | 0, _ => wai2_0
  | 1, _ => wai2_1
  | 2, _ => wai2_2
  | d + 3, h => absurd h (by omega)
set_option maxHeartbeats 8000000 in
theorem wai3_0 : waiAll 3 0 = true := by kernel_rfl
set_option maxHeartbeats 8000000 in
theorem wai3_1 : waiAll 3 1 = true := by kernel_rfl
set_option maxHeartbeats 8000000 in
theorem wai3_2 : waiAll 3 2 = true := by kernel_rfl
theorem wai3 : ∀ d, d < 3 → waiAll 3 d = true := fun d h => match d, h with
  | 0, _ => wai3_0
  | 1, _ => wai3_1
  | 2, _ => wai3_2
  | d + 3, h => absurd h (by omega)
end Go.Proofs.YtcpnjbneabmehaaGreatDoor
