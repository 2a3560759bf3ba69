/-
  InterpWaits: the runs of cases 4 and 5, reckoned by the kernel.
-/
import Derived.Test.YtcpnjbneabmehaaGreatDoorWaG
namespace Go.Proofs.YtcpnjbneabmehaaGreatDoor
open Go Go.RowKit Go.Viv Go.Eva Go.Fv
set_option maxHeartbeats 8000000 in
theorem wai4_0 : waiAll 4 0 = true := by kernel_rfl
set_option maxHeartbeats 8000000 in
theorem wai4_1 : waiAll 4 1 = true := by kernel_rfl
set_option maxHeartbeats 8000000 in
theorem wai4_2 : waiAll 4 2 = true := by kernel_rfl
theorem wai4 : ∀ d, d < 3 → waiAll 4 d = true := fun d h => match d, h with
  | 0, _ => wai4_0
  | 1, _ => wai4_1
  | 2, _ => wai4_2
  | d + 3, h => absurd h (by omega)
set_option maxHeartbeats 8000000 in
theorem wai5_0 : waiAll 5 0 = true := by kernel_rfl
set_option maxHeartbeats 8000000 in
theorem wai5_1 : waiAll 5 1 = true := by kernel_rfl
set_option maxHeartbeats 8000000 in
theorem wai5_2 : waiAll 5 2 = true := by kernel_rfl
theorem wai5 : ∀ d, d < 3 → waiAll 5 d = true := fun d h => match d, h with
  | 0, _ => wai5_0
  | 1, _ => wai5_1
  | 2, _ => wai5_2
  | d + 3, h => absurd h (by omega)
end Go.Proofs.YtcpnjbneabmehaaGreatDoor
