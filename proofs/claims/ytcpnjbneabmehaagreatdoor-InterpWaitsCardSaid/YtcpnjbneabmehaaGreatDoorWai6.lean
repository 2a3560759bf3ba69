/-
  InterpWaits: the runs of cases 6 and 7, reckoned by the kernel.
-/
import Derived.Test.YtcpnjbneabmehaaGreatDoorWaG
namespace Go.Proofs.YtcpnjbneabmehaaGreatDoor
open Go Go.RowKit Go.Viv Go.Eva Go.Fv
set_option maxHeartbeats 8000000 in
theorem wai6_0 : waiAll 6 0 = true := by kernel_rfl
set_option maxHeartbeats 8000000 in
theorem wai6_1 : waiAll 6 1 = true := by kernel_rfl
set_option maxHeartbeats 8000000 in
theorem wai6_2 : waiAll 6 2 = true := by kernel_rfl
theorem wai6 : ∀ d, d < 3 → waiAll 6 d = true := fun d h => match d, h with
  | 0, _ => wai6_0
  | 1, _ => wai6_1
  | 2, _ => wai6_2
  | d + 3, h => absurd h (by omega)
set_option maxHeartbeats 8000000 in
theorem wai7_0 : waiAll 7 0 = true := by kernel_rfl
set_option maxHeartbeats 8000000 in
theorem wai7_1 : waiAll 7 1 = true := by kernel_rfl
set_option maxHeartbeats 8000000 in
theorem wai7_2 : waiAll 7 2 = true := by kernel_rfl
theorem wai7 : ∀ d, d < 3 → waiAll 7 d = true := fun d h => match d, h with
  | 0, _ => wai7_0
  | 1, _ => wai7_1
  | 2, _ => wai7_2
  | d + 3, h => absurd h (by omega)
end Go.Proofs.YtcpnjbneabmehaaGreatDoor
