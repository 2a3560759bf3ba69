/-
  RunSpawns: the runs of case 3, reckoned by the kernel.
-/
import Derived.Test.YtogmgjcdicnceaaGreatDoorSpG
namespace Go.Proofs.YtogmgjcdicnceaaGreatDoor
open Go Go.RowKit Go.Viv Go.Eva Go.Fv
set_option maxHeartbeats 8000000 in
theorem spw3_0 : spwAll 3 0 = true := by kernel_rfl
set_option maxHeartbeats 8000000 in
theorem spw3_1 : spwAll 3 1 = true := by kernel_rfl
set_option maxHeartbeats 8000000 in
theorem spw3_2 : spwAll 3 2 = true := by kernel_rfl
theorem spw3 : ∀ d, d < 3 → spwAll 3 d = true := fun d h => match d, h with
  | 0, _ => spw3_0
  | 1, _ => spw3_1
  | 2, _ => spw3_2
  | d + 3, h => absurd h (by omega)
end Go.Proofs.YtogmgjcdicnceaaGreatDoor
