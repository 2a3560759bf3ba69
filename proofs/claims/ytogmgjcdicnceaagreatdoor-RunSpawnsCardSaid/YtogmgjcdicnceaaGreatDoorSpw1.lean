/-
  RunSpawns: the runs of case 1, reckoned by the kernel.
-/
import Derived.Test.YtogmgjcdicnceaaGreatDoorSpG
namespace Go.Proofs.YtogmgjcdicnceaaGreatDoor
open Go Go.RowKit Go.Viv Go.Eva Go.Fv
set_option maxHeartbeats 8000000 in
theorem spw1_0 : spwAll 1 0 = true := by kernel_rfl
set_option maxHeartbeats 8000000 in
theorem spw1_1 : spwAll 1 1 = true := by kernel_rfl
set_option maxHeartbeats 8000000 in
theorem spw1_2 : spwAll 1 2 = true := by kernel_rfl
theorem spw1 : ∀ d, d < 3 → spwAll 1 d = true := fun d h => match d, h with
  | 0, _ => spw1_0
  | 1, _ => spw1_1
  | 2, _ => spw1_2
  | d + 3, h => absurd h (by omega)
end Go.Proofs.YtogmgjcdicnceaaGreatDoor
