/-
  RunSpawns: the runs of case 2, reckoned by the kernel.
-/
import Derived.Test.YtogmgjcdicnceaaGreatDoorSpG
namespace Go.Proofs.YtogmgjcdicnceaaGreatDoor
open Go Go.RowKit Go.Viv Go.Eva Go.Fv
set_option maxHeartbeats 8000000 in
theorem spw2_0 : spwAll 2 0 = true := by kernel_rfl
set_option maxHeartbeats 8000000 in
theorem spw2_1 : spwAll 2 1 = true := by kernel_rfl
set_option maxHeartbeats 8000000 in
theorem spw2_2 : spwAll 2 2 = true := by kernel_rfl
theorem spw2 : ∀ d, d < 3 → spwAll 2 d = true := fun d h => match d, h with
  | 0, _ => spw2_0
  | 1, _ => spw2_1
  | 2, _ => spw2_2
  | d + 3, h => absurd h (by omega)
end Go.Proofs.YtogmgjcdicnceaaGreatDoor
