/-
  RunSpawns: the runs of case 5, reckoned by the kernel.
-/
import Derived.Test.YtogmgjcdicnceaaGreatDoorSpG
namespace Go.Proofs.YtogmgjcdicnceaaGreatDoor
open Go Go.RowKit Go.Viv Go.Eva Go.Fv
set_option maxHeartbeats 8000000 in
theorem spw5_0 : spwAll 5 0 = true := by kernel_rfl
set_option maxHeartbeats 8000000 in
theorem spw5_1 : spwAll 5 1 = true := by kernel_rfl
set_option maxHeartbeats 8000000 in
theorem spw5_2 : spwAll 5 2 = true := by kernel_rfl
theorem spw5 : ∀ d, d < 3 → spwAll 5 d = true := fun d h => match d, h with
  | 0, _ => spw5_0
  | 1, _ => spw5_1
  | 2, _ => spw5_2
  | d + 3, h => absurd h (by omega)
end Go.Proofs.YtogmgjcdicnceaaGreatDoor
