/-
  RunSpawns: the runs of case 0, reckoned by the kernel.
-/
import Derived.Test.YtogmgjcdicnceaaGreatDoorSpG
namespace Go.Proofs.YtogmgjcdicnceaaGreatDoor
open Go Go.RowKit Go.Viv Go.Eva Go.Fv
set_option maxHeartbeats 8000000 in
theorem spw0_0 : spwAll 0 0 = true := by kernel_rfl
set_option maxHeartbeats 8000000 in
theorem spw0_1 : spwAll 0 1 = true := by kernel_rfl
set_option maxHeartbeats 8000000 in
theorem spw0_2 : spwAll 0 2 = true := by kernel_rfl
theorem spw0 : ∀ d, d < 3 → spwAll 0 d = true := fun d h => match d, h with
  | 0, _ => spw0_0
  | 1, _ => spw0_1
  | 2, _ => spw0_2
  | d + 3, h => absurd h (by omega)
end Go.Proofs.YtogmgjcdicnceaaGreatDoor
