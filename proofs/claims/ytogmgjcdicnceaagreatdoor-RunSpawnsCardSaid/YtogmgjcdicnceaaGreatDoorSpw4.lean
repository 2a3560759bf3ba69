/-
  RunSpawns: the runs of case 4, reckoned by the kernel.
-/
import Derived.Test.YtogmgjcdicnceaaGreatDoorSpG
namespace Go.Proofs.YtogmgjcdicnceaaGreatDoor
open Go Go.RowKit Go.Viv Go.Eva Go.Fv
set_option maxHeartbeats 8000000 in
theorem spw4_0 : spwAll 4 0 = true := by kernel_rfl
set_option maxHeartbeats 8000000 in
theorem spw4_1 : spwAll 4 1 = true := by kernel_rfl
set_option maxHeartbeats 8000000 in
theorem spw4_2 : spwAll 4 2 = true := by kernel_rfl
theorem spw4 : ∀ d, d < 3 → spwAll 4 d = true := fun d h => match d, h with
  | 0, _ => spw4_0
  | 1, _ => spw4_1
  | 2, _ => spw4_2
  | d + 3, h => absurd h (by omega)
end Go.Proofs.YtogmgjcdicnceaaGreatDoor
