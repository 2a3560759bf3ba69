/-
  The closed facts of ConsoleBounds's row, each a lemma of its own (the kernel frees its memory between lemmas).
-/
import Derived.Test.YtenigphjddnknaaGreatDoorRows
import Derived.JoinedOf
import Derived.KernelRfl
namespace Go.Proofs.YtenigphjddnknaaGreatDoor.consoleBounds
open Go

set_option maxHeartbeats 8000000 in
set_option maxRecDepth 100000 in
theorem closed : joinedFacts Tryz.pinned.checked.prog 4 Tryz.f4 Rows.consoleBoundsSpec Rows.consoleBoundsRow = true := by
  unfold joinedFacts
  simp only [Bool.and_eq_true]
  repeat' apply And.intro
  all_goals as_aux_lemma => kernel_rfl
end Go.Proofs.YtenigphjddnknaaGreatDoor.consoleBounds
