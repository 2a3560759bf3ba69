/-
  The names' numbers: what they are, and the walk that lays them out.
-/
import Derived.Test.YtibailpbjdfjfaaDoorKit
import Derived.Test.YtibailpbjdfjfaaDoorShelf
namespace Go.Viv
open Go.RowKit
/-- The numbers of all names, in the document's order. -/
def namesL : List Int := [0, 1, 2, 3, 4, 5, 6, 7, 8, 9, 10, 11, 12, 13, 14, 15, 16, 17, 18, 19, 20, 21, 22, 16777216, 65536, 64, 64, 10000, 1, 2, 3, 4, 5, 0, 1, 2, 1, 2, 3, 0, 1, 2, 1, 2, 3, 1, 2, 3, 4, 1, 2, 3, 1, 2, 3, 4, 5, 1, 2, 3, 4, 5, 6, 7, 8, 9, 10, 11, 12, 13, 14, 15, 16, 17, 18, 1, 2, 3, 4, 5, 6, 7, 8, 9, 10, 11, 12, 13, 14, 15, 16, 17, 18, 19, 20, 21, 1, 2, 3, 4, 5, 6, 7, 8, 9, 10, 11, 12, 13, 14]
def pairC (n : Int) : List Value := [.int .i64 n, .int .i64 n]
def namesC : Array Value := (namesL.flatMap pairC).toArray
end Go.Viv
namespace Go.Proofs.YtibailpbjdfjfaaDoor
open Go.RowKit Go.Viv
theorem wp_of_run {P : Program} {o : Oper} {a : Act} {w w' : World} {v : Value} {K : Act → World → Prop} {Q : Exit → Act → World → Prop} (h : (execOp a.eval o).run P w = .ok (.value v) w') (hk : K (a.put o.dst v) w') : o.wp P a w K Q := by
  unfold Oper.wp
  rw [h]
  exact hk
set_option maxRecDepth 1000000 in
set_option maxHeartbeats 8000000 in
theorem all_any (w : World) : Calls Tryd.prog 7 #[] w fun e w' => e = .returned (.slice (some ⟨w.heap.size, 0, none⟩) 110 110) ∧ w.alloc (.cells namesC 25) = w' := by
  go_enter Tryd.func7, Tryd.ntmps7
  go_wp2
  refine wp_of_run (v := .slice (some ⟨w.heap.size, 0, none⟩) 110 110) (w' := w.alloc (.cells namesC 25)) (by kernel_rfl) ?_
  go_frame
  go_wp2
  go_ret
  exact ⟨rfl, rfl⟩
end Go.Proofs.YtibailpbjdfjfaaDoor
