/-
  Laws of a finite shape, by the fast run.
-/
import Derived.Test.YtogmgjcdicnceaaGreatDoorProg
import Derived.Test.YtogmgjcdicnceaaGreatDoorFvG
import Derived.KernelRfl
import Derived.WalkKit
namespace Go.Proofs.YtogmgjcdicnceaaGreatDoor
open Go Go.RowKit Go.Viv Go.Eva Go.Fv
/-- The table of math/bits. -/
def deB : List Nat := [0, 1, 56, 2, 57, 49, 28, 3, 61, 58, 42, 50, 38, 29, 17, 4, 62, 47, 59, 36, 45, 43, 51, 22, 53, 39, 33, 30, 24, 18, 12, 5, 63, 55, 48, 27, 60, 41, 37, 16, 46, 35, 44, 21, 52, 32, 23, 11, 54, 26, 40, 15, 34, 20, 31, 10, 25, 14, 19, 9, 13, 8, 7, 6]
def deC : List Value := deB.map fun n => .int .u8 (.ofNat n)
def tree0 : Hp := ⟨Tr.nil.set 0 (some (.cells deC 0 false)), 0 + 1⟩
/-- What is asked of memory. -/
def EnvT (W : World) : Prop := ∃ e fr, W.heap[0]? = some (.cells deC.toArray e fr)
theorem EnvT.fr {W W' : World} (h : EnvT W) (hf : Fr (fun _ => False) W W') : EnvT W' := by
  obtain ⟨e, fr, h⟩ := h
  have hlt : 0 < W.heap.size := by
    rcases Nat.lt_or_ge 0 W.heap.size with h' | h'
    · exact h'
    · rw [Array.getElem?_eq_none h'] at h; cases h
  exact ⟨e, fr, (hf.block _ hlt (fun h => h)).trans h⟩
theorem start_ok {W : World} (hE : EnvT W) (ν : Toks) : Rw Tryz.prog (0 + 1) (Begin.still W) ν (phi0 (0 + 1) (fun _ => 64)) tree0 W := by
  obtain ⟨e, fr, ht⟩ := hE
  have hlt : 0 < W.heap.size := by
    rcases Nat.lt_or_ge 0 W.heap.size with h | h
    · exact h
    · rw [Array.getElem?_eq_none h] at ht; cases ht
  refine Rw.start (W0 := Begin.still W) hlt _ _ (fun g o ho _ => ?_)
  by_cases hg : 0 = g
  · subst hg
    rw [Tr.at_set_same] at ho
    cases ho
    exact ⟨rfl, .cells ht rfl (fun h => by cases h) (by
      have : deC.toArray.toList.take deC.length = deC := by rw [List.take_of_length_le (by simp)]
      rw [this]
      exact VRs.refl _ (by kernel_rfl))⟩
  · rw [Tr.at_set_ne _ _ hg, nil_at] at ho
    cases ho
/-- A call that answers true, and writes nothing old. -/
def True_ (g : Nat) (args : List Value) : Prop := ∀ W, EnvT W → Calls Tryz.prog g ⟨args⟩ W fun e w' => e = .returned (.bool true) ∧ Fr (fun _ => False) W w'
end Go.Proofs.YtogmgjcdicnceaaGreatDoor
