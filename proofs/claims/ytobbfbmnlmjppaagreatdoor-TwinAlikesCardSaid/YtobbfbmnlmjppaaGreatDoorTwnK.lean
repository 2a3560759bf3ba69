/-
  What the document fixes of worlds that are kept otherwise: reckoned by the kernel.
-/
import Derived.Test.YtobbfbmnlmjppaaGreatDoorProg
import Derived.Test.YtobbfbmnlmjppaaGreatDoorBase
import Derived.Test.YtobbfbmnlmjppaaGreatDoorEvaM
namespace Go.Proofs.YtobbfbmnlmjppaaGreatDoor
open Go.RowKit Go.Viv Go.Eva
/-- The table of math/bits. -/
def deB : List Nat := [0, 1, 56, 2, 57, 49, 28, 3, 61, 58, 42, 50, 38, 29, 17, 4, 62, 47, 59, 36, 45, 43, 51, 22, 53, 39, 33, 30, 24, 18, 12, 5, 63, 55, 48, 27, 60, 41, 37, 16, 46, 35, 44, 21, 52, 32, 23, 11, 54, 26, 40, 15, 34, 20, 31, 10, 25, 14, 19, 9, 13, 8, 7, 6]
def deC : List Value := deB.map fun n => .int .u8 (.ofNat n)
def tree0 : Hp := ⟨Tr.nil.set 0 (some (.cells deC 0 false)), 0 + 1⟩
/-- What is asked of memory. -/
def EnvT (W : World) : Prop := ∃ e fr, W.heap[0]? = some (.cells deC.toArray e fr)
def isTrue : Option (Value × Hp) → Bool
  | some (.bool true, _) => true
  | _ => false
theorem of_isTrue {r : Option (Value × Hp)} (h : isTrue r = true) : ∃ H, r = some (.bool true, H) := by
  cases r with
  | none => cases h
  | some p =>
    obtain ⟨v, H⟩ := p
    cases v <;> first
      | (cases h; done)
      | skip
    rename_i b
    cases b
    · cases h
    · exact ⟨H, rfl⟩
theorem closed_true {W : World} (hE : EnvT W) (f : FuncId) (k n : Nat) (h : isTrue (ev Tryz.prog (fun _ _ => none) (0 + 1) k n f [] tree0) = true) :
    Calls Tryz.prog f #[] W fun e w' => e = .returned (.bool true) ∧ Fr (fun _ => False) W w' := by
  obtain ⟨H, hr⟩ := of_isTrue h
  obtain ⟨e, fr, ht⟩ := hE
  have hlt : 0 < W.heap.size := by
    rcases Nat.lt_or_ge 0 W.heap.size with h | h
    · exact h
    · rw [Array.getElem?_eq_none h] at ht; cases ht
  have hs : Rw Tryz.prog (0 + 1) W noToks (phi0 (0 + 1) (fun _ => 64)) tree0 W := Rw.start hlt _ _ (fun g o ho _ => by
    by_cases hg : 0 = g
    · subst hg
      rw [Tr.at_set_same] at ho
      cases ho
      exact .cells ht rfl (fun h => by cases h) (by
        have : deC.toArray.toList.take deC.length = deC := by rw [List.take_of_length_le (by simp)]
        rw [this]
        exact VRs.refl _ (by kernel_rfl))
    · rw [Tr.at_set_ne _ _ hg] at ho
      have : ∀ p : Pz, (Tr.nil : Tr AObj).get p = none := by
        intro p
        induction p with
        | h => rfl
        | o p ih => exact ih
        | i p ih => exact ih
      unfold Tr.at_ at ho
      rw [this] at ho
      cases ho)
  refine (ev_sound (by kernel_rfl) syOK_none k n f [] tree0 (.bool true) H hr _ W [] .nil hs (Nat.le_refl _)).mono fun e w' hp => ?_
  obtain ⟨v', rfl, φ', hv, hR, _, _⟩ := hp
  cases hv
  exact ⟨rfl, Fr.of_below hR.frame⟩
theorem EnvT.fr {W W' : World} (h : EnvT W) (hf : Fr (fun _ => False) W W') : EnvT W' := by
  obtain ⟨e, fr, h⟩ := h
  have hlt : 0 < W.heap.size := by
    rcases Nat.lt_or_ge 0 W.heap.size with h' | h'
    · exact h'
    · rw [Array.getElem?_eq_none h'] at h; cases h
  exact ⟨e, fr, (hf.block _ hlt (fun h => h)).trans h⟩
theorem awake27_any {W : World} (hE : EnvT W) : Calls Tryz.prog 8 #[] W fun e w' => e = .returned (.bool true) ∧ Fr (fun _ => False) W w' :=
  closed_true hE _ 100000 100 (by kernel_rfl)
end Go.Proofs.YtobbfbmnlmjppaaGreatDoor
