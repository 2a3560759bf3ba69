/-
  What a turned field of a tame instruction does.
-/
import Derived.Test.YtadnbkjjdkgfiaaDoorTameD
namespace Go.Viv
open Go.Lib Go.Proofs.YtadnbkjjdkgfiaaDoor
/-- What CodeFields asks of an instruction. -/
structure TameIs (J : Insn) : Prop where
  a0 : ∀ n : Nat, insOk ⟨J.op, 4 + n, J.s, J.n⟩ 0 = false
  a1 : ∀ n : Nat, insOk ⟨J.op, J.r, n + 1, J.n⟩ 0 = (decide ((115 : UInt8) ∈ formB J.op) && decide (n + 1 ≤ 3))
  a2 : ∀ n : Nat, insOk ⟨J.op, J.r, J.s, n + 1⟩ 0 = decide ((110 : UInt8) ∈ formB J.op)
  a3 : ∀ n : Nat, insOk ⟨19 + n, J.r, J.s, J.n⟩ 0 = false
  op : inI J.op
def tamed (T : Insn) : Insn := if T.op = 13 then kill else T
theorem big_no (n : Nat) (r s k : Int) : insOk ⟨19 + n, r, s, k⟩ 0 = false := by
  unfold insOk
  have : ofOp (19 + (n : Int)) = none := by
    simp [ofOp]
    try omega
  simp [this]
theorem tame_is (o X : Nat) (h1 : 1 ≤ o) (h18 : o ≤ 18) : TameIs (tamed (tameI o X 4 4 2)) := by
  have hoo : o = 1 ∨ o = 2 ∨ o = 3 ∨ o = 4 ∨ o = 5 ∨ o = 6 ∨ o = 7 ∨ o = 8 ∨ o = 9 ∨ o = 10 ∨ o = 11 ∨ o = 12 ∨ o = 13 ∨ o = 14 ∨ o = 15 ∨ o = 16 ∨ o = 17 ∨ o = 18 := by omega
  rcases hoo with rfl | rfl | rfl | rfl | rfl | rfl | rfl | rfl | rfl | rfl | rfl | rfl | rfl | rfl | rfl | rfl | rfl | rfl
  all_goals
    refine ⟨fun n => ?_, fun n => ?_, fun n => ?_, fun n => big_no _ _ _ _, ?_⟩
    all_goals try rw [Bool.eq_iff_iff]
    all_goals simp [tamed, partI, formB, nI, insOk, ofOp, shapeTab, two, numb, regOk, inI]
    all_goals try omega
end Go.Viv
