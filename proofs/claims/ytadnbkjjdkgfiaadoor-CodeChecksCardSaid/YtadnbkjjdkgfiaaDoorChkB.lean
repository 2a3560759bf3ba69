/-
  Which instructions may be by themselves: the reference's InsOk.
-/
import Derived.Test.YtadnbkjjdkgfiaaDoorChkA
namespace Go.Viv
open Go.Lib Go.Proofs.YtadnbkjjdkgfiaaDoor
/-- An instruction that may be, its skip aside. -/
def insOkP (i : Insn) : Bool := match ofOp i.op with
  | none => false
  | some x => regOk x.r i.r && regOk x.s i.s && (x.n || i.n == 0) && (!x.up || decide (0 ≤ i.n))
theorem insOk_split (i : Insn) (b : Int) : insOk i b = (insOkP i && (i.op != 13 || decide (i.n ≤ b))) := by
  unfold insOk insOkP
  cases ofOp i.op <;> simp
def inB (i : Insn) : Bool := !(decide (i.op < 1) || decide (18 < i.op) || decide (i.r < 0) || decide (3 < i.r) || decide (i.s < 0) || decide (3 < i.s))
theorem insOkP_out (i : Insn) (h : inB i = false) : insOkP i = false := by
  unfold insOkP
  by_cases ho : i.op < 1 ∨ 18 < i.op
  · rw [ofOp_none ho]
  · have : (i.r < 0 ∨ 3 < i.r) ∨ (i.s < 0 ∨ 3 < i.s) := by
      simp [inB] at h
      omega
    cases ofOp i.op with
    | none => rfl
    | some x =>
      rcases this with h | h
      · have : regOk x.r i.r = false := by
          unfold regOk
          rcases h with h | h
          · rw [decide_eq_false (show ¬ 0 ≤ i.r by omega)]; rfl
          · rw [decide_eq_false (show ¬ i.r < 4 by omega)]; simp
        simp [this]
      · have : regOk x.s i.s = false := by
          unfold regOk
          rcases h with h | h
          · rw [decide_eq_false (show ¬ 0 ≤ i.s by omega)]; rfl
          · rw [decide_eq_false (show ¬ i.s < 4 by omega)]; simp
        simp [this]
theorem insOkP_in (i : Insn) (h : inB i = true) : insOkP i = ((wantR i.op || i.r == 0) && (wantS i.op || i.s == 0) && (decide (0 < wantN i.op) || i.n == 0) && (!(wantN i.op == 2) || decide (0 ≤ i.n))) := by
  simp [inB] at h
  have h' := op_cases (op := i.op) (by omega)
  have r1 : decide (0 ≤ i.r) = true := decide_eq_true (by omega)
  have r2 : decide (i.r < 4) = true := decide_eq_true (by omega)
  have s1 : decide (0 ≤ i.s) = true := decide_eq_true (by omega)
  have s2 : decide (i.s < 4) = true := decide_eq_true (by omega)
  unfold insOkP regOk
  rw [r1, r2, s1, s2]
  obtain ⟨op, r, s, n⟩ := i
  clear h r1 r2 s1 s2
  rcases h' with h | h | h | h | h | h | h | h | h | h | h | h | h | h | h | h | h | h
  all_goals
    dsimp only at h
    subst h
    simp [ofOp, shapeTab, two, numb, wantR, wantS, wantN]
end Go.Viv
