/-
  What an instruction's kind names: wants.
-/
import Derived.Test.YtadnbkjjdkgfiaaDoorTameD
namespace Go.Viv
open Go.Lib Go.Proofs.YtadnbkjjdkgfiaaDoor
def wantR (op : Int) : Bool := match ofOp op with | some x => x.r | none => false
def wantS (op : Int) : Bool := match ofOp op with | some x => x.s | none => false
def wantN (op : Int) : Int := match ofOp op with | some x => if x.n then (if x.up then 2 else 1) else 0 | none => 0
theorem ofOp_none {op : Int} (h : op < 1 ∨ 18 < op) : ofOp op = none := by
  unfold ofOp
  rw [if_neg (by omega)]
theorem op_cases {op : Int} (h : ¬ (op < 1 ∨ 18 < op)) : op = 1 ∨ op = 2 ∨ op = 3 ∨ op = 4 ∨ op = 5 ∨ op = 6 ∨ op = 7 ∨ op = 8 ∨ op = 9 ∨ op = 10 ∨ op = 11 ∨ op = 12 ∨ op = 13 ∨ op = 14 ∨ op = 15 ∨ op = 16 ∨ op = 17 ∨ op = 18 := by omega
end Go.Viv
namespace Go.Proofs.YtadnbkjjdkgfiaaDoor
open Go.RowKit Go.Viv
set_option maxRecDepth 100000 in
theorem wants_any (op : Int) (w : World) : Calls Tryd.prog 61 #[.int .i64 op] w fun e w' => e = .returned (.tuple #[.bool (wantR op), .bool (wantS op), .int .i64 (wantN op)]) ∧ Fr (fun _ => False) w w' := by
  by_cases h : op < 1 ∨ 18 < op
  · have e1 : wantR op = false := by unfold wantR; rw [ofOp_none h]
    have e2 : wantS op = false := by unfold wantS; rw [ofOp_none h]
    have e3 : wantN op = 0 := by unfold wantN; rw [ofOp_none h]
    rw [e1, e2, e3]
    have g1 : (op == 1) = false := by simp; omega
    have g2 : (op == 2) = false := by simp; omega
    have g3 : (op == 3) = false := by simp; omega
    have g4 : (op == 4) = false := by simp; omega
    have g5 : (op == 5) = false := by simp; omega
    have g6 : (op == 6) = false := by simp; omega
    have g7 : (op == 7) = false := by simp; omega
    have g8 : (op == 8) = false := by simp; omega
    have g9 : (op == 9) = false := by simp; omega
    have g10 : (op == 10) = false := by simp; omega
    have g11 : (op == 11) = false := by simp; omega
    have g12 : (op == 12) = false := by simp; omega
    have g13 : (op == 13) = false := by simp; omega
    have g15 : (op == 15) = false := by simp; omega
    have g16 : (op == 16) = false := by simp; omega
    have g17 : (op == 17) = false := by simp; omega
    have g18 : (op == 18) = false := by simp; omega
    clear h e1 e2 e3
    go_enter Tryd.func61, Tryd.ntmps61
    go_wp2
    refine bodyPost_ret (v := .tuple #[.bool false, .bool false, .int .i64 0]) (by simp [results, Tryd.results61, go_sem]) rfl ⟨rfl, by repeat (first | exact Fr.refl _ _ | apply Fr.drew)⟩
  · have h' := op_cases h
    clear h
    rcases h' with rfl | rfl | rfl | rfl | rfl | rfl | rfl | rfl | rfl | rfl | rfl | rfl | rfl | rfl | rfl | rfl | rfl | rfl
    all_goals
      go_enter Tryd.func61, Tryd.ntmps61
      go_wp2
      exact bodyPost_ret (v := .tuple #[.bool _, .bool _, .int .i64 _]) (by simp [results, Tryd.results61, go_sem]; exact ⟨rfl, rfl, rfl⟩) rfl ⟨rfl, by repeat (first | exact Fr.refl _ _ | apply Fr.drew)⟩
end Go.Proofs.YtadnbkjjdkgfiaaDoor
