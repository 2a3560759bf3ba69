/-
  What stands behind an instruction's word: form.
-/
import Derived.Test.YtadnbkjjdkgfiaaDoorCodJ
import Derived.Test.YtadnbkjjdkgfiaaDoorMasks
namespace Go.Viv
open Go.Lib
/-- The letters behind an instruction's word. -/
def formB (op : Int) : List UInt8 :=
  if op = 2 ∨ op = 3 ∨ op = 4 ∨ op = 5 ∨ op = 6 then [114, 115] else if op = 14 then [] else if op = 15 ∨ op = 18 then [114] else if op = 17 then [110] else [114, 110]
end Go.Viv
namespace Go.Proofs.YtadnbkjjdkgfiaaDoor
open Go.RowKit Go.Viv
set_option maxRecDepth 100000 in
theorem form_any (op : Int) (w : World) : Calls Tryd.prog 32 #[.int .i64 op] w fun e w' => e = .returned (str (formB op)) ∧ Fr (fun _ => False) w w' := by
  by_cases h : op = 2 ∨ op = 3 ∨ op = 4 ∨ op = 5 ∨ op = 6 ∨ op = 14 ∨ op = 15 ∨ op = 18 ∨ op = 17
  · rcases h with rfl | rfl | rfl | rfl | rfl | rfl | rfl | rfl | rfl
    all_goals
      go_enter Tryd.func32, Tryd.ntmps32
      go_wp2
      go_ret
      exact ⟨rfl, by repeat (first | exact Fr.refl _ _ | apply Fr.drew)⟩
  · have e : formB op = [114, 110] := by
      unfold formB
      rw [if_neg (by omega), if_neg (by omega), if_neg (by omega), if_neg (by omega)]
    have h2 : (op == 2) = false := by simp; omega
    have h3 : (op == 3) = false := by simp; omega
    have h4 : (op == 4) = false := by simp; omega
    have h5 : (op == 5) = false := by simp; omega
    have h6 : (op == 6) = false := by simp; omega
    have h7 : (op == 14) = false := by simp; omega
    have h8 : (op == 15) = false := by simp; omega
    have h9 : (op == 18) = false := by simp; omega
    have h10 : (op == 17) = false := by simp; omega
    rw [e]
    clear h e
    go_enter Tryd.func32, Tryd.ntmps32
    go_wp2
    go_ret
    exact ⟨rfl, by repeat (first | exact Fr.refl _ _ | apply Fr.drew)⟩
end Go.Proofs.YtadnbkjjdkgfiaaDoor
