/-
  CodeChecks' walk, joined with Tame's.
-/
import Derived.Test.YtadnbkjjdkgfiaaDoorChkG
import Derived.Test.YtadnbkjjdkgfiaaDoorTameA
namespace Go.Proofs.YtadnbkjjdkgfiaaDoor
open Go.RowKit Go.Viv
theorem tameG : TameC := fun x c m r w hc hm hr => tame_any x c m r hc hm hr w
theorem ints_flat : ∀ xs : List Int, ints xs = xs.flatMap (fun n => [Value.int .i64 n])
  | [] => rfl
  | x :: r => by rw [List.flatMap_cons, ← ints_flat r]; rfl
theorem checks_any (is : List Insn) (A : Option Addr) (cap : Nat) (xs : List Int) (B : Option Addr) (capm : Nat) (w : World) (he : EnvC w) (hr : RowC w A (is.flatMap cellsI)) (hn : is.length ≤ cap) (hc : cap ≤ maxLen) (hr' : RowC w B (xs.flatMap (fun n => [Value.int .i64 n]))) (hn' : xs.length ≤ capm) (hc' : capm ≤ maxLen) :
    Calls Tryd.prog 11 #[.slice A is.length cap, .slice B xs.length capm] w fun e w' => e = .returned (.bool true) ∧ Fr (fun _ => False) w w' :=
  checks_of tameG is A is.length cap xs B xs.length capm w he ⟨rfl, hr, hn, by unfold maxLen at hc; exact hc⟩ ⟨rfl, by rw [ints_flat]; exact hr', hn', by unfold maxLen at hc'; exact hc'⟩
end Go.Proofs.YtadnbkjjdkgfiaaDoor
