/-
  The walks of regions by footprints. No program in sight.
-/
import Derived.Test.YtadnbkjjdkgfiaaDoorBase
import Derived.Test.YtadnbkjjdkgfiaaDoorMix
namespace Go.Viv
open Go.RowKit Go.Sort

theorem fr_two {w w1 w2 : World} (h1 : Fr (fun _ => False) w w1) (h2 : Fr (fun _ => False) w1 w2) : Fr (fun _ => False) w w2 := h1.trans h2 (fun _ h => h.elim)
theorem reg_of_fr {W w' : World} (h : Fr (fun _ => False) W w') : ∃ p : Regrown, w' = grow (redrawn W p.d) p.os := regrown_of_below (h.below (Nat.le_refl _) (fun _ h => h.elim))
theorem fr_regrown {V W : World} (h : Fr (fun _ => False) V W) (d : Nat) (os : Array Obj) : Fr (fun _ => False) V (grow (redrawn W d) os) :=
  fr_two h (Fr.of_below (below_regrown W d os))
/-- A contract of a callee that leaves what was there as it was, met in the walk of a region. -/
theorem calls_reg {P : Program} {f : FuncId} {args : Array Value} {W : World} {d : Nat} {os : Array Obj} {v : Value}
    (h : Calls P f args (grow (redrawn W d) os) fun e w' => e = .returned v ∧ Fr (fun _ => False) (grow (redrawn W d) os) w') : Calls P f args (grow (redrawn W d) os) fun e w'' => e = .returned v ∧ ∃ p : Regrown, w'' = grow (redrawn W p.d) p.os :=
  Calls.regrown_of (h.mono fun _ _ ⟨h1, h2⟩ => ⟨h1, h2.below (Nat.le_refl _) (fun _ h => h.elim)⟩)
/-- Behind an operation that a region carries out. -/
theorem behind {K : Act → World → Prop} {a : Act} {W w' : World} (h : Fr (fun _ => False) W w') (hk : K a w') : Mix.Behind (fun w' => ∃ p : Regrown, w' = grow (redrawn W p.d) p.os) K .normal a w' := ⟨rfl, reg_of_fr h, hk⟩
end Go.Viv
