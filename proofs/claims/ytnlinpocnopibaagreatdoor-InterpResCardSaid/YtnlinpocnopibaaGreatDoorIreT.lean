/-
  InterpRes is true, whatever the numbers are.
-/
import Derived.Test.YtnlinpocnopibaaGreatDoorFwF
import Derived.Test.YtnlinpocnopibaaGreatDoorIrN
import Derived.Test.YtnlinpocnopibaaGreatDoorIre0
import Derived.Test.YtnlinpocnopibaaGreatDoorIre1
import Derived.Test.YtnlinpocnopibaaGreatDoorIre2
namespace Go.Proofs.YtnlinpocnopibaaGreatDoor
open Go Go.RowKit Go.Viv Go.Eva Go.Fv Go.Fw
theorem reAll : ∀ c, c < 21 → runG (awIc (some 15)) (reR c) 3 [tk 0] = true := fun c h => match c, h with
  | 0, _ => resn0
  | 1, _ => resn1
  | 2, _ => resn2
  | 3, _ => resn3
  | 4, _ => resn4
  | 5, _ => resn5
  | 6, _ => resn6
  | 7, _ => resn7
  | 8, _ => resn8
  | 9, _ => resn9
  | 10, _ => resn10
  | 11, _ => resn11
  | 12, _ => resn12
  | 13, _ => resn13
  | 14, _ => resn14
  | 15, _ => resn15
  | 16, _ => resn16
  | 17, _ => resn17
  | 18, _ => resn18
  | 19, _ => resn19
  | 20, _ => resn20
  | c + 21, h => absurd h (by omega)
theorem res_any (xs : List Int) (A : Option Addr) (cp : Nat) (W : World) (hE : EnvT W) (hr : RowC W A (xs.flatMap fun n => [Value.int .i64 n])) : Calls Tryz.prog 3 #[.slice A xs.length cp] W fun e w' => e = .returned (.bool true) ∧ Fr (fun _ => False) W w' := by
  have aw : ∀ x, some 15 = some x → True_ x [] := fun x h => by cases h; exact awakeW_true
  exact runG_any (ν := reN A xs cp) hE (reR_ok rfl hr) (awIc_ok _) (aw_ok hE aw) (fun φ => .cons (VR.sym (ν := reN A xs cp) 0) .nil) (reAll _ (by omega))
end Go.Proofs.YtnlinpocnopibaaGreatDoor
