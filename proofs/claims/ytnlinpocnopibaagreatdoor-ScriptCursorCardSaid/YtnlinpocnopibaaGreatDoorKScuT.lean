/-
  ScriptCursor is true, whatever the numbers are.
-/
import Derived.Test.YtnlinpocnopibaaGreatDoorKFxF
import Derived.Test.YtnlinpocnopibaaGreatDoorKScN
import Derived.Test.YtnlinpocnopibaaGreatDoorKScu0
import Derived.Test.YtnlinpocnopibaaGreatDoorKScu1
namespace Go.Proofs.YtnlinpocnopibaaGreatDoor
open Go Go.RowKit Go.Viv Go.Eva Go.Fv Go.Fw
theorem scAll : ∀ c, c < 10 → runG (awIc (some 23)) (scR (c + 1)) 7 [tk 0, tk 1] = true := fun c h => match c, h with
  | 0, _ => scur0
  | 1, _ => scur1
  | 2, _ => scur2
  | 3, _ => scur3
  | 4, _ => scur4
  | 5, _ => scur5
  | 6, _ => scur6
  | 7, _ => scur7
  | 8, _ => scur8
  | 9, _ => scur9
  | c + 10, h => absurd h (by omega)
theorem cursor_any (n b : Int) (hb : 0 ≤ b) (hb2 : b < 18446744073709551616) (W : World) (hE : EnvT W) : Calls Tryz.prog 7 #[.int .i64 n, .int .u64 b] W fun e w' => e = .returned (.bool true) ∧ Fr (fun _ => False) W w' := by
  obtain ⟨B, rfl⟩ := Int.eq_ofNat_of_zero_le hb
  obtain ⟨c, hc⟩ := Int.eq_ofNat_of_zero_le (show 0 ≤ n % 256 % 10 by omega)
  have hB : B < 2 ^ 64 := by omega
  have aw : ∀ x, some 23 = some x → True_ x [] := fun x h => by cases h; exact awakeX_true
  exact runG_any (ν := scN B n) hE (scR_ok hB (by omega) hc) (awIc_ok _) (aw_ok hE aw) (fun φ => .cons (VR.sym (ν := scN B n) 0) (.cons (VR.sym (ν := scN B n) 1) .nil)) (scAll c (by omega))
end Go.Proofs.YtnlinpocnopibaaGreatDoor
