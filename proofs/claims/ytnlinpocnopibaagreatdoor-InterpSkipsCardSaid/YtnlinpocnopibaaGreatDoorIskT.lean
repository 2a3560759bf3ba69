/-
  InterpSkips is true, whatever the numbers are.
-/
import Derived.Test.YtnlinpocnopibaaGreatDoorFwF
import Derived.Test.YtnlinpocnopibaaGreatDoorIsN
import Derived.Test.YtnlinpocnopibaaGreatDoorIsk0
import Derived.Test.YtnlinpocnopibaaGreatDoorIsk1
import Derived.Test.YtnlinpocnopibaaGreatDoorIsk2
import Derived.Test.YtnlinpocnopibaaGreatDoorIsk3
import Derived.Test.YtnlinpocnopibaaGreatDoorIsk4
namespace Go.Proofs.YtnlinpocnopibaaGreatDoor
open Go Go.RowKit Go.Viv Go.Eva Go.Fv Go.Fw
theorem skAll : ∀ c, c < 20 → runC (some 15) (skR (c + 1)) 41 (skC (c + 1)) 4 [tk 0, tk 1] = true := fun c h => match c, h with
  | 0, _ => skip0
  | 1, _ => skip1
  | 2, _ => skip2
  | 3, _ => skip3
  | 4, _ => skip4
  | 5, _ => skip5
  | 6, _ => skip6
  | 7, _ => skip7
  | 8, _ => skip8
  | 9, _ => skip9
  | 10, _ => skip10
  | 11, _ => skip11
  | 12, _ => skip12
  | 13, _ => skip13
  | 14, _ => skip14
  | 15, _ => skip15
  | 16, _ => skip16
  | 17, _ => skip17
  | 18, _ => skip18
  | 19, _ => skip19
  | c + 20, h => absurd h (by omega)
theorem skips_any (b : Int) (hb : 0 ≤ b) (hb2 : b < 18446744073709551616) (n : Int) (W : World) (hE : EnvT W) : Calls Tryz.prog 4 #[.int .u64 b, .int .i64 n] W fun e w' => e = .returned (.bool true) ∧ Fr (fun _ => False) W w' := by
  obtain ⟨B, rfl⟩ := Int.eq_ofNat_of_zero_le hb
  obtain ⟨c, hc⟩ := Int.eq_ofNat_of_zero_le (show 0 ≤ n % 256 % 20 by omega)
  have hB : B < 2 ^ 64 := by omega
  have hc20 : c < 20 := by omega
  have aw : ∀ x, some 15 = some x → True_ x [] := fun x h => by cases h; exact awakeW_true
  exact runC_any (ν := skN B n) hE (skR_ok hB hc20 hc) aw (skC_ok hB hc20 hc) (fun φ => .cons (VR.sym (ν := skN B n) 0) (.cons (VR.sym (ν := skN B n) 1) .nil)) (skAll c hc20)
end Go.Proofs.YtnlinpocnopibaaGreatDoor
