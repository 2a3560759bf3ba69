/-
  RunChain is true, whatever the numbers are.
-/
import Derived.Test.YtnlinpocnopibaaGreatDoorRcN
import Derived.Test.YtnlinpocnopibaaGreatDoorRch0
import Derived.Test.YtnlinpocnopibaaGreatDoorRch1
import Derived.Test.YtnlinpocnopibaaGreatDoorRch2
import Derived.Test.YtnlinpocnopibaaGreatDoorRch3
import Derived.Test.YtnlinpocnopibaaGreatDoorRch4
namespace Go.Proofs.YtnlinpocnopibaaGreatDoor
open Go Go.RowKit Go.Viv Go.Eva Go.Fv Go.Fw
theorem chAll1 : ∀ c, c < 1 → runC (some 19) (chR 1 c) 51 (chC 1 c) 6 [tk 0, tk 1, tk 2, tk 3] = true := fun c h => match c, h with
  | 0, _ => chai1_0
  | c + 1, h => absurd h (by omega)
theorem chAll2 : ∀ c, c < 2 → runC (some 19) (chR 2 c) 51 (chC 2 c) 6 [tk 0, tk 1, tk 2, tk 3] = true := fun c h => match c, h with
  | 0, _ => chai2_0
  | 1, _ => chai2_1
  | c + 2, h => absurd h (by omega)
theorem chAll3 : ∀ c, c < 3 → runC (some 19) (chR 3 c) 51 (chC 3 c) 6 [tk 0, tk 1, tk 2, tk 3] = true := fun c h => match c, h with
  | 0, _ => chai3_0
  | 1, _ => chai3_1
  | 2, _ => chai3_2
  | c + 3, h => absurd h (by omega)
theorem chAll4 : ∀ c, c < 4 → runC (some 19) (chR 4 c) 51 (chC 4 c) 6 [tk 0, tk 1, tk 2, tk 3] = true := fun c h => match c, h with
  | 0, _ => chai4_0
  | 1, _ => chai4_1
  | 2, _ => chai4_2
  | 3, _ => chai4_3
  | c + 4, h => absurd h (by omega)
theorem chAll5 : ∀ c, c < 5 → runC (some 19) (chR 5 c) 51 (chC 5 c) 6 [tk 0, tk 1, tk 2, tk 3] = true := fun c h => match c, h with
  | 0, _ => chai5_0
  | 1, _ => chai5_1
  | 2, _ => chai5_2
  | 3, _ => chai5_3
  | 4, _ => chai5_4
  | c + 5, h => absurd h (by omega)
theorem chAll6 : ∀ c, c < 6 → runC (some 19) (chR 6 c) 51 (chC 6 c) 6 [tk 0, tk 1, tk 2, tk 3] = true := fun c h => match c, h with
  | 0, _ => chai6_0
  | 1, _ => chai6_1
  | 2, _ => chai6_2
  | 3, _ => chai6_3
  | 4, _ => chai6_4
  | 5, _ => chai6_5
  | c + 6, h => absurd h (by omega)
theorem chAll7 : ∀ c, c < 7 → runC (some 19) (chR 7 c) 51 (chC 7 c) 6 [tk 0, tk 1, tk 2, tk 3] = true := fun c h => match c, h with
  | 0, _ => chai7_0
  | 1, _ => chai7_1
  | 2, _ => chai7_2
  | 3, _ => chai7_3
  | 4, _ => chai7_4
  | 5, _ => chai7_5
  | 6, _ => chai7_6
  | c + 7, h => absurd h (by omega)
theorem chAll8 : ∀ c, c < 8 → runC (some 19) (chR 8 c) 51 (chC 8 c) 6 [tk 0, tk 1, tk 2, tk 3] = true := fun c h => match c, h with
  | 0, _ => chai8_0
  | 1, _ => chai8_1
  | 2, _ => chai8_2
  | 3, _ => chai8_3
  | 4, _ => chai8_4
  | 5, _ => chai8_5
  | 6, _ => chai8_6
  | 7, _ => chai8_7
  | c + 8, h => absurd h (by omega)
theorem chAll : ∀ c r, c < 8 → r < c + 1 → runC (some 19) (chR (c + 1) r) 51 (chC (c + 1) r) 6 [tk 0, tk 1, tk 2, tk 3] = true := fun c r h hr => match c, h with
  | 0, _ => chAll1 r hr
  | 1, _ => chAll2 r hr
  | 2, _ => chAll3 r hr
  | 3, _ => chAll4 r hr
  | 4, _ => chAll5 r hr
  | 5, _ => chAll6 r hr
  | 6, _ => chAll7 r hr
  | 7, _ => chAll8 r hr
  | c + 8, h => absurd h (by omega)
theorem cbAll : ∀ c, c < 8 → runG (awIc (some 19)) (chB (c + 1) 0) 6 [tk 0, tk 1, tk 2, tk 3] = true := fun c h => match c, h with
  | 0, _ => chab1
  | 1, _ => chab2
  | 2, _ => chab3
  | 3, _ => chab4
  | 4, _ => chab5
  | 5, _ => chab6
  | 6, _ => chab7
  | 7, _ => chab8
  | c + 8, h => absurd h (by omega)
theorem chain_any (n t first : Int) (xs : List Int) (A : Option Addr) (cp : Nat) (W : World) (hE : EnvT W) (hcp : xs.length ≤ cp) (hr : RowC W A (xs.flatMap fun n => [Value.int .i64 n])) : Calls Tryz.prog 6 #[.int .i64 n, .int .i64 t, .int .i64 first, .slice A xs.length cp] W fun e w' => e = .returned (.bool true) ∧ Fr (fun _ => False) W w' := by
  have aw : ∀ x, some 19 = some x → True_ x [] := fun x h => by cases h; exact awakeR_true
  obtain ⟨c, hc⟩ := Int.eq_ofNat_of_zero_le (show 0 ≤ n % 8 by omega)
  have hc8 : c < 8 := by omega
  have args : ∀ r φ, VRs (chT A xs cp n t first (c + 1) r) φ [tk 0, tk 1, tk 2, tk 3] [.int .i64 n, .int .i64 t, .int .i64 first, .slice A xs.length cp] := fun r φ => .cons (VR.sym (ν := chT A xs cp n t first (c + 1) r) 0) (.cons (VR.sym (ν := chT A xs cp n t first (c + 1) r) 1) (.cons (VR.sym (ν := chT A xs cp n t first (c + 1) r) 2) (.cons (VR.sym (ν := chT A xs cp n t first (c + 1) r) 3) .nil)))
  by_cases hl : xs.length ≤ 50
  · exact runC_any hE (chR_ok hc8 hc rfl hl) aw (chC_ok hc8 hc rfl hl hcp hr) (args _) (chAll c _ hc8 (Nat.mod_lt _ (by omega)))
  · exact runG_any hE (chB_ok (r := 0) hc (by omega)) (awIc_ok _) (aw_ok hE aw) (args 0) (cbAll c hc8)
end Go.Proofs.YtnlinpocnopibaaGreatDoor
