/-
  RunSpawns is true, whatever the numbers are.
-/
import Derived.Test.YtogmgjcdicnceaaGreatDoorFyF
import Derived.Test.YtogmgjcdicnceaaGreatDoorSpw0
import Derived.Test.YtogmgjcdicnceaaGreatDoorSpw1
import Derived.Test.YtogmgjcdicnceaaGreatDoorSpw2
import Derived.Test.YtogmgjcdicnceaaGreatDoorSpw3
import Derived.Test.YtogmgjcdicnceaaGreatDoorSpw4
import Derived.Test.YtogmgjcdicnceaaGreatDoorSpw5
import Derived.Test.YtogmgjcdicnceaaGreatDoorMasks
namespace Go.Proofs.YtogmgjcdicnceaaGreatDoor
open Go Go.RowKit Go.Viv Go.Eva Go.Fv
theorem spwAny : ∀ c d, c < 6 → d < 3 → spwAll c d = true := fun c d hc hd => match c, hc with
  | 0, _ => spw0 d hd
  | 1, _ => spw1 d hd
  | 2, _ => spw2 d hd
  | 3, _ => spw3 d hd
  | 4, _ => spw4 d hd
  | 5, _ => spw5 d hd
  | c + 6, h => absurd h (by omega)
/-- What the open numbers are. -/
def nuF (a b : Int) : Nat → Int
  | 0 => a
  | 1 => b
  | 2 => a % 256
  | _ => b % 256
theorem ru_and {ν : Nat → Int} {x y : Nat} (h : ν y = ν x % 256) : Rl.ok ν ⟨.and, .chan (some x), .int .i64 255, .chan (some y)⟩ := ⟨ν x, 255, rfl, rfl, fun t => by
  rw [s_and]
  have h2 : bits .and .i64 (ν x) 255 = ν x % 256 := i64_mask (ν x) 255 8 (by decide) (by decide)
  rw [← h] at h2
  exact congrArg (fun z => some (Value.int .i64 z)) h2, rfl⟩
theorem ru_rem {ν : Nat → Int} {x c : Nat} {k : Int} (hk : k ≠ 0) (h0 : 0 ≤ ν x) (h : ν x % k = .ofNat c) : Rl.ok ν ⟨.rem, .chan (some x), .int .i64 k, .int .i64 (.ofNat c)⟩ := ⟨ν x, k, rfl, rfl, fun t => by
  rw [s_rem hk, Int.tmod_eq_emod_of_nonneg h0, h]
  rfl, rfl⟩
theorem spawns_any (a b : Int) : True_ 3 [.int .i64 a, .int .i64 b] := by
  have aw : ∀ x, some 10 = some x → True_ x [] := fun x h => by cases h; exact awakeR_true
  obtain ⟨c, hc⟩ := Int.eq_ofNat_of_zero_le (show 0 ≤ a % 256 % 6 by omega)
  obtain ⟨d, hd⟩ := Int.eq_ofNat_of_zero_le (show 0 ≤ b % 256 % 3 by omega)
  refine fastW_any (ν := nuF a b) (l := spw c d) (u := []) (fun r hr => ?_) (fun _ h => by cases h) aw (args := [.chan (some 0), .chan (some 1)]) (by simp [Fv.okV]) (spwAny c d (by omega) (by omega))
  simp only [spw, List.mem_cons, List.not_mem_nil, or_false] at hr
  rcases hr with rfl | rfl | rfl | rfl
  · exact ru_and rfl
  · exact ru_rem (by decide) (show 0 ≤ a % 256 by omega) hc
  · exact ru_and rfl
  · exact ru_rem (by decide) (show 0 ≤ b % 256 by omega) hd
end Go.Proofs.YtogmgjcdicnceaaGreatDoor
