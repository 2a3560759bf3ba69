/-
  InterpWaits is true, whatever the numbers are.
-/
import Derived.Test.YtcpnjbneabmehaaGreatDoorFwF
import Derived.Test.YtcpnjbneabmehaaGreatDoorWai0
import Derived.Test.YtcpnjbneabmehaaGreatDoorWai2
import Derived.Test.YtcpnjbneabmehaaGreatDoorWai4
import Derived.Test.YtcpnjbneabmehaaGreatDoorWai6
import Derived.Test.YtcpnjbneabmehaaGreatDoorWai8
import Derived.Test.YtcpnjbneabmehaaGreatDoorMasks
namespace Go.Proofs.YtcpnjbneabmehaaGreatDoor
open Go Go.RowKit Go.Viv Go.Eva Go.Fv
theorem waiAny : ∀ c d, c < 10 → d < 3 → waiAll c d = true := fun c d hc hd => match c, hc with
  | 0, _ => wai0 d hd
  | 1, _ => wai1 d hd
  | 2, _ => wai2 d hd
  | 3, _ => wai3 d hd
  | 4, _ => wai4 d hd
  | 5, _ => wai5 d hd
  | 6, _ => wai6 d hd
  | 7, _ => wai7 d hd
  | 8, _ => wai8 d hd
  | 9, _ => wai9 d hd
  | c + 10, h => absurd h (by omega)
/-- What the open numbers are. -/
def nuF (a b : Int) : Nat → Int
  | 0 => a
  | 1 => b
  | 2 => a % 256
  | _ => b % 256
theorem ru_and {ν : Nat → Int} {x y : Nat} (h : ν y = ν x % 256) : Rl.ok ν ⟨.and, .chan (some x), .int .i64 255, .chan (some y)⟩ := ⟨ν x, 255, rfl, rfl, fun t => by
  rw [s_and]
  have h2 : bits .and .i64 (ν x) 255 = ν x % 256 := i64_mask (ν x) 255 8 (by decide) (by decide)
  rw [← h] at h2
  exact congrArg (fun z => some (Value.int .i64 z)) h2, rfl⟩
theorem ru_rem {ν : Nat → Int} {x c : Nat} {k : Int} (hk : k ≠ 0) (h0 : 0 ≤ ν x) (h : ν x % k = .ofNat c) : Rl.ok ν ⟨.rem, .chan (some x), .int .i64 k, .int .i64 (.ofNat c)⟩ := ⟨ν x, k, rfl, rfl, fun t => by
  rw [s_rem hk, Int.tmod_eq_emod_of_nonneg h0, h]
  rfl, rfl⟩
theorem waits_any (a b : Int) : True_ 8 [.int .i64 a, .int .i64 b] := by
  have aw : ∀ x, some 15 = some x → True_ x [] := fun x h => by cases h; exact awakeW_true
  obtain ⟨c, hc⟩ := Int.eq_ofNat_of_zero_le (show 0 ≤ a % 256 % 10 by omega)
  obtain ⟨d, hd⟩ := Int.eq_ofNat_of_zero_le (show 0 ≤ b % 256 % 3 by omega)
  refine fastW_any (ν := nuF a b) (l := wai c d) (u := []) (fun r hr => ?_) (fun _ h => by cases h) aw (args := [.chan (some 0), .chan (some 1)]) (by simp [Fv.okV]) (waiAny c d (by omega) (by omega))
  simp only [wai, List.mem_cons, List.not_mem_nil, or_false] at hr
  rcases hr with rfl | rfl | rfl | rfl
  · exact ru_and rfl
  · exact ru_rem (by decide) (show 0 ≤ a % 256 by omega) hc
  · exact ru_and rfl
  · exact ru_rem (by decide) (show 0 ≤ b % 256 by omega) hd
end Go.Proofs.YtcpnjbneabmehaaGreatDoor
