/-
  Rules on open values: what the operations come to. No program in sight.
-/
import Derived.Test.YtenigphjddnknaaGreatDoorRuA
import Derived.Test.YtenigphjddnknaaGreatDoorMasks
namespace Go.Fv
open Go Go.Eva Go.RowKit Go.Viv
section
variable {ν : Toks}
/-- A number within i64's bounds. -/
theorem w64 {z : Nat} (h : z < 9223372036854775808) : IntKind.i64.wrap (Int.ofNat z) = Int.ofNat z := wrap_mx .i64 (by show z ≤ 9223372036854775807; omega)
theorem rl_and {x y : Value} {n : Int} (hx : valT ν x = .int .i64 n) {m : Int} {k : Nat} (hk : k ≤ 62) (hm : (BitVec.ofInt 64 m).toNat = 2 ^ k - 1) (hy : valT ν y = .int .i64 (n % ((2 ^ k : Nat) : Int))) (ho : okV y = true) : Rl.ok ν ⟨.and, x, .int .i64 m, y⟩ := ⟨.i64, n, .i64, m, hx, rfl, fun t => by
  rw [s_and]
  have h2 : bits .and .i64 n m = n % ((2 ^ k : Nat) : Int) := i64_mask n m k hk hm
  rw [hy, ← h2]
  rfl, ho⟩
theorem rl_rem {x : Value} {n k : Int} {c : Nat} (hx : valT ν x = .int .i64 n) (hk : k ≠ 0) (h0 : 0 ≤ n) (h : n % k = .ofNat c) : Rl.ok ν ⟨.rem, x, .int .i64 k, n6 c⟩ := ⟨.i64, n, .i64, k, hx, rfl, fun t => by
  rw [s_rem hk, Int.tmod_eq_emod_of_nonneg h0, h]
  rfl, rfl⟩
theorem rl_remT {x y : Value} {n k : Int} (hx : valT ν x = .int .i64 n) (hk : k ≠ 0) (h0 : 0 ≤ n) (hy : valT ν y = .int .i64 (n % k)) (ho : okV y = true) : Rl.ok ν ⟨.rem, x, .int .i64 k, y⟩ := ⟨.i64, n, .i64, k, hx, rfl, fun t => by
  rw [s_rem hk, Int.tmod_eq_emod_of_nonneg h0, hy], ho⟩
theorem rl_add {x y z : Value} {a b : Nat} (hx : valT ν x = n6 a) (hy : valT ν y = n6 b) (hz : valT ν z = n6 (a + b)) (h : a + b < 9223372036854775808) (ho : okV z = true) : Rl.ok ν ⟨.add, x, y, z⟩ := ⟨.i64, _, .i64, _, hx, hy, fun t => by
  rw [s_add, hz]
  exact congrArg (fun q => some (Value.int .i64 q)) (w64 h), ho⟩
theorem rl_mul {x y z : Value} {a b : Nat} (hx : valT ν x = n6 a) (hy : valT ν y = n6 b) (hz : valT ν z = n6 (a * b)) (h : a * b < 9223372036854775808) (ho : okV z = true) : Rl.ok ν ⟨.mul, x, y, z⟩ := ⟨.i64, _, .i64, _, hx, hy, fun t => by
  rw [s_mul, hz]
  exact congrArg (fun q => some (Value.int .i64 q)) (w64 h), ho⟩
theorem rl_sub {x y z : Value} {a b c : Nat} (hx : valT ν x = n6 a) (hy : valT ν y = n6 b) (hz : valT ν z = n6 c) (hc : a = b + c) (h : c < 9223372036854775808) (ho : okV z = true) : Rl.ok ν ⟨.sub, x, y, z⟩ := ⟨.i64, _, .i64, _, hx, hy, fun t => by
  rw [s_sub, hz, show Int.ofNat a - Int.ofNat b = Int.ofNat c by simp only [Int.ofNat_eq_natCast]; omega]
  exact congrArg (fun q => some (Value.int .i64 q)) (w64 h), ho⟩
theorem rl_quo {x y z : Value} {a b c : Nat} (hx : valT ν x = n6 a) (hy : valT ν y = n6 b) (hb : b ≠ 0) (hz : valT ν z = n6 c) (hc : a / b = c) (h : a < 9223372036854775808) (ho : okV z = true) : Rl.ok ν ⟨.quo, x, y, z⟩ := ⟨.i64, _, .i64, _, hx, hy, fun t => by
  rw [s_quo (by simp only [Int.ofNat_eq_natCast]; omega), hz]
  have e : (Int.ofNat a).tdiv (Int.ofNat b) = Int.ofNat c := by rw [← hc]; rfl
  rw [e]
  exact congrArg (fun q => some (Value.int .i64 q)) (w64 (by rw [← hc]; exact Nat.lt_of_le_of_lt (Nat.div_le_self _ _) h)), ho⟩
theorem rl_eql {x y z : Value} {k : IntKind} {a b : Int} (hx : valT ν x = .int k a) (hy : valT ν y = .int k b) (hz : valT ν z = .bool (decide (a = b))) (ho : okV z = true) : Rl.ok ν ⟨.eql, x, y, z⟩ := ⟨k, a, k, b, hx, hy, fun t => by rw [s_eql, hz], ho⟩
theorem rl_neq {x y z : Value} {k : IntKind} {a b : Int} (hx : valT ν x = .int k a) (hy : valT ν y = .int k b) (hz : valT ν z = .bool (!decide (a = b))) (ho : okV z = true) : Rl.ok ν ⟨.neq, x, y, z⟩ := ⟨k, a, k, b, hx, hy, fun t => by rw [s_neq, hz], ho⟩
theorem rl_lss {x y z : Value} {k : IntKind} {a b : Int} (hx : valT ν x = .int k a) (hy : valT ν y = .int k b) (hz : valT ν z = .bool (decide (a < b))) (ho : okV z = true) : Rl.ok ν ⟨.lss, x, y, z⟩ := ⟨k, a, k, b, hx, hy, fun t => by rw [s_lss, hz], ho⟩
theorem rl_gtr {x y z : Value} {k : IntKind} {a b : Int} (hx : valT ν x = .int k a) (hy : valT ν y = .int k b) (hz : valT ν z = .bool (decide (b < a))) (ho : okV z = true) : Rl.ok ν ⟨.gtr, x, y, z⟩ := ⟨k, a, k, b, hx, hy, fun t => by rw [s_gtr, hz], ho⟩
theorem rl_shr {x z : Value} {a i : Nat} (hx : valT ν x = w6 a) (hi : i ≤ 64) (hz : valT ν z = w6 (a / 2 ^ i)) (ho : okV z = true) : Rl.ok ν ⟨.shr, x, n6 i, z⟩ := ⟨.u64, _, .i64, _, hx, rfl, fun t => by
  rw [s_shr (k := .u64) hi, hz]
  have e2 : (Int.ofNat a).fdiv (2 ^ i) = Int.ofNat (a / 2 ^ i) := by
    rw [Int.fdiv_eq_ediv_of_nonneg _ (by exact Int.pow_nonneg (by decide))]
    simp
  rw [e2], ho⟩
theorem rl_bit {x z : Value} {a : Nat} (hx : valT ν x = w6 a) (ha : a < 2 ^ 64) (hz : valT ν z = w6 (a % 2)) (ho : okV z = true) : Rl.ok ν ⟨.and, x, w6 1, z⟩ := ⟨.u64, _, .u64, _, hx, rfl, fun t => by
  rw [s_and, hz]
  have e : (BitVec.ofInt IntKind.u64.bits (Int.ofNat a) &&& BitVec.ofInt IntKind.u64.bits (Int.ofNat 1)).toNat = a % 2 := by
    show (BitVec.ofInt 64 (Int.ofNat a) &&& BitVec.ofInt 64 (Int.ofNat 1)).toNat = a % 2
    rw [Int.ofNat_eq_natCast, Int.ofNat_eq_natCast, BitVec.ofInt_natCast, BitVec.ofInt_natCast, BitVec.toNat_and, BitVec.toNat_ofNat, BitVec.toNat_ofNat, Nat.mod_eq_of_lt ha]
    exact Nat.and_one_is_mod a
  rw [e]
  have : IntKind.u64.wrap ((a % 2 : Nat) : Int) = Int.ofNat (a % 2) := wrap_mx .u64 (by show a % 2 ≤ 18446744073709551615; omega)
  exact congrArg (fun q => some (Value.int .u64 q)) this, ho⟩
theorem rp_ok {c : Nat} {x y z : Value} {b : Bool} (hc : ν.v c = .bool b) (h1 : b = true → valT ν z = valT ν x) (h2 : b = false → valT ν z = valT ν y) (ho : okV z = true) : Rp.ok ν ⟨c, x, y, z⟩ := ⟨b, hc, by
  cases b
  · exact h2 rfl
  · exact h1 rfl, ho⟩
theorem rp_tst {c : Nat} {b : Bool} (hc : ν.v c = .bool b) : Rp.ok ν (tst c) := rp_ok hc (fun e => hc.trans (by rw [e]; rfl)) (fun e => hc.trans (by rw [e]; rfl)) rfl
end
end Go.Fv
namespace Go.Viv
theorem one_ite {c : Prop} [Decidable c] {x y : Value} (hx : x.oneCell' = true) (hy : y.oneCell' = true) : (if c then x else y).oneCell' = true := by
  by_cases h : c
  · rw [if_pos h]; exact hx
  · rw [if_neg h]; exact hy
theorem u64_in {n : Int} (h : (Lit.int .u64 n).wf = true) : 0 ≤ n ∧ n < 18446744073709551616 := by
  simp only [Lit.wf, Bool.and_eq_true, decide_eq_true_eq] at h
  have h1 : IntKind.u64.min = 0 := by decide
  have h2 : IntKind.u64.max = 18446744073709551615 := by decide
  rw [h1, h2] at h
  omega
end Go.Viv
