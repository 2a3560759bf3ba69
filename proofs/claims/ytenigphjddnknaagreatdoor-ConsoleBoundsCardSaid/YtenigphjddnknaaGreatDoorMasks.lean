/-
  Masks of low bits. No program in sight.
-/
import Derived.Laws.BitsLemmas
namespace Go.Viv
theorem i64_mask (n m : Int) (k : Nat) (hk : k ≤ 62) (h : (BitVec.ofInt 64 m).toNat = 2 ^ k - 1) : bits .and .i64 n m = n % ((2 ^ k : Nat) : Int) := by
  have key : (BitVec.ofInt 64 n &&& BitVec.ofInt 64 m).toNat = (n % ((2 ^ 64 : Nat) : Int)).toNat % 2 ^ k := by
    rw [BitVec.toNat_and, BitVec.toNat_ofInt, h, Nat.and_two_pow_sub_one_eq_mod]
  show IntKind.i64.wrap ((BitVec.ofInt 64 n &&& BitVec.ofInt 64 m).toNat : Nat) = _
  rw [key]
  have e1 : (((n % ((2 ^ 64 : Nat) : Int)).toNat % 2 ^ k : Nat) : Int) = n % ((2 ^ k : Nat) : Int) := by
    rw [Int.natCast_emod, Int.toNat_of_nonneg (Int.emod_nonneg _ (by decide))]
    refine Int.emod_emod_of_dvd _ ?_
    exact Int.natCast_dvd_natCast.2 (Nat.pow_dvd_pow 2 (by omega))
  rw [e1]
  have hp : (2 : Nat) ^ k ≤ 2 ^ 62 := Nat.pow_le_pow_right (by decide) hk
  have e62 : (2 : Nat) ^ 62 = 4611686018427387904 := by decide
  have hpos : (0 : Int) < ((2 ^ k : Nat) : Int) := by exact_mod_cast Nat.pow_pos (by decide)
  have h0 := Int.emod_nonneg n (Int.ne_of_gt hpos)
  have h1 := Int.emod_lt_of_pos n hpos
  rw [IntKind.wrap_i64]
  generalize n % ((2 ^ k : Nat) : Int) = r at *
  have h2 : ((2 ^ k : Nat) : Int) ≤ 4611686018427387904 := by rw [e62] at hp; omega
  show (r + 9223372036854775808) % 18446744073709551616 - 9223372036854775808 = r
  omega
theorem mask_nat (x m : Int) (k : Nat) (hk : k ≤ 62) (h : (BitVec.ofInt 64 m).toNat = 2 ^ k - 1) : ∃ r : Nat, bits .and .i64 x m = r ∧ r < 2 ^ k := by
  have hp : (0 : Int) < ((2 ^ k : Nat) : Int) := by exact_mod_cast Nat.pow_pos (by decide)
  have h0 := Int.emod_nonneg x (Int.ne_of_gt hp)
  have h1 := Int.emod_lt_of_pos x hp
  exact ⟨(x % ((2 ^ k : Nat) : Int)).toNat, by rw [i64_mask x m k hk h, Int.toNat_of_nonneg h0], by omega⟩
theorem and_nat (x : Nat) (m : Int) (k : Nat) (hk : k ≤ 62) (h : (BitVec.ofInt 64 m).toNat = 2 ^ k - 1) : bits .and .i64 (x : Int) m = ((x % 2 ^ k : Nat) : Int) := by
  rw [i64_mask _ m k hk h]
  simp
theorem ofInt_wrap (n : Int) : BitVec.ofInt 64 (IntKind.i64.wrap n) = BitVec.ofInt 64 n := by
  apply BitVec.eq_of_toNat_eq
  rw [BitVec.toNat_ofInt, BitVec.toNat_ofInt, IntKind.wrap_i64]
  congr 1
  have e : ((2 ^ 64 : Nat) : Int) = 18446744073709551616 := by decide
  rw [e]
  omega
theorem bit_fdiv (U : Int) (j : Nat) (hj : j < 64) : (U.fdiv (2 ^ j) % 2 = 1) ↔ (BitVec.ofInt 64 U).getLsbD j = true := by
  have hp : (0 : Int) < 2 ^ j := Int.pow_pos (by decide)
  rw [Int.fdiv_eq_ediv_of_nonneg _ (Int.le_of_lt hp)]
  unfold BitVec.getLsbD
  rw [BitVec.toNat_ofInt, Nat.testBit_eq_decide_div_mod_eq, decide_eq_true_eq]
  have e : ((2 ^ 64 : Nat) : Int) = 2 ^ j * (2 * 2 ^ (63 - j)) := by
    rw [← Int.pow_succ', ← Int.pow_add, show j + (63 - j + 1) = 64 by omega]
    rfl
  have hq := Int.emod_nonneg U (show ((2 ^ 64 : Nat) : Int) ≠ 0 by decide)
  have hd := Int.mul_ediv_add_emod U ((2 ^ 64 : Nat) : Int)
  generalize hr : U % ((2 ^ 64 : Nat) : Int) = r at *
  generalize U / ((2 ^ 64 : Nat) : Int) = q at *
  obtain ⟨n, rfl⟩ := Int.eq_ofNat_of_zero_le hq
  have hU : U / 2 ^ j = 2 * (2 ^ (63 - j) * q) + (n : Int) / 2 ^ j := by
    rw [← hd, e, Int.mul_assoc, Int.mul_assoc, Int.add_comm, Int.add_mul_ediv_left _ _ (Int.ne_of_gt hp), Int.add_comm]
  rw [hU, Int.toNat_natCast]
  have hc : ((n / 2 ^ j : Nat) : Int) = (n : Int) / 2 ^ j := by simp
  rw [← hc]
  omega
theorem bit_pow (c j : Nat) (hc : c < 64) : (BitVec.ofInt 64 (IntKind.i64.wrap (2 ^ c))).getLsbD j = decide (j = c) := by
  rw [ofInt_wrap]
  have e : (2 : Int) ^ c = ((2 ^ c : Nat) : Int) := by simp
  unfold BitVec.getLsbD
  rw [BitVec.toNat_ofInt, e, ← Int.natCast_emod, Int.toNat_natCast, Nat.mod_eq_of_lt (Nat.pow_lt_pow_right (by decide) hc), Nat.testBit_two_pow]
  rw [decide_eq_decide]
  omega
theorem bits_or (a b : Int) : BitVec.ofInt 64 (bits .or .i64 a b) = BitVec.ofInt 64 a ||| BitVec.ofInt 64 b := by
  show BitVec.ofInt 64 (IntKind.i64.wrap ((BitVec.ofInt 64 a ||| BitVec.ofInt 64 b).toNat : Nat)) = _
  rw [ofInt_wrap]
  apply BitVec.eq_of_toNat_eq
  rw [BitVec.toNat_ofInt, ← Int.natCast_emod, Int.toNat_natCast, Nat.mod_eq_of_lt (BitVec.isLt _)]
end Go.Viv
