/-
  CursorSpawns: what is said of open values; that it holds; the cursors' document by the shallow run.
-/
import Derived.Test.YtogmgjcdicnceaaGreatDoorRuA
import Derived.Test.YtogmgjcdicnceaaGreatDoorMasks
import Derived.Test.YtogmgjcdicnceaaGreatDoorFwE
namespace Go.Fv
open Go Go.Eva Go.RowKit Go.Viv
section
variable {ν : Toks}
/-- A number within i64's bounds. -/
theorem w64 {z : Nat} (h : z < 9223372036854775808) : IntKind.i64.wrap (Int.ofNat z) = Int.ofNat z := wrap_mx .i64 (by show z ≤ 9223372036854775807; omega)
theorem rl_and {x y : Value} {n : Int} (hx : valT ν x = .int .i64 n) {m : Int} {k : Nat} (hk : k ≤ 62) (hm : (BitVec.ofInt 64 m).toNat = 2 ^ k - 1) (hy : valT ν y = .int .i64 (n % ((2 ^ k : Nat) : Int))) (ho : okV y = true) : Rl.ok ν ⟨.and, x, .int .i64 m, y⟩ := ⟨.i64, n, .i64, m, hx, rfl, fun t => by
  rw [s_and]
  have h2 : bits .and .i64 n m = n % ((2 ^ k : Nat) : Int) := i64_mask n m k hk hm
  rw [hy, ← h2]
  rfl, ho⟩
theorem rl_rem {x : Value} {n k : Int} {c : Nat} (hx : valT ν x = .int .i64 n) (hk : k ≠ 0) (h0 : 0 ≤ n) (h : n % k = .ofNat c) : Rl.ok ν ⟨.rem, x, .int .i64 k, n6 c⟩ := ⟨.i64, n, .i64, k, hx, rfl, fun t => by
  rw [s_rem hk, Int.tmod_eq_emod_of_nonneg h0, h]
  rfl, rfl⟩
theorem rl_remT {x y : Value} {n k : Int} (hx : valT ν x = .int .i64 n) (hk : k ≠ 0) (h0 : 0 ≤ n) (hy : valT ν y = .int .i64 (n % k)) (ho : okV y = true) : Rl.ok ν ⟨.rem, x, .int .i64 k, y⟩ := ⟨.i64, n, .i64, k, hx, rfl, fun t => by
  rw [s_rem hk, Int.tmod_eq_emod_of_nonneg h0, hy], ho⟩
theorem rl_add {x y z : Value} {a b : Nat} (hx : valT ν x = n6 a) (hy : valT ν y = n6 b) (hz : valT ν z = n6 (a + b)) (h : a + b < 9223372036854775808) (ho : okV z = true) : Rl.ok ν ⟨.add, x, y, z⟩ := ⟨.i64, _, .i64, _, hx, hy, fun t => by
  rw [s_add, hz]
  exact congrArg (fun q => some (Value.int .i64 q)) (w64 h), ho⟩
theorem rl_mul {x y z : Value} {a b : Nat} (hx : valT ν x = n6 a) (hy : valT ν y = n6 b) (hz : valT ν z = n6 (a * b)) (h : a * b < 9223372036854775808) (ho : okV z = true) : Rl.ok ν ⟨.mul, x, y, z⟩ := ⟨.i64, _, .i64, _, hx, hy, fun t => by
  rw [s_mul, hz]
  exact congrArg (fun q => some (Value.int .i64 q)) (w64 h), ho⟩
theorem rl_sub {x y z : Value} {a b c : Nat} (hx : valT ν x = n6 a) (hy : valT ν y = n6 b) (hz : valT ν z = n6 c) (hc : a = b + c) (h : c < 9223372036854775808) (ho : okV z = true) : Rl.ok ν ⟨.sub, x, y, z⟩ := ⟨.i64, _, .i64, _, hx, hy, fun t => by
  rw [s_sub, hz, show Int.ofNat a - Int.ofNat b = Int.ofNat c by simp only [Int.ofNat_eq_natCast]; omega]
  exact congrArg (fun q => some (Value.int .i64 q)) (w64 h), ho⟩
theorem rl_quo {x y z : Value} {a b c : Nat} (hx : valT ν x = n6 a) (hy : valT ν y = n6 b) (hb : b ≠ 0) (hz : valT ν z = n6 c) (hc : a / b = c) (h : a < 9223372036854775808) (ho : okV z = true) : Rl.ok ν ⟨.quo, x, y, z⟩ := ⟨.i64, _, .i64, _, hx, hy, fun t => by
  rw [s_quo (by simp only [Int.ofNat_eq_natCast]; omega), hz]
  have e : (Int.ofNat a).tdiv (Int.ofNat b) = Int.ofNat c := by rw [← hc]; rfl
  rw [e]
  exact congrArg (fun q => some (Value.int .i64 q)) (w64 (by rw [← hc]; exact Nat.lt_of_le_of_lt (Nat.div_le_self _ _) h)), ho⟩
theorem rl_eql {x y z : Value} {k : IntKind} {a b : Int} (hx : valT ν x = .int k a) (hy : valT ν y = .int k b) (hz : valT ν z = .bool (decide (a = b))) (ho : okV z = true) : Rl.ok ν ⟨.eql, x, y, z⟩ := ⟨k, a, k, b, hx, hy, fun t => by rw [s_eql, hz], ho⟩
theorem rl_neq {x y z : Value} {k : IntKind} {a b : Int} (hx : valT ν x = .int k a) (hy : valT ν y = .int k b) (hz : valT ν z = .bool (!decide (a = b))) (ho : okV z = true) : Rl.ok ν ⟨.neq, x, y, z⟩ := ⟨k, a, k, b, hx, hy, fun t => by rw [s_neq, hz], ho⟩
theorem rl_lss {x y z : Value} {k : IntKind} {a b : Int} (hx : valT ν x = .int k a) (hy : valT ν y = .int k b) (hz : valT ν z = .bool (decide (a < b))) (ho : okV z = true) : Rl.ok ν ⟨.lss, x, y, z⟩ := ⟨k, a, k, b, hx, hy, fun t => by rw [s_lss, hz], ho⟩
theorem rl_gtr {x y z : Value} {k : IntKind} {a b : Int} (hx : valT ν x = .int k a) (hy : valT ν y = .int k b) (hz : valT ν z = .bool (decide (b < a))) (ho : okV z = true) : Rl.ok ν ⟨.gtr, x, y, z⟩ := ⟨k, a, k, b, hx, hy, fun t => by rw [s_gtr, hz], ho⟩
theorem rl_shr {x z : Value} {a i : Nat} (hx : valT ν x = w6 a) (hi : i ≤ 64) (hz : valT ν z = w6 (a / 2 ^ i)) (ho : okV z = true) : Rl.ok ν ⟨.shr, x, n6 i, z⟩ := ⟨.u64, _, .i64, _, hx, rfl, fun t => by
  rw [s_shr (k := .u64) hi, hz]
  have e2 : (Int.ofNat a).fdiv (2 ^ i) = Int.ofNat (a / 2 ^ i) := by
    rw [Int.fdiv_eq_ediv_of_nonneg _ (by exact Int.pow_nonneg (by decide))]
    simp
  rw [e2], ho⟩
theorem rl_bit {x z : Value} {a : Nat} (hx : valT ν x = w6 a) (ha : a < 2 ^ 64) (hz : valT ν z = w6 (a % 2)) (ho : okV z = true) : Rl.ok ν ⟨.and, x, w6 1, z⟩ := ⟨.u64, _, .u64, _, hx, rfl, fun t => by
  rw [s_and, hz]
  have e : (BitVec.ofInt IntKind.u64.bits (Int.ofNat a) &&& BitVec.ofInt IntKind.u64.bits (Int.ofNat 1)).toNat = a % 2 := by
    show (BitVec.ofInt 64 (Int.ofNat a) &&& BitVec.ofInt 64 (Int.ofNat 1)).toNat = a % 2
    rw [Int.ofNat_eq_natCast, Int.ofNat_eq_natCast, BitVec.ofInt_natCast, BitVec.ofInt_natCast, BitVec.toNat_and, BitVec.toNat_ofNat, BitVec.toNat_ofNat, Nat.mod_eq_of_lt ha]
    exact Nat.and_one_is_mod a
  rw [e]
  have : IntKind.u64.wrap ((a % 2 : Nat) : Int) = Int.ofNat (a % 2) := wrap_mx .u64 (by show a % 2 ≤ 18446744073709551615; omega)
  exact congrArg (fun q => some (Value.int .u64 q)) this, ho⟩
theorem rp_ok {c : Nat} {x y z : Value} {b : Bool} (hc : ν.v c = .bool b) (h1 : b = true → valT ν z = valT ν x) (h2 : b = false → valT ν z = valT ν y) (ho : okV z = true) : Rp.ok ν ⟨c, x, y, z⟩ := ⟨b, hc, by
  cases b
  · exact h2 rfl
  · exact h1 rfl, ho⟩
theorem rp_tst {c : Nat} {b : Bool} (hc : ν.v c = .bool b) : Rp.ok ν (tst c) := rp_ok hc (fun e => hc.trans (by rw [e]; rfl)) (fun e => hc.trans (by rw [e]; rfl)) rfl
end
end Go.Fv
namespace Go.Viv
theorem one_ite {c : Prop} [Decidable c] {x y : Value} (hx : x.oneCell' = true) (hy : y.oneCell' = true) : (if c then x else y).oneCell' = true := by
  by_cases h : c
  · rw [if_pos h]; exact hx
  · rw [if_neg h]; exact hy
theorem u64_in {n : Int} (h : (Lit.int .u64 n).wf = true) : 0 ≤ n ∧ n < 18446744073709551616 := by
  simp only [Lit.wf, Bool.and_eq_true, decide_eq_true_eq] at h
  have h1 : IntKind.u64.min = 0 := by decide
  have h2 : IntKind.u64.max = 18446744073709551615 := by decide
  rw [h1, h2] at h
  omega
end Go.Viv
namespace Go.Proofs.YtogmgjcdicnceaaGreatDoor
open Go Go.Eva Go.Fv
def csT (i : Nat) (r : Value) : Rl := ⟨.eql, tk (40 + i), w6 1, r⟩
def csR (n m p : Nat) : Rules where
  l := [⟨.and, tk 0, n6 255, tk 2⟩, ⟨.rem, tk 2, n6 10, n6 (n - 1)⟩] ++ upto (fun i => [⟨.shr, tk 1, n6 i, tk (10 + i)⟩, ⟨.and, tk (10 + i), w6 1, tk (40 + i)⟩]) n ++ upto (fun i => [csT i (.bool (Nat.beq (p / 2 ^ i % 2) 1))]) m
def csF (n m : Nat) : List Rl := upto (fun i => [csT (m + i) (tk (100 + (m + i)))]) (n - m)
end Go.Proofs.YtogmgjcdicnceaaGreatDoor
namespace Go.Proofs.YtogmgjcdicnceaaGreatDoor
open Go Go.RowKit Go.Viv Go.Eva Go.Fv Go.Fw
set_option maxHeartbeats 8000000 in
theorem awakeC_true : True_ 26 [] := closed_any (aw := none) (fun _ h => by cases h) (by kernel_rfl)
end Go.Proofs.YtogmgjcdicnceaaGreatDoor
namespace Go.Proofs.YtogmgjcdicnceaaGreatDoor
open Go Go.RowKit Go.Viv Go.Eva Go.Fv Go.Fw
def csBit (b i : Nat) : Nat := b / 2 ^ i % 2
/-- What the open values are. -/
def csV (b : Nat) (n : Int) (k : Nat) : Value :=
  if k = 1 then w6 b else if k < 10 then .int .i64 (if k = 0 then n else n % 256) else if k < 40 then w6 (b / 2 ^ (k - 10)) else if k < 100 then w6 (csBit b (k - 40))
  else .bool (decide (csBit b (k - 100) = 1))
def csN (b : Nat) (n : Int) : Toks := ⟨csV b n, fun k => by
  unfold csV
  repeat' refine one_ite ?_ ?_
  all_goals rfl⟩
section
variable {b : Nat} {n : Int} {i : Nat}
theorem cs10 (h : i < 20) : (csN b n).v (10 + i) = w6 (b / 2 ^ i) := by
  show csV b n (10 + i) = _
  unfold csV
  rw [if_neg (by omega), if_neg (by omega), if_pos (by omega), Nat.add_sub_cancel_left]
theorem cs40 (h : i < 20) : (csN b n).v (40 + i) = w6 (csBit b i) := by
  show csV b n (40 + i) = _
  unfold csV
  rw [if_neg (by omega), if_neg (by omega), if_neg (by omega), if_pos (by omega), Nat.add_sub_cancel_left]
theorem cs100 : (csN b n).v (100 + i) = .bool (decide (csBit b i = 1)) := by
  show csV b n (100 + i) = _
  unfold csV
  rw [if_neg (by omega), if_neg (by omega), if_neg (by omega), if_neg (by omega), Nat.add_sub_cancel_left]
end
theorem csBit_mod {b m i : Nat} (h : i < m) : csBit (b % 2 ^ m) i = csBit b i := by
  unfold csBit
  rw [← Nat.toNat_testBit, ← Nat.toNat_testBit, Nat.testBit_mod_two_pow, decide_eq_true h, Bool.true_and]
theorem csR_ok {W0 : Begin} {b : Nat} (hb : b < 2 ^ 64) {n : Int} {c m p : Nat} (hc : c < 10) (hn : n % 256 % 10 = c) (hm : m ≤ 10) (hp : ∀ i, i < m → csBit p i = csBit b i) : (csR (c + 1) m p).OK Tryz.prog W0 (csN b n) := by
  refine ⟨fun r hr => ?_, (fun _ h => by cases h), (fun _ h => by cases h), (fun _ h => by cases h), (fun _ h => by cases h), (fun _ h => by cases h)⟩
  rcases List.mem_append.1 hr with hr | hr
  · rcases List.mem_append.1 hr with hr | hr
    · simp only [List.mem_cons, List.not_mem_nil, or_false] at hr
      rcases hr with rfl | rfl
      · exact rl_and (n := n) (k := 8) rfl (by decide) (by decide) rfl rfl
      · exact rl_rem (n := n % 256) rfl (by decide) (by omega) hn
    · obtain ⟨i, hi, hr⟩ := mem_upto hr
      simp only [List.mem_cons, List.not_mem_nil, or_false] at hr
      rcases hr with rfl | rfl
      · exact rl_shr (a := b) rfl (by omega) (cs10 (by omega)) rfl
      · exact rl_bit (cs10 (by omega)) (Nat.lt_of_le_of_lt (Nat.div_le_self _ _) hb) (cs40 (by omega)) rfl
  · obtain ⟨i, hi, hr⟩ := mem_upto hr
    simp only [List.mem_cons, List.not_mem_nil, or_false] at hr
    subst hr
    refine rl_eql (cs40 (by omega)) rfl ?_ rfl
    have e := hp i hi
    unfold csBit at e
    show Value.bool (Nat.beq (p / 2 ^ i % 2) 1) = _
    rw [e]
    congr 1
    show _ = decide (Int.ofNat (b / 2 ^ i % 2) = Int.ofNat 1)
    cases h2 : Nat.beq (b / 2 ^ i % 2) 1 with
    | true => exact (decide_eq_true (by rw [Nat.eq_of_beq_eq_true h2])).symm
    | false => exact (decide_eq_false fun h => by rw [Int.ofNat.inj h] at h2; cases h2).symm
theorem csF_ok {b : Nat} {n : Int} {c m : Nat} (hc : c < 10) (hm : m ≤ c + 1) : FOK (csN b n) (csF (c + 1) m) := fun r hr => by
  obtain ⟨i, hi, hr⟩ := mem_upto hr
  simp only [List.mem_cons, List.not_mem_nil, or_false] at hr
  subst hr
  refine ⟨rl_eql (cs40 (by omega)) rfl (cs100.trans ?_) rfl, _, _, rfl, cs100⟩
  congr 1
  exact decide_eq_decide.2 ⟨fun h => by rw [h], fun h => Int.ofNat.inj h⟩
end Go.Proofs.YtogmgjcdicnceaaGreatDoor
