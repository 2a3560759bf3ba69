/-
  The document's numerals: Digits.
-/
import Derived.Test.YtibailpbjdfjfaaDoorPlnF
namespace Go.Viv
open Go.Lib
theorem ba_ext {a : ByteArray} {l : List UInt8} (h : a.data.toList = l) : a = ⟨l.toArray⟩ := by subst h; cases a; simp
theorem ba_append (a b : List UInt8) : (ByteArray.mk a.toArray) ++ (ByteArray.mk b.toArray) = ⟨(a ++ b).toArray⟩ := by
  apply ba_ext
  simp
abbrev ten : ByteArray := ⟨#[48, 49, 50, 51, 52, 53, 54, 55, 56, 57]⟩
theorem ten_at (k : Nat) (h : k < 10) : ten.extract k (k + 1) = ⟨#[UInt8.ofNat (48 + k)]⟩ := by
  rcases k with _ | _ | _ | _ | _ | _ | _ | _ | _ | _ | k <;> first | decide | omega
theorem dec_down {m : Nat} (h : 9 < m) : decDigits m = decDigits (m / 10) ++ [UInt8.ofNat (48 + m % 10)] := dec_ge (by omega)
theorem dec_len {u k : Nat} (h : u < 10 ^ (k + 1)) : (decDigits u).length ≤ k + 1 := by
  rw [decDigits_length]; exact nd_le k u h
theorem one_cat (c : UInt8) (S : List UInt8) : (ByteArray.mk #[c]) ++ (ByteArray.mk S.toArray) = ⟨(c :: S).toArray⟩ := by
  have := ba_append [c] S
  simpa using this
theorem three_cat (p : List UInt8) (c : UInt8) (S : List UInt8) : (ByteArray.mk p.toArray) ++ (ByteArray.mk #[c]) ++ (ByteArray.mk S.toArray) = ⟨(p ++ ([c] ++ S)).toArray⟩ := by
  have h1 := ba_append p [c]
  have h2 := ba_append (p ++ [c]) S
  rw [show (ByteArray.mk #[c]) = ⟨([c] : List UInt8).toArray⟩ from rfl, h1, h2, List.append_assoc]
end Go.Viv
namespace Go.Proofs.YtibailpbjdfjfaaDoor
open Go.RowKit Go.Viv
set_option maxRecDepth 100000 in
set_option maxHeartbeats 1000000 in
theorem digits_pos (m : Nat) (w : World) (hm : m ≤ 9223372036854775807) : Calls Tryd.prog 20 #[.int .i64 (m : Int)] w fun e w' => e = .returned (str (Lib.decDigits m)) ∧ w = w' := by
  have hm0 : (0 : Int) ≤ m := by omega
  have hm1 : (m : Int) ≤ 9223372036854775807 := by omega
  have h0 : decide ((m : Int) < 0) = false := decide_eq_false (by omega)
  go_enter Tryd.func20, Tryd.ntmps20
  go_wp2
  go_loop [3, 5, 6] (fun u t _ => ∃ (q : Nat) (S : List UInt8), q ≤ m ∧ u = .int .u64 (q : Int) ∧ t = str S ∧ Lib.decDigits m = Lib.decDigits q ++ S) (fun u _ _ => (intOf u).toNat)
  case atStart => exact ⟨m, [], by omega, rfl, rfl, by simp⟩
  case round =>
    obtain ⟨q, S, hq, rfl, rfl, hd⟩ := hrel
    have HD := Lib.hid hd
    have hsl : S.length ≤ 20 := by
      have h1 := congrArg List.length hd
      have e : (10 : Nat) ^ (18 + 1) = 10000000000000000000 := by decide
      have h2 := dec_len (k := 18) (u := m) (by rw [e]; omega)
      rw [List.length_append] at h1
      omega
    clear hd
    by_cases h9 : 9 < q
    · have hx := ten_at (q % 10) (by omega)
      have h9' : (9 : Int) < q := by omega
      have hm10 : q % 10 < 10 := by omega
      have hml : ¬ 9223372036854775807 < min (q % 10 + 1) 10 - q % 10 + S.length := by omega
      have H9 := Lib.hid h9
      have HX := Lib.hid hx
      clear hx
      go_wp2
      go_round
      case rel =>
        refine ⟨q / 10, UInt8.ofNat (48 + q % 10) :: S, by omega, by go_num, ?_, ?_⟩
        · first | rw [HX.out, one_cat] | (simp only [HX.out, one_cat])
        · rw [HD.out, dec_down H9.out]; simp
      case measure => simp [intOf]; have := H9.out; omega
    · have h9' : (q : Int) ≤ 9 := by omega
      have hx := ten_at q (by omega)
      have HX := Lib.hid (And.intro hx (dec_lt (u := q) (by omega)))
      have hq9 : q ≤ 9 := by omega
      have hml : ¬ 9223372036854775807 < min (q + 1) 10 - q + S.length := by omega
      clear hx
      go_wp2
      go_ret
      refine ⟨?_, rfl⟩
      rw [HD.out, HX.out.2]
      refine congrArg (fun s => Ending.returned (.string s)) ?_
      rw [HX.out.1]
      exact three_cat [] _ _

theorem u64_wrap (n : Int) : IntKind.u64.wrap n = n % 18446744073709551616 := by
  unfold IntKind.wrap
  simp [IntKind.signed, IntKind.bits]
set_option maxRecDepth 100000 in
set_option maxHeartbeats 1000000 in
theorem digits_neg (n : Int) (m : Nat) (w : World) (hn : n < 0) (hn2 : -9223372036854775808 ≤ n) (hm : n.natAbs = m) : Calls Tryd.prog 20 #[.int .i64 n] w fun e w' => e = .returned (str (45 :: Lib.decDigits m)) ∧ w = w' := by
  obtain ⟨U, hU⟩ : ∃ U, IntKind.u64.wrap n = U := ⟨_, rfl⟩
  have hN : IntKind.u64.wrap (-U) = (m : Int) := by rw [← hU, u64_wrap, u64_wrap]; omega
  have hm2 : m ≤ 9223372036854775808 := by omega
  have hm3 : (0 : Int) ≤ m := by omega
  have hm4 : (m : Int) ≤ 9223372036854775808 := by omega
  have h0 : decide (n < 0) = true := decide_eq_true hn
  clear hm
  go_enter Tryd.func20, Tryd.ntmps20
  go_wp2
  go_loop [3, 5, 6] (fun u t _ => ∃ (q : Nat) (S : List UInt8), q ≤ m ∧ u = .int .u64 (q : Int) ∧ t = str S ∧ Lib.decDigits m = Lib.decDigits q ++ S) (fun u _ _ => (intOf u).toNat)
  case atStart => exact ⟨m, [], by omega, rfl, rfl, by simp⟩
  case round =>
    obtain ⟨q, S, hq, rfl, rfl, hd⟩ := hrel
    have HD := Lib.hid hd
    have hsl : S.length ≤ 20 := by
      have h1 := congrArg List.length hd
      have e : (10 : Nat) ^ (18 + 1) = 10000000000000000000 := by decide
      have h2 := dec_len (k := 18) (u := m) (by rw [e]; omega)
      rw [List.length_append] at h1
      omega
    clear hd
    by_cases h9 : 9 < q
    · have hx := ten_at (q % 10) (by omega)
      have h9' : (9 : Int) < q := by omega
      have hm10 : q % 10 < 10 := by omega
      have hml : ¬ 9223372036854775807 < min (q % 10 + 1) 10 - q % 10 + S.length := by omega
      have H9 := Lib.hid h9
      have HX := Lib.hid hx
      clear hx
      go_wp2
      go_round
      case rel =>
        refine ⟨q / 10, UInt8.ofNat (48 + q % 10) :: S, by omega, by go_num, ?_, ?_⟩
        · first | rw [HX.out, one_cat] | (simp only [HX.out, one_cat])
        · rw [HD.out, dec_down H9.out]; simp
      case measure => simp [intOf]; have := H9.out; omega
    · have h9' : (q : Int) ≤ 9 := by omega
      have hx := ten_at q (by omega)
      have HX := Lib.hid (And.intro hx (dec_lt (u := q) (by omega)))
      have hq9 : q ≤ 9 := by omega
      have hml : ¬ 9223372036854775807 < min (q + 1) 10 - q + S.length := by omega
      clear hx
      go_wp2
      go_ret
      refine ⟨?_, rfl⟩
      rw [HD.out, HX.out.2]
      refine congrArg (fun s => Ending.returned (.string s)) ?_
      rw [HX.out.1]
      exact three_cat [45] _ _
theorem digits_any (n : Int) (w : World) (hn : inI n) : Calls Tryd.prog 20 #[.int .i64 n] w fun e w' => e = .returned (str (Lib.itoa n)) ∧ w = w' := by
  obtain ⟨h0, h1⟩ := hn
  unfold Lib.itoa
  by_cases h : n < 0
  · rw [if_pos h]
    exact digits_neg n _ w h h0 rfl
  · rw [if_neg h]
    obtain ⟨m, rfl⟩ := Int.eq_ofNat_of_zero_le (show 0 ≤ n by omega)
    exact digits_pos m w (by omega)
end Go.Proofs.YtibailpbjdfjfaaDoor
