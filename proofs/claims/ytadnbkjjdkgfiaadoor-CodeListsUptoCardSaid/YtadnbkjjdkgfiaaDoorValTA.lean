/-
  The document's numerals: Digits and Undigits.
-/
import Derived.Test.YtadnbkjjdkgfiaaDoorValG
namespace Go.Viv
open Go.Lib Go.Proofs.YtadnbkjjdkgfiaaDoor
abbrev ten : ByteArray := ⟨#[48, 49, 50, 51, 52, 53, 54, 55, 56, 57]⟩
theorem ten_at (k : Nat) (h : k < 10) : ten.extract k (k + 1) = ⟨#[UInt8.ofNat (48 + k)]⟩ := by
  rcases k with _ | _ | _ | _ | _ | _ | _ | _ | _ | _ | k <;> first | decide | omega
theorem dec_down {m : Nat} (h : 9 < m) : decDigits m = decDigits (m / 10) ++ [UInt8.ofNat (48 + m % 10)] := dec_ge (by omega)
theorem one_cat (c : UInt8) (S : List UInt8) : (ByteArray.mk #[c]) ++ (ByteArray.mk S.toArray) = ⟨(c :: S).toArray⟩ := by
  have := ba_append [c] S
  simpa using this
/-- The document's reading of a numeral: behind a sign, and without one. -/
def undN (d : List UInt8) : Option Int :=
  if d = [] ∨ 19 < d.length ∨ d.head? = some 48 then none
  else if (d.all isDig) = true then (if valA 0 d ≤ 9223372036854775808 then some (-(valA 0 d : Int)) else none) else none
def undP (l : List UInt8) : Option Int :=
  if l = [] ∨ 19 < l.length ∨ (l.head? = some 48 ∧ 1 < l.length) then none
  else if (l.all isDig) = true then (if valA 0 l < 9223372036854775808 then some (valA 0 l : Int) else none) else none
def undig (l : List UInt8) : Option Int := if l.head? = some 45 then undN l.tail else undP l
theorem head_dec (u : Nat) : (decDigits u).head? ≠ some 45 ∧ ((decDigits u).head? = some 48 → u = 0) := by
  obtain ⟨c, r, h1, h2, h3⟩ := dec_head u
  rw [h1]
  refine ⟨fun h => ?_, fun h => ?_⟩
  · have h := Option.some.inj h
    rw [h] at h3
    exact absurd h3 (by decide)
  · have h := Option.some.inj h
    exact h2 (by rw [h]; rfl)
theorem dec_len {u k : Nat} (h : u < 10 ^ (k + 1)) : (decDigits u).length ≤ k + 1 := by
  rw [decDigits_length]; exact nd_le k u h
theorem all_dec (u : Nat) : ((decDigits u).all isDig) = true := List.all_eq_true.2 (dec_dig u)
theorem undig_itoa (v : Int) (h : inI v) : undig (itoa v) = some v := by
  have e : (10 : Nat) ^ (18 + 1) = 10000000000000000000 := by decide
  unfold inI at h
  unfold itoa undig
  by_cases hv : v < 0
  · rw [if_pos hv]
    have hl := dec_len (k := 18) (u := v.natAbs) (by rw [e]; omega)
    rw [if_pos (List.head?_cons), List.tail_cons]
    unfold undN
    rw [if_neg (by
      rintro (h1 | h1 | h1)
      · exact dec_ne _ h1
      · omega
      · have := (head_dec _).2 h1; omega), if_pos (all_dec _), dec_val, if_pos (by omega)]
    congr 1
    omega
  · rw [if_neg hv]
    have hl := dec_len (k := 18) (u := v.toNat) (by rw [e]; omega)
    rw [if_neg (head_dec _).1]
    unfold undP
    rw [if_neg (by
      rintro (h1 | h1 | ⟨h1, h2⟩)
      · exact dec_ne _ h1
      · omega
      · have := (head_dec _).2 h1
        rw [this, dec_lt (by decide)] at h2
        simp at h2), if_pos (all_dec _), dec_val, if_pos (by omega)]
    congr 1
    omega
theorem dec_back {d : List UInt8} (h0 : d ≠ []) (hd : (d.all isDig) = true) (hz : d.head? = some 48 → d.length = 1) : decDigits (valA 0 d) = d :=
  dec_canon d.length d rfl h0 (List.all_eq_true.1 hd) (fun h => hz (by
    cases d with
    | nil => simp at h
    | cons c r =>
      simp only [List.head?_cons, Option.map_some, Option.some.injEq] at h ⊢
      exact UInt8.toNat.inj h))
theorem undig_some {l : List UInt8} {v : Int} (h : undig l = some v) : l = itoa v ∧ inI v := by
  unfold undig at h
  split at h
  · rename_i h45
    obtain ⟨d, rfl⟩ : ∃ d, l = 45 :: d := by
      cases l with
      | nil => simp at h45
      | cons c r => simp only [List.head?_cons, Option.some.injEq] at h45; exact ⟨r, by rw [h45]⟩
    rw [List.tail_cons] at h
    unfold undN at h
    split at h
    · cases h
    · rename_i hn
      simp only [not_or] at hn
      split at h
      · rename_i hd
        split at h
        · rename_i hv
          injection h with h
          have hb := dec_back hn.1 hd (fun h => absurd h hn.2.2)
          have hp : valA 0 d ≠ 0 := fun h0 => by
            rw [h0, dec_lt (by decide)] at hb
            exact hn.2.2 (by rw [← hb]; rfl)
          subst h
          unfold itoa inI
          rw [if_pos (by omega), show (-(valA 0 d : Int)).natAbs = valA 0 d by omega, hb]
          exact ⟨rfl, by omega, by omega⟩
        · cases h
      · cases h
  · unfold undP at h
    split at h
    · cases h
    · rename_i hn
      simp only [not_or, not_and] at hn
      split at h
      · rename_i hd
        split at h
        · rename_i hv
          injection h with h
          have hb := dec_back hn.1 hd (fun h => by
            have := hn.2.2 h
            have h1 := List.length_pos_iff.2 hn.1
            omega)
          subst h
          unfold itoa inI
          rw [if_neg (by omega), show ((valA 0 l : Int)).toNat = valA 0 l by omega, hb]
          exact ⟨rfl, by omega, by omega⟩
        · cases h
      · cases h
theorem undig_num (l : List UInt8) : undig l = num l := by
  cases hn : num l with
  | some v =>
    obtain ⟨h1, h2⟩ := num_some hn
    rw [h1]
    exact undig_itoa v h2
  | none =>
    cases hu : undig l with
    | none => rfl
    | some v =>
      obtain ⟨h1, h2⟩ := undig_some hu
      rw [h1, num_itoa v h2] at hn
      cases hn
theorem three_cat (p : List UInt8) (c : UInt8) (S : List UInt8) : (ByteArray.mk p.toArray) ++ (ByteArray.mk #[c]) ++ (ByteArray.mk S.toArray) = ⟨(p ++ ([c] ++ S)).toArray⟩ := by
  have h1 := ba_append p [c]
  have h2 := ba_append (p ++ [c]) S
  rw [show (ByteArray.mk #[c]) = ⟨([c] : List UInt8).toArray⟩ from rfl, h1, h2, List.append_assoc]
end Go.Viv
namespace Go.Proofs.YtadnbkjjdkgfiaaDoor
open Go.RowKit Go.Viv

set_option maxRecDepth 100000 in
set_option maxHeartbeats 1000000 in
theorem digits_pos (m : Nat) (w : World) (hm : m ≤ 9223372036854775807) : Calls Tryd.prog 46 #[.int .i64 (m : Int)] w fun e w' => e = .returned (str (Lib.decDigits m)) ∧ w = w' := by
  have hm0 : (0 : Int) ≤ m := by omega
  have hm1 : (m : Int) ≤ 9223372036854775807 := by omega
  have h0 : decide ((m : Int) < 0) = false := decide_eq_false (by omega)
  go_enter Tryd.func46, Tryd.ntmps46
  go_wp2
  go_loop [3, 5, 6] (fun u t _ => ∃ (q : Nat) (S : List UInt8), q ≤ m ∧ u = .int .u64 (q : Int) ∧ t = str S ∧ Lib.decDigits m = Lib.decDigits q ++ S) (fun u _ _ => (intOf u).toNat)
  case atStart => exact ⟨m, [], by omega, rfl, rfl, by simp⟩
  case round =>
    obtain ⟨q, S, hq, rfl, rfl, hd⟩ := hrel
    have HD := Lib.hid hd
    have hsl : S.length ≤ 20 := by
      have h1 := congrArg List.length hd
      have e : (10 : Nat) ^ (18 + 1) = 10000000000000000000 := by decide
      have h2 := dec_len (k := 18) (u := m) (by rw [e]; omega)
      rw [List.length_append] at h1
      omega
    clear hd
    by_cases h9 : 9 < q
    · have hx := ten_at (q % 10) (by omega)
      have h9' : (9 : Int) < q := by omega
      have hm10 : q % 10 < 10 := by omega
      have hml : ¬ 9223372036854775807 < min (q % 10 + 1) 10 - q % 10 + S.length := by omega
      have H9 := Lib.hid h9
      have HX := Lib.hid hx
      clear hx
      go_wp2
      go_round
      case rel =>
        refine ⟨q / 10, UInt8.ofNat (48 + q % 10) :: S, by omega, by go_num, ?_, ?_⟩
        · first | rw [HX.out, one_cat] | (simp only [HX.out, one_cat])
        · rw [HD.out, dec_down H9.out]; simp
      case measure => simp [intOf]; have := H9.out; omega
    · have h9' : (q : Int) ≤ 9 := by omega
      have hx := ten_at q (by omega)
      have HX := Lib.hid (And.intro hx (dec_lt (u := q) (by omega)))
      have hq9 : q ≤ 9 := by omega
      have hml : ¬ 9223372036854775807 < min (q + 1) 10 - q + S.length := by omega
      clear hx
      go_wp2
      go_ret
      refine ⟨?_, rfl⟩
      rw [HD.out, HX.out.2]
      refine congrArg (fun s => Ending.returned (.string s)) ?_
      rw [HX.out.1]
      exact three_cat [] _ _

theorem u64_wrap (n : Int) : IntKind.u64.wrap n = n % 18446744073709551616 := by
  unfold IntKind.wrap
  simp [IntKind.signed, IntKind.bits]
set_option maxRecDepth 100000 in
set_option maxHeartbeats 1000000 in
theorem digits_neg (n : Int) (m : Nat) (w : World) (hn : n < 0) (hn2 : -9223372036854775808 ≤ n) (hm : n.natAbs = m) : Calls Tryd.prog 46 #[.int .i64 n] w fun e w' => e = .returned (str (45 :: Lib.decDigits m)) ∧ w = w' := by
  obtain ⟨U, hU⟩ : ∃ U, IntKind.u64.wrap n = U := ⟨_, rfl⟩
  have hN : IntKind.u64.wrap (-U) = (m : Int) := by rw [← hU, u64_wrap, u64_wrap]; omega
  have hm2 : m ≤ 9223372036854775808 := by omega
  have hm3 : (0 : Int) ≤ m := by omega
  have hm4 : (m : Int) ≤ 9223372036854775808 := by omega
  have h0 : decide (n < 0) = true := decide_eq_true hn
  clear hm
  go_enter Tryd.func46, Tryd.ntmps46
  go_wp2
  go_outline
  go_loop [3, 5, 6] (fun u t _ => ∃ (q : Nat) (S : List UInt8), q ≤ m ∧ u = .int .u64 (q : Int) ∧ t = str S ∧ Lib.decDigits m = Lib.decDigits q ++ S) (fun u _ _ => (intOf u).toNat)
  case atStart => exact ⟨m, [], by omega, rfl, rfl, by simp⟩
  case round =>
    obtain ⟨q, S, hq, rfl, rfl, hd⟩ := hrel
    have HD := Lib.hid hd
    have hsl : S.length ≤ 20 := by
      have h1 := congrArg List.length hd
      have e : (10 : Nat) ^ (18 + 1) = 10000000000000000000 := by decide
      have h2 := dec_len (k := 18) (u := m) (by rw [e]; omega)
      rw [List.length_append] at h1
      omega
    clear hd
    by_cases h9 : 9 < q
    · have hx := ten_at (q % 10) (by omega)
      have h9' : (9 : Int) < q := by omega
      have hm10 : q % 10 < 10 := by omega
      have hml : ¬ 9223372036854775807 < min (q % 10 + 1) 10 - q % 10 + S.length := by omega
      have H9 := Lib.hid h9
      have HX := Lib.hid hx
      clear hx
      go_wp2
      go_round
      case rel =>
        refine ⟨q / 10, UInt8.ofNat (48 + q % 10) :: S, by omega, by go_num, ?_, ?_⟩
        · first | rw [HX.out, one_cat] | (simp only [HX.out, one_cat])
        · rw [HD.out, dec_down H9.out]; simp
      case measure => simp [intOf]; have := H9.out; omega
    · have h9' : (q : Int) ≤ 9 := by omega
      have hx := ten_at q (by omega)
      have HX := Lib.hid (And.intro hx (dec_lt (u := q) (by omega)))
      have hq9 : q ≤ 9 := by omega
      have hml : ¬ 9223372036854775807 < min (q + 1) 10 - q + S.length := by omega
      clear hx
      go_wp2
      go_ret
      refine ⟨?_, rfl⟩
      rw [HD.out, HX.out.2]
      refine congrArg (fun s => Ending.returned (.string s)) ?_
      rw [HX.out.1]
      exact three_cat [45] _ _
theorem digits_any (n : Int) (w : World) (hn : inI n) : Calls Tryd.prog 46 #[.int .i64 n] w fun e w' => e = .returned (str (Lib.itoa n)) ∧ w = w' := by
  obtain ⟨h0, h1⟩ := hn
  unfold Lib.itoa
  by_cases h : n < 0
  · rw [if_pos h]
    exact digits_neg n _ w h h0 rfl
  · rw [if_neg h]
    obtain ⟨m, rfl⟩ := Int.eq_ofNat_of_zero_le (show 0 ≤ n by omega)
    exact digits_pos m w (by omega)
end Go.Proofs.YtadnbkjjdkgfiaaDoor
