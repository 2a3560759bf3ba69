/-
  The walk of ValueKinds.
-/
import Derived.Test.YtadnbkjjdkgfiaaDoorValG
import Derived.Deep.RegionHeld
namespace Go.Viv
open Go.Lib Go.Proofs.YtadnbkjjdkgfiaaDoor
/-- How many commas the first k bytes have. -/
def commas (l : List UInt8) (k : Nat) : Nat := (l.take k).count 44
theorem commas_next {l : List UInt8} {k : Nat} {c : UInt8} (h : l[k]? = some c) : commas l (k + 1) = commas l k + (if c == 44 then 1 else 0) := by
  unfold commas
  rw [List.take_add_one, h]
  simp [List.count_append, List.count_cons]
theorem commas_all (a b : Int) : commas (itoa a ++ 44 :: itoa b) (itoa a ++ 44 :: itoa b).length = 1 := by
  unfold commas
  rw [List.take_of_length_le (Nat.le_refl _), List.count_append, List.count_cons, List.count_eq_zero_of_not_mem (itoa_no44 a), List.count_eq_zero_of_not_mem (itoa_no44 b)]
  rfl
theorem commas_le (l : List UInt8) (k : Nat) : commas l k ≤ k := Nat.le_trans List.count_le_length (by simp; omega)
theorem at_str {l : List UInt8} {k : Nat} (h : k < l.length) : (ByteArray.mk l.toArray)[k]'(by rw [size_str]; exact h) = l[k] := rfl
theorem commas_yes {l : List UInt8} {k : Nat} (h : k < l.length) (hc : (((((ByteArray.mk l.toArray)[k]'(by rw [size_str]; exact h)).toNat : Nat) : Int) == 44) = true) : commas l (k + 1) = commas l k + 1 := by
  rw [at_str h] at hc
  have h2 : l[k].toNat = 44 := by have := eq_of_beq hc; omega
  have : l[k] = 44 := UInt8.toNat.inj (by rw [h2]; rfl)
  rw [commas_next (List.getElem?_eq_getElem h), this]
  simp
theorem commas_not {l : List UInt8} {k : Nat} (h : k < l.length) (hc : (((((ByteArray.mk l.toArray)[k]'(by rw [size_str]; exact h)).toNat : Nat) : Int) == 44) = false) : commas l (k + 1) = commas l k := by
  rw [at_str h] at hc
  rw [commas_next (List.getElem?_eq_getElem h)]
  have : (l[k] == 44) = false := by
    cases hq : (l[k] == 44) with
    | false => rfl
    | true => rw [eq_of_beq hq] at hc; exact absurd hc (by decide)
  simp [this]
theorem no_byte {n : Int} {k : Nat} (h : k < (itoa n).length) : (((((ByteArray.mk (itoa n).toArray)[k]'(by rw [size_str]; exact h)).toNat : Nat) : Int) == 44) = false ∧ (((((ByteArray.mk (itoa n).toArray)[k]'(by rw [size_str]; exact h)).toNat : Nat) : Int) == 42) = false := by
  rw [at_str h]
  have hm : (itoa n)[k] ∈ itoa n := List.getElem_mem h
  constructor
  · cases hq : ((((itoa n)[k].toNat : Nat) : Int) == 44) with
    | false => rfl
    | true =>
      have h2 : (itoa n)[k].toNat = 44 := by have := eq_of_beq hq; omega
      have : (itoa n)[k] = 44 := UInt8.toNat.inj (by rw [h2]; rfl)
      exact absurd (this ▸ hm) (itoa_no44 n)
  · cases hq : ((((itoa n)[k].toNat : Nat) : Int) == 42) with
    | false => rfl
    | true =>
      have h2 : (itoa n)[k].toNat = 42 := by have := eq_of_beq hq; omega
      have : (itoa n)[k] = 42 := UInt8.toNat.inj (by rw [h2]; rfl)
      exact absurd (this ▸ hm) (itoa_no42 n)
end Go.Viv
namespace Go.Proofs.YtadnbkjjdkgfiaaDoor
open Go.RowKit Go.Viv

set_option maxRecDepth 100000 in
set_option maxHeartbeats 2000000 in
theorem kinds_any (a b : Int) (w : World) (he : Env w) (ha : inI a) (hb : inI b) : Calls Tryd.prog 3 #[.int .i64 a, .int .i64 b] w fun e w' => e = .returned (.bool true) ∧ Fr (fun _ => False) w w' := by
  have HE := Lib.hid he
  have i0 : inI 0 := by simp [inI]
  have HV := Lib.hid (show inV ⟨1, a, 0⟩ ∧ inV ⟨2, a, b⟩ ∧ inV ⟨3, 0, 0⟩ ∧ inV ⟨1, b, 0⟩ from ⟨⟨ha, i0⟩, ⟨ha, hb⟩, ⟨i0, i0⟩, ⟨hb, i0⟩⟩)
  have ti : textV ⟨1, a, 0⟩ = Lib.itoa a := by simp [textV, okV]
  have tb : textV ⟨1, b, 0⟩ = Lib.itoa b := by simp [textV, okV]
  have tp : textV ⟨2, a, b⟩ = Lib.itoa a ++ 44 :: Lib.itoa b := by simp [textV, okV]
  have tt : textV ⟨3, 0, 0⟩ = [42] := by simp [textV, okV]
  have HP := Lib.hid (show parseV (Lib.itoa a ++ 44 :: Lib.itoa b) = some ⟨2, a, b⟩ by rw [← tp]; exact parse_text rfl ⟨ha, hb⟩)
  have HT := Lib.hid (And.intro ti (And.intro tp (And.intro tt tb)))
  have la := itoa_len ha
  have lb := itoa_len hb
  obtain ⟨P, hP⟩ : ∃ P, P = Lib.itoa a ++ 44 :: Lib.itoa b := ⟨_, rfl⟩
  have lP : P.length ≤ 43 := by rw [hP]; simp; omega
  have HPP := Lib.hid hP
  clear he i0 ti tb tp tt hP
  go_enter Tryd.func3, Tryd.ntmps3
  go_wp2_with (first
    | (go_at_call 14; refine (int_any _ _).mono ?_; rintro e w1 ⟨rfl, rfl⟩)
    | (go_at_call 15; refine (pair_any _ _ _).mono ?_; rintro e w2 ⟨rfl, rfl⟩)
    | (go_at_call 16; refine (tag_any _).mono ?_; rintro e w3 ⟨rfl, rfl⟩)
    | (go_at_call_of 13 (Val.agg ⟨1, a, 0⟩); refine (text_any ⟨1, a, 0⟩ _ (HE.out.alloc _) HV.out.1).mono ?_; rintro e w4 ⟨rfl, hf4⟩; rw [HT.out.1]; have H4 := Lib.hid (fr_no ((Fr.refl _ _).alloc _) hf4); clear hf4)
    | (go_at_call_of 13 (Val.agg ⟨2, a, b⟩); refine (text_any ⟨2, a, b⟩ _ ((HE.out.fr H4.out).alloc _) HV.out.2.1).mono ?_; rintro e w5 ⟨rfl, hf5⟩; rw [HT.out.2.1, ← HPP.out]; have H5 := Lib.hid (fr_no (H4.out.alloc _) hf5); clear hf5)
    | (go_at_call_of 13 (Val.agg ⟨3, 0, 0⟩); refine (text_any ⟨3, 0, 0⟩ _ ((HE.out.fr H5.out).alloc _) HV.out.2.2.1).mono ?_; rintro e w6 ⟨rfl, hf6⟩; rw [HT.out.2.2.1]; have H6 := Lib.hid (fr_no (H5.out.alloc _) hf6); clear hf6))
  go_loop [8, 9] (fun t8 t9 => ∃ k : Nat, k ≤ P.length ∧ t9 = .int .i64 k ∧ t8 = .int .i64 (commas P k)) (fun _ t9 => P.length - (intOf t9).toNat)
  case atStart => exact ⟨0, by omega, rfl, rfl⟩
  case round =>
    obtain ⟨k, hk, rfl, rfl⟩ := hrel
    have hcl := commas_le P k
    by_cases hlt : k < P.length
    · have hlt' : (k : Int) < P.length := by omega
      have hk0 : (0 : Int) ≤ k := by omega
      go_wp2_with fail
      · rename_i hy
        exact ⟨⟨k + 1, by omega, by go_num, by rw [commas_yes hlt hy]; go_num⟩, by simp [intOf]; omega⟩
      · rename_i hy
        exact ⟨⟨k + 1, by omega, by go_num, by rw [commas_not hlt hy]⟩, by simp [intOf]; omega⟩
    · have hd : decide ((k : Int) < P.length) = false := decide_eq_false (by omega)
      obtain rfl : k = P.length := by omega
      have hc1 : commas P P.length = 1 := by rw [HPP.out]; exact commas_all a b
      rw [hc1]
      go_wp2_with fail
      go_loop [10] (fun t => ∃ k : Nat, k ≤ (Lib.itoa a).length ∧ t = .int .i64 k) (fun t => (Lib.itoa a).length - (intOf t).toNat)
      case atStart => exact ⟨0, by omega, rfl⟩
      case round =>
        obtain ⟨k, hk, rfl⟩ := hrel
        by_cases hlt : k < (Lib.itoa a).length
        · have hlt' : (k : Int) < (Lib.itoa a).length := by omega
          have hk0 : (0 : Int) ≤ k := by omega
          obtain ⟨q1, q2⟩ := no_byte hlt
          go_wp2_with fail
          exact ⟨⟨k + 1, by omega, by go_num⟩, by simp [intOf]; omega⟩
        · obtain rfl : k = (Lib.itoa a).length := by omega
          go_wp2_with (first
            | (go_at_call 14; refine (int_any _ _).mono ?_; rintro e w7 ⟨rfl, rfl⟩)
            | (go_at_call 13; refine (text_any ⟨1, b, 0⟩ _ ((HE.out.fr H6.out).alloc _) HV.out.2.2.2).mono ?_; rintro e w8 ⟨rfl, hf8⟩; rw [HT.out.2.2.2]; have H8 := Lib.hid (fr_no (H6.out.alloc _) hf8); clear hf8)
            | (go_at_call 17; rw [cat3, ← HPP.out]; refine (parse_any P _ (HE.out.fr H8.out) (by omega)).mono ?_; rintro e w9 ⟨rfl, hf9⟩; rw [HPP.out, HP.out, ← HPP.out]; have H9 := Lib.hid (fr_no H8.out hf9); clear hf9))
          have KS := Lib.hid (fun W (h : Fr (fun _ => False) (w9.alloc (.cells #[.int .i64 2, .int .i64 a, .int .i64 b] 24)) W) => ((Res.new w9 2 a b).fr h).cells.1)
          have hcat : ByteArray.mk (Lib.itoa a).toArray ++ ByteArray.mk #[44] ++ ByteArray.mk (Lib.itoa b).toArray = ByteArray.mk P.toArray := by rw [cat3, ← HPP.out]
          go_region_held (fun w' => w'.cell? ⟨w9.heap.size, 0, none⟩ = some (.int .i64 2) ∧ w'.cell? ⟨w9.heap.size, 1, none⟩ = some (.int .i64 a) ∧ w'.cell? ⟨w9.heap.size, 2, none⟩ = some (.int .i64 b))
            (exact KS.out _ (by repeat (first | exact Fr.refl _ _ | exact H13.out | exact H12.out | apply Fr.alloc | apply Fr.drew)))
            (first
            | (go_at_call 15; refine (pair_any _ _ _).mono ?_; rintro e w10 ⟨rfl, rfl⟩)
            | (go_at_call 14; refine (int_any _ _).mono ?_; rintro e w11 ⟨rfl, rfl⟩)
            | (go_at_call 13; refine (text_any ⟨1, b, 0⟩ _ (by repeat (first | exact HE.out.fr H9.out | apply Env.alloc | apply Env.drew)) HV.out.2.2.2).mono ?_; rintro e w12 ⟨rfl, hf12⟩; rw [HT.out.2.2.2]; have H12 := Lib.hid (show Fr (fun _ => False) (w9.alloc (.cells #[.int .i64 2, .int .i64 a, .int .i64 b] 24)) w12 by refine fr_no ?_ hf12; repeat (first | exact Fr.refl _ _ | apply Fr.alloc | apply Fr.drew)); clear hf12)
            | (go_at_call 18; refine (awake_any _ (((HE.out.fr H9.out).alloc _).fr H12.out)).mono ?_; rintro e w13 ⟨rfl, hf13⟩; have H13 := Lib.hid (fr_no H12.out hf13); clear hf13))
          all_goals
            go_wp2
            go_ret
            exact ⟨rfl, fr_no (H9.out.alloc _) H13.out⟩
end Go.Proofs.YtadnbkjjdkgfiaaDoor
