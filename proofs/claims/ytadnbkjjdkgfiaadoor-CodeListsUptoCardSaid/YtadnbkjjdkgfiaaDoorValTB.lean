/-
  The document's numerals read: Undigits.
-/
import Derived.Test.YtadnbkjjdkgfiaaDoorValTA
namespace Go.Viv
open Go.Lib Go.Proofs.YtadnbkjjdkgfiaaDoor Go.RowKit
theorem valA_take {d : List UInt8} {k : Nat} (h : k < d.length) : valA 0 (d.take (k + 1)) = valA 0 (d.take k) * 10 + (d[k].toNat - 48) := by
  rw [List.take_add_one, List.getElem?_eq_getElem h, Option.toList_some, valA_append, valA_one]
theorem valA_bound' : ∀ (d : List UInt8) (a k : Nat), (d.all isDig) = true → a < 10 ^ k → valA a d < 10 ^ (k + d.length)
  | [], a, k, _, h => by rw [List.length_nil, Nat.add_zero]; exact h
  | c :: r, a, k, h, ha => by
    rw [List.all_cons, Bool.and_eq_true] at h
    have h2 := (byte_dig h.1).2
    have := valA_bound' r (a * 10 + (c.toNat - 48)) (k + 1) h.2 (by rw [Nat.pow_succ]; omega)
    rw [List.length_cons, show k + (r.length + 1) = k + 1 + r.length by omega]
    exact this
theorem valA_bound (d : List UInt8) (h : (d.all isDig) = true) : valA 0 d < 10 ^ d.length := by
  have := valA_bound' d 0 0 h (by decide)
  rwa [Nat.zero_add] at this
theorem valA_lt {d : List UInt8} {k : Nat} (h : (d.all isDig) = true) (hl : d.length ≤ k) : valA 0 d < 10 ^ k :=
  Nat.lt_of_lt_of_le (valA_bound d h) (Nat.pow_le_pow_right (by decide) hl)
theorem all_take {d : List UInt8} {k : Nat} (h : k < d.length) (hd : ((d.take k).all isDig) = true) (hc : isDig d[k] = true) : ((d.take (k + 1)).all isDig) = true := by
  rw [List.take_add_one, List.getElem?_eq_getElem h, Option.toList_some, List.all_append, hd]
  simp [hc]
theorem not_all {d : List UInt8} {k : Nat} (h : k < d.length) (hc : isDig d[k] = false) : ¬ (d.all isDig) = true := fun ha => by
  have := List.all_eq_true.1 ha d[k] (List.getElem_mem h)
  rw [hc] at this
  cases this
theorem head_at {d : List UInt8} (h : 0 < d.length) (c : UInt8) : d.head? = some c ↔ d[0] = c := by
  cases d with
  | nil => simp at h
  | cons x r => simp
theorem isDig_no {c : UInt8} (h : c.toNat < 48 ∨ 57 < c.toNat) : isDig c = false := by
  unfold isDig
  rcases h with h | h
  · rw [decide_eq_false (by omega)]; rfl
  · rw [decide_eq_false (p := c.toNat ≤ 57) (by omega), Bool.and_false]
theorem isDig_yes {c : UInt8} (h : 48 ≤ c.toNat) (h2 : c.toNat ≤ 57) : isDig c = true := by
  unfold isDig
  rw [decide_eq_true h, decide_eq_true h2]; rfl
theorem u64_wrap2 (n : Int) : IntKind.u64.wrap n = n % 18446744073709551616 := by
  unfold IntKind.wrap
  simp [IntKind.signed, IntKind.bits]
theorem back64 (V : Nat) (h : V ≤ 9223372036854775808) : IntKind.i64.wrap (IntKind.u64.wrap (-(V : Int))) = -(V : Int) := by
  rw [u64_wrap2, IntKind.wrap_i64]
  omega
theorem pos64 (V : Nat) (h : V < 9223372036854775808) : IntKind.i64.wrap (V : Int) = V := by
  rw [IntKind.wrap_i64]
  omega
theorem hV64 (V c : Nat) (h : V < 1000000000000000000) (h1 : 48 ≤ c) (h2 : c ≤ 57) : IntKind.u64.wrap (IntKind.u64.wrap (10 * (V : Int)) + ((c : Int) - 48)) = ((V * 10 + (c - 48) : Nat) : Int) := by
  rw [u64_wrap2, u64_wrap2]
  omega
end Go.Viv
namespace Go.Proofs.YtadnbkjjdkgfiaaDoor
open Go.RowKit Go.Viv

abbrev Und (l : List UInt8) (w : World) (r : Option Int) : Prop := Calls Tryd.prog 45 #[str l] w fun e w' => e = .returned (.tuple #[.int .i64 (r.getD 0), .bool r.isSome]) ∧ w = w'

set_option maxRecDepth 100000 in
set_option maxHeartbeats 2000000 in
theorem und_true (l d : List UInt8) (w : World) (hl : l.length ≤ 9223372036854775807) (h0 : 0 < l.length) (hneg : ((((ByteArray.mk l.toArray)[0]'(by rw [size_str]; exact h0)).toNat : Int) == 45) = true) (hx : (ByteArray.mk l.toArray).extract 1 l.length = ⟨d.toArray⟩) (hdl : d.length ≤ l.length) : Und l w (undN d) := by
  have h0' : (0 : Int) < l.length := by omega
  by_cases e0 : d = []
  · subst e0
    rw [show undN [] = none from rfl]
    go_enter Tryd.func45, Tryd.ntmps45
    go_wp2
    go_ret2
    exact ⟨rfl, rfl⟩
  · have d0 : 0 < d.length := List.length_pos_iff.2 e0
    have d0' : (0 : Int) < d.length := by omega
    have eb : (d == []) = false := by simpa using e0
    by_cases e19 : 19 < d.length
    · have e19' : (19 : Int) < d.length := by omega
      have hr : undN d = none := by unfold undN; rw [if_pos (Or.inr (Or.inl e19))]
      rw [hr]
      clear hr e0
      go_enter Tryd.func45, Tryd.ntmps45
      go_wp2
      go_ret2
      exact ⟨rfl, rfl⟩
    · have e19' : (d.length : Int) ≤ 19 := by omega
      by_cases e48 : d.head? = some 48
      · have hr : undN d = none := by unfold undN; rw [if_pos (Or.inr (Or.inr e48))]
        rw [hr]
        have hb48 : ((((ByteArray.mk d.toArray)[0]'(by rw [size_str]; exact d0)).toNat : Int) == 48) = true := by
          have h1 : d[0] = 48 := (head_at d0 48).1 e48
          show (((d[0]).toNat : Int) == 48) = true
          rw [h1]; rfl
        clear hr e0 e48
        by_cases e1 : 1 < d.length
        all_goals
          have e1' : (1 : Int) < d.length ∨ (d.length : Int) ≤ 1 := by omega
          go_enter Tryd.func45, Tryd.ntmps45
          go_wp2
          go_ret2
          exact ⟨rfl, rfl⟩
      · have hr : undN d = if (d.all isDig) = true then (if valA 0 d ≤ 9223372036854775808 then some (-(valA 0 d : Int)) else none) else none := by
          unfold undN; rw [if_neg (by rintro (h | h | h); exact e0 h; exact e19 h; exact e48 h)]
        have HR := Lib.hid hr
        obtain ⟨b48, hb48⟩ : ∃ b, ((((ByteArray.mk d.toArray)[0]'(by rw [size_str]; exact d0)).toNat : Int) == 48) = b := ⟨_, rfl⟩
        have H48 := Lib.hid (show b48 = true → d.head? = some 48 from fun hb => (head_at d0 48).2 (by
          rw [hb] at hb48
          have h1 : (((d[0]).toNat : Int) == 48) = true := hb48
          exact UInt8.toNat.inj (by have := eq_of_beq h1; show d[0].toNat = 48; omega)))
        have E48 := Lib.hid e48
        clear hr e48 e0 e19
        have hcase : b48 = false := by
          cases b48 with | false => rfl | true => exact absurd (H48.out rfl) E48.out
        subst hcase
        all_goals
          go_enter Tryd.func45, Tryd.ntmps45
          go_wp2
          go_loop [6, 7] (fun u t => ∃ k : Nat, k ≤ d.length ∧ t = .int .i64 k ∧ u = .int .u64 ((valA 0 (d.take k) : Nat) : Int) ∧ ((d.take k).all isDig) = true) (fun _ t => d.length - (intOf t).toNat)
          case atStart => exact ⟨0, by omega, rfl, rfl, rfl⟩
          case round =>
            obtain ⟨k, hk, rfl, rfl, hall⟩ := hrel
            have HA := Lib.hid hall
            by_cases hlt : k < d.length
            · have hlt' : (k : Int) < d.length := by omega
              have hb := valA_lt (k := 18) hall (by rw [List.length_take]; omega)
              have hnext := valA_take hlt
              have e18 : (10 : Nat) ^ 18 = 1000000000000000000 := by decide
              obtain ⟨V, hV⟩ : ∃ V, valA 0 (d.take k) = V := ⟨_, rfl⟩
              rw [hV] at hb hnext
              rw [hV]
              rw [e18] at hb
              have HBV := Lib.hid hb
              have HX := Lib.hid hnext
              clear hall hnext e18 hV hb
              obtain ⟨c, hc⟩ : ∃ c, (ByteArray.mk d.toArray)[k]'(by rw [size_str]; exact hlt) = c := ⟨_, rfl⟩
              have HSAME := Lib.hid (show (d[k]).toNat = c.toNat from congrArg UInt8.toNat hc)
              by_cases hlo : c.toNat < 48
              · have hlo' : ((c.toNat : Nat) : Int) < 48 := by omega
                have hres : undN d = none := by rw [HR.out, if_neg (not_all hlt (isDig_no (Or.inl (by rw [HSAME.out]; exact hlo))))]
                have HRES := Lib.hid hres
                clear hres
                go_wp2
                go_ret2
                rw [HRES.out]
                exact ⟨rfl, rfl⟩
              · by_cases hhi : 57 < c.toNat
                · have hhi' : (57 : Int) < ((c.toNat : Nat) : Int) := by omega
                  have hlo' : (48 : Int) ≤ ((c.toNat : Nat) : Int) := by omega
                  have hres : undN d = none := by rw [HR.out, if_neg (not_all hlt (isDig_no (Or.inr (by rw [HSAME.out]; exact hhi))))]
                  have HRES := Lib.hid hres
                  clear hres
                  go_wp2
                  go_ret2
                  rw [HRES.out]
                  exact ⟨rfl, rfl⟩
                · have hhi' : ((c.toNat : Nat) : Int) ≤ 57 := by omega
                  have hlo' : (48 : Int) ≤ ((c.toNat : Nat) : Int) := by omega
                  obtain ⟨M, hM⟩ : ∃ M : Int, IntKind.u64.wrap (10 * (V : Int)) = M := ⟨_, rfl⟩
                  obtain ⟨N, hN⟩ : ∃ N : Nat, N = V * 10 + (c.toNat - 48) := ⟨_, rfl⟩
                  have hM2 : IntKind.u64.wrap (M + ((c.toNat : Int) - 48)) = (N : Int) := by
                    have := hV64 V c.toNat HBV.out (by omega) (by omega)
                    rw [← hM, hN]
                    exact this
                  have HNN := Lib.hid hN
                  clear hN
                  go_wp2
                  go_round
                  case rel =>
                    refine ⟨k + 1, by omega, by go_num, ?_, all_take hlt HA.out (isDig_yes (by rw [HSAME.out]; omega) (by rw [HSAME.out]; omega))⟩
                    rw [HX.out, HSAME.out, ← HNN.out]
                  case measure => simp [intOf]; omega
            · obtain rfl : k = d.length := by omega
              rw [List.take_length] at hall
              rw [List.take_length]
              have hr2 := HR.out
              rw [if_pos hall] at hr2
              obtain ⟨V, hV⟩ : ∃ V, valA 0 d = V := ⟨_, rfl⟩
              rw [hV] at hr2
              rw [hV]
              have HR2 := Lib.hid hr2
              clear hr2 hall hV hlt
              by_cases hv : V ≤ 9223372036854775808
              · have hv' : (V : Int) ≤ 9223372036854775808 := by omega
                obtain ⟨U, hU⟩ : ∃ U : Int, IntKind.u64.wrap (-(V : Int)) = U := ⟨_, rfl⟩
                have hI : IntKind.i64.wrap U = -(V : Int) := by rw [← hU]; exact back64 V hv
                have HV := Lib.hid hv
                clear hv
                go_wp2
                go_ret2
                rw [HR2.out, if_pos HV.out]
                exact ⟨rfl, rfl⟩
              · have hv' : (9223372036854775808 : Int) < V := by omega
                have HV := Lib.hid hv
                clear hv
                go_wp2
                go_ret2
                rw [HR2.out, if_neg HV.out]
                exact ⟨rfl, rfl⟩


set_option maxRecDepth 100000 in
set_option maxHeartbeats 2000000 in
theorem und_false (l d : List UInt8) (w : World) (hl : l.length ≤ 9223372036854775807) (h0 : 0 < l.length) (hneg : ((((ByteArray.mk l.toArray)[0]'(by rw [size_str]; exact h0)).toNat : Int) == 45) = false) (hdl : l = d) : Und l w (undP d) := by
  have h0' : (0 : Int) < l.length := by omega
  subst hdl
  have e0 : l ≠ [] := fun h => by rw [h] at h0; simp at h0
  · have d0 : 0 < l.length := List.length_pos_iff.2 e0
    have d0' : (0 : Int) < l.length := by omega
    have eb : (l == []) = false := by simpa using e0
    by_cases e19 : 19 < l.length
    · have e19' : (19 : Int) < l.length := by omega
      have hr : undP l = none := by unfold undP; rw [if_pos (Or.inr (Or.inl e19))]
      rw [hr]
      clear hr e0
      go_enter Tryd.func45, Tryd.ntmps45
      go_wp2
      go_ret2
      exact ⟨rfl, rfl⟩
    · have e19' : (l.length : Int) ≤ 19 := by omega
      by_cases e48 : l.head? = some 48 ∧ 1 < l.length
      · have hr : undP l = none := by unfold undP; rw [if_pos (Or.inr (Or.inr e48))]
        rw [hr]
        have hb48 : ((((ByteArray.mk l.toArray)[0]'(by rw [size_str]; exact d0)).toNat : Int) == 48) = true := by
          have h1 : l[0] = 48 := (head_at d0 48).1 e48.1
          show (((l[0]).toNat : Int) == 48) = true
          rw [h1]; rfl
        have e1 := e48.2
        have e1' : (1 : Int) < l.length := by omega
        clear hr e0 e48
        go_enter Tryd.func45, Tryd.ntmps45
        go_wp2
        go_ret2
        exact ⟨rfl, rfl⟩
      · have hr : undP l = if (l.all isDig) = true then (if valA 0 l < 9223372036854775808 then some (valA 0 l : Int) else none) else none := by
          unfold undP; rw [if_neg (by rintro (h | h | h); exact e0 h; exact e19 h; exact e48 h)]
        have HR := Lib.hid hr
        obtain ⟨b48, hb48⟩ : ∃ b, ((((ByteArray.mk l.toArray)[0]'(by rw [size_str]; exact d0)).toNat : Int) == 48) = b := ⟨_, rfl⟩
        have H48 := Lib.hid (show b48 = true → l.head? = some 48 from fun hb => (head_at d0 48).2 (by
          rw [hb] at hb48
          have h1 : (((l[0]).toNat : Int) == 48) = true := hb48
          exact UInt8.toNat.inj (by have := eq_of_beq h1; show l[0].toNat = 48; omega)))
        have E48 := Lib.hid e48
        clear hr e48 e0 e19
        have hcase : b48 = false ∨ (b48 = true ∧ l.length ≤ 1) := by
          cases b48 with | false => exact Or.inl rfl | true => exact Or.inr ⟨rfl, by have := E48.out; have h1 := H48.out rfl; simp only [h1, true_and] at this; omega⟩
        have hcase2 : b48 = false ∨ (b48 = true ∧ (l.length : Int) ≤ 1) := hcase.imp id (fun h => ⟨h.1, by omega⟩)
        clear hcase
        rcases hcase2 with rfl | ⟨rfl, e1⟩
        all_goals
          go_enter Tryd.func45, Tryd.ntmps45
          go_wp2
          go_loop [6, 7] (fun u t => ∃ k : Nat, k ≤ l.length ∧ t = .int .i64 k ∧ u = .int .u64 ((valA 0 (l.take k) : Nat) : Int) ∧ ((l.take k).all isDig) = true) (fun _ t => l.length - (intOf t).toNat)
          case atStart => exact ⟨0, by omega, rfl, rfl, rfl⟩
          case round =>
            obtain ⟨k, hk, rfl, rfl, hall⟩ := hrel
            have HA := Lib.hid hall
            by_cases hlt : k < l.length
            · have hlt' : (k : Int) < l.length := by omega
              have hb := valA_lt (k := 18) hall (by rw [List.length_take]; omega)
              have hnext := valA_take hlt
              have e18 : (10 : Nat) ^ 18 = 1000000000000000000 := by decide
              obtain ⟨V, hV⟩ : ∃ V, valA 0 (l.take k) = V := ⟨_, rfl⟩
              rw [hV] at hb hnext
              rw [hV]
              rw [e18] at hb
              have HBV := Lib.hid hb
              have HX := Lib.hid hnext
              clear hall hnext e18 hV hb
              obtain ⟨c, hc⟩ : ∃ c, (ByteArray.mk l.toArray)[k]'(by rw [size_str]; exact hlt) = c := ⟨_, rfl⟩
              have HSAME := Lib.hid (show (l[k]).toNat = c.toNat from congrArg UInt8.toNat hc)
              by_cases hlo : c.toNat < 48
              · have hlo' : ((c.toNat : Nat) : Int) < 48 := by omega
                have hres : undP l = none := by rw [HR.out, if_neg (not_all hlt (isDig_no (Or.inl (by rw [HSAME.out]; exact hlo))))]
                have HRES := Lib.hid hres
                clear hres
                go_wp2
                go_ret2
                rw [HRES.out]
                exact ⟨rfl, rfl⟩
              · by_cases hhi : 57 < c.toNat
                · have hhi' : (57 : Int) < ((c.toNat : Nat) : Int) := by omega
                  have hlo' : (48 : Int) ≤ ((c.toNat : Nat) : Int) := by omega
                  have hres : undP l = none := by rw [HR.out, if_neg (not_all hlt (isDig_no (Or.inr (by rw [HSAME.out]; exact hhi))))]
                  have HRES := Lib.hid hres
                  clear hres
                  go_wp2
                  go_ret2
                  rw [HRES.out]
                  exact ⟨rfl, rfl⟩
                · have hhi' : ((c.toNat : Nat) : Int) ≤ 57 := by omega
                  have hlo' : (48 : Int) ≤ ((c.toNat : Nat) : Int) := by omega
                  obtain ⟨M, hM⟩ : ∃ M : Int, IntKind.u64.wrap (10 * (V : Int)) = M := ⟨_, rfl⟩
                  obtain ⟨N, hN⟩ : ∃ N : Nat, N = V * 10 + (c.toNat - 48) := ⟨_, rfl⟩
                  have hM2 : IntKind.u64.wrap (M + ((c.toNat : Int) - 48)) = (N : Int) := by
                    have := hV64 V c.toNat HBV.out (by omega) (by omega)
                    rw [← hM, hN]
                    exact this
                  have HNN := Lib.hid hN
                  clear hN
                  go_wp2
                  go_round
                  case rel =>
                    refine ⟨k + 1, by omega, by go_num, ?_, all_take hlt HA.out (isDig_yes (by rw [HSAME.out]; omega) (by rw [HSAME.out]; omega))⟩
                    rw [HX.out, HSAME.out, ← HNN.out]
                  case measure => simp [intOf]; omega
            · obtain rfl : k = l.length := by omega
              rw [List.take_length] at hall
              rw [List.take_length]
              have hr2 := HR.out
              rw [if_pos hall] at hr2
              obtain ⟨V, hV⟩ : ∃ V, valA 0 l = V := ⟨_, rfl⟩
              rw [hV] at hr2
              rw [hV]
              have HR2 := Lib.hid hr2
              clear hr2 hall hV hlt
              by_cases hv : V < 9223372036854775808
              · have hv' : decide ((9223372036854775808 : Int) ≤ (V : Int)) = false := decide_eq_false (by omega)
                have hv0 : (0 : Int) ≤ V := by omega
                have hw : IntKind.i64.wrap (V : Int) = V := pos64 V hv
                have HV := Lib.hid hv
                clear hv
                go_wp2
                go_ret2
                rw [HR2.out, if_pos HV.out]
                exact ⟨rfl, rfl⟩
              · have hv' : (9223372036854775808 : Int) ≤ V := by omega
                have HV := Lib.hid hv
                clear hv
                go_wp2
                go_ret2
                rw [HR2.out, if_neg HV.out]
                exact ⟨rfl, rfl⟩


theorem und_any (l : List UInt8) (w : World) (hl : l.length ≤ 9223372036854775807) : Und l w (num l) := by
  rw [← undig_num]
  unfold undig
  cases l with
  | nil =>
    rw [if_neg (by simp), show undP [] = none from rfl]
    go_enter Tryd.func45, Tryd.ntmps45
    go_wp2
    go_ret2
    exact ⟨rfl, rfl⟩
  | cons c r =>
    by_cases hc : c = 45
    · subst hc
      rw [if_pos (List.head?_cons), List.tail_cons]
      exact und_true (45 :: r) r w hl (by simp) rfl (ba_ext (by rw [Lib.extract_data, data_str]; simp)) (by simp)
    · rw [if_neg (by simpa using hc)]
      exact und_false (c :: r) (c :: r) w hl (by simp) (by
        show (((c.toNat : Nat) : Int) == 45) = false
        exact beq_eq_false_iff_ne.2 (fun h => hc (UInt8.toNat.inj (by show c.toNat = 45; omega)))) rfl
end Go.Proofs.YtadnbkjjdkgfiaaDoor
