/-
  The document's plan texts: text, same.
-/
import Derived.Test.YtibailpbjdfjfaaDoorDig
namespace Go.Viv
open Go.Lib Go.RowKit
theorem lets0 (S N : List UInt8) : (ByteArray.mk S.toArray) ++ (ByteArray.mk #[114, 119, 109, 110]).extract 0 1 ++ (ByteArray.mk N.toArray) = ⟨(S ++ ([114] ++ N)).toArray⟩ := by
  rw [show (ByteArray.mk #[114, 119, 109, 110]).extract 0 1 = ByteArray.mk #[114] from by decide]
  exact three_cat S 114 N
theorem lets1 (S N : List UInt8) : (ByteArray.mk S.toArray) ++ (ByteArray.mk #[114, 119, 109, 110]).extract 1 2 ++ (ByteArray.mk N.toArray) = ⟨(S ++ ([119] ++ N)).toArray⟩ := by
  rw [show (ByteArray.mk #[114, 119, 109, 110]).extract 1 2 = ByteArray.mk #[119] from by decide]
  exact three_cat S 119 N
theorem lets2 (S N : List UInt8) : (ByteArray.mk S.toArray) ++ (ByteArray.mk #[114, 119, 109, 110]).extract 2 3 ++ (ByteArray.mk N.toArray) = ⟨(S ++ ([109] ++ N)).toArray⟩ := by
  rw [show (ByteArray.mk #[114, 119, 109, 110]).extract 2 3 = ByteArray.mk #[109] from by decide]
  exact three_cat S 109 N
theorem lets3 (S N : List UInt8) : (ByteArray.mk S.toArray) ++ (ByteArray.mk #[114, 119, 109, 110]).extract 3 4 ++ (ByteArray.mk N.toArray) = ⟨(S ++ ([110] ++ N)).toArray⟩ := by
  rw [show (ByteArray.mk #[114, 119, 109, 110]).extract 3 4 = ByteArray.mk #[110] from by decide]
  exact three_cat S 110 N
theorem join_snoc (ws : List (List UInt8)) (x : List UInt8) : join (ws ++ [x]) [32] = if ws = [] then x else join ws [32] ++ 32 :: x := by
  cases ws with
  | nil => simp [join_one]
  | cons y r =>
    rw [if_neg (by simp), List.cons_append, join_cons, join_cons]
    simp [joinTail, List.append_assoc]
theorem textP_snoc {l : List Coln} {k : Nat} (hk : k < l.length) : textP (l.take (k + 1)) = (if k = 0 then [] else textP (l.take k) ++ [32]) ++ textK l[k] := by
  unfold textP
  rw [List.take_succ_eq_append_getElem hk, List.map_append, List.map_cons, List.map_nil, join_snoc]
  by_cases h : k = 0
  · subst h
    simp
  · have hne : (l.take k).map textK ≠ [] := fun e => by
      have h2 : ((l.take k).map textK).length = 0 := by rw [e]; rfl
      rw [List.length_map, List.length_take] at h2
      omega
    rw [if_neg h, if_neg hne]
    simp
theorem textP_len (l : List Coln) (hi : ∀ x ∈ l, inI x.c) : (textP l).length ≤ l.length * 23 + 22 := by
  have := join_len (l.map textK) 22 (fun x hx => by
    obtain ⟨z, hz, rfl⟩ := List.mem_map.1 hx
    exact textK_le (hi z hz))
  rw [List.length_map] at this
  exact this
end Go.Viv
namespace Go.Proofs.YtibailpbjdfjfaaDoor
open Go.RowKit Go.Viv
theorem digits_fr (n : Int) (w : World) (hn : inI n) : Calls Tryd.prog 20 #[.int .i64 n] w fun e w' => e = .returned (str (Lib.itoa n)) ∧ Fr (fun _ => False) w w' :=
  (digits_any n w hn).mono fun _ _ ⟨h1, h2⟩ => ⟨h1, by rw [← h2]; exact Fr.refl _ _⟩
set_option maxRecDepth 100000 in
set_option maxHeartbeats 2000000 in
theorem text17_any (l : List Coln) (A : Option Addr) (cap : Nat) (w : World) (hr : RowC w A (l.flatMap cellsK)) (_hn : l.length ≤ cap) (_hc : cap ≤ 9223372036854775807) (hl : l.length ≤ 1000) (hi : ∀ x ∈ l, inI x.c) :
    Calls Tryd.prog 11 #[.slice A l.length cap] w fun e w' => e = .returned (str (textP l)) ∧ Fr (fun _ => False) w w' := by
  have HR := Lib.hid hr
  have HI := Lib.hid hi
  obtain ⟨n, hnl⟩ : ∃ n, l.length = n := ⟨_, rfl⟩
  have HN := Lib.hid hnl
  rw [hnl] at _hn hl ⊢
  clear hr hi hnl
  go_enter Tryd.func11, Tryd.ntmps11
  go_wp2_with fail
  go_loopw [3, 4, 5] (fun s t _ wr => ∃ (k : Nat) (S : List UInt8), k ≤ n ∧ t = .int .i64 k ∧ s = str S ∧ S = textP (l.take k) ∧ Fr (fun _ => False) w wr) (fun _ t _ _ => n - (intOf t).toNat)
  case atStart => exact ⟨0, [], by omega, rfl, rfl, rfl, Fr.refl _ _⟩
  case round =>
    obtain ⟨k, S, hk, rfl, rfl, hS, hfr⟩ := hrel
    by_cases hlt : k < n
    · have hkl : k < l.length := by rw [HN.out]; exact hlt
      have hx : l[k]? = some l[k] := List.getElem?_eq_getElem hkl
      obtain ⟨b, o, rfl, hbw, d0, d1⟩ := rowK_at (HR.out.fr hfr) hx
      have hsn := textP_snoc hkl
      have hin := HI.out l[k] (List.getElem_mem hkl)
      have hSl : S.length ≤ n * 23 + 22 := by
        rw [hS]
        have := textP_len (l.take k) (fun x hx => HI.out x (List.mem_of_mem_take hx))
        rw [List.length_take] at this
        have hmin : min k l.length ≤ n := by omega
        have := Nat.mul_le_mul_right 23 hmin
        omega
      obtain ⟨y, hy⟩ : ∃ y, l[k] = y := ⟨_, rfl⟩
      rw [hy, ← hS] at hsn
      rw [hy] at d0 d1 hin
      obtain ⟨S0, hS0⟩ : ∃ S0, (if k = 0 then [] else S ++ [32]) = S0 := ⟨_, rfl⟩
      rw [hS0] at hsn
      have hk0 : k = 0 → S = [] := fun h => by rw [hS, h]; rfl
      have hS0l : S0.length ≤ n * 23 + 23 := by rw [← hS0]; split <;> simp; omega
      have hz1 : ¬ 0 < k → str S = str S0 := fun h => by rw [← hS0, if_pos (by omega), hk0 (by omega)]
      have hz2 : 0 < k → S ++ [32] = S0 := fun h => by rw [← hS0, if_neg (by omega)]
      have HX := Lib.hid (And.intro hsn (And.intro hfr (And.intro hz1 hz2)))
      clear hx hsn hfr hy hkl hS hS0 hk0 hz1 hz2
      obtain ⟨wB, hwB⟩ : ∃ wB, wB = wr := ⟨wr, rfl⟩
      subst hwB
      go_upto_if 13 with fail
      go_cut [3] (fun t wx => t = str S0 ∧ wx = wB)
      case first =>
        by_cases h0 : 0 < k
        · have h0i : (0 : Int) < k := by omega
          have m1 : ¬ 9223372036854775807 < S.length + 1 := by omega
          have HZ := Lib.hid (HX.out.2.2.2 h0)
          go_wp2_with fail
          go_meet
          refine ⟨?_, rfl⟩
          rw [← HZ.out]
          exact congrArg Value.string (ba_append S [32])
        · have h0i : ¬ (0 : Int) < k := by omega
          have HZ := Lib.hid (HX.out.2.2.1 h0)
          go_wp2_with fail
          go_meet
          exact ⟨HZ.out, rfl⟩
      case rest =>
        obtain ⟨rfl, rfl⟩ := hcut
        have HT := Lib.hid (show textK y = if y.k < 1 ∨ 5 < y.k ∨ y.c < 0 then [] else if y.k = 5 then [101] else letK y.k :: Lib.itoa y.c from rfl)
        have HD := Lib.hid (fun W => digits_fr y.c W hin)
        have hNl := itoa_len hin
        obtain ⟨NA, hNA⟩ : ∃ NA, Lib.itoa y.c = NA := ⟨_, rfl⟩
        rw [hNA] at HD HT hNl
        obtain ⟨yk, yc⟩ := y
        simp only at HT HD d0 d1 hin
        have m1 : ¬ 9223372036854775807 < S0.length + 1 := by omega
        have m2 : ¬ 9223372036854775807 < S0.length + 1 + NA.length := by omega
        clear hNA hin
        by_cases hc0 : yc < 0
        · have HT2 := Lib.hid (show textK ⟨yk, yc⟩ = [] from by rw [HT.out, if_pos (.inr (.inr hc0))])
          go_wp2
          go_roundw
          case rel => exact ⟨k + 1, S0, by omega, by go_num, rfl, by rw [HX.out.1, HT2.out, List.append_nil], HX.out.2.1.alloc _⟩
          case measure => simp [intOf]; omega
        · have hc0' : 0 ≤ yc := by omega
          by_cases h5 : yk = 5
          · subst h5
            have HT2 := Lib.hid (show textK ⟨5, yc⟩ = [101] from by rw [HT.out, if_neg (by omega), if_pos rfl])
            go_wp2
            go_roundw
            case rel => exact ⟨k + 1, S0 ++ [101], by omega, by go_num, congrArg Value.string (ba_append S0 [101]), by rw [HX.out.1, HT2.out], HX.out.2.1.alloc _⟩
            case measure => simp [intOf]; omega
          · by_cases hno : yk < 1 ∨ 5 < yk
            · have HT2 := Lib.hid (show textK ⟨yk, yc⟩ = [] from by rw [HT.out, if_pos (by omega)])
              have h5' : (yk == 5) = false := beq_eq_false_iff_ne.2 h5
              clear h5
              rcases hno with hno | hno
              · go_wp2
                go_roundw
                case rel => exact ⟨k + 1, S0, by omega, by go_num, rfl, by rw [HX.out.1, HT2.out, List.append_nil], HX.out.2.1.alloc _⟩
                case measure => simp [intOf]; omega
              · have g4 : 4 < yk := by omega
                go_wp2
                go_roundw
                case rel => exact ⟨k + 1, S0, by omega, by go_num, rfl, by rw [HX.out.1, HT2.out, List.append_nil], HX.out.2.1.alloc _⟩
                case measure => simp [intOf]; omega
            · have hyk : yk = 1 ∨ yk = 2 ∨ yk = 3 ∨ yk = 4 := by omega
              clear hno h5
              rcases hyk with rfl | rfl | rfl | rfl
              · go_wp2_with fail
                obtain ⟨W1, hW1, H1, k0, k1⟩ := box2 wc 43 _ _
                rw [← hW1]
                clear hW1
                refine wp_region_quiet_below (by kernel_rfl) (by kernel_rfl) ?_
                repeat (first | go_big_quiet_step ((go_at_call 20; exact calls_reg (HD.out _))) | quiet_step ((go_at_call 20; exact calls_reg (HD.out _))))
                refine wpQuiet_nil ?_
                intro wq hq
                obtain ⟨pq, rfl⟩ := hq
                have HT2 := Lib.hid (HT.out)
                go_wp2
                go_roundw
                case rel => exact ⟨k + 1, S0 ++ ([114] ++ NA), by omega, by go_num, congrArg Value.string (lets0 S0 NA), by rw [HX.out.1, HT2.out, if_neg (by omega), if_neg (by omega)]; rfl, fr_regrown (fr_two HX.out.2.1 H1.out) _ _⟩
                case measure => simp [intOf]; omega
              · go_wp2_with fail
                obtain ⟨W1, hW1, H1, k0, k1⟩ := box2 wc 43 _ _
                rw [← hW1]
                clear hW1
                refine wp_region_quiet_below (by kernel_rfl) (by kernel_rfl) ?_
                repeat (first | go_big_quiet_step ((go_at_call 20; exact calls_reg (HD.out _))) | quiet_step ((go_at_call 20; exact calls_reg (HD.out _))))
                refine wpQuiet_nil ?_
                intro wq hq
                obtain ⟨pq, rfl⟩ := hq
                have HT2 := Lib.hid (HT.out)
                go_wp2
                go_roundw
                case rel => exact ⟨k + 1, S0 ++ ([119] ++ NA), by omega, by go_num, congrArg Value.string (lets1 S0 NA), by rw [HX.out.1, HT2.out, if_neg (by omega), if_neg (by omega)]; rfl, fr_regrown (fr_two HX.out.2.1 H1.out) _ _⟩
                case measure => simp [intOf]; omega
              · go_wp2_with fail
                obtain ⟨W1, hW1, H1, k0, k1⟩ := box2 wc 43 _ _
                rw [← hW1]
                clear hW1
                refine wp_region_quiet_below (by kernel_rfl) (by kernel_rfl) ?_
                repeat (first | go_big_quiet_step ((go_at_call 20; exact calls_reg (HD.out _))) | quiet_step ((go_at_call 20; exact calls_reg (HD.out _))))
                refine wpQuiet_nil ?_
                intro wq hq
                obtain ⟨pq, rfl⟩ := hq
                have HT2 := Lib.hid (HT.out)
                go_wp2
                go_roundw
                case rel => exact ⟨k + 1, S0 ++ ([109] ++ NA), by omega, by go_num, congrArg Value.string (lets2 S0 NA), by rw [HX.out.1, HT2.out, if_neg (by omega), if_neg (by omega)]; rfl, fr_regrown (fr_two HX.out.2.1 H1.out) _ _⟩
                case measure => simp [intOf]; omega
              · go_wp2_with fail
                obtain ⟨W1, hW1, H1, k0, k1⟩ := box2 wc 43 _ _
                rw [← hW1]
                clear hW1
                refine wp_region_quiet_below (by kernel_rfl) (by kernel_rfl) ?_
                repeat (first | go_big_quiet_step ((go_at_call 20; exact calls_reg (HD.out _))) | quiet_step ((go_at_call 20; exact calls_reg (HD.out _))))
                refine wpQuiet_nil ?_
                intro wq hq
                obtain ⟨pq, rfl⟩ := hq
                have HT2 := Lib.hid (HT.out)
                go_wp2
                go_roundw
                case rel => exact ⟨k + 1, S0 ++ ([110] ++ NA), by omega, by go_num, congrArg Value.string (lets3 S0 NA), by rw [HX.out.1, HT2.out, if_neg (by omega), if_neg (by omega)]; rfl, fr_regrown (fr_two HX.out.2.1 H1.out) _ _⟩
                case measure => simp [intOf]; omega
    · obtain rfl : n = k := by omega
      have HX := Lib.hid (And.intro hS hfr)
      clear hS hfr
      go_wp2
      go_ret
      exact ⟨by rw [HX.out.1, List.take_of_length_le (by rw [HN.out]; exact Nat.le_refl _)]; rfl, HX.out.2⟩
end Go.Proofs.YtibailpbjdfjfaaDoor
