/-
  The walk of ValueEnds.
-/
import Derived.Test.YtadnbkjjdkgfiaaDoorValG
namespace Go.Viv
open Go.Lib Go.Proofs.YtadnbkjjdkgfiaaDoor
/-- The texts that ValueEnds tries, around a number's text. -/
def bads (t : List UInt8) : List (List UInt8) := [[57, 50, 50, 51, 51, 55, 50, 48, 51, 54, 56, 53, 52, 55, 55, 53, 56, 48, 56], [45, 57, 50, 50, 51, 51, 55, 50, 48, 51, 54, 56, 53, 52, 55, 55, 53, 56, 48, 57],
  43 :: t, 48 :: t, 32 :: t, t ++ [32], t ++ [44], 44 :: t, t ++ 44 :: (t ++ 44 :: t), [45, 48], [], [42, 42], t ++ [42]]
theorem bads_none (n : Int) : ∀ l ∈ bads (itoa n), parseV l = none := by
  have h44 := itoa_no44 n
  have hne := itoa_nil n
  intro l hl
  simp only [bads, List.mem_cons, List.mem_nil_iff, or_false] at hl
  rcases hl with rfl | rfl | rfl | rfl | rfl | rfl | rfl | rfl | rfl | rfl | rfl | rfl | rfl
  · exact parse_none (by decide) (cutC_no (by decide)) num_over
  · exact parse_none (by decide) (cutC_no (by decide)) num_under
  · exact parse_none (by simp) (cutC_no (by simp [h44])) (num_bad (c := 43) (by simp) (by decide) (by decide))
  · exact parse_none (by simp) (cutC_no (by simp [h44])) (num_zero_head _ hne)
  · exact parse_none (by simp) (cutC_no (by simp [h44])) (num_bad (c := 32) (by simp) (by decide) (by decide))
  · exact parse_none (fun h => by have h2 : (32 : UInt8) ∈ itoa n ++ [32] := by simp
                                  rw [h] at h2; simp at h2) (cutC_no (by simp [h44])) (num_bad (c := 32) (by simp) (by decide) (by decide))
  · exact parse_cut (cutC_of h44) (Or.inr num_empty)
  · exact parse_cut (cutC_of (a := []) (by simp)) (Or.inl num_empty)
  · exact parse_cut (cutC_of h44) (Or.inr (num_bad (c := 44) (by simp) (by decide) (by decide)))
  · exact parse_none (by decide) (cutC_no (by decide)) num_minus_zero
  · exact parse_empty
  · exact parse_none (by decide) (cutC_no (by decide)) (num_bad (c := 42) (by simp) (by decide) (by decide))
  · refine parse_none (fun h => ?_) (cutC_no (by simp [h44])) (num_bad (c := 42) (by simp) (by decide) (by decide))
    have := congrArg List.length h
    simp at this
    exact hne this
theorem bads_len {t : List UInt8} (ht : t.length ≤ 43) : ∀ l ∈ bads t, l.length ≤ 281474976710656 := by
  intro l hl
  simp only [bads, List.mem_cons, List.mem_nil_iff, or_false] at hl
  rcases hl with rfl | rfl | rfl | rfl | rfl | rfl | rfl | rfl | rfl | rfl | rfl | rfl | rfl
  all_goals (simp; try omega)
theorem top_parse : parseV [57, 50, 50, 51, 51, 55, 50, 48, 51, 54, 56, 53, 52, 55, 55, 53, 56, 48, 55] = some ⟨1, 9223372036854775807, 0⟩ := by
  have h : textV ⟨1, 9223372036854775807, 0⟩ = [57, 50, 50, 51, 51, 55, 50, 48, 51, 54, 56, 53, 52, 55, 55, 53, 56, 48, 55] := by simp [textV, okV, itoa_top]
  rw [← h]
  exact parse_text rfl ⟨by unfold inI; decide, by unfold inI; decide⟩
theorem low_parse : parseV [48, 44, 45, 57, 50, 50, 51, 51, 55, 50, 48, 51, 54, 56, 53, 52, 55, 55, 53, 56, 48, 56] = some ⟨2, 0, -9223372036854775808⟩ := by
  have h : textV ⟨2, 0, -9223372036854775808⟩ = [48, 44, 45, 57, 50, 50, 51, 51, 55, 50, 48, 51, 54, 56, 53, 52, 55, 55, 53, 56, 48, 56] := by simp [textV, okV, itoa_0, itoa_low]
  rw [← h]
  exact parse_text rfl ⟨by unfold inI; decide, by unfold inI; decide⟩
end Go.Viv
namespace Go.Proofs.YtadnbkjjdkgfiaaDoor
open Go.RowKit Go.Viv

theorem bads_arr (t : List UInt8) : (#[.string ⟨#[57, 50, 50, 51, 51, 55, 50, 48, 51, 54, 56, 53, 52, 55, 55, 53, 56, 48, 56]⟩, .string ⟨#[45, 57, 50, 50, 51, 51, 55, 50, 48, 51, 54, 56, 53, 52, 55, 55, 53, 56, 48, 57]⟩,
    .string (⟨#[43]⟩ ++ ⟨t.toArray⟩), .string (⟨#[48]⟩ ++ ⟨t.toArray⟩), .string (⟨#[32]⟩ ++ ⟨t.toArray⟩), .string (⟨t.toArray⟩ ++ ⟨#[32]⟩), .string (⟨t.toArray⟩ ++ ⟨#[44]⟩), .string (⟨#[44]⟩ ++ ⟨t.toArray⟩),
    .string (⟨t.toArray⟩ ++ ⟨#[44]⟩ ++ ⟨t.toArray⟩ ++ ⟨#[44]⟩ ++ ⟨t.toArray⟩), .string ⟨#[45, 48]⟩, .string ⟨#[]⟩, .string ⟨#[42, 42]⟩, .string (⟨t.toArray⟩ ++ ⟨#[42]⟩)] : Array Value) = ((bads t).map str).toArray := by
  have e : ∀ c : UInt8, (ByteArray.mk #[c]) = ByteArray.mk [c].toArray := fun _ => rfl
  simp only [e, ba_append, bads, List.map_cons, List.map_nil]
  simp

set_option maxRecDepth 100000 in
set_option maxHeartbeats 2000000 in
theorem ends_any (n : Int) (w : World) (he : Env w) (hn : inI n) : Calls Tryd.prog 6 #[.int .i64 n] w fun e w' => e = .returned (.bool true) ∧ Fr (fun _ => False) w w' := by
  have HE := Lib.hid he
  have HN := Lib.hid (show inV ⟨1, n, 0⟩ from ⟨hn, by simp [inI]⟩)
  have la := itoa_len hn
  have HT := Lib.hid (show textV ⟨1, n, 0⟩ = Lib.itoa n by simp [textV, okV])
  clear he
  go_enter Tryd.func6, Tryd.ntmps6
  go_wp2_with fail
  refine (parse_any [57, 50, 50, 51, 51, 55, 50, 48, 51, 54, 56, 53, 52, 55, 55, 53, 56, 48, 55] _ HE.out (by decide)).mono ?_
  rintro e w1 ⟨rfl, hf1⟩
  rw [top_parse]
  have H1 := Lib.hid hf1
  clear hf1
  go_wp2_with fail
  refine (parse_any [48, 44, 45, 57, 50, 50, 51, 51, 55, 50, 48, 51, 54, 56, 53, 52, 55, 55, 53, 56, 48, 56] _ (HE.out.fr (H1.out.alloc _)) (by decide)).mono ?_
  rintro e w2 ⟨rfl, hf2⟩
  rw [low_parse]
  have r1 := (Res.new w1 1 9223372036854775807 0).fr hf2
  obtain ⟨⟨c0, c1, c2⟩, -, lt⟩ := r1.cells
  have H2 := Lib.hid (And.intro (fr_no (H1.out.alloc _) hf2) (HE.out.fr (fr_no (H1.out.alloc _) hf2)))
  clear hf2 r1
  go_upto_region 3 with fail
  go_cut [35] (fun t35 wx => t35 = .bool false ∧ Fr (fun _ => False) w wx)
  case first =>
    go_region_with (first
      | (go_at_call 14; refine (int_any _ _).mono ?_; rintro e w3 ⟨rfl, rfl⟩)
      | (go_at_call 15; refine (pair_any _ _ _).mono ?_; rintro e w4 ⟨rfl, rfl⟩))
    all_goals
      go_wp2_with fail
      go_meet
      refine ⟨rfl, ?_⟩
      repeat (first | exact H2.out.1 | apply Fr.alloc | apply Fr.drew)
  case rest =>
    obtain ⟨rfl, hfr⟩ := hcut
    obtain ⟨wa, hwa⟩ : ∃ wa, wa = wc := ⟨wc, rfl⟩
    subst hwa
    have HA := Lib.hid hfr
    clear hfr H2 c0 c1 c2 lt H1
    go_wp2_with (first
      | (go_at_call 14; refine (int_any _ _).mono ?_; rintro e w5 ⟨rfl, rfl⟩)
      | (go_at_call 13; refine (text_any ⟨1, n, 0⟩ _ ((HE.out.fr HA.out).alloc _) HN.out).mono ?_; rintro e w6 ⟨rfl, hf6⟩; rw [HT.out]; have H6 := Lib.hid (fr_no (HA.out.alloc _) hf6); clear hf6))
    go_loopw [9] (fun t wr => ∃ k : Nat, k ≤ 13 ∧ t = .int .i64 k ∧ Fr (fun _ => False) w wr ∧ Blk wr w6.heap.size 9 ((bads (Lib.itoa n)).map str).toArray) (fun t _ => 13 - (intOf t).toNat)
    case atStart =>
      refine ⟨0, by omega, rfl, H6.out.alloc _, ?_⟩
      rw [← bads_arr]
      exact Blk.new _ _ _
    case round =>
      obtain ⟨k, hk, rfl, hfr, hbl⟩ := hrel
      by_cases hlt : k < 13
      · have hlt' : (k : Int) < 13 := by omega
        have hk0 : (0 : Int) ≤ k := by omega
        obtain ⟨l, hl⟩ : ∃ l, (bads (Lib.itoa n))[k]? = some l := ⟨_, List.getElem?_eq_getElem (by simpa [bads] using hlt)⟩
        have hc : wr.cell? ⟨w6.heap.size, k, none⟩ = some (str l) := by rw [hbl.cell]; simp [hl]
        have hp := bads_none n l (List.mem_of_getElem? hl)
        have hll := bads_len (show (Lib.itoa n).length ≤ 43 by omega) l (List.mem_of_getElem? hl)
        have HB := Lib.hid (And.intro hfr hbl)
        have HP := Lib.hid (And.intro hp hll)
        clear hfr hbl hp hll hl
        go_wp2_with (go_at_call 17; refine (parse_any l _ (HE.out.fr HB.out.1) HP.out.2).mono ?_; rintro e w7 ⟨rfl, hf7⟩; rw [HP.out.1]; have H7 := Lib.hid hf7; clear hf7)
        go_roundw
        case rel => exact ⟨k + 1, by omega, by go_num, (fr_no HB.out.1 H7.out).alloc _, (HB.out.2.fr H7.out (fun h => h)).alloc _⟩
        case measure => simp [intOf]; omega
      · have hd : decide ((k : Int) < 13) = false := decide_eq_false (by omega)
        have HB := Lib.hid hfr
        clear hfr hbl
        go_wp2_with (go_at_call 18; refine (awake_any _ (HE.out.fr HB.out)).mono ?_; rintro e w7 ⟨rfl, hf7⟩)
        go_ret
        exact ⟨rfl, fr_no HB.out hf7⟩
end Go.Proofs.YtadnbkjjdkgfiaaDoor
