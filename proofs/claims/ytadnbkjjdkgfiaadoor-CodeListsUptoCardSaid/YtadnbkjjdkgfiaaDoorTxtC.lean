/-
  How the document tells an instruction: Tells.
-/
import Derived.Test.YtadnbkjjdkgfiaaDoorTxtB
namespace Go.Viv
open Go.Lib Go.Proofs.YtadnbkjjdkgfiaaDoor Go.RowKit
theorem cat_ls (a b : List UInt8) : (ByteArray.mk a.toArray) ++ (ByteArray.mk b.toArray) = ⟨(a ++ b).toArray⟩ := by
  refine ba_ext ?_
  simp [ByteArray.data_append]
theorem three_ls (a b c : List UInt8) : (ByteArray.mk a.toArray) ++ (ByteArray.mk b.toArray) ++ (ByteArray.mk c.toArray) = ⟨(a ++ (b ++ c)).toArray⟩ := by
  rw [cat_ls, cat_ls, List.append_assoc]
theorem nameAt_len {k : Nat} (h : k ≤ 18) : (nameAt k).length ≤ 21 := by
  have hall : ∀ j : Fin 19, (nameAt j).length ≤ 21 := by decide
  exact hall ⟨k, by omega⟩
end Go.Viv
namespace Go.Proofs.YtadnbkjjdkgfiaaDoor
open Go.RowKit Go.Viv
set_option maxRecDepth 100000 in
set_option maxHeartbeats 2000000 in
theorem tellsR_in (j : Nat) (r s n : Int) (w : World) (hj : j < 18) (hr : inI r) (hs : inI s) (hn : inI n) : Calls Tryd.prog 29 #[Insn.agg ⟨(j : Int) + 1, r, s, n⟩] w fun e w' => e = .returned (str (nameAt (j + 1) ++ tellL ⟨(j : Int) + 1, r, s, n⟩ (formB ((j : Int) + 1)))) ∧ Fr (fun _ => False) w w' := by
  have hFc := form_kinds ((j : Int) + 1)
  have HFM := Lib.hid (fun W => form_any ((j : Int) + 1) W)
  obtain ⟨F, hF⟩ : ∃ F, formB ((j : Int) + 1) = F := ⟨_, rfl⟩
  rw [hF] at hFc HFM ⊢
  clear hF
  have l1 := itoa_len hr
  have l2 := itoa_len hs
  have l3 := itoa_len hn
  have HI := Lib.hid (And.intro hr (And.intro hs hn))
  obtain ⟨RA, hRA⟩ : ∃ l, Lib.itoa r = l := ⟨_, rfl⟩
  obtain ⟨SA, hSA⟩ : ∃ l, Lib.itoa s = l := ⟨_, rfl⟩
  obtain ⟨NA, hNA⟩ : ∃ l, Lib.itoa n = l := ⟨_, rfl⟩
  have HTL := Lib.hid (show ∀ F, tellL ⟨(j : Int) + 1, r, s, n⟩ F = (F.map fun c => if c = 114 then [32, 114] ++ RA else if c = 115 then [32, 114] ++ SA else [32] ++ NA).flatten from fun F => by
    rw [← hRA, ← hSA, ← hNA]; rfl)
  have HR := Lib.hid (fun W => show Calls Tryd.prog 46 #[.int .i64 r] W fun e w' => e = .returned (str RA) ∧ W = w' from by rw [← hRA]; exact digits_any r W HI.out.1)
  have HS := Lib.hid (fun W => show Calls Tryd.prog 46 #[.int .i64 s] W fun e w' => e = .returned (str SA) ∧ W = w' from by rw [← hSA]; exact digits_any s W HI.out.2.1)
  have HN := Lib.hid (fun W => show Calls Tryd.prog 46 #[.int .i64 n] W fun e w' => e = .returned (str NA) ∧ W = w' from by rw [← hNA]; exact digits_any n W HI.out.2.2)
  rw [hRA] at l1
  rw [hSA] at l2
  rw [hNA] at l3
  have lnm := nameAt_len (k := j + 1) (by omega)
  have hnc := name_cell hj
  obtain ⟨NM, hNM⟩ : ∃ l, nameAt (j + 1) = l := ⟨_, rfl⟩
  rw [hNM] at lnm hnc ⊢
  obtain ⟨NC, hNC⟩ : ∃ c, nameCells = c := ⟨_, rfl⟩
  have HNA := Lib.hid (fun W => show Calls Tryd.prog 58 #[] W fun e w' => e = .returned (.slice (some ⟨W.heap.size, 0, none⟩) 18 18) ∧ W.alloc (.cells NC 9) = w' from by rw [← hNC]; exact names_any W)
  rw [hNC] at hnc
  have HNCC := Lib.hid hnc
  have hj' : (j : Int) < 18 := by omega
  clear hNC hNM hRA hSA hNA hr hs hn hnc
  go_enter Tryd.func29, Tryd.ntmps29
  go_wp2_with fail
  obtain ⟨W1, hW1⟩ : ∃ W1, W1 = w.alloc (.cells #[.int .i64 ((j : Int) + 1), .int .i64 r, .int .i64 s, .int .i64 n] 42) := ⟨_, rfl⟩
  have hbl : Blk W1 w.heap.size 42 #[.int .i64 ((j : Int) + 1), .int .i64 r, .int .i64 s, .int .i64 n] := by rw [hW1]; exact Blk.new _ _ _
  have hfr1 : Fr (fun _ => False) w W1 := by rw [hW1]; exact Fr.alloc1 _ _ _
  rw [← hW1]
  have H1 := Lib.hid (And.intro hbl hfr1)
  obtain ⟨c0, c1, c2, c3⟩ := blk4 hbl
  have k0 := cell_regrown c0
  have lt := hbl.lt
  clear hW1 hbl hfr1
  refine Mix.wp_region_mix [(1, true), (2, true), (3, true), (0, false), (4, true), (5, false), (6, true)] (by kernel_rfl) (by kernel_rfl) (by intro c d v a w h; cases d <;> exact h) ?_
  repeat (refine Mix.mix_read rfl rfl ?_; (first | go_big_quiet_step (fail) | quiet_step (fail)); refine wpQuiet_nil ?_)
  refine Mix.mix_does rfl ?_
  go_wp2_with fail
  refine (HNA.out _).mono ?_
  rintro e w2 ⟨rfl, rfl⟩
  go_wp2_with fail
  have hfd : Fr (fun _ => False) W1 (W1.alloc (.cells NC 9)).drew := ((Fr.refl _ _).alloc _).drew
  have hbn : Blk (W1.alloc (.cells NC 9)).drew W1.heap.size 9 NC := (Blk.new _ _ _).drew
  have hbl2 := H1.out.1.fr hfd (fun h => h)
  refine behind hfd ?_
  have H2 := Lib.hid (And.intro hbl2 (fr_two H1.out.2 hfd))
  have HFD := Lib.hid hfd
  have e0 := (hbn.cell j).trans HNCC.out
  have ltn := hbn.lt
  clear hfd hbl2 hbn c0 c1 c2 c3 k0
  obtain ⟨W2, hW2⟩ : ∃ W2, W2 = (W1.alloc (.cells NC 9)).drew := ⟨_, rfl⟩
  rw [← hW2] at H2 HFD e0 ltn ⊢
  clear hW2
  repeat (refine Mix.mix_read rfl rfl ?_; (first | go_big_quiet_step (fail) | quiet_step (fail)); refine wpQuiet_nil ?_)
  refine Mix.mix_does rfl ?_
  go_wp2_with fail
  refine behind HFD.out ?_
  repeat (refine Mix.mix_read rfl rfl ?_; (first | go_big_quiet_step (fail) | quiet_step (fail)); refine wpQuiet_nil ?_)
  refine Mix.mix_nil ?_
  obtain ⟨c0, c1, c2, c3⟩ := blk4 H2.out.1
  have lt2 := H2.out.1.lt
  clear e0 ltn lt
  go_wp2_with fail
  refine (HFM.out _).mono ?_
  rintro e w4 ⟨rfl, hf4⟩
  have H4 := Lib.hid (And.intro (H2.out.1.fr hf4 (fun h => h)) (fr_two H2.out.2 hf4))
  clear hf4 c0 c1 c2 c3 lt2
  obtain ⟨c0, c1, c2, c3⟩ := blk4 H4.out.1
  have lt4 := H4.out.1.lt
  go_wp2_with fail
  go_loop [3, 5] (fun u t => ∃ (q : Nat) (S : List UInt8), q ≤ F.length ∧ t = .int .i64 q ∧ u = str S ∧ S.length ≤ 21 + 24 * q ∧ S = NM ++ tellL ⟨(j : Int) + 1, r, s, n⟩ (F.take q)) (fun _ t => F.length - (intOf t).toNat)
  case atStart => exact ⟨0, NM, Nat.zero_le _, rfl, rfl, by omega, by simp [tellL]⟩
  case round =>
    obtain ⟨q, S, hq, rfl, rfl, hSl, hS⟩ := hrel
    have HSS := Lib.hid hS
    clear hS
    by_cases hqlt : q < F.length
    · have hqo : q = 0 ∨ q = 1 := by rcases hFc with rfl | rfl | rfl | rfl | rfl <;> simp at hqlt <;> omega
      have m1 : ¬ 9223372036854775807 < S.length + 2 := by omega
      have m2 : ¬ 9223372036854775807 < S.length + 2 + RA.length := by omega
      have m3 : ¬ 9223372036854775807 < S.length + 2 + SA.length := by omega
      have m4 : ¬ 9223372036854775807 < S.length + 1 := by omega
      have m5 : ¬ 9223372036854775807 < S.length + 1 + NA.length := by omega
      have HLS := Lib.hid (And.intro hSl (And.intro l1 (And.intro l2 l3)))
      rcases hFc with rfl | rfl | rfl | rfl | rfl
      · rcases hqo with rfl | rfl
        · go_wp2_with (go_at_call 46; ((with_reducible refine (HR.out _).mono ?_); rintro e w5 ⟨rfl, rfl⟩))
          exact ⟨⟨1, S ++ ([32, 114] ++ RA), by simp, rfl, congrArg Value.string (three_ls S [32, 114] RA), by have := HLS.out; simp; omega, by rw [HSS.out, HTL.out, HTL.out]; simp⟩, by simp [intOf]⟩
        · go_wp2_with (go_at_call 46; ((with_reducible refine (HS.out _).mono ?_); rintro e w5 ⟨rfl, rfl⟩))
          exact ⟨⟨2, S ++ ([32, 114] ++ SA), by simp, rfl, congrArg Value.string (three_ls S [32, 114] SA), by have := HLS.out; simp; omega, by rw [HSS.out, HTL.out, HTL.out]; simp⟩, by simp [intOf]⟩
      · exfalso; simp at hqlt
      · obtain rfl : q = 0 := by simp at hqlt; omega
        go_wp2_with (go_at_call 46; ((with_reducible refine (HR.out _).mono ?_); rintro e w5 ⟨rfl, rfl⟩))
        exact ⟨⟨1, S ++ ([32, 114] ++ RA), by simp, rfl, congrArg Value.string (three_ls S [32, 114] RA), by have := HLS.out; simp; omega, by rw [HSS.out, HTL.out, HTL.out]; simp⟩, by simp [intOf]⟩
      · obtain rfl : q = 0 := by simp at hqlt; omega
        go_wp2_with (go_at_call 46; ((with_reducible refine (HN.out _).mono ?_); rintro e w5 ⟨rfl, rfl⟩))
        exact ⟨⟨1, S ++ ([32] ++ NA), by simp, rfl, congrArg Value.string (three_ls S [32] NA), by have := HLS.out; simp; omega, by rw [HSS.out, HTL.out, HTL.out]; simp⟩, by simp [intOf]⟩
      · rcases hqo with rfl | rfl
        · go_wp2_with (go_at_call 46; ((with_reducible refine (HR.out _).mono ?_); rintro e w5 ⟨rfl, rfl⟩))
          exact ⟨⟨1, S ++ ([32, 114] ++ RA), by simp, rfl, congrArg Value.string (three_ls S [32, 114] RA), by have := HLS.out; simp; omega, by rw [HSS.out, HTL.out, HTL.out]; simp⟩, by simp [intOf]⟩
        · go_wp2_with (go_at_call 46; ((with_reducible refine (HN.out _).mono ?_); rintro e w5 ⟨rfl, rfl⟩))
          exact ⟨⟨2, S ++ ([32] ++ NA), by simp, rfl, congrArg Value.string (three_ls S [32] NA), by have := HLS.out; simp; omega, by rw [HSS.out, HTL.out, HTL.out]; simp⟩, by simp [intOf]⟩
    · obtain rfl : q = F.length := by omega
      go_wp2
      go_ret
      exact ⟨by rw [HSS.out, List.take_of_length_le (Nat.le_refl _)]; rfl, H4.out.2⟩
set_option maxRecDepth 100000 in
theorem tellsR_any (i : Insn) (w : World) (hi : inI i.r ∧ inI i.s ∧ inI i.n) : Calls Tryd.prog 29 #[i.agg] w fun e w' => e = .returned (str (textI i)) ∧ Fr (fun _ => False) w w' := by
  rw [← tells_text]
  obtain ⟨op, r, s, n⟩ := i
  by_cases h : op < 1 ∨ 18 < op
  · have e : tellsI ⟨op, r, s, n⟩ = [] := by unfold tellsI; rw [if_pos h]
    rw [e]
    clear e hi
    by_cases h1 : op < 1
    · clear h
      go_enter Tryd.func29, Tryd.ntmps29
      go_wp2
      go_ret
      exact ⟨rfl, Fr.alloc1 _ _ _⟩
    · have h2 : 18 < op := by omega
      clear h
      go_enter Tryd.func29, Tryd.ntmps29
      go_wp2
      go_ret
      exact ⟨rfl, Fr.alloc1 _ _ _⟩
  · obtain ⟨j, rfl⟩ : ∃ j : Nat, op = (j : Int) + 1 := ⟨(op - 1).toNat, by omega⟩
    have e : tellsI ⟨(j : Int) + 1, r, s, n⟩ = nameAt (j + 1) ++ tellL ⟨(j : Int) + 1, r, s, n⟩ (formB ((j : Int) + 1)) := by
      unfold tellsI
      rw [if_neg h]
      rfl
    rw [e]
    exact tellsR_in j r s n w (by omega) hi.1 hi.2.1 hi.2.2
end Go.Proofs.YtadnbkjjdkgfiaaDoor
