/-
  The walk of ValueSums.
-/
import Derived.Test.YtadnbkjjdkgfiaaDoorValSum
import Derived.Test.YtadnbkjjdkgfiaaDoorRowC
import Derived.Test.YtadnbkjjdkgfiaaDoorMixFr
import Derived.Test.YtadnbkjjdkgfiaaDoorMasks
namespace Go.Viv
open Go.Lib Go.Proofs.YtadnbkjjdkgfiaaDoor Go.RowKit
abbrev cellsV (v : Val) : List Value := [.int .i64 v.k, .int .i64 v.a, .int .i64 v.b]
theorem rowV_of {w : World} {A : Option Addr} {vs : List Val} (h : RowC w A (vs.flatMap cellsV)) : RowV w A vs := by
  intro i v hi
  rcases h with h | ⟨b, o, h1, h2, h3⟩
  · cases vs with
    | nil => simp at hi
    | cons x r => simp at h
  · have g := fun c hc => chunk_get cellsV 3 (fun _ => rfl) vs i c hc
    rw [hi] at g
    have e0 := h3 (i * 3) (.int .i64 v.k) (by rw [← Nat.add_zero (i * 3), g 0 (by omega)]; rfl)
    have e1 := h3 (i * 3 + 1) (.int .i64 v.a) (by rw [g 1 (by omega)]; rfl)
    have e2 := h3 (i * 3 + 2) (.int .i64 v.b) (by rw [g 2 (by omega)]; rfl)
    exact ⟨b, o, h1, h2, e0, by rw [Nat.add_assoc]; exact e1, by rw [Nat.add_assoc]; exact e2⟩
theorem RowV.take {w : World} {A : Option Addr} {vs : List Val} (h : RowV w A vs) (k : Nat) : RowV w A (vs.take k) := fun i v hi => h i v (by
  rw [List.getElem?_take] at hi
  split at hi
  · exact hi
  · cases hi)
theorem RowV.drop {w : World} {A : Option Addr} {vs : List Val} (h : RowV w A vs) (k : Nat) : RowV w (A.map (·.add (k * 3))) (vs.drop k) := fun i v hi => by
  rw [List.getElem?_drop] at hi
  obtain ⟨b, o, h1, h2, h3, h4, h5⟩ := h _ _ hi
  refine ⟨b, o + k * 3, by rw [h1]; simp [Addr.add], h2, ?_⟩
  rw [Nat.add_mul, ← Nat.add_assoc] at h3 h4 h5
  exact ⟨h3, h4, h5⟩
theorem sA_rev (vs : List Val) : sA vs.reverse = sA vs := by unfold sA; rw [List.map_reverse, List.sum_reverse]
theorem sB_rev (vs : List Val) : sB vs.reverse = sB vs := by unfold sB; rw [List.map_reverse, List.sum_reverse]
theorem sumV_rev (vs : List Val) : sumV vs.reverse = sumV vs := by unfold sumV; rw [sA_rev, sB_rev]
theorem sumV_parts (vs : List Val) (k : Nat) : sumV [sumV (vs.take k), sumV (vs.drop k)] = sumV vs := by
  have h1 : sA vs = sA (vs.take k) + sA (vs.drop k) := by unfold sA; rw [← List.sum_append, ← List.map_append, List.take_append_drop]
  have h2 : sB vs = sB (vs.take k) + sB (vs.drop k) := by unfold sB; rw [← List.sum_append, ← List.map_append, List.take_append_drop]
  unfold sumV
  rw [h1, h2]
  simp only [sA, sB, okV, List.map_cons, List.map_nil, List.sum_cons, List.sum_nil]
  simp [wrap_add, wrap_add2]
theorem rev_next {vs : List Val} {k : Nat} {u : Val} (hk : k < vs.length) (h : vs[vs.length - 1 - k]? = some u) : vs.reverse.take (k + 1) = vs.reverse.take k ++ [u] := by
  rw [List.take_add_one, List.getElem?_reverse hk, h]; rfl
end Go.Viv
namespace Go.Proofs.YtadnbkjjdkgfiaaDoor
open Go.RowKit Go.Viv
theorem info24 : (Tryd.prog.info? 24).map (fun i => (i.zero, i.size, i.bytes)) = some (some (.agg #[.int .i64 0, .int .i64 0, .int .i64 0]), 3, 24) := by kernel_rfl
attribute [local go_sem ↓] wp_appendV

set_option maxRecDepth 100000 in
set_option maxHeartbeats 2000000 in
theorem sums_any (vs : List Val) (A : Option Addr) (cap : Nat) (at_ : Int) (w : World) (he : Env w) (hr : RowV w A vs) (hn : vs.length ≤ cap) (hc : cap ≤ 9223372036854775807) (hat : inI at_) :
    Calls Tryd.prog 7 #[.slice A vs.length cap, .int .i64 at_] w fun e w' => e = .returned (.bool true) ∧ Fr (fun _ => False) w w' := by
  have HE := Lib.hid he
  have HR := Lib.hid hr
  clear he hr
  obtain ⟨n, hnl⟩ : ∃ n, vs.length = n := ⟨_, rfl⟩
  have HN := Lib.hid hnl
  rw [hnl] at hn ⊢
  clear hnl
  have hn' : n ≤ 9223372036854775807 := by omega
  have ha0 := hat.1
  have ha1 := hat.2
  clear hat
  by_cases h100 : 100 < n
  · have h100' : (100 : Int) < n := by omega
    go_enter Tryd.func7, Tryd.ntmps7
    go_wp2_with (go_at_call 18; refine (awake_any _ HE.out).mono ?_; rintro e w7 ⟨rfl, hf7⟩)
    go_ret
    exact ⟨rfl, hf7⟩
  · have h100' : (n : Int) ≤ 100 := by omega
    have h100n : n ≤ 100 := by omega
    go_enter Tryd.func7, Tryd.ntmps7
    go_wp2_with fail
    go_loopw [5, 6, 7, 8] (fun a b s t wr => ∃ k : Nat, k ≤ n ∧ t = .int .i64 k ∧ a = .int .i64 (wrap64 (sA (vs.take k))) ∧ b = .int .i64 (wrap64 (sB (vs.take k))) ∧ wr.ownsRow w.heap.size 24 3 s k ((vs.reverse.take k).flatMap cellsV) ∧ Fr (fun _ => False) w wr) (fun _ _ _ t _ => n - (intOf t).toNat)
    case atStart => exact ⟨0, by omega, rfl, by simp [sA, wrap64], by simp [sB, wrap64], ⟨rfl, .inl ⟨rfl, rfl⟩⟩, Fr.refl _ _⟩
    case round =>
      obtain ⟨k, hk, rfl, rfl, rfl, hown, hfr⟩ := hrel
      by_cases hlt : k < n
      · obtain ⟨v, hv⟩ : ∃ v, vs[k]? = some v := ⟨_, List.getElem?_eq_getElem (by rw [HN.out]; exact hlt)⟩
        obtain ⟨u, hu⟩ : ∃ v, vs[n - 1 - k]? = some v := ⟨_, List.getElem?_eq_getElem (by rw [HN.out]; omega)⟩
        have hrw := HR.out.fr hfr
        obtain ⟨b, o, hA, hbw, d0, d1, d2⟩ := hrw k v hv
        obtain ⟨b', o', hA', _, _⟩ := hrw _ u hu
        obtain ⟨rfl, rfl⟩ : b' = b ∧ o' = o := by rw [hA] at hA'; injection hA' with hA'; injection hA' with h1 h2; exact ⟨h1.symm, h2.symm⟩
        subst hA
        have hu0 : (n : Int) - 1 - k < n := by omega
        have hu1 : (0 : Int) ≤ (n : Int) - 1 - k := by omega
        obtain ⟨x1, hx1⟩ : ∃ x, wrap64 (sA (vs.take k)) = x := ⟨_, rfl⟩
        obtain ⟨x2, hx2⟩ : ∃ x, wrap64 (sB (vs.take k)) = x := ⟨_, rfl⟩
        rw [hx1, hx2]
        have HB := Lib.hid (And.intro hown (And.intro hfr (And.intro hv (And.intro hu (And.intro hx1 (And.intro hx2 hrw))))))
        clear hown hfr hv hu hx1 hx2 hrw hA'
        obtain ⟨wB, hwB⟩ : ∃ wB, wB = wr := ⟨wr, rfl⟩
        subst hwB
        go_wp2_with fail
        refine (refok_any v _).mono ?_
        rintro e w1 ⟨rfl, rfl⟩
        obtain ⟨bo, ho⟩ : ∃ b, okV v = b := ⟨_, rfl⟩
        rw [ho]
        have HO := Lib.hid ho
        clear ho
        go_upto_if 25 with fail
        go_cut [5, 6] (fun a b wx => a = .int .i64 (wrap64 (sA (vs.take (k + 1)))) ∧ b = .int .i64 (wrap64 (sB (vs.take (k + 1)))) ∧ Fr (fun _ => False) wB wx)
        case first =>
          cases bo with
          | true =>
            go_wp2_with fail
            go_quiet (fail)
            go_wp2_with fail
            go_meet
            refine ⟨?_, ?_, ?_⟩
            · rw [stepA HB.out.2.2.1, HO.out, HB.out.2.2.2.2.1]; rfl
            · rw [stepB HB.out.2.2.1, HO.out, HB.out.2.2.2.2.2.1]; rfl
            · exact (Fr.alloc1 _ _ _).drewN _
          | false =>
            go_wp2_with fail
            go_meet
            refine ⟨?_, ?_, ?_⟩
            · rw [stepA HB.out.2.2.1, HO.out, HB.out.2.2.2.2.1, if_neg (by simp), Int.add_zero, ← HB.out.2.2.2.2.1, wrap_wrap]
            · rw [stepB HB.out.2.2.1, HO.out, HB.out.2.2.2.2.2.1, if_neg (by simp), Int.add_zero, ← HB.out.2.2.2.2.2.1, wrap_wrap]
            · exact Fr.alloc1 _ _ _
        case rest =>
          obtain ⟨rfl, rfl, hf2⟩ := hcut
          obtain ⟨wD, hwD⟩ : ∃ wD, wD = wc := ⟨wc, rfl⟩
          subst hwD
          obtain ⟨b2, o2, hA2, hbw2, g0, g1, g2⟩ := (HB.out.2.2.2.2.2.2.fr hf2) _ u HB.out.2.2.2.1
          injection hA2 with hA2
          injection hA2 with hA2 hA3
          subst hA2 hA3
          obtain ⟨v2, w2, happ, hown2, hfr2⟩ := app_one (P := Tryd.prog) (T := 35) Tryd.underlying35 info24 rfl (by omega) ((own_fr HB.out.1 hf2 (fun _ _ h => h)).alloc (.cells #[.int .i64 u.k, .int .i64 u.a, .int .i64 u.b] 24)) (Blk.new wD 24 #[.int .i64 u.k, .int .i64 u.a, .int .i64 u.b]) rfl (by simp [Value.oneCell']) (by unfold maxLen; omega) (by omega) (by have := HB.out.2.1.size; have := hf2.size; simp; omega)
          have H2 := Lib.hid (And.intro hown2 (hfr2 w ((fr_no HB.out.2.1 hf2).alloc _) (Nat.le_refl _)))
          clear hown2 hfr2 hf2 d0 d1 d2
          go_wp2_with fail
          go_roundw
          case rel =>
            refine ⟨k + 1, by omega, by go_num, rfl, rfl, ?_, H2.out.2⟩
            have z := H2.out.1
            rw [rev_next (by rw [HN.out]; exact hlt) (by rw [HN.out]; exact HB.out.2.2.2.1), List.flatMap_append]
            simpa using z
          case measure => simp [intOf]; omega
      · obtain rfl : n = k := by omega
        have ho2 := hown
        rw [show vs.take n = vs by rw [← HN.out]; exact List.take_length]
        rw [List.take_of_length_le (by rw [List.length_reverse, HN.out]; exact Nat.le_refl _)] at ho2
        obtain ⟨A2, cap2, rfl, hc2, hm2, hrow2⟩ := rowC_of_own ho2
        have HB := Lib.hid (And.intro (rowV_of hrow2) (And.intro hfr hm2))
        clear hown ho2 hrow2 hfr hm2
        obtain ⟨wB, hwB⟩ : ∃ wB, wB = wr := ⟨wr, rfl⟩
        subst hwB
        obtain ⟨kk, hkk, hkn⟩ : ∃ kk : Nat, (bits .and .i64 at_ 65535).tmod ((n : Int) + 1) = kk ∧ kk ≤ n := by
          have hb := i64_mask at_ 65535 16 (by decide) (by decide)
          have h0 := Int.emod_nonneg at_ (b := ((2 ^ 16 : Nat) : Int)) (by decide)
          rw [hb, Int.tmod_eq_emod_of_nonneg h0]
          have h1 := Int.emod_nonneg (at_ % ((2 ^ 16 : Nat) : Int)) (b := (n : Int) + 1) (by omega)
          have h2 := Int.emod_lt_of_pos (at_ % ((2 ^ 16 : Nat) : Int)) (b := (n : Int) + 1) (by omega)
          exact ⟨_, (Int.toNat_of_nonneg h1).symm, by omega⟩
        go_wp2_with fail
        have hsum := sum_any vs A cap wB (HR.out.fr HB.out.2.1) (by rw [HN.out]; exact hn) hc
        rw [HN.out] at hsum
        refine hsum.mono ?_
        rintro e w1 ⟨rfl, hf1⟩
        have H1 := Lib.hid (And.intro hf1 (fr_no HB.out.2.1 hf1))
        clear hsum hf1 hkk
        obtain ⟨p1, hp1⟩ : ∃ x, wrap64 (sA vs) = x := ⟨_, rfl⟩
        obtain ⟨p2, hp2⟩ : ∃ x, wrap64 (sB vs) = x := ⟨_, rfl⟩
        have hsv : sumV vs = ⟨2, p1, p2⟩ := by unfold sumV; rw [hp1, hp2]
        rw [hsv, hp1, hp2]
        have HS := Lib.hid hsv
        clear hsv hp1 hp2
        go_wp2_with fail
        obtain ⟨⟨c0, c1, c2⟩, -, lt⟩ := (Res.new w1 2 p1 p2).cells
        have k0 := cell_regrown c0
        have k1 := cell_regrown c1
        have k2 := cell_regrown c2
        clear c0 c1 c2
        have hkn' : (kk : Int) ≤ n := by omega
        have hk0 : (0 : Int) ≤ kk := by omega
        have hkc : (kk : Int) ≤ cap := by omega
        have HT := Lib.hid (fun W (h : Fr (fun _ => False) wB W) => show Calls Tryd.prog 24 #[.slice A2 n cap2] W fun e w' => e = .returned (Val.agg ⟨2, p1, p2⟩) ∧ Fr (fun _ => False) W w' from by
          have z := sum_any vs.reverse A2 cap2 W (HB.out.1.fr h) (by rw [List.length_reverse, HN.out]; exact hc2) (by have := HB.out.2.2; unfold maxLen at this; exact this)
          rw [List.length_reverse, HN.out, sumV_rev, HS.out] at z
          exact z)
        obtain ⟨X, hX⟩ : ∃ X, sumV (vs.take kk) = X := ⟨_, rfl⟩
        obtain ⟨Y, hY⟩ : ∃ Y, sumV (vs.drop kk) = Y := ⟨_, rfl⟩
        have HXY := Lib.hid (show sumV [X, Y] = ⟨2, p1, p2⟩ by rw [← hX, ← hY, sumV_parts, HS.out])
        have HL := Lib.hid (fun W (h : Fr (fun _ => False) wB W) => show Calls Tryd.prog 24 #[.slice A kk cap] W fun e w' => e = .returned X.agg ∧ Fr (fun _ => False) W w' from by
          have z := sum_any (vs.take kk) A cap W (((HR.out.fr HB.out.2.1).fr h).take kk) (by rw [List.length_take, HN.out]; omega) hc
          rw [List.length_take, HN.out, Nat.min_eq_left hkn, hX] at z
          exact z)
        have HD := Lib.hid (fun W (h : Fr (fun _ => False) wB W) => show Calls Tryd.prog 24 #[.slice (if cap = kk then A else A.map (·.add (kk * 3))) (n - kk) (cap - kk)] W fun e w' => e = .returned Y.agg ∧ Fr (fun _ => False) W w' from by
          have z := sum_any (vs.drop kk) (if cap = kk then A else A.map (·.add (kk * 3))) (cap - kk) W (by
            split
            · rw [List.drop_of_length_le (by rw [HN.out]; omega)]
              intro i v hi
              simp at hi
            · exact ((HR.out.fr HB.out.2.1).fr h).drop kk) (by rw [List.length_drop, HN.out]; omega) (by omega)
          rw [List.length_drop, HN.out, hY] at z
          exact z)
        have HM := Lib.hid (fun W g (h : Blk W g 24 #[.int .i64 X.k, .int .i64 X.a, .int .i64 X.b, .int .i64 Y.k, .int .i64 Y.a, .int .i64 Y.b]) => show Calls Tryd.prog 24 #[.slice (some ⟨g, 0, none⟩) 2 2] W fun e w' => e = .returned (Val.agg ⟨2, p1, p2⟩) ∧ Fr (fun _ => False) W w' from by
          have z := sum_any [X, Y] (some ⟨g, 0, none⟩) 2 W (rowV_of (RowC.blk h)) (by simp) (by decide)
          rw [HXY.out] at z
          exact z)
        have HNil := Lib.hid (fun W => show Calls Tryd.prog 24 #[.slice none 0 0] W fun e w' => e = .returned (Val.agg ⟨2, 0, 0⟩) ∧ Fr (fun _ => False) W w' from by
          have z := sum_any [] none 0 W (fun i v hi => by simp at hi) (by simp) (by decide)
          rw [show sumV [] = ⟨2, 0, 0⟩ by simp [sumV, sA, sB, wrap64]] at z
          exact z)
        have HF := Lib.hid (Fr.refl (fun _ => False) (w1.alloc (.cells #[.int .i64 2, .int .i64 p1, .int .i64 p2] 24)))
        clear hX hY
        by_cases hck : cap = kk
        · obtain rfl : n = kk := by omega
          obtain rfl : n = cap := hck.symm
          rw [if_pos rfl, Nat.sub_self] at HD
          refine Mix.wp_region_mix [(0, true), (1, true), (2, true), (3, false), (4, true), (5, true), (6, true), (8, true), (7, false), (9, true), (10, true), (11, true), (12, true), (13, true), (14, true), (16, true), (17, true), (18, true), (22, true), (15, false), (19, false), (20, false), (21, false), (23, true), (24, true), (25, true), (26, false), (27, false), (28, true), (29, true), (30, true), (31, false), (32, true), (33, true)] (by kernel_rfl) (by kernel_rfl) (by intro c d v a w h; cases d <;> exact h) ?_
          repeat (refine Mix.mix_read rfl rfl ?_; (first | go_big_quiet_step (fail) | quiet_step (fail)); refine wpQuiet_nil ?_)
          refine Mix.mix_does rfl ?_
          go_wp2_with fail
          refine (pair_any _ _ _).mono ?_
          rintro e w2 ⟨rfl, rfl⟩
          go_wp2_with fail
          refine behind (by repeat (first | exact Fr.refl _ _ | apply Fr.alloc | apply Fr.drew)) ?_
          repeat (refine Mix.mix_read rfl rfl ?_; (first | go_big_quiet_step (fail) | quiet_step (fail)); refine wpQuiet_nil ?_)
          refine Mix.mix_does rfl ?_
          go_wp2_with fail
          refine (HT.out _ (by repeat (first | exact Fr.refl _ _ | exact H1.out.1 | exact fr_two (H1.out.1.alloc _) HF.out | apply Fr.alloc | apply Fr.drew))).mono ?_
          rintro e w3 ⟨rfl, hf3⟩
          have HF2 := Lib.hid (show Fr (fun _ => False) (w1.alloc (.cells #[.int .i64 2, .int .i64 p1, .int .i64 p2] 24)) w3 from by refine fr_two ?_ hf3; repeat (first | exact Fr.refl _ _ | exact HF.out | apply Fr.alloc | apply Fr.drew))
          clear hf3 HF
          have HF := HF2
          clear HF2
          go_wp2_with fail
          refine behind HF.out ?_
          repeat (refine Mix.mix_read rfl rfl ?_; (first | go_big_quiet_step (fail) | quiet_step (fail)); refine wpQuiet_nil ?_)
          refine Mix.mix_does rfl ?_
          go_wp2_with fail
          refine (HL.out _ (by repeat (first | exact Fr.refl _ _ | exact H1.out.1 | exact fr_two (H1.out.1.alloc _) HF.out | apply Fr.alloc | apply Fr.drew))).mono ?_
          rintro e w4 ⟨rfl, hf4⟩
          have HF2 := Lib.hid (show Fr (fun _ => False) (w1.alloc (.cells #[.int .i64 2, .int .i64 p1, .int .i64 p2] 24)) w4 from by refine fr_two ?_ hf4; repeat (first | exact Fr.refl _ _ | exact HF.out | apply Fr.alloc | apply Fr.drew))
          clear hf4 HF
          have HF := HF2
          clear HF2
          go_wp2_with fail
          refine behind HF.out ?_
          repeat (refine Mix.mix_read rfl rfl ?_; (first | go_big_quiet_step (fail) | quiet_step (fail)); refine wpQuiet_nil ?_)
          refine Mix.mix_does rfl ?_
          go_wp2_with fail
          refine (HD.out _ (by repeat (first | exact Fr.refl _ _ | exact H1.out.1 | exact fr_two (H1.out.1.alloc _) HF.out | apply Fr.alloc | apply Fr.drew))).mono ?_
          rintro e w5 ⟨rfl, hf5⟩
          have HF2 := Lib.hid (show Fr (fun _ => False) (w1.alloc (.cells #[.int .i64 2, .int .i64 p1, .int .i64 p2] 24)) w5 from by refine fr_two ?_ hf5; repeat (first | exact Fr.refl _ _ | exact HF.out | apply Fr.alloc | apply Fr.drew))
          clear hf5 HF
          have HF := HF2
          clear HF2
          go_wp2_with fail
          refine behind HF.out ?_
          repeat (refine Mix.mix_read rfl rfl ?_; (first | go_big_quiet_step (fail) | quiet_step (fail)); refine wpQuiet_nil ?_)
          refine Mix.mix_does rfl ?_
          go_wp2_with fail
          refine behind (by repeat (first | exact HF.out | apply Fr.alloc | apply Fr.drew)) ?_
          repeat (refine Mix.mix_read rfl rfl ?_; (first | go_big_quiet_step (fail) | quiet_step (fail)); refine wpQuiet_nil ?_)
          refine Mix.mix_does rfl ?_
          go_wp2_with fail
          refine (HM.out _ _ (Blk.new _ _ _)).mono ?_
          rintro e w6 ⟨rfl, hf6⟩
          have HF2 := Lib.hid (show Fr (fun _ => False) (w1.alloc (.cells #[.int .i64 2, .int .i64 p1, .int .i64 p2] 24)) w6 from by refine fr_two ?_ hf6; repeat (first | exact Fr.refl _ _ | exact HF.out | apply Fr.alloc | apply Fr.drew))
          clear hf6 HF
          have HF := HF2
          clear HF2
          go_wp2_with fail
          refine behind HF.out ?_
          repeat (refine Mix.mix_read rfl rfl ?_; (first | go_big_quiet_step (fail) | quiet_step (fail)); refine wpQuiet_nil ?_)
          refine Mix.mix_does rfl ?_
          go_wp2_with fail
          refine (HNil.out _).mono ?_
          rintro e w7 ⟨rfl, hf7⟩
          have HF2 := Lib.hid (show Fr (fun _ => False) (w1.alloc (.cells #[.int .i64 2, .int .i64 p1, .int .i64 p2] 24)) w7 from by refine fr_two ?_ hf7; repeat (first | exact Fr.refl _ _ | exact HF.out | apply Fr.alloc | apply Fr.drew))
          clear hf7 HF
          have HF := HF2
          clear HF2
          go_wp2_with fail
          refine behind HF.out ?_
          repeat (refine Mix.mix_read rfl rfl ?_; (first | go_big_quiet_step (fail) | quiet_step (fail)); refine wpQuiet_nil ?_)
          refine Mix.mix_does rfl ?_
          go_wp2_with fail
          refine (pair_any _ _ _).mono ?_
          rintro e w8 ⟨rfl, rfl⟩
          go_wp2_with fail
          refine behind (by repeat (first | exact HF.out | apply Fr.alloc | apply Fr.drew)) ?_
          repeat (refine Mix.mix_read rfl rfl ?_; (first | go_big_quiet_step (fail) | quiet_step (fail)); refine wpQuiet_nil ?_)
          refine Mix.mix_does rfl ?_
          go_wp2_with fail
          refine (awake_any _ (HE.out.fr (fr_two H1.out.2 (fr_two (Fr.alloc1 _ _ _) (by repeat (first | exact HF.out | apply Fr.alloc | apply Fr.drew)))))).mono ?_
          rintro e w9 ⟨rfl, hf9⟩
          have HF2 := Lib.hid (show Fr (fun _ => False) (w1.alloc (.cells #[.int .i64 2, .int .i64 p1, .int .i64 p2] 24)) w9 from by refine fr_two ?_ hf9; repeat (first | exact Fr.refl _ _ | exact HF.out | apply Fr.alloc | apply Fr.drew))
          clear hf9 HF
          have HF := HF2
          clear HF2
          go_wp2_with fail
          refine behind HF.out ?_
          repeat (refine Mix.mix_read rfl rfl ?_; (first | go_big_quiet_step (fail) | quiet_step (fail)); refine wpQuiet_nil ?_)
          refine Mix.mix_nil ?_
          go_wp2
          go_ret
          exact ⟨rfl, fr_two H1.out.2 (fr_two (Fr.alloc1 _ _ _) HF.out)⟩
        · rw [if_neg hck] at HD
          refine Mix.wp_region_mix [(0, true), (1, true), (2, true), (3, false), (4, true), (5, true), (6, true), (8, true), (7, false), (9, true), (10, true), (11, true), (12, true), (13, true), (14, true), (16, true), (17, true), (18, true), (22, true), (15, false), (19, false), (20, false), (21, false), (23, true), (24, true), (25, true), (26, false), (27, false), (28, true), (29, true), (30, true), (31, false), (32, true), (33, true)] (by kernel_rfl) (by kernel_rfl) (by intro c d v a w h; cases d <;> exact h) ?_
          repeat (refine Mix.mix_read rfl rfl ?_; (first | go_big_quiet_step (fail) | quiet_step (fail)); refine wpQuiet_nil ?_)
          refine Mix.mix_does rfl ?_
          go_wp2_with fail
          refine (pair_any _ _ _).mono ?_
          rintro e w2 ⟨rfl, rfl⟩
          go_wp2_with fail
          refine behind (by repeat (first | exact Fr.refl _ _ | apply Fr.alloc | apply Fr.drew)) ?_
          repeat (refine Mix.mix_read rfl rfl ?_; (first | go_big_quiet_step (fail) | quiet_step (fail)); refine wpQuiet_nil ?_)
          refine Mix.mix_does rfl ?_
          go_wp2_with fail
          refine (HT.out _ (by repeat (first | exact Fr.refl _ _ | exact H1.out.1 | exact fr_two (H1.out.1.alloc _) HF.out | apply Fr.alloc | apply Fr.drew))).mono ?_
          rintro e w3 ⟨rfl, hf3⟩
          have HF2 := Lib.hid (show Fr (fun _ => False) (w1.alloc (.cells #[.int .i64 2, .int .i64 p1, .int .i64 p2] 24)) w3 from by refine fr_two ?_ hf3; repeat (first | exact Fr.refl _ _ | exact HF.out | apply Fr.alloc | apply Fr.drew))
          clear hf3 HF
          have HF := HF2
          clear HF2
          go_wp2_with fail
          refine behind HF.out ?_
          repeat (refine Mix.mix_read rfl rfl ?_; (first | go_big_quiet_step (fail) | quiet_step (fail)); refine wpQuiet_nil ?_)
          refine Mix.mix_does rfl ?_
          go_wp2_with fail
          refine (HL.out _ (by repeat (first | exact Fr.refl _ _ | exact H1.out.1 | exact fr_two (H1.out.1.alloc _) HF.out | apply Fr.alloc | apply Fr.drew))).mono ?_
          rintro e w4 ⟨rfl, hf4⟩
          have HF2 := Lib.hid (show Fr (fun _ => False) (w1.alloc (.cells #[.int .i64 2, .int .i64 p1, .int .i64 p2] 24)) w4 from by refine fr_two ?_ hf4; repeat (first | exact Fr.refl _ _ | exact HF.out | apply Fr.alloc | apply Fr.drew))
          clear hf4 HF
          have HF := HF2
          clear HF2
          go_wp2_with fail
          refine behind HF.out ?_
          repeat (refine Mix.mix_read rfl rfl ?_; (first | go_big_quiet_step (fail) | quiet_step (fail)); refine wpQuiet_nil ?_)
          refine Mix.mix_does rfl ?_
          go_wp2_with fail
          refine (HD.out _ (by repeat (first | exact Fr.refl _ _ | exact H1.out.1 | exact fr_two (H1.out.1.alloc _) HF.out | apply Fr.alloc | apply Fr.drew))).mono ?_
          rintro e w5 ⟨rfl, hf5⟩
          have HF2 := Lib.hid (show Fr (fun _ => False) (w1.alloc (.cells #[.int .i64 2, .int .i64 p1, .int .i64 p2] 24)) w5 from by refine fr_two ?_ hf5; repeat (first | exact Fr.refl _ _ | exact HF.out | apply Fr.alloc | apply Fr.drew))
          clear hf5 HF
          have HF := HF2
          clear HF2
          go_wp2_with fail
          refine behind HF.out ?_
          repeat (refine Mix.mix_read rfl rfl ?_; (first | go_big_quiet_step (fail) | quiet_step (fail)); refine wpQuiet_nil ?_)
          refine Mix.mix_does rfl ?_
          go_wp2_with fail
          refine behind (by repeat (first | exact HF.out | apply Fr.alloc | apply Fr.drew)) ?_
          repeat (refine Mix.mix_read rfl rfl ?_; (first | go_big_quiet_step (fail) | quiet_step (fail)); refine wpQuiet_nil ?_)
          refine Mix.mix_does rfl ?_
          go_wp2_with fail
          refine (HM.out _ _ (Blk.new _ _ _)).mono ?_
          rintro e w6 ⟨rfl, hf6⟩
          have HF2 := Lib.hid (show Fr (fun _ => False) (w1.alloc (.cells #[.int .i64 2, .int .i64 p1, .int .i64 p2] 24)) w6 from by refine fr_two ?_ hf6; repeat (first | exact Fr.refl _ _ | exact HF.out | apply Fr.alloc | apply Fr.drew))
          clear hf6 HF
          have HF := HF2
          clear HF2
          go_wp2_with fail
          refine behind HF.out ?_
          repeat (refine Mix.mix_read rfl rfl ?_; (first | go_big_quiet_step (fail) | quiet_step (fail)); refine wpQuiet_nil ?_)
          refine Mix.mix_does rfl ?_
          go_wp2_with fail
          refine (HNil.out _).mono ?_
          rintro e w7 ⟨rfl, hf7⟩
          have HF2 := Lib.hid (show Fr (fun _ => False) (w1.alloc (.cells #[.int .i64 2, .int .i64 p1, .int .i64 p2] 24)) w7 from by refine fr_two ?_ hf7; repeat (first | exact Fr.refl _ _ | exact HF.out | apply Fr.alloc | apply Fr.drew))
          clear hf7 HF
          have HF := HF2
          clear HF2
          go_wp2_with fail
          refine behind HF.out ?_
          repeat (refine Mix.mix_read rfl rfl ?_; (first | go_big_quiet_step (fail) | quiet_step (fail)); refine wpQuiet_nil ?_)
          refine Mix.mix_does rfl ?_
          go_wp2_with fail
          refine (pair_any _ _ _).mono ?_
          rintro e w8 ⟨rfl, rfl⟩
          go_wp2_with fail
          refine behind (by repeat (first | exact HF.out | apply Fr.alloc | apply Fr.drew)) ?_
          repeat (refine Mix.mix_read rfl rfl ?_; (first | go_big_quiet_step (fail) | quiet_step (fail)); refine wpQuiet_nil ?_)
          refine Mix.mix_does rfl ?_
          go_wp2_with fail
          refine (awake_any _ (HE.out.fr (fr_two H1.out.2 (fr_two (Fr.alloc1 _ _ _) (by repeat (first | exact HF.out | apply Fr.alloc | apply Fr.drew)))))).mono ?_
          rintro e w9 ⟨rfl, hf9⟩
          have HF2 := Lib.hid (show Fr (fun _ => False) (w1.alloc (.cells #[.int .i64 2, .int .i64 p1, .int .i64 p2] 24)) w9 from by refine fr_two ?_ hf9; repeat (first | exact Fr.refl _ _ | exact HF.out | apply Fr.alloc | apply Fr.drew))
          clear hf9 HF
          have HF := HF2
          clear HF2
          go_wp2_with fail
          refine behind HF.out ?_
          repeat (refine Mix.mix_read rfl rfl ?_; (first | go_big_quiet_step (fail) | quiet_step (fail)); refine wpQuiet_nil ?_)
          refine Mix.mix_nil ?_
          go_wp2
          go_ret
          exact ⟨rfl, fr_two H1.out.2 (fr_two (Fr.alloc1 _ _ _) HF.out)⟩
end Go.Proofs.YtadnbkjjdkgfiaaDoor
