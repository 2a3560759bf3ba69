/-
  The walk of CodeSkips.
-/
import Derived.Test.YtadnbkjjdkgfiaaDoorSkipA
namespace Go.Proofs.YtadnbkjjdkgfiaaDoor
open Go.RowKit Go.Viv
attribute [local go_sem ↓] wp_appendV
theorem take_kill (r : Nat) : ((List.replicate (r + 12) kill).flatMap cellsI).take (12 * 4) = (List.replicate 12 kill).flatMap cellsI := by
  rw [Nat.add_comm r 12, ← List.replicate_append_replicate, List.flatMap_append]
  exact List.take_left' rfl
theorem cellsI_len (x : Insn) : (cellsI x).length = 4 := rfl
theorem ins_cells {w : World} {base g n cap k : Nat} {l : List Insn} (h : w.ownsRow base 42 4 (.slice (some ⟨g, 0, none⟩) n cap) n (l.flatMap cellsI)) (hk : k < l.length) :
    ∃ x : Insn, w.cell? ⟨g, k * 4, none⟩ = some (.int .i64 x.op) ∧ w.cell? ⟨g, k * 4 + 1, none⟩ = some (.int .i64 x.r) ∧ w.cell? ⟨g, k * 4 + 2, none⟩ = some (.int .i64 x.s) ∧ w.cell? ⟨g, k * 4 + 3, none⟩ = some (.int .i64 x.n) := by
  have hlen := h.1
  rw [chunk_len cellsI 4 cellsI_len] at hlen
  have hc : ∀ c, c < 4 → w.cell? ⟨g, k * 4 + c, none⟩ = (cellsI l[k])[c]? := fun c hc => by
    rw [h.cellAt _ (by omega), chunk_get cellsI 4 cellsI_len l k c hc, List.getElem?_eq_getElem hk]
    rfl
  exact ⟨l[k], hc 0 (by omega), hc 1 (by omega), hc 2 (by omega), hc 3 (by omega)⟩
theorem set_bad (wd : Int) (k : Nat) (hk : k < 12) : (((List.replicate 12 kill).set k ⟨13, 1, 0, wd⟩).flatMap cellsI).set (k * 4 + 3) (.int .i64 (-1)) = ((List.replicate 12 kill).set k ⟨13, 1, 0, -1⟩).flatMap cellsI := by
  rcases k with _ | _ | _ | _ | _ | _ | _ | _ | _ | _ | _ | _ | k
  all_goals first | omega | rfl
theorem own_none (w : World) (e : TypeId) (size : Nat) : (w.alloc (.cells #[] e)).ownsRow w.heap.size e size (.slice (some ⟨w.heap.size, 0, none⟩) 0 0) 0 [] :=
  ⟨by simp, .inr ⟨w.heap.size, 0, #[], rfl, Nat.le_refl _, Blk.new w e #[], Nat.le_refl _, Nat.zero_le _, by simp, by simp⟩⟩
theorem one_cellsI (l : List Insn) : ∀ u ∈ l.flatMap cellsI, u.oneCell' = true := by
  intro u hu
  obtain ⟨x, _, h⟩ := List.mem_flatMap.1 hu
  simp [cellsI] at h
  rcases h with rfl | rfl | rfl | rfl <;> rfl
set_option maxRecDepth 100000 in
set_option maxHeartbeats 4000000 in
theorem skips_any (n0 at0 wd0 : Int) (w : World) (he : EnvC w) :
    Calls Tryd.prog 9 #[.int .i64 n0, .int .i64 at0, .int .i64 wd0] w fun e w' => e = .returned (.bool true) ∧ Fr (fun _ => False) w w' := by
  have HE := Lib.hid he
  obtain ⟨r0, hr0, hr8⟩ := mask_nat n0 7 3 (by decide) (by decide)
  obtain ⟨r1, hr1, hr256⟩ := mask_nat at0 255 8 (by decide) (by decide)
  obtain ⟨wd, hr2, hr16⟩ := mask_nat wd0 15 4 (by decide) (by decide)
  have e8 : (2 : Nat) ^ 3 = 8 := by decide
  have e256 : (2 : Nat) ^ 8 = 256 := by decide
  have e16 : (2 : Nat) ^ 4 = 16 := by decide
  rw [e8] at hr8
  rw [e256] at hr256
  rw [e16] at hr16
  clear e8 e256 e16 he
  have hr8' : (r0 : Int) < 8 := by omega
  go_enter Tryd.func9, Tryd.ntmps9
  go_wp2_with fail
  go_loopw [7, 8] (fun s t wr => ∃ k : Nat, k ≤ r0 + 12 ∧ t = .int .i64 k ∧ wr.ownsRow w.heap.size 42 4 s k ((List.replicate k kill).flatMap cellsI) ∧ Fr (fun _ => False) w wr) (fun _ t _ => r0 + 12 - (intOf t).toNat)
  case atStart => exact ⟨0, by omega, rfl, ⟨rfl, .inl ⟨rfl, rfl⟩⟩, Fr.refl _ _⟩
  case round =>
    obtain ⟨k, hk, rfl, hown, hfr⟩ := hrel
    by_cases hlt : k < r0 + 12
    · have hlt' : (k : Int) < r0 + 12 := by omega
      obtain ⟨v2, w2, happ, hown2, hfr2⟩ := app_one (P := Tryd.prog) (T := 51) Tryd.underlying51 info42 rfl (by omega) (hown.alloc (.cells #[.int .i64 14, .int .i64 0, .int .i64 0, .int .i64 0] 42)) (Blk.new wr 42 #[.int .i64 14, .int .i64 0, .int .i64 0, .int .i64 0]) rfl (by simp [Value.oneCell']) (by unfold maxLen; omega) (by omega) (by have := hfr.size; simp; omega)
      have H2 := Lib.hid (And.intro hown2 (hfr2 w (hfr.alloc _) (Nat.le_refl _)))
      clear hown hfr hown2 hfr2
      go_wp2_with fail
      go_roundw
      case rel =>
        refine ⟨k + 1, by omega, by go_num, ?_, H2.out.2⟩
        have z := H2.out.1
        rw [show k + 1 = k + 1 from rfl, List.replicate_succ', List.flatMap_append]
        simpa using z
      case measure => simp [intOf]; omega
    · obtain rfl : k = r0 + 12 := by omega
      obtain ⟨g, cap, cur, rfl, hcap, hmx, hblk, hcs, htk⟩ := own_cases hown (by omega)
      obtain ⟨N, hN⟩ : ∃ N, N = r0 + 12 := ⟨_, rfl⟩
      have hck := check_any (List.replicate N kill) (some ⟨g, 0, none⟩) cap wr (by
        obtain ⟨A, cap', h1, _, _, h2⟩ := rowC_of_own hown
        injection h1 with h1
        rw [hN, h1]
        exact h2) (by rw [List.length_replicate, hN]; exact hcap) (by unfold maxLen at hmx; exact hmx)
      rw [List.length_replicate, check_kill] at hck
      obtain ⟨want, hwant⟩ : ∃ x : Int, (if 16 < N then 2 else 0) = x := ⟨_, rfl⟩
      rw [hwant] at hck
      have HCK := Lib.hid hck
      have HB := Lib.hid (And.intro hown (And.intro hfr (And.intro hcap (And.intro hblk hcs))))
      have HMX := Lib.hid hmx
      clear hck hown hfr hblk hcs htk hmx
      obtain ⟨wB, hwB⟩ : ∃ wB, wB = wr := ⟨wr, rfl⟩
      subst hwB
      go_upto_if 24 with fail
      go_cut [9] (fun t wx => t = .int .i64 want ∧ wx = wB)
      case first =>
        by_cases h16 : (16 : Int) < r0 + 12
        · go_wp2_with fail
          go_meet
          exact ⟨by rw [← hwant, if_pos (by omega)], rfl⟩
        · go_wp2_with fail
          go_meet
          exact ⟨by rw [← hwant, if_neg (by omega)], rfl⟩
      case rest =>
        obtain ⟨rfl, rfl⟩ := hcut
        subst hN
        clear hwant
        go_wp2_with fail
        refine HCK.out.mono ?_
        rintro e w6 ⟨rfl, hf6⟩
        obtain ⟨hown, hfr, hcap, hblk, hcs⟩ := HB.out
        have hfr6 := fr_two hfr hf6
        have own6 := own_take (m := 12) (own_fr hown hf6 (fun _ _ h => h)) (by omega)
        rw [take_kill] at own6
        obtain ⟨k, hk, hk12⟩ : ∃ k : Nat, k = r1 % 12 ∧ k < 12 := ⟨_, rfl, Nat.mod_lt _ (by decide)⟩
        have hrem : (r1 : Int) % 12 = (k : Int) := by omega
        have hk12' : (k : Int) < 12 := by omega
        have hg6 := own_in own6 g rfl
        obtain ⟨x6, q0, q1, q2, q3⟩ := ins_cells (k := k) own6 (by rw [List.length_replicate]; exact hk12)
        have f0 := own6.frozenAt (k * 4)
        have f1 := own6.frozenAt (k * 4 + 1)
        have f2 := own6.frozenAt (k * 4 + 2)
        have f3 := own6.frozenAt (k * 4 + 3)
        have H6 := Lib.hid (And.intro own6 hfr6)
        clear HB HCK hown hfr hblk hcs hf6 hfr6 own6
        have HR := Lib.hid hrem
        clear hk hrem
        go_upto_region 14 with fail
        rw [HR.out]
        go_upto_if 45 with fail
        go_cut [9] (fun t wx => t = .int .i64 (checkI ((List.replicate 12 kill).set k ⟨13, 1, 0, wd⟩)) ∧ wx.ownsRow w.heap.size 42 4 (.slice (some ⟨g, 0, none⟩) 12 cap) 12 (((List.replicate 12 kill).set k ⟨13, 1, 0, wd⟩).flatMap cellsI) ∧ Fr (fun _ => False) w wx)
        case first =>
          have own7 := own_set_row cellsI_len (l := List.replicate 12 kill) H6.out.1 (k := k) (by rw [List.length_replicate]; exact hk12) ⟨13, 1, 0, wd⟩
          have fr7 : Fr (fun _ => False) w (setCells w6 g (k * 4) (cellsI ⟨13, 1, 0, wd⟩)) := H6.out.2.trans (fr_setCells _ _ _) (fun i hi => .inr (by subst hi; exact (H6.out.1.lt i rfl).1))
          have H7 := Lib.hid (And.intro own7 fr7)
          clear own7 fr7 q0 q1 q2 q3 f0 f1 f2 f3
          by_cases h16 : (12 : Int) < k + 1 + wd
          · go_wp2_with fail
            go_meet
            exact ⟨by rw [check_set _ _ hk12, skip_ok, decide_eq_false (by omega)]; rfl, H7.out.1, H7.out.2⟩
          · go_wp2_with fail
            go_meet
            exact ⟨by rw [check_set _ _ hk12, skip_ok, decide_eq_true (by omega)]; rfl, H7.out.1, H7.out.2⟩
        case rest =>
          obtain ⟨rfl, hown7, hfr7⟩ := hcut
          obtain ⟨wD, hwD⟩ : ∃ wD, wD = wc := ⟨wc, rfl⟩
          subst hwD
          obtain ⟨L1, hL1⟩ : ∃ L1, L1 = (List.replicate 12 kill).set k ⟨13, 1, 0, wd⟩ := ⟨_, rfl⟩
          rw [← hL1] at hown7
          rw [← hL1]
          have hl1 : L1.length = 12 := by rw [hL1, List.length_set, List.length_replicate]
          have row7 : RowC wD (some ⟨g, 0, none⟩) (L1.flatMap cellsI) := by
            obtain ⟨A, cap', h1, _, _, h2⟩ := rowC_of_own hown7
            injection h1 with h1
            rw [h1]
            exact h2
          have HD := Lib.hid (And.intro hown7 (And.intro hfr7 row7))
          clear hown7 hfr7 row7 H6 q0 q1 q2 q3 f0 f1 f2 f3 hg6
          obtain ⟨v2, w2, happ, hown2, hfr2⟩ := app_row (P := Tryd.prog) (T := 51) (E := 42) Tryd.underlying51 info42 rfl (by omega) (own_none wD 42 4) (b := g) (o := 0) (m := 12) (c := cap) (HD.out.2.2.fr ((Fr.refl _ wD).alloc _)) (by rw [chunk_len cellsI 4 cellsI_len, hl1]) (one_cellsI L1) (by unfold maxLen; omega) (by omega) (by simp)
          have hfr2' := hfr2 wD ((Fr.refl _ wD).alloc _) (Nat.le_refl _)
          rw [List.nil_append, Nat.zero_add] at hown2
          obtain ⟨g2, cap2, cur2, rfl, hcap2, hmx2, _, _, _⟩ := own_cases hown2 (by omega)
          obtain ⟨x8, q0, q1, q2, q3⟩ := ins_cells (k := k) hown2 (by rw [hl1]; exact hk12)
          have f3 := hown2.frozenAt (k * 4 + 3)
          have hst := (hown2.stored (k * 4 + 3) (.int .i64 (-1))).1
          rw [hL1, set_bad _ _ hk12] at hst
          have hfr8 : Fr (fun _ => False) wD (w2.setCell ⟨g2, k * 4 + 3, none⟩ (.int .i64 (-1))) := hfr2'.setCell (.inr (hown2.lt g2 rfl).1) _
          have H8 := Lib.hid (And.intro hst hfr8)
          clear hfr2 hfr2' hown2 hst hfr8
          go_upto_region 20 with fail
          obtain ⟨wE, hwE⟩ : ∃ wE, wE = w2.setCell ⟨g2, k * 4 + 3, none⟩ (.int .i64 (-1)) := ⟨_, rfl⟩
          rw [← hwE] at H8
          rw [← hwE]
          have hC1 : ∀ W, Fr (fun _ => False) wE W → Calls Tryd.prog 31 #[.slice (some ⟨g, 0, none⟩) 12 cap] W fun e w' => e = .returned (.int .i64 (checkI L1)) ∧ Fr (fun _ => False) W w' := fun W hW => by
            have := check_any L1 (some ⟨g, 0, none⟩) cap W ((HD.out.2.2.fr H8.out.2).fr hW) (by omega) (by have := HMX.out; unfold maxLen at this; exact this)
            rw [hl1] at this
            exact this
          have hC2 : ∀ W, Fr (fun _ => False) wE W → Calls Tryd.prog 31 #[.slice (some ⟨g2, 0, none⟩) 12 cap2] W fun e w' => e = .returned (.int .i64 1) ∧ Fr (fun _ => False) W w' := fun W hW => by
            have := check_any ((List.replicate 12 kill).set k ⟨13, 1, 0, -1⟩) (some ⟨g2, 0, none⟩) cap2 W (by
              obtain ⟨A, cap', h1, _, _, h2⟩ := rowC_of_own H8.out.1
              injection h1 with h1
              rw [h1]
              exact h2.fr hW) (by rw [List.length_set, List.length_replicate]; exact hcap2) (by unfold maxLen at hmx2; omega)
            rw [check_set _ _ hk12, skip_bad, List.length_set, List.length_replicate] at this
            exact this
          have HC1 := Lib.hid hC1
          have HC2 := Lib.hid hC2
          obtain ⟨c1, hc1⟩ : ∃ c1, c1 = checkI L1 := ⟨_, rfl⟩
          rw [← hc1] at HC1
          rw [← hc1]
          have HEE := Lib.hid (HE.out.fr (fr_two HD.out.2.1 H8.out.2))
          have HF := Lib.hid (fr_two HD.out.2.1 H8.out.2)
          clear hC1 hC2 hc1 hwE happ q0 q1 q2 q3 f3 hL1 hl1 hcap2 hmx2 HR
          go_wp2_with fail
          refine (HC1.out _ (Fr.refl _ _)).mono ?_
          rintro e w9 ⟨rfl, hf9⟩
          have H9 := Lib.hid hf9
          clear hf9
          go_wp2_with fail
          refine (HC2.out _ H9.out).mono ?_
          rintro e w10 ⟨rfl, hf10⟩
          have H10 := Lib.hid (fr_two H9.out hf10)
          clear hf10
          go_wp2_with fail
          refine (cawake_any _ (HEE.out.fr H10.out)).mono ?_
          rintro e w11 ⟨rfl, hf11⟩
          have H11 := Lib.hid (fr_two H10.out hf11)
          clear hf11
          go_wp2
          go_ret
          exact ⟨rfl, fr_two HF.out H11.out⟩
end Go.Proofs.YtadnbkjjdkgfiaaDoor
