/-
  The walk of CodeFields.
-/
import Derived.Test.YtadnbkjjdkgfiaaDoorFieldA
import Derived.Lib.QuietBelow
import Derived.BigQuiet
namespace Go.Viv
open Go.Lib
theorem check_one (x : Insn) : checkI [x] = if insOk x 0 then 0 else 1 := by
  unfold checkI allOk
  simp [allOk]
theorem form_cases (op : Int) : formB op = [114, 115] ∨ formB op = [] ∨ formB op = [114] ∨ formB op = [110] ∨ formB op = [114, 110] := by
  unfold formB
  repeat' split
  all_goals simp
end Go.Viv
namespace Go.Proofs.YtadnbkjjdkgfiaaDoor
open Go.RowKit Go.Viv
set_option maxRecDepth 100000 in
set_option maxHeartbeats 4000000 in
theorem fields_of (HT : TameC) (x fd n : Int) (w : World) (he : EnvC w) : Calls Tryd.prog 10 #[.int .i64 x, .int .i64 fd, .int .i64 n] w fun e w' => e = .returned (.bool true) ∧ Fr (fun _ => False) w w' := by
  have HE := Lib.hid he
  obtain ⟨q, hq, hq4⟩ := mask_nat fd 3 2 (by decide) (by decide)
  obtain ⟨N, hN, hN8⟩ := mask_nat n 255 8 (by decide) (by decide)
  have e4 : (2 : Nat) ^ 2 = 4 := by decide
  have e8 : (2 : Nat) ^ 8 = 256 := by decide
  rw [e4] at hq4
  rw [e8] at hN8
  obtain ⟨o, X, h1, h18, _, ht⟩ := HT x 4 4 2 w (by omega) (by omega) (by omega)
  have hti := tame_is o X h1 h18
  obtain ⟨T, hT⟩ : ∃ T, T = tameI o X 4 4 2 := ⟨_, rfl⟩
  rw [← hT] at ht hti
  obtain ⟨J, hJ⟩ : ∃ J, J = tamed T := ⟨_, rfl⟩
  rw [← hJ] at hti
  have HI := Lib.hid hti
  have HTT := Lib.hid ht
  have HJ := Lib.hid hJ
  clear e4 e8 he ht hti hT h1 h18 hJ
  go_enter Tryd.func10, Tryd.ntmps10
  go_wp2_with fail
  refine HTT.out.mono ?_
  rintro e w1 ⟨rfl, hf1⟩
  have H1 := Lib.hid hf1
  clear hf1
  go_upto_if 17 with fail
  go_cut [] (fun wx => Blk wx w1.heap.size 42 #[.int .i64 J.op, .int .i64 J.r, .int .i64 J.s, .int .i64 J.n] ∧ Fr (fun _ => False) w wx)
  case first =>
    have hJ := HJ.out
    unfold tamed at hJ
    by_cases h13 : T.op = 13
    · rw [if_pos h13] at hJ
      subst hJ
      clear HJ HI
      have h13' : (T.op == 13) = true := by simpa using h13
      clear h13
      go_wp2_with fail
      go_meet
      exact ⟨Blk.new _ _ _, H1.out.alloc _⟩
    · rw [if_neg h13] at hJ
      subst hJ
      clear HJ HI
      have h13' : (J.op == 13) = false := by simpa using h13
      clear h13
      go_wp2_with fail
      go_meet
      exact ⟨Blk.new _ _ _, H1.out.alloc _⟩
  case rest =>
    obtain ⟨hb, hf⟩ := hcut
    obtain ⟨wD, hwD⟩ : ∃ wD, wD = wc := ⟨wc, rfl⟩
    subst hwD
    obtain ⟨c0, c1, c2, c3⟩ := blk4 hb
    have HD := Lib.hid (And.intro hb hf)
    clear hb hf
    go_wp2_with fail
    refine (form_any _ _).mono ?_
    rintro e w2 ⟨rfl, hf2⟩
    obtain ⟨F, hF⟩ : ∃ F, F = formB J.op := ⟨_, rfl⟩
    have H2 := Lib.hid (And.intro (HD.out.1.fr hf2 (fun h => h)) (fr_two HD.out.2 hf2))
    clear hf2 HD c0 c1 c2 c3
    rw [← hF]
    have hFc := form_cases J.op
    rw [← hF] at hFc
    have HF := Lib.hid hF
    clear hF HJ
    have hFl : F.length ≤ 2 := by rcases hFc with rfl | rfl | rfl | rfl | rfl <;> decide
    go_wp2_with fail
    go_loopw [9, 10, 11] (fun a b t wr => ∃ k : Nat, k ≤ F.length ∧ a = .bool (decide ((115 : UInt8) ∈ F.take k)) ∧ b = .bool (decide ((110 : UInt8) ∈ F.take k)) ∧ t = .int .i64 k ∧ Blk wr w1.heap.size 42 #[.int .i64 J.op, .int .i64 J.r, .int .i64 J.s, .int .i64 J.n] ∧ Fr (fun _ => False) w wr) (fun _ _ t _ => F.length - (intOf t).toNat)
    case atStart => exact ⟨0, Nat.zero_le _, by simp, by simp, rfl, H2.out.1, H2.out.2⟩
    case round =>
      obtain ⟨k, hk, rfl, rfl, rfl, hb, hf⟩ := hrel
      by_cases hlt : k < F.length
      · have HB := Lib.hid (And.intro hb hf)
        clear hb hf HF HI
        have hko : k = 0 ∨ k = 1 := by omega
        rcases hFc with rfl | rfl | rfl | rfl | rfl
        all_goals
          rcases hko with rfl | rfl
          all_goals first
            | (exfalso; simp at hlt; done)
            | (go_upto_region 9 with fail
               refine wp_region_quiet_below (by kernel_rfl) (by kernel_rfl) ?_
               repeat (first | go_big_quiet_step (fail) | quiet_step (fail))
               refine wpQuiet_nil ?_
               intro wq hq
               obtain ⟨pq, rfl⟩ := hq
               go_wp2_with fail
               first
               | exact ⟨⟨1, by simp, rfl, rfl, rfl, HB.out.1.fr (fr_regrown (Fr.refl _ _) _ _) (fun h => h), fr_regrown HB.out.2 _ _⟩, by simp [intOf]⟩
               | exact ⟨⟨2, by simp, rfl, rfl, rfl, HB.out.1.fr (fr_regrown (Fr.refl _ _) _ _) (fun h => h), fr_regrown HB.out.2 _ _⟩, by simp [intOf]⟩)
      · obtain rfl : k = F.length := by omega
        rw [List.take_of_length_le (Nat.le_refl _)]
        obtain ⟨c0, c1, c2, c3⟩ := blk4 hb
        have f0 := hb.frozen 0
        have f1 := hb.frozen 1
        have f2 := hb.frozen 2
        have f3 := hb.frozen 3
        obtain ⟨sb, hsb⟩ : ∃ b, b = decide ((115 : UInt8) ∈ F) := ⟨_, rfl⟩
        obtain ⟨nb, hnb⟩ : ∃ b, b = decide ((110 : UInt8) ∈ F) := ⟨_, rfl⟩
        rw [← hsb, ← hnb]
        have HS := Lib.hid (And.intro hsb hnb)
        have HB := Lib.hid (And.intro hb hf)
        clear hb hf hsb hnb
        have hqq : q = 0 ∨ q = 1 ∨ q = 2 ∨ q = 3 := by omega
        have hg : w.heap.size ≤ w1.heap.size := H1.out.size
        have HC := Lib.hid (fun (I : Insn) (ck : Int) (hck : checkI [I] = ck) => show ∀ g W, Blk W g 42 #[.int .i64 I.op, .int .i64 I.r, .int .i64 I.s, .int .i64 I.n] → Calls Tryd.prog 31 #[.slice (some ⟨g, 0, none⟩) 1 1] W fun e w' => e = .returned (.int .i64 ck) ∧ Fr (fun _ => False) W w' from fun g W h => by
          rw [← hck]
          exact check_any [I] (some ⟨g, 0, none⟩) 1 W (RowC.blk h) (by simp) (by decide))
        rcases hqq with rfl | rfl | rfl | rfl
        · go_upto_region 24 with fail
          have hck : checkI [⟨J.op, 4 + N, J.s, J.n⟩] = 1 := by
            rw [check_one, HI.out.a0]; rfl
          have hbI := blk_to (cs' := #[.int .i64 (⟨J.op, 4 + N, J.s, J.n⟩ : Insn).op, .int .i64 (⟨J.op, 4 + N, J.s, J.n⟩ : Insn).r, .int .i64 (⟨J.op, 4 + N, J.s, J.n⟩ : Insn).s, .int .i64 (⟨J.op, 4 + N, J.s, J.n⟩ : Insn).n]) HB.out.1 1 (.int .i64 (4 + N)) rfl
          have hfI := HB.out.2.setCell (p := ⟨w1.heap.size, 1, none⟩) (.inr hg) (.int .i64 (4 + N))
          have hend := HC.out _ 1 hck
          obtain ⟨wE, hwE⟩ : ∃ wE, wE = wr.setCell ⟨w1.heap.size, 1, none⟩ (.int .i64 (4 + N)) := ⟨_, rfl⟩
          rw [← hwE] at hbI hfI
          rw [← hwE]
          obtain ⟨b0, b1, b2, b3⟩ := blk4 hbI
          have HC2 := Lib.hid hend
          have HW := Lib.hid hfI
          clear hck hbI hfI hend hwE HC HB HS f0 f1 f2 f3 c0 c1 c2 c3
          go_wp2_with fail
          refine (HC2.out _ _ (Blk.new _ _ _)).mono ?_
          rintro e w9 ⟨rfl, hf9⟩
          have H9 := Lib.hid (fr_two (HW.out.alloc _) hf9)
          clear hf9
          go_wp2_with fail
          refine (cawake_any _ (HE.out.fr H9.out)).mono ?_
          rintro e w11 ⟨rfl, hf11⟩
          have H11 := Lib.hid (fr_two H9.out hf11)
          clear hf11
          go_wp2
          go_ret
          exact ⟨rfl, H11.out⟩
        · by_cases h3 : (N : Int) + 1 ≤ 3
          · cases sb
            · go_upto_region 24 with fail
              have hck : checkI [⟨J.op, J.r, N + 1, J.n⟩] = 1 := by
                rw [check_one, HI.out.a1, ← HF.out, ← HS.out.1]; rfl
              have hbI := blk_to (cs' := #[.int .i64 (⟨J.op, J.r, N + 1, J.n⟩ : Insn).op, .int .i64 (⟨J.op, J.r, N + 1, J.n⟩ : Insn).r, .int .i64 (⟨J.op, J.r, N + 1, J.n⟩ : Insn).s, .int .i64 (⟨J.op, J.r, N + 1, J.n⟩ : Insn).n]) HB.out.1 2 (.int .i64 (N + 1)) rfl
              have hfI := HB.out.2.setCell (p := ⟨w1.heap.size, 2, none⟩) (.inr hg) (.int .i64 (N + 1))
              have hend := HC.out _ 1 hck
              obtain ⟨wE, hwE⟩ : ∃ wE, wE = wr.setCell ⟨w1.heap.size, 2, none⟩ (.int .i64 (N + 1)) := ⟨_, rfl⟩
              rw [← hwE] at hbI hfI
              rw [← hwE]
              obtain ⟨b0, b1, b2, b3⟩ := blk4 hbI
              have HC2 := Lib.hid hend
              have HW := Lib.hid hfI
              clear hck hbI hfI hend hwE HC HB HS f0 f1 f2 f3 c0 c1 c2 c3
              go_wp2_with fail
              refine (HC2.out _ _ (Blk.new _ _ _)).mono ?_
              rintro e w9 ⟨rfl, hf9⟩
              have H9 := Lib.hid (fr_two (HW.out.alloc _) hf9)
              clear hf9
              go_wp2_with fail
              refine (cawake_any _ (HE.out.fr H9.out)).mono ?_
              rintro e w11 ⟨rfl, hf11⟩
              have H11 := Lib.hid (fr_two H9.out hf11)
              clear hf11
              go_wp2
              go_ret
              exact ⟨rfl, H11.out⟩
            · go_upto_region 24 with fail
              have hck : checkI [⟨J.op, J.r, N + 1, J.n⟩] = 0 := by
                rw [check_one, HI.out.a1, ← HF.out, ← HS.out.1, decide_eq_true (by omega)]; rfl
              have hbI := blk_to (cs' := #[.int .i64 (⟨J.op, J.r, N + 1, J.n⟩ : Insn).op, .int .i64 (⟨J.op, J.r, N + 1, J.n⟩ : Insn).r, .int .i64 (⟨J.op, J.r, N + 1, J.n⟩ : Insn).s, .int .i64 (⟨J.op, J.r, N + 1, J.n⟩ : Insn).n]) HB.out.1 2 (.int .i64 (N + 1)) rfl
              have hfI := HB.out.2.setCell (p := ⟨w1.heap.size, 2, none⟩) (.inr hg) (.int .i64 (N + 1))
              have hend := HC.out _ 0 hck
              obtain ⟨wE, hwE⟩ : ∃ wE, wE = wr.setCell ⟨w1.heap.size, 2, none⟩ (.int .i64 (N + 1)) := ⟨_, rfl⟩
              rw [← hwE] at hbI hfI
              rw [← hwE]
              obtain ⟨b0, b1, b2, b3⟩ := blk4 hbI
              have HC2 := Lib.hid hend
              have HW := Lib.hid hfI
              clear hck hbI hfI hend hwE HC HB HS f0 f1 f2 f3 c0 c1 c2 c3
              go_wp2_with fail
              refine (HC2.out _ _ (Blk.new _ _ _)).mono ?_
              rintro e w9 ⟨rfl, hf9⟩
              have H9 := Lib.hid (fr_two (HW.out.alloc _) hf9)
              clear hf9
              go_wp2_with fail
              refine (cawake_any _ (HE.out.fr H9.out)).mono ?_
              rintro e w11 ⟨rfl, hf11⟩
              have H11 := Lib.hid (fr_two H9.out hf11)
              clear hf11
              go_wp2
              go_ret
              exact ⟨rfl, H11.out⟩
          · cases sb
            · go_upto_region 24 with fail
              have hck : checkI [⟨J.op, J.r, N + 1, J.n⟩] = 1 := by
                rw [check_one, HI.out.a1, ← HF.out, ← HS.out.1]; rfl
              have hbI := blk_to (cs' := #[.int .i64 (⟨J.op, J.r, N + 1, J.n⟩ : Insn).op, .int .i64 (⟨J.op, J.r, N + 1, J.n⟩ : Insn).r, .int .i64 (⟨J.op, J.r, N + 1, J.n⟩ : Insn).s, .int .i64 (⟨J.op, J.r, N + 1, J.n⟩ : Insn).n]) HB.out.1 2 (.int .i64 (N + 1)) rfl
              have hfI := HB.out.2.setCell (p := ⟨w1.heap.size, 2, none⟩) (.inr hg) (.int .i64 (N + 1))
              have hend := HC.out _ 1 hck
              obtain ⟨wE, hwE⟩ : ∃ wE, wE = wr.setCell ⟨w1.heap.size, 2, none⟩ (.int .i64 (N + 1)) := ⟨_, rfl⟩
              rw [← hwE] at hbI hfI
              rw [← hwE]
              obtain ⟨b0, b1, b2, b3⟩ := blk4 hbI
              have HC2 := Lib.hid hend
              have HW := Lib.hid hfI
              clear hck hbI hfI hend hwE HC HB HS f0 f1 f2 f3 c0 c1 c2 c3
              go_wp2_with fail
              refine (HC2.out _ _ (Blk.new _ _ _)).mono ?_
              rintro e w9 ⟨rfl, hf9⟩
              have H9 := Lib.hid (fr_two (HW.out.alloc _) hf9)
              clear hf9
              go_wp2_with fail
              refine (cawake_any _ (HE.out.fr H9.out)).mono ?_
              rintro e w11 ⟨rfl, hf11⟩
              have H11 := Lib.hid (fr_two H9.out hf11)
              clear hf11
              go_wp2
              go_ret
              exact ⟨rfl, H11.out⟩
            · go_upto_region 24 with fail
              have hck : checkI [⟨J.op, J.r, N + 1, J.n⟩] = 1 := by
                rw [check_one, HI.out.a1, ← HF.out, ← HS.out.1, decide_eq_false (by omega)]; rfl
              have hbI := blk_to (cs' := #[.int .i64 (⟨J.op, J.r, N + 1, J.n⟩ : Insn).op, .int .i64 (⟨J.op, J.r, N + 1, J.n⟩ : Insn).r, .int .i64 (⟨J.op, J.r, N + 1, J.n⟩ : Insn).s, .int .i64 (⟨J.op, J.r, N + 1, J.n⟩ : Insn).n]) HB.out.1 2 (.int .i64 (N + 1)) rfl
              have hfI := HB.out.2.setCell (p := ⟨w1.heap.size, 2, none⟩) (.inr hg) (.int .i64 (N + 1))
              have hend := HC.out _ 1 hck
              obtain ⟨wE, hwE⟩ : ∃ wE, wE = wr.setCell ⟨w1.heap.size, 2, none⟩ (.int .i64 (N + 1)) := ⟨_, rfl⟩
              rw [← hwE] at hbI hfI
              rw [← hwE]
              obtain ⟨b0, b1, b2, b3⟩ := blk4 hbI
              have HC2 := Lib.hid hend
              have HW := Lib.hid hfI
              clear hck hbI hfI hend hwE HC HB HS f0 f1 f2 f3 c0 c1 c2 c3
              go_wp2_with fail
              refine (HC2.out _ _ (Blk.new _ _ _)).mono ?_
              rintro e w9 ⟨rfl, hf9⟩
              have H9 := Lib.hid (fr_two (HW.out.alloc _) hf9)
              clear hf9
              go_wp2_with fail
              refine (cawake_any _ (HE.out.fr H9.out)).mono ?_
              rintro e w11 ⟨rfl, hf11⟩
              have H11 := Lib.hid (fr_two H9.out hf11)
              clear hf11
              go_wp2
              go_ret
              exact ⟨rfl, H11.out⟩
        · cases nb
          · go_upto_region 24 with fail
            have hck : checkI [⟨J.op, J.r, J.s, N + 1⟩] = 1 := by
              rw [check_one, HI.out.a2, ← HF.out, ← HS.out.2]; rfl
            have hbI := blk_to (cs' := #[.int .i64 (⟨J.op, J.r, J.s, N + 1⟩ : Insn).op, .int .i64 (⟨J.op, J.r, J.s, N + 1⟩ : Insn).r, .int .i64 (⟨J.op, J.r, J.s, N + 1⟩ : Insn).s, .int .i64 (⟨J.op, J.r, J.s, N + 1⟩ : Insn).n]) HB.out.1 3 (.int .i64 (N + 1)) rfl
            have hfI := HB.out.2.setCell (p := ⟨w1.heap.size, 3, none⟩) (.inr hg) (.int .i64 (N + 1))
            have hend := HC.out _ 1 hck
            obtain ⟨wE, hwE⟩ : ∃ wE, wE = wr.setCell ⟨w1.heap.size, 3, none⟩ (.int .i64 (N + 1)) := ⟨_, rfl⟩
            rw [← hwE] at hbI hfI
            rw [← hwE]
            obtain ⟨b0, b1, b2, b3⟩ := blk4 hbI
            have HC2 := Lib.hid hend
            have HW := Lib.hid hfI
            clear hck hbI hfI hend hwE HC HB HS f0 f1 f2 f3 c0 c1 c2 c3
            go_wp2_with fail
            refine (HC2.out _ _ (Blk.new _ _ _)).mono ?_
            rintro e w9 ⟨rfl, hf9⟩
            have H9 := Lib.hid (fr_two (HW.out.alloc _) hf9)
            clear hf9
            go_wp2_with fail
            refine (cawake_any _ (HE.out.fr H9.out)).mono ?_
            rintro e w11 ⟨rfl, hf11⟩
            have H11 := Lib.hid (fr_two H9.out hf11)
            clear hf11
            go_wp2
            go_ret
            exact ⟨rfl, H11.out⟩
          · go_upto_region 24 with fail
            have hck : checkI [⟨J.op, J.r, J.s, N + 1⟩] = 0 := by
              rw [check_one, HI.out.a2, ← HF.out, ← HS.out.2]; rfl
            have hbI := blk_to (cs' := #[.int .i64 (⟨J.op, J.r, J.s, N + 1⟩ : Insn).op, .int .i64 (⟨J.op, J.r, J.s, N + 1⟩ : Insn).r, .int .i64 (⟨J.op, J.r, J.s, N + 1⟩ : Insn).s, .int .i64 (⟨J.op, J.r, J.s, N + 1⟩ : Insn).n]) HB.out.1 3 (.int .i64 (N + 1)) rfl
            have hfI := HB.out.2.setCell (p := ⟨w1.heap.size, 3, none⟩) (.inr hg) (.int .i64 (N + 1))
            have hend := HC.out _ 0 hck
            obtain ⟨wE, hwE⟩ : ∃ wE, wE = wr.setCell ⟨w1.heap.size, 3, none⟩ (.int .i64 (N + 1)) := ⟨_, rfl⟩
            rw [← hwE] at hbI hfI
            rw [← hwE]
            obtain ⟨b0, b1, b2, b3⟩ := blk4 hbI
            have HC2 := Lib.hid hend
            have HW := Lib.hid hfI
            clear hck hbI hfI hend hwE HC HB HS f0 f1 f2 f3 c0 c1 c2 c3
            go_wp2_with fail
            refine (HC2.out _ _ (Blk.new _ _ _)).mono ?_
            rintro e w9 ⟨rfl, hf9⟩
            have H9 := Lib.hid (fr_two (HW.out.alloc _) hf9)
            clear hf9
            go_wp2_with fail
            refine (cawake_any _ (HE.out.fr H9.out)).mono ?_
            rintro e w11 ⟨rfl, hf11⟩
            have H11 := Lib.hid (fr_two H9.out hf11)
            clear hf11
            go_wp2
            go_ret
            exact ⟨rfl, H11.out⟩
        · go_upto_region 24 with fail
          have hck : checkI [⟨19 + N, J.r, J.s, J.n⟩] = 1 := by
            rw [check_one, HI.out.a3]; rfl
          have hbI := blk_to (cs' := #[.int .i64 (⟨19 + N, J.r, J.s, J.n⟩ : Insn).op, .int .i64 (⟨19 + N, J.r, J.s, J.n⟩ : Insn).r, .int .i64 (⟨19 + N, J.r, J.s, J.n⟩ : Insn).s, .int .i64 (⟨19 + N, J.r, J.s, J.n⟩ : Insn).n]) HB.out.1 0 (.int .i64 (19 + N)) rfl
          have hfI := HB.out.2.setCell (p := ⟨w1.heap.size, 0, none⟩) (.inr hg) (.int .i64 (19 + N))
          have hend := HC.out _ 1 hck
          obtain ⟨wE, hwE⟩ : ∃ wE, wE = wr.setCell ⟨w1.heap.size, 0, none⟩ (.int .i64 (19 + N)) := ⟨_, rfl⟩
          rw [← hwE] at hbI hfI
          rw [← hwE]
          obtain ⟨b0, b1, b2, b3⟩ := blk4 hbI
          have HC2 := Lib.hid hend
          have HW := Lib.hid hfI
          clear hck hbI hfI hend hwE HC HB HS f0 f1 f2 f3 c0 c1 c2 c3
          go_wp2_with fail
          refine (HC2.out _ _ (Blk.new _ _ _)).mono ?_
          rintro e w9 ⟨rfl, hf9⟩
          have H9 := Lib.hid (fr_two (HW.out.alloc _) hf9)
          clear hf9
          go_wp2_with fail
          refine (cawake_any _ (HE.out.fr H9.out)).mono ?_
          rintro e w11 ⟨rfl, hf11⟩
          have H11 := Lib.hid (fr_two H9.out hf11)
          clear hf11
          go_wp2
          go_ret
          exact ⟨rfl, H11.out⟩
end Go.Proofs.YtadnbkjjdkgfiaaDoor
