/-
  PlanBounds' walk.
-/
import Derived.Test.YtibailpbjdfjfaaDoorPlnJ
import Derived.Test.YtibailpbjdfjfaaDoorMasks
namespace Go.Viv
open Go.Lib Go.RowKit
def readsN (n : Nat) : List Coln := (List.range n).map fun (i : Nat) => ⟨1, (i : Int)⟩
theorem readsN_snoc (n : Nat) : readsN (n + 1) = readsN n ++ [⟨1, (n : Int)⟩] := by simp [readsN, List.range_succ]
theorem readsN_len (n : Nat) : (readsN n).length = n := by simp [readsN]
theorem readsN_may (X : Nat) (h : X < 8) : planE 64 (readsN (X + 13)) = if 16 < X + 13 then 2 else 0 := by
  have : X = 0 ∨ X = 1 ∨ X = 2 ∨ X = 3 ∨ X = 4 ∨ X = 5 ∨ X = 6 ∨ X = 7 := by omega
  rcases this with rfl | rfl | rfl | rfl | rfl | rfl | rfl | rfl <;> decide +kernel
theorem xor_one (c : Nat) (h : c < 64) : ∃ d : Nat, bits .xor .i64 (c : Int) 1 = (d : Int) ∧ d < 64 ∧ d ≠ c := by
  have hall : ((List.range 64).all fun c => (bits .xor .i64 (c : Int) 1 == ((c ^^^ 1 : Nat) : Int)) && decide (c ^^^ 1 < 64) && decide (c ^^^ 1 ≠ c)) = true := by kernel_rfl
  have := List.all_eq_true.1 hall c (by simp [h])
  simp only [Bool.and_eq_true, beq_iff_eq, decide_eq_true_eq] at this
  exact ⟨c ^^^ 1, this.1.1, this.1.2, this.2⟩
theorem bound_e (c : Nat) : planE c [⟨2, (c : Int)⟩] = 11 := by
  have h : colsE c [] [⟨2, (c : Int)⟩] = 11 := by
    rw [colsE_no (by rw [colE_11 (by decide) (by decide) (.inr (Int.le_refl _))]; decide)]
    exact colE_11 (by decide) (by decide) (.inr (Int.le_refl _))
  rw [planE_fault (by simp) (by rw [h]; decide), h]
theorem bound_f (c : Nat) : planE ((c + 1 : Nat) : Int) [⟨2, (c : Int)⟩] = 0 := by
  have h : colsE ((c + 1 : Nat) : Int) [] [⟨2, (c : Int)⟩] = 0 := by
    rw [colsE_yes (by rw [colE_more (by decide) (by decide) (by omega) (by omega)]; rfl)]
    rfl
  rw [planE_asks (by simp) h]
  rfl
theorem bound_g (c d : Nat) (hc : c < 64) (hd : d < 64) (h : d ≠ c) : planE 64 [⟨4, (c : Int)⟩, ⟨3, (d : Int)⟩] = 1 := by
  have h1 : colsE 64 [] [⟨4, (c : Int)⟩, ⟨3, (d : Int)⟩] = 0 := by
    rw [colsE_yes (by rw [colE_more (by decide) (by decide) (by omega) (by omega)]; rfl), colsE_yes]
    · rfl
    · rw [colE_more (by decide) (by decide) (by omega) (by omega), if_neg]
      simp
      omega
  rw [planE_asks (by simp) h1]
  rfl
end Go.Viv
namespace Go.Proofs.YtibailpbjdfjfaaDoor
open Go.RowKit Go.Viv
attribute [local go_sem ↓] wp_appendV
set_option maxRecDepth 100000 in
set_option maxHeartbeats 2000000 in
theorem bounds_any (n c : Int) (w : World) (he : EnvP w) : Calls Tryd.prog 6 #[.int .i64 n, .int .i64 c] w fun e w' => e = .returned (.bool true) ∧ Fr (fun _ => False) w w' := by
  obtain ⟨X, hX, hlt⟩ := mask_nat n 7 3 (by decide) (by decide)
  obtain ⟨C, hC, hltc⟩ := mask_nat c 63 6 (by decide) (by decide)
  have e3 : (2 : Nat) ^ 3 = 8 := by decide
  have e6 : (2 : Nat) ^ 6 = 64 := by decide
  rw [e3] at hlt
  rw [e6] at hltc
  obtain ⟨D, hD, hltd, hdc⟩ := xor_one C hltc
  have HE := Lib.hid he
  have HK1 := Lib.hid (fun W g D0 dc (h : Blk W g 43 #[.int .i64 2, .int .i64 (C : Int)]) => show Calls Tryd.prog 16 #[.slice D0 C dc, .slice (some ⟨g, 0, none⟩) 1 1] W fun e w' => e = .returned (.int .i64 11) ∧ Fr (fun _ => False) W w' from by
    have := planCheck_any C D0 dc [⟨2, (C : Int)⟩] (some ⟨g, 0, none⟩) 1 W (RowC.blk h) (by simp) (by decide) (by omega)
    rw [bound_e] at this; exact this)
  have HK2 := Lib.hid (fun W g D0 dc (h : Blk W g 43 #[.int .i64 2, .int .i64 (C : Int)]) => show Calls Tryd.prog 16 #[.slice D0 (C + 1) dc, .slice (some ⟨g, 0, none⟩) 1 1] W fun e w' => e = .returned (.int .i64 0) ∧ Fr (fun _ => False) W w' from by
    have := planCheck_any (C + 1) D0 dc [⟨2, (C : Int)⟩] (some ⟨g, 0, none⟩) 1 W (RowC.blk h) (by simp) (by decide) (by omega)
    rw [bound_f] at this; exact this)
  have HK3 := Lib.hid (fun W g D0 dc (h : Blk W g 43 #[.int .i64 4, .int .i64 (C : Int), .int .i64 3, .int .i64 (D : Int)]) => show Calls Tryd.prog 16 #[.slice D0 64 dc, .slice (some ⟨g, 0, none⟩) 2 2] W fun e w' => e = .returned (.int .i64 1) ∧ Fr (fun _ => False) W w' from by
    have := planCheck_any 64 D0 dc [⟨4, (C : Int)⟩, ⟨3, (D : Int)⟩] (some ⟨g, 0, none⟩) 2 W (RowC.blk h) (by simp) (by decide) (by omega)
    rw [show ((64 : Nat) : Int) = 64 from rfl, bound_g C D hltc hltd hdc] at this; exact this)
  have HK4 := Lib.hid (fun W A cap D0 dc (h : RowC W A ((readsN (X + 13)).flatMap cellsK)) (h1 : X + 13 ≤ cap) (h2 : cap ≤ maxLen) => show Calls Tryd.prog 16 #[.slice D0 64 dc, .slice A (X + 13) cap] W fun e w' => e = .returned (.int .i64 (if 16 < X + 13 then 2 else 0)) ∧ Fr (fun _ => False) W w' from by
    have := planCheck_any 64 D0 dc (readsN (X + 13)) A cap W h (by rw [readsN_len]; exact h1) (by unfold maxLen at h2; exact h2) (by omega)
    rw [show ((64 : Nat) : Int) = 64 from rfl, readsN_may X hlt, readsN_len] at this; exact this)
  clear he e3 e6 hdc
  go_enter Tryd.func6, Tryd.ntmps6
  go_wp2_with fail
  go_loopw [5, 6] (fun v t wr => ∃ k : Nat, k ≤ X + 13 ∧ t = .int .i64 k ∧ wr.ownsRow w.heap.size 43 2 v k ((readsN k).flatMap cellsK) ∧ Fr (fun _ => False) w wr) (fun _ t _ => X + 13 - (intOf t).toNat)
  case atStart => exact ⟨0, by omega, rfl, World.ownsRow_nil _ _ _ _, Fr.refl _ _⟩
  case round =>
    obtain ⟨k, hk, rfl, hown, hfr⟩ := hrel
    by_cases hlt2 : k < X + 13
    · have hlt3 : (k : Int) < (X : Int) + 13 := by omega
      obtain ⟨v2, w3, happ, hown3, hfr3⟩ := app_one (P := Tryd.prog) (T := 29) Tryd.underlying29 infoCol rfl (by omega) (hown.alloc (.cells #[.int .i64 1, .int .i64 (k : Int)] 43)) (Blk.new wr 43 #[.int .i64 1, .int .i64 (k : Int)]) rfl (by simp [Value.oneCell']) (by unfold maxLen; omega) (by omega) (by have := hfr.size; simp; omega)
      have H3 := Lib.hid (And.intro hown3 (hfr3 w (hfr.alloc _) (Nat.le_refl _)))
      clear hown3 hfr3 hown hfr
      go_wp2
      go_roundw
      case rel => exact ⟨k + 1, by omega, by go_num, by rw [readsN_snoc, flatK_snoc]; exact H3.out.1, H3.out.2⟩
      case measure => simp [intOf]; omega
    · obtain rfl : k = X + 13 := by omega
      obtain ⟨A2, cap2, rfl, h1, h2, h3⟩ := rowC_of_own hown
      have HF := Lib.hid (And.intro h1 (And.intro h2 (And.intro h3 hfr)))
      clear hown hfr h1 h2 h3
      obtain ⟨wB, hwB⟩ : ∃ wB, wB = wr := ⟨wr, rfl⟩
      subst hwB
      obtain ⟨w2, hmk, hf2⟩ := make_desc 64 (by decide) wB
      have hmk2 : (Instr.makeSlice 40 (.int .i64 64) (.int .i64 64)).run Tryd.prog wB = .ok (.slice (some ⟨wB.heap.size, 0, none⟩) 64 64) w2 := hmk
      have H2 := Lib.hid hf2
      clear hmk hf2
      have hcC : (C : Int) ≤ 64 := by omega
      have hcC1 : (C : Int) + 1 ≤ 64 := by omega
      by_cases h16 : 16 < X + 13
      all_goals
        have HK := Lib.hid (fun W A cap D0 dc h h1 h2 => HK4.out W A cap D0 dc h h1 h2)
        first | rw [if_pos h16] at HK | rw [if_neg h16] at HK
        have h16' : decide ((16 : Int) < (X : Int) + 13) = decide (16 < X + 13) := by rw [decide_eq_decide]; omega
        first | rw [decide_eq_true h16] at h16' | rw [decide_eq_false h16] at h16'
        clear h16
        go_wp2_with fail
        refine (HK1.out _ _ _ _ (Blk.new _ _ _)).mono ?_
        rintro e w4 ⟨rfl, hf4⟩
        have H4 := Lib.hid (fr_two (H2.out.alloc _) hf4)
        clear hf4 hmk2
        go_wp2_with fail
        refine (HK2.out _ _ _ _ (Blk.new _ _ _)).mono ?_
        rintro e w5 ⟨rfl, hf5⟩
        have H5 := Lib.hid (fr_two (H4.out.alloc _) hf5)
        clear hf5
        go_wp2_with fail
        refine (HK3.out _ _ _ _ (Blk.new _ _ _)).mono ?_
        rintro e w6 ⟨rfl, hf6⟩
        have H6 := Lib.hid (fr_two (H5.out.alloc _) hf6)
        clear hf6
        go_wp2_with fail
        refine (HK.out _ _ _ _ _ (HF.out.2.2.1.fr H6.out) HF.out.1 HF.out.2.1).mono ?_
        rintro e w7 ⟨rfl, hf7⟩
        have H7 := Lib.hid (fr_two HF.out.2.2.2 (fr_two H6.out hf7))
        clear hf7
        go_wp2_with fail
        refine (awake_any _ (HE.out.fr H7.out)).mono ?_
        rintro e w8 ⟨rfl, hf8⟩
        have H8 := Lib.hid (fr_two H7.out hf8)
        clear hf8
        go_wp2
        go_ret
        exact ⟨rfl, H8.out⟩
end Go.Proofs.YtibailpbjdfjfaaDoor
