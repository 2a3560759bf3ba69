/-
  An instruction made of a number: the walk of Tame.
-/
import Derived.Test.YtadnbkjjdkgfiaaDoorTameD
namespace Go.Proofs.YtadnbkjjdkgfiaaDoor
open Go.RowKit Go.Viv
set_option maxRecDepth 100000 in
set_option maxHeartbeats 4000000 in
theorem tame_any (x : Int) (c m r : Nat) (hc : 1 ≤ c ∧ c < 1000) (hm : 1 ≤ m ∧ m < 1000) (hr : 1 ≤ r ∧ r < 1000) (w : World) :
    ∃ o X : Nat, 1 ≤ o ∧ o ≤ 18 ∧ X < 16777216 ∧ Calls Tryd.prog 25 #[.int .i64 x, .int .i64 c, .int .i64 m, .int .i64 r] w fun e w' => e = .returned (tameI o X c m r).agg ∧ Fr (fun _ => False) w w' := by
  obtain ⟨X, hX, hlt⟩ := mask_nat x 16777215 24 (by decide) (by decide)
  have e24 : (2 : Nat) ^ 24 = 16777216 := by decide
  rw [e24] at hlt
  obtain ⟨a5, ha5⟩ : ∃ a : Nat, bits .and .i64 ((X : Int) / 32) 3 = ((a : Nat) : Int) ∧ a = X / 32 % 4 := ⟨_, and_nat (X / 32) 3 2 (by decide) (by decide), rfl⟩
  obtain ⟨a7, ha7⟩ : ∃ a : Nat, bits .and .i64 ((X : Int) / 128) 3 = ((a : Nat) : Int) ∧ a = X / 128 % 4 := ⟨_, and_nat (X / 128) 3 2 (by decide) (by decide), rfl⟩
  obtain ⟨a9, ha9⟩ : ∃ a : Nat, bits .and .i64 ((X : Int) / 512) 31 = ((a : Nat) : Int) ∧ a = X / 512 % 32 := ⟨_, and_nat (X / 512) 31 5 (by decide) (by decide), rfl⟩
  obtain ⟨a1, ha1⟩ : ∃ a : Nat, bits .and .i64 ((X : Int) / 512) 1 = ((a : Nat) : Int) ∧ a = X / 512 % 2 := ⟨_, and_nat (X / 512) 1 1 (by decide) (by decide), rfl⟩
  obtain ⟨ha5, hb5⟩ := ha5
  obtain ⟨ha7, hb7⟩ := ha7
  obtain ⟨ha9, hb9⟩ := ha9
  obtain ⟨ha1, hb1⟩ := ha1
  have hl9 : a9 < 32 := by omega
  have HA := Lib.hid (And.intro hb5 (And.intro hb7 (And.intro hb9 hb1)))
  clear hb5 hb7 hb9 hb1
  obtain ⟨o, ho, h1, h18⟩ : ∃ o : Nat, (X : Int) % 18 + 1 = o ∧ 1 ≤ o ∧ o ≤ 18 := ⟨X % 18 + 1, by omega, by omega, by omega⟩
  refine ⟨o, X, h1, h18, hlt, ?_⟩
  have HO := Lib.hid ho
  clear e24 ho
  go_enter Tryd.func25, Tryd.ntmps25
  go_wp2_with fail
  rw [HO.out]
  refine (form_any o _).mono ?_
  rintro e w1 ⟨rfl, hf1⟩
  obtain ⟨F, hF⟩ : ∃ F, F = formB o := ⟨_, rfl⟩
  rw [← hF]
  have hFl : F.length ≤ 2 := by
    rw [hF]
    unfold formB
    repeat' split
    all_goals decide
  have HH := Lib.hid (And.intro (((Blk.new w 42 #[.int .i64 0, .int .i64 0, .int .i64 0, .int .i64 0]).alloc _).fr hf1 (fun h => h)) (And.intro ((Blk.new _ 42 _).fr hf1 (fun h => h)) (fr_two (((Fr.refl _ w).alloc _).alloc _) hf1)))
  clear hf1
  go_wp2_with fail
  go_loopw [11, 12] (fun t _ wr => ∃ k : Nat, k ≤ F.length ∧ t = .int .i64 k ∧ Blk wr w.heap.size 42 #[.int .i64 0, .int .i64 0, .int .i64 0, .int .i64 0] ∧ Blk wr (w.heap.size + 1) 42 (cellsI (partI o X c m r k)).toArray ∧ Fr (fun _ => False) w wr) (fun t _ _ => F.length - (intOf t).toNat)
  case atStart => exact ⟨0, Nat.zero_le _, rfl, HH.out.1, by simpa [partI] using HH.out.2.1, HH.out.2.2⟩
  case round =>
    obtain ⟨k, hk, rfl, hb0, hb1, hfr⟩ := hrel
    obtain ⟨z0, z1, z2, z3⟩ := blk4 hb0
    have zf0 := hb0.frozen 0
    have zf1 := hb0.frozen 1
    have zf2 := hb0.frozen 2
    have zf3 := hb0.frozen 3
    by_cases hlt : k < F.length
    · have hlt' : (k : Int) < F.length := by omega
      have hko : k = 0 ∨ k = 1 := by omega
      have hoo : o = 1 ∨ o = 2 ∨ o = 3 ∨ o = 4 ∨ o = 5 ∨ o = 6 ∨ o = 7 ∨ o = 8 ∨ o = 9 ∨ o = 10 ∨ o = 11 ∨ o = 12 ∨ o = 13 ∨ o = 14 ∨ o = 15 ∨ o = 16 ∨ o = 17 ∨ o = 18 := by omega
      rcases hoo with rfl | rfl | rfl | rfl | rfl | rfl | rfl | rfl | rfl | rfl | rfl | rfl | rfl | rfl | rfl | rfl | rfl | rfl
      all_goals
        rcases hko with rfl | rfl
        all_goals
          simp [formB] at hF
          subst hF
          first
          | (exfalso; simp at hlt; done)
          | (simp [partI, formB] at hb1
             obtain ⟨c0, c1, c2, c3⟩ := blk4 hb1
             have f1 := hb1.frozen 1
             have f2 := hb1.frozen 2
             have f3 := hb1.frozen 3
             have HB := Lib.hid (And.intro hb0 (And.intro hb1 hfr))
             clear hb0 hb1 hfr
             go_wp2_with fail
             first
             | (refine ⟨⟨1, by simp, rfl, HB.out.1.far (by simp) _, ?_, HB.out.2.2.setCell (.inr (by simp)) _⟩, by simp [intOf]⟩
                first | refine blk_to HB.out.2.1 1 _ ?_ | refine blk_to HB.out.2.1 2 _ ?_ | refine blk_to HB.out.2.1 3 _ ?_
                simp [partI, formB, nI]
                first | (obtain ⟨e5, e7, e9, e1⟩ := HA.out; omega) | (rw [show max (c : Int) 1 = c from by omega]) | (rw [show max (r : Int) 1 = r from by omega]) | (rw [show max (m : Int) 1 = m from by omega]))
             | (refine ⟨⟨2, by simp, rfl, HB.out.1.far (by simp) _, ?_, HB.out.2.2.setCell (.inr (by simp)) _⟩, by simp [intOf]⟩
                first | refine blk_to HB.out.2.1 1 _ ?_ | refine blk_to HB.out.2.1 2 _ ?_ | refine blk_to HB.out.2.1 3 _ ?_
                simp [partI, formB, nI]
                first | (obtain ⟨e5, e7, e9, e1⟩ := HA.out; omega) | (rw [show max (c : Int) 1 = c from by omega]) | (rw [show max (r : Int) 1 = r from by omega]) | (rw [show max (m : Int) 1 = m from by omega])))
    · obtain rfl : k = F.length := by omega
      have hp : partI o X c m r F.length = tameI o X c m r := by
        unfold tameI partI
        rw [← hF, List.take_of_length_le (Nat.le_refl _), List.take_of_length_le hFl]
      rw [hp] at hb1
      obtain ⟨T, hT⟩ : ∃ T, T = tameI o X c m r := ⟨_, rfl⟩
      rw [← hT] at hb1
      obtain ⟨c0, c1, c2, c3⟩ := blk4 (show Blk wr (w.heap.size + 1) 42 #[_, _, _, _] from hb1)
      have HB := Lib.hid (And.intro hb0 (And.intro hb1 hfr))
      clear hb0 hb1 hfr hp
      go_wp2_with fail
      obtain ⟨b0, b1, fr⟩ := HB.out
      have b4 := (((b0.set_ 0 (.int .i64 (tameI o X c m r).op)).set_ 1 (.int .i64 (tameI o X c m r).r)).set_ 2 (.int .i64 (tameI o X c m r).s)).set_ 3 (.int .i64 (tameI o X c m r).n)
      obtain ⟨d0, d1, d2, d3⟩ := blk4 (show Blk _ w.heap.size 42 #[.int .i64 (tameI o X c m r).op, .int .i64 (tameI o X c m r).r, .int .i64 (tameI o X c m r).s, .int .i64 (tameI o X c m r).n] from b4)
      refine bodyPost_ret (v := (tameI o X c m r).agg) (by simp [results, Tryd.results25, go_sem, d0, d1, d2, d3]) rfl ⟨rfl, ?_⟩
      exact (((fr.setCell (p := ⟨w.heap.size, 0, none⟩) (.inr (Nat.le_refl _)) _).setCell (p := ⟨w.heap.size, 1, none⟩) (.inr (Nat.le_refl _)) _).setCell (p := ⟨w.heap.size, 2, none⟩) (.inr (Nat.le_refl _)) _).setCell (p := ⟨w.heap.size, 3, none⟩) (.inr (Nat.le_refl _)) _
end Go.Proofs.YtadnbkjjdkgfiaaDoor
