/-
  The walk of the reference's InsOk.
-/
import Derived.Test.YtadnbkjjdkgfiaaDoorChkB
namespace Go.Proofs.YtadnbkjjdkgfiaaDoor
open Go.RowKit Go.Viv
set_option maxRecDepth 100000 in
set_option maxHeartbeats 4000000 in
theorem insok_any (op r s n : Int) (w : World) : Calls Tryd.prog 34 #[Insn.agg ⟨op, r, s, n⟩] w fun e w' => e = .returned (.bool (insOkP ⟨op, r, s, n⟩)) ∧ Fr (fun _ => False) w w' := by
  have HO := Lib.hid (insOkP_out ⟨op, r, s, n⟩)
  have HN := Lib.hid (insOkP_in ⟨op, r, s, n⟩)
  obtain ⟨R, hR⟩ : ∃ b, insOkP ⟨op, r, s, n⟩ = b := ⟨_, rfl⟩
  rw [hR] at HO HN
  rw [hR]
  clear hR
  have HT := Lib.hid (wants_any op)
  dsimp only at HN
  have hbne : ∀ c : Int, (!(c == 2)) = (c != 2) := fun _ => rfl
  rw [hbne] at HN
  clear hbne
  obtain ⟨a, ha⟩ : ∃ a, wantR op = a := ⟨_, rfl⟩
  obtain ⟨b, hb⟩ : ∃ a, wantS op = a := ⟨_, rfl⟩
  obtain ⟨c, hc⟩ : ∃ a, wantN op = a := ⟨_, rfl⟩
  rw [ha, hb, hc] at HT HN
  clear ha hb hc
  go_enter Tryd.func34, Tryd.ntmps34
  go_wp2_with fail
  refine (HT.out _).mono ?_
  rintro e w1 ⟨rfl, hf1⟩
  have hbk := (Blk.new w 42 #[.int .i64 op, .int .i64 r, .int .i64 s, .int .i64 n]).fr hf1 (fun h => h)
  obtain ⟨c0, c1, c2, c3⟩ := blk4 hbk
  have H1 := Lib.hid (fr_two ((Fr.refl _ w).alloc _) hf1)
  clear hf1 hbk HT
  by_cases hin : inB ⟨op, r, s, n⟩ = true
  · have HR := Lib.hid (HN.out hin)
    simp [inB] at hin
    obtain ⟨h1, h2, h3, h4, h5, h6⟩ : 1 ≤ op ∧ op ≤ 18 ∧ 0 ≤ r ∧ r ≤ 3 ∧ 0 ≤ s ∧ s ≤ 3 := by omega
    clear hin HO HN
    go_upto_region 4 with fail
    have hA : a = true ∨ (a = false ∧ (r == 0) = true) ∨ (a = false ∧ (r == 0) = false) := by cases a <;> cases (r == 0) <;> simp
    have hB : b = true ∨ (b = false ∧ (s == 0) = true) ∨ (b = false ∧ (s == 0) = false) := by cases b <;> cases (s == 0) <;> simp
    have hC : 0 < c ∨ (¬ 0 < c ∧ (n == 0) = true) ∨ (¬ 0 < c ∧ (n == 0) = false) := by by_cases h : 0 < c <;> cases (n == 0) <;> simp [h]
    have hD : (c != 2) = true ∨ ((c != 2) = false ∧ 0 ≤ n) ∨ ((c != 2) = false ∧ ¬ 0 ≤ n) := by by_cases h : 0 ≤ n <;> cases (c != 2) <;> simp [h]
    rcases hA with rfl | ⟨rfl, hr⟩ | ⟨rfl, hr⟩
    case' inr.inr =>
      clear hB hC hD
      go_wp2
      go_ret
      exact ⟨by rw [HR.out, hr]; rfl, H1.out⟩
    all_goals
      rcases hB with rfl | ⟨rfl, hs⟩ | ⟨rfl, hs⟩
      case' inr.inr =>
        clear hC hD
        go_wp2
        go_ret
        exact ⟨by rw [HR.out]; first | (simp [*]; done) | (simp [*]; omega), H1.out⟩
    all_goals
      rcases hC with hc | ⟨hc, hn⟩ | ⟨hc, hn⟩
      case' inr.inr =>
        clear hD
        go_wp2
        go_ret
        exact ⟨by rw [HR.out]; first | (simp [*]; done) | (simp [*]; omega), H1.out⟩
    all_goals
      rcases hD with hd | ⟨hd, hm⟩ | ⟨hd, hm⟩
      all_goals
        first
        | (exfalso; simp at hd; omega)
        | (go_wp2
           all_goals go_ret
           all_goals exact ⟨by rw [HR.out, hd]; first | (simp [*]; done) | (simp [*]; omega), H1.out⟩)
  · have hRf : R = false := HO.out (by simpa using hin)
    subst hRf
    simp [inB] at hin
    clear HO HN
    by_cases h1 : op < 1
    · go_wp2
      go_ret
      exact ⟨rfl, H1.out⟩
    by_cases h2 : 18 < op
    · go_wp2
      go_ret
      exact ⟨rfl, H1.out⟩
    by_cases h3 : r < 0
    · go_wp2
      go_ret
      exact ⟨rfl, H1.out⟩
    by_cases h4 : 3 < r
    · go_wp2
      go_ret
      exact ⟨rfl, H1.out⟩
    by_cases h5 : s < 0
    · go_wp2
      go_ret
      exact ⟨rfl, H1.out⟩
    have h6 : 3 < s := by omega
    go_wp2
    go_ret
    exact ⟨rfl, H1.out⟩
end Go.Proofs.YtadnbkjjdkgfiaaDoor
