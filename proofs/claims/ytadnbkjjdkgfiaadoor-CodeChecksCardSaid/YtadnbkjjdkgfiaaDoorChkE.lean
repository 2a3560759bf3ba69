/-
  The reference's CodeMay answers as Check.
-/
import Derived.Test.YtadnbkjjdkgfiaaDoorChkC
namespace Go.Proofs.YtadnbkjjdkgfiaaDoor
open Go.RowKit Go.Viv
theorem insok_ins (i : Insn) (w : World) : Calls Tryd.prog 34 #[i.agg] w fun e w' => e = .returned (.bool (insOkP i)) ∧ Fr (fun _ => False) w w' := insok_any i.op i.r i.s i.n w
set_option maxRecDepth 100000 in
set_option maxHeartbeats 1000000 in
theorem codemay_any (is : List Insn) (A : Option Addr) (cap : Nat) (w : World) (hr : RowC w A (is.flatMap cellsI)) (_hn : is.length ≤ cap) (_hc : cap ≤ 9223372036854775807) :
    Calls Tryd.prog 33 #[.slice A is.length cap] w fun e w' => e = .returned (.int .i64 (checkI is)) ∧ Fr (fun _ => False) w w' := by
  have HR := Lib.hid hr
  clear hr
  obtain ⟨n, hnl⟩ : ∃ n, is.length = n := ⟨_, rfl⟩
  have HN := Lib.hid hnl
  have HCK := Lib.hid (show checkI is = if 16 < n then 2 else if allOk is then 0 else 1 from by unfold checkI; rw [hnl])
  rw [hnl]
  clear hnl
  by_cases h16 : 16 < n
  · have h16' : (16 : Int) < n := by omega
    have HH := Lib.hid h16
    clear h16
    go_enter Tryd.func33, Tryd.ntmps33
    go_wp2
    go_ret
    exact ⟨by rw [HCK.out, if_pos HH.out]; rfl, Fr.refl _ _⟩
  · have h16' : (n : Int) ≤ 16 := by omega
    have HH := Lib.hid h16
    have hn16 : n ≤ 16 := by omega
    clear h16
    go_enter Tryd.func33, Tryd.ntmps33
    go_wp2_with fail
    go_loopw [3] (fun t wr => ∃ k : Nat, k ≤ n ∧ t = .int .i64 k ∧ allOk is = allOk (is.drop k) ∧ Fr (fun _ => False) w wr) (fun t _ => n - (intOf t).toNat)
    case atStart => exact ⟨0, by omega, rfl, by rw [List.drop_zero], Fr.refl _ _⟩
    case round =>
      obtain ⟨k, hk, rfl, hall, hfr⟩ := hrel
      by_cases hlt : k < n
      · obtain ⟨i, hi⟩ : ∃ i, is[k]? = some i := ⟨_, List.getElem?_eq_getElem (by rw [HN.out]; exact hlt)⟩
        have hrow := HR.out.fr hfr
        obtain ⟨b, o, rfl, hbw, d0, d1, d2, d3⟩ := rowI_at hrow hi
        obtain ⟨bo, hbo⟩ : ∃ b, insOkP i = b := ⟨_, rfl⟩
        have HO := Lib.hid (fun W => show Calls Tryd.prog 34 #[i.agg] W fun e w' => e = .returned (.bool bo) ∧ Fr (fun _ => False) W w' from by rw [← hbo]; exact insok_ins i W)
        have HB := Lib.hid (And.intro hfr (show allOk is = (bo && (i.op != 13 || decide (i.n ≤ (n : Int) - 1 - k)) && allOk (is.drop (k + 1))) from by rw [hall, allOk_at hi, HN.out, insOk_split, hbo]))
        have HI := Lib.hid (And.intro hrow hi)
        clear hfr hall hi hbo hrow
        obtain ⟨wB, hwB⟩ : ∃ wB, wB = wr := ⟨wr, rfl⟩
        subst hwB
        go_wp2_with fail
        refine (HO.out _).mono ?_
        rintro e w2 ⟨rfl, hf2⟩
        obtain ⟨b', o', hbo', hbw', e0, e1, e2, e3⟩ := rowI_at (HI.out.1.fr hf2) HI.out.2
        injection hbo' with hbo'
        injection hbo' with hb1 hb2
        subst hb1 hb2
        have H2 := Lib.hid (fr_two HB.out.1 hf2)
        have HB2 := Lib.hid HB.out.2
        clear hf2 d0 d1 d2 d3 HB HO HI
        cases bo with
        | false =>
          go_wp2
          go_ret
          exact ⟨by rw [HCK.out, if_neg HH.out, HB2.out]; rfl, H2.out⟩
        | true =>
          by_cases h13 : i.op = 13
          · have g13 : (i.op == 13) = true := by simpa using h13
            have g13' : (i.op != 13) = false := by simpa using h13
            rw [g13'] at HB2
            clear h13 g13'
            by_cases hle : i.n ≤ (n : Int) - 1 - k
            · have hd : decide ((n : Int) - 1 - k < i.n) = false := decide_eq_false (by omega)
              rw [decide_eq_true hle] at HB2
              go_wp2
              go_roundw
              case rel => exact ⟨k + 1, by omega, by go_num, by rw [HB2.out]; rfl, H2.out⟩
              case measure => simp [intOf]; omega
            · have hd : decide ((n : Int) - 1 - k < i.n) = true := decide_eq_true (by omega)
              rw [decide_eq_false hle] at HB2
              go_wp2
              go_ret
              exact ⟨by rw [HCK.out, if_neg HH.out, HB2.out]; rfl, H2.out⟩
          · have g13 : (i.op == 13) = false := by simpa using h13
            have g13' : (i.op != 13) = true := by simpa using h13
            rw [g13'] at HB2
            clear h13 g13'
            go_wp2
            go_roundw
            case rel => exact ⟨k + 1, by omega, by go_num, by rw [HB2.out]; rfl, H2.out⟩
            case measure => simp [intOf]; omega
      · obtain rfl : n = k := by omega
        have HB := Lib.hid (And.intro hfr (show allOk is = true from by rw [hall, List.drop_of_length_le (by rw [HN.out]; exact Nat.le_refl _)]; rfl))
        clear hfr hall
        go_wp2
        go_ret
        exact ⟨by rw [HCK.out, if_neg HH.out, HB.out.2]; rfl, HB.out.1⟩
end Go.Proofs.YtadnbkjjdkgfiaaDoor
