/-
  The walk of CodeChecks.
-/
import Derived.Test.YtadnbkjjdkgfiaaDoorChkE
import Derived.Test.YtadnbkjjdkgfiaaDoorChkF
import Derived.Test.YtadnbkjjdkgfiaaDoorTameD
namespace Go.Proofs.YtadnbkjjdkgfiaaDoor
open Go.RowKit Go.Viv
attribute [local go_sem ↓] wp_appendV
/-- A slice of instructions that reads as a list. -/
structure SlI (w : World) (A : Option Addr) (n cap : Nat) (l : List Insn) : Prop where
  len : l.length = n
  row : RowC w A (l.flatMap cellsI)
  le : n ≤ cap
  cap : cap ≤ 9223372036854775807
theorem SlI.fr {w w' : World} {A : Option Addr} {n cap : Nat} {l : List Insn} (h : SlI w A n cap l) (hf : Fr (fun _ => False) w w') : SlI w' A n cap l := ⟨h.len, h.row.fr hf, h.le, h.cap⟩
/-- A slice of whole numbers that is only read. -/
structure SlR (w : World) (A : Option Addr) (n cap : Nat) (l : List Int) : Prop where
  len : l.length = n
  row : RowC w A (ints l)
  le : n ≤ cap
  cap : cap ≤ 9223372036854775807
theorem SlR.fr {w w' : World} {A : Option Addr} {n cap : Nat} {l : List Int} (h : SlR w A n cap l) (hf : Fr (fun _ => False) w w') : SlR w' A n cap l := ⟨h.len, h.row.fr hf, h.le, h.cap⟩
theorem all_snoc (l : List Insn) (i : Insn) : (l ++ [i]).all insOkP = (l.all insOkP && insOkP i) := by simp
theorem check_sl {w : World} {A : Option Addr} {n cap : Nat} {is : List Insn} (h : SlI w A n cap is) : Calls Tryd.prog 31 #[.slice A n cap] w fun e w' => e = .returned (.int .i64 (checkI is)) ∧ Fr (fun _ => False) w w' := by
  have := check_any is A cap w h.row (by rw [h.len]; exact h.le) h.cap
  rw [h.len] at this
  exact this
theorem may_sl {w : World} {A : Option Addr} {n cap : Nat} {is : List Insn} (h : SlI w A n cap is) : Calls Tryd.prog 33 #[.slice A n cap] w fun e w' => e = .returned (.int .i64 (checkI is)) ∧ Fr (fun _ => False) w w' := by
  have := codemay_any is A cap w h.row (by rw [h.len]; exact h.le) h.cap
  rw [h.len] at this
  exact this
theorem regs_sl {w : World} {A : Option Addr} {n cap : Nat} {is : List Insn} (h : SlI w A n cap is) (hB : n ≤ 1000) : Calls Tryd.prog 37 #[.slice A n cap] w fun e w' => ∃ A' n' cap', e = .returned (.slice A' n' cap') ∧ Sl w' A' n' cap' (regsOf is) ∧ Fr (fun _ => False) w w' := by
  have := regs_any is A cap w h.row (by rw [h.len]; exact h.le) h.cap (by rw [h.len]; exact hB)
  rw [h.len] at this
  exact this
theorem Sl.nil_ (w : World) : Sl w none 0 0 [] := ⟨rfl, .inl rfl, fun a h => (by cases h), fun _ => ⟨rfl, rfl⟩, Nat.le_refl _, by omega⟩
theorem form_five (op : Int) : formB op = [114, 115] ∨ formB op = [] ∨ formB op = [114] ∨ formB op = [110] ∨ formB op = [114, 110] := by
  unfold formB
  split
  · simp
  · split
    · simp
    · split
      · simp
      · split <;> simp
theorem letr (i : Insn) (R : List Int) : stepL i R 114 = insS i.r R := by simp [stepL]
theorem lets (i : Insn) (R : List Int) : stepL i R 115 = insS i.s R := by simp [stepL]
theorem letn (i : Insn) (R : List Int) : stepL i R 110 = R := by simp [stepL]
set_option maxRecDepth 100000 in
set_option maxHeartbeats 4000000 in
theorem checks_of (HT : TameC) (is : List Insn) (A : Option Addr) (n cap : Nat) (xs : List Int) (B : Option Addr) (m capm : Nat) (w : World) (he : EnvC w) (hI : SlI w A n cap is) (hX : SlR w B m capm xs) :
    Calls Tryd.prog 11 #[.slice A n cap, .slice B m capm] w fun e w' => e = .returned (.bool true) ∧ Fr (fun _ => False) w w' := by
  have HE := Lib.hid he
  have HI := Lib.hid hI
  have HX := Lib.hid hX
  have hnc := hI.le
  have hcc := hI.cap
  have hmc := hX.le
  have hmcc := hX.cap
  clear he hI hX
  by_cases h40 : 40 < n
  · have h40' : (40 : Int) < n := by omega
    go_enter Tryd.func11, Tryd.ntmps11
    go_wp2_with (go_at_call 30; refine (cawake_any _ HE.out).mono ?_; rintro e w11 ⟨rfl, hf11⟩)
    go_ret
    exact ⟨rfl, hf11⟩
  · have h40' : ¬ (40 : Int) < n := by omega
    have hn40 : n ≤ 40 := by omega
    go_enter Tryd.func11, Tryd.ntmps11
    go_wp2_with fail
    go_loopw [5, 6] (fun p t wr => ∃ (k : Nat) (js : List Insn) (A' : Option Addr) (n' cap' : Nat), k ≤ 2 ∧ t = .int .i64 k ∧ p = .slice A' n' cap' ∧ SlI wr A' n' cap' js ∧ n' ≤ 40 ∧ Fr (fun _ => False) w wr) (fun _ t _ => 2 - (intOf t).toNat)
    case atStart => exact ⟨0, is, A, n, cap, by omega, rfl, rfl, HI.out, hn40, Fr.refl _ _⟩
    case round =>
      obtain ⟨k, js, A', n', cap', hk, rfl, rfl, hJ, hn', hfr⟩ := hrel
      clear h40 h40' hn40 hnc hcc
      obtain ⟨wo, hwo⟩ : ∃ wo : World, wo = wr := ⟨_, rfl⟩
      subst hwo
      have hnc := hJ.le
      have hcc := hJ.cap
      have HJ := Lib.hid hJ
      have HF := Lib.hid hfr
      clear hJ hfr
      by_cases hlt : k < 2
      · have hlt' : (k : Int) < 2 := by omega
        obtain ⟨ck, hck⟩ : ∃ c, checkI js = c := ⟨_, rfl⟩
        have HC1 := Lib.hid (fun (W : World) (hW : SlI W A' n' cap' js) => check_sl hW)
        have HC2 := Lib.hid (fun (W : World) (hW : SlI W A' n' cap' js) => may_sl hW)
        rw [hck] at HC1 HC2
        clear hck
        go_wp2_with fail
        refine (HC1.out _ HJ.out).mono ?_
        rintro e w1 ⟨rfl, hf1⟩
        have H1 := Lib.hid hf1
        clear hf1 HC1
        go_wp2_with fail
        refine (HC2.out _ (HJ.out.fr H1.out)).mono ?_
        rintro e w2 ⟨rfl, hf2⟩
        have H2 := Lib.hid (fr_two H1.out hf2)
        clear hf2 HC2 H1
        have hq : (ck != ck) = false := by simp
        go_wp2_with fail
        go_loopw [7, 8, 9] (fun v g t wr => ∃ (j : Nat) (A2 : Option Addr) (n2 cap2 : Nat), j ≤ n' ∧ t = .int .i64 j ∧ g = .bool ((js.take j).all insOkP) ∧ v = .slice A2 n2 cap2 ∧ Sl wr A2 n2 cap2 (regsF (js.take j)) ∧ Fr (fun _ => False) wo wr) (fun _ _ t _ => n' - (intOf t).toNat)
        case atStart => exact ⟨0, none, 0, 0, Nat.zero_le _, rfl, rfl, rfl, Sl.nil_ _, H2.out⟩
        case round =>
          obtain ⟨j, A2, n2, cap2, hj, rfl, rfl, rfl, hS, hfr⟩ := hrel
          have HS := Lib.hid hS
          have HG := Lib.hid hfr
          have hle2 := hS.le
          have hcap2 := hS.cap
          clear hS hfr
          obtain ⟨wi, hwi⟩ : ∃ wi : World, wi = wr := ⟨_, rfl⟩
          subst hwi
          by_cases hjn : j < n'
          · obtain ⟨i, hi⟩ : ∃ i, js[j]? = some i := ⟨_, List.getElem?_eq_getElem (by rw [HJ.out.len]; exact hjn)⟩
            obtain ⟨b, o, rfl, hbw, d0, d1, d2, d3⟩ := rowI_at (HJ.out.fr HG.out).row hi
            have HIJ := Lib.hid hi
            clear hi
            have HP := Lib.hid (insok_ins i)
            obtain ⟨g, hg⟩ : ∃ g, (js.take j).all insOkP = g := ⟨_, rfl⟩
            obtain ⟨g2, hg2⟩ : ∃ g, insOkP i = g := ⟨_, rfl⟩
            have HGG := Lib.hid (show (js.take (j + 1)).all insOkP = (g && g2) from by rw [take_snocI HIJ.out, all_snoc, hg, hg2])
            rw [hg]
            rw [hg2] at HP
            clear hg hg2
            go_upto_region 14 with fail
            go_cut [8] (fun t wx => t = .bool (g && g2) ∧ Fr (fun _ => False) wo wx ∧ Fr (fun _ => False) wi wx)
            case first =>
              cases g with
              | false =>
                go_wp2_with fail
                go_meet
                exact ⟨rfl, HG.out, Fr.refl _ _⟩
              | true =>
                go_wp2_with fail
                refine (HP.out _).mono ?_
                rintro e w3 ⟨rfl, hf3⟩
                have H3 := Lib.hid hf3
                clear hf3
                go_wp2_with fail
                go_meet
                exact ⟨rfl, fr_two HG.out H3.out, H3.out⟩
            case rest =>
              obtain ⟨rfl, hfo, hfi⟩ := hcut
              obtain ⟨wD, hwD⟩ : ∃ wD, wD = wc := ⟨wc, rfl⟩
              subst hwD
              have HS4 := Lib.hid (HS.out.fr hfi)
              have HG4 := Lib.hid hfo
              clear hfo hfi HS HG HP d0 d1 d2 d3
              obtain ⟨b', o', hbo', hbw', d0, d1, d2, d3⟩ := rowI_at (HJ.out.fr HG4.out).row HIJ.out
              injection hbo' with hbo'
              injection hbo' with hb1 hb2
              subst hb1 hb2
              have hFc := form_five i.op
              have HFM := Lib.hid (form_any i.op)
              obtain ⟨F, hF⟩ : ∃ F, formB i.op = F := ⟨_, rfl⟩
              rw [hF] at hFc HFM
              obtain ⟨R0, hR0⟩ : ∃ R, regsF (js.take j) = R := ⟨_, rfl⟩
              have HRR := Lib.hid (show regsF (js.take (j + 1)) = F.foldl (stepL i) R0 from by rw [take_snocI HIJ.out, regsF_snoc, regsI, hF, hR0])
              have hR0l : R0.length ≤ 80 := by
                have h1 := regsF_len (js.take j)
                have h2 : (js.take j).length ≤ j := List.length_take_le _ _
                rw [hR0] at h1
                omega
              have HR0 := Lib.hid (show Rises R0 from by rw [← hR0]; exact regsF_rises _)
              rw [hR0] at HS4
              clear hF hR0
              go_wp2_with fail
              refine (HFM.out _).mono ?_
              rintro e w4 ⟨rfl, hf4⟩
              have HS5 := Lib.hid (HS4.out.fr hf4)
              have HG5 := Lib.hid (fr_two HG4.out hf4)
              clear hf4 HS4 HG4 HFM d0 d1 d2 d3
              have hFl : F.length ≤ 2 := by rcases hFc with rfl | rfl | rfl | rfl | rfl <;> decide
              go_wp2_with fail
              go_loopw [7, 11] (fun v t wr => ∃ (k : Nat) (A3 : Option Addr) (n3 cap3 : Nat), k ≤ F.length ∧ t = .int .i64 k ∧ v = .slice A3 n3 cap3 ∧ Sl wr A3 n3 cap3 ((F.take k).foldl (stepL i) R0) ∧ Fr (fun _ => False) wo wr) (fun _ t _ => F.length - (intOf t).toNat)
              case atStart => exact ⟨0, A2, n2, cap2, Nat.zero_le _, rfl, rfl, HS5.out, HG5.out⟩
              case round =>
                clear hle2 hcap2 HS5 HG5
                obtain ⟨q, A3, n3, cap3, hq', rfl, rfl, hS, hfr⟩ := hrel
                obtain ⟨b', o', hbo', hbw', d0, d1, d2, d3⟩ := rowI_at (HJ.out.fr hfr).row HIJ.out
                injection hbo' with hbo'
                injection hbo' with hb1 hb2
                subst hb1 hb2
                have hle3 := hS.le
                have hcap3 := hS.cap
                have hn3 : n3 ≤ 1000 := by
                  have h1 := steps_len i (F.take q) R0
                  rw [hS.len] at h1
                  have h2 : (F.take q).length ≤ F.length := List.length_take_le' _ _
                  omega
                have HS6 := Lib.hid (And.intro hS (steps_rise (i := i) (cs := F.take q) HR0.out))
                have HG6 := Lib.hid hfr
                clear hS hfr
                by_cases hqlt : q < F.length
                · have hqo : q = 0 ∨ q = 1 := by omega
                  rcases hFc with rfl | rfl | rfl | rfl | rfl
                  all_goals
                    rcases hqo with rfl | rfl
                    all_goals first
                      | (exfalso; simp at hqlt; done)
                      | (go_wp2_with (go_at_call 35; refine (with_any _ _ _ _ _ _ HS6.out.1 HS6.out.2 (by omega)).mono ?_; rintro e w5 ⟨A5, n5, cap5, rfl, hsl5, hf5⟩; have H5 := Lib.hid (And.intro hsl5 (fr_two HG6.out hf5)); clear hsl5 hf5)
                         first
                         | exact ⟨⟨1, A5, n5, cap5, by simp, rfl, rfl, H5.out.1, H5.out.2⟩, by simp [intOf]⟩
                         | exact ⟨⟨2, A5, n5, cap5, by simp, rfl, rfl, H5.out.1, H5.out.2⟩, by simp [intOf]⟩
                         | exact ⟨⟨1, A3, n3, cap3, by simp, rfl, rfl, HS6.out.1, HG6.out⟩, by simp [intOf]⟩
                         | exact ⟨⟨2, A3, n3, cap3, by simp, rfl, rfl, HS6.out.1, HG6.out⟩, by simp [intOf]⟩)
                · obtain rfl : q = F.length := by omega
                  rw [List.take_of_length_le (Nat.le_refl _)] at HS6
                  go_wp2
                  go_roundw
                  case rel => exact ⟨j + 1, A3, n3, cap3, by omega, by go_num, by rw [HGG.out], rfl, by rw [HRR.out]; exact HS6.out.1, HG6.out⟩
                  case measure => simp [intOf]; omega
          · obtain rfl : n' = j := by omega
            rw [show js.take n' = js by rw [← HJ.out.len]; exact List.take_length] at HS ⊢
            obtain ⟨g, hg⟩ : ∃ g, js.all insOkP = g := ⟨_, rfl⟩
            have HRE := Lib.hid (fun h : g = true => regs_eq (hg.trans h))
            rw [hg]
            clear hg
            have hq2 : (n' : Int) ≤ 40 := by omega
            go_upto_region 23 with fail
            go_cut [82] (fun t wx => t = .bool false ∧ Fr (fun _ => False) wo wx)
            case first =>
              cases g with
              | false =>
                go_wp2_with fail
                go_meet
                exact ⟨rfl, HG.out⟩
              | true =>
                have hreq := HRE.out rfl
                go_wp2_with fail
                refine (regs_sl (HJ.out.fr HG.out) (by omega)).mono ?_
                rintro e w5 ⟨A5, n5, cap5, rfl, hsl5, hf5⟩
                have HC := Lib.hid (same_any _ _ _ _ _ _ _ _ _ hsl5 (HS.out.fr hf5))
                rw [decide_eq_true hreq] at HC
                have H5 := Lib.hid (fr_two HG.out hf5)
                clear hsl5 hf5 hreq
                go_wp2_with fail
                refine HC.out.mono ?_
                rintro e w6 ⟨rfl, hf6⟩
                have H6 := Lib.hid (fr_two H5.out hf6)
                clear hf6
                go_wp2_with fail
                go_meet
                exact ⟨rfl, H6.out⟩
            case rest =>
              obtain ⟨rfl, hfo⟩ := hcut
              obtain ⟨wD, hwD⟩ : ∃ wD, wD = wc := ⟨wc, rfl⟩
              subst hwD
              have HG4 := Lib.hid hfo
              clear hfo HS HG HRE hle2 hcap2
              go_wp2_with fail
              go_loopw [5, 12] (fun v t wr => ∃ (q : Nat) (ms : List Insn), q ≤ 20 ∧ t = .int .i64 q ∧ ms.length = q ∧ wr.ownsRow w.heap.size 42 4 v q (ms.flatMap cellsI) ∧ Fr (fun _ => False) w wr) (fun _ t _ => 20 - (intOf t).toNat)
              case atStart => exact ⟨0, [], by omega, rfl, rfl, World.ownsRow_nil _ _ _ _, fr_two HF.out HG4.out⟩
              case round =>
                obtain ⟨q, ms, hq20, rfl, hms, hown, hfr⟩ := hrel
                by_cases hc : q < m ∧ q < 20
                · obtain ⟨hqm, hq2'⟩ := hc
                  have hq2i : (q : Int) < 20 := by omega
                  obtain ⟨x, hx⟩ : ∃ x, xs[q]? = some x := ⟨_, List.getElem?_eq_getElem (by rw [HX.out.len]; exact hqm)⟩
                  obtain ⟨b, o, rfl, hbw, d0⟩ := rowN_at (HX.out.fr hfr).row hx
                  have HH := Lib.hid (And.intro hown (And.intro hfr hms))
                  clear hx hown hfr hms
                  go_wp2_with fail
                  obtain ⟨oo, X, _, _, _, htm⟩ := HT x 4 4 2 wr (by omega) (by omega) (by omega)
                  refine htm.mono ?_
                  rintro e w5 ⟨rfl, hf5⟩
                  obtain ⟨I, hI⟩ : ∃ I, I = tameI oo X 4 4 2 := ⟨_, rfl⟩
                  rw [← hI]
                  clear hI htm
                  obtain ⟨v2, wB, happ2, hown2, hfr2⟩ := app_one (P := Tryd.prog) (T := 51) Tryd.underlying51 info42 rfl (by omega) ((own_fr HH.out.1 hf5 (fun _ _ h => h)).alloc (.cells #[.int .i64 I.op, .int .i64 I.r, .int .i64 I.s, .int .i64 I.n] 42)) (Blk.new w5 42 #[.int .i64 I.op, .int .i64 I.r, .int .i64 I.s, .int .i64 I.n]) rfl (by simp [Value.oneCell']) (by unfold maxLen; omega) (by omega) (by have := (fr_two HH.out.2.1 hf5).size; simp; omega)
                  have H2 := Lib.hid (And.intro (show wB.ownsRow w.heap.size 42 4 v2 (q + 1) ((ms ++ [I]).flatMap cellsI) from by rw [List.flatMap_append]; simpa using hown2) (hfr2 w ((fr_two HH.out.2.1 hf5).alloc _) (Nat.le_refl _)))
                  clear hf5 hown2 hfr2
                  go_wp2
                  go_roundw
                  case rel => exact ⟨q + 1, ms ++ [I], by omega, by go_num, by rw [List.length_append, HH.out.2.2]; rfl, H2.out.1, H2.out.2⟩
                  case measure => simp [intOf]; omega
                · obtain ⟨A5, cap5, rfl, h1, h2, h3⟩ := rowC_of_own hown
                  unfold maxLen at h2
                  have HH := Lib.hid (And.intro (SlI.mk hms h3 h1 h2) hfr)
                  clear hown hfr hms h3
                  by_cases hqm : q < m
                  · have hq2i : ¬ (q : Int) < 20 := by omega
                    go_wp2
                    go_roundw
                    case rel => exact ⟨k + 1, ms, A5, q, cap5, by omega, by go_num, rfl, HH.out.1, by omega, HH.out.2⟩
                    case measure => simp [intOf]; omega
                  · go_wp2
                    go_roundw
                    case rel => exact ⟨k + 1, ms, A5, q, cap5, by omega, by go_num, rfl, HH.out.1, by omega, HH.out.2⟩
                    case measure => simp [intOf]; omega
      · obtain rfl : k = 2 := by omega
        go_wp2_with (go_at_call 30; refine (cawake_any _ (HE.out.fr HF.out)).mono ?_; rintro e w11 ⟨rfl, hf11⟩)
        go_ret
        exact ⟨rfl, fr_two HF.out hf11⟩
end Go.Proofs.YtadnbkjjdkgfiaaDoor
