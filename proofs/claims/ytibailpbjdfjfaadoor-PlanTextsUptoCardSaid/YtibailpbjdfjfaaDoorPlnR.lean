/-
  PlanTexts' walk.
-/
import Derived.Test.YtibailpbjdfjfaaDoorPlnQ
import Derived.Test.YtibailpbjdfjfaaDoorPlnL
namespace Go.Viv
open Go.Lib Go.RowKit
theorem mapM_mem : ∀ (ws : List (List UInt8)) (l : List Coln), ws.mapM colP = some l → ∀ x ∈ l, ∃ u, colP u = some x
  | [], l, h, x, hx => by
    simp at h
    subst h
    simp at hx
  | u :: r, l, h, x, hx => by
    rw [List.mapM_cons] at h
    cases hc : colP u with
    | none => simp [hc] at h
    | some y =>
      rw [hc] at h
      cases hr : r.mapM colP with
      | none => simp [hr] at h
      | some ys =>
        simp [hr] at h
        subst h
        rcases List.mem_cons.1 hx with rfl | hx
        · exact ⟨u, hc⟩
        · exact mapM_mem r ys hr x hx
theorem planP_in {l : List UInt8} {p : List Coln} (h : planP l = some p) : p.length ≤ 100 ∧ ∀ x ∈ p, inI x.c := by
  unfold planP at h
  split at h
  · obtain rfl := Option.some.inj h
    exact ⟨Nat.zero_le _, by simp⟩
  · split at h
    · cases h
    · rename_i h1 h2
      refine ⟨by have := mapM_len h; omega, fun x hx => ?_⟩
      obtain ⟨u, hu⟩ := mapM_mem _ _ h x hx
      exact (colP_text hu).2.2.2.2.2.2
theorem Tame17.txt {m : Int} {p : List Coln} (h : Tame17 m p) : planP (textP p) = some p ∧ (textP p).length < 4294967281 ∧ p.length ≤ 1000 ∧ ∀ x ∈ p, inI x.c := by
  have hl := h.len
  have hi : ∀ x ∈ p, inI x.c := fun x hx => by
    have := h.told x hx
    unfold inI
    unfold Told at this
    omega
  refine ⟨planP_told (by omega) h.told, ?_, by omega, hi⟩
  have := textP_len p hi
  omega
theorem mlen_ {n : Nat} (h : n ≤ maxLen) : n ≤ 9223372036854775807 := by unfold maxLen at h; exact h
theorem str_bne (l : List UInt8) : (l != l) = false := by simp
end Go.Viv
namespace Go.Proofs.YtibailpbjdfjfaaDoor
open Go.RowKit Go.Viv
set_option maxRecDepth 100000 in
set_option maxHeartbeats 2000000 in
theorem ptexts_any (xs : List Coln) (A : Option Addr) (cp : Nat) (l : List Int) (B : Option Addr) (cq : Nat) (s : List UInt8) (w : World) (he : EnvP w) (hr : RowC w A (xs.flatMap cellsK)) (hn : xs.length ≤ cp) (hc : cp ≤ 9223372036854775807) (hi : ∀ x ∈ xs, inI x.c)
    (hr2 : RowC w B (ints l)) (hn2 : l.length ≤ cq) (hc2 : cq ≤ 9223372036854775807) (hs : s.length < 4294967281) :
    Calls Tryd.prog 4 #[.slice A xs.length cp, .slice B l.length cq, str s] w fun e w' => e = .returned (.bool true) ∧ Fr (fun _ => False) w w' := by
  have HE := Lib.hid he
  by_cases h60 : 60 < xs.length
  · have h60' : (60 : Int) < xs.length := by omega
    clear hr hr2 hi
    go_enter Tryd.func4, Tryd.ntmps4
    go_wp2_with fail
    refine (awake_any _ HE.out).mono ?_
    rintro e w8 ⟨rfl, hf8⟩
    have H8 := Lib.hid hf8
    clear hf8
    go_wp2
    go_ret
    exact ⟨rfl, H8.out⟩
  · have h60' : ¬ (60 : Int) < xs.length := by omega
    have HT := Lib.hid (fun W (hW : Fr (fun _ => False) w W) => planText_any xs A cp W (he.fr hW) (hr.fr hW) hn hc (by omega) hi)
    have HT2 := Lib.hid (fun W (hW : Fr (fun _ => False) w W) => text17_any xs A cp W (hr.fr hW) hn hc (by omega) hi)
    have HM := Lib.hid (fun W (hW : Fr (fun _ => False) w W) => tame17_any l B cq 64 W (hr2.fr hW) hn2 hc2 (by omega))
    have HP := Lib.hid (fun W (hW : Fr (fun _ => False) w W) => planParse_any s W (he.fr hW) hs)
    have HC := Lib.hid (fun W (hW : Fr (fun _ => False) w W) => columns_any s W hs)
    have HX := Lib.hid (fun (p : List Coln) A2 c2 W (hW : Fr (fun _ => False) w W) hr hn hc hl hi => planText_any p A2 c2 W (he.fr hW) hr hn hc hl hi)
    have HQ := Lib.hid (fun u W (hW : Fr (fun _ => False) w W) hu => planParse_any u W (he.fr hW) hu)
    obtain ⟨X, hX⟩ : ∃ X, textP xs = X := ⟨_, rfl⟩
    rw [hX] at HT HT2
    have hb := str_bne X
    have hb2 : (s == s) = true := by simp
    obtain ⟨n, hN⟩ : ∃ n, xs.length = n := ⟨_, rfl⟩
    rw [hN] at HT HT2 h60' hn ⊢
    clear hr hr2 hi hX he hs hN h60
    go_enter Tryd.func4, Tryd.ntmps4
    go_wp2_with fail
    refine (HT.out _ (Fr.refl _ _)).mono ?_
    rintro e w1 ⟨rfl, hf1⟩
    have H1 := Lib.hid hf1
    clear hf1
    go_wp2_with fail
    refine (HT2.out _ H1.out).mono ?_
    rintro e w2 ⟨rfl, hf2⟩
    have H2 := Lib.hid (fr_two H1.out hf2)
    clear hf2
    go_wp2_with fail
    refine (HM.out _ H2.out).mono ?_
    rintro e w3 ⟨A3, c3, p, rfl, htm, hp3, hc3, hr3, hf3⟩
    have H3 := Lib.hid (fr_two H2.out hf3)
    obtain ⟨ht1, ht2, ht3, ht4⟩ := htm.txt
    have HR3 := Lib.hid (And.intro hr3 (And.intro hp3 (And.intro (show c3 ≤ 9223372036854775807 from mlen_ hc3) (And.intro ht1 (And.intro ht2 (And.intro ht3 ht4))))))
    clear hf3 htm hr3 hp3 hc3 ht1 ht2 ht3 ht4
    obtain ⟨np, hnp⟩ : ∃ n, p.length = n := ⟨_, rfl⟩
    have HNP := Lib.hid hnp
    have HX3 := Lib.hid (HX.out p A3 c3 w3 H3.out HR3.out.1 HR3.out.2.1 HR3.out.2.2.1 HR3.out.2.2.2.2.2.1 HR3.out.2.2.2.2.2.2)
    rw [hnp] at HX3 ⊢
    clear hnp
    go_wp2_with fail
    refine HX3.out.mono ?_
    rintro e w4 ⟨rfl, hf4⟩
    have H4 := Lib.hid (fr_two H3.out hf4)
    have HR4 := Lib.hid (HR3.out.1.fr hf4)
    clear hf4
    go_wp2_with fail
    refine (HQ.out _ _ H4.out HR3.out.2.2.2.2.1).mono ?_
    rintro e w5 ⟨A5, c5, p5, er5, rfl, hp5, hc5, hr5, hor, hf5⟩
    obtain ⟨rfl, rfl⟩ : p = p5 ∧ er5 = 0 := by
      rcases hor with ⟨h1, h2⟩ | ⟨h1, _⟩
      · rw [HR3.out.2.2.2.1] at h1
        exact ⟨Option.some.inj h1, h2⟩
      · rw [HR3.out.2.2.2.1] at h1
        cases h1
    have H5 := Lib.hid (fr_two H4.out hf5)
    have HSM := Lib.hid (same17_eq p A3 A5 c3 c5 w5 (HR4.out.fr hf5) hr5 HR3.out.2.1 hp5 HR3.out.2.2.1 (mlen_ hc5))
    have hnp := HNP.out
    rw [hnp] at HSM ⊢
    clear hf5 hor hr5 hp5 hc5 hnp
    go_wp2_with fail
    refine HSM.out.mono ?_
    rintro e w6 ⟨rfl, hf6⟩
    have H6 := Lib.hid (fr_two H5.out hf6)
    clear hf6
    go_wp2_with fail
    refine (HP.out _ H6.out).mono ?_
    rintro e w7 ⟨A7, c7, p7, er7, rfl, hp7, hc7, hr7, hor7, hf7⟩
    have H7 := Lib.hid (fr_two H6.out hf7)
    have HR7 := Lib.hid (And.intro hr7 (And.intro hp7 (show c7 ≤ 9223372036854775807 from mlen_ hc7)))
    clear hf7 hr7 hp7 hc7
    obtain ⟨n7, hn7⟩ : ∃ n, p7.length = n := ⟨_, rfl⟩
    have HN7 := Lib.hid hn7
    have HO7 := Lib.hid hor7
    rw [hn7]
    clear hn7 hor7
    go_wp2_with fail
    refine (HC.out _ H7.out).mono ?_
    rintro e w8 ⟨A8, c8, p8, b8, rfl, hp8, hc8, hr8, hor8, hf8⟩
    have H8 := Lib.hid (fr_two H7.out hf8)
    obtain rfl : p7 = p8 := by
      rcases HO7.out with ⟨h1, _⟩ | ⟨h1, h2, _⟩ <;> rcases hor8 with ⟨h3, _⟩ | ⟨h3, h4, _⟩
      · rw [h1] at h3; exact Option.some.inj h3
      · rw [h1] at h3; cases h3
      · rw [h1] at h3; cases h3
      · rw [h2, h4]
    have HR8 := Lib.hid (HR7.out.1.fr hf8)
    have HSM := Lib.hid (same17_eq p7 A7 A8 c7 c8 w8 HR8.out hr8 HR7.out.2.1 hp8 HR7.out.2.2 (mlen_ hc8))
    have hn7 := HN7.out
    rw [hn7] at HSM ⊢
    clear hf8 hr8 hp8 hc8
    cases hP : planP s with
    | none =>
      obtain ⟨rfl, rfl⟩ : b8 = false ∧ er7 = 16 := by
        rcases HO7.out with ⟨h1, _⟩ | ⟨_, _, h2⟩
        · rw [hP] at h1; cases h1
        · rcases hor8 with ⟨h3, _⟩ | ⟨_, _, h4⟩
          · rw [hP] at h3; cases h3
          · exact ⟨h4, h2⟩
      clear hor8 hn7 hP
      go_wp2_with fail
      refine HSM.out.mono ?_
      rintro e w9 ⟨rfl, hf9⟩
      have H9 := Lib.hid (fr_two H8.out hf9)
      clear hf9
      go_wp2_with fail
      refine (awake_any _ (HE.out.fr H9.out)).mono ?_
      rintro e wa ⟨rfl, hfa⟩
      have HA := Lib.hid (fr_two H9.out hfa)
      clear hfa
      go_wp2
      go_ret
      exact ⟨rfl, HA.out⟩
    | some q =>
      obtain ⟨rfl, rfl, rfl⟩ : b8 = true ∧ er7 = 0 ∧ q = p7 := by
        rcases HO7.out with ⟨h1, h2⟩ | ⟨h1, _⟩
        · rcases hor8 with ⟨h3, h4⟩ | ⟨h3, _⟩
          · rw [hP] at h3; exact ⟨h4, h2, Option.some.inj h3⟩
          · rw [hP] at h3; cases h3
        · rw [hP] at h1; cases h1
      have hin := planP_in hP
      have HTX := Lib.hid (fun W (hW : Fr (fun _ => False) w W) h => HX.out q A7 c7 W hW h HR7.out.2.1 HR7.out.2.2 (by have := hin.1; omega) hin.2)
      rw [hn7, planP_text hP] at HTX
      clear hor8 hn7 hP hin
      go_wp2_with fail
      refine HSM.out.mono ?_
      rintro e w9 ⟨rfl, hf9⟩
      have H9 := Lib.hid (fr_two H8.out hf9)
      have HR9 := Lib.hid (HR8.out.fr hf9)
      clear hf9
      go_wp2_with fail
      refine (HTX.out _ H9.out HR9.out).mono ?_
      rintro e wb ⟨rfl, hfb⟩
      have HB := Lib.hid (fr_two H9.out hfb)
      clear hfb
      go_wp2_with fail
      refine (awake_any _ (HE.out.fr HB.out)).mono ?_
      rintro e wa ⟨rfl, hfa⟩
      have HA := Lib.hid (fr_two HB.out hfa)
      clear hfa
      go_wp2
      go_ret
      exact ⟨rfl, HA.out⟩
end Go.Proofs.YtibailpbjdfjfaaDoor
