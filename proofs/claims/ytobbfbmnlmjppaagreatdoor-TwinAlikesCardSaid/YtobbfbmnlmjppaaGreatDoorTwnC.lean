/-
  Worlds are alike just if they differ in variants alone: the walk of the law.
-/
import Derived.Test.YtobbfbmnlmjppaaGreatDoorTwnE
import Derived.Test.YtobbfbmnlmjppaaGreatDoorTwnK
import Derived.Test.YtobbfbmnlmjppaaGreatDoorMasks
namespace Go.Proofs.YtobbfbmnlmjppaaGreatDoor
open Go.RowKit Go.Viv Go.Lib
attribute [local go_sem ↓] wp_appendV
theorem alike_r (x y : Cf) (v : Value) (w : World) (hv : v = y.val) (hx : x.In w) (hy : y.In w) : Calls Tryz.prog 9 #[x.val, v] w fun e w' => e = .returned (.bool (alikeC x y)) ∧ Fr (fun _ => False) w w' := by
  subst hv
  exact alike_any x y w hx hy
theorem alike_l (x y : Cf) (v : Value) (w : World) (hv : v = x.val) (hx : x.In w) (hy : y.In w) : Calls Tryz.prog 9 #[v, y.val] w fun e w' => e = .returned (.bool (alikeC x y)) ∧ Fr (fun _ => False) w w' := by
  subst hv
  exact alike_any x y w hx hy
set_option maxRecDepth 100000 in
set_option maxHeartbeats 4000000 in
theorem twinAlikes_any (c : Cf) (what at_ : Int) (w : World) (hc : c.In w) (hE : EnvT w) :
    Calls Tryz.prog 4 #[c.val, .int .i64 what, .int .i64 at_] w fun e w' => e = .returned (.bool true) ∧ Fr (fun _ => False) w w' := by
  have HE := Lib.hid hE
  have HC := Lib.hid hc
  have l1 := hc.ca
  have l2 := hc.cb
  have l3 := hc.ma
  have l4 := hc.mb
  clear hc hE
  unfold Cf.val
  by_cases hlong : 70 < c.comps.length ∨ 60 < c.res.length
  · by_cases h70 : 70 < c.comps.length
    · clear hlong
      go_enter Tryz.func4, Tryz.ntmps4
      go_wp2_with (go_at_call 8; refine (awake27_any (HE.out.fr (by repeat (first | exact Fr.refl _ _ | apply Fr.alloc | apply Fr.drew)))).mono ?_; rintro e w' ⟨rfl, hf⟩)
      go_ret
      exact ⟨rfl, fr_two (by repeat (first | exact Fr.refl _ _ | apply Fr.alloc | apply Fr.drew)) hf⟩
    · have h60 : 60 < c.res.length := by omega
      clear hlong
      go_enter Tryz.func4, Tryz.ntmps4
      go_wp2_with (go_at_call 8; refine (awake27_any (HE.out.fr (by repeat (first | exact Fr.refl _ _ | apply Fr.alloc | apply Fr.drew)))).mono ?_; rintro e w' ⟨rfl, hf⟩)
      go_ret
      exact ⟨rfl, fr_two (by repeat (first | exact Fr.refl _ _ | apply Fr.alloc | apply Fr.drew)) hf⟩
  · have h70 : c.comps.length ≤ 70 := by omega
    have h60 : c.res.length ≤ 60 := by omega
    clear hlong
    obtain ⟨v4, w4, app4, own4, fr4⟩ := copyD c w HC.out h70 (W := (w.alloc (.cells c.cells 50)).alloc (.cells c.cells 50)) (by repeat (first | exact Fr.refl _ _ | apply Fr.alloc | apply Fr.drew))
    have k1 : Blk w4 w.heap.size 50 c.cells := Blk.fr (Blk.alloc (blk_new' _ _ rfl) _) fr4 (fun h => h)
    have k2 : Blk w4 (w.heap.size + 1) 50 c.cells := Blk.fr (blk_new' _ _ (by simp)) fr4 (fun h => h)
    obtain ⟨A4, cap4, rfl, m4, n4, r4⟩ := rowC_of_own own4
    have hf4 : Fr (fun _ => False) w w4 := fr_two (by repeat (first | exact Fr.refl _ _ | apply Fr.alloc | apply Fr.drew)) fr4
    rw [show ((w.alloc (.cells c.cells 50)).alloc (.cells c.cells 50)).heap.size = w.heap.size + 1 + 1 from by simp] at app4
    simp only [Cf.cells] at app4
    obtain ⟨w5, hw5⟩ : ∃ w5, w5 = w4.setCell ⟨w.heap.size + 1, 2, none⟩ (.slice A4 c.comps.length cap4) := ⟨_, rfl⟩
    have hz5 : w5.heap.size = w4.heap.size := by rw [hw5]; simp
    have hf5 : Fr (fun _ => False) w w5 := by rw [hw5]; exact hf4.setCell (.inr (by simp)) _
    obtain ⟨v6, w7, app6, own6, fr6⟩ := copyR c w HC.out h60 (W := w5) hf5
    obtain ⟨A6, cap6, rfl, m6, n6, r6⟩ := rowC_of_own own6
    have b1 : Blk w7 w.heap.size 50 c.cells := Blk.fr (by rw [hw5]; exact k1.far (by simp) _) fr6 (fun h => h)
    have b2 : Blk w7 (w.heap.size + 1) 50 (c.cells.setIfInBounds 2 (.slice A4 c.comps.length cap4)) := Blk.fr (by rw [hw5]; exact k2.set_ 2 _) fr6 (fun h => h)
    have q4 : w4.heap.size ≤ w7.heap.size := by rw [← hz5]; exact fr6.size
    have R5 : RowC w5 A4 (c.comps.flatMap descC) := by
      rw [hw5]
      rcases own4.2 with ⟨h, hn⟩ | ⟨g, cp, cur, hv, hb, hh, _⟩
      · rw [List.length_eq_zero_iff.1 hn]; exact .inl rfl
      · cases hv
        rcases r4 with h | ⟨b, o, h1, h2, h3⟩
        · exact .inl h
        · refine .inr ⟨b, o, h1, by simpa using h2, fun i u hi => ?_⟩
          cases h1
          rw [← h3 i u hi]
          exact World.cell?_of_block (Below.heap_setCell w4 _ _ _ (by simp at hb ⊢; omega))
    have far4 : ∀ a, A4 = some a → w.heap.size + 2 ≤ a.block := fun a h => by have := own_far own4 a h; simpa using this
    have far6 : ∀ a, A6 = some a → w.heap.size + 2 ≤ a.block := fun a h => by have := own_far own6 a h; have := k2.lt; omega
    have hU : (w7.setCell ⟨w.heap.size + 1, 3, none⟩ (.slice A6 c.res.length cap6)).heap.size = w7.heap.size := by simp
    have FAR := Lib.hid (And.intro (And.intro far4 (own_plain own4)) (And.intro far6 (own_plain own6)))
    have hb2 : ((w.alloc (.cells c.cells 50)).alloc (.cells c.cells 50)).heap.size = w.heap.size + 2 := by simp
    rw [hb2] at own4
    have own47 := own_fr (S := fun x => x = w.heap.size + 1) (w' := w7) own4 (by
      have g : Fr (fun x => x = w.heap.size + 1) w4 w5 := by rw [hw5]; refine Fr.setCell (Fr.refl _ _) ?_ _; exact .inl rfl
      exact g.trans fr6 (fun _ h => h.elim)) (fun k hk e => by
        have := (own4.lt k hk).1
        omega)
    have own67 := own6
    rw [hz5] at own67
    have OWN := Lib.hid (And.intro own47 own67)
    have SEP := Lib.hid (show ∀ a b, A6 = some a → A4 = some b → a.block ≠ b.block from fun a b h1 h2 => by
      have g1 := own_far own6 a h1
      subst h2
      have g2 := (own4.lt b.block rfl).2
      omega)
    have s1 : w.heap.size < w4.heap.size := k1.lt
    have s2 : w.heap.size + 1 < w4.heap.size := k2.lt
    have d3 : w4.cell? ⟨w.heap.size, 3, none⟩ = some (.slice c.B c.res.length c.cb) := (k1.cell 3).trans rfl
    have e2 : w4.cell? ⟨w.heap.size + 1, 2, none⟩ = some (.slice c.A c.comps.length c.ca) := (k2.cell 2).trans rfl
    have e2f : w4.frozen? ⟨w.heap.size + 1, 2, none⟩ = false := k2.frozen 2
    have f3 : w7.cell? ⟨w.heap.size + 1, 3, none⟩ = some (.slice c.B c.res.length c.cb) := (b2.cell 3).trans rfl
    have f0 : w7.cell? ⟨w.heap.size + 1, 0, none⟩ = some (.int .i64 c.size) := (b2.cell 0).trans rfl
    have f1 : w7.cell? ⟨w.heap.size + 1, 1, none⟩ = some (.int .i64 c.top) := (b2.cell 1).trans rfl
    have f2 : w7.cell? ⟨w.heap.size + 1, 2, none⟩ = some (.slice A4 c.comps.length cap4) := (b2.cell 2).trans rfl
    have g0 : w7.cell? ⟨w.heap.size, 0, none⟩ = some (.int .i64 c.size) := (b1.cell 0).trans rfl
    have g1 : w7.cell? ⟨w.heap.size, 1, none⟩ = some (.int .i64 c.top) := (b1.cell 1).trans rfl
    have g2 : w7.cell? ⟨w.heap.size, 2, none⟩ = some (.slice c.A c.comps.length c.ca) := (b1.cell 2).trans rfl
    have g3 : w7.cell? ⟨w.heap.size, 3, none⟩ = some (.slice c.B c.res.length c.cb) := (b1.cell 3).trans rfl
    have f0f : w7.frozen? ⟨w.heap.size + 1, 0, none⟩ = false := b2.frozen 0
    have f1f : w7.frozen? ⟨w.heap.size + 1, 1, none⟩ = false := b2.frozen 1
    have f2f : w7.frozen? ⟨w.heap.size + 1, 2, none⟩ = false := b2.frozen 2
    have f3f : w7.frozen? ⟨w.heap.size + 1, 3, none⟩ = false := b2.frozen 3
    have hf7 := fr_two hf5 fr6
    rw [hz5] at app6
    rw [hw5] at app6
    have B1 := Lib.hid b1
    have B2 := Lib.hid b2
    have R47 := Lib.hid (R5.fr fr6)
    have R67 := Lib.hid r6
    have HF7 := Lib.hid hf7
    clear far4 far6 own4 own47 own67 own6 fr4 fr6 hf4 hf5 hf7 k1 k2 r4 r6 b1 b2 R5 hz5 hw5 w5
    obtain ⟨z, hz⟩ : ∃ z, bits .and .i64 what 7 = z := ⟨_, rfl⟩
    by_cases h0 : z = 0
    · subst h0
      have HT : Two w.heap.size c ⟨wrap64 (c.size + 1), c.top, A4, c.comps, cap4, A6, c.res, cap6⟩ ((w7.setCell ⟨w.heap.size + 1, 3, none⟩ (.slice A6 c.res.length cap6)).setCell ⟨w.heap.size + 1, 0, none⟩ (.int .i64 (wrap64 (c.size + 1)))) :=
        ⟨(B1.out.far (by simp) _).far (by simp) _, (B2.out.set_ 3 _).set_ 0 _, HC.out.fr ((HF7.out.setCell (.inr (by simp)) _).setCell (.inr (by simp)) _),
          ⟨rowC_far (rowC_far R47.out (fun a h => by have := FAR.out.1.1 a h; simp; omega) _) (fun a h => by have := FAR.out.1.1 a h; simp; omega) _, rowC_far (rowC_far R67.out (fun a h => by have := FAR.out.2.1 a h; simp; omega) _) (fun a h => by have := FAR.out.2.1 a h; simp; omega) _, m4, m6, n4, n6, FAR.out.1.2, FAR.out.2.2⟩⟩
      have HTF : Fr (fun _ => False) w ((w7.setCell ⟨w.heap.size + 1, 3, none⟩ (.slice A6 c.res.length cap6)).setCell ⟨w.heap.size + 1, 0, none⟩ (.int .i64 (wrap64 (c.size + 1)))) := (HF7.out.setCell (.inr (by simp)) _).setCell (.inr (by simp)) _
      have HTF := Lib.hid HTF
      have HT := Lib.hid HT
      have hne : (c.size == wrap64 (c.size + 1)) = false := by
        have : c.size ≠ wrap64 (c.size + 1) := by unfold wrap64; omega
        simpa using this
      have hne2 : (wrap64 (c.size + 1) == c.size) = false := by
        have : wrap64 (c.size + 1) ≠ c.size := by unfold wrap64; omega
        simpa using this
      have A1 : alikeC c ⟨wrap64 (c.size + 1), c.top, A4, c.comps, cap4, A6, c.res, cap6⟩ = false := by simp only [alikeC, hne, Bool.false_and]
      have A2 : alikeC ⟨wrap64 (c.size + 1), c.top, A4, c.comps, cap4, A6, c.res, cap6⟩ c = false := by simp only [alikeC, hne2, Bool.false_and]
      have A1 := Lib.hid A1
      have A2 := Lib.hid A2
      clear hne hne2
      go_enter Tryz.func4, Tryz.ntmps4
      go_wp2_with (first
        | (go_at_call 9; refine (alike_any c _ _ HT.out.c1 HT.out.c2).mono ?_; rintro e w10 ⟨rfl, hf⟩; rw [A1.out]; obtain ⟨y0, y1, y2, y3, y4, y5, y6, y7⟩ := (HT.out.fr hf).cells; have H2 := Lib.hid (HT.out.fr hf); have H2F := Lib.hid (fr_two HTF.out hf); clear hf HT)
        | (go_at_call 9; refine (alike_any _ c _ H2.out.c2 H2.out.c1).mono ?_; rintro e w11 ⟨rfl, hf⟩; rw [A2.out]; obtain ⟨z0, z1, z2, z3, z4, z5, z6, z7⟩ := (H2.out.fr hf).cells; have H3 := Lib.hid (H2.out.fr hf); have H3F := Lib.hid (fr_two H2F.out hf); clear hf H2)
        | (go_at_call 9; refine (alike_any c c _ H3.out.c1 H3.out.c1).mono ?_; rintro e w12 ⟨rfl, hf⟩; rw [alikeC_refl]; have H4F := Lib.hid (fr_two H3F.out hf); clear hf H3)
        | (go_at_call 8; refine (awake27_any (HE.out.fr H4F.out)).mono ?_; rintro e w' ⟨rfl, hf⟩))
      go_ret
      exact ⟨rfl, fr_two H4F.out hf⟩
    · have e0 : (z == 0) = false := by simpa using h0
      by_cases h1 : z = 1
      · subst h1
        have HT : Two w.heap.size c ⟨c.size, wrap64 (c.top + 1), A4, c.comps, cap4, A6, c.res, cap6⟩ ((w7.setCell ⟨w.heap.size + 1, 3, none⟩ (.slice A6 c.res.length cap6)).setCell ⟨w.heap.size + 1, 1, none⟩ (.int .i64 (wrap64 (c.top + 1)))) :=
          ⟨(B1.out.far (by simp) _).far (by simp) _, (B2.out.set_ 3 _).set_ 1 _, HC.out.fr ((HF7.out.setCell (.inr (by simp)) _).setCell (.inr (by simp)) _),
            ⟨rowC_far (rowC_far R47.out (fun a h => by have := FAR.out.1.1 a h; simp; omega) _) (fun a h => by have := FAR.out.1.1 a h; simp; omega) _, rowC_far (rowC_far R67.out (fun a h => by have := FAR.out.2.1 a h; simp; omega) _) (fun a h => by have := FAR.out.2.1 a h; simp; omega) _, m4, m6, n4, n6, FAR.out.1.2, FAR.out.2.2⟩⟩
        have HTF : Fr (fun _ => False) w ((w7.setCell ⟨w.heap.size + 1, 3, none⟩ (.slice A6 c.res.length cap6)).setCell ⟨w.heap.size + 1, 1, none⟩ (.int .i64 (wrap64 (c.top + 1)))) := (HF7.out.setCell (.inr (by simp)) _).setCell (.inr (by simp)) _
        have HTF := Lib.hid HTF
        have HT := Lib.hid HT
        have hne : (c.top == wrap64 (c.top + 1)) = false := by
          have : c.top ≠ wrap64 (c.top + 1) := by unfold wrap64; omega
          simpa using this
        have hne2 : (wrap64 (c.top + 1) == c.top) = false := by
          have : wrap64 (c.top + 1) ≠ c.top := by unfold wrap64; omega
          simpa using this
        have A1 : alikeC c ⟨c.size, wrap64 (c.top + 1), A4, c.comps, cap4, A6, c.res, cap6⟩ = false := by simp only [alikeC, hne, beq_self_eq_true, Bool.true_and, Bool.false_and]
        have A2 : alikeC ⟨c.size, wrap64 (c.top + 1), A4, c.comps, cap4, A6, c.res, cap6⟩ c = false := by simp only [alikeC, hne2, beq_self_eq_true, Bool.true_and, Bool.false_and]
        have A1 := Lib.hid A1
        have A2 := Lib.hid A2
        clear hne hne2
        go_enter Tryz.func4, Tryz.ntmps4
        go_wp2_with (first
          | (go_at_call 9; refine (alike_any c _ _ HT.out.c1 HT.out.c2).mono ?_; rintro e w10 ⟨rfl, hf⟩; rw [A1.out]; obtain ⟨y0, y1, y2, y3, y4, y5, y6, y7⟩ := (HT.out.fr hf).cells; have H2 := Lib.hid (HT.out.fr hf); have H2F := Lib.hid (fr_two HTF.out hf); clear hf HT)
          | (go_at_call 9; refine (alike_any _ c _ H2.out.c2 H2.out.c1).mono ?_; rintro e w11 ⟨rfl, hf⟩; rw [A2.out]; obtain ⟨z0, z1, z2, z3, z4, z5, z6, z7⟩ := (H2.out.fr hf).cells; have H3 := Lib.hid (H2.out.fr hf); have H3F := Lib.hid (fr_two H2F.out hf); clear hf H2)
          | (go_at_call 9; refine (alike_any c c _ H3.out.c1 H3.out.c1).mono ?_; rintro e w12 ⟨rfl, hf⟩; rw [alikeC_refl]; have H4F := Lib.hid (fr_two H3F.out hf); clear hf H3)
          | (go_at_call 8; refine (awake27_any (HE.out.fr H4F.out)).mono ?_; rintro e w' ⟨rfl, hf⟩))
        go_ret
        exact ⟨rfl, fr_two H4F.out hf⟩
      · have e1 : (z == 1) = false := by simpa using h1
        have HT : Two w.heap.size c ⟨c.size, c.top, A4, c.comps, cap4, A6, c.res, cap6⟩ (w7.setCell ⟨w.heap.size + 1, 3, none⟩ (.slice A6 c.res.length cap6)) :=
          ⟨B1.out.far (by simp) _, B2.out.set_ 3 _, HC.out.fr (HF7.out.setCell (.inr (by simp)) _),
            ⟨rowC_far R47.out (fun a h => by have := FAR.out.1.1 a h; simp; omega) _, rowC_far R67.out (fun a h => by have := FAR.out.2.1 a h; simp; omega) _, m4, m6, n4, n6, FAR.out.1.2, FAR.out.2.2⟩⟩
        have HTF : Fr (fun _ => False) w (w7.setCell ⟨w.heap.size + 1, 3, none⟩ (.slice A6 c.res.length cap6)) := HF7.out.setCell (.inr (by simp)) _
        have HTF := Lib.hid HTF
        have HT := Lib.hid HT
        have A1 : alikeC c ⟨c.size, c.top, A4, c.comps, cap4, A6, c.res, cap6⟩ = true := by simp [alikeC, sameL_refl]
        have A1 := Lib.hid A1
        by_cases h2 : z = 2
        · subst h2
          clear HT HTF A1; clear HT HTF A1
          have ownU : (w7.setCell ⟨w.heap.size + 1, 3, none⟩ (.slice A6 c.res.length cap6)).ownsRow _ _ _ _ _ _ := own_fr OWN.out.2 (S := fun x => x = w.heap.size + 1) (by refine Fr.setCell (Fr.refl _ _) ?_ _; exact .inl rfl) (fun k hk e => by have := (OWN.out.2.lt k hk).1; omega)
          obtain ⟨A8, cap8, w9, app8, own8, fr8⟩ := moreR c.res ownU h60 (by omega)
          have hob := fun k hk => (ownU.lt k hk).1
          obtain ⟨q1, q2, q3⟩ := rowC_own own8
          have b1 : Blk w9 w.heap.size 50 c.cells := Blk.fr (B1.out.far (by simp) _) fr8 (fun h => by have := hob _ h; omega)
          have b2 : Blk w9 (w.heap.size + 1) 50 ((c.cells.setIfInBounds 2 (.slice A4 c.comps.length cap4)).setIfInBounds 3 (.slice A6 c.res.length cap6)) := Blk.fr (B2.out.set_ 3 _) fr8 (fun h => by have := hob _ h; omega)
          obtain ⟨D, hD⟩ : ∃ D : Cf, D = ⟨c.size, c.top, A4, c.comps, cap4, A8, c.res ++ [0], cap8⟩ := ⟨_, rfl⟩
          have HT : Two w.heap.size c D (w9.setCell ⟨w.heap.size + 1, 3, none⟩ (.slice A8 (c.res.length + 1) cap8)) := by
            subst hD
            exact ⟨b1.far (by simp) _, by simpa [Cf.cells] using b2.set_ 3 (.slice A8 (c.res.length + 1) cap8), HC.out.fr ((Fr.trans (HF7.out.setCell (.inr (by simp)) _) fr8 (fun i hi => .inr (by have := hob _ hi; omega))).setCell (.inr (by simp)) _), ⟨rowC_far (rowC_frS (rowC_far R47.out (fun a h => by have := FAR.out.1.1 a h; simp; omega) _) fr8 (fun a h h2 => by cases A6 with | none => cases h2 | some b => exact SEP.out b a rfl h (by simpa [Value.ownBlock] using h2))) (fun a h => by have := FAR.out.1.1 a h; simp; omega) _, rowC_far q3 (fun a h => by have := own_far own8 a h; simp; omega) _, m4, by simpa using q1, n4, q2, FAR.out.1.2, own_plain own8⟩⟩
          have HTF := Lib.hid (show Fr (fun _ => False) w (w9.setCell ⟨w.heap.size + 1, 3, none⟩ (.slice A8 (c.res.length + 1) cap8)) from (Fr.trans (HF7.out.setCell (.inr (by simp)) _) fr8 (fun i hi => .inr (by have := hob _ hi; omega))).setCell (.inr (by simp)) _)
          have HT := Lib.hid HT
          have e1 : (c.res == c.res ++ [0]) = false := by simp
          have e2 : (c.res ++ [0] == c.res) = false := by simp
          have A1 : alikeC c D = false := by subst hD; simp only [alikeC, e1, beq_self_eq_true, Bool.false_and, Bool.and_false]
          have A2 : alikeC D c = false := by subst hD; simp only [alikeC, e2, beq_self_eq_true, Bool.false_and, Bool.and_false]
          have A1 := Lib.hid A1
          have A2 := Lib.hid A2
          have u0 : w9.cell? ⟨w.heap.size, 0, none⟩ = some (.int .i64 c.size) := (b1.cell 0).trans rfl
          have u1 : w9.cell? ⟨w.heap.size, 1, none⟩ = some (.int .i64 c.top) := (b1.cell 1).trans rfl
          have u2 : w9.cell? ⟨w.heap.size, 2, none⟩ = some (.slice c.A c.comps.length c.ca) := (b1.cell 2).trans rfl
          have u3 : w9.cell? ⟨w.heap.size, 3, none⟩ = some (.slice c.B c.res.length c.cb) := (b1.cell 3).trans rfl
          have v0 : w9.cell? ⟨w.heap.size + 1, 0, none⟩ = some (.int .i64 c.size) := (b2.cell 0).trans rfl
          have v1 : w9.cell? ⟨w.heap.size + 1, 1, none⟩ = some (.int .i64 c.top) := (b2.cell 1).trans rfl
          have v2 : w9.cell? ⟨w.heap.size + 1, 2, none⟩ = some (.slice A4 c.comps.length cap4) := (b2.cell 2).trans rfl
          have v3 : w9.cell? ⟨w.heap.size + 1, 3, none⟩ = some (.slice A6 c.res.length cap6) := (b2.cell 3).trans rfl
          have v2f : w9.frozen? ⟨w.heap.size + 1, 2, none⟩ = false := b2.frozen 2
          have v3f : w9.frozen? ⟨w.heap.size + 1, 3, none⟩ = false := b2.frozen 3
          have s9 := b1.lt
          have s9' := b2.lt
          rw [hU] at app8
          clear ownU own8 fr8 hob q1 q2 q3 b1 b2 e1 e2
          go_enter Tryz.func4, Tryz.ntmps4
          go_wp2_with (first
            | (go_at_call 9; refine (alike_r c D _ _ (by simp [hD, Cf.val]) HT.out.c1 HT.out.c2).mono ?_; rintro e w10 ⟨rfl, hf⟩; rw [A1.out]; obtain ⟨y0, y1, y2, y3, y4, y5, y6, y7⟩ := (HT.out.fr hf).cells; simp only [hD] at y4 y5 y6 y7; have H2 := Lib.hid (HT.out.fr hf); have H2F := Lib.hid (fr_two HTF.out hf); clear hf HT)
            | (go_at_call 9; refine (alike_l D c _ _ (by simp [hD, Cf.val]) H2.out.c2 H2.out.c1).mono ?_; rintro e w11 ⟨rfl, hf⟩; rw [A2.out]; obtain ⟨z0, z1, z2, z3, z4, z5, z6, z7⟩ := (H2.out.fr hf).cells; have H3 := Lib.hid (H2.out.fr hf); have H3F := Lib.hid (fr_two H2F.out hf); clear hf H2)
            | (go_at_call 9; refine (alike_any c c _ H3.out.c1 H3.out.c1).mono ?_; rintro e w12 ⟨rfl, hf⟩; rw [alikeC_refl]; have H4F := Lib.hid (fr_two H3F.out hf); clear hf H3)
            | (go_at_call 8; refine (awake27_any (HE.out.fr H4F.out)).mono ?_; rintro e w' ⟨rfl, hf⟩))
          go_ret
          exact ⟨rfl, fr_two H4F.out hf⟩
        · have e2 : (z == 2) = false := by simpa using h2
          by_cases h3 : z = 3
          · subst h3
            clear HT HTF A1; clear HT HTF A1
            have ownU : (w7.setCell ⟨w.heap.size + 1, 3, none⟩ (.slice A6 c.res.length cap6)).ownsRow _ _ _ _ _ _ := own_fr OWN.out.1 (S := fun x => x = w.heap.size + 1) (by refine Fr.setCell (Fr.refl _ _) ?_ _; exact .inl rfl) (fun k hk e => by have := (OWN.out.1.lt k hk).1; omega)
            obtain ⟨A8, cap8, w9, app8, own8, fr8⟩ := moreD c.comps ownU h70 (by omega)
            have hob := fun k hk => (ownU.lt k hk).1
            obtain ⟨q1, q2, q3⟩ := rowC_own own8
            have b1 : Blk w9 w.heap.size 50 c.cells := Blk.fr (B1.out.far (by simp) _) fr8 (fun h => by have := hob _ h; omega)
            have b2 : Blk w9 (w.heap.size + 1) 50 ((c.cells.setIfInBounds 2 (.slice A4 c.comps.length cap4)).setIfInBounds 3 (.slice A6 c.res.length cap6)) := Blk.fr (B2.out.set_ 3 _) fr8 (fun h => by have := hob _ h; omega)
            obtain ⟨D, hD⟩ : ∃ D : Cf, D = ⟨c.size, c.top, A8, c.comps ++ [⟨1, 1, 0⟩], cap8, A6, c.res, cap6⟩ := ⟨_, rfl⟩
            have HT : Two w.heap.size c D (w9.setCell ⟨w.heap.size + 1, 2, none⟩ (.slice A8 (c.comps.length + 1) cap8)) := by
              subst hD
              exact ⟨b1.far (by simp) _, by simpa [Cf.cells] using b2.set_ 2 (.slice A8 (c.comps.length + 1) cap8), HC.out.fr ((Fr.trans (HF7.out.setCell (.inr (by simp)) _) fr8 (fun i hi => .inr (by have := hob _ hi; omega))).setCell (.inr (by simp)) _), ⟨rowC_far q3 (fun a h => by have := own_far own8 a h; simp; omega) _, rowC_far (rowC_frS (rowC_far R67.out (fun a h => by have := FAR.out.2.1 a h; simp; omega) _) fr8 (fun a h h2 => by cases A4 with | none => cases h2 | some b => exact SEP.out a b h rfl (by simpa [Value.ownBlock] using Eq.symm (Option.some.inj h2)))) (fun a h => by have := FAR.out.2.1 a h; simp; omega) _, by simpa using q1, m6, q2, n6, own_plain own8, FAR.out.2.2⟩⟩
            have HTF := Lib.hid (show Fr (fun _ => False) w (w9.setCell ⟨w.heap.size + 1, 2, none⟩ (.slice A8 (c.comps.length + 1) cap8)) from (Fr.trans (HF7.out.setCell (.inr (by simp)) _) fr8 (fun i hi => .inr (by have := hob _ hi; omega))).setCell (.inr (by simp)) _)
            have HT := Lib.hid HT
            have e1 : sameL c.comps (c.comps ++ [⟨1, 1, 0⟩]) = false := sameL_len (by simp)
            have e2 : sameL (c.comps ++ [⟨1, 1, 0⟩]) c.comps = false := sameL_len (by simp)
            have A1 : alikeC c D = false := by subst hD; simp only [alikeC, e1, beq_self_eq_true, Bool.and_false]
            have A2 : alikeC D c = false := by subst hD; simp only [alikeC, e2, beq_self_eq_true, Bool.and_false]
            have A1 := Lib.hid A1
            have A2 := Lib.hid A2
            have u0 : w9.cell? ⟨w.heap.size, 0, none⟩ = some (.int .i64 c.size) := (b1.cell 0).trans rfl
            have u1 : w9.cell? ⟨w.heap.size, 1, none⟩ = some (.int .i64 c.top) := (b1.cell 1).trans rfl
            have u2 : w9.cell? ⟨w.heap.size, 2, none⟩ = some (.slice c.A c.comps.length c.ca) := (b1.cell 2).trans rfl
            have u3 : w9.cell? ⟨w.heap.size, 3, none⟩ = some (.slice c.B c.res.length c.cb) := (b1.cell 3).trans rfl
            have v0 : w9.cell? ⟨w.heap.size + 1, 0, none⟩ = some (.int .i64 c.size) := (b2.cell 0).trans rfl
            have v1 : w9.cell? ⟨w.heap.size + 1, 1, none⟩ = some (.int .i64 c.top) := (b2.cell 1).trans rfl
            have v2 : w9.cell? ⟨w.heap.size + 1, 2, none⟩ = some (.slice A4 c.comps.length cap4) := (b2.cell 2).trans rfl
            have v3 : w9.cell? ⟨w.heap.size + 1, 3, none⟩ = some (.slice A6 c.res.length cap6) := (b2.cell 3).trans rfl
            have v2f : w9.frozen? ⟨w.heap.size + 1, 2, none⟩ = false := b2.frozen 2
            have v3f : w9.frozen? ⟨w.heap.size + 1, 3, none⟩ = false := b2.frozen 3
            have s9 := b1.lt
            have s9' := b2.lt
            rw [hU] at app8
            clear ownU own8 fr8 hob q1 q2 q3 b1 b2 e1 e2
            go_enter Tryz.func4, Tryz.ntmps4
            go_wp2_with (first
              | (go_at_call 9; refine (alike_r c D _ _ (by simp [hD, Cf.val]) HT.out.c1 HT.out.c2).mono ?_; rintro e w10 ⟨rfl, hf⟩; rw [A1.out]; obtain ⟨y0, y1, y2, y3, y4, y5, y6, y7⟩ := (HT.out.fr hf).cells; simp only [hD] at y4 y5 y6 y7; have H2 := Lib.hid (HT.out.fr hf); have H2F := Lib.hid (fr_two HTF.out hf); clear hf HT)
              | (go_at_call 9; refine (alike_l D c _ _ (by simp [hD, Cf.val]) H2.out.c2 H2.out.c1).mono ?_; rintro e w11 ⟨rfl, hf⟩; rw [A2.out]; obtain ⟨z0, z1, z2, z3, z4, z5, z6, z7⟩ := (H2.out.fr hf).cells; have H3 := Lib.hid (H2.out.fr hf); have H3F := Lib.hid (fr_two H2F.out hf); clear hf H2)
              | (go_at_call 9; refine (alike_any c c _ H3.out.c1 H3.out.c1).mono ?_; rintro e w12 ⟨rfl, hf⟩; rw [alikeC_refl]; have H4F := Lib.hid (fr_two H3F.out hf); clear hf H3)
              | (go_at_call 8; refine (awake27_any (HE.out.fr H4F.out)).mono ?_; rintro e w' ⟨rfl, hf⟩))
            go_ret
            exact ⟨rfl, fr_two H4F.out hf⟩
          · have e3 : (z == 3) = false := by simpa using h3
            by_cases hnil : c.comps.length = 0
            · have en : ((c.comps.length : Int) == 0) = true := by simp [hnil]
              clear hnil
              go_enter Tryz.func4, Tryz.ntmps4
              go_wp2_with (first
                | (go_at_call 9; refine (alike_any c _ _ HT.out.c1 HT.out.c2).mono ?_; rintro e w10 ⟨rfl, hf⟩; rw [A1.out]; have H4F := Lib.hid (fr_two HTF.out hf); clear hf HT)
                | (go_at_call 8; refine (awake27_any (HE.out.fr H4F.out)).mono ?_; rintro e w' ⟨rfl, hf⟩))
              go_ret
              exact ⟨rfl, fr_two H4F.out hf⟩
            · have en : ((c.comps.length : Int) == 0) = false := by simpa using hnil
              obtain ⟨r, hr, hr2⟩ := mask_nat at_ 65535 16 (by omega) (by decide)
              have hn0 : 0 < c.comps.length := Nat.pos_of_ne_zero hnil
              have hkl : r % c.comps.length < c.comps.length := Nat.mod_lt _ hn0
              obtain ⟨k, hk⟩ : ∃ k, r % c.comps.length = k := ⟨_, rfl⟩
              obtain ⟨x, hx⟩ : ∃ x, c.comps[k]? = some x := ⟨_, List.getElem?_eq_getElem (by omega)⟩
              have hkm : ((r : Int).tmod c.comps.length) = (k : Int) := by rw [← hk, Int.tmod_eq_emod_of_nonneg (by omega)]; simp
              rw [hk] at hkl
              have hkn : (k : Int) < c.comps.length := by omega
              have hnz : ¬ ((c.comps.length : Int) = 0) := by omega
              by_cases h4 : z = 4
              · subst h4
                clear HT HTF A1; clear HT HTF A1
                have ownU : (w7.setCell ⟨w.heap.size + 1, 3, none⟩ (.slice A6 c.res.length cap6)).ownsRow _ _ _ _ _ _ := own_fr OWN.out.1 (S := fun x => x = w.heap.size + 1) (by refine Fr.setCell (Fr.refl _ _) ?_ _; exact .inl rfl) (fun k hk e => by have := (OWN.out.1.lt k hk).1; omega)
                obtain ⟨g, hA, g1, g2, gc, gf, gs⟩ := own_elem ownU hx
                have own8 := gs 1 (.int .i64 (wrap64 (x.v + 1))) ⟨x.k, wrap64 (x.v + 1), x.b⟩ (by decide) rfl
                obtain ⟨q1, q2, q3⟩ := rowC_own own8
                obtain ⟨D, hD⟩ : ∃ D : Cf, D = ⟨c.size, c.top, A4, c.comps.set k ⟨x.k, wrap64 (x.v + 1), x.b⟩, cap4, A6, c.res, cap6⟩ := ⟨_, rfl⟩
                have HT : Two w.heap.size c D ((w7.setCell ⟨w.heap.size + 1, 3, none⟩ (.slice A6 c.res.length cap6)).setCell ⟨g, k * 3 + 1, none⟩ (.int .i64 (wrap64 (x.v + 1)))) := by
                  subst hD
                  exact ⟨(B1.out.far (by simp) _).far (by simp; omega) _, by simpa [Cf.cells] using (B2.out.set_ 3 (.slice A6 c.res.length cap6)).far (p := ⟨g, k * 3 + 1, none⟩) (by simp; omega) (.int .i64 (wrap64 (x.v + 1))), HC.out.fr ((HF7.out.setCell (.inr (by simp)) _).setCell (.inr (by simp; omega)) _),
                    ⟨q3, rowC_far (rowC_far R67.out (fun a h => by have := FAR.out.2.1 a h; simp; omega) _) (fun a h => by have := SEP.out a _ h hA; simpa using this) _, by simpa using q1, m6, q2, n6, FAR.out.1.2, FAR.out.2.2⟩⟩
                have HTF := Lib.hid (show Fr (fun _ => False) w ((w7.setCell ⟨w.heap.size + 1, 3, none⟩ (.slice A6 c.res.length cap6)).setCell ⟨g, k * 3 + 1, none⟩ (.int .i64 (wrap64 (x.v + 1)))) from (HF7.out.setCell (.inr (by simp)) _).setCell (.inr (by simp; omega)) _)
                have HT := Lib.hid HT
                have hsd : sameD x ⟨x.k, wrap64 (x.v + 1), x.b⟩ = true := by simp [sameD]
                have A1 : alikeC c D = true := by subst hD; simp only [alikeC, (sameL_set (y := ⟨x.k, wrap64 (x.v + 1), x.b⟩) hx).1, hsd, beq_self_eq_true, Bool.and_true]
                have A2 : alikeC D c = true := by subst hD; simp only [alikeC, (sameL_set (y := ⟨x.k, wrap64 (x.v + 1), x.b⟩) hx).2, beq_self_eq_true, Bool.true_and]; rw [← hsd]; simp only [sameD]
                have A1 := Lib.hid A1
                have A2 := Lib.hid A2
                have gx := gc 1 _ rfl
                have gf' := gf (k * 3 + 1)
                rw [World.cell?_of_block (Below.heap_setCell w7 _ _ _ (by simp; omega))] at gx
                rw [World.frozen?_of_block (Below.heap_setCell w7 _ _ _ (by simp; omega))] at gf'
                have g3 : w.heap.size + 1 < g := by omega
                have g4 : g < w7.heap.size := by simpa using g2
                subst hA
                clear ownU gc gf gs own8 q1 q2 q3 hx hsd g1 g2
                go_enter Tryz.func4, Tryz.ntmps4
                go_wp2_with (first
                  | (go_at_call 9; refine (alike_r c D _ _ (by simp [hD, Cf.val]) HT.out.c1 HT.out.c2).mono ?_; rintro e w10 ⟨rfl, hf⟩; rw [A1.out]; obtain ⟨y0, y1, y2, y3, y4, y5, y6, y7⟩ := (HT.out.fr hf).cells; simp only [hD] at y4 y5 y6 y7; have H2 := Lib.hid (HT.out.fr hf); have H2F := Lib.hid (fr_two HTF.out hf); clear hf HT)
                  | (go_at_call 9; refine (alike_l D c _ _ (by simp [hD, Cf.val]) H2.out.c2 H2.out.c1).mono ?_; rintro e w11 ⟨rfl, hf⟩; rw [A2.out]; obtain ⟨z0, z1, z2, z3, z4, z5, z6, z7⟩ := (H2.out.fr hf).cells; have H3 := Lib.hid (H2.out.fr hf); have H3F := Lib.hid (fr_two H2F.out hf); clear hf H2)
                  | (go_at_call 9; refine (alike_any c c _ H3.out.c1 H3.out.c1).mono ?_; rintro e w12 ⟨rfl, hf⟩; rw [alikeC_refl]; have H4F := Lib.hid (fr_two H3F.out hf); clear hf H3)
                  | (go_at_call 8; refine (awake27_any (HE.out.fr H4F.out)).mono ?_; rintro e w' ⟨rfl, hf⟩))
                go_ret
                exact ⟨rfl, fr_two H4F.out hf⟩
              · have e4 : (z == 4) = false := by simpa using h4
                by_cases h5 : z = 5
                · subst h5
                  clear HT HTF A1; clear HT HTF A1
                  have ownU : (w7.setCell ⟨w.heap.size + 1, 3, none⟩ (.slice A6 c.res.length cap6)).ownsRow _ _ _ _ _ _ := own_fr OWN.out.1 (S := fun x => x = w.heap.size + 1) (by refine Fr.setCell (Fr.refl _ _) ?_ _; exact .inl rfl) (fun k hk e => by have := (OWN.out.1.lt k hk).1; omega)
                  obtain ⟨g, hA, g1, g2, gc, gf, gs⟩ := own_elem ownU hx
                  have own8 := gs 0 (.int .i64 (wrap64 (x.k + 1))) ⟨wrap64 (x.k + 1), x.v, x.b⟩ (by decide) rfl
                  obtain ⟨q1, q2, q3⟩ := rowC_own own8
                  obtain ⟨D, hD⟩ : ∃ D : Cf, D = ⟨c.size, c.top, A4, c.comps.set k ⟨wrap64 (x.k + 1), x.v, x.b⟩, cap4, A6, c.res, cap6⟩ := ⟨_, rfl⟩
                  have HT : Two w.heap.size c D ((w7.setCell ⟨w.heap.size + 1, 3, none⟩ (.slice A6 c.res.length cap6)).setCell ⟨g, k * 3, none⟩ (.int .i64 (wrap64 (x.k + 1)))) := by
                    subst hD
                    exact ⟨(B1.out.far (by simp) _).far (by simp; omega) _, by simpa [Cf.cells] using (B2.out.set_ 3 (.slice A6 c.res.length cap6)).far (p := ⟨g, k * 3, none⟩) (by simp; omega) (.int .i64 (wrap64 (x.k + 1))), HC.out.fr ((HF7.out.setCell (.inr (by simp)) _).setCell (.inr (by simp; omega)) _),
                      ⟨q3, rowC_far (rowC_far R67.out (fun a h => by have := FAR.out.2.1 a h; simp; omega) _) (fun a h => by have := SEP.out a _ h hA; simpa using this) _, by simpa using q1, m6, q2, n6, FAR.out.1.2, FAR.out.2.2⟩⟩
                  have HTF := Lib.hid (show Fr (fun _ => False) w ((w7.setCell ⟨w.heap.size + 1, 3, none⟩ (.slice A6 c.res.length cap6)).setCell ⟨g, k * 3, none⟩ (.int .i64 (wrap64 (x.k + 1)))) from (HF7.out.setCell (.inr (by simp)) _).setCell (.inr (by simp; omega)) _)
                  have HT := Lib.hid HT
                  have hsd : sameD x ⟨wrap64 (x.k + 1), x.v, x.b⟩ = false := by simp only [sameD, Bool.and_eq_false_iff]; left; simp; unfold wrap64; omega
                  have A1 : alikeC c D = false := by subst hD; simp only [alikeC, (sameL_set (y := ⟨wrap64 (x.k + 1), x.v, x.b⟩) hx).1, hsd, beq_self_eq_true, Bool.and_false]
                  have A2 : alikeC D c = false := by subst hD; simp only [alikeC, (sameL_set (y := ⟨wrap64 (x.k + 1), x.v, x.b⟩) hx).2, beq_self_eq_true, Bool.true_and]; rw [← hsd]; simp only [sameD, BEq.comm]
                  have A1 := Lib.hid A1
                  have A2 := Lib.hid A2
                  have gx : _ = some (Value.int .i64 x.k) := gc 0 _ rfl
                  change World.cell? _ ⟨g, k * 3, none⟩ = _ at gx
                  have gf' := gf (k * 3)
                  rw [World.cell?_of_block (Below.heap_setCell w7 _ _ _ (by simp; omega))] at gx
                  rw [World.frozen?_of_block (Below.heap_setCell w7 _ _ _ (by simp; omega))] at gf'
                  have g3 : w.heap.size + 1 < g := by omega
                  have g4 : g < w7.heap.size := by simpa using g2
                  subst hA
                  clear ownU gc gf gs own8 q1 q2 q3 hx hsd g1 g2
                  go_enter Tryz.func4, Tryz.ntmps4
                  go_wp2_with (first
                    | (go_at_call 9; refine (alike_r c D _ _ (by simp [hD, Cf.val]) HT.out.c1 HT.out.c2).mono ?_; rintro e w10 ⟨rfl, hf⟩; rw [A1.out]; obtain ⟨y0, y1, y2, y3, y4, y5, y6, y7⟩ := (HT.out.fr hf).cells; simp only [hD] at y4 y5 y6 y7; have H2 := Lib.hid (HT.out.fr hf); have H2F := Lib.hid (fr_two HTF.out hf); clear hf HT)
                    | (go_at_call 9; refine (alike_l D c _ _ (by simp [hD, Cf.val]) H2.out.c2 H2.out.c1).mono ?_; rintro e w11 ⟨rfl, hf⟩; rw [A2.out]; obtain ⟨z0, z1, z2, z3, z4, z5, z6, z7⟩ := (H2.out.fr hf).cells; have H3 := Lib.hid (H2.out.fr hf); have H3F := Lib.hid (fr_two H2F.out hf); clear hf H2)
                    | (go_at_call 9; refine (alike_any c c _ H3.out.c1 H3.out.c1).mono ?_; rintro e w12 ⟨rfl, hf⟩; rw [alikeC_refl]; have H4F := Lib.hid (fr_two H3F.out hf); clear hf H3)
                    | (go_at_call 8; refine (awake27_any (HE.out.fr H4F.out)).mono ?_; rintro e w' ⟨rfl, hf⟩))
                  go_ret
                  exact ⟨rfl, fr_two H4F.out hf⟩
                · have e5 : (z == 5) = false := by simpa using h5
                  by_cases h6 : z = 6
                  · subst h6
                    clear HT HTF A1; clear HT HTF A1
                    have ownU : (w7.setCell ⟨w.heap.size + 1, 3, none⟩ (.slice A6 c.res.length cap6)).ownsRow _ _ _ _ _ _ := own_fr OWN.out.1 (S := fun x => x = w.heap.size + 1) (by refine Fr.setCell (Fr.refl _ _) ?_ _; exact .inl rfl) (fun k hk e => by have := (OWN.out.1.lt k hk).1; omega)
                    obtain ⟨g, hA, g1, g2, gc, gf, gs⟩ := own_elem ownU hx
                    have own8 := gs 2 (.int .i64 (wrap64 (x.b + 1))) ⟨x.k, x.v, wrap64 (x.b + 1)⟩ (by decide) rfl
                    obtain ⟨q1, q2, q3⟩ := rowC_own own8
                    obtain ⟨D, hD⟩ : ∃ D : Cf, D = ⟨c.size, c.top, A4, c.comps.set k ⟨x.k, x.v, wrap64 (x.b + 1)⟩, cap4, A6, c.res, cap6⟩ := ⟨_, rfl⟩
                    have HT : Two w.heap.size c D ((w7.setCell ⟨w.heap.size + 1, 3, none⟩ (.slice A6 c.res.length cap6)).setCell ⟨g, k * 3 + 2, none⟩ (.int .i64 (wrap64 (x.b + 1)))) := by
                      subst hD
                      exact ⟨(B1.out.far (by simp) _).far (by simp; omega) _, by simpa [Cf.cells] using (B2.out.set_ 3 (.slice A6 c.res.length cap6)).far (p := ⟨g, k * 3 + 2, none⟩) (by simp; omega) (.int .i64 (wrap64 (x.b + 1))), HC.out.fr ((HF7.out.setCell (.inr (by simp)) _).setCell (.inr (by simp; omega)) _),
                        ⟨q3, rowC_far (rowC_far R67.out (fun a h => by have := FAR.out.2.1 a h; simp; omega) _) (fun a h => by have := SEP.out a _ h hA; simpa using this) _, by simpa using q1, m6, q2, n6, FAR.out.1.2, FAR.out.2.2⟩⟩
                    have HTF := Lib.hid (show Fr (fun _ => False) w ((w7.setCell ⟨w.heap.size + 1, 3, none⟩ (.slice A6 c.res.length cap6)).setCell ⟨g, k * 3 + 2, none⟩ (.int .i64 (wrap64 (x.b + 1)))) from (HF7.out.setCell (.inr (by simp)) _).setCell (.inr (by simp; omega)) _)
                    have HT := Lib.hid HT
                    have hsd : sameD x ⟨x.k, x.v, wrap64 (x.b + 1)⟩ = false := by simp only [sameD, Bool.and_eq_false_iff]; right; simp; unfold wrap64; omega
                    have A1 : alikeC c D = false := by subst hD; simp only [alikeC, (sameL_set (y := ⟨x.k, x.v, wrap64 (x.b + 1)⟩) hx).1, hsd, beq_self_eq_true, Bool.and_false]
                    have A2 : alikeC D c = false := by subst hD; simp only [alikeC, (sameL_set (y := ⟨x.k, x.v, wrap64 (x.b + 1)⟩) hx).2, beq_self_eq_true, Bool.true_and]; rw [← hsd]; simp only [sameD, BEq.comm]
                    have A1 := Lib.hid A1
                    have A2 := Lib.hid A2
                    have gx := gc 2 _ rfl
                    have gf' := gf (k * 3 + 2)
                    rw [World.cell?_of_block (Below.heap_setCell w7 _ _ _ (by simp; omega))] at gx
                    rw [World.frozen?_of_block (Below.heap_setCell w7 _ _ _ (by simp; omega))] at gf'
                    have g3 : w.heap.size + 1 < g := by omega
                    have g4 : g < w7.heap.size := by simpa using g2
                    subst hA
                    clear ownU gc gf gs own8 q1 q2 q3 hx hsd g1 g2
                    go_enter Tryz.func4, Tryz.ntmps4
                    go_wp2_with (first
                      | (go_at_call 9; refine (alike_r c D _ _ (by simp [hD, Cf.val]) HT.out.c1 HT.out.c2).mono ?_; rintro e w10 ⟨rfl, hf⟩; rw [A1.out]; obtain ⟨y0, y1, y2, y3, y4, y5, y6, y7⟩ := (HT.out.fr hf).cells; simp only [hD] at y4 y5 y6 y7; have H2 := Lib.hid (HT.out.fr hf); have H2F := Lib.hid (fr_two HTF.out hf); clear hf HT)
                      | (go_at_call 9; refine (alike_l D c _ _ (by simp [hD, Cf.val]) H2.out.c2 H2.out.c1).mono ?_; rintro e w11 ⟨rfl, hf⟩; rw [A2.out]; obtain ⟨z0, z1, z2, z3, z4, z5, z6, z7⟩ := (H2.out.fr hf).cells; have H3 := Lib.hid (H2.out.fr hf); have H3F := Lib.hid (fr_two H2F.out hf); clear hf H2)
                      | (go_at_call 9; refine (alike_any c c _ H3.out.c1 H3.out.c1).mono ?_; rintro e w12 ⟨rfl, hf⟩; rw [alikeC_refl]; have H4F := Lib.hid (fr_two H3F.out hf); clear hf H3)
                      | (go_at_call 8; refine (awake27_any (HE.out.fr H4F.out)).mono ?_; rintro e w' ⟨rfl, hf⟩))
                    go_ret
                    exact ⟨rfl, fr_two H4F.out hf⟩
                  · have e6 : (z == 6) = false := by simpa using h6
                    have A2 : alikeC ⟨c.size, c.top, A4, c.comps, cap4, A6, c.res, cap6⟩ c = true := by simp [alikeC, sameL_refl]
                    have A2 := Lib.hid A2
                    have hn : ¬ c.comps = [] := fun h => hnil (by rw [h]; rfl)
                    clear hnil h0 h1 h2 h3 h4 h5 h6
                    go_enter Tryz.func4, Tryz.ntmps4
                    go_wp2_with (first
                      | (go_at_call 9; refine (alike_any c _ _ HT.out.c1 HT.out.c2).mono ?_; rintro e w10 ⟨rfl, hf⟩; rw [A1.out]; obtain ⟨y0, y1, y2, y3, y4, y5, y6, y7⟩ := (HT.out.fr hf).cells; have H2 := Lib.hid (HT.out.fr hf); have H2F := Lib.hid (fr_two HTF.out hf); clear hf HT)
                      | (go_at_call 9; refine (alike_any _ c _ H2.out.c2 H2.out.c1).mono ?_; rintro e w11 ⟨rfl, hf⟩; rw [A2.out]; obtain ⟨z0, z1, z2, z3, z4, z5, z6, z7⟩ := (H2.out.fr hf).cells; have H3 := Lib.hid (H2.out.fr hf); have H3F := Lib.hid (fr_two H2F.out hf); clear hf H2)
                      | (go_at_call 9; refine (alike_any c c _ H3.out.c1 H3.out.c1).mono ?_; rintro e w12 ⟨rfl, hf⟩; rw [alikeC_refl]; have H4F := Lib.hid (fr_two H3F.out hf); clear hf H3)
                      | (go_at_call 8; refine (awake27_any (HE.out.fr H4F.out)).mono ?_; rintro e w' ⟨rfl, hf⟩))
                    go_ret
                    exact ⟨rfl, fr_two H4F.out hf⟩
end Go.Proofs.YtobbfbmnlmjppaaGreatDoor
