/-
  Contracts of package plan: col.
-/
import Derived.Test.YtibailpbjdfjfaaDoorPlnG
namespace Go.Viv
open Go.RowKit
theorem ext_one (c : UInt8) (d : List UInt8) : (ByteArray.mk (c :: d).toArray).extract 0 1 = ⟨#[c]⟩ := by rw [ext_list]; rfl
theorem ext_rest (c : UInt8) (d : List UInt8) : (ByteArray.mk (c :: d).toArray).extract 1 (d.length + 1) = ⟨d.toArray⟩ := by rw [ext_list]; simp
/-- What the walk of col has laid: the answer's block, the column's. -/
structure ColSt (w W : World) (t : TypeId) (g2 g4 : Nat) (k v : Int) : Prop where
  b2 : Blk W g2 t #[.int .i64 0, .int .i64 0]
  b4 : Blk W g4 t #[.int .i64 k, .int .i64 v]
  ne : g4 ≠ g2
  lo : w.heap.size ≤ g2
  fr : Fr (fun _ => False) w W
theorem ColSt.made (w : World) (t : TypeId) (k v : Int) : ColSt w ((w.alloc (.cells #[.int .i64 0, .int .i64 0] t)).alloc (.cells #[.int .i64 k, .int .i64 v] t)) t w.heap.size (w.heap.size + 1) k v :=
  ⟨(Blk.new w t _).alloc _, by have := Blk.new (w.alloc (.cells #[.int .i64 0, .int .i64 0] t)) t #[.int .i64 k, .int .i64 v]; simpa using this, by omega, Nat.le_refl _, (Fr.alloc1 _ _ _).alloc _⟩
theorem ColSt.on {w W W' : World} {t : TypeId} {g2 g4 : Nat} {k v : Int} (h : ColSt w W t g2 g4 k v) (hf : Fr (fun _ => False) W W') : ColSt w W' t g2 g4 k v :=
  ⟨h.b2.fr hf (fun h => h), h.b4.fr hf (fun h => h), h.ne, h.lo, fr_two h.fr hf⟩
theorem ColSt.put {w W : World} {t : TypeId} {g2 g4 : Nat} {k v : Int} (h : ColSt w W t g2 g4 k v) (u : Int) (hlo : w.heap.size ≤ g4) : ColSt w (W.setCell ⟨g4, 1, none⟩ (.int .i64 u)) t g2 g4 k u :=
  ⟨h.b2.far (by show g2 ≠ g4; exact Ne.symm h.ne) _, h.b4.set_ 1 _, h.ne, h.lo, h.fr.setCell (.inr hlo) _⟩
/-- The answer laid into its block. -/
theorem ColSt.done {W W' : World} {g2 : Nat} (hf : Fr (fun x => x = g2) W W') (a b : Value) : Fr (fun x => x = g2) W ((W'.setCell ⟨g2, 0, none⟩ a).setCell ⟨g2, 1, none⟩ b) :=
  (hf.setCell (.inl rfl) _).setCell (.inl rfl) _
end Go.Viv
namespace Go.Proofs.YtibailpbjdfjfaaDoor
open Go.RowKit Go.Viv
set_option maxRecDepth 100000 in
set_option maxHeartbeats 2000000 in
theorem col_e (d : List UInt8) (w : World) (he : EnvP w) (hd : d.length ≤ 281474976710655) : Calls Tryd.prog 22 #[str (101 :: d)] w (ColA (101 :: d) w) := by
  have HI := Lib.hid (fun W => show Calls Tryd.prog 32 #[.string ⟨#[32, 114, 119, 109, 110, 101]⟩, .string ⟨#[101]⟩] W fun e w' => e = .returned (.int .i64 5) ∧ w' = W from Tryd.strings_Index_one ⟨#[32, 114, 119, 109, 110, 101]⟩ 101 W)
  have HT := Lib.hid (fun W (hW : Fr (fun _ => False) w W) => show Calls Tryd.prog 18 #[Coln.agg ⟨5, 0⟩] W fun e w' => e = .returned (str [101]) ∧ Fr (fun _ => False) W w' from coltext_any ⟨5, 0⟩ W (he.fr hW) (by simp [inI]))
  have HC := Lib.hid (colP_e d)
  have x1 := ext_one 101 d
  clear he
  go_enter Tryd.func22, Tryd.ntmps22
  go_wp2_with fail
  refine (HI.out _).mono ?_
  rintro e w1 ⟨rfl, rfl⟩
  go_wp2_with fail
  have hst := ColSt.made w 43 5 0
  obtain ⟨W, hW⟩ : ∃ W, W = (w.alloc (.cells #[.int .i64 0, .int .i64 0] 43)).alloc (.cells #[.int .i64 5, .int .i64 0] 43) := ⟨_, rfl⟩
  rw [← hW] at hst ⊢
  clear hW
  obtain ⟨g2, hg2⟩ : ∃ g, w.heap.size = g := ⟨_, rfl⟩
  obtain ⟨g4, hg4⟩ : ∃ g, w.heap.size + 1 = g := ⟨_, rfl⟩
  rw [hg4] at hst ⊢
  have hst2 : ColSt w W 43 g2 g4 5 0 := by rw [← hg2]; exact hst
  rw [hg2]
  clear hst hg2 hg4
  have q0 := cell_cl (S := fun x => x = g2) (show W.cell? ⟨g4, 0, none⟩ = some (.int .i64 (5)) from hst2.b4.cell 0) hst2.ne
  have q1 := cell_cl (S := fun x => x = g2) (show W.cell? ⟨g4, 1, none⟩ = some (.int .i64 (0)) from hst2.b4.cell 1) hst2.ne
  have lt2 := hst2.b2.lt
  have lt4 := hst2.b4.lt
  have HS := Lib.hid hst2
  clear hst2
  by_cases hd0 : d = []
  · subst hd0
    refine Mix.wp_region_mixS (S := fun w' => ∃ p : Cl (fun x => x = g2) W, w' = p.w) [(0, true), (1, true), (2, true), (3, true), (4, true), (5, true), (7, true), (6, false), (8, true), (9, true), (10, true), (11, true), (12, true), (13, true), (14, true), (15, false), (16, true)] (by kernel_rfl) (by kernel_rfl) (by intro c d v a w h; cases d <;> exact h) (cl_drew _ _) ?_
    repeat (refine Mix.mix_read rfl rfl ?_; (first | go_big_quiet_step (fail) | quiet_step (fail)); refine wpQuiet_nil ?_)
    refine Mix.mix_does rfl ?_
    go_wp2_with fail
    refine (HT.out _ (HS.out.fr.drew)).mono ?_
    rintro e w2 ⟨rfl, hf2⟩
    have hf3 : Fr (fun x => x = g2) W w2 := ((Fr.refl _ _).drew).trans hf2 (fun _ h => h.elim)
    have hst3 := (HS.out.on (Fr.refl _ _).drew).on hf2
    clear hf2
    have s0 : w2.cell? ⟨g2, 0, none⟩ = some (.int .i64 0) := hst3.b2.cell 0
    have s1 : w2.cell? ⟨g2, 1, none⟩ = some (.int .i64 0) := hst3.b2.cell 1
    have z0 := hst3.b2.frozen 0
    have z1 := hst3.b2.frozen 1
    have H3 := Lib.hid (And.intro hf3 hst3)
    clear hf3 hst3
    go_wp2_with fail
    refine behind_cl H3.out.1 ?_
    repeat (refine Mix.mix_read rfl rfl ?_; (first | go_big_quiet_step (fail) | quiet_step (fail)); refine wpQuiet_nil ?_)
    refine Mix.mix_does rfl ?_
    go_wp2_with fail
    refine behind_cl (ColSt.done H3.out.1 _ _) ?_
    repeat (refine Mix.mix_read rfl rfl ?_; (first | go_big_quiet_step (fail) | quiet_step (fail)); refine wpQuiet_nil ?_)
    refine Mix.mix_nil ?_
    go_wp2
    refine bodyPost_ret (v := .tuple #[.agg #[.int .i64 (5), .int .i64 (0)], .bool true]) (by simp [results, Tryd.results22, go_sem, s0, s1] <;> omega) rfl ⟨⟨5, 0⟩, ?_, ?_, ?_⟩
    · rw [HC.out]; rfl
    · intro y hy
      rw [HC.out] at hy
      exact (Option.some.inj hy).symm
    · exact H3.out.2.fr.setCell (.inr H3.out.2.lo) _ |>.setCell (.inr H3.out.2.lo) _
  · have hne : ([101] == (101 :: d)) = false := beq_eq_false_iff_ne.2 (fun h => hd0 (by injection h with _ h; exact h.symm))
    have hne2 : ([] == d) = false := beq_eq_false_iff_ne.2 (fun h => hd0 h.symm)
    have hne3 : ¬ [] = d := fun h => hd0 h.symm
    have HC2 := Lib.hid (show colP (101 :: d) = none from by rw [HC.out, if_neg hd0])
    clear hd0
    refine Mix.wp_region_mixS (S := fun w' => ∃ p : Cl (fun x => x = g2) W, w' = p.w) [(0, true), (1, true), (2, true), (3, true), (4, true), (5, true), (7, true), (6, false), (8, true), (9, true), (10, true), (11, true), (12, true), (13, true), (14, true), (15, false), (16, true)] (by kernel_rfl) (by kernel_rfl) (by intro c d v a w h; cases d <;> exact h) (cl_drew _ _) ?_
    repeat (refine Mix.mix_read rfl rfl ?_; (first | go_big_quiet_step (fail) | quiet_step (fail)); refine wpQuiet_nil ?_)
    refine Mix.mix_does rfl ?_
    go_wp2_with fail
    refine (HT.out _ (HS.out.fr.drew)).mono ?_
    rintro e w2 ⟨rfl, hf2⟩
    have hf3 : Fr (fun x => x = g2) W w2 := ((Fr.refl _ _).drew).trans hf2 (fun _ h => h.elim)
    have hst3 := (HS.out.on (Fr.refl _ _).drew).on hf2
    clear hf2
    have s0 : w2.cell? ⟨g2, 0, none⟩ = some (.int .i64 0) := hst3.b2.cell 0
    have s1 : w2.cell? ⟨g2, 1, none⟩ = some (.int .i64 0) := hst3.b2.cell 1
    have z0 := hst3.b2.frozen 0
    have z1 := hst3.b2.frozen 1
    have H3 := Lib.hid (And.intro hf3 hst3)
    clear hf3 hst3
    go_wp2_with fail
    refine behind_cl H3.out.1 ?_
    repeat (refine Mix.mix_read rfl rfl ?_; (first | go_big_quiet_step (fail) | quiet_step (fail)); refine wpQuiet_nil ?_)
    refine Mix.mix_does rfl ?_
    go_wp2_with fail
    refine behind_cl (ColSt.done H3.out.1 _ _) ?_
    repeat (refine Mix.mix_read rfl rfl ?_; (first | go_big_quiet_step (fail) | quiet_step (fail)); refine wpQuiet_nil ?_)
    refine Mix.mix_nil ?_
    go_wp2
    refine bodyPost_ret (v := .tuple #[.agg #[.int .i64 (5), .int .i64 (0)], .bool false]) (by simp [results, Tryd.results22, go_sem, s0, s1] <;> omega) rfl ⟨⟨5, 0⟩, ?_, ?_, ?_⟩
    · rw [HC2.out]; rfl
    · intro y hy
      rw [HC2.out] at hy
      cases hy
    · exact H3.out.2.fr.setCell (.inr H3.out.2.lo) _ |>.setCell (.inr H3.out.2.lo) _
set_option maxRecDepth 100000 in
set_option maxHeartbeats 2000000 in
theorem col_no (c : UInt8) (d : List UInt8) (kx : Int) (w : World) (he : EnvP w) (hd : d.length ≤ 281474976710655) (hkx : idxL c = kx) (h1 : kx < 1) (hn : colP (c :: d) = none) : Calls Tryd.prog 22 #[str (c :: d)] w (ColA (c :: d) w) := by
  have HE := Lib.hid he
  have HI := Lib.hid (fun W => show Calls Tryd.prog 32 #[.string ⟨#[32, 114, 119, 109, 110, 101]⟩, .string ⟨#[c]⟩] W fun e w' => e = .returned (.int .i64 kx) ∧ w' = W from by rw [← hkx]; exact Tryd.strings_Index_one ⟨#[32, 114, 119, 109, 110, 101]⟩ c W)
  have HA := Lib.hid (fun W (hW : Fr (fun _ => False) w W) => atoi_any d W (he.fr hW) hd)
  have x1 := ext_one c d
  have x2 := ext_rest c d
  clear he hkx
  have HN := Lib.hid hn
  have h1d : decide (1 ≤ kx) = false := by simp; omega
  clear hn
  go_enter Tryd.func22, Tryd.ntmps22
  go_wp2_with fail
  refine (HI.out _).mono ?_
  rintro e w1 ⟨rfl, rfl⟩
  go_wp2_with fail
  have hst := ColSt.made w 43 kx 0
  refine (HA.out _ hst.fr).mono ?_
  rintro e w3 ⟨v, er, rfl, hat, hf3⟩
  have hst1 := hst.on hf3
  have y0 : w3.cell? ⟨w.heap.size + 1, 1, none⟩ = some (.int .i64 0) := hst1.b4.cell 1
  have y1 := hst1.b4.frozen 1
  have hst4 := hst1.put v (by omega)
  have HAT := Lib.hid hat
  clear hst hst1 hf3 hat
  go_wp2_with fail
  clear y0 y1
  obtain ⟨W, hW⟩ : ∃ W, W = w3.setCell ⟨w.heap.size + 1, 1, none⟩ (.int .i64 v) := ⟨_, rfl⟩
  rw [← hW] at hst4 ⊢
  clear hW
  obtain ⟨g2, hg2⟩ : ∃ g, w.heap.size = g := ⟨_, rfl⟩
  obtain ⟨g4, hg4⟩ : ∃ g, w.heap.size + 1 = g := ⟨_, rfl⟩
  rw [hg4] at hst4 ⊢
  have hst2 : ColSt w W 43 g2 g4 kx v := by rw [← hg2]; exact hst4
  rw [hg2]
  clear hst4 hg2 hg4
  have q0 := cell_cl (S := fun x => x = g2) (show W.cell? ⟨g4, 0, none⟩ = some (.int .i64 (kx)) from hst2.b4.cell 0) hst2.ne
  have q1 := cell_cl (S := fun x => x = g2) (show W.cell? ⟨g4, 1, none⟩ = some (.int .i64 (v)) from hst2.b4.cell 1) hst2.ne
  have lt2 := hst2.b2.lt
  have lt4 := hst2.b4.lt
  have HS := Lib.hid hst2
  clear hst2
  refine Mix.wp_region_mixS (S := fun w' => ∃ p : Cl (fun x => x = g2) W, w' = p.w) [(0, true), (1, true), (2, true), (3, true), (4, true), (5, true), (7, true), (6, false), (8, true), (9, true), (10, true), (11, true), (12, true), (13, true), (14, true), (15, false), (16, true)] (by kernel_rfl) (by kernel_rfl) (by intro c d v a w h; cases d <;> exact h) (cl_drew _ _) ?_
  repeat (refine Mix.mix_read rfl rfl ?_; (first | go_big_quiet_step (fail) | quiet_step (fail)); refine wpQuiet_nil ?_)
  refine Mix.mix_does rfl ?_
  go_wp2_with fail
  obtain ⟨w2, hw2⟩ : ∃ w2, w2 = W.drew := ⟨_, rfl⟩
  rw [← hw2]
  have hf3 : Fr (fun x => x = g2) W w2 := by rw [hw2]; exact (Fr.refl _ _).drew
  have hst3 : ColSt w w2 43 g2 g4 (kx) (v) := by rw [hw2]; exact HS.out.on (Fr.refl _ _).drew
  clear hw2
  have s0 : w2.cell? ⟨g2, 0, none⟩ = some (.int .i64 0) := hst3.b2.cell 0
  have s1 : w2.cell? ⟨g2, 1, none⟩ = some (.int .i64 0) := hst3.b2.cell 1
  have z0 := hst3.b2.frozen 0
  have z1 := hst3.b2.frozen 1
  have H3 := Lib.hid (And.intro hf3 hst3)
  clear hf3 hst3
  refine behind_cl H3.out.1 ?_
  repeat (refine Mix.mix_read rfl rfl ?_; (first | go_big_quiet_step (fail) | quiet_step (fail)); refine wpQuiet_nil ?_)
  refine Mix.mix_does rfl ?_
  go_wp2_with fail
  refine behind_cl (ColSt.done H3.out.1 _ _) ?_
  repeat (refine Mix.mix_read rfl rfl ?_; (first | go_big_quiet_step (fail) | quiet_step (fail)); refine wpQuiet_nil ?_)
  refine Mix.mix_nil ?_
  go_wp2
  refine bodyPost_ret (v := .tuple #[.agg #[.int .i64 (kx), .int .i64 (v)], .bool false]) (by simp [results, Tryd.results22, go_sem, s0, s1] <;> omega) rfl ⟨⟨kx, v⟩, ?_, ?_, ?_⟩
  · rw [HN.out]; rfl
  · intro y hy
    rw [HN.out] at hy
    cases hy
  · exact H3.out.2.fr.setCell (.inr H3.out.2.lo) _ |>.setCell (.inr H3.out.2.lo) _
set_option maxRecDepth 100000 in
set_option maxHeartbeats 2000000 in
theorem col_yes (c : UInt8) (d : List UInt8) (kx : Int) (w : World) (he : EnvP w) (hd : d.length ≤ 281474976710655) (hkx : idxL c = kx) (h1 : 1 ≤ kx) (h4 : kx ≤ 4) (hc : c ≠ 101) (hk : kindL c = kx) : Calls Tryd.prog 22 #[str (c :: d)] w (ColA (c :: d) w) := by
  have HE := Lib.hid he
  have HI := Lib.hid (fun W => show Calls Tryd.prog 32 #[.string ⟨#[32, 114, 119, 109, 110, 101]⟩, .string ⟨#[c]⟩] W fun e w' => e = .returned (.int .i64 kx) ∧ w' = W from by rw [← hkx]; exact Tryd.strings_Index_one ⟨#[32, 114, 119, 109, 110, 101]⟩ c W)
  have HA := Lib.hid (fun W (hW : Fr (fun _ => False) w W) => atoi_any d W (he.fr hW) hd)
  have x1 := ext_one c d
  have x2 := ext_rest c d
  clear he hkx
  have HK := Lib.hid (And.intro hc hk)
  clear hc hk
  go_enter Tryd.func22, Tryd.ntmps22
  go_wp2_with fail
  refine (HI.out _).mono ?_
  rintro e w1 ⟨rfl, rfl⟩
  go_wp2_with fail
  have hst := ColSt.made w 43 kx 0
  refine (HA.out _ hst.fr).mono ?_
  rintro e w3 ⟨v, er, rfl, hat, hf3⟩
  have hst1 := hst.on hf3
  have y0 : w3.cell? ⟨w.heap.size + 1, 1, none⟩ = some (.int .i64 0) := hst1.b4.cell 1
  have y1 := hst1.b4.frozen 1
  have hst4 := hst1.put v (by omega)
  have HAT := Lib.hid hat
  clear hst hst1 hf3 hat
  go_wp2_with fail
  clear y0 y1
  obtain ⟨W, hW⟩ : ∃ W, W = w3.setCell ⟨w.heap.size + 1, 1, none⟩ (.int .i64 v) := ⟨_, rfl⟩
  rw [← hW] at hst4 ⊢
  clear hW
  obtain ⟨g2, hg2⟩ : ∃ g, w.heap.size = g := ⟨_, rfl⟩
  obtain ⟨g4, hg4⟩ : ∃ g, w.heap.size + 1 = g := ⟨_, rfl⟩
  rw [hg4] at hst4 ⊢
  have hst2 : ColSt w W 43 g2 g4 kx v := by rw [← hg2]; exact hst4
  rw [hg2]
  clear hst4 hg2 hg4
  have q0 := cell_cl (S := fun x => x = g2) (show W.cell? ⟨g4, 0, none⟩ = some (.int .i64 (kx)) from hst2.b4.cell 0) hst2.ne
  have q1 := cell_cl (S := fun x => x = g2) (show W.cell? ⟨g4, 1, none⟩ = some (.int .i64 (v)) from hst2.b4.cell 1) hst2.ne
  have lt2 := hst2.b2.lt
  have lt4 := hst2.b4.lt
  have HS := Lib.hid hst2
  clear hst2
  have hcp := colP_told HK.out.1 (by rw [HK.out.2]; exact h1) HAT.out
  rw [HK.out.2] at hcp
  have HT := Lib.hid (fun W (hW : Fr (fun _ => False) w W) => coltext_any ⟨kx, v⟩ W (HE.out.fr hW) HAT.out.1)
  obtain ⟨T, hT⟩ : ∃ T, textK ⟨kx, v⟩ = T := ⟨_, rfl⟩
  rw [hT] at hcp HT
  clear hT
  by_cases ht : T = c :: d
  · subst ht
    by_cases hl : (c :: d).length ≤ 4
    · have hl2 : (d.length : Int) + 1 ≤ 4 := by simp at hl; omega
      have hl3 : d.length + 1 ≤ 4 := by simp at hl; omega
      have HC := Lib.hid (show colP (c :: d) = some ⟨kx, v⟩ from by rw [hcp, if_pos ⟨rfl, hl⟩])
      clear hcp hl
      refine Mix.wp_region_mixS (S := fun w' => ∃ p : Cl (fun x => x = g2) W, w' = p.w) [(0, true), (1, true), (2, true), (3, true), (4, true), (5, true), (7, true), (6, false), (8, true), (9, true), (10, true), (11, true), (12, true), (13, true), (14, true), (15, false), (16, true)] (by kernel_rfl) (by kernel_rfl) (by intro c d v a w h; cases d <;> exact h) (cl_drew _ _) ?_
      repeat (refine Mix.mix_read rfl rfl ?_; (first | go_big_quiet_step (fail) | quiet_step (fail)); refine wpQuiet_nil ?_)
      refine Mix.mix_does rfl ?_
      go_wp2_with fail
      refine (HT.out _ (HS.out.fr.drew)).mono ?_
      rintro e w2 ⟨rfl, hf2⟩
      have hf3 : Fr (fun x => x = g2) W w2 := ((Fr.refl _ _).drew).trans hf2 (fun _ h => h.elim)
      have hst3 := (HS.out.on (Fr.refl _ _).drew).on hf2
      clear hf2
      have s0 : w2.cell? ⟨g2, 0, none⟩ = some (.int .i64 0) := hst3.b2.cell 0
      have s1 : w2.cell? ⟨g2, 1, none⟩ = some (.int .i64 0) := hst3.b2.cell 1
      have z0 := hst3.b2.frozen 0
      have z1 := hst3.b2.frozen 1
      have H3 := Lib.hid (And.intro hf3 hst3)
      clear hf3 hst3
      go_wp2_with fail
      refine behind_cl H3.out.1 ?_
      repeat (refine Mix.mix_read rfl rfl ?_; (first | go_big_quiet_step (fail) | quiet_step (fail)); refine wpQuiet_nil ?_)
      refine Mix.mix_does rfl ?_
      go_wp2_with fail
      refine behind_cl (ColSt.done H3.out.1 _ _) ?_
      repeat (refine Mix.mix_read rfl rfl ?_; (first | go_big_quiet_step (fail) | quiet_step (fail)); refine wpQuiet_nil ?_)
      refine Mix.mix_nil ?_
      go_wp2
      refine bodyPost_ret (v := .tuple #[.agg #[.int .i64 (kx), .int .i64 (v)], .bool true]) (by simp [results, Tryd.results22, go_sem, s0, s1] <;> omega) rfl ⟨⟨kx, v⟩, ?_, ?_, ?_⟩
      · rw [HC.out]; rfl
      · intro y hy
        rw [HC.out] at hy
        exact (Option.some.inj hy).symm
      · exact H3.out.2.fr.setCell (.inr H3.out.2.lo) _ |>.setCell (.inr H3.out.2.lo) _
    · have hl2 : ¬ (d.length : Int) + 1 ≤ 4 := by simp at hl; omega
      have hl3 : ¬ d.length + 1 ≤ 4 := by simp at hl; omega
      have HC := Lib.hid (show colP (c :: d) = none from by rw [hcp, if_neg (fun h => hl h.2)])
      clear hcp hl
      refine Mix.wp_region_mixS (S := fun w' => ∃ p : Cl (fun x => x = g2) W, w' = p.w) [(0, true), (1, true), (2, true), (3, true), (4, true), (5, true), (7, true), (6, false), (8, true), (9, true), (10, true), (11, true), (12, true), (13, true), (14, true), (15, false), (16, true)] (by kernel_rfl) (by kernel_rfl) (by intro c d v a w h; cases d <;> exact h) (cl_drew _ _) ?_
      repeat (refine Mix.mix_read rfl rfl ?_; (first | go_big_quiet_step (fail) | quiet_step (fail)); refine wpQuiet_nil ?_)
      refine Mix.mix_does rfl ?_
      go_wp2_with fail
      refine (HT.out _ (HS.out.fr.drew)).mono ?_
      rintro e w2 ⟨rfl, hf2⟩
      have hf3 : Fr (fun x => x = g2) W w2 := ((Fr.refl _ _).drew).trans hf2 (fun _ h => h.elim)
      have hst3 := (HS.out.on (Fr.refl _ _).drew).on hf2
      clear hf2
      have s0 : w2.cell? ⟨g2, 0, none⟩ = some (.int .i64 0) := hst3.b2.cell 0
      have s1 : w2.cell? ⟨g2, 1, none⟩ = some (.int .i64 0) := hst3.b2.cell 1
      have z0 := hst3.b2.frozen 0
      have z1 := hst3.b2.frozen 1
      have H3 := Lib.hid (And.intro hf3 hst3)
      clear hf3 hst3
      go_wp2_with fail
      refine behind_cl H3.out.1 ?_
      repeat (refine Mix.mix_read rfl rfl ?_; (first | go_big_quiet_step (fail) | quiet_step (fail)); refine wpQuiet_nil ?_)
      refine Mix.mix_does rfl ?_
      go_wp2_with fail
      refine behind_cl (ColSt.done H3.out.1 _ _) ?_
      repeat (refine Mix.mix_read rfl rfl ?_; (first | go_big_quiet_step (fail) | quiet_step (fail)); refine wpQuiet_nil ?_)
      refine Mix.mix_nil ?_
      go_wp2
      refine bodyPost_ret (v := .tuple #[.agg #[.int .i64 (kx), .int .i64 (v)], .bool false]) (by simp [results, Tryd.results22, go_sem, s0, s1] <;> omega) rfl ⟨⟨kx, v⟩, ?_, ?_, ?_⟩
      · rw [HC.out]; rfl
      · intro y hy
        rw [HC.out] at hy
        cases hy
      · exact H3.out.2.fr.setCell (.inr H3.out.2.lo) _ |>.setCell (.inr H3.out.2.lo) _
  · have HC := Lib.hid (show colP (c :: d) = none from by rw [hcp, if_neg (fun h => ht h.1)])
    have ht2 : (T == c :: d) = false := beq_eq_false_iff_ne.2 ht
    clear hcp
    refine Mix.wp_region_mixS (S := fun w' => ∃ p : Cl (fun x => x = g2) W, w' = p.w) [(0, true), (1, true), (2, true), (3, true), (4, true), (5, true), (7, true), (6, false), (8, true), (9, true), (10, true), (11, true), (12, true), (13, true), (14, true), (15, false), (16, true)] (by kernel_rfl) (by kernel_rfl) (by intro c d v a w h; cases d <;> exact h) (cl_drew _ _) ?_
    repeat (refine Mix.mix_read rfl rfl ?_; (first | go_big_quiet_step (fail) | quiet_step (fail)); refine wpQuiet_nil ?_)
    refine Mix.mix_does rfl ?_
    go_wp2_with fail
    refine (HT.out _ (HS.out.fr.drew)).mono ?_
    rintro e w2 ⟨rfl, hf2⟩
    have hf3 : Fr (fun x => x = g2) W w2 := ((Fr.refl _ _).drew).trans hf2 (fun _ h => h.elim)
    have hst3 := (HS.out.on (Fr.refl _ _).drew).on hf2
    clear hf2
    have s0 : w2.cell? ⟨g2, 0, none⟩ = some (.int .i64 0) := hst3.b2.cell 0
    have s1 : w2.cell? ⟨g2, 1, none⟩ = some (.int .i64 0) := hst3.b2.cell 1
    have z0 := hst3.b2.frozen 0
    have z1 := hst3.b2.frozen 1
    have H3 := Lib.hid (And.intro hf3 hst3)
    clear hf3 hst3
    go_wp2_with fail
    refine behind_cl H3.out.1 ?_
    repeat (refine Mix.mix_read rfl rfl ?_; (first | go_big_quiet_step (fail) | quiet_step (fail)); refine wpQuiet_nil ?_)
    refine Mix.mix_does rfl ?_
    go_wp2_with fail
    refine behind_cl (ColSt.done H3.out.1 _ _) ?_
    repeat (refine Mix.mix_read rfl rfl ?_; (first | go_big_quiet_step (fail) | quiet_step (fail)); refine wpQuiet_nil ?_)
    refine Mix.mix_nil ?_
    go_wp2
    refine bodyPost_ret (v := .tuple #[.agg #[.int .i64 (kx), .int .i64 (v)], .bool false]) (by simp [results, Tryd.results22, go_sem, s0, s1] <;> omega) rfl ⟨⟨kx, v⟩, ?_, ?_, ?_⟩
    · rw [HC.out]; rfl
    · intro y hy
      rw [HC.out] at hy
      cases hy
    · exact H3.out.2.fr.setCell (.inr H3.out.2.lo) _ |>.setCell (.inr H3.out.2.lo) _
theorem col_any (l : List UInt8) (w : World) (he : EnvP w) (hd : l.length ≤ 281474976710655) : Calls Tryd.prog 22 #[str l] w (ColA l w) := by
  cases l with
  | nil => exact col_nil w
  | cons c d =>
    have hd' : d.length ≤ 281474976710655 := by simp at hd; omega
    by_cases hc : c = 101
    · subst hc; exact col_e d w he hd'
    · rcases idxL_kind hc with ⟨h0, hx⟩ | ⟨h1, h4, hx⟩
      · exact col_no c d _ w he hd' rfl (by omega) (colP_none hc h0)
      · exact col_yes c d _ w he hd' hx h1 h4 hc rfl
end Go.Proofs.YtibailpbjdfjfaaDoor
