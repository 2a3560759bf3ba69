/-
  CodeTexts' walk.
-/
import Derived.Test.YtadnbkjjdkgfiaaDoorTxtD
import Derived.Test.YtadnbkjjdkgfiaaDoorTameA
namespace Go.Viv
open Go.Lib Go.Proofs.YtadnbkjjdkgfiaaDoor Go.RowKit
theorem neat_tame (o X : Nat) (h1 : 1 ≤ o) (h18 : o ≤ 18) : ∃ x, Neat (tameI o X 100 64 32) x := by
  have hoo : o = 1 ∨ o = 2 ∨ o = 3 ∨ o = 4 ∨ o = 5 ∨ o = 6 ∨ o = 7 ∨ o = 8 ∨ o = 9 ∨ o = 10 ∨ o = 11 ∨ o = 12 ∨ o = 13 ∨ o = 14 ∨ o = 15 ∨ o = 16 ∨ o = 17 ∨ o = 18 := by omega
  rcases hoo with rfl | rfl | rfl | rfl | rfl | rfl | rfl | rfl | rfl | rfl | rfl | rfl | rfl | rfl | rfl | rfl | rfl | rfl
  all_goals
    refine ⟨_, ⟨rfl, ?_, ?_, ?_, ?_, ?_, ?_⟩⟩
    all_goals simp [partI, formB, nI, two, numb, inI]
    all_goals try omega
theorem Neat.inr {i : Insn} {x : Shp} (h : Neat i x) : inI i.r ∧ inI i.s ∧ inI i.n := by
  refine ⟨?_, ?_, h.n1⟩
  · cases hx : x.r with
    | true => have := h.r1 hx; unfold inI; omega
    | false => have := h.r0 hx; unfold inI; omega
  · cases hx : x.s with
    | true => have := h.s1 hx; unfold inI; omega
    | false => have := h.s0 hx; unfold inI; omega
theorem text_short (i : Insn) (hi : inI i.r ∧ inI i.s ∧ inI i.n) : (textI i).length ≤ 100 := by
  have l1 := itoa_len hi.1
  have l2 := itoa_len hi.2.1
  have l3 := itoa_len hi.2.2
  rw [← tells_text]
  unfold tellsI
  split
  · simp
  · rename_i h
    have ln := nameAt_len (k := i.op.toNat) (by omega)
    rw [List.length_append]
    rcases form_kinds i.op with e | e | e | e | e
    all_goals
      rw [e]
      simp [tellL, tellC]
      omega
theorem regW_in {x : List UInt8} {r : Int} (h : regW x = some r) : inI r := by
  unfold regW at h
  split at h
  · split at h
    · injection h with h
      unfold inI
      omega
    · cases h
  · cases h
theorem read_in : ∀ (cs : List UInt8) (ws : List (List UInt8)) (i j : Insn), inI i.r ∧ inI i.s ∧ inI i.n → readL cs ws i = some j → inI j.r ∧ inI j.s ∧ inI j.n
  | [], _, i, j, hi, h => by simp [readL] at h; rw [← h]; exact hi
  | _ :: _, [], _, _, _, h => by simp [readL] at h
  | c :: cs, x :: xs, i, j, hi, h => by
    unfold readL at h
    split at h
    · split at h
      · rename_i hn
        exact read_in cs xs _ j (by exact ⟨hi.1, hi.2.1, (num_some hn).2⟩) h
      · cases h
    · split at h
      · split at h
        · rename_i hn
          exact read_in cs xs _ j (by exact ⟨regW_in hn, hi.2.1, hi.2.2⟩) h
        · cases h
      · split at h
        · split at h
          · rename_i hn
            exact read_in cs xs _ j (by exact ⟨hi.1, regW_in hn, hi.2.2⟩) h
          · cases h
        · cases h
theorem parse_inI {l : List UInt8} {i : Insn} (h : parseI (wds 32 l) = some i) : inI i.r ∧ inI i.s ∧ inI i.n := by
  rcases Int.lt_or_le (nameIdx ((wds 32 l).headD [])) 1 with h1 | h1
  · rw [parse_no h1] at h; cases h
  · obtain ⟨k, x, e, h2, h3, hx⟩ := name_range (l := (wds 32 l).headD []) (by omega)
    rw [parse_at ⟨h2, h3⟩ e] at h
    split at h
    · exact read_in _ _ _ _ (by simp [inI]) h
    · cases h
end Go.Viv
namespace Go.Proofs.YtadnbkjjdkgfiaaDoor
open Go.RowKit Go.Viv
theorem cellsR {w : World} {g : Nat} {a b c d : Value} (h : Blk w g 42 #[a, b, c, d]) : w.cell? ⟨g, 0, none⟩ = some a ∧ w.cell? ⟨g, 1, none⟩ = some b ∧ w.cell? ⟨g, 2, none⟩ = some c ∧ w.cell? ⟨g, 3, none⟩ = some d := blk4 h
set_option maxRecDepth 100000 in
set_option maxHeartbeats 4000000 in
theorem texts_of (raw T : Insn) (x : Int) (l : List UInt8) (p : Insn) (er : Int) (ok : Bool) (w : World) (he : EnvC w)
    (HT : ∀ W, W = w.alloc (.cells #[.int .i64 raw.op, .int .i64 raw.r, .int .i64 raw.s, .int .i64 raw.n] 42) → Calls Tryd.prog 25 #[.int .i64 x, .int .i64 100, .int .i64 64, .int .i64 32] W fun e w' => e = .returned T.agg ∧ Fr (fun _ => False) W w')
    (HX1 : ∃ s, (∀ W, Env W → Calls Tryd.prog 27 #[T.agg] W fun e w' => e = .returned (str s) ∧ Fr (fun _ => False) W w') ∧ (∀ W, Calls Tryd.prog 29 #[T.agg] W fun e w' => e = .returned (str s) ∧ Fr (fun _ => False) W w') ∧ (∀ W, EnvC W → Calls Tryd.prog 26 #[str s] W fun e w' => e = .returned (.tuple #[T.agg, .int .i64 0]) ∧ Fr (fun _ => False) W w'))
    (HX2 : ∃ s, (∀ W, Env W → Calls Tryd.prog 27 #[raw.agg] W fun e w' => e = .returned (str s) ∧ Fr (fun _ => False) W w') ∧ (∀ W, Calls Tryd.prog 29 #[raw.agg] W fun e w' => e = .returned (str s) ∧ Fr (fun _ => False) W w'))
    (HP1 : ∀ W, EnvC W → Calls Tryd.prog 26 #[str l] W fun e w' => e = .returned (.tuple #[p.agg, .int .i64 er]) ∧ Fr (fun _ => False) W w')
    (HP2 : ∀ W, Calls Tryd.prog 28 #[str l] W fun e w' => e = .returned (.tuple #[p.agg, .bool ok]) ∧ Fr (fun _ => False) W w')
    (HP3 : ok = true → ∀ W, Env W → Calls Tryd.prog 27 #[p.agg] W fun e w' => e = .returned (str l) ∧ Fr (fun _ => False) W w')
    (hcase : (ok = true ∧ er = 0) ∨ (ok = false ∧ er = 16)) :
    Calls Tryd.prog 8 #[raw.agg, .int .i64 x, str l] w fun e w' => e = .returned (.bool true) ∧ Fr (fun _ => False) w w' := by
  obtain ⟨sT, hT1, hT2, hT3⟩ := HX1
  obtain ⟨sR, hR1, hR2⟩ := HX2
  have HE := Lib.hid he
  have KT := Lib.hid HT
  have KT1 := Lib.hid hT1
  have KT2 := Lib.hid hT2
  have KT3 := Lib.hid hT3
  have KR1 := Lib.hid hR1
  have KR2 := Lib.hid hR2
  have KP1 := Lib.hid HP1
  have KP2 := Lib.hid HP2
  have KP3 := Lib.hid HP3
  have HC := Lib.hid hcase
  clear he HT hT1 hT2 hT3 hR1 hR2 HP1 HP2 HP3 hcase
  go_enter Tryd.func8, Tryd.ntmps8
  go_wp2_with fail
  refine (KT.out _ rfl).mono ?_
  rintro e w1 ⟨rfl, hf1⟩
  have b1 := (Blk.new w 42 #[.int .i64 raw.op, .int .i64 raw.r, .int .i64 raw.s, .int .i64 raw.n]).fr hf1 (fun h => h)
  have H1 := Lib.hid (And.intro b1 (fr_two (Fr.alloc1 (fun _ => False) _ _) hf1))
  clear b1 hf1
  go_wp2_with fail
  refine (KT1.out _ (HE.out.env.fr (H1.out.2.alloc _))).mono ?_
  rintro e w2 ⟨rfl, hf2⟩
  have H2 := Lib.hid (show Blk w2 w.heap.size 42 #[.int .i64 raw.op, .int .i64 raw.r, .int .i64 raw.s, .int .i64 raw.n] ∧ Blk w2 w1.heap.size 42 #[.int .i64 T.op, .int .i64 T.r, .int .i64 T.s, .int .i64 T.n] ∧ Fr (fun _ => False) w w2 from
    ⟨(H1.out.1.alloc _).fr hf2 (fun h => h), (Blk.new _ _ _).fr hf2 (fun h => h), fr_two (H1.out.2.alloc _) hf2⟩)
  clear hf2
  go_wp2_with fail
  refine (KT3.out _ (HE.out.fr H2.out.2.2)).mono ?_
  rintro e w3 ⟨rfl, hf3⟩
  have H3 := Lib.hid hf3
  clear hf3
  go_wp2_with fail
  refine (KP1.out _ (HE.out.fr (fr_two H2.out.2.2 (H3.out.alloc _)))).mono ?_
  rintro e w4 ⟨rfl, hf4⟩
  have H4 := Lib.hid hf4
  clear hf4
  go_wp2_with fail
  refine (KP2.out _).mono ?_
  rintro e w5 ⟨rfl, hf5⟩
  have H5 := Lib.hid hf5
  clear hf5
  go_wp2_with fail
  obtain ⟨W6, hW6⟩ : ∃ W, W = w5.alloc (.cells #[.int .i64 p.op, .int .i64 p.r, .int .i64 p.s, .int .i64 p.n] 42) := ⟨_, rfl⟩
  have f56 : Fr (fun _ => False) w5 W6 := by rw [hW6]; exact Fr.alloc1 _ _ _
  have b5 : Blk W6 w5.heap.size 42 #[.int .i64 p.op, .int .i64 p.r, .int .i64 p.s, .int .i64 p.n] := by rw [hW6]; exact Blk.new _ _ _
  have f46 : Fr (fun _ => False) (w4.alloc (.cells #[.int .i64 p.op, .int .i64 p.r, .int .i64 p.s, .int .i64 p.n] 42)) W6 := fr_two H5.out f56
  have b4 : Blk W6 w4.heap.size 42 #[.int .i64 p.op, .int .i64 p.r, .int .i64 p.s, .int .i64 p.n] := (Blk.new _ _ _).fr f46 (fun h => h)
  have f36 : Fr (fun _ => False) (w3.alloc (.cells #[.int .i64 T.op, .int .i64 T.r, .int .i64 T.s, .int .i64 T.n] 42)) W6 := fr_two (H4.out.alloc _) f46
  have b3 : Blk W6 w3.heap.size 42 #[.int .i64 T.op, .int .i64 T.r, .int .i64 T.s, .int .i64 T.n] := (Blk.new _ _ _).fr f36 (fun h => h)
  have f26 : Fr (fun _ => False) w2 W6 := fr_two (H3.out.alloc _) f36
  have b2 := H2.out.2.1.fr f26 (fun h => h)
  have b1 := H2.out.1.fr f26 (fun h => h)
  have H6 := Lib.hid (fr_two H2.out.2.2 f26)
  rw [← hW6]
  obtain ⟨g0, hg0⟩ : ∃ g, w.heap.size = g := ⟨_, rfl⟩
  obtain ⟨g1, hg1⟩ : ∃ g, w1.heap.size = g := ⟨_, rfl⟩
  obtain ⟨g3, hg3⟩ : ∃ g, w3.heap.size = g := ⟨_, rfl⟩
  obtain ⟨g4, hg4⟩ : ∃ g, w4.heap.size = g := ⟨_, rfl⟩
  obtain ⟨g5, hg5⟩ : ∃ g, w5.heap.size = g := ⟨_, rfl⟩
  rw [hg0] at b1
  rw [hg1] at b2
  rw [hg3] at b3
  rw [hg4] at b4
  rw [hg5] at b5
  rw [hg0, hg1, hg3, hg4, hg5]
  clear hW6 f56 f46 f36 f26 H2 H3 H4 H5 H1 hg0 hg1 hg3 hg4 hg5
  have lt1 := b1.lt
  have lt2 := b2.lt
  have lt3 := b3.lt
  have lt4 := b4.lt
  have lt5 := b5.lt
  obtain ⟨c0, c1, c2, c3⟩ := blk4 b1
  obtain ⟨d0, d1, d2, d3⟩ := blk4 b2
  obtain ⟨e0, e1, e2, e3⟩ := blk4 b3
  obtain ⟨m0, m1, m2, m3⟩ := blk4 b4
  obtain ⟨n0, n1, n2, n3⟩ := blk4 b5
  clear b1 b2 b3 b4 b5
  have k0 := cell_regrown c0
  have k1 := cell_regrown c1
  have k2 := cell_regrown c2
  have k3 := cell_regrown c3
  have i0 := cell_regrown d0
  have i1 := cell_regrown d1
  have i2 := cell_regrown d2
  have i3 := cell_regrown d3
  have j0 := cell_regrown e0
  have j1 := cell_regrown e1
  have j2 := cell_regrown e2
  have j3 := cell_regrown e3
  have q0 := cell_regrown m0
  have q1 := cell_regrown m1
  have q2 := cell_regrown m2
  have q3 := cell_regrown m3
  have t0 := cell_regrown n0
  have t1 := cell_regrown n1
  have t2 := cell_regrown n2
  have t3 := cell_regrown n3
  clear c0 c1 c2 c3 d0 d1 d2 d3 e0 e1 e2 e3 m0 m1 m2 m3 n0 n1 n2 n3
  have HEE := Lib.hid (HE.out.fr H6.out)
  rcases HC.out with ⟨rfl, rfl⟩ | ⟨rfl, rfl⟩
  · have KP4 := Lib.hid (KP3.out rfl)
    clear KP3
    go_wp2_with fail
    refine wp_region_quiet_below (by kernel_rfl) (by kernel_rfl) ?_
    repeat (first | go_big_quiet_step (first | (go_at_call 27; with_reducible exact calls_reg (KR1.out _ (HEE.out.env.fr (fr_regrown (Fr.refl _ _) _ _)))) | (go_at_call 27; with_reducible exact calls_reg (KT1.out _ (HEE.out.env.fr (fr_regrown (Fr.refl _ _) _ _)))) | (go_at_call 27; exact calls_reg (KP4.out _ (HEE.out.env.fr (fr_regrown (Fr.refl _ _) _ _)))) | (go_at_call 29; with_reducible exact calls_reg (KR2.out _)) | (go_at_call 29; with_reducible exact calls_reg (KT2.out _)) | (go_at_call 30; exact calls_reg (cawake_any _ (HEE.out.fr (fr_regrown (Fr.refl _ _) _ _))))) | quiet_step (first | (go_at_call 27; with_reducible exact calls_reg (KR1.out _ (HEE.out.env.fr (fr_regrown (Fr.refl _ _) _ _)))) | (go_at_call 27; with_reducible exact calls_reg (KT1.out _ (HEE.out.env.fr (fr_regrown (Fr.refl _ _) _ _)))) | (go_at_call 27; exact calls_reg (KP4.out _ (HEE.out.env.fr (fr_regrown (Fr.refl _ _) _ _)))) | (go_at_call 29; with_reducible exact calls_reg (KR2.out _)) | (go_at_call 29; with_reducible exact calls_reg (KT2.out _)) | (go_at_call 30; exact calls_reg (cawake_any _ (HEE.out.fr (fr_regrown (Fr.refl _ _) _ _))))))
    refine wpQuiet_nil ?_
    intro wq hq
    obtain ⟨pq, rfl⟩ := hq
    go_wp2
    go_ret
    exact ⟨rfl, fr_regrown H6.out _ _⟩
  · go_wp2_with fail
    refine wp_region_quiet_below (by kernel_rfl) (by kernel_rfl) ?_
    repeat (first | go_big_quiet_step (first | (go_at_call 27; with_reducible exact calls_reg (KR1.out _ (HEE.out.env.fr (fr_regrown (Fr.refl _ _) _ _)))) | (go_at_call 27; with_reducible exact calls_reg (KT1.out _ (HEE.out.env.fr (fr_regrown (Fr.refl _ _) _ _)))) | (go_at_call 29; with_reducible exact calls_reg (KR2.out _)) | (go_at_call 29; with_reducible exact calls_reg (KT2.out _)) | (go_at_call 30; exact calls_reg (cawake_any _ (HEE.out.fr (fr_regrown (Fr.refl _ _) _ _))))) | quiet_step (first | (go_at_call 27; with_reducible exact calls_reg (KR1.out _ (HEE.out.env.fr (fr_regrown (Fr.refl _ _) _ _)))) | (go_at_call 27; with_reducible exact calls_reg (KT1.out _ (HEE.out.env.fr (fr_regrown (Fr.refl _ _) _ _)))) | (go_at_call 29; with_reducible exact calls_reg (KR2.out _)) | (go_at_call 29; with_reducible exact calls_reg (KT2.out _)) | (go_at_call 30; exact calls_reg (cawake_any _ (HEE.out.fr (fr_regrown (Fr.refl _ _) _ _))))))
    refine wpQuiet_nil ?_
    intro wq hq
    obtain ⟨pq, rfl⟩ := hq
    go_wp2
    go_ret
    exact ⟨rfl, fr_regrown H6.out _ _⟩
theorem texts_any (raw : Insn) (x : Int) (l : List UInt8) (w : World) (he : EnvC w) (hi : inI raw.r ∧ inI raw.s ∧ inI raw.n) (hl : l.length < 4294967281) :
    Calls Tryd.prog 8 #[raw.agg, .int .i64 x, str l] w fun e w' => e = .returned (.bool true) ∧ Fr (fun _ => False) w w' := by
  obtain ⟨oo, X, h1, h2, _, hT⟩ := tame_any x 100 64 32 (by omega) (by omega) (by omega) (w.alloc (.cells #[.int .i64 raw.op, .int .i64 raw.r, .int .i64 raw.s, .int .i64 raw.n] 42))
  obtain ⟨y, hn⟩ := neat_tame oo X h1 h2
  have hs := text_short _ hn.inr
  have hpn := parse_neat hn
  obtain ⟨T, hTT⟩ : ∃ T, tameI oo X 100 64 32 = T := ⟨_, rfl⟩
  rw [hTT] at hT hn hs hpn
  clear hTT
  have hP1 : ∀ W, EnvC W → Calls Tryd.prog 26 #[str l] W fun e w' => e = .returned (.tuple #[((parseI (wds 32 l)).getD ⟨0, 0, 0, 0⟩).agg, .int .i64 (errI (parseI (wds 32 l)))]) ∧ Fr (fun _ => False) W w' := fun W hW => by
    have := cparse_any l W hW hl
    rw [words_wds] at this
    exact this
  have hP2 : ∀ W, Calls Tryd.prog 28 #[str l] W fun e w' => e = .returned (.tuple #[((parseI (wds 32 l)).getD ⟨0, 0, 0, 0⟩).agg, .bool (parseI (wds 32 l)).isSome]) ∧ Fr (fun _ => False) W w' := fun W => readsR_any l W hl
  refine texts_of raw T x l _ _ (parseI (wds 32 l)).isSome w he (fun W hW => by rw [hW]; exact hT)
    ⟨textI T, fun W hW => ctext_any T W hW hn.inr, fun W => tellsR_any T W hn.inr, fun W hW => by
      have := cparse_any (textI T) W hW (by omega)
      rw [words_wds, hpn] at this
      exact this⟩
    ⟨textI raw, fun W hW => ctext_any raw W hW hi, fun W => tellsR_any raw W hi⟩ hP1 hP2 ?_ ?_
  · intro hok W hW
    cases hr : parseI (wds 32 l) with
    | none => rw [hr] at hok; cases hok
    | some i =>
      have h1 := text_parse hr
      have h2 := parse_inI hr
      show Calls Tryd.prog 27 #[i.agg] W _
      have := ctext_any i W hW h2
      rw [h1] at this
      exact this
  · cases hr : parseI (wds 32 l) with
    | none => exact .inr ⟨rfl, rfl⟩
    | some i => exact .inl ⟨rfl, rfl⟩
end Go.Proofs.YtadnbkjjdkgfiaaDoor
