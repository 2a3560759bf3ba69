/-
  The walk of ValueTells.
-/
import Derived.Test.YtadnbkjjdkgfiaaDoorValTC
namespace Go.Proofs.YtadnbkjjdkgfiaaDoor
open Go.RowKit Go.Viv

theorem okb_fr (x : Val) (b : Bool) (ho : okV x = b) (w : World) : Calls Tryd.prog 21 #[x.agg] w fun e w' => e = .returned (.bool b) ∧ Fr (fun _ => False) w w' :=
  (ok_any x w).mono fun _ _ ⟨h1, h2⟩ => ⟨by rw [h1, ho], by subst h2; exact Fr.alloc1 _ _ _⟩
theorem refokb_fr (x : Val) (b : Bool) (ho : okV x = b) (w : World) : Calls Tryd.prog 22 #[x.agg] w fun e w' => e = .returned (.bool b) ∧ Fr (fun _ => False) w w' :=
  (refok_any x w).mono fun _ _ ⟨h1, h2⟩ => ⟨by rw [h1, ho], by subst h2; exact Fr.alloc1 _ _ _⟩
theorem int_fr (n : Int) (w : World) : Calls Tryd.prog 14 #[.int .i64 n] w fun e w' => e = .returned (Val.agg ⟨1, n, 0⟩) ∧ Fr (fun _ => False) w w' :=
  (int_any n w).mono fun _ _ ⟨h1, h2⟩ => ⟨h1, by subst h2; exact Fr.alloc1 _ _ _⟩
theorem pair_fr (a b : Int) (w : World) : Calls Tryd.prog 15 #[.int .i64 a, .int .i64 b] w fun e w' => e = .returned (Val.agg ⟨2, a, b⟩) ∧ Fr (fun _ => False) w w' :=
  (pair_any a b w).mono fun _ _ ⟨h1, h2⟩ => ⟨h1, by subst h2; exact Fr.alloc1 _ _ _⟩
theorem tag_fr (w : World) : Calls Tryd.prog 16 #[] w fun e w' => e = .returned (Val.agg ⟨3, 0, 0⟩) ∧ Fr (fun _ => False) w w' :=
  (tag_any w).mono fun _ _ ⟨h1, h2⟩ => ⟨h1, by subst h2; exact Fr.alloc1 _ _ _⟩

theorem zero_cases (k : Int) : (zeroOf k = true ∧ 1 ≤ k ∧ k ≤ 3) ∨ (zeroOf k = false ∧ k < 1) ∨ (zeroOf k = false ∧ 3 < k ∧ 1 ≤ k) := by
  unfold zeroOf okV
  by_cases h1 : k < 1
  · exact .inr (.inl ⟨by rw [if_neg (by simp; omega), if_neg (by simp; omega), if_neg (by simp; omega)], h1⟩)
  · by_cases h3 : 3 < k
    · exact .inr (.inr ⟨by rw [if_neg (by simp; omega), if_neg (by simp; omega), if_neg (by simp; omega)], h3, by omega⟩)
    · refine .inl ⟨?_, by omega, by omega⟩
      have : k = 1 ∨ k = 2 ∨ k = 3 := by omega
      rcases this with rfl | rfl | rfl <;> rfl

set_option maxRecDepth 100000 in
set_option maxHeartbeats 2000000 in
theorem tells_any (v : Val) (l : List UInt8) (a b k : Int) (w : World) (he : Env w) (hv : inV v) (hs : l.length ≤ 281474976710656) :
    Calls Tryd.prog 4 #[v.agg, str l, .int .i64 a, .int .i64 b, .int .i64 k] w fun e w' => e = .returned (.bool true) ∧ Fr (fun _ => False) w w' := by
  have HE := Lib.hid he
  have HP := Lib.hid (fun W (h : Env W) => parse_any l W h hs)
  have HQ := Lib.hid (fun W => refparse_any l W hs)
  obtain ⟨z, hz⟩ : ∃ z, (parseV l).getD Val.zero = z := ⟨_, rfl⟩
  obtain ⟨bz, hbz⟩ : ∃ b, (parseV l).isSome = b := ⟨_, rfl⟩
  have HZ := Lib.hid (And.intro hz hbz)
  obtain ⟨bo, hbo⟩ : ∃ b, okV v = b := ⟨_, rfl⟩
  have HO := Lib.hid hbo
  obtain ⟨T, hT⟩ : ∃ T, textV v = T := ⟨_, rfl⟩
  have HT1 := Lib.hid (fun W (h : Env W) => show Calls Tryd.prog 13 #[v.agg] W fun e w' => e = .returned (str T) ∧ Fr (fun _ => False) W w' from by rw [← hT]; exact text_any v W h hv)
  have HT2 := Lib.hid (fun W => show Calls Tryd.prog 23 #[v.agg] W fun e w' => e = .returned (str T) ∧ Fr (fun _ => False) W w' from by rw [← hT]; exact reftext_any v W hv)
  clear he hs hz hbz hbo hT hv
  have hk := zero_cases k
  go_enter Tryd.func4, Tryd.ntmps4
  go_wp2_with fail
  refine (HP.out _ (HE.out.alloc _)).mono ?_
  rintro e w1 ⟨rfl, hf1⟩
  rw [HZ.out.1, HZ.out.2]
  have H1 := Lib.hid hf1
  clear hf1
  go_wp2_with fail
  refine (HQ.out _).mono ?_
  rintro e w2 ⟨rfl, hf2⟩
  rw [HZ.out.1, HZ.out.2]
  have H2 := Lib.hid hf2
  clear hf2
  go_wp2_with fail
  refine (zero_any k _).mono ?_
  rintro e w3 ⟨rfl, hf3⟩
  have H3 := Lib.hid hf3
  clear hf3
  obtain ⟨q, hq⟩ : ∃ q : Val, (if zeroOf k then ⟨k, 0, 0⟩ else Val.zero) = q := ⟨_, rfl⟩
  rw [hq]
  have HQQ := Lib.hid hq
  clear hq
  have F1 := Lib.hid (show Fr (fun _ => False) (w.alloc (.cells #[.int .i64 v.k, .int .i64 v.a, .int .i64 v.b] 24)) (w3.alloc (.cells #[.int .i64 q.k, .int .i64 q.a, .int .i64 q.b] 24)) from (fr_two (fr_two H1.out (fr_two (Fr.alloc1 _ _ _) H2.out)) (fr_two (Fr.alloc1 _ _ _) H3.out)).alloc _)
  have F2 := Lib.hid (show Fr (fun _ => False) (w1.alloc (.cells #[.int .i64 z.k, .int .i64 z.a, .int .i64 z.b] 24)) (w3.alloc (.cells #[.int .i64 q.k, .int .i64 q.a, .int .i64 q.b] 24)) from (fr_two H2.out (fr_two (Fr.alloc1 _ _ _) H3.out)).alloc _)
  have F3 := Lib.hid (show Fr (fun _ => False) (w2.alloc (.cells #[.int .i64 z.k, .int .i64 z.a, .int .i64 z.b] 24)) (w3.alloc (.cells #[.int .i64 q.k, .int .i64 q.a, .int .i64 q.b] 24)) from H3.out.alloc _)
  obtain ⟨⟨c0, c1, c2⟩, -, -⟩ := ((Res.new w v.k v.a v.b).fr F1.out).cells
  obtain ⟨⟨d0, d1, d2⟩, -, -⟩ := ((Res.new w1 z.k z.a z.b).fr F2.out).cells
  obtain ⟨⟨e0, e1, e2⟩, -, -⟩ := ((Res.new w2 z.k z.a z.b).fr F3.out).cells
  have k0 := cell_regrown c0
  have k1 := cell_regrown c1
  have k2 := cell_regrown c2
  have i0 := cell_regrown d0
  have i1 := cell_regrown d1
  have i2 := cell_regrown d2
  have j0 := cell_regrown e0
  have j1 := cell_regrown e1
  have j2 := cell_regrown e2
  clear c0 c1 c2 d0 d1 d2 e0 e1 e2
  have HEE := Lib.hid ((HE.out.alloc _).fr F1.out)
  rcases hk with ⟨hz, h1, h3⟩ | ⟨hz, h1⟩ | ⟨hz, h3, h1⟩
  all_goals
    have hq2 := HQQ.out
    rw [hz] at hq2
    simp only [if_true, Bool.false_eq_true, if_false, Val.zero] at hq2
    subst hq2
    rw [hz]
    clear hz
    go_wp2_with fail
    refine wp_region_quiet_below (by kernel_rfl) (by kernel_rfl) ?_
    repeat (first | go_big_quiet_step (first | (go_at_call 21; exact calls_reg (okb_fr v bo HO.out _)) | (go_at_call 22; exact calls_reg (refokb_fr v bo HO.out _)) | (go_at_call 13; exact calls_reg (HT1.out _ (HEE.out.fr (fr_regrown (Fr.refl _ _) _ _)))) | (go_at_call 23; exact calls_reg (HT2.out _)) | (go_at_call 14; exact calls_reg (int_fr a _)) | (go_at_call 15; exact calls_reg (pair_fr a b _)) | (go_at_call 16; exact calls_reg (tag_fr _)) | (go_at_call 18; exact calls_reg (awake_any _ (HEE.out.fr (fr_regrown (Fr.refl _ _) _ _))))) | quiet_step (fail))
    refine wpQuiet_nil ?_
    intro wq hq
    obtain ⟨pq, rfl⟩ := hq
    go_wp2
    go_ret
    exact ⟨rfl, fr_regrown (fr_two (Fr.alloc1 _ _ _) F1.out) _ _⟩
end Go.Proofs.YtadnbkjjdkgfiaaDoor
