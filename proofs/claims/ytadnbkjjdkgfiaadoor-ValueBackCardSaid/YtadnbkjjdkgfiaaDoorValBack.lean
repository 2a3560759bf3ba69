/-
  The walk of ValueBack.
-/
import Derived.Test.YtadnbkjjdkgfiaaDoorValG
import Derived.Deep.RegionHeld3
import Derived.Lib.QuietBelow
import Derived.BigQuiet
import Derived.Outline
namespace Go.Viv
open Go.Lib Go.Proofs.YtadnbkjjdkgfiaaDoor
abbrev cellsV (v : Val) : List Value := [.int .i64 v.k, .int .i64 v.a, .int .i64 v.b]
theorem blk_at {W : World} {L : Nat} {t : TypeId} {cs : Array Value} (h : L = W.heap.size) : Blk (W.alloc (.cells cs t)) L t cs := h ▸ Blk.new _ _ _
/-- Six values in a row. -/
structure Row6 (w : World) (L : Nat) (vs : List Val) : Prop where
  blk : Blk w L 24 (vs.flatMap cellsV).toArray
theorem flat3 {vs : List Val} {i : Nat} {v : Val} (h : vs[i]? = some v) : (vs.flatMap cellsV)[i * 3]? = some (.int .i64 v.k) ∧ (vs.flatMap cellsV)[i * 3 + 1]? = some (.int .i64 v.a) ∧ (vs.flatMap cellsV)[i * 3 + 2]? = some (.int .i64 v.b) := by
  induction vs generalizing i with
  | nil => simp at h
  | cons x r ih =>
    cases i with
    | zero =>
      obtain rfl : x = v := by simpa using h
      simp [cellsV]
    | succ j =>
      have h' : r[j]? = some v := by simpa using h
      obtain ⟨h1, h2, h3⟩ := ih h'
      have e : ∀ n, ((x :: r).flatMap cellsV)[n + 3]? = (r.flatMap cellsV)[n]? := fun n => by simp [cellsV]
      refine ⟨?_, ?_, ?_⟩
      · rw [show (j + 1) * 3 = j * 3 + 3 by omega, e]; exact h1
      · rw [show (j + 1) * 3 + 1 = (j * 3 + 1) + 3 by omega, e]; exact h2
      · rw [show (j + 1) * 3 + 2 = (j * 3 + 2) + 3 by omega, e]; exact h3
theorem Row6.cells {w : World} {L : Nat} {vs : List Val} (h : Row6 w L vs) {i : Nat} {v : Val} (hi : vs[i]? = some v) :
    w.cell? ⟨L, i * 3, none⟩ = some (.int .i64 v.k) ∧ w.cell? ⟨L, i * 3 + 1, none⟩ = some (.int .i64 v.a) ∧ w.cell? ⟨L, i * 3 + 2, none⟩ = some (.int .i64 v.b) := by
  obtain ⟨h1, h2, h3⟩ := flat3 hi
  exact ⟨by rw [h.blk.cell]; simpa using h1, by rw [h.blk.cell]; simpa using h2, by rw [h.blk.cell]; simpa using h3⟩
theorem Row6.fr {w w' : World} {L : Nat} {vs : List Val} (h : Row6 w L vs) (hf : Fr (fun _ => False) w w') : Row6 w' L vs := ⟨h.blk.fr hf (fun h => h)⟩
theorem parse_of (v : Val) (hv : inV v) : parseV (textV v) = if okV v then some v else none := by
  cases h : okV v with
  | true => exact parse_text h hv
  | false => rw [text_off h]; exact parse_empty
end Go.Viv
namespace Go.Proofs.YtadnbkjjdkgfiaaDoor
open Go.RowKit Go.Viv


open Go.Sort in
theorem fr_reg {V W : World} (h : Fr (fun _ => False) V W) (d : Nat) (os : Array Obj) : Fr (fun _ => False) V (grow (redrawn W d) os) :=
  fr_no h (fr_below (below_regrown W d os))
open Go.Sort in
/-- A contract of a callee that leaves what was there as it was, met in the walk of a region. -/
theorem Calls.reg {P : Program} {f : FuncId} {args : Array Value} {W : World} {d : Nat} {os : Array Obj} {v : Value}
    (h : Calls P f args (grow (redrawn W d) os) fun e w' => e = .returned v ∧ Fr (fun _ => False) (grow (redrawn W d) os) w') : Calls P f args (grow (redrawn W d) os) fun e w'' => e = .returned v ∧ ∃ p : Regrown, w'' = grow (redrawn W p.d) p.os :=
  Calls.regrown_of (h.mono fun _ _ ⟨h1, h2⟩ => ⟨h1, h2.below (Nat.le_refl _) (fun _ h => h.elim)⟩)
theorem ok_fr (x : Val) (b : Bool) (ho : okV x = b) (w : World) : Calls Tryd.prog 21 #[x.agg] w fun e w' => e = .returned (.bool b) ∧ Fr (fun _ => False) w w' :=
  (ok_any x w).mono fun e w' ⟨h1, h2⟩ => ⟨by rw [h1, ho], by subst h2; exact Fr.alloc1 _ _ _⟩

set_option maxRecDepth 100000 in
set_option maxHeartbeats 2000000 in
theorem back_any (v u : Val) (a b : Int) (w : World) (he : Env w) (hv : inV v) (hu : inV u) (ha : inI a) (hb : inI b) : Calls Tryd.prog 5 #[v.agg, u.agg, .int .i64 a, .int .i64 b] w fun e w' => e = .returned (.bool true) ∧ Fr (fun _ => False) w w' := by
  have HE := Lib.hid he
  have i0 : inI 0 := by simp [inI]
  obtain ⟨vs, hvs⟩ : ∃ vs : List Val, vs = [v, u, ⟨1, a, 0⟩, ⟨2, a, b⟩, ⟨3, 0, 0⟩, ⟨1, b, 0⟩] := ⟨_, rfl⟩
  have hin : ∀ x ∈ vs, inV x := by
    intro x hx
    rw [hvs] at hx
    simp only [List.mem_cons, List.mem_nil_iff, or_false] at hx
    rcases hx with rfl | rfl | rfl | rfl | rfl | rfl
    · exact hv
    · exact hu
    · exact ⟨ha, i0⟩
    · exact ⟨ha, hb⟩
    · exact ⟨i0, i0⟩
    · exact ⟨hb, i0⟩
  have hlen : vs.length = 6 := by rw [hvs]; rfl
  have HVS := Lib.hid (And.intro hvs (And.intro hin hlen))
  clear he i0 hvs hin hlen
  have KS := Lib.hid (fun W (h : Fr (fun _ => False) ((w.alloc (.cells #[.int .i64 v.k, .int .i64 v.a, .int .i64 v.b] 24)).alloc (.cells #[.int .i64 u.k, .int .i64 u.a, .int .i64 u.b] 24)) W) =>
    And.intro (((Res.new w v.k v.a v.b).fr (Fr.alloc1 _ _ _)).fr h).cells.1 (show (W.cell? ⟨w.heap.size + 1, 0, none⟩ = some (.int .i64 u.k) ∧ W.cell? ⟨w.heap.size + 1, 1, none⟩ = some (.int .i64 u.a) ∧ W.cell? ⟨w.heap.size + 1, 2, none⟩ = some (.int .i64 u.b)) from by
      have := ((Res.new (w.alloc (.cells #[.int .i64 v.k, .int .i64 v.a, .int .i64 v.b] 24)) u.k u.a u.b).fr h).cells.1
      simpa using this))
  go_enter Tryd.func5, Tryd.ntmps5
  go_upto_region 1 with fail
  go_cut [9] (fun t9 wx => ∃ L : Nat, t9 = .slice (some ⟨L, 0, none⟩) 6 6 ∧ Row6 wx L vs ∧ Fr (fun _ => False) w wx)
  case first =>
    go_region_held (fun w' => (w'.cell? ⟨w.heap.size, 0, none⟩ = some (.int .i64 v.k) ∧ w'.cell? ⟨w.heap.size, 1, none⟩ = some (.int .i64 v.a) ∧ w'.cell? ⟨w.heap.size, 2, none⟩ = some (.int .i64 v.b)) ∧ (w'.cell? ⟨w.heap.size + 1, 0, none⟩ = some (.int .i64 u.k) ∧ w'.cell? ⟨w.heap.size + 1, 1, none⟩ = some (.int .i64 u.a) ∧ w'.cell? ⟨w.heap.size + 1, 2, none⟩ = some (.int .i64 u.b)))
      (exact KS.out _ (by repeat (first | exact Fr.refl _ _ | apply Fr.alloc | apply Fr.drew)))
      (first
        | (go_at_call 14; refine (int_any _ _).mono ?_; rintro e w1 ⟨rfl, rfl⟩)
        | (go_at_call 15; refine (pair_any _ _ _).mono ?_; rintro e w2 ⟨rfl, rfl⟩)
        | (go_at_call 16; refine (tag_any _).mono ?_; rintro e w3 ⟨rfl, rfl⟩))
    all_goals
      go_wp2_with fail
      go_meet
    refine ⟨_, rfl, ⟨?_⟩, ?_⟩
    · rw [HVS.out.1]
      exact (blk_at (by simp)).drew
    · repeat (first | exact Fr.refl _ _ | apply Fr.alloc | apply Fr.drew)
  case rest =>
    obtain ⟨L, rfl, hrow, hfr⟩ := hcut
    obtain ⟨wa, hwa⟩ : ∃ wa, wa = wc := ⟨wc, rfl⟩
    subst hwa
    have HA := Lib.hid (And.intro hrow hfr)
    clear hrow hfr KS
    go_wp2_with fail
    go_loopw [10] (fun t wr => ∃ i : Nat, i ≤ 6 ∧ t = .int .i64 i ∧ Row6 wr L vs ∧ Fr (fun _ => False) w wr) (fun t _ => 6 - (intOf t).toNat)
    case atStart => exact ⟨0, by omega, rfl, HA.out.1, HA.out.2⟩
    case round =>
      obtain ⟨i, hi, rfl, hrow, hfr⟩ := hrel
      by_cases hlt : i < 6
      · have hlt' : (i : Int) < 6 := by omega
        have hi0 : (0 : Int) ≤ i := by omega
        obtain ⟨x, hx⟩ : ∃ x, vs[i]? = some x := ⟨_, List.getElem?_eq_getElem (by rw [HVS.out.2.2]; exact hlt)⟩
        have hxi := HVS.out.2.1 x (List.mem_of_getElem? hx)
        obtain ⟨c0, c1, c2⟩ := hrow.cells hx
        have HX := Lib.hid (And.intro hrow (And.intro hfr (And.intro hx hxi)))
        have HL := Lib.hid (text_len hxi)
        obtain ⟨wB, hwB⟩ : ∃ wB, wB = wr := ⟨wr, rfl⟩
        subst hwB
        clear hrow hfr hx HA
        obtain ⟨bo, ho⟩ : ∃ b, okV x = b := ⟨_, rfl⟩
        have HO := Lib.hid ho
        have HP := Lib.hid (show parseV (textV x) = if bo then some x else none by rw [parse_of x hxi, ho])
        have HT := Lib.hid (show bo = false → textV x = [] from fun h => text_off (by rw [ho, h]))
        clear ho
        obtain ⟨T, hT⟩ : ∃ T, textV x = T := ⟨_, rfl⟩
        have HTT := Lib.hid hT
        have HL2 := Lib.hid (show T.length ≤ 281474976710656 from by rw [← hT]; exact Nat.le_trans HL.out (by decide))
        clear hT
        go_wp2_with fail
        refine (text_any x _ (HE.out.fr HX.out.2.1) hxi).mono ?_
        rintro e w1 ⟨rfl, hf1⟩
        rw [HTT.out]
        have H1 := Lib.hid hf1
        clear hf1
        go_wp2_with fail
        refine (parse_any T _ (HE.out.fr (fr_no HX.out.2.1 H1.out)) HL2.out).mono ?_
        rintro e w2 ⟨rfl, hf2⟩
        rw [← HTT.out, HP.out, HTT.out]
        have H2 := Lib.hid (fr_no H1.out hf2)
        clear hf2
        obtain ⟨z, hz⟩ : ∃ z : Val, ((if bo then some x else none : Option Val).getD Val.zero) = z := ⟨_, rfl⟩
        have hz2 : ((if bo then some x else none : Option Val).isSome) = bo := by cases bo <;> rfl
        rw [hz, hz2]
        have HZ := Lib.hid hz
        clear hz hz2
        go_wp2_with fail
        have KS := Lib.hid (fun W (h : Fr (fun _ => False) (w2.alloc (.cells #[.int .i64 z.k, .int .i64 z.a, .int .i64 z.b] 24)) W) => And.intro (((HX.out.1.fr H2.out).fr (fr_no (Fr.alloc1 _ _ _) h)).cells HX.out.2.2.1) ((Res.new w2 z.k z.a z.b).fr h).cells.1)
        go_cut [67] (fun t wx => t = .bool false ∧ Fr (fun _ => False) wB wx)
        case first =>
          obtain ⟨⟨d0, d1, d2⟩, e0, e1, e2⟩ := KS.out _ (Fr.refl _ _)
          have k0 := cell_regrown d0
          have k1 := cell_regrown d1
          have k2 := cell_regrown d2
          have j0 := cell_regrown e0
          have j1 := cell_regrown e1
          have j2 := cell_regrown e2
          clear d0 d1 d2 e0 e1 e2 KS
          cases bo with
          | true =>
            obtain rfl : x = z := HZ.out
            refine wp_region_quiet_below (by kernel_rfl) (by kernel_rfl) ?_
            repeat (first | go_big_quiet_step (exact Calls.reg (ok_fr x true HO.out _)) | quiet_step (exact Calls.reg (ok_fr x true HO.out _)))
            refine wpQuiet_nil ?_
            intro wq hq
            obtain ⟨pq, rfl⟩ := hq
            go_wp2_with fail
            go_meet
            exact ⟨rfl, fr_reg (H2.out.alloc _) _ _⟩
          | false =>
            obtain rfl : [] = T := by rw [← HTT.out]; exact (HT.out rfl).symm
            refine wp_region_quiet_below (by kernel_rfl) (by kernel_rfl) ?_
            repeat (first | go_big_quiet_step (exact Calls.reg (ok_fr x false HO.out _)) | quiet_step (exact Calls.reg (ok_fr x false HO.out _)))
            refine wpQuiet_nil ?_
            intro wq hq
            obtain ⟨pq, rfl⟩ := hq
            go_wp2_with fail
            go_meet
            exact ⟨rfl, fr_reg (H2.out.alloc _) _ _⟩
        case rest =>
          obtain ⟨rfl, hf3⟩ := hcut
          obtain ⟨wD, hwD⟩ : ∃ wD, wD = wc := ⟨wc, rfl⟩
          subst hwD
          have H3 := Lib.hid (And.intro (HX.out.1.fr hf3) (fr_no HX.out.2.1 hf3))
          clear hf3 KS c0 c1 c2 HP
          go_wp2_with fail
          go_loopw [14] (fun t wr => ∃ k : Nat, k ≤ 6 ∧ t = .int .i64 k ∧ Row6 wr L vs ∧ Fr (fun _ => False) w wr) (fun t _ => 6 - (intOf t).toNat)
          case atStart => exact ⟨0, by omega, rfl, H3.out.1, H3.out.2⟩
          case round =>
            obtain ⟨k, hk, rfl, hrow, hfr⟩ := hrel
            by_cases hlt2 : k < 6
            · have hlt2' : (k : Int) < 6 := by omega
              have hk0 : (0 : Int) ≤ k := by omega
              obtain ⟨y, hy⟩ : ∃ y, vs[k]? = some y := ⟨_, List.getElem?_eq_getElem (by rw [HVS.out.2.2]; exact hlt2)⟩
              have hyi := HVS.out.2.1 y (List.mem_of_getElem? hy)
              have HY := Lib.hid (And.intro hrow (And.intro hfr (And.intro hy hyi)))
              obtain ⟨wE, hwE⟩ : ∃ wE, wE = wr := ⟨wr, rfl⟩
              subst hwE
              obtain ⟨⟨d0, d1, d2⟩, e0, e1, e2⟩ := And.intro (hrow.cells hy) (hrow.cells HX.out.2.2.1)
              have k0 := cell_regrown d0
              have k1 := cell_regrown d1
              have k2 := cell_regrown d2
              have j0 := cell_regrown e0
              have j1 := cell_regrown e1
              have j2 := cell_regrown e2
              clear hrow hfr hy d0 d1 d2 e0 e1 e2
              obtain ⟨by_, hoy⟩ : ∃ b, okV y = b := ⟨_, rfl⟩
              have HOY := Lib.hid hoy
              clear hoy
              go_wp2_with fail
              go_cut [100] (fun t wx => t = .bool false ∧ Fr (fun _ => False) wE wx)
              case first =>
                have HEE := Lib.hid (HE.out.fr HY.out.2.1)
                cases bo with
                | false =>
                  refine wp_region_quiet_below (by kernel_rfl) (by kernel_rfl) ?_
                  repeat (first | go_big_quiet_step (fail) | quiet_step (fail))
                  refine wpQuiet_nil ?_
                  intro wq hq
                  obtain ⟨pq, rfl⟩ := hq
                  go_wp2_with fail
                  go_meet
                  exact ⟨rfl, fr_reg (Fr.refl _ _) _ _⟩
                | true =>
                  cases by_ with
                  | false =>
                    refine wp_region_quiet_below (by kernel_rfl) (by kernel_rfl) ?_
                    repeat (first | go_big_quiet_step (exact Calls.reg (ok_fr y false HOY.out _)) | quiet_step (exact Calls.reg (ok_fr y false HOY.out _)))
                    refine wpQuiet_nil ?_
                    intro wq hq
                    obtain ⟨pq, rfl⟩ := hq
                    go_wp2_with fail
                    go_meet
                    exact ⟨rfl, fr_reg (Fr.refl _ _) _ _⟩
                  | true =>
                    obtain ⟨TY, hTY⟩ : ∃ T, textV y = T := ⟨_, rfl⟩
                    have HTY := Lib.hid (show ∀ W, Env W → Calls Tryd.prog 13 #[y.agg] W fun e w' => e = .returned (str TY) ∧ Fr (fun _ => False) W w' from fun W hW => by rw [← hTY]; exact text_any y W hW HY.out.2.2.2)
                    by_cases hyx : y = x
                    · subst hyx
                      obtain rfl : T = TY := by rw [← HTT.out, ← hTY]
                      clear hTY
                      refine wp_region_quiet_below (by kernel_rfl) (by kernel_rfl) ?_
                      repeat (first | go_big_quiet_step (first | (go_at_call 21; exact Calls.reg (ok_fr y true HOY.out _)) | (go_at_call 13; exact Calls.reg (HTY.out _ (HEE.out.fr (fr_reg (Fr.refl _ _) _ _))))) | quiet_step (first | (go_at_call 21; exact Calls.reg (ok_fr y true HOY.out _)) | (go_at_call 13; exact Calls.reg (HTY.out _ (HEE.out.fr (fr_reg (Fr.refl _ _) _ _))))))
                      refine wpQuiet_nil ?_
                      intro wq hq
                      obtain ⟨pq, rfl⟩ := hq
                      go_wp2_with fail
                      go_meet
                      exact ⟨rfl, fr_reg (Fr.refl _ _) _ _⟩
                    · have hT1 : (TY == T) = false := by
                        rw [← hTY, ← HTT.out]
                        exact beq_eq_false_iff_ne.2 (fun h => hyx (text_inj HOY.out HO.out HY.out.2.2.2 hxi h))
                      have hparts : ((y.k == x.k) = false) ∨ ((y.k == x.k) = true ∧ (y.a == x.a) = false) ∨ ((y.k == x.k) = true ∧ (y.a == x.a) = true ∧ (y.b == x.b) = false) := by
                        by_cases h1 : y.k = x.k
                        · by_cases h2 : y.a = x.a
                          · by_cases h3 : y.b = x.b
                            · exact absurd (by cases y; cases x; simp_all) hyx
                            · exact Or.inr (Or.inr ⟨by simpa using h1, by simpa using h2, by simpa using h3⟩)
                          · exact Or.inr (Or.inl ⟨by simpa using h1, by simpa using h2⟩)
                        · exact Or.inl (by simpa using h1)
                      clear hyx hTY
                      rcases hparts with h1 | ⟨h1, h2⟩ | ⟨h1, h2, h3⟩
                      all_goals
                        refine wp_region_quiet_below (by kernel_rfl) (by kernel_rfl) ?_
                        repeat (first | go_big_quiet_step (first | (go_at_call 21; exact Calls.reg (ok_fr y true HOY.out _)) | (go_at_call 13; exact Calls.reg (HTY.out _ (HEE.out.fr (fr_reg (Fr.refl _ _) _ _))))) | quiet_step (first | (go_at_call 21; exact Calls.reg (ok_fr y true HOY.out _)) | (go_at_call 13; exact Calls.reg (HTY.out _ (HEE.out.fr (fr_reg (Fr.refl _ _) _ _))))))
                        refine wpQuiet_nil ?_
                        intro wq hq
                        obtain ⟨pq, rfl⟩ := hq
                        go_wp2_with fail
                        go_meet
                        exact ⟨rfl, fr_reg (Fr.refl _ _) _ _⟩
              case rest =>
                obtain ⟨rfl, hf4⟩ := hcut
                obtain ⟨wF, hwF⟩ : ∃ wF, wF = wc := ⟨wc, rfl⟩
                subst hwF
                have H4 := Lib.hid (And.intro (HY.out.1.fr hf4) (fr_no HY.out.2.1 hf4))
                clear hf4 k0 k1 k2 j0 j1 j2
                go_wp2_with fail
                go_roundw
                case rel => exact ⟨k + 1, by omega, by go_num, H4.out.1, H4.out.2⟩
                case measure => simp [intOf]; omega
            · obtain rfl : k = 6 := by omega
              have HB := Lib.hid (And.intro hrow hfr)
              clear hrow hfr
              go_wp2_with fail
              go_roundw
              case rel => exact ⟨i + 1, by omega, by go_num, HB.out.1, HB.out.2⟩
              case measure => simp [intOf]; omega
      · have hd : decide ((i : Int) < 6) = false := decide_eq_false (by omega)
        have HB := Lib.hid hfr
        clear hfr hrow HA
        go_wp2_with (go_at_call 18; refine (awake_any _ (HE.out.fr HB.out)).mono ?_; rintro e w7 ⟨rfl, hf7⟩)
        go_ret
        exact ⟨rfl, fr_no HB.out hf7⟩
end Go.Proofs.YtadnbkjjdkgfiaaDoor
