/-
  How the document reads an instruction: Reads.
-/
import Derived.Test.YtadnbkjjdkgfiaaDoorTxtC
namespace Go.Viv
open Go.Lib Go.Proofs.YtadnbkjjdkgfiaaDoor Go.RowKit
theorem regN_some {l : List UInt8} {r : Int} (h : regW l = some r) : regN l = r ∧ 0 ≤ r := by
  refine ⟨by unfold regN; rw [h]; rfl, ?_⟩
  unfold regW at h
  split at h
  · split at h
    · rename_i hc
      injection h with h
      omega
    · cases h
  · cases h
theorem regN_none {l : List UInt8} (h : regW l = none) : regN l = -1 := by unfold regN; rw [h]; rfl
theorem rowW_at {w : World} {A : Option Addr} {ws : List (List UInt8)} (h : RowC w A (cellsW ws)) {k : Nat} {x : List UInt8} (hx : ws[k]? = some x) : ∃ b o, A = some ⟨b, o, none⟩ ∧ b < w.heap.size ∧ w.cell? ⟨b, o + k, none⟩ = some (str x) := by
  rcases h with h | ⟨b, o, h1, h2, h3⟩
  · have : ws = [] := by simpa [cellsW] using h
    rw [this] at hx; cases hx
  · exact ⟨b, o, h1, h2, h3 k (str x) (by unfold cellsW; rw [List.getElem?_map, hx]; rfl)⟩
theorem read_n {x : List UInt8} {v : Int} (h : num x = some v) (cs : List UInt8) (xs : List (List UInt8)) (i : Insn) : readL (110 :: cs) (x :: xs) i = readL cs xs ⟨i.op, i.r, i.s, v⟩ := by simp [readL, h]
theorem read_r {x : List UInt8} {v : Int} (h : regW x = some v) (cs : List UInt8) (xs : List (List UInt8)) (i : Insn) : readL (114 :: cs) (x :: xs) i = readL cs xs ⟨i.op, v, i.s, i.n⟩ := by simp [readL, h]
theorem read_s {x : List UInt8} {v : Int} (h : regW x = some v) (cs : List UInt8) (xs : List (List UInt8)) (i : Insn) : readL (115 :: cs) (x :: xs) i = readL cs xs ⟨i.op, i.r, v, i.n⟩ := by simp [readL, h]
theorem read_n0 {x : List UInt8} (h : num x = none) (cs : List UInt8) (xs : List (List UInt8)) (i : Insn) : readL (110 :: cs) (x :: xs) i = none := by simp [readL, h]
theorem read_r0 {x : List UInt8} (h : regW x = none) (cs : List UInt8) (xs : List (List UInt8)) (i : Insn) : readL (114 :: cs) (x :: xs) i = none := by simp [readL, h]
theorem read_s0 {x : List UInt8} (h : regW x = none) (cs : List UInt8) (xs : List (List UInt8)) (i : Insn) : readL (115 :: cs) (x :: xs) i = none := by simp [readL, h]
theorem drop_at {α : Type} {l : List α} {q : Nat} {x : α} (h : l[q]? = some x) : l.drop q = x :: l.drop (q + 1) := by
  obtain ⟨h1, h2⟩ := List.getElem?_eq_some_iff.1 h
  rw [List.drop_eq_getElem_cons h1, h2]
theorem words_le {l x : List UInt8} (h : x ∈ wds 32 l) : x.length ≤ l.length := by
  have := (wordsIn l).all x (by rw [words_wds]; exact h)
  exact this
end Go.Viv
namespace Go.Proofs.YtadnbkjjdkgfiaaDoor
open Go.RowKit Go.Viv
/-- What Reads answers. -/
abbrev ReadRes (l : List UInt8) (w : World) (r : Option Insn) : Prop := Calls Tryd.prog 28 #[str l] w fun e w' => e = .returned (.tuple #[(r.getD ⟨0, 0, 0, 0⟩).agg, .bool r.isSome]) ∧ Fr (fun _ => False) w w'
/-- What Reads leans on behind its two calls. -/
structure RSt (w W : World) (Z NB b o : Nat) (ws : List (List UInt8)) (NC : Array Value) : Prop where
  fr : Fr (fun _ => False) w W
  z : Blk W Z 42 #[.int .i64 0, .int .i64 0, .int .i64 0, .int .i64 0]
  zl : w.heap.size ≤ Z
  nb : Blk W NB 9 NC
  row : RowC W (some ⟨b, o, none⟩) (cellsW ws)
theorem RSt.on {w W W' : World} {Z NB b o : Nat} {ws : List (List UInt8)} {NC : Array Value} (h : RSt w W Z NB b o ws NC) (hf : Fr (fun _ => False) W W') : RSt w W' Z NB b o ws NC :=
  ⟨fr_two h.fr hf, h.z.fr hf (fun h => h), h.zl, h.nb.fr hf (fun h => h), h.row.fr hf⟩
theorem RSt.put {w W : World} {Z NB b o : Nat} {ws : List (List UInt8)} {NC : Array Value} (h : RSt w W Z NB b o ws NC) (i : Nat) (v : Value) : Fr (fun _ => False) w (W.setCell ⟨Z, i, none⟩ v) :=
  h.fr.setCell (.inr h.zl) v
theorem put4 {w W : World} {Z : Nat} (h : Fr (fun _ => False) w W) (hz : w.heap.size ≤ Z) (a b c d : Value) : Fr (fun _ => False) w ((((W.setCell ⟨Z, 0, none⟩ a).setCell ⟨Z, 1, none⟩ b).setCell ⟨Z, 2, none⟩ c).setCell ⟨Z, 3, none⟩ d) :=
  (((h.setCell (p := ⟨Z, 0, none⟩) (.inr hz) a).setCell (p := ⟨Z, 1, none⟩) (.inr hz) b).setCell (p := ⟨Z, 2, none⟩) (.inr hz) c).setCell (p := ⟨Z, 3, none⟩) (.inr hz) d
set_option maxRecDepth 100000 in
set_option maxHeartbeats 4000000 in
theorem readsR_any (l : List UInt8) (w : World) (hl : l.length < 4294967281) : ReadRes l w (parseI (wds 32 l)) := by
  have HW := Lib.hid (fun W => words_any l W hl)
  have HWL := Lib.hid (fun x (h : x ∈ wds 32 l) => show x.length ≤ 9223372036854775807 from by have := words_le h; omega)
  have HNE := Lib.hid (wds_ne 32 l)
  obtain ⟨ws, hws⟩ : ∃ ws, wds 32 l = ws := ⟨_, rfl⟩
  rw [hws] at HW HWL HNE ⊢
  clear hl hws
  obtain ⟨hd, wt, rfl⟩ : ∃ hd wt, ws = hd :: wt := by
    cases ws with
    | nil => exact absurd rfl HNE.out
    | cons x r => exact ⟨x, r, rfl⟩
  clear HNE
  obtain ⟨RES, hRES⟩ : ∃ r, parseI (hd :: wt) = r := ⟨_, rfl⟩
  have HRES := Lib.hid hRES
  rw [hRES]
  clear hRES
  obtain ⟨NC, hNC⟩ : ∃ c, nameCells = c := ⟨_, rfl⟩
  have HNA := Lib.hid (fun W => show Calls Tryd.prog 58 #[] W fun e w' => e = .returned (.slice (some ⟨W.heap.size, 0, none⟩) 18 18) ∧ W.alloc (.cells NC 9) = w' from by rw [← hNC]; exact names_any W)
  have HNC := Lib.hid hNC
  clear hNC
  unfold ReadRes
  go_enter Tryd.func28, Tryd.ntmps28
  go_wp2_with fail
  refine (HW.out _).mono ?_
  rintro e w1 ⟨A, cap, rfl, hn, hcap, hrow, hf1⟩
  obtain ⟨b, o, rfl, _, _⟩ := rowW_at (k := 0) (x := hd) hrow rfl
  have hZ := (Blk.new w 42 #[.int .i64 0, .int .i64 0, .int .i64 0, .int .i64 0]).fr hf1 (fun h => h)
  have H1 := Lib.hid (And.intro hrow (And.intro hZ (fr_two (Fr.alloc1 (fun _ => False) _ _) hf1)))
  unfold maxLen at hcap
  clear hrow hf1 hZ
  have hn' : wt.length + 1 ≤ cap := hn
  clear hn
  go_wp2_with fail
  refine (HNA.out _).mono ?_
  rintro e w2 ⟨rfl, rfl⟩
  have HS := Lib.hid (show RSt w (w1.alloc (.cells NC 9)) w.heap.size w1.heap.size b o (hd :: wt) NC from
    ⟨H1.out.2.2.alloc _, H1.out.2.1.alloc _, Nat.le_refl _, Blk.new _ _ _, H1.out.1.fr (Fr.alloc1 _ _ _)⟩)
  obtain ⟨NB, hNB⟩ : ∃ n, w1.heap.size = n := ⟨_, rfl⟩
  obtain ⟨W2, hW2⟩ : ∃ W, w1.alloc (.cells NC 9) = W := ⟨_, rfl⟩
  rw [hNB, hW2] at HS
  rw [hNB, hW2]
  clear hNB hW2 H1 HNA HW
  obtain ⟨Z, hZ⟩ : ∃ n, w.heap.size = n := ⟨_, rfl⟩
  rw [hZ] at HS
  rw [hZ]
  clear hZ
  go_wp2_with fail
  go_loopw [6] (fun t wr => ∃ j : Nat, j ≤ 18 ∧ t = .int .i64 ((j : Int) + 1) ∧ (∀ i, i < j → nameAt (i + 1) ≠ hd) ∧ RSt w wr Z NB b o (hd :: wt) NC) (fun t _ => 19 - (intOf t).toNat)
  case atStart => exact ⟨0, by omega, rfl, fun i h => absurd h (by omega), HS.out⟩
  case round =>
    obtain ⟨j, hj, rfl, hno, hst⟩ := hrel
    clear HS
    by_cases hlt : j < 18
    · have hlt' : (j : Int) < 18 := by omega
      have hnc := name_cell hlt
      rw [HNC.out] at hnc
      have eN := (hst.nb.cell j).trans hnc
      obtain ⟨b', o', hbo, hbl, eW⟩ := rowW_at (k := 0) (x := hd) hst.row rfl
      injection hbo with hbo
      injection hbo with hb1 hb2
      subst hb1 hb2
      rw [Nat.add_zero] at eW
      have ltn := hst.nb.lt
      obtain ⟨NM, hNM⟩ : ∃ x, nameAt (j + 1) = x := ⟨_, rfl⟩
      rw [hNM] at eN
      have HK := Lib.hid (And.intro hno (And.intro hst hNM))
      clear hno hst hNM hnc
      by_cases hq : NM = hd
      · have hb : (NM == hd) = true := by simpa using hq
        have hb2 : (NM != hd) = false := by simpa using hq
        have HP := Lib.hid (show parseI (hd :: wt) = if wt.length = (formB ((j : Int) + 1)).length then readL (formB ((j : Int) + 1)) wt ⟨(j : Int) + 1, 0, 0, 0⟩ else none from
          parse_at (ws := hd :: wt) (k := j + 1) ⟨by omega, by omega⟩ (by
            show nameIdx hd = _
            rw [← hq, ← HK.out.2.2, nameIdx_at (by omega)]))
        clear hq
        have hFc := form_kinds ((j : Int) + 1)
        have HFM := Lib.hid (fun W => form_any ((j : Int) + 1) W)
        obtain ⟨F, hF⟩ : ∃ F, formB ((j : Int) + 1) = F := ⟨_, rfl⟩
        rw [hF, HRES.out] at HP
        rw [hF] at hFc HFM
        clear hF
        have hFl : F.length ≤ 2 := by rcases hFc with rfl | rfl | rfl | rfl | rfl <;> decide
        go_wp2_with fail
        go_quiet (fail)
        go_wp2_with fail
        have hdr : ∀ n, RSt w (wr.drewN n) Z NB b o (hd :: wt) NC := fun n => HK.out.2.1.on ((Fr.refl _ _).drewN n)
        have HDR := Lib.hid hdr
        clear hdr
        refine (HFM.out _).mono ?_
        rintro e w4 ⟨rfl, hf4⟩
        have H4 := Lib.hid (show RSt w w4 Z NB b o (hd :: wt) NC from (by first | exact HK.out.2.1.on hf4 | exact (HDR.out _).on hf4))
        clear hf4 eN eW ltn hbl
        by_cases hlen : wt.length = F.length
        · have hl1 : ((wt.length + 1 : Int) != (F.length : Int) + 1) = false := by simp [hlen]
          have HP2 := Lib.hid (show RES = readL F wt ⟨(j : Int) + 1, 0, 0, 0⟩ from by rw [HP.out, if_pos hlen])
          clear HP
          have HWT := Lib.hid (fun q (x : List UInt8) (h : wt[q]? = some x) => show x.length ≤ 9223372036854775807 from HWL.out x (List.mem_cons_of_mem _ (List.mem_of_getElem? h)))
          have HLEN := Lib.hid hlen
          rw [hlen] at hn'
          go_wp2_with fail
          go_loopw [9] (fun t wr => ∃ (q : Nat) (I : Insn), q ≤ F.length ∧ t = .int .i64 q ∧ Fr (fun _ => False) w4 wr ∧ Blk wr w4.heap.size 42 #[.int .i64 I.op, .int .i64 I.r, .int .i64 I.s, .int .i64 I.n] ∧ RES = readL (F.drop q) (wt.drop q) I) (fun t _ => F.length - (intOf t).toNat)
          case atStart => exact ⟨0, ⟨(j : Int) + 1, 0, 0, 0⟩, Nat.zero_le _, rfl, Fr.alloc1 _ _ _, Blk.new _ _ _, HP2.out⟩
          case round =>
            obtain ⟨q, I, hq, rfl, hfr, hbi, hRL⟩ := hrel
            have HI := Lib.hid (And.intro hfr (And.intro hbi hRL))
            obtain ⟨c0, c1, c2, c3⟩ := blk4 (H4.out.on hfr).z
            have f0 := (H4.out.on hfr).z.frozen 0
            have f1 := (H4.out.on hfr).z.frozen 1
            have f2 := (H4.out.on hfr).z.frozen 2
            have f3 := (H4.out.on hfr).z.frozen 3
            have ltz := (H4.out.on hfr).z.lt
            obtain ⟨d0, d1, d2, d3⟩ := blk4 hbi
            have g0 := hbi.frozen 0
            have g1 := hbi.frozen 1
            have g2 := hbi.frozen 2
            have g3 := hbi.frozen 3
            have lti := hbi.lt
            clear hfr hbi hRL
            by_cases hqlt : q < F.length
            · have hqo : q = 0 ∨ q = 1 := by omega
              clear hq
              have hwl := HLEN.out
              rcases hFc with rfl | rfl | rfl | rfl | rfl
              · simp only [List.length_cons, List.length_nil, Nat.zero_add, Nat.reduceAdd] at hwl hqlt
                rcases hqo with rfl | rfl
                · obtain ⟨x, hx⟩ : ∃ x, wt[0]? = some x := ⟨_, List.getElem?_eq_getElem (by omega)⟩
                  obtain ⟨b', o', hbo, hbl, eX⟩ := rowW_at (k := 1) (x := x) (H4.out.on HI.out.1).row (by simpa using hx)
                  injection hbo with hbo
                  injection hbo with hb1 hb2
                  subst hb1 hb2
                  have HU := Lib.hid (fun W => und_any x W (HWT.out 0 x hx))
                  have HG := Lib.hid (fun W => regn_any x W (HWT.out 0 x hx))
                  obtain ⟨NV, hNV⟩ : ∃ v, num x = v := ⟨_, rfl⟩
                  obtain ⟨RV, hRV⟩ : ∃ v, regN x = v := ⟨_, rfl⟩
                  unfold Und at HU
                  rw [hNV] at HU
                  rw [hRV] at HG
                  have HX := Lib.hid (And.intro hx (And.intro hNV hRV))
                  clear hx hNV hRV
                  cases hrw : regW x with
                  | some v =>
                    have HYES := Lib.hid (show RES = readL (List.drop 1 [114, 115]) (wt.drop 1) ⟨I.op, v, I.s, I.n⟩ from by rw [HI.out.2.2, drop_at HX.out.1]; exact read_r hrw _ _ _)
                    obtain ⟨g1, g2⟩ := regN_some hrw
                    obtain rfl : RV = v := HX.out.2.2.symm.trans g1
                    clear hrw g1
                    go_wp2_with (first | (go_at_call 45; ((with_reducible refine (HU.out _).mono ?_); rintro e w5 ⟨rfl, rfl⟩)) | (go_at_call 59; ((with_reducible refine (HG.out _).mono ?_); rintro e w5 ⟨rfl, rfl⟩)))
                    go_roundw
                    case rel => exact ⟨_, _, _, _, _, _, _, _, _, _, _, _, _, _, _, _, _, _, _, _, _, _, _, _, _, _, _, _, _, _, _, _, _, _, _, _, _, _, _, _, _, _, _, _, _, _, _, _, _, _, _, _, _, _, _, _, _, _, ⟨1, ⟨I.op, RV, I.s, I.n⟩, by simp, rfl, HI.out.1.setCell (p := ⟨w4.heap.size, 1, none⟩) (.inr (Nat.le_refl _)) _, blk_to HI.out.2.1 1 (.int .i64 RV) rfl, HYES.out⟩, rfl⟩
                    case measure => simp [intOf]
                  | none =>
                    have HNO := Lib.hid (show RES = none from by rw [HI.out.2.2, drop_at HX.out.1]; exact read_r0 hrw _ _ _)
                    obtain rfl : RV = -1 := HX.out.2.2.symm.trans (regN_none hrw)
                    clear hrw
                    go_wp2_with (first | (go_at_call 45; ((with_reducible refine (HU.out _).mono ?_); rintro e w5 ⟨rfl, rfl⟩)) | (go_at_call 59; ((with_reducible refine (HG.out _).mono ?_); rintro e w5 ⟨rfl, rfl⟩)))
                    refine bodyPost_ret (v := .tuple #[Insn.agg ⟨0, 0, 0, 0⟩, .bool false]) (by simp [results, Tryd.results28, go_sem, c0, c1, c2, c3]) rfl ⟨by rw [HNO.out]; rfl, ?_⟩
                    exact put4 (fr_two H4.out.fr HI.out.1) H4.out.zl _ _ _ _
                · obtain ⟨x, hx⟩ : ∃ x, wt[1]? = some x := ⟨_, List.getElem?_eq_getElem (by omega)⟩
                  obtain ⟨b', o', hbo, hbl, eX⟩ := rowW_at (k := 2) (x := x) (H4.out.on HI.out.1).row (by simpa using hx)
                  injection hbo with hbo
                  injection hbo with hb1 hb2
                  subst hb1 hb2
                  have HU := Lib.hid (fun W => und_any x W (HWT.out 1 x hx))
                  have HG := Lib.hid (fun W => regn_any x W (HWT.out 1 x hx))
                  obtain ⟨NV, hNV⟩ : ∃ v, num x = v := ⟨_, rfl⟩
                  obtain ⟨RV, hRV⟩ : ∃ v, regN x = v := ⟨_, rfl⟩
                  unfold Und at HU
                  rw [hNV] at HU
                  rw [hRV] at HG
                  have HX := Lib.hid (And.intro hx (And.intro hNV hRV))
                  clear hx hNV hRV
                  cases hrw : regW x with
                  | some v =>
                    have HYES := Lib.hid (show RES = readL (List.drop 2 [114, 115]) (wt.drop 2) ⟨I.op, I.r, v, I.n⟩ from by rw [HI.out.2.2, drop_at HX.out.1]; exact read_s hrw _ _ _)
                    obtain ⟨g1, g2⟩ := regN_some hrw
                    obtain rfl : RV = v := HX.out.2.2.symm.trans g1
                    clear hrw g1
                    go_wp2_with (first | (go_at_call 45; ((with_reducible refine (HU.out _).mono ?_); rintro e w5 ⟨rfl, rfl⟩)) | (go_at_call 59; ((with_reducible refine (HG.out _).mono ?_); rintro e w5 ⟨rfl, rfl⟩)))
                    go_roundw
                    case rel => exact ⟨_, _, _, _, _, _, _, _, _, _, _, _, _, _, _, _, _, _, _, _, _, _, _, _, _, _, _, _, _, _, _, _, _, _, _, _, _, _, _, _, _, _, _, _, _, _, _, _, _, _, _, _, _, _, _, _, _, _, ⟨2, ⟨I.op, I.r, RV, I.n⟩, by simp, rfl, HI.out.1.setCell (p := ⟨w4.heap.size, 2, none⟩) (.inr (Nat.le_refl _)) _, blk_to HI.out.2.1 2 (.int .i64 RV) rfl, HYES.out⟩, rfl⟩
                    case measure => simp [intOf]
                  | none =>
                    have HNO := Lib.hid (show RES = none from by rw [HI.out.2.2, drop_at HX.out.1]; exact read_s0 hrw _ _ _)
                    obtain rfl : RV = -1 := HX.out.2.2.symm.trans (regN_none hrw)
                    clear hrw
                    go_wp2_with (first | (go_at_call 45; ((with_reducible refine (HU.out _).mono ?_); rintro e w5 ⟨rfl, rfl⟩)) | (go_at_call 59; ((with_reducible refine (HG.out _).mono ?_); rintro e w5 ⟨rfl, rfl⟩)))
                    refine bodyPost_ret (v := .tuple #[Insn.agg ⟨0, 0, 0, 0⟩, .bool false]) (by simp [results, Tryd.results28, go_sem, c0, c1, c2, c3]) rfl ⟨by rw [HNO.out]; rfl, ?_⟩
                    exact put4 (fr_two H4.out.fr HI.out.1) H4.out.zl _ _ _ _
              · exfalso; simp at hqlt
              · simp only [List.length_cons, List.length_nil, Nat.zero_add] at hwl hqlt
                obtain rfl : q = 0 := by omega
                obtain ⟨x, hx⟩ : ∃ x, wt[0]? = some x := ⟨_, List.getElem?_eq_getElem (by omega)⟩
                obtain ⟨b', o', hbo, hbl, eX⟩ := rowW_at (k := 1) (x := x) (H4.out.on HI.out.1).row (by simpa using hx)
                injection hbo with hbo
                injection hbo with hb1 hb2
                subst hb1 hb2
                have HU := Lib.hid (fun W => und_any x W (HWT.out 0 x hx))
                have HG := Lib.hid (fun W => regn_any x W (HWT.out 0 x hx))
                obtain ⟨NV, hNV⟩ : ∃ v, num x = v := ⟨_, rfl⟩
                obtain ⟨RV, hRV⟩ : ∃ v, regN x = v := ⟨_, rfl⟩
                unfold Und at HU
                rw [hNV] at HU
                rw [hRV] at HG
                have HX := Lib.hid (And.intro hx (And.intro hNV hRV))
                clear hx hNV hRV
                cases hrw : regW x with
                | some v =>
                  have HYES := Lib.hid (show RES = readL (List.drop 1 [114]) (wt.drop 1) ⟨I.op, v, I.s, I.n⟩ from by rw [HI.out.2.2, drop_at HX.out.1]; exact read_r hrw _ _ _)
                  obtain ⟨g1, g2⟩ := regN_some hrw
                  obtain rfl : RV = v := HX.out.2.2.symm.trans g1
                  clear hrw g1
                  go_wp2_with (first | (go_at_call 45; ((with_reducible refine (HU.out _).mono ?_); rintro e w5 ⟨rfl, rfl⟩)) | (go_at_call 59; ((with_reducible refine (HG.out _).mono ?_); rintro e w5 ⟨rfl, rfl⟩)))
                  go_roundw
                  case rel => exact ⟨_, _, _, _, _, _, _, _, _, _, _, _, _, _, _, _, _, _, _, _, _, _, _, _, _, _, _, _, _, _, _, _, _, _, _, _, _, _, _, _, _, _, _, _, _, _, _, _, _, _, _, _, _, _, _, _, _, _, ⟨1, ⟨I.op, RV, I.s, I.n⟩, by simp, rfl, HI.out.1.setCell (p := ⟨w4.heap.size, 1, none⟩) (.inr (Nat.le_refl _)) _, blk_to HI.out.2.1 1 (.int .i64 RV) rfl, HYES.out⟩, rfl⟩
                  case measure => simp [intOf]
                | none =>
                  have HNO := Lib.hid (show RES = none from by rw [HI.out.2.2, drop_at HX.out.1]; exact read_r0 hrw _ _ _)
                  obtain rfl : RV = -1 := HX.out.2.2.symm.trans (regN_none hrw)
                  clear hrw
                  go_wp2_with (first | (go_at_call 45; ((with_reducible refine (HU.out _).mono ?_); rintro e w5 ⟨rfl, rfl⟩)) | (go_at_call 59; ((with_reducible refine (HG.out _).mono ?_); rintro e w5 ⟨rfl, rfl⟩)))
                  refine bodyPost_ret (v := .tuple #[Insn.agg ⟨0, 0, 0, 0⟩, .bool false]) (by simp [results, Tryd.results28, go_sem, c0, c1, c2, c3]) rfl ⟨by rw [HNO.out]; rfl, ?_⟩
                  exact put4 (fr_two H4.out.fr HI.out.1) H4.out.zl _ _ _ _
              · simp only [List.length_cons, List.length_nil, Nat.zero_add] at hwl hqlt
                obtain rfl : q = 0 := by omega
                obtain ⟨x, hx⟩ : ∃ x, wt[0]? = some x := ⟨_, List.getElem?_eq_getElem (by omega)⟩
                obtain ⟨b', o', hbo, hbl, eX⟩ := rowW_at (k := 1) (x := x) (H4.out.on HI.out.1).row (by simpa using hx)
                injection hbo with hbo
                injection hbo with hb1 hb2
                subst hb1 hb2
                have HU := Lib.hid (fun W => und_any x W (HWT.out 0 x hx))
                have HG := Lib.hid (fun W => regn_any x W (HWT.out 0 x hx))
                obtain ⟨NV, hNV⟩ : ∃ v, num x = v := ⟨_, rfl⟩
                obtain ⟨RV, hRV⟩ : ∃ v, regN x = v := ⟨_, rfl⟩
                unfold Und at HU
                rw [hNV] at HU
                rw [hRV] at HG
                have HX := Lib.hid (And.intro hx (And.intro hNV hRV))
                clear hx hNV hRV
                cases NV with
                | some v =>
                  have HYES := Lib.hid (show RES = readL (List.drop 1 [110]) (wt.drop 1) ⟨I.op, I.r, I.s, v⟩ from by rw [HI.out.2.2, drop_at HX.out.1]; exact read_n HX.out.2.1 _ _ _)
                  go_wp2_with (go_at_call 45; ((with_reducible refine (HU.out _).mono ?_); rintro e w5 ⟨rfl, rfl⟩))
                  go_roundw
                  case rel => exact ⟨_, _, _, _, _, _, _, _, _, _, _, _, _, _, _, _, _, _, _, _, _, _, _, _, _, _, _, _, _, _, _, _, _, _, _, _, _, _, _, _, _, _, _, _, _, _, _, _, _, _, _, _, _, _, _, _, _, _, ⟨1, ⟨I.op, I.r, I.s, v⟩, by simp, rfl, HI.out.1.setCell (p := ⟨w4.heap.size, 3, none⟩) (.inr (Nat.le_refl _)) _, blk_to HI.out.2.1 3 (.int .i64 v) rfl, HYES.out⟩, rfl⟩
                  case measure => simp [intOf]
                | none =>
                  have HNO := Lib.hid (show RES = none from by rw [HI.out.2.2, drop_at HX.out.1]; exact read_n0 HX.out.2.1 _ _ _)
                  go_wp2_with (go_at_call 45; ((with_reducible refine (HU.out _).mono ?_); rintro e w5 ⟨rfl, rfl⟩))
                  refine bodyPost_ret (v := .tuple #[Insn.agg ⟨0, 0, 0, 0⟩, .bool false]) (by simp [results, Tryd.results28, go_sem, c0, c1, c2, c3]) rfl ⟨by rw [HNO.out]; rfl, ?_⟩
                  exact put4 (fr_two H4.out.fr HI.out.1) H4.out.zl _ _ _ _
              · simp only [List.length_cons, List.length_nil, Nat.zero_add, Nat.reduceAdd] at hwl hqlt
                rcases hqo with rfl | rfl
                · obtain ⟨x, hx⟩ : ∃ x, wt[0]? = some x := ⟨_, List.getElem?_eq_getElem (by omega)⟩
                  obtain ⟨b', o', hbo, hbl, eX⟩ := rowW_at (k := 1) (x := x) (H4.out.on HI.out.1).row (by simpa using hx)
                  injection hbo with hbo
                  injection hbo with hb1 hb2
                  subst hb1 hb2
                  have HU := Lib.hid (fun W => und_any x W (HWT.out 0 x hx))
                  have HG := Lib.hid (fun W => regn_any x W (HWT.out 0 x hx))
                  obtain ⟨NV, hNV⟩ : ∃ v, num x = v := ⟨_, rfl⟩
                  obtain ⟨RV, hRV⟩ : ∃ v, regN x = v := ⟨_, rfl⟩
                  unfold Und at HU
                  rw [hNV] at HU
                  rw [hRV] at HG
                  have HX := Lib.hid (And.intro hx (And.intro hNV hRV))
                  clear hx hNV hRV
                  cases hrw : regW x with
                  | some v =>
                    have HYES := Lib.hid (show RES = readL (List.drop 1 [114, 110]) (wt.drop 1) ⟨I.op, v, I.s, I.n⟩ from by rw [HI.out.2.2, drop_at HX.out.1]; exact read_r hrw _ _ _)
                    obtain ⟨g1, g2⟩ := regN_some hrw
                    obtain rfl : RV = v := HX.out.2.2.symm.trans g1
                    clear hrw g1
                    go_wp2_with (first | (go_at_call 45; ((with_reducible refine (HU.out _).mono ?_); rintro e w5 ⟨rfl, rfl⟩)) | (go_at_call 59; ((with_reducible refine (HG.out _).mono ?_); rintro e w5 ⟨rfl, rfl⟩)))
                    go_roundw
                    case rel => exact ⟨_, _, _, _, _, _, _, _, _, _, _, _, _, _, _, _, _, _, _, _, _, _, _, _, _, _, _, _, _, _, _, _, _, _, _, _, _, _, _, _, _, _, _, _, _, _, _, _, _, _, _, _, _, _, _, _, _, _, ⟨1, ⟨I.op, RV, I.s, I.n⟩, by simp, rfl, HI.out.1.setCell (p := ⟨w4.heap.size, 1, none⟩) (.inr (Nat.le_refl _)) _, blk_to HI.out.2.1 1 (.int .i64 RV) rfl, HYES.out⟩, rfl⟩
                    case measure => simp [intOf]
                  | none =>
                    have HNO := Lib.hid (show RES = none from by rw [HI.out.2.2, drop_at HX.out.1]; exact read_r0 hrw _ _ _)
                    obtain rfl : RV = -1 := HX.out.2.2.symm.trans (regN_none hrw)
                    clear hrw
                    go_wp2_with (first | (go_at_call 45; ((with_reducible refine (HU.out _).mono ?_); rintro e w5 ⟨rfl, rfl⟩)) | (go_at_call 59; ((with_reducible refine (HG.out _).mono ?_); rintro e w5 ⟨rfl, rfl⟩)))
                    refine bodyPost_ret (v := .tuple #[Insn.agg ⟨0, 0, 0, 0⟩, .bool false]) (by simp [results, Tryd.results28, go_sem, c0, c1, c2, c3]) rfl ⟨by rw [HNO.out]; rfl, ?_⟩
                    exact put4 (fr_two H4.out.fr HI.out.1) H4.out.zl _ _ _ _
                · obtain ⟨x, hx⟩ : ∃ x, wt[1]? = some x := ⟨_, List.getElem?_eq_getElem (by omega)⟩
                  obtain ⟨b', o', hbo, hbl, eX⟩ := rowW_at (k := 2) (x := x) (H4.out.on HI.out.1).row (by simpa using hx)
                  injection hbo with hbo
                  injection hbo with hb1 hb2
                  subst hb1 hb2
                  have HU := Lib.hid (fun W => und_any x W (HWT.out 1 x hx))
                  have HG := Lib.hid (fun W => regn_any x W (HWT.out 1 x hx))
                  obtain ⟨NV, hNV⟩ : ∃ v, num x = v := ⟨_, rfl⟩
                  obtain ⟨RV, hRV⟩ : ∃ v, regN x = v := ⟨_, rfl⟩
                  unfold Und at HU
                  rw [hNV] at HU
                  rw [hRV] at HG
                  have HX := Lib.hid (And.intro hx (And.intro hNV hRV))
                  clear hx hNV hRV
                  cases NV with
                  | some v =>
                    have HYES := Lib.hid (show RES = readL (List.drop 2 [114, 110]) (wt.drop 2) ⟨I.op, I.r, I.s, v⟩ from by rw [HI.out.2.2, drop_at HX.out.1]; exact read_n HX.out.2.1 _ _ _)
                    go_wp2_with (go_at_call 45; ((with_reducible refine (HU.out _).mono ?_); rintro e w5 ⟨rfl, rfl⟩))
                    go_roundw
                    case rel => exact ⟨_, _, _, _, _, _, _, _, _, _, _, _, _, _, _, _, _, _, _, _, _, _, _, _, _, _, _, _, _, _, _, _, _, _, _, _, _, _, _, _, _, _, _, _, _, _, _, _, _, _, _, _, _, _, _, _, _, _, ⟨2, ⟨I.op, I.r, I.s, v⟩, by simp, rfl, HI.out.1.setCell (p := ⟨w4.heap.size, 3, none⟩) (.inr (Nat.le_refl _)) _, blk_to HI.out.2.1 3 (.int .i64 v) rfl, HYES.out⟩, rfl⟩
                    case measure => simp [intOf]
                  | none =>
                    have HNO := Lib.hid (show RES = none from by rw [HI.out.2.2, drop_at HX.out.1]; exact read_n0 HX.out.2.1 _ _ _)
                    go_wp2_with (go_at_call 45; ((with_reducible refine (HU.out _).mono ?_); rintro e w5 ⟨rfl, rfl⟩))
                    refine bodyPost_ret (v := .tuple #[Insn.agg ⟨0, 0, 0, 0⟩, .bool false]) (by simp [results, Tryd.results28, go_sem, c0, c1, c2, c3]) rfl ⟨by rw [HNO.out]; rfl, ?_⟩
                    exact put4 (fr_two H4.out.fr HI.out.1) H4.out.zl _ _ _ _
            · obtain rfl : q = F.length := by omega
              have HSO := Lib.hid (show RES = some I from by rw [HI.out.2.2, List.drop_of_length_le (Nat.le_refl _)]; rfl)
              go_wp2
              refine bodyPost_ret (v := .tuple #[Insn.agg I, .bool true]) (by simp [results, Tryd.results28, go_sem, c0, c1, c2, c3]) rfl ⟨by rw [HSO.out]; rfl, ?_⟩
              exact put4 (fr_two H4.out.fr HI.out.1) H4.out.zl _ _ _ _
        · have hl1 : ((wt.length : Int) + 1 != (F.length : Int) + 1) = true := by simp; omega
          have HP2 := Lib.hid (show RES = none from by rw [HP.out, if_neg hlen])
          obtain ⟨c0, c1, c2, c3⟩ := blk4 H4.out.z
          have f0 := H4.out.z.frozen 0
          have f1 := H4.out.z.frozen 1
          have f2 := H4.out.z.frozen 2
          have f3 := H4.out.z.frozen 3
          have ltz := H4.out.z.lt
          go_wp2
          refine bodyPost_ret (v := .tuple #[Insn.agg ⟨0, 0, 0, 0⟩, .bool false]) (by simp [results, Tryd.results28, go_sem, c0, c1, c2, c3]) rfl ⟨by rw [HP2.out]; rfl, ?_⟩
          exact put4 H4.out.fr H4.out.zl _ _ _ _
      · have hb : (NM == hd) = false := by simpa using hq
        have hb2 : (NM != hd) = true := by simpa using hq
        have HQ := Lib.hid hq
        clear hq
        go_wp2_with fail
        go_quiet (fail)
        go_wp2
        go_roundw
        case rel =>
          refine ⟨j + 1, by omega, by go_num, fun i hi => ?_, by first | exact HK.out.2.1 | exact HK.out.2.1.on ((Fr.refl _ _).drewN _)⟩
          rcases Nat.lt_or_ge i j with h | h
          · exact HK.out.1 i h
          · obtain rfl : i = j := by omega
            rw [HK.out.2.2]; exact HQ.out
        case measure => simp [intOf]; omega
    · obtain rfl : j = 18 := by omega
      have HP2 := Lib.hid (show RES = none from by
        rw [← HRES.out]
        exact parse_no (nameIdx_none (l := hd) (fun k h1 h2 => by
          have := hno (k - 1) (by omega)
          rwa [show k - 1 + 1 = k by omega] at this)))
      obtain ⟨c0, c1, c2, c3⟩ := blk4 hst.z
      have f0 := hst.z.frozen 0
      have f1 := hst.z.frozen 1
      have f2 := hst.z.frozen 2
      have f3 := hst.z.frozen 3
      have ltz := hst.z.lt
      have H4 := Lib.hid hst
      clear hst hno
      go_wp2
      refine bodyPost_ret (v := .tuple #[Insn.agg ⟨0, 0, 0, 0⟩, .bool false]) (by simp [results, Tryd.results28, go_sem, c0, c1, c2, c3]) rfl ⟨by rw [HP2.out]; rfl, ?_⟩
      exact put4 H4.out.fr H4.out.zl _ _ _ _
end Go.Proofs.YtadnbkjjdkgfiaaDoor
