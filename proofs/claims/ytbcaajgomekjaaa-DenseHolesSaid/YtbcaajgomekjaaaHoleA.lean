/-
  The law DenseHoles, walked.
-/
import Derived.Test.YtbcaajgomekjaaaPlayC
import Derived.StillTailTactics
namespace Go.Proofs.Ytbcaajgomekjaaa
open Go.RowKit Go.Maps Go.Viv

def OwnE (w0 w : World) (p : Nat) : Prop := ∃ rs S, Own w0 w p rs S

theorem info3 : (Try.prog.info? 3).map (fun i => (i.zero, i.size, i.bytes)) = some (some (.int .i64 0), 1, 8) := by kernel_rfl

/-- The indexes seen ahead of row j. -/
def seen (rs : List (Int × Val)) (j : Nat) : List Value := (rs.take j).map (fun r => .int .i64 r.1)
theorem seen_len (rs : List (Int × Val)) (j : Nat) (h : j ≤ rs.length) : (seen rs j).length = j := by simp [seen]; omega
theorem seen_get {rs : List (Int × Val)} {j q : Nat} (hq : q < j) {i : Int} {v : Val} (h : rs[q]? = some (i, v)) : (seen rs j)[q]? = some (.int .i64 i) := by
  simp [seen, List.getElem?_take, hq, h]
theorem seen_succ {rs : List (Int × Val)} {j : Nat} {i : Int} {v : Val} (h : rs[j]? = some (i, v)) : seen rs (j + 1) = seen rs j ++ [.int .i64 i] := by
  simp [seen, List.take_add_one, h]
theorem row_at {rs : List (Int × Val)} {j : Nat} {i : Int} {v : Val} (h : rs[j]? = some (i, v)) : rIdx rs j = i ∧ rVal rs j = v ∧ rHas rs j = true := by
  have : ¬ (j : Int) < 0 := by omega
  simp [rIdx, rVal, rHas, rowI, h, this]
theorem row_past {rs : List (Int × Val)} {j : Nat} (h : rs.length ≤ j) : rHas rs j = false := by
  simp [rHas, rowI, h]
theorem Own.nodup {w0 w : World} {p : Nat} {rs : List (Int × Val)} {S : Nat → Prop} (h : Own w0 w p rs S) : (rs.map (·.1)).Nodup ∧ ∀ r ∈ rs, 0 ≤ r.1 ∧ r.1 < 65536 := by
  obtain ⟨sv, bm, h1, h2, h3, h4, h5, h6, h7, h8⟩ := h.is
  exact ⟨h4, h5⟩
theorem get_at {rs : List (Int × Val)} (hn : (rs.map (·.1)).Nodup) {j : Nat} {i : Int} {v : Val} (h : rs[j]? = some (i, v)) : getV rs i = v ∧ hasV rs i = true := by
  obtain ⟨v', h1, _, h2, h3⟩ := pos_some ((pos_iff hn).2 ⟨v, h⟩)
  rw [h] at h1
  injection h1 with h1
  injection h1 with _ h1
  exact ⟨h2.trans h1.symm, h3⟩
theorem orow {w0 w : World} {p : Nat} {rs : List (Int × Val)} {S : Nat → Prop} (h : Own w0 w p rs S) (j : Int) :
    Calls Try.prog 14 #[.pointer (some ⟨p, 0, none⟩), .int .i64 j] w fun e w' => e = .returned (.tuple #[.int .i64 (rIdx rs j), .agg #[.int .i64 (rVal rs j).k, .int .i64 (rVal rs j).a, .int .i64 (rVal rs j).b], .bool (rHas rs j)]) ∧ Own w0 w' p rs S ∧ Fr (fun _ => False) w w' := row_own h j
/-- A row that grew, and a Dense apart from it. -/
theorem Own.grown {w0 w w' : World} {p : Nat} {rs : List (Int × Val)} {S : Nat → Prop} {r : Option Nat} (h : Own w0 w p rs S) (hg : w.grownBy w' r) (hr : ∀ k, r = some k → ¬ S k ∧ w0.heap.size ≤ k) : Own w0 w' p rs S := by
  have hf : Fr (fun k => r = some k) w w' := Fr.grown (Fr.refl _ _) hg (fun k hk => .inl hk)
  exact ⟨h.is.keep hf (fun k hk hu => (hr k hu).1 hk), h.fr.trans hf (fun k hk => .inr (hr k hk).2), h.up, fun k hk => Nat.lt_of_lt_of_le (h.lt k hk) hf.size⟩

attribute [local go_sem ↓] wp_appendV
set_option maxRecDepth 100000 in
set_option maxHeartbeats 1000000 in
theorem holes_any (A : Option Addr) (n c : Nat) (os : List OpD) (w : World) (hs : SlOps w A n os) :
    Calls Try.prog 6 #[.slice A n c] w fun e w' => e = .returned (.bool true) ∧ Fr (fun _ => False) w w' := by
  have AG := Lib.hid (show ∀ v : Val, v.agg = Value.agg #[.int .i64 v.k, .int .i64 v.a, .int .i64 v.b] from fun _ => rfl)
  have HS := Lib.hid hs
  clear hs
  go_enter Try.func6, Try.ntmps6
  go_wp2_with (go_at_call 7; refine (new_own w _ (Fr.refl _ _)).mono ?_; rintro e w1 ⟨p, S1, rfl, h1, _, _⟩)
  have HB := Lib.hid (show OwnE w w1 p from ⟨_, _, h1⟩)
  clear h1
  go_loopw [4] (fun t wr => ∃ k : Nat, k ≤ n ∧ k ≤ 100 ∧ t = .int .i64 k ∧ OwnE w wr p) (fun t _ => 100 - (intOf t).toNat)
  case atStart => exact ⟨0, Nat.zero_le _, by omega, rfl, HB.out⟩
  case round =>
    obtain ⟨k, hk, hk1, rfl, hbo⟩ := hrel
    have HBo := Lib.hid hbo
    clear hbo HB
    by_cases hlt : k < n
    · by_cases hlt2 : k < 100
      · obtain ⟨rs, S, hb⟩ := HBo.out
        obtain ⟨hl, hwf, hc⟩ := HS.out
        obtain ⟨b, off, rfl, hbl, hcells⟩ := hc (by omega)
        obtain ⟨o, ho⟩ : ∃ o, os[k]? = some o := ⟨_, List.getElem?_eq_getElem (by omega)⟩
        obtain ⟨x0, x1, x2, x3, x4⟩ := hcells k o ho
        have hoi := hwf o (List.mem_of_getElem? ho)
        have y0 := (hb.fr.cell (p := ⟨b, off + k * 5, none⟩) hbl (fun h => h)).trans x0
        have y1 := (hb.fr.cell (p := ⟨b, off + k * 5 + 1, none⟩) hbl (fun h => h)).trans x1
        have y2 := (hb.fr.cell (p := ⟨b, off + k * 5 + 2, none⟩) hbl (fun h => h)).trans x2
        have y3 := (hb.fr.cell (p := ⟨b, off + k * 5 + 2 + 1, none⟩) hbl (fun h => h)).trans x3
        have y4 := (hb.fr.cell (p := ⟨b, off + k * 5 + 2 + 2, none⟩) hbl (fun h => h)).trans x4
        have HB1 := Lib.hid hb
        have hlt' : (k : Int) < n := by omega
        have hk0 : (0 : Int) ≤ k := by omega
        clear hb hl hwf hc hbl hcells ho x0 x1 x2 x3 x4 HBo
        cases hkd : (o.kd == 0) with
        | true =>
          go_wp2_with fail
          go_still_tail 11, (by kernel_rfl)
          change wpList _ _ _ _ _ (World.drew _)
          go_wp2_with (go_at_call 8; refine (put_own (HB1.out.still (Fr.refl _ _).drew) _ o.v hoi).mono ?_; rintro e w3 ⟨rfl, h3, _⟩)
          go_roundw
          case rel => exact ⟨k + 1, by omega, by omega, by go_num, _, _, h3⟩
          case measure => simp [intOf]; omega
        | false =>
          go_wp2_with (go_at_call 12; refine (take_own HB1.out _ hoi).mono ?_; rintro e w3 ⟨rfl, h3, _⟩)
          go_roundw
          case rel => exact ⟨k + 1, by omega, by omega, by go_num, _, _, h3⟩
          case measure => simp [intOf]; omega
      · have hd2 : decide ((k : Int) < 100) = false := decide_eq_false (by omega)
        have hlt' : (k : Int) < n := by omega
        obtain ⟨rs, S, hb⟩ := HBo.out
        obtain ⟨hnd, hrg⟩ := hb.nodup
        have hlen := hb.is.len
        have HB1 := Lib.hid hb
        have HN := Lib.hid (And.intro hnd hrg)
        obtain ⟨wB, hwB⟩ : ∃ wB, wB = wr := ⟨wr, rfl⟩
        subst hwB
        clear hb HBo hnd hrg HS
        go_wp2_with fail
        go_loopw [5, 6] (fun sv t wr => ∃ j : Nat, j ≤ rs.length ∧ t = .int .i64 j ∧ Own w wr p rs S ∧ wB.heap.size ≤ wr.heap.size ∧ wr.ownsRow wB.heap.size 3 1 sv j (seen rs j)) (fun _ t _ => rs.length - (intOf t).toNat)
        case atStart => exact ⟨0, Nat.zero_le _, rfl, HB1.out, Nat.le_refl _, World.ownsRow_nil _ _ _ _⟩
        case round =>
          obtain ⟨j, hj, rfl, ho, hsz, hown⟩ := hrel
          obtain ⟨A5, cap5, hsv, hcap5⟩ := own_len hown
          have HO := Lib.hid (And.intro ho (And.intro hown hsv))
          clear ho hown
          by_cases hjl : j < rs.length
          · obtain ⟨ri, rv, hr⟩ : ∃ ri rv, rs[j]? = some (ri, rv) := ⟨_, _, List.getElem?_eq_getElem hjl⟩
            obtain ⟨e1, e2, e3⟩ := row_at hr
            obtain ⟨e4, e5⟩ := get_at HN.out.1 hr
            have hri := HN.out.2 (ri, rv) (List.mem_of_getElem? hr)
            have HE := Lib.hid (And.intro e1 (And.intro e2 (And.intro e3 (And.intro e4 (And.intro e5 hr)))))
            have wri : (Lit.int .i64 ri).wf = true := wf64 (by simp at hri; omega) (by simp at hri; omega)
            clear e1 e2 e3 e4 e5 hr hri
            go_wp2_with fail
            refine (len_own HO.out.1).mono ?_
            rintro e w4 ⟨rfl, rfl⟩
            go_wp2_with fail
            refine (orow HO.out.1 j).mono ?_
            rintro e w5 ⟨rfl, h5, hf5⟩
            rw [HE.out.1, HE.out.2.1, HE.out.2.2.1]
            have o5 := own_fr HO.out.2.1 hf5 (fun _ _ h => h)
            have H5 := Lib.hid (And.intro h5 (And.intro o5 hf5.size))
            clear h5 o5 hf5
            go_wp2_with fail
            refine (get_own (H5.out.1.alloc _) ri wri).mono ?_
            rintro e w6 ⟨rfl, h6, hf6⟩
            rw [HE.out.2.2.2.1, HE.out.2.2.2.2.1, AG.out]
            have o6 := own_fr (H5.out.2.1.alloc _) hf6 (fun _ _ h => h)
            have z := (Blk.new w5 23 #[.int .i64 rv.k, .int .i64 rv.a, .int .i64 rv.b]).fr hf6 (fun h => h)
            have z0 := z.cell 0
            have z1 := z.cell 1
            have z2 := z.cell 2
            have zl := z.lt
            simp at z0 z1 z2
            have s6 : wB.heap.size ≤ w6.heap.size := by have h1 := hf6.size; have h2 := H5.out.2.2; simp at h1; omega
            have H6 := Lib.hid (And.intro h6 o6)
            clear H5 h6 o6 hf6 z hsv
            go_wp2_with fail
            go_loop [12] (fun t => ∃ q : Nat, q ≤ j ∧ t = .int .i64 q) (fun t => j - (intOf t).toNat)
            case atStart => exact ⟨0, Nat.zero_le _, rfl⟩
            case round =>
              obtain ⟨q, hq, rfl⟩ := hrel
              by_cases hqj : q < j
              · obtain ⟨qi, qv, hqr⟩ : ∃ qi qv, rs[q]? = some (qi, qv) := ⟨_, _, List.getElem?_eq_getElem (by omega)⟩
                have hne : (qi == ri) = false := by
                  simp
                  intro e
                  subst e
                  have := key_inj HN.out.1 hqr HE.out.2.2.2.2.2
                  omega
                obtain ⟨h6, o6⟩ := H6.out
                obtain ⟨g, cap', cur, hv, _⟩ := own_cases o6 (by omega)
                have hsv2 := (HO.out.2.2).symm.trans hv
                injection hsv2 with e1 _ e3
                subst e1 e3
                rw [hv] at o6
                have cq : w6.cell? ⟨g, q, none⟩ = some (.int .i64 qi) := by rw [o6.cellAt q (by omega), seen_get hqj hqr]
                have gl : g < w6.heap.size := own_in o6 g rfl
                have hq' : (q : Int) < j := by omega
                clear o6 hv hqr h6
                go_wp2
                go_round
                case rel => exact ⟨q + 1, by omega, by go_num⟩
                case measure => simp [intOf]; omega
              · have hqd : decide (q < j) = false := decide_eq_false hqj
                obtain ⟨h6, o6⟩ := H6.out
                obtain ⟨i0, hi0, hz0, hz1, hz2⟩ := info_parts info3
                obtain ⟨sv', w7, happ, ho7, hg7, _, hat⟩ := run_append_own_at (P := Try.prog) ((w6.alloc (.cells #[.int .i64 rv.k, .int .i64 rv.a, .int .i64 rv.b] 23)).alloc (.cells #[.int .i64 ri] 3)) wB.heap.size 44 44 3 i0 _ 1 8 Try.underlying44 hi0 hz0 hz1 hz2 rfl (by omega) _ j _ ((o6.alloc _).alloc _)
                  ⟨w6.heap.size + 1, 0, none⟩ 1 1 [.int .i64 ri] rfl (World.news_of_block (cs := #[.int .i64 ri]) (t := 3) (fr := (0, 0)) (by have := heap_alloc_new (w6.alloc (.cells #[.int .i64 rv.k, .int .i64 rv.a, .int .i64 rv.b] 23)) (.cells #[.int .i64 ri] 3); simpa using this)) (by simp [Value.oneCell'])
                  (by unfold maxLen; omega) (by omega) (by simp; omega)
                rw [HO.out.2.2] at happ hg7
                change appendV Try.prog 44 44 (.slice A5 j cap5) (.slice (some ⟨w6.heap.size + 1, 0, none⟩) 1 1) _ = _ at happ
                have h7 : Own w w7 p rs S := (h6.alloc _ |>.alloc _).grown hg7 (fun x hx => by
                  have h1 := own_in o6 x (by rw [HO.out.2.2]; exact hx)
                  have h2 := (o6.lt x (by rw [HO.out.2.2]; exact hx)).1
                  exact ⟨fun hS => by have := HB1.out.lt x hS; omega, Nat.le_trans HB1.out.fr.size h2⟩)
                rw [← seen_succ HE.out.2.2.2.2.2] at ho7
                have s7 : wB.heap.size ≤ w7.heap.size := by have := hg7.size; simp at this; omega
                have H7 := Lib.hid (And.intro h7 ho7)
                clear h7 ho7 hg7 hat h6 o6 z0 z1 z2
                go_wp2
                go_roundw
                case rel => exact ⟨j + 1, by omega, by go_num, H7.out.1, s7, H7.out.2⟩
                case measure => simp [intOf]; omega
          · have hjd : decide (j < rs.length) = false := decide_eq_false hjl
            have hp := row_past (rs := rs) (j := rs.length) (Nat.le_refl _)
            have HP := Lib.hid hp
            clear hp
            go_wp2_with fail
            refine (len_own HO.out.1).mono ?_
            rintro e w4 ⟨rfl, rfl⟩
            go_wp2_with fail
            refine (len_own HO.out.1).mono ?_
            rintro e w4 ⟨rfl, rfl⟩
            go_wp2_with fail
            refine (orow HO.out.1 rs.length).mono ?_
            rintro e w5 ⟨rfl, h5, hf5⟩
            rw [HP.out]
            go_wp2_with (go_at_call 11; refine (awake_any _).mono ?_; rintro e w9 ⟨rfl, hf9⟩)
            go_ret
            exact ⟨rfl, fr_no (h5.fr.alloc _) hf9⟩
    · have hd2 : decide (k < n) = false := decide_eq_false hlt
      obtain ⟨rs, S, hb⟩ := HBo.out
      obtain ⟨hnd, hrg⟩ := hb.nodup
      have hlen := hb.is.len
      have HB1 := Lib.hid hb
      have HN := Lib.hid (And.intro hnd hrg)
      obtain ⟨wB, hwB⟩ : ∃ wB, wB = wr := ⟨wr, rfl⟩
      subst hwB
      clear hb HBo hnd hrg HS
      go_wp2_with fail
      go_loopw [5, 6] (fun sv t wr => ∃ j : Nat, j ≤ rs.length ∧ t = .int .i64 j ∧ Own w wr p rs S ∧ wB.heap.size ≤ wr.heap.size ∧ wr.ownsRow wB.heap.size 3 1 sv j (seen rs j)) (fun _ t _ => rs.length - (intOf t).toNat)
      case atStart => exact ⟨0, Nat.zero_le _, rfl, HB1.out, Nat.le_refl _, World.ownsRow_nil _ _ _ _⟩
      case round =>
        obtain ⟨j, hj, rfl, ho, hsz, hown⟩ := hrel
        obtain ⟨A5, cap5, hsv, hcap5⟩ := own_len hown
        have HO := Lib.hid (And.intro ho (And.intro hown hsv))
        clear ho hown
        by_cases hjl : j < rs.length
        · obtain ⟨ri, rv, hr⟩ : ∃ ri rv, rs[j]? = some (ri, rv) := ⟨_, _, List.getElem?_eq_getElem hjl⟩
          obtain ⟨e1, e2, e3⟩ := row_at hr
          obtain ⟨e4, e5⟩ := get_at HN.out.1 hr
          have hri := HN.out.2 (ri, rv) (List.mem_of_getElem? hr)
          have HE := Lib.hid (And.intro e1 (And.intro e2 (And.intro e3 (And.intro e4 (And.intro e5 hr)))))
          have wri : (Lit.int .i64 ri).wf = true := wf64 (by simp at hri; omega) (by simp at hri; omega)
          clear e1 e2 e3 e4 e5 hr hri
          go_wp2_with fail
          refine (len_own HO.out.1).mono ?_
          rintro e w4 ⟨rfl, rfl⟩
          go_wp2_with fail
          refine (orow HO.out.1 j).mono ?_
          rintro e w5 ⟨rfl, h5, hf5⟩
          rw [HE.out.1, HE.out.2.1, HE.out.2.2.1]
          have o5 := own_fr HO.out.2.1 hf5 (fun _ _ h => h)
          have H5 := Lib.hid (And.intro h5 (And.intro o5 hf5.size))
          clear h5 o5 hf5
          go_wp2_with fail
          refine (get_own (H5.out.1.alloc _) ri wri).mono ?_
          rintro e w6 ⟨rfl, h6, hf6⟩
          rw [HE.out.2.2.2.1, HE.out.2.2.2.2.1, AG.out]
          have o6 := own_fr (H5.out.2.1.alloc _) hf6 (fun _ _ h => h)
          have z := (Blk.new w5 23 #[.int .i64 rv.k, .int .i64 rv.a, .int .i64 rv.b]).fr hf6 (fun h => h)
          have z0 := z.cell 0
          have z1 := z.cell 1
          have z2 := z.cell 2
          have zl := z.lt
          simp at z0 z1 z2
          have s6 : wB.heap.size ≤ w6.heap.size := by have h1 := hf6.size; have h2 := H5.out.2.2; simp at h1; omega
          have H6 := Lib.hid (And.intro h6 o6)
          clear H5 h6 o6 hf6 z hsv
          go_wp2_with fail
          go_loop [12] (fun t => ∃ q : Nat, q ≤ j ∧ t = .int .i64 q) (fun t => j - (intOf t).toNat)
          case atStart => exact ⟨0, Nat.zero_le _, rfl⟩
          case round =>
            obtain ⟨q, hq, rfl⟩ := hrel
            by_cases hqj : q < j
            · obtain ⟨qi, qv, hqr⟩ : ∃ qi qv, rs[q]? = some (qi, qv) := ⟨_, _, List.getElem?_eq_getElem (by omega)⟩
              have hne : (qi == ri) = false := by
                simp
                intro e
                subst e
                have := key_inj HN.out.1 hqr HE.out.2.2.2.2.2
                omega
              obtain ⟨h6, o6⟩ := H6.out
              obtain ⟨g, cap', cur, hv, _⟩ := own_cases o6 (by omega)
              have hsv2 := (HO.out.2.2).symm.trans hv
              injection hsv2 with e1 _ e3
              subst e1 e3
              rw [hv] at o6
              have cq : w6.cell? ⟨g, q, none⟩ = some (.int .i64 qi) := by rw [o6.cellAt q (by omega), seen_get hqj hqr]
              have gl : g < w6.heap.size := own_in o6 g rfl
              have hq' : (q : Int) < j := by omega
              clear o6 hv hqr h6
              go_wp2
              go_round
              case rel => exact ⟨q + 1, by omega, by go_num⟩
              case measure => simp [intOf]; omega
            · have hqd : decide (q < j) = false := decide_eq_false hqj
              obtain ⟨h6, o6⟩ := H6.out
              obtain ⟨i0, hi0, hz0, hz1, hz2⟩ := info_parts info3
              obtain ⟨sv', w7, happ, ho7, hg7, _, hat⟩ := run_append_own_at (P := Try.prog) ((w6.alloc (.cells #[.int .i64 rv.k, .int .i64 rv.a, .int .i64 rv.b] 23)).alloc (.cells #[.int .i64 ri] 3)) wB.heap.size 44 44 3 i0 _ 1 8 Try.underlying44 hi0 hz0 hz1 hz2 rfl (by omega) _ j _ ((o6.alloc _).alloc _)
                ⟨w6.heap.size + 1, 0, none⟩ 1 1 [.int .i64 ri] rfl (World.news_of_block (cs := #[.int .i64 ri]) (t := 3) (fr := (0, 0)) (by have := heap_alloc_new (w6.alloc (.cells #[.int .i64 rv.k, .int .i64 rv.a, .int .i64 rv.b] 23)) (.cells #[.int .i64 ri] 3); simpa using this)) (by simp [Value.oneCell'])
                (by unfold maxLen; omega) (by omega) (by simp; omega)
              rw [HO.out.2.2] at happ hg7
              change appendV Try.prog 44 44 (.slice A5 j cap5) (.slice (some ⟨w6.heap.size + 1, 0, none⟩) 1 1) _ = _ at happ
              have h7 : Own w w7 p rs S := (h6.alloc _ |>.alloc _).grown hg7 (fun x hx => by
                have h1 := own_in o6 x (by rw [HO.out.2.2]; exact hx)
                have h2 := (o6.lt x (by rw [HO.out.2.2]; exact hx)).1
                exact ⟨fun hS => by have := HB1.out.lt x hS; omega, Nat.le_trans HB1.out.fr.size h2⟩)
              rw [← seen_succ HE.out.2.2.2.2.2] at ho7
              have s7 : wB.heap.size ≤ w7.heap.size := by have := hg7.size; simp at this; omega
              have H7 := Lib.hid (And.intro h7 ho7)
              clear h7 ho7 hg7 hat h6 o6 z0 z1 z2
              go_wp2
              go_roundw
              case rel => exact ⟨j + 1, by omega, by go_num, H7.out.1, s7, H7.out.2⟩
              case measure => simp [intOf]; omega
        · have hjd : decide (j < rs.length) = false := decide_eq_false hjl
          have hp := row_past (rs := rs) (j := rs.length) (Nat.le_refl _)
          have HP := Lib.hid hp
          clear hp
          go_wp2_with fail
          refine (len_own HO.out.1).mono ?_
          rintro e w4 ⟨rfl, rfl⟩
          go_wp2_with fail
          refine (len_own HO.out.1).mono ?_
          rintro e w4 ⟨rfl, rfl⟩
          go_wp2_with fail
          refine (orow HO.out.1 rs.length).mono ?_
          rintro e w5 ⟨rfl, h5, hf5⟩
          rw [HP.out]
          go_wp2_with (go_at_call 11; refine (awake_any _).mono ?_; rintro e w9 ⟨rfl, hf9⟩)
          go_ret
          exact ⟨rfl, fr_no (h5.fr.alloc _) hf9⟩
end Go.Proofs.Ytbcaajgomekjaaa
