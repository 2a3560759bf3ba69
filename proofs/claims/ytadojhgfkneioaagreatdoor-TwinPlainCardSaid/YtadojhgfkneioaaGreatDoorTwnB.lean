/-
  Acts that are neither to make a reader nor to read: the walk of the law.
-/
import Derived.Test.YtadojhgfkneioaaGreatDoorTwnA
import Derived.Test.YtadojhgfkneioaaGreatDoorTwnK
import Derived.Test.YtadojhgfkneioaaGreatDoorRds
import Derived.BigQuiet
namespace Go.Viv
open Go.Lib Go.RowKit
/-- Where an act that is kept comes to lie. -/
theorem kept_at (l : List Ac) : ∀ (k : Nat) (x : Ac), l[k]? = some x → keeps x = true → (l.filter keeps)[((l.take k).filter keeps).length]? = some x := by
  induction l with
  | nil => intro k x h; simp at h
  | cons y r ih =>
    intro k x h hx
    cases k with
    | zero =>
      obtain rfl : y = x := by simpa using h
      simp [hx]
    | succ k =>
      have h' : r[k]? = some x := by simpa using h
      have := ih k x h' hx
      cases hy : keeps y
      · simp [hy]; exact this
      · simp [hy]; exact this
end Go.Viv
namespace Go.Proofs.YtadojhgfkneioaaGreatDoor
open Go.RowKit Go.Viv
def order9 : List (Nat × Bool) := [(0, true), (1, true), (2, true), (3, true), (4, true), (5, true), (6, true), (7, true), (8, true), (9, true), (10, true), (11, true), (12, true), (13, true), (14, true), (15, true), (16, true), (17, true), (18, true), (19, true), (20, true), (21, true), (22, true), (23, true), (24, true), (25, true), (26, true), (27, true), (28, true), (29, true), (30, true), (31, true), (32, true), (33, true), (34, true), (35, true), (36, true), (37, true), (38, true), (39, true), (40, true), (41, true), (42, true), (43, true), (44, true), (45, true), (46, true), (47, true), (48, true), (49, true), (50, true), (51, true), (52, true), (53, true), (54, true), (55, true), (56, true), (57, true), (58, true), (59, true), (60, true), (61, true), (62, true), (63, true), (64, true), (65, true), (66, true), (67, true), (68, true), (69, true), (70, true), (71, true), (72, true), (73, true), (74, true), (75, true), (76, true), (77, true), (78, true), (79, true), (80, true), (81, true), (82, true), (83, true), (84, true), (85, true), (86, true), (87, true), (88, true), (89, true), (90, true), (91, true), (92, true), (93, true), (94, true), (95, true), (96, true), (97, true), (98, true), (99, true), (100, true), (101, true), (102, true), (103, true), (104, true), (105, true), (106, true), (107, true), (108, true), (109, true), (110, true), (111, true), (112, true), (113, true)]
theorem EnvT.fr {W W' : World} (h : EnvT W) (hf : Fr (fun _ => False) W W') : EnvT W' := by
  obtain ⟨e, fr, h⟩ := h
  have hlt : 7 < W.heap.size := by
    rcases Nat.lt_or_ge 7 W.heap.size with h' | h'
    · exact h'
    · rw [Array.getElem?_eq_none h'] at h; cases h
  exact ⟨e, fr, (hf.block _ hlt (fun h => h)).trans h⟩
set_option maxRecDepth 100000 in
set_option maxHeartbeats 4000000 in
theorem twinPlain_any (l : List Ac) (A : Option Addr) (cap : Nat) (w : World) (hr : RowC w A (l.flatMap actC)) (_hn : l.length ≤ cap) (_hc : cap ≤ 9223372036854775807) (hE : EnvT w) :
    Calls Tryz.prog 6 #[.slice A l.length cap] w fun e w' => e = .returned (.bool true) ∧ Fr (fun _ => False) w w' := by
  have HE := Lib.hid hE
  by_cases h100 : 100 < l.length
  · clear hE hr
    go_enter Tryz.func6, Tryz.ntmps6
    go_wp2_with (go_at_call 13; refine (awake27_any HE.out).mono ?_; rintro e w' ⟨rfl, hf⟩)
    go_ret
    exact ⟨rfl, hf⟩
  · have HP := Lib.hid (plain_any l A cap w hr _hn _hc (by omega))
    have HR := Lib.hid hr
    obtain ⟨n, hnl⟩ : ∃ n, l.length = n := ⟨_, rfl⟩
    have HN := Lib.hid hnl
    have HALL := Lib.hid (show l.take n = l from by rw [← hnl]; exact List.take_length)
    rw [hnl] at _hn h100 HP ⊢
    clear hE hr hnl
    go_enter Tryz.func6, Tryz.ntmps6
    go_wp2_with (go_at_call 18; refine HP.out.mono ?_; rintro e w1 ⟨A1, cap1, rfl, h1, h2, h3, h4⟩)
    obtain ⟨m, hm⟩ : ∃ m, (l.filter keeps).length = m := ⟨_, rfl⟩
    have HM := Lib.hid hm
    rw [hm] at h1
    simp only [hm]
    have HQ := Lib.hid (And.intro h3 h4)
    clear h3 h4 hm
    go_loopw [4, 5] (fun s t wr => ∃ k : Nat, k ≤ n ∧ t = .int .i64 k ∧ s = .int .i64 ((l.take k).filter keeps).length ∧ Fr (fun _ => False) w1 wr) (fun _ t _ => n - (intOf t).toNat)
    case atStart => exact ⟨0, by omega, rfl, rfl, Fr.refl _ _⟩
    case round =>
      obtain ⟨k, hk, rfl, rfl, hfr⟩ := hrel
      by_cases hlt : k < n
      · obtain ⟨x, hx⟩ : ∃ x, l[k]? = some x := ⟨_, List.getElem?_eq_getElem (by rw [HN.out]; exact hlt)⟩
        obtain ⟨b, o, rfl, hbw, hcs⟩ := rowA_at ((HR.out.fr HQ.out.2).fr hfr) hx
        have HF := Lib.hid (filter_snoc l k x hx)
        have HW := Lib.hid hfr
        have hkx : keeps x = (x.k != 10 && x.k != 11) := rfl
        have hkc : (k : Int) ≤ cap := by omega
        cases hkeep : keeps x with
        | false =>
          have HK := Lib.hid hkeep
          have d0 := hcs 0 _ rfl
          rw [Nat.add_zero] at d0
          by_cases hk10 : x.k = 10
          · have e1 : (x.k == 10) = true := by simp [hk10]
            clear hkx hk10 hcs hfr hx hkeep
            go_wp2
            go_roundw
            case rel => exact ⟨k + 1, by omega, by go_num, by rw [HF.out, HK.out]; simp, HW.out⟩
            case measure => simp [intOf]; omega
          · have e1 : (x.k == 10) = false := by simp [hk10]
            have hk11 : x.k = 11 := by
              rw [hkx] at hkeep
              simpa [hk10] using hkeep
            have e2 : (x.k == 11) = true := by simp [hk11]
            clear hkx hk10 hk11 hcs hfr hx hkeep
            go_wp2
            go_roundw
            case rel => exact ⟨k + 1, by omega, by go_num, by rw [HF.out, HK.out]; simp, HW.out⟩
            case measure => simp [intOf]; omega
        | true =>
          have hat := kept_at l k x hx hkeep
          obtain ⟨b1, o1, rfl, hbw1, hcs1⟩ := rowA_at (HQ.out.1.fr hfr) hat
          have HK := Lib.hid hkeep
          have e1 : (x.k == 10) = false := by
            rw [hkx] at hkeep
            simp at hkeep
            simp [hkeep.1]
          have e2 : (x.k == 11) = false := by
            rw [hkx] at hkeep
            simp at hkeep
            simp [hkeep.2]
          obtain ⟨q, hq⟩ : ∃ q, ((l.take k).filter keeps).length = q := ⟨_, rfl⟩
          have hqm : q < m := by
            have := (List.getElem?_eq_some_iff.1 hat).1
            rw [hq, HM.out] at this
            exact this
          rw [hq] at hcs1 ⊢
          have HQQ := Lib.hid hq
          have hqc : (q : Int) ≤ cap1 := by omega
          have hq100 : q ≤ 100 := by
            have h5 := List.length_filter_le keeps (l.take k)
            have h6 := List.length_take_le k l
            omega
          have hgt : decide (m ≤ q) = false := by simp; omega
          have d0 := hcs 0 _ rfl
          rw [Nat.add_zero] at d0
          have d1 := hcs 1 _ rfl
          have d2 := hcs 2 _ rfl
          have d3 := hcs 3 _ rfl
          have d4 := hcs 4 _ rfl
          have d5 := hcs 5 _ rfl
          have d6 := hcs 6 _ rfl
          have d7 := hcs 7 _ rfl
          have d8 := hcs 8 _ rfl
          have d9 := hcs 9 _ rfl
          have c0 := hcs1 0 _ rfl
          rw [Nat.add_zero] at c0
          have c1 := hcs1 1 _ rfl
          have c2 := hcs1 2 _ rfl
          have c3 := hcs1 3 _ rfl
          have c4 := hcs1 4 _ rfl
          have c5 := hcs1 5 _ rfl
          have c6 := hcs1 6 _ rfl
          have c7 := hcs1 7 _ rfl
          have c8 := hcs1 8 _ rfl
          have c9 := hcs1 9 _ rfl
          have n0 : ∀ z : Int, (z != z) = false := fun z => by simp
          clear hkx hcs hcs1 hfr hx hkeep hat hq
          go_wp2_with fail
          refine Eva.wp_region_reads (order := order9) (by kernel_rfl) (by kernel_rfl) (by kernel_rfl) (by kernel_rfl) ?_
          unfold order9
          iterate 114 (refine Mix.seq_read rfl rfl ?_; go_wp2_with fail; refine ⟨rfl, rfl, ?_⟩)
          refine Mix.seq_nil ?_
          have HWd := Lib.hid HW.out.drew
          go_wp2
          go_roundw
          case rel => exact ⟨k + 1, by omega, by go_num, by rw [HF.out, HK.out, if_pos rfl, List.length_append, HQQ.out]; go_num, HWd.out⟩
          case measure => simp [intOf]; omega
      · have hkn : k = n := by omega
        subst hkn
        have HW := Lib.hid hfr
        have e : ((l.take k).filter keeps).length = m := by rw [HALL.out]; exact HM.out
        rw [e]
        clear hfr e
        go_wp2_with (go_at_call 13; refine (awake27_any (HE.out.fr (fr_two HQ.out.2 HW.out))).mono ?_; rintro e w' ⟨rfl, hf⟩)
        go_ret
        exact ⟨rfl, fr_two (fr_two HQ.out.2 HW.out) hf⟩
end Go.Proofs.YtadojhgfkneioaaGreatDoor
