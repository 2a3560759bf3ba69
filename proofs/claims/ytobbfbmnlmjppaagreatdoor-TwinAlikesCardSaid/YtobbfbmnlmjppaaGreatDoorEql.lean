/-
  Rows that are the same: the walk of slices.Equal over whole numbers.
-/
import Derived.Test.YtobbfbmnlmjppaaGreatDoorProg
import Derived.Test.YtobbfbmnlmjppaaGreatDoorInts
import Derived.Test.YtobbfbmnlmjppaaGreatDoorMixFr
import Derived.Test.YtobbfbmnlmjppaaGreatDoorRds
import Derived.Outline
import Derived.Lib.Hide
import Derived.BigQuiet
namespace Go.Viv
theorem take_eq_all {α : Type} {l m : List α} {n : Nat} (hl : l.length = n) (hm : m.length = n) (h : l.take n = m.take n) : l = m := by
  rw [← hl, List.take_length, hl, ← hm, List.take_length] at h
  exact h
theorem take_eq_snoc {α : Type} {l m : List α} {k : Nat} {x : α} (h : l.take k = m.take k) (hl : l[k]? = some x) (hm : m[k]? = some x) : l.take (k + 1) = m.take (k + 1) := by
  rw [List.take_add_one, List.take_add_one, h, hl, hm]
theorem ne_at {α : Type} {l m : List α} {k : Nat} {x y : α} (hl : l[k]? = some x) (hm : m[k]? = some y) (h : x ≠ y) : l ≠ m := by
  rintro rfl
  rw [hl] at hm
  exact h (Option.some.inj hm)
end Go.Viv
namespace Go.Proofs.YtobbfbmnlmjppaaGreatDoor
open Go.RowKit Go.Viv Go.Lib
def readsN (n : Nat) : List (Nat × Bool) := (List.range n).map fun i => (i, true)
set_option maxRecDepth 100000 in
set_option maxHeartbeats 2000000 in
theorem eqI_any (l m : List Int) (A B : Option Addr) (ca cb : Nat) (w : World) (hl : RowC w A (ints l)) (hm : RowC w B (ints m)) (_ha : l.length ≤ ca) (_hb : m.length ≤ cb) (_hca : ca ≤ 9223372036854775807) (_hcb : cb ≤ 9223372036854775807) :
    Calls Tryz.prog 21 #[.slice A l.length ca, .slice B m.length cb] w fun e w' => e = .returned (.bool (l == m)) ∧ Fr (fun _ => False) w w' := by
  by_cases hne : l.length = m.length
  · have HL := Lib.hid hl
    have HM := Lib.hid hm
    obtain ⟨n, hnl⟩ : ∃ n, l.length = n := ⟨_, rfl⟩
    have HN := Lib.hid hnl
    have HN2 := Lib.hid (hne.symm.trans hnl)
    rw [← hne, hnl] at _hb
    rw [← hne, hnl]
    rw [hnl] at _ha
    clear hl hm hnl hne
    go_enter Tryz.func21, Tryz.ntmps21
    go_wp2_with fail
    go_loopw [13] (fun t wr => ∃ k : Nat, k ≤ n ∧ t = .int .i64 k ∧ l.take k = m.take k ∧ Fr (fun _ => False) w wr) (fun t _ => n - (intOf t).toNat)
    case atStart => exact ⟨0, by omega, rfl, rfl, Fr.refl _ _⟩
    case round =>
      obtain ⟨k, hk, rfl, heq, hfr⟩ := hrel
      by_cases hlt : k < n
      · obtain ⟨x, hx⟩ : ∃ x, l[k]? = some x := ⟨_, List.getElem?_eq_getElem (by rw [HN.out]; exact hlt)⟩
        obtain ⟨y, hy⟩ : ∃ y, m[k]? = some y := ⟨_, List.getElem?_eq_getElem (by rw [HN2.out]; exact hlt)⟩
        obtain ⟨b, o, rfl, hbw, hcx⟩ := rowN_at (HL.out.fr hfr) hx
        obtain ⟨b2, o2, rfl, hbw2, hcy⟩ := rowN_at (HM.out.fr hfr) hy
        have HE := Lib.hid heq
        have HX := Lib.hid (And.intro hx hy)
        have HW := Lib.hid hfr.drew
        have hgt : decide (n ≤ k) = false := by simp; omega
        by_cases hxy : x = y
        · subst hxy
          have e1 : (x != x) = false := by simp
          clear heq hx hy hfr
          go_wp2_with fail
          refine Eva.wp_region_reads (order := readsN 9) (by kernel_rfl) (by kernel_rfl) (by kernel_rfl) (by kernel_rfl) ?_
          iterate 9 (refine Mix.seq_read rfl rfl ?_; go_wp2_with fail; refine ⟨rfl, rfl, ?_⟩)
          refine Mix.seq_nil ?_
          go_wp2
          go_roundw
          case rel => exact ⟨k + 1, by omega, by go_num, take_eq_snoc HE.out HX.out.1 HX.out.2, HW.out⟩
          case measure => simp [intOf]; omega
        · have e1 : (x != y) = true := by simp [hxy]
          have HD := Lib.hid (ne_at hx hy hxy)
          clear heq hx hy hfr hxy
          go_wp2_with fail
          refine Eva.wp_region_reads (order := readsN 9) (by kernel_rfl) (by kernel_rfl) (by kernel_rfl) (by kernel_rfl) ?_
          iterate 9 (refine Mix.seq_read rfl rfl ?_; go_wp2_with fail; refine ⟨rfl, rfl, ?_⟩)
          refine Mix.seq_nil ?_
          go_wp2
          go_ret
          exact ⟨by rw [show (l == m) = false from by simpa using HD.out]; rfl, HW.out⟩
      · have hkn : k = n := by omega
        subst hkn
        have HE := Lib.hid (take_eq_all HN.out HN2.out heq)
        have HW := Lib.hid hfr
        clear heq hfr
        go_wp2
        go_ret
        exact ⟨by rw [show (l == m) = true from by simpa using HE.out]; rfl, HW.out⟩
  · have e1 : ((l.length : Int) != m.length) = true := by simp; omega
    have HD := Lib.hid (show (l == m) = false from by
      have : l ≠ m := fun h => hne (by rw [h])
      simpa using this)
    clear hl hm hne
    go_enter Tryz.func21, Tryz.ntmps21
    go_wp2
    go_ret
    exact ⟨by rw [HD.out]; rfl, Fr.refl _ _⟩
end Go.Proofs.YtobbfbmnlmjppaaGreatDoor
