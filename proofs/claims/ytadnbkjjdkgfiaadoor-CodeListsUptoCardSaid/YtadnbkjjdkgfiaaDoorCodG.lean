/-
  Contracts of package code: the search for a name.
-/
import Derived.Test.YtadnbkjjdkgfiaaDoorCodB
namespace Go.Viv
open Go.Lib Go.Proofs.YtadnbkjjdkgfiaaDoor Go.RowKit
/-- Where a name stands first, from a place on; -1: nowhere. -/
def nameFrom (l : List UInt8) : List Shp → Nat → Int
  | [], _ => -1
  | x :: r, k => if x.name = l then k else nameFrom l r (k + 1)
def nameIdx (l : List UInt8) : Int := nameFrom l shapeTab 0
theorem name_at {xs : List Shp} {k : Nat} {x : Shp} (h : xs[k]? = some x) (l : List UInt8) : nameFrom l (xs.drop k) k = if x.name = l then (k : Int) else nameFrom l (xs.drop (k + 1)) (k + 1) := by
  have hk : k < xs.length := by
    rcases Nat.lt_or_ge k xs.length with h' | h'
    · exact h'
    · rw [List.getElem?_eq_none h'] at h; cases h
  rw [List.drop_eq_getElem_cons hk]
  rw [List.getElem?_eq_getElem hk] at h
  rw [Option.some.inj h, nameFrom]
end Go.Viv
namespace Go.Proofs.YtadnbkjjdkgfiaaDoor
open Go.RowKit Go.Viv

theorem isname_any (x : Shp) (l : List UInt8) (N : Nat) (w : World) (hN : w.cell? ⟨N, 0, none⟩ = some (str l)) : Calls Tryd.prog 51 #[x.agg, .pointer (some ⟨N, 0, none⟩)] w fun e w' => e = .returned (.bool (x.name == l)) ∧ Fr (fun _ => False) w w' := by
  have lt := block_lt_of_cell hN
  simp only at lt
  go_enter Tryd.func51, Tryd.ntmps51
  go_wp2
  go_ret
  exact ⟨rfl, Fr.alloc1 _ _ _⟩

set_option maxRecDepth 100000 in
set_option maxHeartbeats 1000000 in
theorem idx_any (B N : Nat) (l : List UInt8) (w : World) (hB : Blk w B 83 shapeCells) (hN : w.cell? ⟨N, 0, none⟩ = some (str l)) :
    Calls Tryd.prog 50 #[.slice (some ⟨B, 0, none⟩) 19 19, .func (.func 51) #[] #[.pointer (some ⟨N, 0, none⟩)]] w fun e w' => e = .returned (.int .i64 (nameIdx l)) ∧ Fr (fun _ => False) w w' := by
  have HB := Lib.hid (And.intro hB hN)
  have hlen : shapeTab.length = 19 := by decide
  have HL := Lib.hid hlen
  clear hB hN hlen
  go_enter Tryd.func50, Tryd.ntmps50
  go_wp2_with fail
  go_loopw [5, 8] (fun _ t wr => ∃ k : Nat, k ≤ 19 ∧ t = .int .i64 k ∧ nameIdx l = nameFrom l (shapeTab.drop k) k ∧ Fr (fun _ => False) w wr) (fun _ t _ => 19 - (intOf t).toNat)
  case atStart => exact ⟨0, by omega, rfl, rfl, Fr.refl _ _⟩
  case round =>
    obtain ⟨k, hk, rfl, hidx, hfr⟩ := hrel
    by_cases hlt : k < 19
    · have hlt' : (k : Int) < 19 := by omega
      obtain ⟨x, hx⟩ : ∃ x, shapeTab[k]? = some x := ⟨_, List.getElem?_eq_getElem (by rw [HL.out]; exact hlt)⟩
      obtain ⟨t0, t1, t2, t3, t4⟩ := tab_at k x hx
      obtain ⟨c0, c1, c2, c3, c4⟩ := blk5 (HB.out.1.fr hfr (fun h => h)) t0 t1 t2 t3 t4
      rw [name_at hx] at hidx
      obtain ⟨b, hb⟩ : ∃ b, (x.name == l) = b := ⟨_, rfl⟩
      have HC := Lib.hid (show Calls Tryd.prog 51 #[x.agg, .pointer (some ⟨N, 0, none⟩)] wr fun e w' => e = .returned (.bool b) ∧ Fr (fun _ => False) wr w' from by
        rw [← hb]; exact isname_any x l N wr (by rw [hfr.cell (p := ⟨N, 0, none⟩) (by have := block_lt_of_cell HB.out.2; exact this) (fun h => h)]; exact HB.out.2))
      have HX := Lib.hid (And.intro hidx (And.intro hb hfr))
      clear hidx hb hfr hx t0 t1 t2 t3 t4
      obtain ⟨wB, hwB⟩ : ∃ wB, wB = wr := ⟨wr, rfl⟩
      subst hwB
      cases b with
      | true =>
        go_wp2_with (go_at_call 51; refine HC.out.mono ?_; rintro e w2 ⟨rfl, hf2⟩)
        go_ret
        refine ⟨?_, fr_two HX.out.2.2 hf2⟩
        rw [HX.out.1, if_pos (eq_of_beq HX.out.2.1)]
        rfl
      | false =>
        go_wp2_with (go_at_call 51; refine HC.out.mono ?_; rintro e w2 ⟨rfl, hf2⟩; have H2 := Lib.hid hf2; clear hf2)
        go_roundw
        case rel =>
          refine ⟨k + 1, by omega, by go_num, ?_, fr_two HX.out.2.2 H2.out⟩
          rw [HX.out.1, if_neg (beq_eq_false_iff_ne.1 HX.out.2.1)]
        case measure => simp [intOf]; omega
    · obtain rfl : k = 19 := by omega
      have HX := Lib.hid (And.intro hidx hfr)
      clear hidx hfr
      go_wp2
      go_ret
      refine ⟨?_, HX.out.2⟩
      rw [HX.out.1, List.drop_of_length_le (by rw [HL.out]; exact Nat.le_refl _)]
      rfl
end Go.Proofs.YtadnbkjjdkgfiaaDoor
