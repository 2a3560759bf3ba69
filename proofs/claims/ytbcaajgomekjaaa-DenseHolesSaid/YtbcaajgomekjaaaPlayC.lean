/-
  The law DensePlays, walked.
-/
import Derived.Test.YtbcaajgomekjaaaPlayB
namespace Go.Proofs.Ytbcaajgomekjaaa
open Go.RowKit Go.Maps Go.Viv

structure OpD where
  kd : Int
  i : Int
  v : Val

/-- A slice of ops that came in. -/
def SlOps (w : World) (A : Option Addr) (n : Nat) (os : List OpD) : Prop :=
  os.length = n ∧ (∀ o ∈ os, (Lit.int .i64 o.i).wf = true) ∧ (0 < n → ∃ b off, A = some ⟨b, off, none⟩ ∧ b < w.heap.size ∧ ∀ k o, os[k]? = some o →
    w.cell? ⟨b, off + k * 5, none⟩ = some (.int .i64 o.kd) ∧ w.cell? ⟨b, off + k * 5 + 1, none⟩ = some (.int .i64 o.i) ∧ w.cell? ⟨b, off + k * 5 + 2, none⟩ = some (.int .i64 o.v.k) ∧ w.cell? ⟨b, off + k * 5 + 3, none⟩ = some (.int .i64 o.v.a) ∧ w.cell? ⟨b, off + k * 5 + 4, none⟩ = some (.int .i64 o.v.b))

def BothE (w0 w : World) (p q : Nat) : Prop := ∃ rs S T, Both w0 w p q rs S T

theorem Both.len {w0 w : World} {p q : Nat} {rs : List (Int × Val)} {S T : Nat → Prop} (h : Both w0 w p q rs S T) : rs.length ≤ 65536 := h.den.len

theorem table_new {w0 w : World} {p : Nat} {S : Nat → Prop} (h : Own w0 w p [] S) : Both w0 (w.alloc (.cells #[.slice none 0 0] 37)) p w.heap.size [] S (fun k => k = w.heap.size) := by
  have h1 := h.alloc (.cells #[.slice none 0 0] 37)
  refine ⟨h1.is, ⟨.slice none 0 0, Blk.new _ _ _, World.ownsRow_nil _ _ _ _, by simp, by simp, rfl, by simp [Value.ownBlock]⟩, fun k hk e => ?_, h1.fr, h1.up, fun k hk => by rw [hk]; exact h.fr.size, h1.lt, fun k hk => by rw [hk]; simp⟩
  have := h.lt k hk
  omega

def rIdx (rs : List (Int × Val)) (j : Int) : Int := ((rowI rs j).map (·.1)).getD 0
def rVal (rs : List (Int × Val)) (j : Int) : Val := ((rowI rs j).map (·.2)).getD Val.zero
def rHas (rs : List (Int × Val)) (j : Int) : Bool := (rowI rs j).isSome
theorem brow {w0 w : World} {p q : Nat} {rs : List (Int × Val)} {S T : Nat → Prop} (h : Both w0 w p q rs S T) (j : Int) :
    Calls Try.prog 14 #[.pointer (some ⟨p, 0, none⟩), .int .i64 j] w fun e w' => e = .returned (.tuple #[.int .i64 (rIdx rs j), .agg #[.int .i64 (rVal rs j).k, .int .i64 (rVal rs j).a, .int .i64 (rVal rs j).b], .bool (rHas rs j)]) ∧ Both w0 w' p q rs S T ∧ Fr (fun _ => False) w w' :=
  (row_any p j rs S w h.den).mono fun e w' ⟨he, hf⟩ => ⟨he, h.still hf, hf⟩
theorem btrow {w0 w : World} {p q : Nat} {rs : List (Int × Val)} {S T : Nat → Prop} (h : Both w0 w p q rs S T) (j : Int) :
    Calls Try.prog 15 #[.pointer (some ⟨q, 0, none⟩), .int .i64 j] w fun e w' => e = .returned (.tuple #[.int .i64 (rIdx rs j), .agg #[.int .i64 (rVal rs j).k, .int .i64 (rVal rs j).a, .int .i64 (rVal rs j).b], .bool (rHas rs j)]) ∧ Both w0 w' p q rs S T ∧ Fr (fun _ => False) w w' :=
  (trow_any q j rs T w h.tab).mono fun e w' ⟨he, hf⟩ => ⟨he, h.still hf, hf⟩

set_option maxRecDepth 100000 in
set_option maxHeartbeats 1000000 in
theorem plays_any (A : Option Addr) (n c : Nat) (os : List OpD) (row : Int) (w : World) (hs : SlOps w A n os) :
    Calls Try.prog 5 #[.slice A n c, .int .i64 row] w fun e w' => e = .returned (.bool true) ∧ Fr (fun _ => False) w w' := by
  have AG := Lib.hid (show ∀ v : Val, v.agg = Value.agg #[.int .i64 v.k, .int .i64 v.a, .int .i64 v.b] from fun _ => rfl)
  have HS := Lib.hid hs
  clear hs
  go_enter Try.func5, Try.ntmps5
  go_wp2_with (first
    | (go_at_call 7; refine (new_own w _ (Fr.refl _ _)).mono ?_; rintro e w1 ⟨p, S1, rfl, h1, _, _⟩)
    | (go_at_call 11; refine (awake_any _).mono ?_; rintro e w2 ⟨rfl, hf2⟩))
  have hb := table_new (h1.still hf2)
  obtain ⟨q, hq⟩ : ∃ q, q = w2.heap.size := ⟨_, rfl⟩
  have HB := Lib.hid (show BothE w (w2.alloc (.cells #[.slice none 0 0] 37)) p q from ⟨_, _, _, by rw [hq]; exact hb⟩)
  rw [← hq]
  clear hb h1 hf2 hq
  go_loopw [7] (fun t wr => ∃ k : Nat, k ≤ n ∧ k ≤ 100 ∧ t = .int .i64 k ∧ BothE w wr p q) (fun t _ => 100 - (intOf t).toNat)
  case atStart => exact ⟨0, Nat.zero_le _, by omega, rfl, HB.out⟩
  case round =>
    obtain ⟨k, hk, hk1, rfl, hbo⟩ := hrel
    have HBo := Lib.hid hbo
    clear hbo HB
    by_cases hlt : k < n
    · by_cases hlt2 : k < 100
      · obtain ⟨rs, S, T, hb⟩ := HBo.out
        obtain ⟨hl, hwf, hc⟩ := HS.out
        obtain ⟨b, off, rfl, hbl, hcells⟩ := hc (by omega)
        obtain ⟨o, ho⟩ : ∃ o, os[k]? = some o := ⟨_, List.getElem?_eq_getElem (by omega)⟩
        obtain ⟨x0, x1, x2, x3, x4⟩ := hcells k o ho
        have hoi := hwf o (List.mem_of_getElem? ho)
        have y0 := (hb.fr.cell (p := ⟨b, off + k * 5, none⟩) hbl (fun h => h)).trans x0
        have y1 := (hb.fr.cell (p := ⟨b, off + k * 5 + 1, none⟩) hbl (fun h => h)).trans x1
        have y2 := (hb.fr.cell (p := ⟨b, off + k * 5 + 2, none⟩) hbl (fun h => h)).trans x2
        have y3 := (hb.fr.cell (p := ⟨b, off + k * 5 + 3, none⟩) hbl (fun h => h)).trans x3
        have y4 := (hb.fr.cell (p := ⟨b, off + k * 5 + 4, none⟩) hbl (fun h => h)).trans x4
        have HB1 := Lib.hid hb
        have hlt' : (k : Int) < n := by omega
        clear hb hl hwf hc hbl hcells ho x0 x1 x2 x3 x4 HBo
        go_wp2_with fail
        refine (do_any HB1.out _ _ o.v hoi).mono ?_
        rintro e w3 ⟨rfl, hdone⟩
        obtain ⟨rs2, S2, T2, hb2, _⟩ := hdone
        have hlen := hb2.len
        have HB2 := Lib.hid hb2
        clear HB1 y0 y1 y2 y3 y4 hb2
        go_wp2_with fail
        go_loopw [8] (fun t wr => ∃ j : Int, -1 ≤ j ∧ j ≤ rs2.length + 1 ∧ t = .int .i64 j ∧ Both w wr p q rs2 S2 T2) (fun t _ => (rs2.length + 1 - intOf t).toNat)
        case atStart => exact ⟨-1, by omega, by omega, rfl, HB2.out⟩
        case round =>
          obtain ⟨j, hj0, hj1, rfl, hbo⟩ := hrel
          have HBo := Lib.hid hbo
          obtain ⟨A2, cap2, tq⟩ := hbo.tlen
          clear hbo HB2
          by_cases hjl : j ≤ rs2.length
          · go_wp2_with fail
            refine (brow HBo.out j).mono ?_
            rintro e w4 ⟨rfl, hb4, _⟩
            have HB4 := Lib.hid hb4
            clear HBo tq hb4
            go_wp2_with fail
            refine (btrow (HB4.out.still (Fr.alloc1 _ _ _)) j).mono ?_
            rintro e w5 ⟨rfl, hb5, hf5⟩
            have z := (Blk.new w4 23 #[.int .i64 (rVal rs2 j).k, .int .i64 (rVal rs2 j).a, .int .i64 (rVal rs2 j).b]).fr hf5 (fun h => h)
            have z0 := z.cell 0
            have z1 := z.cell 1
            have z2 := z.cell 2
            have zl := z.lt
            simp at z0 z1 z2
            have HB5 := Lib.hid hb5
            clear HB4 hb5 hf5 z
            go_wp2
            go_roundw
            case rel => exact ⟨j + 1, by omega, by omega, rfl, HB5.out.still (Fr.alloc1 _ _ _)⟩
            case measure => simp [intOf]; omega
          · have hjd : decide (j ≤ (rs2.length : Int)) = false := decide_eq_false hjl
            go_wp2
            go_roundw
            case rel => exact ⟨k + 1, by omega, by omega, by go_num, _, _, _, HBo.out⟩
            case measure => simp [intOf]; omega
      · have hd2 : decide ((k : Int) < 100) = false := decide_eq_false (by omega)
        have hlt' : (k : Int) < n := by omega
        obtain ⟨rs, S, T, hb⟩ := HBo.out
        have HB1 := Lib.hid hb
        clear hb HBo
        go_wp2_with fail
        refine (brow HB1.out row).mono ?_
        rintro e w4 ⟨rfl, hb4, _⟩
        have HB4 := Lib.hid hb4
        clear HB1 hb4
        go_wp2_with fail
        refine (btrow (HB4.out.still (Fr.alloc1 _ _ _)) row).mono ?_
        rintro e w5 ⟨rfl, hb5, hf5⟩
        have z := (Blk.new w4 23 #[.int .i64 (rVal rs row).k, .int .i64 (rVal rs row).a, .int .i64 (rVal rs row).b]).fr hf5 (fun h => h)
        have z0 := z.cell 0
        have z1 := z.cell 1
        have z2 := z.cell 2
        have zl := z.lt
        simp at z0 z1 z2
        have HB5 := Lib.hid hb5
        clear HB4 hb5 hf5 z
        go_wp2
        go_ret
        exact ⟨rfl, HB5.out.fr.alloc _⟩
    · have hd2 : decide (k < n) = false := decide_eq_false hlt
      obtain ⟨rs, S, T, hb⟩ := HBo.out
      have HB1 := Lib.hid hb
      clear hb HBo
      go_wp2_with fail
      refine (brow HB1.out row).mono ?_
      rintro e w4 ⟨rfl, hb4, _⟩
      have HB4 := Lib.hid hb4
      clear HB1 hb4
      go_wp2_with fail
      refine (btrow (HB4.out.still (Fr.alloc1 _ _ _)) row).mono ?_
      rintro e w5 ⟨rfl, hb5, hf5⟩
      have z := (Blk.new w4 23 #[.int .i64 (rVal rs row).k, .int .i64 (rVal rs row).a, .int .i64 (rVal rs row).b]).fr hf5 (fun h => h)
      have z0 := z.cell 0
      have z1 := z.cell 1
      have z2 := z.cell 2
      have zl := z.lt
      simp at z0 z1 z2
      have HB5 := Lib.hid hb5
      clear HB4 hb5 hf5 z
      go_wp2
      go_ret
      exact ⟨rfl, HB5.out.fr.alloc _⟩
end Go.Proofs.Ytbcaajgomekjaaa
