/-
  Which registers are named: Regs.
-/
import Derived.Test.YtadnbkjjdkgfiaaDoorCodD
import Derived.Test.YtadnbkjjdkgfiaaDoorAt
namespace Go.Viv
open Go.Lib Go.Proofs.YtadnbkjjdkgfiaaDoor Go.RowKit
/-- How often instructions name a register. -/
def hit (b : Bool) (r j : Int) : Nat := if b && decide (0 ≤ r) && decide (r < 4) && (r == j) then 1 else 0
def cntI (i : Insn) (j : Int) : Nat := hit ((ofOp i.op).getD ⟨[], false, false, false, false⟩).r i.r j + hit ((ofOp i.op).getD ⟨[], false, false, false, false⟩).s i.s j
def cnt : List Insn → Int → Nat
  | [], _ => 0
  | i :: r, j => cntI i j + cnt r j
theorem cnt_snoc (l : List Insn) (i : Insn) (j : Int) : cnt (l ++ [i]) j = cnt l j + cntI i j := by
  induction l with
  | nil => simp [cnt]
  | cons x r ih => simp [cnt, ih]; omega
theorem hit_le (b : Bool) (r j : Int) : hit b r j ≤ 1 := by unfold hit; split <;> omega
theorem cntI_le (i : Insn) (j : Int) : cntI i j ≤ 2 := by
  have h1 := hit_le ((ofOp i.op).getD ⟨[], false, false, false, false⟩).r i.r j
  have h2 := hit_le ((ofOp i.op).getD ⟨[], false, false, false, false⟩).s i.s j
  unfold cntI
  omega
theorem cnt_le (l : List Insn) (j : Int) : cnt l j ≤ 2 * l.length := by
  induction l with
  | nil => simp [cnt]
  | cons x r ih =>
    have := cntI_le x j
    simp [cnt]
    omega
def regsOf (l : List Insn) : List Int := [0, 1, 2, 3].filter (fun j => decide (0 < cnt l j))
end Go.Viv
namespace Go.Proofs.YtadnbkjjdkgfiaaDoor
open Go.RowKit Go.Viv
attribute [local go_sem ↓] wp_appendV

theorem fr_own (w : World) (B o : Nat) (u : Value) : Fr (fun x => x = B) w (w.setCell ⟨B, o, none⟩ u) := Fr.setCell (S := fun x => x = B) (Fr.refl _ w) (.inl rfl) u
/-- The four counts. -/
def four (a b c d : Nat) : Array Value := #[.int .i64 a, .int .i64 b, .int .i64 c, .int .i64 d]
theorem put_any (is : Bool) (r : Int) (B : Nat) (a b c d : Nat) (w : World) (hB : Blk w B 101 (four a b c d)) (h : a < 1000000 ∧ b < 1000000 ∧ c < 1000000 ∧ d < 1000000) :
    Calls Tryd.prog 63 #[.bool is, .int .i64 r, .pointer (some ⟨B, 0, none⟩)] w fun e w' => e = .returned (.tuple #[]) ∧ Blk w' B 101 (four (a + hit is r 0) (b + hit is r 1) (c + hit is r 2) (d + hit is r 3)) ∧ Fr (fun x => x = B) w w' := by
  obtain ⟨h1, h2, h3, h4⟩ := h
  have e0 : w.cell? ⟨B, 0, none⟩ = some (.int .i64 a) := hB.cell 0
  have e1 : w.cell? ⟨B, 1, none⟩ = some (.int .i64 b) := hB.cell 1
  have e2 : w.cell? ⟨B, 2, none⟩ = some (.int .i64 c) := hB.cell 2
  have e3 : w.cell? ⟨B, 3, none⟩ = some (.int .i64 d) := hB.cell 3
  have f0 := hB.frozen 0
  have f1 := hB.frozen 1
  have f2 := hB.frozen 2
  have f3 := hB.frozen 3
  have lt := hB.lt
  have HB := Lib.hid hB
  clear hB
  cases is with
  | false =>
    go_enter Tryd.func63, Tryd.ntmps63
    go_wp2
    go_end0
    exact ⟨rfl, by simpa [hit] using HB.out, Fr.refl _ _⟩
  | true =>
    by_cases hr0 : 0 ≤ r
    · by_cases hr4 : r < 4
      · have hc : r = 0 ∨ r = 1 ∨ r = 2 ∨ r = 3 := by omega
        clear hr0 hr4
        rcases hc with rfl | rfl | rfl | rfl
        · go_enter Tryd.func63, Tryd.ntmps63
          go_wp2
          go_end0
          exact ⟨rfl, by have := HB.out.set_ 0 (.int .i64 (a + 1)); simpa [hit, four] using this, fr_own _ _ _ _⟩
        · go_enter Tryd.func63, Tryd.ntmps63
          go_wp2
          go_end0
          exact ⟨rfl, by have := HB.out.set_ 1 (.int .i64 (b + 1)); simpa [hit, four] using this, fr_own _ _ _ _⟩
        · go_enter Tryd.func63, Tryd.ntmps63
          go_wp2
          go_end0
          exact ⟨rfl, by have := HB.out.set_ 2 (.int .i64 (c + 1)); simpa [hit, four] using this, fr_own _ _ _ _⟩
        · go_enter Tryd.func63, Tryd.ntmps63
          go_wp2
          go_end0
          exact ⟨rfl, by have := HB.out.set_ 3 (.int .i64 (d + 1)); simpa [hit, four] using this, fr_own _ _ _ _⟩
      · have hh : ∀ j, hit true r j = 0 := fun j => by unfold hit; rw [decide_eq_false hr4]; simp
        have HH := Lib.hid hh
        clear hh
        have hr4' : 4 ≤ r := by omega
        go_enter Tryd.func63, Tryd.ntmps63
        go_wp2
        go_end0
        exact ⟨rfl, by rw [HH.out, HH.out, HH.out, HH.out]; exact HB.out, Fr.refl _ _⟩
    · have hh : ∀ j, hit true r j = 0 := fun j => by unfold hit; rw [decide_eq_false hr0]; simp
      have HH := Lib.hid hh
      clear hh
      have hr0' : r < 0 := by omega
      go_enter Tryd.func63, Tryd.ntmps63
      go_wp2
      go_end0
      exact ⟨rfl, by rw [HH.out, HH.out, HH.out, HH.out]; exact HB.out, Fr.refl _ _⟩

/-- The registers below k that are named. -/
def regsUp (F : Int → Bool) (k : Nat) : List Int := (([0, 1, 2, 3] : List Int).take k).filter F
theorem take4 {k : Nat} (hk : k < 4) : ([0, 1, 2, 3] : List Int).take (k + 1) = ([0, 1, 2, 3] : List Int).take k ++ [(k : Int)] := by
  rcases k with _ | _ | _ | _ | k
  all_goals first | omega | rfl
theorem regsUp_yes (F : Int → Bool) {k : Nat} (hk : k < 4) (h : F k = true) : regsUp F (k + 1) = regsUp F k ++ [(k : Int)] := by
  unfold regsUp
  rw [take4 hk, List.filter_append, List.filter_cons, if_pos h]
  rfl
theorem regsUp_no (F : Int → Bool) {k : Nat} (hk : k < 4) (h : F k = false) : regsUp F (k + 1) = regsUp F k := by
  unfold regsUp
  rw [take4 hk, List.filter_append, List.filter_cons, if_neg (by rw [h]; simp)]
  simp
theorem regsUp_len (F : Int → Bool) (k : Nat) : (regsUp F k).length ≤ 4 := by
  unfold regsUp
  refine Nat.le_trans (List.length_filter_le _ _) ?_
  rw [List.length_take]; simp; omega
theorem idx4 (a b c d : Nat) {k : Nat} (hk : k < 4) (F : Int → Bool) (h0 : F 0 = decide (0 < a)) (h1 : F 1 = decide (0 < b)) (h2 : F 2 = decide (0 < c)) (h3 : F 3 = decide (0 < d)) :
    ∃ x : Nat, (∀ w, (Instr.index 101 (.agg (four a b c d)) (.int .i64 k)).run Tryd.prog w = .ok (.int .i64 x) w) ∧ F k = decide (0 < x) := by
  rcases k with _ | _ | _ | _ | k
  · exact ⟨a, fun _ => by kernel_rfl, h0⟩
  · exact ⟨b, fun _ => by kernel_rfl, h1⟩
  · exact ⟨c, fun _ => by kernel_rfl, h2⟩
  · exact ⟨d, fun _ => by kernel_rfl, h3⟩
  · omega
theorem take_snocI {is : List Insn} {k : Nat} {i : Insn} (h : is[k]? = some i) : is.take (k + 1) = is.take k ++ [i] := by
  rw [List.take_add_one, h]; rfl
set_option maxRecDepth 100000 in
set_option maxHeartbeats 2000000 in
theorem regs_any (is : List Insn) (A : Option Addr) (cap : Nat) (w : World) (hr : RowC w A (is.flatMap cellsI)) (_hn : is.length ≤ cap) (_hc : cap ≤ 9223372036854775807) (hB : is.length ≤ 1000) :
    Calls Tryd.prog 37 #[.slice A is.length cap] w fun e w' => ∃ A' n' cap', e = .returned (.slice A' n' cap') ∧ Sl w' A' n' cap' (regsOf is) ∧ Fr (fun _ => False) w w' := by
  have HR := Lib.hid hr
  clear hr
  obtain ⟨n, hnl⟩ : ∃ n, is.length = n := ⟨_, rfl⟩
  have HN := Lib.hid hnl
  rw [hnl] at _hn hB ⊢
  clear hnl
  go_enter Tryd.func37, Tryd.ntmps37
  go_wp2_with fail
  go_loopw [15] (fun t wr => ∃ k : Nat, k ≤ n ∧ t = .int .i64 k ∧ Blk wr w.heap.size 101 (four (cnt (is.take k) 0) (cnt (is.take k) 1) (cnt (is.take k) 2) (cnt (is.take k) 3)) ∧ Fr (fun _ => False) w wr) (fun t _ => n - (intOf t).toNat)
  case atStart => exact ⟨0, Nat.zero_le _, rfl, Blk.new w 101 _, Fr.alloc1 _ _ _⟩
  case round =>
    obtain ⟨k, hk, rfl, hblk, hfr⟩ := hrel
    by_cases hlt : k < n
    · obtain ⟨i, hi⟩ : ∃ i, is[k]? = some i := ⟨_, List.getElem?_eq_getElem (by rw [HN.out]; exact hlt)⟩
      obtain ⟨b, o, rfl, hbw, d0, d1, d2, d3⟩ := rowI_at (HR.out.fr hfr) hi
      have hcn : ∀ j, cnt (is.take k) j ≤ 2000 := fun j => by
        have h1 := cnt_le (is.take k) j
        have h2 : (is.take k).length ≤ k := List.length_take_le _ _
        omega
      have HC := Lib.hid hcn
      obtain ⟨x, hx⟩ : ∃ x, (ofOp i.op).getD ⟨[], false, false, false, false⟩ = x := ⟨_, rfl⟩
      obtain ⟨bo, hbo⟩ : ∃ x, (ofOp i.op).isSome = x := ⟨_, rfl⟩
      have HO := Lib.hid (fun W => show Calls Tryd.prog 54 #[.int .i64 i.op] W fun e w' => e = .returned (.tuple #[x.agg, .bool bo]) ∧ Fr (fun _ => False) W w' from by rw [← hx, ← hbo]; exact of_any i.op W)
      have HX := Lib.hid (show ∀ j, cnt (is.take (k + 1)) j = cnt (is.take k) j + hit x.r i.r j + hit x.s i.s j from fun j => by rw [take_snocI hi, cnt_snoc, cntI, hx]; omega)
      obtain ⟨nm, xr, xs, xn, xu⟩ := x
      dsimp only at HX
      have HB := Lib.hid (And.intro hblk hfr)
      clear hblk hfr hx hbo hi hcn
      go_wp2_with fail
      refine (HO.out _).mono ?_
      rintro e w1 ⟨rfl, hf1⟩
      have hl0 : w.heap.size < wr.heap.size := HB.out.1.lt
      have hbI := (Blk.new wr 42 #[.int .i64 i.op, .int .i64 i.r, .int .i64 i.s, .int .i64 i.n]).fr hf1 (fun h => h)
      have hb1 := (HB.out.1.alloc (.cells #[.int .i64 i.op, .int .i64 i.r, .int .i64 i.s, .int .i64 i.n] 42)).fr hf1 (fun h => h)
      obtain ⟨c0, c1, c2, c3⟩ := blk4z hbI
      have hl1 := hbI.lt
      have H1 := Lib.hid (And.intro hbI (And.intro hb1 (fr_two (HB.out.2.alloc _) hf1)))
      clear hbI hb1 hf1 c0 c3
      go_wp2_with fail
      refine (put_any xr i.r w.heap.size _ _ _ _ _ (H1.out.2.1.alloc _) ⟨by have := HC.out 0; omega, by have := HC.out 1; omega, by have := HC.out 2; omega, by have := HC.out 3; omega⟩).mono ?_
      rintro e w2 ⟨rfl, hb2, hf2⟩
      have hbS := (Blk.new w1 82 #[.string ⟨nm.toArray⟩, .bool xr, .bool xs, .bool xn, .bool xu]).fr hf2 (by omega)
      have hbI := (H1.out.1.alloc (.cells #[.string ⟨nm.toArray⟩, .bool xr, .bool xs, .bool xn, .bool xu] 82)).fr hf2 (by omega)
      obtain ⟨c0, c1, c2, c3⟩ := blk4z hbI
      have s2 : w2.cell? ⟨w1.heap.size, 2, none⟩ = some (.bool xs) := hbS.cell 2
      have hl2 := hbS.lt
      have H2 := Lib.hid (And.intro hb2 ((H1.out.2.2.alloc _).trans hf2 (fun x hx => .inr (by rw [hx]; exact Nat.le_refl _))))
      clear hbI hbS hb2 hf2 c0 c1 c3
      go_wp2_with fail
      refine (put_any xs i.s w.heap.size _ _ _ _ _ H2.out.1 ⟨by have := HC.out 0; have := hit_le xr i.r 0; omega, by have := HC.out 1; have := hit_le xr i.r 1; omega, by have := HC.out 2; have := hit_le xr i.r 2; omega, by have := HC.out 3; have := hit_le xr i.r 3; omega⟩).mono ?_
      rintro e w3 ⟨rfl, hb3, hf3⟩
      have H3 := Lib.hid (And.intro hb3 (H2.out.2.trans hf3 (fun x hx => .inr (by rw [hx]; exact Nat.le_refl _))))
      clear hb3 hf3
      go_wp2
      go_roundw
      case rel => exact ⟨k + 1, by omega, by go_num, by rw [HX.out, HX.out, HX.out, HX.out]; exact H3.out.1, H3.out.2⟩
      case measure => simp [intOf]; omega
    · obtain rfl : n = k := by omega
      rw [show is.take n = is by rw [← HN.out]; exact List.take_length] at hblk
      have hcn : ∀ j, cnt is j ≤ 2000 := fun j => by
        have h1 := cnt_le is j
        have h2 := HN.out
        omega
      have HRG : Hid (regsOf is = [0, 1, 2, 3].filter (fun j => decide (0 < cnt is j))) := Lib.hid rfl
      obtain ⟨a0, ha0⟩ : ∃ x, cnt is 0 = x := ⟨_, rfl⟩
      obtain ⟨a1, ha1⟩ : ∃ x, cnt is 1 = x := ⟨_, rfl⟩
      obtain ⟨a2, ha2⟩ : ∃ x, cnt is 2 = x := ⟨_, rfl⟩
      obtain ⟨a3, ha3⟩ : ∃ x, cnt is 3 = x := ⟨_, rfl⟩
      have g0 := hcn 0
      have g1 := hcn 1
      have g2 := hcn 2
      have g3 := hcn 3
      rw [ha0, ha1, ha2, ha3] at hblk
      rw [ha0] at g0
      rw [ha1] at g1
      rw [ha2] at g2
      rw [ha3] at g3
      have HK := Lib.hid (And.intro hblk hfr)
      have HA := Lib.hid (And.intro ha0 (And.intro ha1 (And.intro ha2 ha3)))
      clear hblk hfr hcn ha0 ha1 ha2 ha3
      go_upto_region 11 with fail
      go_wp2_with (refine wpList_load_row rfl 101 _ rfl w.heap.size rfl 101 (four a0 a1 a2 a3) (0, 0) _ HK.out.1 Tryd.underlying101 rfl (by kernel_rfl) ?_)
      obtain ⟨wo, hwo⟩ : ∃ wo : World, wo = wr := ⟨_, rfl⟩
      subst hwo
      obtain ⟨F, hF⟩ : ∃ F : Int → Bool, F = fun j => decide (0 < cnt is j) := ⟨_, rfl⟩
      have HF := Lib.hid (show F 0 = decide (0 < a0) ∧ F 1 = decide (0 < a1) ∧ F 2 = decide (0 < a2) ∧ F 3 = decide (0 < a3) from by rw [hF]; dsimp only; rw [HA.out.1, HA.out.2.1, HA.out.2.2.1, HA.out.2.2.2]; exact ⟨rfl, rfl, rfl, rfl⟩)
      rw [← hF] at HRG
      clear hF
      go_loopw [9, 39] (fun v t wr => ∃ k : Nat, k ≤ 4 ∧ t = .int .i64 k ∧ wr.ownsRow w.heap.size 3 1 v (regsUp F k).length (ints (regsUp F k)) ∧ Fr (fun _ => False) w wr) (fun _ t _ => 4 - (intOf t).toNat)
      case atStart => exact ⟨0, Nat.zero_le _, rfl, World.ownsRow_nil _ _ _ _, HK.out.2⟩
      case round =>
        obtain ⟨k, hk, rfl, hown, hfr⟩ := hrel
        by_cases hlt : k < 4
        · have hlt' : (k : Int) < 4 := by omega
          obtain ⟨x, hix, hxF⟩ := idx4 a0 a1 a2 a3 hlt F HF.out.1 HF.out.2.1 HF.out.2.2.1 HF.out.2.2.2
          have hlen := regsUp_len F k
          by_cases hx : 0 < x
          · have hx' : (0 : Int) < x := by omega
            have hFk : F k = true := by rw [hxF]; exact decide_eq_true hx
            obtain ⟨v2, wB, happ2, hown2, hfr2⟩ := app_one (P := Tryd.prog) (T := 55) Tryd.underlying55 infoInt rfl (by omega) (hown.alloc (.cells #[.int .i64 k] 3)) (Blk.new wr 3 #[.int .i64 k]) rfl (by simp [Value.oneCell']) (by unfold maxLen; omega) (by omega) (by have := hfr.size; simp; omega)
            have hfB := hfr2 w (hfr.alloc _) (Nat.le_refl _)
            have e1 := regsUp_yes F hlt hFk
            have HE := Lib.hid (And.intro (show wB.ownsRow w.heap.size 3 1 v2 (regsUp F (k + 1)).length (ints (regsUp F (k + 1))) from by rw [e1, List.length_append, ints_app]; exact hown2) hfB)
            clear hown hfr hown2 hfr2 hfB hxF hFk e1 hlen
            go_wp2
            go_roundw
            case rel => exact ⟨k + 1, by omega, by go_num, HE.out.1, HE.out.2⟩
            case measure => simp [intOf]; omega
          · have hFk : F k = false := by rw [hxF]; exact decide_eq_false hx
            have hx' : ¬ (0 : Int) < x := by omega
            have e1 := regsUp_no F hlt hFk
            have HE := Lib.hid (And.intro (show wr.ownsRow w.heap.size 3 1 u9 (regsUp F (k + 1)).length (ints (regsUp F (k + 1))) from by rw [e1]; exact hown) hfr)
            clear hown hfr hxF hFk e1 hlen
            go_wp2
            go_roundw
            case rel => exact ⟨k + 1, by omega, by go_num, HE.out.1, HE.out.2⟩
            case measure => simp [intOf]; omega
        · obtain rfl : k = 4 := by omega
          have HE := Lib.hid (And.intro hown hfr)
          clear hown hfr
          go_wp2
          go_ret
          obtain ⟨A', cap', rfl, hsl⟩ := Sl.of_own HE.out.1
          refine ⟨A', _, cap', rfl, ?_, HE.out.2⟩
          rw [HRG.out]
          exact hsl
end Go.Proofs.YtadnbkjjdkgfiaaDoor
