/-
  Contracts of package plan: Check.
-/
import Derived.Test.YtibailpbjdfjfaaDoorPlnD
namespace Go.Proofs.YtibailpbjdfjfaaDoor
open Go.RowKit Go.Viv
theorem asks_row (l : List Coln) (A : Option Addr) (cap : Nat) (w : World) (hr : RowC w A (l.flatMap cellsK)) (hn : l.length ≤ cap) (hc : cap ≤ 9223372036854775807) :
    Calls Tryd.prog 25 #[.slice A l.length cap, .func (.func 26) #[] #[]] w fun e w' => e = .returned (.bool (l.any askB)) ∧ Fr (fun _ => False) w w' :=
  cont_col _ _ _ l A cap w hr hn hc enter26 (fun W x _ => asks_any x W)
set_option maxRecDepth 100000 in
set_option maxHeartbeats 1000000 in
theorem planCheck_any (n : Nat) (D : Option Addr) (dc : Nat) (l : List Coln) (A : Option Addr) (cap : Nat) (w : World) (hr : RowC w A (l.flatMap cellsK)) (hn : l.length ≤ cap) (hc : cap ≤ 9223372036854775807) (hm : n ≤ 9223372036854775807) :
    Calls Tryd.prog 16 #[.slice D n dc, .slice A l.length cap] w fun e w' => e = .returned (.int .i64 (planE n l)) ∧ Fr (fun _ => False) w w' := by
  have HR := Lib.hid hr
  have HN := Lib.hid (And.intro hn (And.intro hc hm))
  obtain ⟨m, hml⟩ : ∃ m, l.length = m := ⟨_, rfl⟩
  have HM := Lib.hid hml
  rw [hml] at hn ⊢
  clear hr hml
  by_cases h16 : 16 < m
  · have h16' : (16 : Int) < m := by omega
    have HE := Lib.hid (planE_many (n := n) (l := l) (by rw [HM.out]; exact h16))
    go_enter Tryd.func16, Tryd.ntmps16
    go_wp2
    go_ret
    exact ⟨by rw [HE.out]; rfl, Fr.refl _ _⟩
  · have h16' : (m : Int) ≤ 16 := by omega
    have hle : m ≤ 16 := by omega
    clear h16
    go_enter Tryd.func16, Tryd.ntmps16
    go_wp2_with fail
    go_loopw [5, 6, 7, 13] (fun _ _ _ t wr => ∃ k : Nat, k ≤ m ∧ t = .int .i64 k ∧ colsE n [] (l.take k) = 0 ∧ Fr (fun _ => False) w wr) (fun _ _ _ t _ => m - (intOf t).toNat)
    case atStart => exact ⟨0, by omega, rfl, rfl, Fr.refl _ _⟩
    case round =>
      obtain ⟨k, hk, rfl, hall, hfr⟩ := hrel
      by_cases hlt : k < m
      · have hkl : k < l.length := by rw [HM.out]; exact hlt
        have hx : l[k]? = some l[k] := List.getElem?_eq_getElem hkl
        obtain ⟨b, o, rfl, hbw, d0, d1⟩ := rowK_at (HR.out.fr hfr) hx
        have hsn := colsE_take hkl hall
        have hst := colsE_at hkl hall
        obtain ⟨y, hy⟩ : ∃ y, l[k] = y := ⟨_, rfl⟩
        rw [hy] at hx hsn hst d0 d1
        obtain ⟨er, her⟩ : ∃ e, colE n y (l.take k) = e := ⟨_, rfl⟩
        rw [her] at hsn hst
        have HC := Lib.hid (fun W (hW : Fr (fun _ => False) w W) => show Calls Tryd.prog 24 #[.slice D n dc, y.agg, .slice (some ⟨b, o, none⟩) k cap] W fun e w' => e = .returned (.int .i64 er) ∧ Fr (fun _ => False) W w' from by
          have := colcheck_any n D dc y (l.take k) (some ⟨b, o, none⟩) cap W (rowK_take (HR.out.fr hW) k) (by rw [List.length_take]; have := HN.out.1; omega) HN.out.2.1 HN.out.2.2
          rw [her, List.length_take, show min k l.length = k from by omega] at this
          exact this)
        have HX := Lib.hid (And.intro hsn (And.intro hst hfr))
        have hkc : (k : Int) ≤ cap := by omega
        have hkc2 : k ≤ cap := by omega
        clear hx hsn hst hall hfr her hkl hy
        obtain ⟨wB, hwB⟩ : ∃ wB, wB = wr := ⟨wr, rfl⟩
        subst hwB
        go_wp2_with fail
        obtain ⟨W1, hW1⟩ : ∃ W1, W1 = wB.alloc (.cells #[.int .i64 y.k, .int .i64 y.c] 43) := ⟨_, rfl⟩
        have hb1 : Blk W1 wB.heap.size 43 #[.int .i64 y.k, .int .i64 y.c] := by rw [hW1]; exact Blk.new _ _ _
        have hf1 : Fr (fun _ => False) w W1 := by rw [hW1]; exact HX.out.2.2.alloc _
        rw [← hW1]
        have c0 : W1.cell? ⟨wB.heap.size, 0, none⟩ = some (.int .i64 y.k) := hb1.cell 0
        have c1 : W1.cell? ⟨wB.heap.size, 1, none⟩ = some (.int .i64 y.c) := hb1.cell 1
        have lt := hb1.lt
        have k0 := cell_regrown c0
        have k1 := cell_regrown c1
        have H1 := Lib.hid hf1
        clear hW1 hb1 hf1 d0 d1
        refine wp_region_quiet_below (by kernel_rfl) (by kernel_rfl) ?_
        repeat (first | go_big_quiet_step ((go_at_call 24; exact calls_reg (HC.out _ (fr_regrown H1.out _ _)))) | quiet_step ((go_at_call 24; exact calls_reg (HC.out _ (fr_regrown H1.out _ _)))))
        refine wpQuiet_nil ?_
        intro wq hq
        obtain ⟨pq, rfl⟩ := hq
        by_cases h0 : er = 0
        · subst h0
          go_wp2
          go_roundw
          case rel => exact ⟨k + 1, by omega, by go_num, HX.out.1, fr_regrown H1.out _ _⟩
          case measure => simp [intOf]; omega
        · have h0' : (er != 0) = true := bne_iff_ne.2 h0
          have HE := Lib.hid (HX.out.2.1 h0)
          have HZ := Lib.hid h0
          clear h0
          go_wp2
          go_ret
          exact ⟨by rw [planE_fault (by rw [HM.out]; exact hle) (by rw [HE.out]; exact HZ.out), HE.out]; rfl, fr_regrown H1.out _ _⟩
      · obtain rfl : k = m := by omega
        have HP := Lib.hid (planE_asks (n := n) (l := l) (by rw [HM.out]; exact hle) (by rw [← hall, List.take_of_length_le (by rw [HM.out]; exact Nat.le_refl _)]))
        have HC := Lib.hid (show Calls Tryd.prog 25 #[.slice A k cap, .func (.func 26) #[] #[]] wr fun e w' => e = .returned (.bool (l.any askB)) ∧ Fr (fun _ => False) wr w' from by
          rw [← HM.out]; exact asks_row l A cap wr (HR.out.fr hfr) HN.out.1 HN.out.2.1)
        have HF := Lib.hid hfr
        obtain ⟨t, ht⟩ : ∃ t, l.any askB = t := ⟨_, rfl⟩
        rw [ht] at HP HC
        clear hall hfr ht
        obtain ⟨wB, hwB⟩ : ∃ wB, wB = wr := ⟨wr, rfl⟩
        subst hwB
        cases t
        all_goals
          go_wp2_with fail
          refine HC.out.mono ?_
          rintro e w2 ⟨rfl, hf2⟩
          have H2 := Lib.hid hf2
          clear hf2
          go_wp2
          go_ret
          exact ⟨by rw [HP.out]; rfl, fr_two HF.out H2.out⟩
end Go.Proofs.YtibailpbjdfjfaaDoor
