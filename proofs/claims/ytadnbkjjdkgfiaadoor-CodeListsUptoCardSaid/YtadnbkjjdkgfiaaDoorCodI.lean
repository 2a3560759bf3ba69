/-
  Contracts of package code: Text.
-/
import Derived.Test.YtadnbkjjdkgfiaaDoorCodH
import Derived.Test.YtadnbkjjdkgfiaaDoorValTells
namespace Go.Viv
open Go.Lib Go.Proofs.YtadnbkjjdkgfiaaDoor Go.RowKit
def textW (x : Shp) (i : Insn) : List (List UInt8) := [x.name] ++ (if x.r then [114 :: Lib.itoa i.r] else []) ++ (if x.s then [114 :: Lib.itoa i.s] else []) ++ (if x.n then [Lib.itoa i.n] else [])
def textI (i : Insn) : List UInt8 := match ofOp i.op with
  | none => []
  | some x => Lib.join (textW x i) [32]
theorem own_of_blk {w : World} {g base : Nat} {e : TypeId} {cs : Array Value} (h : Blk w g e cs) (hb : base ≤ g) (n : Nat) (hn : cs.size = n) (hm : n ≤ maxLen) : w.ownsRow base e 1 (.slice (some ⟨g, 0, none⟩) n n) n cs.toList :=
  ⟨by simp [hn], .inr ⟨g, n, cs, rfl, hb, h, Nat.le_refl _, hm, by simp [hn], by rw [List.take_of_length_le (by simp [hn])]⟩⟩
theorem lens_le (r : List (List UInt8)) (n : Nat) (h : ∀ x ∈ r, x.length ≤ n) : Lib.lens r ≤ r.length * n := by
  induction r with
  | nil => simp [Lib.lens]
  | cons x r ih =>
    have h1 := h x (by simp)
    have h2 := ih (fun y hy => h y (by simp [hy]))
    simp only [Lib.lens, List.map_cons, List.sum_cons, List.length_cons, Nat.succ_mul] at h2 ⊢
    omega
theorem join_len (ws : List (List UInt8)) (n : Nat) (h : ∀ x ∈ ws, x.length ≤ n) : (Lib.join ws [32]).length ≤ ws.length * (n + 1) + n := by
  cases ws with
  | nil => simp [Lib.join_nil]
  | cons x r =>
    have h1 := h x (by simp)
    have h2 := lens_le (x :: r) n h
    rw [Lib.join_length]
    simp only [List.length_cons, List.length_nil, Nat.succ_mul, Nat.mul_add, Nat.mul_one] at h2 ⊢
    omega
theorem words_more {wl : List (List UInt8)} {n : Nat} (h : wl.length ≤ n ∧ ∀ y ∈ wl, y.length ≤ 22) (b : Bool) (z : List UInt8) (hz : z.length ≤ 22) : (wl ++ (if b then [z] else [])).length ≤ n + 1 ∧ ∀ y ∈ wl ++ (if b then [z] else []), y.length ≤ 22 := by
  cases b
  · simp only [Bool.false_eq_true, if_false, List.append_nil]
    exact ⟨by omega, h.2⟩
  · simp only [if_true, List.length_append, List.length_singleton]
    refine ⟨by omega, fun y hy => ?_⟩
    rcases List.mem_append.1 hy with hy | hy
    · exact h.2 y hy
    · rw [List.mem_singleton.1 hy]; exact hz
end Go.Viv
namespace Go.Proofs.YtadnbkjjdkgfiaaDoor
open Go.RowKit Go.Viv
theorem info9 : (Tryd.prog.info? 9).map (fun i => (i.zero, i.size, i.bytes)) = some (some (.string ⟨#[]⟩), 1, 16) := by kernel_rfl
attribute [local go_sem ↓] wp_appendV

theorem cnum_any (n : Int) (w : World) (he : Env w) (hn : inI n) : Calls Tryd.prog 55 #[.int .i64 n] w fun e w' => e = .returned (str (Lib.itoa n)) ∧ Fr (fun _ => False) w w' := by
  have ht : textV ⟨1, n, 0⟩ = Lib.itoa n := by simp [textV, okV]
  have HT := Lib.hid (fun W (h : Env W) => show Calls Tryd.prog 13 #[Val.agg ⟨1, n, 0⟩] W fun e w' => e = .returned (str (Lib.itoa n)) ∧ Fr (fun _ => False) W w' from by
    rw [← ht]; exact text_any ⟨1, n, 0⟩ W h ⟨hn, by simp [inI]⟩)
  have HE := Lib.hid he
  clear he ht hn
  go_enter Tryd.func55, Tryd.ntmps55
  go_wp2_with fail
  refine (int_fr n _).mono ?_
  rintro e w1 ⟨rfl, hf1⟩
  have H1 := Lib.hid hf1
  clear hf1
  go_wp2_with fail
  refine (HT.out _ (HE.out.fr H1.out)).mono ?_
  rintro e w2 ⟨rfl, hf2⟩
  have H2 := Lib.hid hf2
  clear hf2
  go_wp2
  go_ret
  exact ⟨rfl, fr_two H1.out H2.out⟩

set_option maxRecDepth 100000 in
set_option maxHeartbeats 4000000 in
theorem ctext_some (i : Insn) (x : Shp) (w : World) (he : Env w) (hi : inI i.r ∧ inI i.s ∧ inI i.n) (hx : ofOp i.op = some x) (hxn : x.name.length ≤ 21) : Calls Tryd.prog 27 #[i.agg] w fun e w' => e = .returned (str (Lib.join (textW x i) [32])) ∧ Fr (fun _ => False) w w' := by
  obtain ⟨xnm, xr, xs, xn, xu⟩ := x
  have HX := Lib.hid (fun W => show Calls Tryd.prog 54 #[.int .i64 i.op] W fun e w' => e = .returned (.tuple #[Shp.agg ⟨xnm, xr, xs, xn, xu⟩, .bool true]) ∧ Fr (fun _ => False) W w' from by have := of_any i.op W; rw [hx] at this; exact this)
  have HE := Lib.hid he
  have HI := Lib.hid hi
  have HXN := Lib.hid hxn
  clear hx he hi hxn
  go_enter Tryd.func27, Tryd.ntmps27
  go_wp2_with fail
  refine (HX.out _).mono ?_
  rintro e w1 ⟨rfl, hf1⟩
  have hbl := (Blk.new w 42 #[.int .i64 i.op, .int .i64 i.r, .int .i64 i.s, .int .i64 i.n]).fr hf1 (fun h => h)
  obtain ⟨c0, c1, c2, c3⟩ := blk4z hbl
  have lt := Blk.lt hbl
  have HF := Lib.hid (And.intro (fr_two (Fr.alloc1 (fun _ => False) _ _) hf1) hbl)
  clear hf1 hbl
  obtain ⟨W0, hW0⟩ : ∃ W0, W0 = w1.alloc (.cells #[str xnm, .bool xr, .bool xs, .bool xn, .bool xu] 82) := ⟨_, rfl⟩
  have HW0 := Lib.hid (show Fr (fun _ => False) w W0 from by rw [hW0]; exact HF.out.1.alloc _)
  have HSZ := Lib.hid (show W0.heap.size = w1.heap.size + 1 from by rw [hW0]; simp)
  obtain ⟨wl0, hwl0⟩ : ∃ wl, [xnm] = wl := ⟨_, rfl⟩
  have H00 := Lib.hid (show ((w1.alloc (.cells #[str xnm, .bool xr, .bool xs, .bool xn, .bool xu] 82)).alloc (.cells #[str xnm] 9)).ownsRow (w1.heap.size + 1) 9 1 (.slice (some ⟨w1.heap.size + 1, 0, none⟩) 1 1) wl0.length (cellsW wl0) ∧ Fr (fun _ => False) W0 ((w1.alloc (.cells #[str xnm, .bool xr, .bool xs, .bool xn, .bool xu] 82)).alloc (.cells #[str xnm] 9)) from by
    rw [← hwl0]
    exact ⟨own_of_blk (cs := #[str xnm]) (blk_at (by simp)) (Nat.le_refl _) 1 rfl (by unfold maxLen; omega), by rw [hW0]; exact Fr.alloc1 _ _ _⟩)
  have HW1 := Lib.hid (show Fr (fun _ => False) w1 W0 from by rw [hW0]; exact Fr.alloc1 _ _ _)
  have HBX := Lib.hid (show Blk W0 w1.heap.size 82 #[str xnm, .bool xr, .bool xs, .bool xn, .bool xu] from by rw [hW0]; exact Blk.new _ _ _)
  have HL0 := Lib.hid (show wl0.length ≤ 1 ∧ ∀ y ∈ wl0, y.length ≤ 22 from by rw [← hwl0]; exact ⟨by simp, fun y hy => by rw [List.mem_singleton.1 hy]; have := HXN.out; exact Nat.le_trans this (by omega)⟩)
  have HQ0 := Lib.hid hwl0
  clear hW0 hwl0
  obtain ⟨wl1, hwl1⟩ : ∃ wl, wl0 ++ (if xr then [(114 :: Lib.itoa i.r)] else []) = wl := ⟨_, rfl⟩
  have HQ1 := Lib.hid hwl1
  have HL1 := Lib.hid (show wl1.length ≤ 2 ∧ ∀ y ∈ wl1, y.length ≤ 22 from by rw [← hwl1]; exact words_more HL0.out xr _ (by have := itoa_len HI.out.1; simp; try omega))
  clear hwl1
  go_upto_if 18 with fail
  go_cut [5] (fun s wx => wx.ownsRow (w1.heap.size + 1) 9 1 s wl1.length (cellsW wl1) ∧ Fr (fun _ => False) W0 wx)
  case first =>
    cases xr
    · go_wp2_with fail
      go_meet
      have hq := HQ1.out
      simp only [Bool.false_eq_true, if_false, List.append_nil] at hq
      subst hq
      exact H00.out
    · have hlen := itoa_len HI.out.1
      obtain ⟨SA, hSA⟩ : ∃ l, Lib.itoa i.r = l := ⟨_, rfl⟩
      have hq := HQ1.out
      rw [hSA] at hlen hq
      simp only [if_true] at hq
      have HQ := Lib.hid hq
      have HC := Lib.hid (fun W (h : Env W) => show Calls Tryd.prog 55 #[.int .i64 i.r] W fun e w' => e = .returned (str SA) ∧ Fr (fun _ => False) W w' from by rw [← hSA]; exact cnum_any i.r W h HI.out.1)
      have hcat := one_cat 114 SA
      have hcl : ¬ 9223372036854775807 < 1 + SA.length := by omega
      have hcl2 : ¬ 9223372036854775807 < SA.length + 1 := by omega
      clear hq hSA
      go_wp2_with fail
      refine (HC.out _ (HE.out.fr (fr_two HW0.out H00.out.2))).mono ?_
      rintro e w6 ⟨rfl, hf6⟩
      obtain ⟨v7, w7, happ, hown7, hfr7⟩ := app_one (P := Tryd.prog) (T := 37) Tryd.underlying37 info9 rfl (by omega) ((own_fr H00.out.1 hf6 (fun _ _ h => h)).alloc (.cells #[str (114 :: SA)] 9)) (Blk.new w6 9 #[str (114 :: SA)]) rfl (by simp [Value.oneCell']) (by have := HL0.out.1; unfold maxLen; omega) (by have := HL0.out.1; omega) (by have h2 := H00.out.2.size; have h3 := hf6.size; have h4 := HSZ.out; simp; omega)
      have H7 := Lib.hid (And.intro hown7 (hfr7 W0 ((fr_two H00.out.2 hf6).alloc _) (by rw [HSZ.out]; exact Nat.le_refl _)))
      clear hown7 hfr7 hf6
      go_wp2_with fail
      go_meet
      refine ⟨?_, H7.out.2⟩
      have z := H7.out.1
      rw [← HQ.out]
      simpa using z
  case rest =>
    rename_i s1 _
    have H01 := Lib.hid hcut
    clear hcut
    obtain ⟨wD1, hwD1⟩ : ∃ wD, wD = wc := ⟨wc, rfl⟩
    subst hwD1
    obtain ⟨c0, c1, c2, c3⟩ := blk4z (HF.out.2.fr (fr_two HW1.out H01.out.2) (fun h => h))
    obtain ⟨e0, e1, e2, e3, e4⟩ := blk5z (HBX.out.fr H01.out.2 (fun h => h))
    obtain ⟨wl2, hwl2⟩ : ∃ wl, wl1 ++ (if xs then [(114 :: Lib.itoa i.s)] else []) = wl := ⟨_, rfl⟩
    have HQ2 := Lib.hid hwl2
    have HL2 := Lib.hid (show wl2.length ≤ 3 ∧ ∀ y ∈ wl2, y.length ≤ 22 from by rw [← hwl2]; exact words_more HL1.out xs _ (by have := itoa_len HI.out.2.1; simp; try omega))
    clear hwl2
    go_upto_if 27 with fail
    go_cut [5] (fun s wx => wx.ownsRow (w1.heap.size + 1) 9 1 s wl2.length (cellsW wl2) ∧ Fr (fun _ => False) W0 wx)
    case first =>
      cases xs
      · go_wp2_with fail
        go_meet
        have hq := HQ2.out
        simp only [Bool.false_eq_true, if_false, List.append_nil] at hq
        subst hq
        exact H01.out
      · have hlen := itoa_len HI.out.2.1
        obtain ⟨SA, hSA⟩ : ∃ l, Lib.itoa i.s = l := ⟨_, rfl⟩
        have hq := HQ2.out
        rw [hSA] at hlen hq
        simp only [if_true] at hq
        have HQ := Lib.hid hq
        have HC := Lib.hid (fun W (h : Env W) => show Calls Tryd.prog 55 #[.int .i64 i.s] W fun e w' => e = .returned (str SA) ∧ Fr (fun _ => False) W w' from by rw [← hSA]; exact cnum_any i.s W h HI.out.2.1)
        have hcat := one_cat 114 SA
        have hcl : ¬ 9223372036854775807 < 1 + SA.length := by omega
        have hcl2 : ¬ 9223372036854775807 < SA.length + 1 := by omega
        clear hq hSA
        go_wp2_with fail
        refine (HC.out _ (HE.out.fr (fr_two HW0.out H01.out.2))).mono ?_
        rintro e w6 ⟨rfl, hf6⟩
        obtain ⟨v7, w7, happ, hown7, hfr7⟩ := app_one (P := Tryd.prog) (T := 37) Tryd.underlying37 info9 rfl (by omega) ((own_fr H01.out.1 hf6 (fun _ _ h => h)).alloc (.cells #[str (114 :: SA)] 9)) (Blk.new w6 9 #[str (114 :: SA)]) rfl (by simp [Value.oneCell']) (by have := HL1.out.1; unfold maxLen; omega) (by have := HL1.out.1; omega) (by have h2 := H01.out.2.size; have h3 := hf6.size; have h4 := HSZ.out; simp; omega)
        have H7 := Lib.hid (And.intro hown7 (hfr7 W0 ((fr_two H01.out.2 hf6).alloc _) (by rw [HSZ.out]; exact Nat.le_refl _)))
        clear hown7 hfr7 hf6
        go_wp2_with fail
        go_meet
        refine ⟨?_, H7.out.2⟩
        have z := H7.out.1
        rw [← HQ.out]
        simpa using z
    case rest =>
      rename_i s2 _
      have H02 := Lib.hid hcut
      clear hcut
      obtain ⟨wD2, hwD2⟩ : ∃ wD, wD = wc := ⟨wc, rfl⟩
      subst hwD2
      obtain ⟨c0, c1, c2, c3⟩ := blk4z (HF.out.2.fr (fr_two HW1.out H02.out.2) (fun h => h))
      obtain ⟨e0, e1, e2, e3, e4⟩ := blk5z (HBX.out.fr H02.out.2 (fun h => h))
      obtain ⟨wl3, hwl3⟩ : ∃ wl, wl2 ++ (if xn then [(Lib.itoa i.n)] else []) = wl := ⟨_, rfl⟩
      have HQ3 := Lib.hid hwl3
      have HL3 := Lib.hid (show wl3.length ≤ 4 ∧ ∀ y ∈ wl3, y.length ≤ 22 from by rw [← hwl3]; exact words_more HL2.out xn _ (by have := itoa_len HI.out.2.2; simp; try omega))
      clear hwl3
      go_upto_if 36 with fail
      go_cut [5] (fun s wx => wx.ownsRow (w1.heap.size + 1) 9 1 s wl3.length (cellsW wl3) ∧ Fr (fun _ => False) W0 wx)
      case first =>
        cases xn
        · go_wp2_with fail
          go_meet
          have hq := HQ3.out
          simp only [Bool.false_eq_true, if_false, List.append_nil] at hq
          subst hq
          exact H02.out
        · have hlen := itoa_len HI.out.2.2
          obtain ⟨SA, hSA⟩ : ∃ l, Lib.itoa i.n = l := ⟨_, rfl⟩
          have hq := HQ3.out
          rw [hSA] at hlen hq
          simp only [if_true] at hq
          have HQ := Lib.hid hq
          have HC := Lib.hid (fun W (h : Env W) => show Calls Tryd.prog 55 #[.int .i64 i.n] W fun e w' => e = .returned (str SA) ∧ Fr (fun _ => False) W w' from by rw [← hSA]; exact cnum_any i.n W h HI.out.2.2)
          clear hq hSA
          go_wp2_with fail
          refine (HC.out _ (HE.out.fr (fr_two HW0.out H02.out.2))).mono ?_
          rintro e w6 ⟨rfl, hf6⟩
          obtain ⟨v7, w7, happ, hown7, hfr7⟩ := app_one (P := Tryd.prog) (T := 37) Tryd.underlying37 info9 rfl (by omega) ((own_fr H02.out.1 hf6 (fun _ _ h => h)).alloc (.cells #[str SA] 9)) (Blk.new w6 9 #[str SA]) rfl (by simp [Value.oneCell']) (by have := HL2.out.1; unfold maxLen; omega) (by have := HL2.out.1; omega) (by have h2 := H02.out.2.size; have h3 := hf6.size; have h4 := HSZ.out; simp; omega)
          have H7 := Lib.hid (And.intro hown7 (hfr7 W0 ((fr_two H02.out.2 hf6).alloc _) (by rw [HSZ.out]; exact Nat.le_refl _)))
          clear hown7 hfr7 hf6
          go_wp2_with fail
          go_meet
          refine ⟨?_, H7.out.2⟩
          have z := H7.out.1
          rw [← HQ.out]
          simpa using z
      case rest =>
        rename_i s3 _
        have H03 := Lib.hid hcut
        clear hcut
        obtain ⟨wD3, hwD3⟩ : ∃ wD, wD = wc := ⟨wc, rfl⟩
        subst hwD3
        obtain ⟨c0, c1, c2, c3⟩ := blk4z (HF.out.2.fr (fr_two HW1.out H03.out.2) (fun h => h))
        obtain ⟨e0, e1, e2, e3, e4⟩ := blk5z (HBX.out.fr H03.out.2 (fun h => h))
        have HTW := Lib.hid (show textW ⟨xnm, xr, xs, xn, xu⟩ i = wl3 from by
          rw [← HQ3.out, ← HQ2.out, ← HQ1.out, ← HQ0.out]; rfl)
        obtain ⟨A, cap, hs, hcap, hmx, hrow⟩ := rowC_of_own H03.out.1
        rcases hrow with hnil | ⟨bk, o, hA, hbk, hcs⟩
        · exfalso
          have h1 := HTW.out
          have h2 : wl3 = [] := by simpa [cellsW] using hnil
          rw [h2] at h1
          simp [textW] at h1
        · subst hs hA
          have hj := Tryd.strings_Join bk o cap (wl3.map fun l => ⟨l.toArray⟩) ⟨#[32]⟩ wD3 (fun j x hx => by
            have := hcs j (.string x) (by
              rw [List.getElem?_map] at hx ⊢
              cases h : wl3[j]? with
              | none => rw [h] at hx; cases hx
              | some y => rw [h] at hx; obtain rfl := Option.some.inj hx; rfl)
            exact this) hbk (by rw [List.length_map]; have := HL3.out.1; omega) (by rw [List.length_map]; exact hcap) (by
            rw [List.map_map]
            have h1 := join_len wl3 22 HL3.out.2
            have h2 := HL3.out.1
            have e : (wl3.map ((·.data.toList) ∘ fun l => (⟨l.toArray⟩ : ByteArray))) = wl3 := by
              conv => rhs; rw [← List.map_id wl3]
              exact List.map_congr_left (fun _ _ => by simp)
            rw [e]
            show (Lib.join wl3 [32]).length ≤ _
            omega)
          rw [List.length_map, List.map_map, show (wl3.map ((·.data.toList) ∘ fun l => (⟨l.toArray⟩ : ByteArray))) = wl3 from by
            conv => rhs; rw [← List.map_id wl3]
            exact List.map_congr_left (fun _ _ => by simp)] at hj
          have HJ := Lib.hid hj
          clear hj hcs
          go_wp2_with fail
          refine HJ.out.mono ?_
          rintro e w9 ⟨rfl, hb9⟩
          have H9 := Lib.hid (fr_below hb9)
          clear hb9
          go_wp2
          go_ret
          exact ⟨by rw [HTW.out]; rfl, fr_two (fr_two HW0.out H03.out.2) H9.out⟩
end Go.Proofs.YtadnbkjjdkgfiaaDoor
namespace Go.Viv
theorem names_short : (shapeTab.all fun x => decide (x.name.length ≤ 21)) = true := by decide
end Go.Viv
namespace Go.Proofs.YtadnbkjjdkgfiaaDoor
open Go.RowKit Go.Viv
theorem ctext_any (i : Insn) (w : World) (he : Env w) (hi : inI i.r ∧ inI i.s ∧ inI i.n) : Calls Tryd.prog 27 #[i.agg] w fun e w' => e = .returned (str (textI i)) ∧ Fr (fun _ => False) w w' := by
  unfold textI
  cases hx : ofOp i.op with
  | none =>
    have HX := Lib.hid (fun W => of_any i.op W)
    have HO := Lib.hid hx
    clear hx he hi
    go_enter Tryd.func27, Tryd.ntmps27
    go_wp2_with (go_at_call 54; refine (HX.out _).mono ?_; rintro e w1 ⟨rfl, hf1⟩; rw [HO.out]; have HF := Lib.hid hf1; clear hf1)
    go_ret
    exact ⟨rfl, (fr_two (Fr.alloc1 _ _ _) HF.out).alloc _⟩
  | some x =>
    obtain ⟨k, _, _, _, hk⟩ := of_some hx
    have := List.all_eq_true.1 names_short x (List.mem_of_getElem? hk)
    exact ctext_some i x w he hi hx (by simpa using this)
end Go.Proofs.YtadnbkjjdkgfiaaDoor
