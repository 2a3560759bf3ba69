/-
  PlanTwice's walk.
-/
import Derived.Test.YtibailpbjdfjfaaDoorPlnJ
import Derived.Test.YtibailpbjdfjfaaDoorPlnLz
namespace Go.Viv
open Go.Lib Go.RowKit
theorem cellsK_one (l : List Coln) : ∀ u ∈ l.flatMap cellsK, u.oneCell' = true := by
  intro u hu
  obtain ⟨x, _, hx⟩ := List.mem_flatMap.1 hu
  simp [cellsK] at hx
  rcases hx with rfl | rfl <;> rfl
theorem own_none (w : World) (t : TypeId) (m : Nat) : (w.alloc (.cells #[] t)).ownsRow w.heap.size t m (.slice (some ⟨w.heap.size, 0, none⟩) 0 0) 0 [] :=
  ⟨by simp, .inr ⟨w.heap.size, 0, #[], rfl, Nat.le_refl _, Blk.new w t #[], Nat.le_refl _, Nat.zero_le _, by simp, by simp⟩⟩
theorem rowC_mid {w : World} {base : Nat} {e : TypeId} {size n : Nat} {xs : List Value} {A : Option Addr} {cap : Nat} (h : w.ownsRow base e size (.slice A n cap) n xs) : ∀ a, A = some a → ∃ b o, a = ⟨b, o, none⟩ := by
  intro a ha
  rcases h.2 with ⟨hv, _⟩ | ⟨g, cap', cur, hv, _⟩
  · injection hv with hv; rw [ha] at hv; cases hv
  · injection hv with hv; rw [ha] at hv; injection hv with hv; exact ⟨g, 0, hv⟩
/-- A row appended to a row of one's own; what lies elsewhere stays. -/
theorem app_anyG {P : Program} {T E : TypeId} {z : Value} {size bytes : Nat} (hT : P.underlying T = some (.slice E)) (hE : (P.info? E).map (fun i => (i.zero, i.size, i.bytes)) = some (some z, size, bytes)) (hz : z.cells.size = size) (hs : 0 < size)
    {W : World} {base n : Nat} {v : Value} {xs : List Value} (hown : W.ownsRow base E size v n xs) {b o : Nat} {m c : Nat} {news : List Value} (hsrc : RowC W (some ⟨b, o, none⟩) news) (hl : news.length = m * size) (h1 : ∀ u ∈ news, u.oneCell' = true)
    (hn : n + m ≤ maxLen) (hb : (n + m) * bytes ≤ 140737488355328) (hbase : base ≤ W.heap.size) :
    ∃ v' w', appendV P T T v (.slice (some ⟨b, o, none⟩) m c) W = .ok v' w' ∧ w'.ownsRow base E size v' (n + m) (xs ++ news) ∧ W.grownBy w' v.ownBlock := by
  obtain ⟨i0, hi, hz0, hz1, hz2⟩ := info_parts hE
  obtain ⟨v', w', h, ho, hgr, _⟩ := run_append_own_at (P := P) W base T T E i0 z size bytes hT hi hz0 hz1 hz2 hz hs v n xs hown ⟨b, o, none⟩ m c news hl (fun j u hj => by
    rw [show (⟨b, o, none⟩ : Addr).add j = ⟨b, o + j, none⟩ from by unfold Addr.add; split <;> simp_all]
    rcases hsrc with hn0 | ⟨b', o', hA, _, hc⟩
    · rw [hn0] at hj; simp at hj
    · injection hA with hA
      injection hA with hA1 hA2
      subst hA1 hA2
      exact hc j u hj) h1 hn hb hbase
  exact ⟨v', w', h, ho, hgr⟩
theorem fr_grown {V W w' : World} {base : Nat} {E : TypeId} {size n : Nat} {v : Value} {xs : List Value} (hV : Fr (fun _ => False) V W) (hown : W.ownsRow base E size v n xs) (hg : W.grownBy w' v.ownBlock) (hle : V.heap.size ≤ base) : Fr (fun _ => False) V w' :=
  hV.grown hg (fun k hk => .inr (by have := (hown.lt k hk).1; omega))
theorem flatK_len (l : List Coln) : (l.flatMap cellsK).length = l.length * 2 := chunk_len cellsK 2 (fun _ => rfl) l
/-- The columns at A, one behind the other; what is handed on of them. -/
structure SlK (w : World) (A : Option Addr) (n cap : Nat) (l : List Coln) : Prop where
  len : l.length = n
  le : n ≤ cap
  cap : cap ≤ 9223372036854775807
  row : RowC w A (l.flatMap cellsK)
theorem SlK.fr {w w' : World} {A : Option Addr} {n cap : Nat} {l : List Coln} (h : SlK w A n cap l) (hf : Fr (fun _ => False) w w') : SlK w' A n cap l := ⟨h.len, h.le, h.cap, h.row.fr hf⟩
theorem SlK.mid {w : World} {A : Option Addr} {n cap : Nat} {l : List Coln} (h : SlK w A n cap l) (h0 : 0 < n) : ∀ a, A = some a → ∃ b o, a = ⟨b, o, none⟩ := by
  intro a ha
  rcases h.row with h1 | ⟨b, o, h1, _⟩
  · have := flatK_len l
    rw [h1, h.len] at this
    simp at this
    omega
  · rw [ha] at h1
    injection h1 with h1
    exact ⟨b, o, h1⟩
end Go.Viv
namespace Go.Proofs.YtibailpbjdfjfaaDoor
open Go.RowKit Go.Viv
attribute [local go_sem ↓] wp_appendV
/-- The columns p appended to a row of one's own that has none. -/
theorem app_cols {W : World} {base : Nat} {v : Value} {q : List Coln} {m : Nat} (hown : W.ownsRow base 43 2 v m (q.flatMap cellsK)) {A : Option Addr} {n cap : Nat} {p : List Coln} (h : SlK W A n cap p) (h0 : 0 < n) (hn : m + n ≤ 1000) (hb : base ≤ W.heap.size) :
    ∃ v1 wA, appendV Tryd.prog 29 29 v (.slice A n cap) W = .ok v1 wA ∧ wA.ownsRow base 43 2 v1 (m + n) ((q ++ p).flatMap cellsK) ∧ W.grownBy wA v.ownBlock := by
  rcases h.row with h1 | ⟨b, o, rfl, _, _⟩
  · have := flatK_len p
    rw [h1, h.len] at this
    simp at this
    omega
  · obtain ⟨v1, wA, h1, h2, h3⟩ := app_anyG (P := Tryd.prog) (T := 29) Tryd.underlying29 infoCol rfl (by omega) hown (m := n) (c := cap) h.row (by rw [flatK_len, h.len]) (cellsK_one _) (by unfold maxLen; omega) (by omega) hb
    exact ⟨v1, wA, h1, by rw [List.flatMap_append]; exact h2, h3⟩
theorem app_slk {W : World} {base : Nat} {v : Value} {q : List Coln} {m : Nat} (hown : W.ownsRow base 43 2 v m (q.flatMap cellsK)) (hq : q.length = m) {g : Nat} (x : Coln) (hg : Blk W g 43 #[.int .i64 x.k, .int .i64 x.c]) (hn : m + 1 ≤ 1000) (hb : base ≤ W.heap.size) :
    ∃ A' c' wA, appendV Tryd.prog 29 29 v (.slice (some ⟨g, 0, none⟩) 1 1) W = .ok (.slice A' (m + 1) c') wA ∧ SlK wA A' (m + 1) c' (q ++ [x]) ∧ W.grownBy wA v.ownBlock := by
  have h1 : SlK W (some ⟨g, 0, none⟩) 1 1 [x] := ⟨rfl, Nat.le_refl _, by decide, RowC.blk hg⟩
  obtain ⟨v1, wA, happ, ho, hgr⟩ := app_cols hown h1 (by decide) hn hb
  obtain ⟨A', c', rfl, g1, g2, g3⟩ := rowC_of_own ho
  exact ⟨A', c', wA, happ, ⟨by rw [List.length_append, hq]; rfl, g1, by unfold maxLen at g2; exact g2, g3⟩, hgr⟩
theorem app_new {W : World} {base : Nat} {v : Value} (hown : W.ownsRow base 43 2 v 0 []) {A : Option Addr} {n cap : Nat} {p : List Coln} (h : SlK W A n cap p) (h0 : 0 < n) (hn : n ≤ 1000) (hb : base ≤ W.heap.size) :
    ∃ v1 wA, appendV Tryd.prog 29 29 v (.slice A n cap) W = .ok v1 wA ∧ wA.ownsRow base 43 2 v1 n (p.flatMap cellsK) ∧ W.grownBy wA v.ownBlock := by
  obtain ⟨v1, wA, h1, h2, h3⟩ := app_cols (q := []) hown h h0 (by omega) hb
  exact ⟨v1, wA, h1, by simpa using h2, h3⟩
/-- What PlanTwice has made ahead of its end. -/
structure TwSt (w wx : World) (n : Nat) (p : List Coln) (x : Coln) (A7 : Option Addr) (c7 g9 : Nat) (A10 : Option Addr) (c10 B : Nat) : Prop where
  tame : Tame17 20 p
  n0 : 0 < n
  n7 : n ≤ 7
  p7 : SlK wx A7 n c7 p
  b9 : Blk wx g9 43 #[.int .i64 x.k, .int .i64 x.c]
  lt9 : g9 < B
  far : ∀ W', Fr (fun y => B ≤ y) wx W' → SlK W' A7 n c7 p
  own : wx.ownsRow B 43 2 (.slice A10 (n + 1) c10) (n + 1) ((p ++ [(⟨5, 0⟩ : Coln)]).flatMap cellsK)
  base : B ≤ wx.heap.size
  lo : w.heap.size ≤ B
  twice : planE 20 (p ++ [x]) = 15
  fr : Fr (fun _ => False) w wx
theorem take_any {p : List Coln} {k : Nat} {x : Coln} (h : p[k]? = some x) (q : Coln → Bool) : (p.take (k + 1)).any q = ((p.take k).any q || q x) := by
  have hk : k < p.length := by
    rcases Nat.lt_or_ge k p.length with h' | h'
    · exact h'
    · rw [List.getElem?_eq_none h'] at h; cases h
  rw [List.getElem?_eq_getElem hk] at h
  rw [List.take_succ_eq_append_getElem hk, List.any_append, Option.some.inj h]
  simp
/-- The two appends that make the plan that asks for things too. -/
theorem ent_key {w w3 : World} {n : Nat} {p : List Coln} {A7 : Option Addr} {c7 : Nat} (x : Coln) (h7 : SlK w3 A7 n c7 p) (h0 : 0 < n) (h77 : n ≤ 7) (hlo : Fr (fun _ => False) w w3) (htame : Tame17 20 p) (htw : planE 20 (p ++ [x]) = 15) :
    ∃ v1 wB A10 c10 wD, appendV Tryd.prog 29 29 (.slice (some ⟨w3.heap.size + 1, 0, none⟩) 0 0) (.slice A7 n c7) ((w3.alloc (.cells #[.int .i64 x.k, .int .i64 x.c] 43)).alloc (.cells #[] 43)) = .ok v1 wB ∧ appendV Tryd.prog 29 29 v1 (.slice (some ⟨wB.heap.size, 0, none⟩) 1 1) (wB.alloc (.cells #[.int .i64 5, .int .i64 0] 43)) = .ok (.slice A10 (n + 1) c10) wD ∧ TwSt w wD n p x A7 c7 w3.heap.size A10 c10 (w3.heap.size + 1) := by
  obtain ⟨WA, hWA⟩ : ∃ WA, WA = w3.alloc (.cells #[.int .i64 x.k, .int .i64 x.c] 43) := ⟨_, rfl⟩
  have hsz : WA.heap.size = w3.heap.size + 1 := by rw [hWA]; simp
  have hfA : Fr (fun _ => False) w3 WA := by rw [hWA]; exact Fr.alloc1 _ _ _
  have hbx : Blk WA w3.heap.size 43 #[.int .i64 x.k, .int .i64 x.c] := by rw [hWA]; exact Blk.new _ _ _
  rw [← hWA, ← hsz]
  have hown0 := own_none WA 43 2
  have hfE : Fr (fun _ => False) WA (WA.alloc (.cells #[] 43)) := Fr.alloc1 _ _ _
  obtain ⟨v1, wB, happ1, hown1, hg1⟩ := app_cols (q := []) hown0 ((h7.fr hfA).fr hfE) h0 (by omega) hfE.size
  have hfB : Fr (fun _ => False) WA wB := fr_grown hfE hown0 hg1 (Nat.le_refl _)
  have hown1' : wB.ownsRow WA.heap.size 43 2 v1 n (p.flatMap cellsK) := by simpa using hown1
  have hf5 : Fr (fun _ => False) WA (wB.alloc (.cells #[.int .i64 5, .int .i64 0] 43)) := hfB.alloc _
  obtain ⟨v2, wD, happ2, hown2, hfr2⟩ := app_one (P := Tryd.prog) (T := 29) Tryd.underlying29 infoCol rfl (by omega) (hown1'.alloc (.cells #[.int .i64 5, .int .i64 0] 43)) (Blk.new wB 43 #[.int .i64 5, .int .i64 0]) rfl (by simp [Value.oneCell']) (by unfold maxLen; omega) (by omega) hf5.size
  have hfD : Fr (fun _ => False) WA wD := hfr2 WA hf5 (Nat.le_refl _)
  have hown3 : wD.ownsRow WA.heap.size 43 2 v2 (n + 1) ((p ++ [(⟨5, 0⟩ : Coln)]).flatMap cellsK) := by rw [flatK_snoc]; exact hown2
  obtain ⟨A10, c10, rfl, _, _, _⟩ := rowC_of_own hown3
  refine ⟨v1, wB, A10, c10, wD, happ1, happ2, htame, h0, h77, (h7.fr hfA).fr hfD, hbx.fr hfD (fun h => h), hbx.lt, ?_, hown3, hfD.size, by have := hlo.size; omega, htw, fr_two (fr_two hlo hfA) hfD⟩
  intro W' hW'
  have hr := (h7.fr hfA).row
  refine ⟨h7.len, h7.le, h7.cap, ?_⟩
  rcases hr with hr | ⟨b, o, h1, h2, h3⟩
  · exact .inl hr
  · refine .inr ⟨b, o, h1, ?_, fun i u hi => ?_⟩
    · have := hfD.size; have := hW'.size; omega
    · rw [hW'.cell (p := ⟨b, o + i, none⟩) (by show b < wD.heap.size; have := hfD.size; omega) (by show ¬ WA.heap.size ≤ b; omega), hfD.cell (p := ⟨b, o + i, none⟩) h2 (fun h => h)]
      exact h3 i u hi
set_option maxRecDepth 100000 in
set_option maxHeartbeats 4000000 in
theorem twiceL_any (l : List Int) (A : Option Addr) (cap : Nat) (at_ kind : Int) (w : World) (he : EnvP w) (hr : RowC w A (ints l)) (hn : l.length ≤ cap) (hc : cap ≤ 9223372036854775807) :
    Calls Tryd.prog 5 #[.slice A l.length cap, .int .i64 at_, .int .i64 kind] w fun e w' => e = .returned (.bool true) ∧ Fr (fun _ => False) w w' := by
  obtain ⟨X, hX, hXlt⟩ := mask_nat at_ 255 8 (by decide) (by decide)
  obtain ⟨Y, hY, hYlt⟩ := mask_nat kind 3 2 (by decide) (by decide)
  have HE := Lib.hid he
  have HT := Lib.hid (show Calls Tryd.prog 12 #[.slice A l.length cap, .int .i64 20] w (TameA 20 w) from tame17_any l A cap 20 w hr hn hc (by decide))
  have hY4 : Y < 4 := hYlt
  clear he hr hXlt hYlt
  go_enter Tryd.func5, Tryd.ntmps5
  go_wp2_with fail
  refine HT.out.mono ?_
  rintro e w1 ⟨A7, c7, p, rfl, htame0, h1, h2, h3, hf1⟩
  have htame : Tame17 (20 : Int) p := htame0
  clear htame0
  obtain ⟨n, hnp⟩ : ∃ n, p.length = n := ⟨_, rfl⟩
  have h77 := htame.len
  have h00 := htame.pos
  have hs7 : SlK w1 A7 n c7 p := ⟨hnp, by rw [← hnp]; exact h1, by unfold maxLen at h2; exact h2, h3⟩
  obtain ⟨w2, hmk, hf2⟩ := make_desc 20 (by decide) w1
  have hmk2 : (Instr.makeSlice 40 (.int .i64 20) (.int .i64 20)).run Tryd.prog w1 = .ok (.slice (some ⟨w1.heap.size, 0, none⟩) 20 20) w2 := hmk
  have HCK := Lib.hid (show Calls Tryd.prog 16 #[.slice (some ⟨w1.heap.size, 0, none⟩) 20 20, .slice A7 n c7] w2 fun e w' => e = .returned (.int .i64 0) ∧ Fr (fun _ => False) w2 w' from by
    have := planCheck_any 20 (some ⟨w1.heap.size, 0, none⟩) 20 p A7 c7 w2 (h3.fr hf2) h1 (by unfold maxLen at h2; exact h2) (by decide)
    rw [hnp, show ((20 : Nat) : Int) = 20 from rfl, htame.may (Int.le_refl _)] at this
    exact this)
  have H1 := Lib.hid (And.intro htame (And.intro hs7 (fr_two hf1 hf2)))
  have H2 := Lib.hid hf2
  rw [hnp] at h77 h00 ⊢
  have hnc : n ≤ c7 := by rw [← hnp]; exact h1
  clear htame h1 h2 h3 hf1 hf2 hmk hs7 hnp
  go_wp2_with fail
  refine HCK.out.mono ?_
  rintro e w3 ⟨rfl, hf3⟩
  have hs7 := (H1.out.2.1.fr H2.out).fr hf3
  obtain ⟨q, hq, hqn⟩ : ∃ q : Nat, (X : Int) % (n : Int) = q ∧ q < n := ⟨X % n, by simp, Nat.mod_lt _ h00⟩
  obtain ⟨x, hx⟩ : ∃ x, p[q]? = some x := ⟨_, List.getElem?_eq_getElem (by rw [hs7.len]; exact hqn)⟩
  obtain ⟨b, o, rfl, hbw, d0, d1⟩ := rowK_at hs7.row hx
  have hfw : Fr (fun _ => False) w w3 := fr_two H1.out.2.2 hf3
  have htw : planE 20 (p ++ [if x.k = 5 then x else ⟨(Y : Int) + 1, x.c⟩]) = 15 := H1.out.1.twice (n := 20) (Int.le_refl _) (List.mem_of_getElem? hx) ⟨by omega, by omega⟩
  have H3 := Lib.hid (And.intro hs7 hfw)
  clear hs7 hfw hx hf3 hmk2
  obtain ⟨y, hy⟩ : ∃ y : Coln, (if x.k = 5 then x else ⟨(Y : Int) + 1, x.c⟩) = y := ⟨_, rfl⟩
  rw [hy] at htw
  obtain ⟨v1, wB, A10, c10, wD, happ1, happ2, hst⟩ := ent_key y H3.out.1 h00 h77 H3.out.2 H1.out.1 htw
  have HST := Lib.hid hst
  have HY := Lib.hid hy
  clear hst htw hy
  go_upto_if 31 with fail
  go_cut [] (fun wx => wx = w3.alloc (.cells #[.int .i64 y.k, .int .i64 y.c] 43))
  case first =>
    by_cases h5 : x.k = 5
    · have h5' : (x.k != 5) = false := by rw [h5]; rfl
      have HY2 := Lib.hid (show x = y from by rw [← HY.out, if_pos h5])
      clear h5
      go_wp2_with fail
      go_meet
      rw [HY2.out]
    · have h5' : (x.k != 5) = true := bne_iff_ne.2 h5
      have HY2 := Lib.hid (show (⟨(Y : Int) + 1, x.c⟩ : Coln) = y from by rw [← HY.out, if_neg h5])
      clear h5
      go_wp2_with fail
      go_meet
      rw [← HY2.out]
  case rest =>
    subst hcut
    go_wp2_with fail
    go_loop [11, 12] (fun h t => ∃ k : Nat, k ≤ n ∧ t = .int .i64 k ∧ h = .bool ((p.take k).any (fun x => x.k == 5))) (fun _ t => n - (intOf t).toNat)
    case atStart => exact ⟨0, by omega, rfl, rfl⟩
    case round =>
      obtain ⟨k, hk, rfl, rfl⟩ := hrel
      by_cases hlt : k < n
      · obtain ⟨z, hz⟩ : ∃ z, p[k]? = some z := ⟨_, List.getElem?_eq_getElem (by rw [H3.out.1.len]; exact hlt)⟩
        obtain ⟨b', o', hbo, hbw', e0, e1⟩ := rowK_at HST.out.p7.row hz
        have hany := take_any hz (fun x => x.k == 5)
        injection hbo with hbo
        injection hbo with hb1 hb2
        subst hb1 hb2
        obtain ⟨s, hs⟩ : ∃ s, (p.take k).any (fun x => x.k == 5) = s := ⟨_, rfl⟩
        obtain ⟨r, hr5⟩ : ∃ r, (z.k == 5) = r := ⟨_, rfl⟩
        rw [hs, hr5] at hany
        rw [hs]
        have HA := Lib.hid hany
        clear hany hs hz
        cases s <;> cases r
        all_goals
          go_wp2
          go_round
          case rel => exact ⟨k + 1, by omega, by go_num, by rw [HA.out]; rfl⟩
          case measure => simp [intOf]; omega
      · obtain rfl : n = k := by omega
        have hany : (p.take n).any (fun x => x.k == 5) = p.any (fun x => x.k == 5) := by rw [List.take_of_length_le (by rw [H3.out.1.len]; exact Nat.le_refl _)]
        obtain ⟨s, hs⟩ : ∃ s, p.any (fun x => x.k == 5) = s := ⟨_, rfl⟩
        rw [hany, hs]
        obtain ⟨Z, hZ⟩ : ∃ Z : Int, (if s then 15 else 0) = Z := ⟨_, rfl⟩
        have HA := Lib.hid (And.intro hs hZ)
        clear hany hs
        go_upto_if 57 with fail
        go_cut [13] (fun t wx => t = .int .i64 Z ∧ wx = wD)
        case first =>
          cases s
          all_goals
            go_wp2_with fail
            go_meet
            exact ⟨by rw [← hZ]; rfl, rfl⟩
        case rest =>
          obtain ⟨rfl, rfl⟩ := hcut
          have HS := Lib.hid (HST.out)
          obtain ⟨g9, hg9⟩ : ∃ g, w3.heap.size = g := ⟨_, rfl⟩
          rw [hg9] at HS ⊢
          obtain ⟨B, hB⟩ : ∃ B, g9 + 1 = B := ⟨_, rfl⟩
          rw [hB] at HS
          obtain ⟨D8, hD8⟩ : ∃ D, w1.heap.size = D := ⟨_, rfl⟩
          rw [hD8]
          have HK1 := Lib.hid (fun W A2 cap2 (h : SlK W A2 (n + 1) cap2 (p ++ [y])) => show Calls Tryd.prog 16 #[.slice (some ⟨D8, 0, none⟩) 20 20, .slice A2 (n + 1) cap2] W fun e w' => e = .returned (.int .i64 15) ∧ Fr (fun _ => False) W w' from by
            have := planCheck_any 20 (some ⟨D8, 0, none⟩) 20 (p ++ [y]) A2 cap2 W h.row (by rw [h.len]; exact h.le) h.cap (by decide)
            rw [h.len, show ((20 : Nat) : Int) = 20 from rfl, HS.out.twice] at this
            exact this)
          have HK2 := Lib.hid (fun W (h : SlK W A10 (n + 1) c10 (p ++ [⟨5, 0⟩])) => show Calls Tryd.prog 16 #[.slice (some ⟨D8, 0, none⟩) 20 20, .slice A10 (n + 1) c10] W fun e w' => e = .returned (.int .i64 Z) ∧ Fr (fun _ => False) W w' from by
            have := planCheck_any 20 (some ⟨D8, 0, none⟩) 20 (p ++ [⟨5, 0⟩]) A10 c10 W h.row (by rw [h.len]; exact h.le) h.cap (by decide)
            rw [h.len, show ((20 : Nat) : Int) = 20 from rfl, HS.out.tame.ent (Int.le_refl _), HA.out.1, HA.out.2] at this
            exact this)
          have HK3 := Lib.hid (fun W A3 cap3 (h : SlK W A3 (n + 1 + 1) cap3 (p ++ [⟨5, 0⟩] ++ [⟨5, 0⟩])) => show Calls Tryd.prog 16 #[.slice (some ⟨D8, 0, none⟩) 20 20, .slice A3 (n + 1 + 1) cap3] W fun e w' => e = .returned (.int .i64 15) ∧ Fr (fun _ => False) W w' from by
            have := planCheck_any 20 (some ⟨D8, 0, none⟩) 20 (p ++ [⟨5, 0⟩] ++ [⟨5, 0⟩]) A3 cap3 W h.row (by rw [h.len]; exact h.le) h.cap (by decide)
            rw [h.len, show ((20 : Nat) : Int) = 20 from rfl, HS.out.tame.ents (Int.le_refl _)] at this
            exact this)
          have q0 := cell_cl (S := fun z => B ≤ z) (show wc.cell? ⟨g9, 0, none⟩ = some (.int .i64 y.k) from HS.out.b9.cell 0) (by show ¬ B ≤ g9; omega)
          have q1 := cell_cl (S := fun z => B ≤ z) (show wc.cell? ⟨g9, 1, none⟩ = some (.int .i64 y.c) from HS.out.b9.cell 1) (by show ¬ B ≤ g9; omega)
          have hZ2 : (Z == Z) = true := by simp
          clear hZ hg9 hB hD8 HST happ1 happ2 d0 d1
          go_wp2_with fail
          refine Mix.wp_region_tr (S := fun w' => ∃ p : Cl (fun z => B ≤ z) wc, w' = p.w) (.read 0 (.read 2 (.read 4 (.two 1 (.two 3 (.one 5 (.one 6 (.one 7 (.read 8 (.read 9 (.read 10 (.read 11 (.read 13 (.one 12 (.read 14 (.read 15 (.read 16 (.read 17 (.read 18 (.read 19 (.one 20 (.one 21 (.one 22 (.read 23 (.read 24 (.read 25 (.one 26 (.read 27 (.read 28 .nil)))))))))))))))))))))))) 5 (.one 3 (.one 6 (.one 7 (.read 8 (.read 9 (.read 10 (.read 11 (.read 13 (.one 12 (.read 14 (.read 15 (.read 16 (.read 17 (.read 18 (.read 19 (.one 20 (.one 21 (.one 22 (.read 23 (.read 24 (.read 25 (.one 26 (.read 27 (.read 28 .nil))))))))))))))))))))))))) 5 (.one 1 (.one 3 (.one 6 (.one 7 (.read 8 (.read 9 (.read 10 (.read 11 (.read 13 (.one 12 (.read 14 (.read 15 (.read 16 (.read 17 (.read 18 (.read 19 (.one 20 (.one 21 (.one 22 (.read 23 (.read 24 (.read 25 (.one 26 (.read 27 (.read 28 .nil))))))))))))))))))))))))))))) (by kernel_rfl) (by kernel_rfl) (by intro c d v a w h; cases d <;> exact h) (cl_drew _ _) ?_
          obtain ⟨W0, hW0⟩ : ∃ W0, W0 = wc.drew := ⟨_, rfl⟩
          rw [← hW0]
          have hf0 : Fr (fun _ => False) wc W0 := by rw [hW0]; exact (Fr.refl _ _).drew
          have H0 := Lib.hid hf0
          clear hW0 hf0
          repeat (refine Mix.tr_read rfl rfl ?_; (first | go_big_quiet_step (fail) | quiet_step (fail)); refine wpQuiet_nil ?_)
          refine Mix.tr_two rfl rfl ?_ ?_
          · go_wp2_with fail
            refine behind_cl ((Fr.mono H0.out (fun _ _ h => h.elim)).alloc _) ?_
            have hown0 := own_none W0 43 2
            have hs0 := (HS.out.p7.fr H0.out).fr (Fr.alloc1 (fun _ => False) W0 (.cells #[] 43))
            have hbase0 : W0.heap.size ≤ (W0.alloc (.cells #[] 43)).heap.size := by simp
            refine Mix.tr_two rfl rfl ?_ ?_
            · obtain ⟨v1, wA, happ3, hownA, hgA⟩ := app_new hown0 hs0 HS.out.n0 (by have := HS.out.n7; omega) hbase0
              have hfA : Fr (fun _ => False) W0 wA := fr_grown (Fr.alloc1 _ _ _) hown0 hgA (Nat.le_refl _)
              obtain ⟨A2, c2, wE, happ6, hs6, hg6⟩ := app_slk (hownA.alloc (.cells #[.int .i64 y.k, .int .i64 y.c] 43)) HS.out.p7.len y (Blk.new wA 43 #[.int .i64 y.k, .int .i64 y.c]) (by have := HS.out.n7; omega) (by have := hfA.size; simp; omega)
              have hfE : Fr (fun _ => False) W0 wE := fr_grown (hfA.alloc _) (hownA.alloc (.cells #[.int .i64 y.k, .int .i64 y.c] 43)) hg6 (Nat.le_refl _)
              have H6 := Lib.hid (And.intro hfA (And.intro hs6 hfE))
              clear hownA hgA hfA hs6 hg6 hfE hown0 hs0
              simp only [List.getElem_toArray, List.getElem_cons_succ, List.getElem_cons_zero]
              go_wp2_with fail
              refine behind_cl ((Fr.mono (fr_two H0.out H6.out.1) (fun _ _ h => h.elim))) ?_
              refine Mix.tr_does rfl ?_
              simp only [List.getElem_toArray, List.getElem_cons_succ, List.getElem_cons_zero]
              go_wp2_with fail
              refine behind_cl ((Fr.mono (fr_two H0.out H6.out.1) (fun _ _ h => h.elim)).alloc _) ?_
              refine Mix.tr_does rfl ?_
              simp only [List.getElem_toArray, List.getElem_cons_succ, List.getElem_cons_zero]
              go_wp2_with fail
              clear happ3 happ6
              refine behind_cl ((Fr.mono (fr_two H0.out H6.out.2.2) (fun _ _ h => h.elim))) ?_
              refine Mix.tr_does rfl ?_
              simp only [List.getElem_toArray, List.getElem_cons_succ, List.getElem_cons_zero]
              go_wp2_with fail
              refine (HK1.out _ _ _ H6.out.2.1).mono ?_
              rintro e w7 ⟨rfl, hf7⟩
              have H7 := Lib.hid (fr_two (fr_two H0.out H6.out.2.2) hf7)
              clear hf7
              go_wp2_with fail
              refine behind_cl (Fr.mono H7.out (fun _ _ h => h.elim)) ?_
              repeat (refine Mix.tr_read rfl rfl ?_; (first | go_big_quiet_step (fail) | quiet_step (fail)); refine wpQuiet_nil ?_)
              refine Mix.tr_does rfl ?_
              simp only [List.getElem_toArray, List.getElem_cons_succ, List.getElem_cons_zero]
              have hown7 := own_fr HS.out.own H7.out (fun _ _ h => h)
              obtain ⟨A9, c9, he9, g1, g2, g3⟩ := rowC_of_own hown7
              injection he9 with e1 _ e2
              subst e1 e2
              have hsl7 : SlK w7 A10 (n + 1) c10 (p ++ [⟨5, 0⟩]) := ⟨by rw [List.length_append, HS.out.p7.len]; rfl, g1, by unfold maxLen at g2; exact g2, g3⟩
              have H8 := Lib.hid (And.intro hsl7 hown7)
              clear hown7 g1 g2 g3 hsl7
              go_wp2_with fail
              refine (HK2.out _ H8.out.1).mono ?_
              rintro e w12 ⟨rfl, hf12⟩
              have H12 := Lib.hid (And.intro hf12 (fr_two H7.out hf12))
              clear hf12
              go_wp2_with fail
              refine behind_cl (Fr.mono H12.out.2 (fun _ _ h => h.elim)) ?_
              repeat (refine Mix.tr_read rfl rfl ?_; (first | go_big_quiet_step (fail) | quiet_step (fail)); refine wpQuiet_nil ?_)
              refine Mix.tr_does rfl ?_
              simp only [List.getElem_toArray, List.getElem_cons_succ, List.getElem_cons_zero]
              go_wp2_with fail
              refine behind_cl ((Fr.mono H12.out.2 (fun _ _ h => h.elim)).alloc _) ?_
              refine Mix.tr_does rfl ?_
              simp only [List.getElem_toArray, List.getElem_cons_succ, List.getElem_cons_zero]
              have hown12 := (own_fr H8.out.2 H12.out.1 (fun _ _ h => h)).alloc (.cells #[.int .i64 5, .int .i64 0] 43)
              obtain ⟨A3, c3, w21, happ21, hs21, hg21⟩ := app_slk hown12 (show (p ++ [(⟨5, 0⟩ : Coln)]).length = n + 1 from by rw [List.length_append, HS.out.p7.len]; rfl) ⟨5, 0⟩ (Blk.new w12 43 #[.int .i64 5, .int .i64 0]) (by have := HS.out.n7; omega) (by have := H12.out.2.size; have := HS.out.base; simp; omega)
              have hf21 : Fr (fun z => B ≤ z) wc w21 := ((Fr.mono H12.out.2 (fun _ _ h => h.elim)).alloc _).grown hg21 (fun k hk => .inl (hown12.lt k hk).1)
              have H21 := Lib.hid (And.intro hs21 hf21)
              clear hown12 hs21 hg21 hf21
              go_wp2_with fail
              refine behind_cl H21.out.2 ?_
              clear happ21
              refine Mix.tr_does rfl ?_
              simp only [List.getElem_toArray, List.getElem_cons_succ, List.getElem_cons_zero]
              go_wp2_with fail
              refine (HK3.out _ _ _ H21.out.1).mono ?_
              rintro e w22 ⟨rfl, hf22⟩
              have hf22' : Fr (fun z => B ≤ z) wc w22 := H21.out.2.trans hf22 (fun _ h => h.elim)
              have H22 := Lib.hid (And.intro hf22' (HS.out.fr.trans hf22' (fun i hi => .inr (Nat.le_trans HS.out.lo hi))))
              clear hf22 hf22'
              go_wp2_with fail
              refine behind_cl H22.out.1 ?_
              repeat (refine Mix.tr_read rfl rfl ?_; (first | go_big_quiet_step (fail) | quiet_step (fail)); refine wpQuiet_nil ?_)
              refine Mix.tr_does rfl ?_
              simp only [List.getElem_toArray, List.getElem_cons_succ, List.getElem_cons_zero]
              go_wp2_with fail
              refine (awake_any _ (HE.out.fr H22.out.2)).mono ?_
              rintro e w26 ⟨rfl, hf26⟩
              have H26 := Lib.hid (And.intro (H22.out.1.trans hf26 (fun _ h => h.elim)) (fr_two H22.out.2 hf26))
              clear hf26
              go_wp2_with fail
              refine behind_cl H26.out.1 ?_
              repeat (refine Mix.tr_read rfl rfl ?_; (first | go_big_quiet_step (fail) | quiet_step (fail)); refine wpQuiet_nil ?_)
              refine Mix.tr_nil ?_
              go_wp2
              go_ret
              exact ⟨rfl, H26.out.2⟩
            · have hbx := Blk.new (W0.alloc (.cells #[] 43)) 43 #[.int .i64 y.k, .int .i64 y.c]
              have hownX := hown0.alloc (.cells #[.int .i64 y.k, .int .i64 y.c] 43)
              obtain ⟨v1, wA, happ3, hownA, hgA⟩ := app_new hownX (hs0.fr (Fr.alloc1 (fun _ => False) _ (.cells #[.int .i64 y.k, .int .i64 y.c] 43))) HS.out.n0 (by have := HS.out.n7; omega) (by simp; omega)
              have hfA : Fr (fun _ => False) W0 wA := fr_grown ((Fr.alloc1 _ _ _).alloc _) hownX hgA (Nat.le_refl _)
              have hbA := hbx.grown hgA (by simp [Value.ownBlock])
              rw [show (W0.alloc (.cells #[] 43)).heap.size = W0.heap.size + 1 from by simp] at hbA
              obtain ⟨A2, c2, wE, happ6, hs6, hg6⟩ := app_slk hownA HS.out.p7.len y hbA (by have := HS.out.n7; omega) hfA.size
              have hfE : Fr (fun _ => False) W0 wE := fr_grown hfA hownA hg6 (Nat.le_refl _)
              have H6 := Lib.hid (And.intro hfA (And.intro hs6 hfE))
              clear hownA hgA hfA hs6 hg6 hfE hown0 hs0 hbx hownX hbA
              go_wp2_with fail
              refine behind_cl (((Fr.mono H0.out (fun _ _ h => h.elim)).alloc _).alloc _) ?_
              refine Mix.tr_does rfl ?_
              simp only [List.getElem_toArray, List.getElem_cons_succ, List.getElem_cons_zero]
              go_wp2_with fail
              refine behind_cl ((Fr.mono (fr_two H0.out H6.out.1) (fun _ _ h => h.elim))) ?_
              refine Mix.tr_does rfl ?_
              simp only [List.getElem_toArray, List.getElem_cons_succ, List.getElem_cons_zero]
              go_wp2_with fail
              clear happ3 happ6
              refine behind_cl ((Fr.mono (fr_two H0.out H6.out.2.2) (fun _ _ h => h.elim))) ?_
              refine Mix.tr_does rfl ?_
              simp only [List.getElem_toArray, List.getElem_cons_succ, List.getElem_cons_zero]
              go_wp2_with fail
              refine (HK1.out _ _ _ H6.out.2.1).mono ?_
              rintro e w7 ⟨rfl, hf7⟩
              have H7 := Lib.hid (fr_two (fr_two H0.out H6.out.2.2) hf7)
              clear hf7
              go_wp2_with fail
              refine behind_cl (Fr.mono H7.out (fun _ _ h => h.elim)) ?_
              repeat (refine Mix.tr_read rfl rfl ?_; (first | go_big_quiet_step (fail) | quiet_step (fail)); refine wpQuiet_nil ?_)
              refine Mix.tr_does rfl ?_
              simp only [List.getElem_toArray, List.getElem_cons_succ, List.getElem_cons_zero]
              have hown7 := own_fr HS.out.own H7.out (fun _ _ h => h)
              obtain ⟨A9, c9, he9, g1, g2, g3⟩ := rowC_of_own hown7
              injection he9 with e1 _ e2
              subst e1 e2
              have hsl7 : SlK w7 A10 (n + 1) c10 (p ++ [⟨5, 0⟩]) := ⟨by rw [List.length_append, HS.out.p7.len]; rfl, g1, by unfold maxLen at g2; exact g2, g3⟩
              have H8 := Lib.hid (And.intro hsl7 hown7)
              clear hown7 g1 g2 g3 hsl7
              go_wp2_with fail
              refine (HK2.out _ H8.out.1).mono ?_
              rintro e w12 ⟨rfl, hf12⟩
              have H12 := Lib.hid (And.intro hf12 (fr_two H7.out hf12))
              clear hf12
              go_wp2_with fail
              refine behind_cl (Fr.mono H12.out.2 (fun _ _ h => h.elim)) ?_
              repeat (refine Mix.tr_read rfl rfl ?_; (first | go_big_quiet_step (fail) | quiet_step (fail)); refine wpQuiet_nil ?_)
              refine Mix.tr_does rfl ?_
              simp only [List.getElem_toArray, List.getElem_cons_succ, List.getElem_cons_zero]
              go_wp2_with fail
              refine behind_cl ((Fr.mono H12.out.2 (fun _ _ h => h.elim)).alloc _) ?_
              refine Mix.tr_does rfl ?_
              simp only [List.getElem_toArray, List.getElem_cons_succ, List.getElem_cons_zero]
              have hown12 := (own_fr H8.out.2 H12.out.1 (fun _ _ h => h)).alloc (.cells #[.int .i64 5, .int .i64 0] 43)
              obtain ⟨A3, c3, w21, happ21, hs21, hg21⟩ := app_slk hown12 (show (p ++ [(⟨5, 0⟩ : Coln)]).length = n + 1 from by rw [List.length_append, HS.out.p7.len]; rfl) ⟨5, 0⟩ (Blk.new w12 43 #[.int .i64 5, .int .i64 0]) (by have := HS.out.n7; omega) (by have := H12.out.2.size; have := HS.out.base; simp; omega)
              have hf21 : Fr (fun z => B ≤ z) wc w21 := ((Fr.mono H12.out.2 (fun _ _ h => h.elim)).alloc _).grown hg21 (fun k hk => .inl (hown12.lt k hk).1)
              have H21 := Lib.hid (And.intro hs21 hf21)
              clear hown12 hs21 hg21 hf21
              go_wp2_with fail
              refine behind_cl H21.out.2 ?_
              clear happ21
              refine Mix.tr_does rfl ?_
              simp only [List.getElem_toArray, List.getElem_cons_succ, List.getElem_cons_zero]
              go_wp2_with fail
              refine (HK3.out _ _ _ H21.out.1).mono ?_
              rintro e w22 ⟨rfl, hf22⟩
              have hf22' : Fr (fun z => B ≤ z) wc w22 := H21.out.2.trans hf22 (fun _ h => h.elim)
              have H22 := Lib.hid (And.intro hf22' (HS.out.fr.trans hf22' (fun i hi => .inr (Nat.le_trans HS.out.lo hi))))
              clear hf22 hf22'
              go_wp2_with fail
              refine behind_cl H22.out.1 ?_
              repeat (refine Mix.tr_read rfl rfl ?_; (first | go_big_quiet_step (fail) | quiet_step (fail)); refine wpQuiet_nil ?_)
              refine Mix.tr_does rfl ?_
              simp only [List.getElem_toArray, List.getElem_cons_succ, List.getElem_cons_zero]
              go_wp2_with fail
              refine (awake_any _ (HE.out.fr H22.out.2)).mono ?_
              rintro e w26 ⟨rfl, hf26⟩
              have H26 := Lib.hid (And.intro (H22.out.1.trans hf26 (fun _ h => h.elim)) (fr_two H22.out.2 hf26))
              clear hf26
              go_wp2_with fail
              refine behind_cl H26.out.1 ?_
              repeat (refine Mix.tr_read rfl rfl ?_; (first | go_big_quiet_step (fail) | quiet_step (fail)); refine wpQuiet_nil ?_)
              refine Mix.tr_nil ?_
              go_wp2
              go_ret
              exact ⟨rfl, H26.out.2⟩
          · have hbx := Blk.new W0 43 #[.int .i64 y.k, .int .i64 y.c]
            obtain ⟨W1, hW1⟩ : ∃ W1, W1 = W0.alloc (.cells #[.int .i64 y.k, .int .i64 y.c] 43) := ⟨_, rfl⟩
            have hf01 : Fr (fun _ => False) W0 W1 := by rw [hW1]; exact Fr.alloc1 _ _ _
            have hown0 := own_none W1 43 2
            obtain ⟨v1, wA, happ3, hownA, hgA⟩ := app_new hown0 (((HS.out.p7.fr H0.out).fr hf01).fr (Fr.alloc1 (fun _ => False) W1 (.cells #[] 43))) HS.out.n0 (by have := HS.out.n7; omega) (by simp)
            have hfA : Fr (fun _ => False) W1 wA := fr_grown (Fr.alloc1 _ _ _) hown0 hgA (Nat.le_refl _)
            have hbA : Blk wA W0.heap.size 43 #[.int .i64 y.k, .int .i64 y.c] := Blk.fr (by rw [hW1]; exact hbx) hfA (fun h => h)
            obtain ⟨A2, c2, wE, happ6, hs6, hg6⟩ := app_slk hownA HS.out.p7.len y hbA (by have := HS.out.n7; omega) hfA.size
            have hfE : Fr (fun _ => False) W1 wE := fr_grown hfA hownA hg6 (Nat.le_refl _)
            have H6 := Lib.hid (And.intro (fr_two hf01 hfA) (And.intro hs6 (fr_two hf01 hfE)))
            have H7 := Lib.hid hf01
            clear hownA hgA hfA hs6 hg6 hfE hown0 hbx hbA hf01
            go_wp2_with fail
            rw [← hW1]
            clear hW1
            refine behind_cl (Fr.mono (fr_two H0.out H7.out) (fun _ _ h => h.elim)) ?_
            refine Mix.tr_does rfl ?_
            simp only [List.getElem_toArray, List.getElem_cons_succ, List.getElem_cons_zero]
            go_wp2_with fail
            refine behind_cl ((Fr.mono (fr_two H0.out H7.out) (fun _ _ h => h.elim)).alloc _) ?_
            refine Mix.tr_does rfl ?_
            simp only [List.getElem_toArray, List.getElem_cons_succ, List.getElem_cons_zero]
            go_wp2_with fail
            refine behind_cl ((Fr.mono (fr_two H0.out H6.out.1) (fun _ _ h => h.elim))) ?_
            refine Mix.tr_does rfl ?_
            simp only [List.getElem_toArray, List.getElem_cons_succ, List.getElem_cons_zero]
            go_wp2_with fail
            clear happ3 happ6
            refine behind_cl ((Fr.mono (fr_two H0.out H6.out.2.2) (fun _ _ h => h.elim))) ?_
            refine Mix.tr_does rfl ?_
            simp only [List.getElem_toArray, List.getElem_cons_succ, List.getElem_cons_zero]
            go_wp2_with fail
            refine (HK1.out _ _ _ H6.out.2.1).mono ?_
            rintro e w7 ⟨rfl, hf7⟩
            have H7 := Lib.hid (fr_two (fr_two H0.out H6.out.2.2) hf7)
            clear hf7
            go_wp2_with fail
            refine behind_cl (Fr.mono H7.out (fun _ _ h => h.elim)) ?_
            repeat (refine Mix.tr_read rfl rfl ?_; (first | go_big_quiet_step (fail) | quiet_step (fail)); refine wpQuiet_nil ?_)
            refine Mix.tr_does rfl ?_
            simp only [List.getElem_toArray, List.getElem_cons_succ, List.getElem_cons_zero]
            have hown7 := own_fr HS.out.own H7.out (fun _ _ h => h)
            obtain ⟨A9, c9, he9, g1, g2, g3⟩ := rowC_of_own hown7
            injection he9 with e1 _ e2
            subst e1 e2
            have hsl7 : SlK w7 A10 (n + 1) c10 (p ++ [⟨5, 0⟩]) := ⟨by rw [List.length_append, HS.out.p7.len]; rfl, g1, by unfold maxLen at g2; exact g2, g3⟩
            have H8 := Lib.hid (And.intro hsl7 hown7)
            clear hown7 g1 g2 g3 hsl7
            go_wp2_with fail
            refine (HK2.out _ H8.out.1).mono ?_
            rintro e w12 ⟨rfl, hf12⟩
            have H12 := Lib.hid (And.intro hf12 (fr_two H7.out hf12))
            clear hf12
            go_wp2_with fail
            refine behind_cl (Fr.mono H12.out.2 (fun _ _ h => h.elim)) ?_
            repeat (refine Mix.tr_read rfl rfl ?_; (first | go_big_quiet_step (fail) | quiet_step (fail)); refine wpQuiet_nil ?_)
            refine Mix.tr_does rfl ?_
            simp only [List.getElem_toArray, List.getElem_cons_succ, List.getElem_cons_zero]
            go_wp2_with fail
            refine behind_cl ((Fr.mono H12.out.2 (fun _ _ h => h.elim)).alloc _) ?_
            refine Mix.tr_does rfl ?_
            simp only [List.getElem_toArray, List.getElem_cons_succ, List.getElem_cons_zero]
            have hown12 := (own_fr H8.out.2 H12.out.1 (fun _ _ h => h)).alloc (.cells #[.int .i64 5, .int .i64 0] 43)
            obtain ⟨A3, c3, w21, happ21, hs21, hg21⟩ := app_slk hown12 (show (p ++ [(⟨5, 0⟩ : Coln)]).length = n + 1 from by rw [List.length_append, HS.out.p7.len]; rfl) ⟨5, 0⟩ (Blk.new w12 43 #[.int .i64 5, .int .i64 0]) (by have := HS.out.n7; omega) (by have := H12.out.2.size; have := HS.out.base; simp; omega)
            have hf21 : Fr (fun z => B ≤ z) wc w21 := ((Fr.mono H12.out.2 (fun _ _ h => h.elim)).alloc _).grown hg21 (fun k hk => .inl (hown12.lt k hk).1)
            have H21 := Lib.hid (And.intro hs21 hf21)
            clear hown12 hs21 hg21 hf21
            go_wp2_with fail
            refine behind_cl H21.out.2 ?_
            clear happ21
            refine Mix.tr_does rfl ?_
            simp only [List.getElem_toArray, List.getElem_cons_succ, List.getElem_cons_zero]
            go_wp2_with fail
            refine (HK3.out _ _ _ H21.out.1).mono ?_
            rintro e w22 ⟨rfl, hf22⟩
            have hf22' : Fr (fun z => B ≤ z) wc w22 := H21.out.2.trans hf22 (fun _ h => h.elim)
            have H22 := Lib.hid (And.intro hf22' (HS.out.fr.trans hf22' (fun i hi => .inr (Nat.le_trans HS.out.lo hi))))
            clear hf22 hf22'
            go_wp2_with fail
            refine behind_cl H22.out.1 ?_
            repeat (refine Mix.tr_read rfl rfl ?_; (first | go_big_quiet_step (fail) | quiet_step (fail)); refine wpQuiet_nil ?_)
            refine Mix.tr_does rfl ?_
            simp only [List.getElem_toArray, List.getElem_cons_succ, List.getElem_cons_zero]
            go_wp2_with fail
            refine (awake_any _ (HE.out.fr H22.out.2)).mono ?_
            rintro e w26 ⟨rfl, hf26⟩
            have H26 := Lib.hid (And.intro (H22.out.1.trans hf26 (fun _ h => h.elim)) (fr_two H22.out.2 hf26))
            clear hf26
            go_wp2_with fail
            refine behind_cl H26.out.1 ?_
            repeat (refine Mix.tr_read rfl rfl ?_; (first | go_big_quiet_step (fail) | quiet_step (fail)); refine wpQuiet_nil ?_)
            refine Mix.tr_nil ?_
            go_wp2
            go_ret
            exact ⟨rfl, H26.out.2⟩
end Go.Proofs.YtibailpbjdfjfaaDoor
