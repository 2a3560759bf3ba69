/-
  The document's plan texts: Columns; PlanTexts' walk.
-/
import Derived.Test.YtibailpbjdfjfaaDoorPlnP
import Derived.Test.YtibailpbjdfjfaaDoorPlnJ
import Derived.Test.YtibailpbjdfjfaaDoorPlnLz
namespace Go.Viv
open Go.Lib Go.RowKit
/-- How far a text's words are parted. -/
def WAt (l : List UInt8) (k f : Nat) (ds : List (List UInt8)) : Prop :=
  (k ≤ l.length ∧ f ≤ k ∧ wds 32 l = ds ++ wds 32 (l.drop f) ∧ (32 : UInt8) ∉ (l.drop f).take (k - f)) ∨ (k = l.length + 1 ∧ f = l.length + 1 ∧ ds = wds 32 l)
theorem WAt.start (l : List UInt8) : WAt l 0 0 [] := .inl ⟨Nat.zero_le _, Nat.le_refl _, by simp, by simp⟩
theorem WAt.skip {l : List UInt8} {k f : Nat} {ds : List (List UInt8)} (h : WAt l k f ds) (hk : k < l.length) (hc : l[k] ≠ 32) : WAt l (k + 1) f ds := by
  rcases h with ⟨h1, h2, h3, h4⟩ | ⟨h1, _, _⟩
  · refine .inl ⟨hk, by omega, h3, ?_⟩
    rw [show k + 1 - f = (k - f) + 1 by omega, List.take_add_one, List.getElem?_drop, show f + (k - f) = k by omega, List.getElem?_eq_getElem hk]
    simp only [Option.toList_some, List.mem_append, List.mem_singleton, not_or]
    exact ⟨h4, fun h => hc h.symm⟩
  · omega
theorem WAt.cut {l : List UInt8} {k f : Nat} {ds : List (List UInt8)} (h : WAt l k f ds) (hk : k < l.length) (hc : l[k] = 32) : WAt l (k + 1) (k + 1) (ds ++ [(l.drop f).take (k - f)]) := by
  rcases h with ⟨h1, h2, h3, h4⟩ | ⟨h1, _, _⟩
  · refine .inl ⟨hk, Nat.le_refl _, ?_, by simp⟩
    have e : l.drop f = (l.drop f).take (k - f) ++ 32 :: l.drop (k + 1) := by
      conv => lhs; rw [← List.take_append_drop (k - f) (l.drop f)]
      rw [List.drop_drop, show f + (k - f) = k by omega, List.drop_eq_getElem_cons hk, hc]
    rw [h3]
    conv => lhs; rw [e]
    rw [wds_more 32 _ _ h4, List.append_assoc]
    rfl
  · omega
theorem WAt.last {l : List UInt8} {f : Nat} {ds : List (List UInt8)} (h : WAt l l.length f ds) : WAt l (l.length + 1) (l.length + 1) (ds ++ [(l.drop f).take (l.length - f)]) := by
  rcases h with ⟨h1, h2, h3, h4⟩ | ⟨h1, _, _⟩
  · refine .inr ⟨rfl, rfl, ?_⟩
    have e : (l.drop f).take (l.length - f) = l.drop f := List.take_of_length_le (by simp)
    rw [e] at h4 ⊢
    rw [h3, wds_word 32 _ h4]
  · omega
theorem WAt.len {l : List UInt8} {k f : Nat} {ds : List (List UInt8)} (h : WAt l k f ds) : ds.length ≤ l.length + 1 := by
  have hl := wds_len 32 l
  rcases h with ⟨_, _, h3, _⟩ | ⟨_, _, h3⟩
  · rw [h3, List.length_append] at hl; omega
  · rw [h3]; exact hl
theorem WAt.le {l : List UInt8} {k f : Nat} {ds : List (List UInt8)} (h : WAt l k f ds) (hk : k ≤ l.length) : f ≤ k := by
  rcases h with ⟨_, h2, _, _⟩ | ⟨h1, _, _⟩
  · exact h2
  · omega
theorem WAt.done {l : List UInt8} {k f : Nat} {ds : List (List UInt8)} (h : WAt l k f ds) (hk : l.length < k) : ds = wds 32 l := by
  rcases h with ⟨h1, _, _, _⟩ | ⟨_, _, h3⟩
  · omega
  · exact h3
theorem WAt.pre {l : List UInt8} {k f : Nat} {ds : List (List UInt8)} (h : WAt l k f ds) : ∃ r, wds 32 l = ds ++ r := by
  rcases h with ⟨_, _, h3, _⟩ | ⟨_, _, h3⟩
  · exact ⟨_, h3⟩
  · exact ⟨[], by rw [h3, List.append_nil]⟩
theorem mapM_snoc {ws : List (List UInt8)} {cs : List Coln} {X : List UInt8} (h : ws.mapM colP = some cs) : (ws ++ [X]).mapM colP = (colP X).map (fun x => cs ++ [x]) := by
  rw [List.mapM_append, h]
  cases hc : colP X with
  | none => simp [hc]
  | some x => simp [hc]
theorem planP_bad {l : List UInt8} {ws r : List (List UInt8)} {cs : List Coln} {X : List UInt8} (hl : l ≠ []) (he : wds 32 l = ws ++ [X] ++ r) (h : ws.mapM colP = some cs) (hb : colP X = none ∨ 100 ≤ cs.length) : planP l = none := by
  unfold planP
  rw [if_neg hl]
  by_cases h100 : 100 < (wds 32 l).length
  · rw [if_pos h100]
  · rw [if_neg h100]
    rcases hb with hb | hb
    · rw [he, List.mapM_append, mapM_snoc h, hb]
      rfl
    · have := mapM_len h
      rw [he, List.length_append, List.length_append, List.length_singleton] at h100
      omega
theorem planP_all {l : List UInt8} {cs : List Coln} (hl : l ≠ []) (h : (wds 32 l).mapM colP = some cs) (hb : cs.length ≤ 100) : planP l = some cs := by
  have := mapM_len h
  unfold planP
  rw [if_neg hl, if_neg (by omega), h]
end Go.Viv
namespace Go.Proofs.YtibailpbjdfjfaaDoor
open Go.RowKit Go.Viv
attribute [local go_sem ↓] wp_appendV
/-- What Columns answers. -/
def ColsA (l : List UInt8) (w : World) (e : Ending) (w' : World) : Prop := ∃ A cap p b, e = .returned (.tuple #[.slice A p.length cap, .bool b]) ∧ p.length ≤ cap ∧ cap ≤ maxLen ∧ RowC w' A (p.flatMap cellsK) ∧ ((planP l = some p ∧ b = true) ∨ (planP l = none ∧ p = [] ∧ b = false)) ∧ Fr (fun _ => False) w w'
set_option maxRecDepth 100000 in
set_option maxHeartbeats 2000000 in
theorem columns_any (l : List UInt8) (w : World) (hl : l.length < 4294967281) : Calls Tryd.prog 15 #[str l] w (ColsA l w) := by
  by_cases hl0 : l = []
  · subst hl0
    go_enter Tryd.func15, Tryd.ntmps15
    go_wp2
    go_ret2
    exact ⟨none, 0, [], true, rfl, Nat.le_refl _, Nat.zero_le _, .inl rfl, .inl ⟨rfl, rfl⟩, Fr.refl _ _⟩
  · have hne : (l == []) = false := beq_eq_false_iff_ne.2 hl0
    have hne2 : ¬ l = [] := hl0
    have HL0 := Lib.hid hl0
    have HLL := Lib.hid hl
    have hl' : l.length ≤ 281474976710656 := by omega
    clear hl hl0
    go_enter Tryd.func15, Tryd.ntmps15
    go_wp2_with fail
    go_loopw [4, 5, 6, 7, 8] (fun v u t _ _ wr => ∃ (k f : Nat) (ds : List (List UInt8)) (cs : List Coln), k ≤ l.length + 1 ∧ t = .int .i64 k ∧ u = .int .i64 f ∧ WAt l k f ds ∧ ds.mapM colP = some cs ∧ cs.length ≤ 100 ∧ wr.ownsRow w.heap.size 43 2 v cs.length (cs.flatMap cellsK) ∧ Fr (fun _ => False) w wr) (fun _ _ t _ _ _ => l.length + 1 - (intOf t).toNat)
    case atStart => exact ⟨0, 0, [], [], by omega, rfl, rfl, WAt.start l, rfl, Nat.zero_le _, World.ownsRow_nil _ _ _ _, Fr.refl _ _⟩
    case round =>
      obtain ⟨k, f, ds, cs, hk, rfl, rfl, hat, hcs, hc100, hown, hfr⟩ := hrel
      by_cases hle : k ≤ l.length
      · have hle' : (k : Int) ≤ l.length := by omega
        have hfk := hat.le hle
        have hfk' : (f : Int) ≤ k := by omega
        by_cases hsk : ∃ h : k < l.length, l[k] ≠ 32
        · obtain ⟨hlt, hc⟩ := hsk
          have hlt' : (k : Int) < l.length := by omega
          have hb : ((((ByteArray.mk l.toArray)[k]'(by rw [size_str]; exact hlt)).toNat : Int) == 32) = false := by
            show ((((l[k]).toNat : Nat) : Int) == 32) = false
            refine beq_eq_false_iff_ne.2 (fun h1 => hc ?_)
            exact UInt8.toNat.inj (by show l[k].toNat = 32; omega)
          have H2 := Lib.hid (And.intro (hat.skip hlt hc) (And.intro hcs (And.intro hc100 (And.intro hown hfr))))
          clear hat hcs hc100 hown hfr hc
          go_wp2_with fail
          go_roundw
          case rel => exact ⟨k + 1, f, ds, cs, by omega, by go_num, rfl, H2.out.1, H2.out.2.1, H2.out.2.2.1, H2.out.2.2.2.1, H2.out.2.2.2.2⟩
          case measure => simp [intOf]; omega
        · have hx := ext_list l f k
          obtain ⟨X, hX⟩ : ∃ X, (l.drop f).take (k - f) = X := ⟨_, rfl⟩
          rw [hX] at hx
          have hXl : X.length ≤ 9223372036854775807 := by
            rw [← hX, List.length_take, List.length_drop]
            omega
          have hat2 : WAt l (k + 1) (k + 1) (ds ++ [X]) := by
            rw [← hX]
            by_cases hlt : k < l.length
            · exact hat.cut hlt (Classical.byContradiction fun h => hsk ⟨hlt, h⟩)
            · obtain rfl : k = l.length := by omega
              exact hat.last
          obtain ⟨A0, cp0, rfl, _⟩ := own_len hown
          have H1 := Lib.hid (And.intro hat2 (And.intro hcs (And.intro hc100 (And.intro hown hfr))))
          have HC := Lib.hid (column_any X wr hXl)
          have hlk : k < l.length → l[k]? = some 32 := fun hlt => by
            rw [List.getElem?_eq_getElem hlt]
            exact congrArg some (Classical.byContradiction fun h => hsk ⟨hlt, h⟩)
          have HK := Lib.hid hlk
          clear hat hat2 hcs hc100 hown hfr hX hsk hlk hXl
          obtain ⟨wB, hwB⟩ : ∃ wB, wB = wr := ⟨wr, rfl⟩
          subst hwB
          by_cases hlt : k < l.length
          · have hlt' : (k : Int) < l.length := by omega
            have hb : ∀ h, ((((ByteArray.mk l.toArray)[k]'h).toNat : Int) != 32) = false := fun h => by
              rw [bat_ (HK.out hlt) h]
              rfl
            go_wp2_with fail
            refine HC.out.mono ?_
            rintro e w2 ⟨x, rfl, hx2, hf2⟩
            have HF := Lib.hid (fr_two H1.out.2.2.2.2 hf2)
            have HO := Lib.hid (own_fr H1.out.2.2.2.1 hf2 (fun _ _ h => h))
            have HX := Lib.hid hx2
            have hbw : w.heap.size ≤ w2.heap.size := HF.out.size
            clear hf2 hx2
            obtain ⟨c, hc⟩ : ∃ c, colP X = c := ⟨_, rfl⟩
            rw [hc] at HX ⊢
            cases c with
            | none =>
              have HP := Lib.hid (show planP l = none from by
                obtain ⟨r, hr⟩ := H1.out.1.pre
                exact planP_bad HL0.out hr H1.out.2.1 (.inl hc))
              clear hc
              go_wp2
              go_ret2
              exact ⟨none, 0, [], false, rfl, Nat.le_refl _, Nat.zero_le _, .inl rfl, .inr ⟨HP.out, rfl, rfl⟩, HF.out.alloc _⟩
            | some y =>
              obtain rfl : y = x := HX.out y rfl
              by_cases h100 : 100 ≤ cs.length
              · have HP := Lib.hid (show planP l = none from by
                  obtain ⟨r, hr⟩ := H1.out.1.pre
                  exact planP_bad HL0.out hr H1.out.2.1 (.inr h100))
                have h100' : (100 : Int) ≤ cs.length := by omega
                clear hc
                go_wp2
                go_ret2
                exact ⟨none, 0, [], false, rfl, Nat.le_refl _, Nat.zero_le _, .inl rfl, .inr ⟨HP.out, rfl, rfl⟩, HF.out.alloc _⟩
              · have h100' : ¬ (100 : Int) ≤ cs.length := by omega
                obtain ⟨v2, w3, happ, hown3, hfr3⟩ := app_one (P := Tryd.prog) (T := 29) Tryd.underlying29 infoCol rfl (by omega) ((HO.out.alloc (.cells #[.int .i64 y.k, .int .i64 y.c] 43)).alloc (.cells #[.int .i64 y.k, .int .i64 y.c] 43)) (Blk.new _ 43 #[.int .i64 y.k, .int .i64 y.c]) rfl (by simp [Value.oneCell']) (by unfold maxLen; omega) (by omega) (by simp; omega)
                rw [show (w2.alloc (.cells #[.int .i64 y.k, .int .i64 y.c] 43)).heap.size = w2.heap.size + 1 from by simp] at happ
                have H3 := Lib.hid (And.intro (show (ds ++ [X]).mapM colP = some (cs ++ [y]) from by rw [mapM_snoc H1.out.2.1, hc]; rfl) (And.intro (show w3.ownsRow w.heap.size 43 2 v2 (cs ++ [y]).length ((cs ++ [y]).flatMap cellsK) from by rw [flatK_snoc, List.length_append]; exact hown3) (hfr3 w ((HF.out.alloc _).alloc _) (Nat.le_refl _))))
                clear hown3 hfr3 hc
                go_wp2
                go_roundw
                case rel => exact ⟨_, _, ds ++ [X], cs ++ [y], by omega, (by go_num), (by go_num), H1.out.1, H3.out.1, by rw [List.length_append, List.length_singleton]; omega, H3.out.2.1, H3.out.2.2⟩
                case measure => simp [intOf]; omega
          · obtain rfl : k = l.length := by omega
            go_wp2_with fail
            refine HC.out.mono ?_
            rintro e w2 ⟨x, rfl, hx2, hf2⟩
            have HF := Lib.hid (fr_two H1.out.2.2.2.2 hf2)
            have HO := Lib.hid (own_fr H1.out.2.2.2.1 hf2 (fun _ _ h => h))
            have HX := Lib.hid hx2
            have hbw : w.heap.size ≤ w2.heap.size := HF.out.size
            clear hf2 hx2
            obtain ⟨c, hc⟩ : ∃ c, colP X = c := ⟨_, rfl⟩
            rw [hc] at HX ⊢
            cases c with
            | none =>
              have HP := Lib.hid (show planP l = none from by
                obtain ⟨r, hr⟩ := H1.out.1.pre
                exact planP_bad HL0.out hr H1.out.2.1 (.inl hc))
              clear hc
              go_wp2
              go_ret2
              exact ⟨none, 0, [], false, rfl, Nat.le_refl _, Nat.zero_le _, .inl rfl, .inr ⟨HP.out, rfl, rfl⟩, HF.out.alloc _⟩
            | some y =>
              obtain rfl : y = x := HX.out y rfl
              by_cases h100 : 100 ≤ cs.length
              · have HP := Lib.hid (show planP l = none from by
                  obtain ⟨r, hr⟩ := H1.out.1.pre
                  exact planP_bad HL0.out hr H1.out.2.1 (.inr h100))
                have h100' : (100 : Int) ≤ cs.length := by omega
                clear hc
                go_wp2
                go_ret2
                exact ⟨none, 0, [], false, rfl, Nat.le_refl _, Nat.zero_le _, .inl rfl, .inr ⟨HP.out, rfl, rfl⟩, HF.out.alloc _⟩
              · have h100' : ¬ (100 : Int) ≤ cs.length := by omega
                obtain ⟨v2, w3, happ, hown3, hfr3⟩ := app_one (P := Tryd.prog) (T := 29) Tryd.underlying29 infoCol rfl (by omega) ((HO.out.alloc (.cells #[.int .i64 y.k, .int .i64 y.c] 43)).alloc (.cells #[.int .i64 y.k, .int .i64 y.c] 43)) (Blk.new _ 43 #[.int .i64 y.k, .int .i64 y.c]) rfl (by simp [Value.oneCell']) (by unfold maxLen; omega) (by omega) (by simp; omega)
                rw [show (w2.alloc (.cells #[.int .i64 y.k, .int .i64 y.c] 43)).heap.size = w2.heap.size + 1 from by simp] at happ
                have H3 := Lib.hid (And.intro (show (ds ++ [X]).mapM colP = some (cs ++ [y]) from by rw [mapM_snoc H1.out.2.1, hc]; rfl) (And.intro (show w3.ownsRow w.heap.size 43 2 v2 (cs ++ [y]).length ((cs ++ [y]).flatMap cellsK) from by rw [flatK_snoc, List.length_append]; exact hown3) (hfr3 w ((HF.out.alloc _).alloc _) (Nat.le_refl _))))
                clear hown3 hfr3 hc
                go_wp2
                go_roundw
                case rel => exact ⟨_, _, ds ++ [X], cs ++ [y], by omega, (by go_num), (by go_num), H1.out.1, H3.out.1, by rw [List.length_append, List.length_singleton]; omega, H3.out.2.1, H3.out.2.2⟩
                case measure => first | (simp [intOf]; done) | (simp [intOf]; omega)
      · obtain rfl : k = l.length + 1 := by omega
        have hds := hat.done (by omega)
        subst hds
        obtain ⟨A, cap, rfl, h1, h2, h3⟩ := rowC_of_own hown
        have H := Lib.hid (And.intro h1 (And.intro h2 (And.intro h3 (And.intro (planP_all HL0.out hcs hc100) hfr))))
        clear hown hfr hat hcs hc100 h1 h2 h3
        go_wp2
        go_ret2
        exact ⟨A, cap, cs, true, rfl, H.out.1, H.out.2.1, H.out.2.2.1, .inl ⟨H.out.2.2.2.1, rfl⟩, H.out.2.2.2.2⟩
end Go.Proofs.YtibailpbjdfjfaaDoor
