/-
  The words of a text, the instructions' names, a register's word: the document's own ways.
-/
import Derived.Test.YtadnbkjjdkgfiaaDoorTxtA
import Derived.Test.YtadnbkjjdkgfiaaDoorValTC
import Derived.Test.YtadnbkjjdkgfiaaDoorAt
namespace Go.Viv
open Go.Lib Go.Proofs.YtadnbkjjdkgfiaaDoor Go.RowKit
/-- How far a text's words are parted. -/
def WAt (l : List UInt8) (k f : Nat) (ds : List (List UInt8)) : Prop :=
  (k ≤ l.length ∧ f ≤ k ∧ wds 32 l = ds ++ wds 32 (l.drop f) ∧ (32 : UInt8) ∉ (l.drop f).take (k - f)) ∨ (k = l.length + 1 ∧ f = l.length + 1 ∧ ds = wds 32 l)
theorem WAt.start (l : List UInt8) : WAt l 0 0 [] := .inl ⟨Nat.zero_le _, Nat.le_refl _, by simp, by simp⟩
theorem WAt.skip {l : List UInt8} {k f : Nat} {ds : List (List UInt8)} (h : WAt l k f ds) (hk : k < l.length) (hc : l[k] ≠ 32) : WAt l (k + 1) f ds := by
  rcases h with ⟨h1, h2, h3, h4⟩ | ⟨h1, _, _⟩
  · refine .inl ⟨hk, by omega, h3, ?_⟩
    rw [show k + 1 - f = (k - f) + 1 by omega, List.take_add_one, List.getElem?_drop, show f + (k - f) = k by omega, List.getElem?_eq_getElem hk]
    simp only [Option.toList_some, List.mem_append, List.mem_singleton, not_or]
    exact ⟨h4, fun h => hc h.symm⟩
  · omega
theorem WAt.cut {l : List UInt8} {k f : Nat} {ds : List (List UInt8)} (h : WAt l k f ds) (hk : k < l.length) (hc : l[k] = 32) : WAt l (k + 1) (k + 1) (ds ++ [(l.drop f).take (k - f)]) := by
  rcases h with ⟨h1, h2, h3, h4⟩ | ⟨h1, _, _⟩
  · refine .inl ⟨hk, Nat.le_refl _, ?_, by simp⟩
    have e : l.drop f = (l.drop f).take (k - f) ++ 32 :: l.drop (k + 1) := by
      conv => lhs; rw [← List.take_append_drop (k - f) (l.drop f)]
      rw [List.drop_drop, show f + (k - f) = k by omega, List.drop_eq_getElem_cons hk, hc]
    rw [h3]
    conv => lhs; rw [e]
    rw [wds_more 32 _ _ h4, List.append_assoc]
    rfl
  · omega
theorem WAt.last {l : List UInt8} {f : Nat} {ds : List (List UInt8)} (h : WAt l l.length f ds) : WAt l (l.length + 1) (l.length + 1) (ds ++ [(l.drop f).take (l.length - f)]) := by
  rcases h with ⟨h1, h2, h3, h4⟩ | ⟨h1, _, _⟩
  · refine .inr ⟨rfl, rfl, ?_⟩
    have e : (l.drop f).take (l.length - f) = l.drop f := List.take_of_length_le (by simp)
    rw [e] at h4 ⊢
    rw [h3, wds_word 32 _ h4]
  · omega
theorem WAt.len {l : List UInt8} {k f : Nat} {ds : List (List UInt8)} (h : WAt l k f ds) : ds.length ≤ l.length + 1 := by
  have hl := wds_len 32 l
  rcases h with ⟨_, _, h3, _⟩ | ⟨_, _, h3⟩
  · rw [h3, List.length_append] at hl; omega
  · rw [h3]; exact hl
theorem WAt.le {l : List UInt8} {k f : Nat} {ds : List (List UInt8)} (h : WAt l k f ds) (hk : k ≤ l.length) : f ≤ k := by
  rcases h with ⟨_, h2, _, _⟩ | ⟨h1, _, _⟩
  · exact h2
  · omega
theorem WAt.done {l : List UInt8} {k f : Nat} {ds : List (List UInt8)} (h : WAt l k f ds) (hk : l.length < k) : ds = wds 32 l := by
  rcases h with ⟨h1, _, _, _⟩ | ⟨_, _, h3⟩
  · omega
  · exact h3
theorem ext_list (l : List UInt8) (a b : Nat) : (ByteArray.mk l.toArray).extract a b = ⟨((l.drop a).take (b - a)).toArray⟩ := ba_ext (by rw [Lib.extract_data, data_str])
theorem cells_snoc (ds : List (List UInt8)) (x : List UInt8) : cellsW (ds ++ [x]) = cellsW ds ++ [str x] := by simp [cellsW]
/-- The names, behind one another. -/
def nameCells : Array Value := (cellsW ((List.range' 1 18).map nameAt)).toArray
theorem name_cell {j : Nat} (h : j < 18) : nameCells[j]? = some (str (nameAt (j + 1))) := by
  unfold nameCells cellsW
  simp only [List.getElem?_toArray, List.getElem?_map]
  rw [List.getElem?_range' h]
  simp [Nat.add_comm]
/-- The register of a word; below nought: it is none. -/
def regN (l : List UInt8) : Int := (regW l).getD (-1)
end Go.Viv
namespace Go.Proofs.YtadnbkjjdkgfiaaDoor
open Go.RowKit Go.Viv
attribute [local go_sem ↓] wp_appendV
set_option maxRecDepth 100000 in
set_option maxHeartbeats 1000000 in
theorem words_any (l : List UInt8) (w : World) (hl : l.length < 4294967281) : Calls Tryd.prog 57 #[str l] w fun e w' => ∃ A cap, e = .returned (.slice A (wds 32 l).length cap) ∧ (wds 32 l).length ≤ cap ∧ cap ≤ maxLen ∧ RowC w' A (cellsW (wds 32 l)) ∧ Fr (fun _ => False) w w' := by
  have HLL := Lib.hid hl
  have hl' : l.length ≤ 281474976710656 := by omega
  clear hl
  go_enter Tryd.func57, Tryd.ntmps57
  go_wp2
  go_loopw [3, 4, 5] (fun v u t wr => ∃ (k f : Nat) (ds : List (List UInt8)), k ≤ l.length + 1 ∧ t = .int .i64 k ∧ u = .int .i64 f ∧ WAt l k f ds ∧ wr.ownsRow w.heap.size 9 1 v ds.length (cellsW ds) ∧ Fr (fun _ => False) w wr) (fun _ _ t _ => l.length + 1 - (intOf t).toNat)
  case atStart => exact ⟨0, 0, [], by omega, rfl, rfl, WAt.start l, World.ownsRow_nil _ _ _ _, Fr.refl _ _⟩
  case round =>
    obtain ⟨k, f, ds, hk, rfl, rfl, hat, hown, hfr⟩ := hrel
    by_cases hle : k ≤ l.length
    · have hle' : (k : Int) ≤ l.length := by omega
      have hfk := hat.le hle
      have hfk' : (f : Int) ≤ k := by omega
      have hdl := hat.len
      by_cases hlt : k < l.length
      · have hlt' : (k : Int) < l.length := by omega
        have hne : ((k : Int) == (l.length : Int)) = false := beq_eq_false_iff_ne.2 (by omega)
        have hne2 : (k == l.length) = false := beq_eq_false_iff_ne.2 (by omega)
        by_cases hc : l[k] = 32
        · have hb : ((((ByteArray.mk l.toArray)[k]'(by rw [size_str]; exact hlt)).toNat : Int) == 32) = true := by
            show ((((l[k]).toNat : Nat) : Int) == 32) = true
            rw [hc]; rfl
          have hx := ext_list l f k
          obtain ⟨X, hX⟩ : ∃ X, (l.drop f).take (k - f) = X := ⟨_, rfl⟩
          have hat2 := hat.cut hlt hc
          rw [hX] at hx hat2
          obtain ⟨v2, wB, happ2, hown2, hfr2⟩ := app_one (P := Tryd.prog) (T := 37) Tryd.underlying37 info9 rfl (by omega) (hown.alloc (.cells #[str X] 9)) (Blk.new wr 9 #[str X]) rfl (by simp [Value.oneCell']) (by have := HLL.out; unfold maxLen; omega) (by have := HLL.out; omega) (by have := hfr.size; simp; omega)
          have H2 := Lib.hid (And.intro hat2 (And.intro (show wB.ownsRow w.heap.size 9 1 v2 (ds ++ [X]).length (cellsW (ds ++ [X])) from by rw [cells_snoc, List.length_append]; simpa using hown2) (hfr2 w (hfr.alloc _) (Nat.le_refl _))))
          clear hown2 hfr2 hat hat2 hown hfr hX hc
          go_wp2
          go_roundw
          case rel => exact ⟨k + 1, k + 1, ds ++ [X], by omega, by go_num, by go_num, H2.out.1, H2.out.2.1, H2.out.2.2⟩
          case measure => simp [intOf]; omega
        · have hb : ((((ByteArray.mk l.toArray)[k]'(by rw [size_str]; exact hlt)).toNat : Int) == 32) = false := by
            show ((((l[k]).toNat : Nat) : Int) == 32) = false
            refine beq_eq_false_iff_ne.2 (fun h1 => hc ?_)
            exact UInt8.toNat.inj (by show l[k].toNat = 32; omega)
          have H2 := Lib.hid (And.intro (hat.skip hlt hc) (And.intro hown hfr))
          clear hat hown hfr hc
          go_wp2
          go_roundw
          case rel => exact ⟨k + 1, f, ds, by omega, by go_num, rfl, H2.out.1, H2.out.2.1, H2.out.2.2⟩
          case measure => simp [intOf]; omega
      · obtain rfl : k = l.length := by omega
        have hx := ext_list l f l.length
        obtain ⟨X, hX⟩ : ∃ X, (l.drop f).take (l.length - f) = X := ⟨_, rfl⟩
        have hat2 := hat.last
        rw [hX] at hx hat2
        obtain ⟨v2, wB, happ2, hown2, hfr2⟩ := app_one (P := Tryd.prog) (T := 37) Tryd.underlying37 info9 rfl (by omega) (hown.alloc (.cells #[str X] 9)) (Blk.new wr 9 #[str X]) rfl (by simp [Value.oneCell']) (by have := HLL.out; unfold maxLen; omega) (by have := HLL.out; omega) (by have := hfr.size; simp; omega)
        have H2 := Lib.hid (And.intro hat2 (And.intro (show wB.ownsRow w.heap.size 9 1 v2 (ds ++ [X]).length (cellsW (ds ++ [X])) from by rw [cells_snoc, List.length_append]; simpa using hown2) (hfr2 w (hfr.alloc _) (Nat.le_refl _))))
        clear hown2 hfr2 hat hat2 hown hfr hX
        go_wp2
        go_roundw
        case rel => exact ⟨l.length + 1, l.length + 1, ds ++ [X], by omega, by go_num, by go_num, H2.out.1, H2.out.2.1, H2.out.2.2⟩
        case measure => simp [intOf]
    · obtain rfl : k = l.length + 1 := by omega
      have hds := hat.done (by omega)
      subst hds
      obtain ⟨A, cap, rfl, h1, h2, h3⟩ := rowC_of_own hown
      have H := Lib.hid (And.intro h1 (And.intro h2 (And.intro h3 hfr)))
      clear hown hfr hat h1 h2 h3
      go_wp2
      go_ret
      exact ⟨A, cap, rfl, H.out.1, H.out.2.1, H.out.2.2.1, H.out.2.2.2⟩
theorem names_any (w : World) : Calls Tryd.prog 58 #[] w fun e w' => e = .returned (.slice (some ⟨w.heap.size, 0, none⟩) 18 18) ∧ w.alloc (.cells nameCells 9) = w' := by
  have e : nameCells = #[.string ⟨#[99, 111, 110, 115, 116]⟩, .string ⟨#[109, 111, 118, 101]⟩, .string ⟨#[97, 100, 100]⟩, .string ⟨#[115, 117, 98]⟩, .string ⟨#[109, 117, 108]⟩, .string ⟨#[100, 105, 118]⟩, .string ⟨#[103, 101, 116]⟩, .string ⟨#[103, 101, 116, 98]⟩, .string ⟨#[112, 117, 116]⟩, .string ⟨#[112, 117, 116, 98]⟩, .string ⟨#[114, 101, 115]⟩, .string ⟨#[115, 97, 118, 101]⟩, .string ⟨#[115, 107, 105, 112]⟩, .string ⟨#[107, 105, 108, 108]⟩, .string ⟨#[115, 112, 97, 119, 110]⟩, .string ⟨#[103, 105, 118, 101]⟩, .string ⟨#[100, 114, 111, 112]⟩, .string ⟨#[102, 97, 117, 108, 116]⟩] := by kernel_rfl
  rw [e]
  clear e
  go_enter Tryd.func58, Tryd.ntmps58
  go_wp2
  go_ret
  exact ⟨rfl, rfl⟩
theorem regn_any (l : List UInt8) (w : World) (hl : l.length ≤ 9223372036854775807) : Calls Tryd.prog 59 #[str l] w fun e w' => e = .returned (.int .i64 (regN l)) ∧ w = w' := by
  by_cases h2 : l.length = 2
  · match l, h2 with
    | [c, d], _ =>
      have e0 : ∀ h, (ByteArray.mk #[c, d])[0]'h = c := fun _ => rfl
      have e1 : ∀ h, (ByteArray.mk #[c, d])[1]'h = d := fun _ => rfl
      obtain ⟨b1, q1⟩ : ∃ b, ((c.toNat : Int) == 114) = b := ⟨_, rfl⟩
      obtain ⟨b2, q2⟩ : ∃ b, decide ((48 : Int) ≤ d.toNat) = b := ⟨_, rfl⟩
      obtain ⟨b3, q3⟩ : ∃ b, decide ((d.toNat : Int) ≤ 51) = b := ⟨_, rfl⟩
      have hr : regN [c, d] = if b1 && b2 && b3 then (d.toNat : Int) - 48 else -1 := by
        have hc : (c = 114) ↔ b1 = true := by
          rw [← q1, beq_iff_eq]
          exact ⟨fun h => by rw [h]; rfl, fun h => UInt8.toNat.inj (by show c.toNat = 114; omega)⟩
        have hd1 : (48 ≤ d.toNat) ↔ b2 = true := by rw [← q2, decide_eq_true_eq]; omega
        have hd2 : (d.toNat < 52) ↔ b3 = true := by rw [← q3, decide_eq_true_eq]; omega
        unfold regN regW
        simp only [hc, hd1, hd2]
        cases b1 <;> cases b2 <;> cases b3 <;> rfl
      have HR := Lib.hid hr
      clear hr hl
      cases b1
      · go_enter Tryd.func59, Tryd.ntmps59
        go_wp2
        go_ret
        exact ⟨by rw [HR.out]; rfl, rfl⟩
      · cases b2
        · go_enter Tryd.func59, Tryd.ntmps59
          go_wp2
          go_ret
          exact ⟨by rw [HR.out]; rfl, rfl⟩
        · cases b3
          · go_enter Tryd.func59, Tryd.ntmps59
            go_wp2
            go_ret
            exact ⟨by rw [HR.out]; rfl, rfl⟩
          · have g1 : (48 : Int) ≤ d.toNat := of_decide_eq_true q2
            have g2 : (d.toNat : Int) ≤ 51 := of_decide_eq_true q3
            go_enter Tryd.func59, Tryd.ntmps59
            go_wp2
            go_ret
            exact ⟨by rw [HR.out]; rfl, rfl⟩
  · have hb : ((l.length : Int) == 2) = false := beq_eq_false_iff_ne.2 (by omega)
    have hr : regN l = -1 := by
      unfold regN regW
      split
      · exact absurd rfl h2
      · rfl
    rw [hr]
    clear hr
    go_enter Tryd.func59, Tryd.ntmps59
    go_wp2
    go_ret
    exact ⟨rfl, rfl⟩
end Go.Proofs.YtadnbkjjdkgfiaaDoor
