/-
  Contracts of package plan: Parse; the plan laws' awake.
-/
import Derived.Test.YtibailpbjdfjfaaDoorPlnH
namespace Go.Viv
open Go.Lib Go.RowKit
/-- The words of a text, parted at single blanks. -/
def wordsB (l : List UInt8) : List (List UInt8) := (Lib.splitB ⟨#[32]⟩ 0 (Lib.countB ⟨l.toArray⟩ ⟨#[32]⟩) ⟨l.toArray⟩).map (·.data.toList)
theorem words_str (l : List UInt8) : ((Lib.splitB ⟨#[32]⟩ 0 (Lib.countB ⟨l.toArray⟩ ⟨#[32]⟩) ⟨l.toArray⟩).map Value.string) = cellsW (wordsB l) := by
  unfold cellsW wordsB
  rw [List.map_map]
  apply List.map_congr_left
  intro x _
  simp
theorem words_len (l : List UInt8) : (wordsB l).length = Lib.countB ⟨l.toArray⟩ ⟨#[32]⟩ + 1 := by
  unfold wordsB
  rw [List.length_map]
  exact Lib.splitB_all ⟨#[32]⟩ (by decide) 0 _ _ rfl
theorem words_wds (l : List UInt8) : wordsB l = wds 32 l := by
  unfold wordsB
  rw [Lib.splitB_data, ← split_wds]
  rfl
theorem glue_len (p : List UInt8) (ws : List (List UInt8)) (n : Nat) (hp : p.length + n ≤ n + p.length) (h : ∀ x ∈ ws, x.length ≤ n) : ∀ x ∈ glue p ws, x.length ≤ n + p.length := by
  intro x hx
  cases ws with
  | nil => simp [glue] at hx; subst hx; omega
  | cons y r =>
    simp [glue] at hx
    rcases hx with rfl | hx
    · have := h y (by simp); simp; omega
    · have := h x (by simp [hx]); omega
theorem wds_each (b : UInt8) : ∀ l : List UInt8, ∀ x ∈ wds b l, x.length ≤ l.length
  | [], x, hx => by simp [wds] at hx; subst hx; simp
  | c :: r, x, hx => by
    have ih := wds_each b r
    unfold wds at hx
    split at hx
    · rcases List.mem_cons.1 hx with rfl | hx
      · simp
      · have := ih x hx; simp; omega
    · have := glue_len [c] (wds b r) r.length (by omega) ih x hx
      simpa using this
theorem mapM_step {ws : List (List UInt8)} {k : Nat} (hk : k < ws.length) {ds : List Coln} (h : (ws.take k).mapM colP = some ds) : (ws.take (k + 1)).mapM colP = (colP ws[k]).map (fun x => ds ++ [x]) := by
  rw [List.take_succ_eq_append_getElem hk, List.mapM_append, h]
  cases hc : colP ws[k] with
  | none => simp [hc]
  | some x => simp [hc]
theorem mapM_none {ws : List (List UInt8)} {k : Nat} (hk : k < ws.length) {ds : List Coln} (h : (ws.take k).mapM colP = some ds) (hc : colP ws[k] = none) : ws.mapM colP = none := by
  have h1 := mapM_step hk h
  rw [hc] at h1
  rw [← List.take_append_drop (k + 1) ws, List.mapM_append, h1]
  rfl
theorem mapM_len {ws : List (List UInt8)} {ds : List Coln} (h : ws.mapM colP = some ds) : ds.length = ws.length := by
  have := mapM_text ws ds h
  rw [← this, List.length_map]
theorem flatK_snoc (ds : List Coln) (x : Coln) : (ds ++ [x]).flatMap cellsK = ds.flatMap cellsK ++ [.int .i64 x.k, .int .i64 x.c] := by simp [cellsK]
/-- What Parse answers. -/
def ParseA (l : List UInt8) (w : World) (e : Ending) (w' : World) : Prop := ∃ A cap p er, e = .returned (.tuple #[.slice A p.length cap, .int .i64 er]) ∧ p.length ≤ cap ∧ cap ≤ maxLen ∧ RowC w' A (p.flatMap cellsK) ∧ ((planP l = some p ∧ er = 0) ∨ (planP l = none ∧ p = [] ∧ er = 16)) ∧ Fr (fun _ => False) w w'
end Go.Viv
namespace Go.Proofs.YtibailpbjdfjfaaDoor
open Go.RowKit Go.Viv
attribute [local go_sem ↓] wp_appendV
theorem split_any (l : List UInt8) (w : World) (he : EnvP w) (hl : l.length < 4294967281) : Calls Tryd.prog 21 #[str l, .string ⟨#[32]⟩] w fun e w' => e = .returned (.slice (some ⟨w.heap.size, 0, none⟩) (wds 32 l).length (wds 32 l).length) ∧ w' = w.alloc (.cells (cellsW (wds 32 l)).toArray 9) := by
  obtain ⟨m, hm⟩ := he.max
  have h := Tryd.strings_Split ⟨l.toArray⟩ ⟨#[32]⟩ m w (by rw [size_str]; exact hl) hm (by decide)
  rw [words_str, ← words_len, words_wds] at h
  exact h
set_option maxRecDepth 100000 in
set_option maxHeartbeats 1000000 in
theorem planParse_any (l : List UInt8) (w : World) (he : EnvP w) (hl : l.length < 4294967281) : Calls Tryd.prog 13 #[str l] w (ParseA l w) := by
  cases l with
  | nil =>
    go_enter Tryd.func13, Tryd.ntmps13
    go_wp2
    go_ret2
    exact ⟨none, 0, [], 0, rfl, Nat.le_refl _, Nat.zero_le _, .inl rfl, .inl ⟨rfl, rfl⟩, Fr.refl _ _⟩
  | cons c d =>
    have HE := Lib.hid he
    have HS := Lib.hid (split_any (c :: d) w he hl)
    have HW := Lib.hid (wds_each 32 (c :: d))
    have HP := Lib.hid (show planP (c :: d) = if 100 < (wds 32 (c :: d)).length then none else (wds 32 (c :: d)).mapM colP from by unfold planP; rw [if_neg (by simp)])
    have hwl := wds_len 32 (c :: d)
    have HL := Lib.hid hl
    obtain ⟨ws, hws⟩ : ∃ ws, wds 32 (c :: d) = ws := ⟨_, rfl⟩
    rw [hws] at HS HW HP hwl
    obtain ⟨n, hnl⟩ : ∃ n, ws.length = n := ⟨_, rfl⟩
    have HN := Lib.hid hnl
    rw [hnl] at HS HP hwl
    obtain ⟨L, hL⟩ : ∃ L, (c :: d) = L := ⟨_, rfl⟩
    rw [hL] at HS HW HP HL hwl hl ⊢
    have hne : (L == []) = false := by rw [← hL]; rfl
    have hne2 : ¬ L = [] := by rw [← hL]; simp
    clear he hws hnl hL
    by_cases h100 : 100 < n
    · have h100' : (100 : Int) < n := by omega
      have HPP := Lib.hid (show planP L = none from by rw [HP.out, if_pos h100])
      go_enter Tryd.func13, Tryd.ntmps13
      go_wp2_with fail
      refine HS.out.mono ?_
      rintro e w1 ⟨rfl, rfl⟩
      go_wp2
      go_ret2
      exact ⟨none, 0, [], 16, rfl, Nat.le_refl _, Nat.zero_le _, .inl rfl, .inr ⟨HPP.out, rfl, rfl⟩, Fr.alloc1 _ _ _⟩
    · have h100' : (n : Int) ≤ 100 := by omega
      have hle : n ≤ 100 := by omega
      have HPP := Lib.hid (show planP L = ws.mapM colP from by rw [HP.out, if_neg h100])
      clear h100
      go_enter Tryd.func13, Tryd.ntmps13
      go_wp2_with fail
      refine HS.out.mono ?_
      rintro e w1 ⟨rfl, hw1⟩
      have hb1 : Blk w1 w.heap.size 9 (cellsW ws).toArray := by rw [hw1]; exact Blk.new _ _ _
      have hf1 : Fr (fun _ => False) w w1 := by rw [hw1]; exact Fr.alloc1 _ _ _
      have H1 := Lib.hid (And.intro hb1 hf1)
      clear hw1 hb1 hf1
      obtain ⟨g, hg⟩ : ∃ g, w.heap.size = g := ⟨_, rfl⟩
      have HG := Lib.hid hg
      rw [hg] at H1 ⊢
      clear hg
      go_wp2_with fail
      go_loopw [5, 7, 8, 9, 19] (fun v _ _ _ t wr => ∃ (k : Nat) (ds : List Coln), k ≤ n ∧ t = .int .i64 k ∧ (ws.take k).mapM colP = some ds ∧ ds.length ≤ k ∧ wr.ownsRow w1.heap.size 43 2 v ds.length (ds.flatMap cellsK) ∧ Fr (fun _ => False) w1 wr) (fun _ _ _ _ t _ => n - (intOf t).toNat)
      case atStart => exact ⟨0, [], by omega, rfl, rfl, by simp, World.ownsRow_nil _ _ _ _, Fr.refl _ _⟩
      case round =>
        obtain ⟨k, ds, hk, rfl, hmap, hdk, hown, hfr⟩ := hrel
        by_cases hlt : k < n
        · have hkl : k < ws.length := by rw [HN.out]; exact hlt
          have hcell : wr.cell? ⟨g, k, none⟩ = some (str ws[k]) := by
            rw [(H1.out.1.fr hfr (fun h => h)).cell k]
            simp [cellsW, hkl]
          have hs := mapM_step hkl hmap
          have hs0 := mapM_none hkl hmap
          have hxl := HW.out ws[k] (List.getElem_mem hkl)
          obtain ⟨x, hx⟩ : ∃ x, ws[k] = x := ⟨_, rfl⟩
          rw [hx] at hcell hs hs0 hxl
          have HC := Lib.hid (col_any x wr (HE.out.fr (fr_two H1.out.2 hfr)) (by have := HL.out; omega))
          have ltg : g < wr.heap.size := lt_cell hcell
          have HX := Lib.hid (And.intro hs (And.intro hs0 (And.intro hown hfr)))
          clear hs hs0 hown hfr hx hkl hmap hxl
          obtain ⟨wB, hwB⟩ : ∃ wB, wB = wr := ⟨wr, rfl⟩
          subst hwB
          go_wp2_with fail
          refine HC.out.mono ?_
          rintro e w2 ⟨y, rfl, hy, hf2⟩
          have HY := Lib.hid hy
          cases hc : colP x with
          | none =>
            have HNO := Lib.hid (HX.out.2.1 hc)
            have H2 := Lib.hid hf2
            clear hc hy hf2
            go_wp2
            go_ret2
            exact ⟨none, 0, [], 16, rfl, Nat.le_refl _, Nat.zero_le _, .inl rfl, .inr ⟨by rw [HPP.out]; exact HNO.out, rfl, rfl⟩, (fr_two (fr_two H1.out.2 HX.out.2.2.2) H2.out).alloc _⟩
          | some z =>
            obtain rfl := hy z hc
            have hs := HX.out.1
            rw [hc] at hs
            have hf3 : Fr (fun _ => False) w1 (w2.alloc (.cells #[.int .i64 z.k, .int .i64 z.c] 43)) := (fr_two HX.out.2.2.2 hf2).alloc _
            obtain ⟨v2, w3, happ, hown3, hfr3⟩ := app_one (P := Tryd.prog) (T := 29) Tryd.underlying29 infoCol rfl (by omega) ((own_fr HX.out.2.2.1 (hf2.alloc (.cells #[.int .i64 z.k, .int .i64 z.c] 43)) (fun _ _ h => h)).alloc (.cells #[.int .i64 z.k, .int .i64 z.c] 43)) (Blk.new _ 43 #[.int .i64 z.k, .int .i64 z.c]) rfl (by simp [Value.oneCell']) (by unfold maxLen; omega) (by omega) (by have := hf3.size; simp at this ⊢; omega)
            rw [show (w2.alloc (.cells #[.int .i64 z.k, .int .i64 z.c] 43)).heap.size = w2.heap.size + 1 from by simp] at happ
            have H3 := Lib.hid (And.intro hs (And.intro hown3 (hfr3 w1 (hf3.alloc _) (Nat.le_refl _))))
            clear hown3 hfr3 hf3 hf2 hcell hs hc hy
            go_wp2
            go_roundw
            case rel => exact ⟨k + 1, ds ++ [z], by omega, by go_num, H3.out.1, by simp; omega, by rw [flatK_snoc, List.length_append]; exact H3.out.2.1, H3.out.2.2⟩
            case measure => simp [intOf]; omega
        · obtain rfl : k = n := by omega
          obtain ⟨A2, cap2, rfl, h1, h2, h3⟩ := rowC_of_own hown
          have HF := Lib.hid (And.intro (show planP L = some ds from by rw [HPP.out, ← hmap, List.take_of_length_le (by rw [HN.out]; exact Nat.le_refl _)]) (And.intro hfr (And.intro h1 (And.intro h2 h3))))
          clear hown hfr h1 h2 h3 hmap
          go_wp2
          go_ret2
          exact ⟨A2, cap2, ds, 0, rfl, HF.out.2.2.1, HF.out.2.2.2.1, HF.out.2.2.2.2, .inl ⟨HF.out.1, rfl⟩, fr_two H1.out.2 HF.out.2.1⟩
end Go.Proofs.YtibailpbjdfjfaaDoor
