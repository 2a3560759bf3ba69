/-
  Contracts of package code: Parse.
-/
import Derived.Test.YtadnbkjjdkgfiaaDoorCodF
import Derived.Test.YtadnbkjjdkgfiaaDoorCodG
namespace Go.Viv
open Go.Lib Go.Proofs.YtadnbkjjdkgfiaaDoor Go.RowKit

/-- The words of a text, parted at single blanks. -/
def wordsB (l : List UInt8) : List (List UInt8) := (Lib.splitB ⟨#[32]⟩ 0 (Lib.countB ⟨l.toArray⟩ ⟨#[32]⟩) ⟨l.toArray⟩).map (·.data.toList)
theorem words_str (l : List UInt8) : ((Lib.splitB ⟨#[32]⟩ 0 (Lib.countB ⟨l.toArray⟩ ⟨#[32]⟩) ⟨l.toArray⟩).map Value.string) = cellsW (wordsB l) := by
  unfold cellsW wordsB
  rw [List.map_map]
  apply List.map_congr_left
  intro x _
  simp
theorem words_len (l : List UInt8) : (wordsB l).length = Lib.countB ⟨l.toArray⟩ ⟨#[32]⟩ + 1 := by
  unfold wordsB
  rw [List.length_map]
  exact Lib.splitB_all ⟨#[32]⟩ (by decide) 0 _ _ rfl

def errI (r : Option Insn) : Int := if r.isSome then 0 else 16
/-- What an instruction's words come to. -/
def stepR (b : Bool) (ws : List (List UInt8)) : Option Int := if b then regW (ws.headD []) else some 0
def stepN (b : Bool) (ws : List (List UInt8)) : Option Int := if b then num (ws.headD []) else some 0
def stepW (b : Bool) (ws : List (List UInt8)) : List (List UInt8) := if b then ws.tail else ws
def parseX (k : Int) (x : Shp) (ws : List (List UInt8)) : Option Insn :=
  let r := stepR x.r ws
  let ws1 := stepW x.r ws
  let s := stepR x.s ws1
  let ws2 := stepW x.s ws1
  let n := stepN x.n ws2
  let ws3 := stepW x.n ws2
  if r.isSome && s.isSome && n.isSome && ws3.isEmpty then some ⟨k, r.getD 0, s.getD 0, n.getD 0⟩ else none
def parseI (ws : List (List UInt8)) : Option Insn := if nameIdx (ws.headD []) < 1 then none else
  match shapeTab[(nameIdx (ws.headD [])).toNat]? with
  | none => none
  | some x => parseX (nameIdx (ws.headD [])) x ws.tail

theorem nameFrom_range (l : List UInt8) : ∀ (xs : List Shp) (k : Nat), nameFrom l xs k = -1 ∨ ∃ j x, nameFrom l xs k = ((k + j : Nat) : Int) ∧ xs[j]? = some x
  | [], _ => .inl rfl
  | x :: r, k => by
    rw [nameFrom]
    split
    · exact .inr ⟨0, x, rfl, rfl⟩
    · rcases nameFrom_range l r (k + 1) with h | ⟨j, y, h1, h2⟩
      · exact .inl h
      · exact .inr ⟨j + 1, y, by rw [h1]; congr 1; omega, h2⟩
theorem name_range {l : List UInt8} (h : ¬ nameIdx l < 1) : ∃ (k : Nat) (x : Shp), nameIdx l = k ∧ 1 ≤ k ∧ k ≤ 18 ∧ shapeTab[k]? = some x := by
  unfold nameIdx at *
  rcases nameFrom_range l shapeTab 0 with h1 | ⟨j, x, h1, h2⟩
  · omega
  · rw [Nat.zero_add] at h1
    have hj : j < shapeTab.length := by
      rcases Nat.lt_or_ge j shapeTab.length with h3 | h3
      · exact h3
      · rw [List.getElem?_eq_none h3] at h2; cases h2
    have e : shapeTab.length = 19 := by decide
    exact ⟨j, x, h1, by omega, by omega, h2⟩
/-- Where a text's reading stands. -/
structure PSt (w wx : World) (P0 R T I : Nat) (ws : List (List UInt8)) (bad : Bool) (i : Insn) : Prop where
  fr : Fr (fun _ => False) w wx
  p0 : Blk wx P0 42 #[.int .i64 0, .int .i64 0, .int .i64 0, .int .i64 0]
  rd : RdIs wx R ws bad
  tab : Blk wx T 83 shapeCells
  ins : Blk wx I 42 #[.int .i64 i.op, .int .i64 i.r, .int .i64 i.s, .int .i64 i.n]
  ne : P0 ≠ R ∧ T ≠ R ∧ I ≠ R ∧ P0 ≠ I ∧ T ≠ I ∧ R < I
  lo : w.heap.size ≤ R ∧ w.heap.size ≤ I ∧ w.heap.size ≤ P0
theorem PSt.read {w wx w2 : World} {P0 R T I : Nat} {ws ws' : List (List UInt8)} {bad bad' : Bool} {i : Insn} (h : PSt w wx P0 R T I ws bad i) (hf : Fr (fun x => x = R) wx w2) (hr : RdIs w2 R ws' bad') : PSt w w2 P0 R T I ws' bad' i :=
  ⟨h.fr.trans hf (fun x hx => .inr (by rw [hx]; exact h.lo.1)), h.p0.fr hf h.ne.1, hr, h.tab.fr hf h.ne.2.1, h.ins.fr hf h.ne.2.2.1, h.ne, h.lo⟩
theorem PSt.put {w wx : World} {P0 R T I : Nat} {ws : List (List UInt8)} {bad : Bool} {i j : Insn} (h : PSt w wx P0 R T I ws bad i) (o : Nat) (v : Value)
    (hj : #[Value.int .i64 j.op, .int .i64 j.r, .int .i64 j.s, .int .i64 j.n] = (#[Value.int .i64 i.op, .int .i64 i.r, .int .i64 i.s, .int .i64 i.n] : Array Value).setIfInBounds o v) : PSt w (wx.setCell ⟨I, o, none⟩ v) P0 R T I ws bad j := by
  have hf : Fr (fun x => x = I) wx (wx.setCell ⟨I, o, none⟩ v) := fr_one _ _ _ _
  refine ⟨h.fr.trans hf (fun x hx => .inr (by rw [hx]; exact h.lo.2.1)), h.p0.fr hf h.ne.2.2.2.1, ?_, h.tab.fr hf h.ne.2.2.2.2.1, by rw [hj]; exact h.ins.set_ o v, h.ne, h.lo⟩
  obtain ⟨A, cap, h1, h2, h3, h4, h5⟩ := h.rd.is
  exact ⟨A, cap, h1.fr hf (Nat.ne_of_lt h.ne.2.2.2.2.2), h2, h3, h4.frS hf (fun a ha => Nat.ne_of_lt (Nat.lt_trans (h5 a ha) h.ne.2.2.2.2.2)), h5⟩
end Go.Viv
namespace Go.Proofs.YtadnbkjjdkgfiaaDoor
open Go.RowKit Go.Viv
/-- What Parse leans on. -/
structure EnvC (w : World) : Prop where
  env : Env w
  max : ∃ m, w.cell? ⟨0, 0, none⟩ = some (.int .i64 m)
theorem EnvC.fr {w w' : World} (h : EnvC w) (hf : Fr (fun _ => False) w w') : EnvC w' := by
  obtain ⟨m, hm⟩ := h.max
  exact ⟨h.env.fr hf, m, by rw [hf.cell (p := ⟨0, 0, none⟩) (by have := h.env.size; show 0 < _; omega) (fun h => h)]; exact hm⟩
theorem split_any (l : List UInt8) (w : World) (he : EnvC w) (hl : l.length < 4294967281) : Calls Tryd.prog 47 #[str l, .string ⟨#[32]⟩] w fun e w' => e = .returned (.slice (some ⟨w.heap.size, 0, none⟩) (wordsB l).length (wordsB l).length) ∧ w' = w.alloc (.cells (cellsW (wordsB l)).toArray 9) := by
  obtain ⟨m, hm⟩ := he.max
  have h := Tryd.strings_Split ⟨l.toArray⟩ ⟨#[32]⟩ m w (by rw [size_str]; exact hl) hm (by decide)
  rw [words_str, ← words_len] at h
  exact h
/-- Words no longer than the text. -/
structure WIn (l : List UInt8) (ws : List (List UInt8)) : Prop where
  all : ∀ x ∈ ws, x.length ≤ l.length
theorem WIn.head {l : List UInt8} {ws : List (List UInt8)} (h : WIn l ws) : (ws.headD []).length ≤ l.length := by
  cases ws with
  | nil => simp
  | cons x r => exact h.all x (by simp)
theorem WIn.step {l : List UInt8} {ws : List (List UInt8)} (h : WIn l ws) (b : Bool) : WIn l (stepW b ws) := by
  cases b
  · exact h
  · exact ⟨fun x hx => h.all x (List.mem_of_mem_tail hx)⟩
theorem split_le (sep : ByteArray) (n : Nat) : ∀ (k : Nat) (s : ByteArray), s.size ≤ n → ∀ x ∈ Lib.splitB sep 0 k s, x.size ≤ n
  | 0, s, h, x, hx => by
    rw [Lib.splitB_zero, List.mem_singleton] at hx
    rw [hx]; exact h
  | k + 1, s, h, x, hx => by
    unfold Lib.splitB at hx
    split at hx
    · rw [List.mem_singleton] at hx
      rw [hx]; exact h
    · rcases List.mem_cons.1 hx with rfl | hx
      · rw [ByteArray.size_extract]; omega
      · exact split_le sep n k _ (by rw [ByteArray.size_extract]; omega) x hx
theorem wordsIn (l : List UInt8) : WIn l (wordsB l) := ⟨fun x hx => by
  obtain ⟨y, hy, rfl⟩ := List.mem_map.1 hx
  have := split_le ⟨#[32]⟩ l.length _ ⟨l.toArray⟩ (by rw [size_str]; exact Nat.le_refl _) y hy
  rw [Array.length_toList]
  exact this⟩
theorem words_short (l : List UInt8) : (wordsB l).length ≤ l.length + 1 := by
  rw [words_len]
  have := Lib.countB_le ⟨#[32]⟩ (by decide) _ ⟨l.toArray⟩ (Nat.le_refl _)
  rw [size_str] at this
  omega

abbrev ParseRes (l : List UInt8) (w : World) (r : Option Insn) : Prop := Calls Tryd.prog 26 #[str l] w fun e w' => e = .returned (.tuple #[(r.getD ⟨0, 0, 0, 0⟩).agg, .int .i64 (errI r)]) ∧ Fr (fun _ => False) w w'

set_option maxRecDepth 100000 in
set_option maxHeartbeats 4000000 in
theorem cparse_any (l : List UInt8) (w : World) (he : EnvC w) (hl : l.length < 4294967281) : ParseRes l w (parseI (wordsB l)) := by
  have HE := Lib.hid he
  have HWI0 := Lib.hid (wordsIn l)
  have HWL2 := Lib.hid (fun ws (h : WIn l ws) => h.head)
  have HLL := Lib.hid hl
  have HWS := Lib.hid (words_short l)
  obtain ⟨ws, hws⟩ : ∃ ws, wordsB l = ws := ⟨_, rfl⟩
  have HS := Lib.hid (fun W (h : EnvC W) => show Calls Tryd.prog 47 #[str l, .string ⟨#[32]⟩] W fun e w' => e = .returned (.slice (some ⟨W.heap.size, 0, none⟩) ws.length ws.length) ∧ W.alloc (.cells (cellsW ws).toArray 9) = w' from by
    rw [← hws]; exact (split_any l W h hl).mono fun e w' ⟨h1, h2⟩ => ⟨h1, h2.symm⟩)
  have HNE := Lib.hid (show ws ≠ [] from fun h => by have := words_len l; rw [hws, h] at this; simp at this)
  rw [hws] at HWI0 HWS ⊢
  have HWI := HWI0
  have HR8 := Lib.hid (show 8 ≤ w.heap.size + 1 + 1 from by have := he.env.size; omega)
  clear he hl hws
  unfold ParseRes
  go_enter Tryd.func26, Tryd.ntmps26
  go_wp2_with fail
  refine (HS.out _ (HE.out.fr (Fr.alloc1 _ _ _))).mono ?_
  rintro e w1 ⟨rfl, rfl⟩
  go_wp2_with fail
  obtain ⟨W3, hW3⟩ : ∃ W3, W3 = ((w.alloc (.cells #[.int .i64 0, .int .i64 0, .int .i64 0, .int .i64 0] 42)).alloc (.cells (cellsW ws).toArray 9)).alloc (.cells #[.slice (some ⟨w.heap.size + 1, 0, none⟩) ws.length ws.length, .bool false] 79) := ⟨_, rfl⟩
  obtain ⟨R, hR⟩ : ∃ R, R = w.heap.size + 1 + 1 := ⟨_, rfl⟩
  have hsz : W3.heap.size = w.heap.size + 3 := by rw [hW3]; simp
  have hrd : RdIs W3 R ws false := by
    rw [hW3, hR]
    refine ⟨some ⟨w.heap.size + 1, 0, none⟩, ws.length, blk_at (by simp), Nat.le_refl _, by have := HLL.out; have := HWS.out; omega, ?_, fun a ha => by obtain rfl := Option.some.inj ha; show w.heap.size + 1 < w.heap.size + 1 + 1; omega⟩
    have := RowC.blk ((blk_at (W := w.alloc (.cells #[.int .i64 0, .int .i64 0, .int .i64 0, .int .i64 0] 42)) (L := w.heap.size + 1) (t := 9) (cs := (cellsW ws).toArray) (by simp)).alloc (.cells #[.slice (some ⟨w.heap.size + 1, 0, none⟩) ws.length ws.length, .bool false] 79))
    simpa using this
  have hp0 : Blk W3 w.heap.size 42 #[.int .i64 0, .int .i64 0, .int .i64 0, .int .i64 0] := by rw [hW3]; exact ((Blk.new _ _ _).alloc _).alloc _
  have hf0 : Fr (fun _ => False) w W3 := by rw [hW3]; exact ((Fr.alloc1 _ _ _).alloc _).alloc _
  rw [← hW3, ← hR]
  have H3 := Lib.hid (And.intro hrd (And.intro hp0 (And.intro hf0 (And.intro hsz hR))))
  clear hrd hp0 hf0 hsz hW3 hR
  refine (next_any R ws false W3 H3.out.1).mono ?_
  rintro e w2 ⟨rfl, hr2, hf2⟩
  rw [show (false || ws.isEmpty) = false from by cases ws with | nil => exact absurd rfl HNE.out | cons x r => rfl] at hr2
  obtain ⟨nm, hnm⟩ : ∃ nm, ws.headD [] = nm := ⟨_, rfl⟩
  rw [hnm]
  have HNM := Lib.hid hnm
  have H2 := Lib.hid (And.intro hr2 hf2)
  clear hr2 hf2 hnm
  go_wp2_with fail
  refine (shapes_any _).mono ?_
  rintro e w3 ⟨rfl, hf3⟩
  have HF3 := Lib.hid hf3
  clear hf3
  obtain ⟨C, hC⟩ : ∃ C, C = shapeCells := ⟨_, rfl⟩
  rw [← hC]
  have HC := Lib.hid hC
  clear hC
  have HI := Lib.hid (show (Tryd.prog.info? 83).map (·.size) = some C.size ∧ C.all (·.oneCell') = true ∧ (w3.alloc (.cells Tryd.zeroCells83 83)).there w3.heap.size 0 C.size from by rw [HC.out]; exact ⟨info83, shape_one, shape_there w3⟩)
  have HB := Lib.hid (show Blk ((w3.alloc (.cells Tryd.zeroCells83 83)).setCells w3.heap.size 0 C.toList) w3.heap.size 83 C ∧ Fr (fun _ => False) w3 ((w3.alloc (.cells Tryd.zeroCells83 83)).setCells w3.heap.size 0 C.toList) from by
    rw [HC.out]; exact ⟨shape_blk w3, setCells_fr _ w3 _ 0 (Fr.alloc1 _ _ _) (.inr (Nat.le_refl _))⟩)
  go_wp2_with (refine wpList_store_mid rfl 83 (.tmp 6) (.tmp 15) rfl w3.heap.size 0 C rfl rfl HI.out.2.2 HI.out.1 HI.out.2.1 ?_; revert HB; generalize (w3.alloc (.cells Tryd.zeroCells83 83)).setCells w3.heap.size 0 C.toList = W; intro HB)
  have hW : Fr (fun x => x = R) W3 W := fr_R H2.out.2 (fr_no_R (fr_two (Fr.alloc1 _ _ _) (fr_two HF3.out HB.out.2)))
  have hrdW : RdIs W R ws.tail false := H2.out.1.fr (fr_two (Fr.alloc1 _ _ _) (fr_two HF3.out HB.out.2))
  have hnmW : W.cell? ⟨w2.heap.size, 0, none⟩ = some (str nm) := ((Blk.new w2 9 #[str nm]).fr (fr_two HF3.out HB.out.2) (fun h => h)).cell 0
  have hsizes : R < w3.heap.size ∧ w3.heap.size < W.heap.size := ⟨by
    have h1 := H2.out.2.size
    have h2 := HF3.out.size
    have h3 := H3.out.2.2.2
    simp at h2
    omega, HB.out.1.lt⟩
  have HIX := Lib.hid (idx_any w3.heap.size w2.heap.size nm W (by rw [← HC.out]; exact HB.out.1) hnmW)
  have HW := Lib.hid (And.intro hW (And.intro hrdW hsizes))
  clear hW hrdW hnmW hsizes
  refine HIX.out.mono ?_
  rintro e W5 ⟨rfl, hf5⟩
  have HR8' := Lib.hid (show 8 ≤ R from by rw [H3.out.2.2.2.2]; exact HR8.out)
  have H5 := Lib.hid (show Fr (fun _ => False) w W5 ∧ Blk W5 w.heap.size 42 #[.int .i64 0, .int .i64 0, .int .i64 0, .int .i64 0] ∧ RdIs W5 R ws.tail false ∧ Blk W5 w3.heap.size 83 C ∧ R < w3.heap.size ∧ w3.heap.size < W5.heap.size ∧ w.heap.size + 1 + 1 = R from by
    have hR := H3.out.2.2.2.2
    refine ⟨fr_two (H3.out.2.2.1.trans HW.out.1 (fun x hx => .inr (by rw [hx, hR]; omega))) hf5, (H3.out.2.1.fr HW.out.1 (by omega)).fr hf5 (fun h => h), HW.out.2.1.fr hf5, HB.out.1.fr hf5 (fun h => h), HW.out.2.2.1, Nat.lt_of_lt_of_le HW.out.2.2.2 hf5.size, hR.symm⟩)
  clear hf5
  obtain ⟨K, hK⟩ : ∃ K, nameIdx nm = K := ⟨_, rfl⟩
  have HP := Lib.hid (show parseI ws = if K < 1 then none else match shapeTab[K.toNat]? with | none => none | some x => parseX K x ws.tail from by unfold parseI; rw [HNM.out, hK])
  rw [hK]
  by_cases hK1 : K < 1
  · have HP2 := Lib.hid (show parseI ws = none from by rw [HP.out, if_pos hK1])
    have hp0 := H5.out.2.1
    obtain ⟨c0, c1, c2, c3⟩ := blk4z hp0
    have f0 := Blk.frozen hp0 0
    have f1 := Blk.frozen hp0 1
    have f2 := Blk.frozen hp0 2
    have f3 := Blk.frozen hp0 3
    clear hp0 hK
    go_wp2
    refine bodyPost_ret (v := .tuple #[Insn.agg ⟨0, 0, 0, 0⟩, .int .i64 16]) (by simp [results, Tryd.results26, go_sem, c0, c1, c2, c3]) rfl ⟨by rw [HP2.out]; rfl, ?_⟩
    exact (((H5.out.1.setCell (p := ⟨w.heap.size, 0, none⟩) (.inr (Nat.le_refl _)) _).setCell (p := ⟨w.heap.size, 1, none⟩) (.inr (Nat.le_refl _)) _).setCell (p := ⟨w.heap.size, 2, none⟩) (.inr (Nat.le_refl _)) _).setCell (p := ⟨w.heap.size, 3, none⟩) (.inr (Nat.le_refl _)) _
  · obtain ⟨k, x, hk, hk1, hk18, hx⟩ := name_range (by rw [hK]; exact hK1)
    obtain rfl : K = (k : Int) := hK.symm.trans hk
    have HP2 := Lib.hid (show parseI ws = parseX k x ws.tail from by rw [HP.out, if_neg hK1]; simp only [Int.toNat_natCast, hx])
    obtain ⟨t0, t1, t2, t3, t4⟩ := tab_at k x hx
    rw [← HC.out] at t0 t1 t2 t3 t4
    have HT := Lib.hid (And.intro t0 (And.intro t1 (And.intro t2 (And.intro t3 t4))))
    have hk1' : (1 : Int) ≤ k := by omega
    have hk19' : (k : Int) < 19 := by omega
    clear hK hk hx t0 t1 t2 t3 t4 hK1
    obtain ⟨c0, c1, c2, c3, c4⟩ := blk5 H5.out.2.2.2.1 HT.out.1 HT.out.2.1 HT.out.2.2.1 HT.out.2.2.2.1 HT.out.2.2.2.2
    have lt := H5.out.2.2.2.2.2.1
    obtain ⟨xnm, xr, xs, xn, xu⟩ := x
    simp only at c1 c2 c3
    obtain ⟨wt, hwt⟩ : ∃ wt, ws.tail = wt := ⟨_, rfl⟩
    have h0 : PSt w (W5.alloc (.cells #[.int .i64 k, .int .i64 0, .int .i64 0, .int .i64 0] 42)) w.heap.size R w3.heap.size W5.heap.size wt false ⟨k, 0, 0, 0⟩ := by
      have h := H5.out
      rw [hwt] at h
      refine ⟨h.1.alloc _, h.2.1.alloc _, h.2.2.1.fr (Fr.alloc1 _ _ _), by rw [← HC.out]; exact h.2.2.2.1.alloc _, Blk.new _ _ _, ⟨by omega, by omega, by omega, by omega, by omega, by omega⟩, ⟨by omega, by omega, Nat.le_refl _⟩⟩
    rw [hwt] at HP2
    have H00 := Lib.hid h0
    have HW1 := Lib.hid (show WIn l wt from by rw [← hwt]; exact HWI.out.step true)
    clear h0 hwt
    rw [HC.out] at HT
    obtain ⟨q1, hq1⟩ : ∃ q, stepR xr wt = q := ⟨_, rfl⟩
    obtain ⟨wa, hwa⟩ : ∃ x, stepW xr wt = x := ⟨_, rfl⟩
    have HQ1 := Lib.hid (And.intro hq1 hwa)
    have HW2 := Lib.hid (show WIn l wa from by rw [← hwa]; exact HW1.out.step xr)
    clear hq1 hwa
    go_upto_if 27 with fail
    go_cut [] (fun wx => PSt w wx w.heap.size R w3.heap.size W5.heap.size wa q1.isNone ⟨k, q1.getD 0, 0, 0⟩)
    case first =>
      cases xr
      · have hq := HQ1.out
        simp only [stepR, stepW, Bool.false_eq_true, if_false] at hq
        obtain ⟨rfl, rfl⟩ := hq
        go_wp2_with fail
        go_meet
        exact by simpa using H00.out
      · go_wp2_with fail
        have hcall := reg_any R wt false _ H00.out.rd (Nat.le_trans (HWL2.out _ HW1.out) (by have := HLL.out; omega))
        unfold RegRes at hcall
        rw [show regW (wt.headD []) = q1 from HQ1.out.1] at hcall
        refine hcall.mono ?_
        rintro e w6 ⟨rfl, hr6, hf6⟩
        rw [show wt.tail = wa from HQ1.out.2] at hr6
        rw [Bool.false_or] at hcall
        have H6 := Lib.hid (H00.out.read hf6 hr6)
        have hb := H6.out.ins
        obtain ⟨d0, d1, d2, d3⟩ := blk4z hb
        have f1 := Blk.frozen hb 1
        clear hr6 hf6 hb hcall
        go_wp2_with fail
        go_meet
        exact by simpa using H6.out.put (j := ⟨k, q1.getD 0, 0, 0⟩) 1 (.int .i64 (q1.getD 0)) rfl
    case rest =>
      have H01 := Lib.hid hcut
      clear hcut
      obtain ⟨wD1, hwD1⟩ : ∃ wD, wD = wc := ⟨wc, rfl⟩
      subst hwD1
      obtain ⟨c0, c1, c2, c3, c4⟩ := blk5 H01.out.tab HT.out.1 HT.out.2.1 HT.out.2.2.1 HT.out.2.2.2.1 HT.out.2.2.2.2
      obtain ⟨q2, hq2⟩ : ∃ q, stepR xs wa = q := ⟨_, rfl⟩
      obtain ⟨wb, hwb⟩ : ∃ x, stepW xs wa = x := ⟨_, rfl⟩
      have HQ2 := Lib.hid (And.intro hq2 hwb)
      have HW3 := Lib.hid (show WIn l wb from by rw [← hwb]; exact HW2.out.step xs)
      clear hq2 hwb
      go_upto_if 34 with fail
      go_cut [] (fun wx => PSt w wx w.heap.size R w3.heap.size W5.heap.size wb (q1.isNone || q2.isNone) ⟨k, q1.getD 0, q2.getD 0, 0⟩)
      case first =>
        cases xs
        · have hq := HQ2.out
          simp only [stepR, stepW, Bool.false_eq_true, if_false] at hq
          obtain ⟨rfl, rfl⟩ := hq
          go_wp2_with fail
          go_meet
          exact by simpa using H01.out
        · go_wp2_with fail
          have hcall := reg_any R wa q1.isNone _ H01.out.rd (Nat.le_trans (HWL2.out _ HW2.out) (by have := HLL.out; omega))
          unfold RegRes at hcall
          rw [show regW (wa.headD []) = q2 from HQ2.out.1] at hcall
          refine hcall.mono ?_
          rintro e w6 ⟨rfl, hr6, hf6⟩
          rw [show wa.tail = wb from HQ2.out.2] at hr6
          have H6 := Lib.hid (H01.out.read hf6 hr6)
          have hb := H6.out.ins
          obtain ⟨d0, d1, d2, d3⟩ := blk4z hb
          have f1 := Blk.frozen hb 2
          clear hr6 hf6 hb hcall
          go_wp2_with fail
          go_meet
          exact by simpa using H6.out.put (j := ⟨k, q1.getD 0, q2.getD 0, 0⟩) 2 (.int .i64 (q2.getD 0)) rfl
      case rest =>
        have H02 := Lib.hid hcut
        clear hcut
        obtain ⟨wD2, hwD2⟩ : ∃ wD, wD = wc := ⟨wc, rfl⟩
        subst hwD2
        obtain ⟨c0, c1, c2, c3, c4⟩ := blk5 H02.out.tab HT.out.1 HT.out.2.1 HT.out.2.2.1 HT.out.2.2.2.1 HT.out.2.2.2.2
        obtain ⟨q3, hq3⟩ : ∃ q, stepN xn wb = q := ⟨_, rfl⟩
        obtain ⟨wc2, hwc2⟩ : ∃ x, stepW xn wb = x := ⟨_, rfl⟩
        have HQ3 := Lib.hid (And.intro hq3 hwc2)
        have HW4 := Lib.hid (show WIn l wc2 from by rw [← hwc2]; exact HW3.out.step xn)
        clear hq3 hwc2
        go_upto_if 41 with fail
        go_cut [] (fun wx => PSt w wx w.heap.size R w3.heap.size W5.heap.size wc2 (q1.isNone || q2.isNone || q3.isNone) ⟨k, q1.getD 0, q2.getD 0, q3.getD 0⟩)
        case first =>
          cases xn
          · have hq := HQ3.out
            simp only [stepN, stepW, Bool.false_eq_true, if_false] at hq
            obtain ⟨rfl, rfl⟩ := hq
            go_wp2_with fail
            go_meet
            exact by simpa using H02.out
          · go_wp2_with fail
            have hcall := rnum_any R wb (q1.isNone || q2.isNone) _ (HE.out.env.fr H02.out.fr) HR8'.out H02.out.rd (Nat.le_trans (HWL2.out _ HW3.out) (by have := HLL.out; omega))
            rw [show num (wb.headD []) = q3 from HQ3.out.1] at hcall
            refine hcall.mono ?_
            rintro e w6 ⟨rfl, hr6, hf6⟩
            rw [show wb.tail = wc2 from HQ3.out.2] at hr6
            have H6 := Lib.hid (H02.out.read hf6 hr6)
            have hb := H6.out.ins
            obtain ⟨d0, d1, d2, d3⟩ := blk4z hb
            have f1 := Blk.frozen hb 3
            clear hr6 hf6 hb hcall
            go_wp2_with fail
            go_meet
            exact by simpa using H6.out.put (j := ⟨k, q1.getD 0, q2.getD 0, q3.getD 0⟩) 3 (.int .i64 (q3.getD 0)) rfl
        case rest =>
          have H03 := Lib.hid hcut
          clear hcut
          obtain ⟨wD3, hwD3⟩ : ∃ wD, wD = wc := ⟨wc, rfl⟩
          subst hwD3
          obtain ⟨c0, c1, c2, c3, c4⟩ := blk5 H03.out.tab HT.out.1 HT.out.2.1 HT.out.2.2.1 HT.out.2.2.2.1 HT.out.2.2.2.2
          have HPX := Lib.hid (show parseI ws = if (q1.isSome && q2.isSome && q3.isSome && wc2.isEmpty) = true then some ⟨k, q1.getD 0, q2.getD 0, q3.getD 0⟩ else none from by
            rw [HP2.out]
            unfold parseX
            simp only [HQ1.out.1, HQ1.out.2, HQ2.out.1, HQ2.out.2, HQ3.out.1, HQ3.out.2])
          obtain ⟨⟨A, cap, e0⟩, e1, -, -⟩ := rd_cells H03.out.rd
          obtain ⟨z0, z1, z2, z3⟩ := blk4z H03.out.p0
          have f0 := Blk.frozen H03.out.p0 0
          have f1 := Blk.frozen H03.out.p0 1
          have f2 := Blk.frozen H03.out.p0 2
          have f3 := Blk.frozen H03.out.p0 3
          obtain ⟨i0, i1, i2, i3⟩ := blk4z H03.out.ins
          have hne := H03.out.ne.2.2.2.1
          obtain ⟨bad, hbad⟩ : ∃ b, (q1.isNone || q2.isNone || q3.isNone) = b := ⟨_, rfl⟩
          rw [hbad] at e1
          have hsome : (q1.isSome && q2.isSome && q3.isSome) = !bad := by rw [← hbad]; cases q1 <;> cases q2 <;> cases q3 <;> rfl
          rw [hsome] at HPX
          clear hbad hsome
          have hfin : ∀ (a b c d : Value), Fr (fun _ => False) w ((((wD3.setCell ⟨w.heap.size, 0, none⟩ a).setCell ⟨w.heap.size, 1, none⟩ b).setCell ⟨w.heap.size, 2, none⟩ c).setCell ⟨w.heap.size, 3, none⟩ d) := fun a b c d =>
            (((H03.out.fr.setCell (p := ⟨w.heap.size, 0, none⟩) (.inr (Nat.le_refl _)) _).setCell (p := ⟨w.heap.size, 1, none⟩) (.inr (Nat.le_refl _)) _).setCell (p := ⟨w.heap.size, 2, none⟩) (.inr (Nat.le_refl _)) _).setCell (p := ⟨w.heap.size, 3, none⟩) (.inr (Nat.le_refl _)) _
          have HFIN := Lib.hid hfin
          clear hfin
          cases bad with
          | true =>
            go_wp2
            exact bodyPost_ret (v := .tuple #[Insn.agg ⟨0, 0, 0, 0⟩, .int .i64 16]) (by simp [results, Tryd.results26, go_sem, z0, z1, z2, z3]) rfl ⟨by rw [HPX.out]; rfl, HFIN.out _ _ _ _⟩
          | false =>
            cases wc2 with
            | nil =>
              go_wp2
              exact bodyPost_ret (v := .tuple #[Insn.agg ⟨k, q1.getD 0, q2.getD 0, q3.getD 0⟩, .int .i64 0]) (by simp [results, Tryd.results26, go_sem, z0, z1, z2, z3]) rfl ⟨by rw [HPX.out]; rfl, HFIN.out _ _ _ _⟩
            | cons y r =>
              obtain ⟨m, hm⟩ : ∃ m, r.length = m := ⟨_, rfl⟩
              rw [List.length_cons, hm] at e0
              have hm0 : (0 : Int) < (m : Int) + 1 := by omega
              go_wp2
              exact bodyPost_ret (v := .tuple #[Insn.agg ⟨0, 0, 0, 0⟩, .int .i64 16]) (by simp [results, Tryd.results26, go_sem, z0, z1, z2, z3]) rfl ⟨by rw [HPX.out]; rfl, HFIN.out _ _ _ _⟩
end Go.Proofs.YtadnbkjjdkgfiaaDoor
