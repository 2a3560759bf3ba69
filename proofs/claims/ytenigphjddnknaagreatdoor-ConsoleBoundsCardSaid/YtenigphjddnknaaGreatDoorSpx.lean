/-
  code.Split of a told text as an entry of the table of calls: a new row that a call hands back.
-/
import Derived.Test.YtenigphjddnknaaGreatDoorSplG
import Derived.Test.YtenigphjddnknaaGreatDoorEvaN
import Derived.Maps.AppendAt
import Derived.Laws.Closers25b
import Derived.Test.YtenigphjddnknaaGreatDoorShelf
import Derived.Test.YtenigphjddnknaaGreatDoorBase
import Derived.Lib.OthersKept
import Derived.Shelf.Strings.Builder1
import Derived.Shelf.Abstract
import Derived.Test.YtenigphjddnknaaGreatDoorFwE
import Derived.Test.YtenigphjddnknaaGreatDoorFwL
import Derived.Test.YtenigphjddnknaaGreatDoorFwS
namespace Go.Proofs.YtenigphjddnknaaGreatDoor
open Go Go.RowKit Go.Viv Go.Shelf
theorem sizeBld : (Tryz.prog.info? 62).map (·.size) = some 2 := by kernel_rfl
theorem liesBld : liesAt Tryz.prog Tryz.prog.depth 62 (2 / Tryz.prog.cellsOf 62) 0 62 1 = true := by kernel_rfl
theorem infoByte : (Tryz.prog.info? 5).map (fun i => (i.zero, i.size, i.bytes)) = some (some (.int .u8 0), 1, 1) := by kernel_rfl
abbrev Bld := Lib.BuilderAt 62 5
set_option maxRecDepth 100000 in
theorem copy_used (B b : Nat) (bs : List Value) (w : World) (h : Bld B b (.pointer (some ⟨b, 0, none⟩)) bs w) :
    Calls Tryz.prog 38 #[.pointer (some ⟨b, 0, none⟩)] w fun e w' => e = .returned (.tuple #[]) ∧ w' = w := by
  have h0 := h.cell0
  obtain ⟨j, hj, hjs⟩ := Option.map_eq_some_iff.1 sizeBld
  go_enter Tryz.func38, Tryz.ntmps38
  go_wp2
  rw [Lib.run_neq_ptr_same w _ Tryz.underlying60 hj]
  go_wp2
  go_end0
  exact ⟨rfl, rfl⟩
set_option maxRecDepth 100000 in
theorem copy_fresh (B b : Nat) (bs : List Value) (w : World) (h : Bld B b (.pointer none) bs w) :
    Calls Tryz.prog 38 #[.pointer (some ⟨b, 0, none⟩)] w fun e w' => e = .returned (.tuple #[]) ∧ w' = w.setCell ⟨b, 0, none⟩ (.pointer (some ⟨b, 0, none⟩)) := by
  have h0 := h.cell0
  have hf := h.frozen0
  have hs := h.shape
  obtain ⟨j, hj, hjs⟩ := Option.map_eq_some_iff.1 sizeBld
  go_enter Tryz.func38, Tryz.ntmps38
  go_wp2
  rw [Lib.run_to_unsafe w ⟨b, 0, none⟩ Tryz.underlying60 Tryz.underlying144 hj (by rw [hjs]; decide) hs (Nat.zero_lt_succ 1)]
  simp only [Result.andThen]
  rw [Oper.upon_value]
  go_wp2
  rw [run_callFunc_extern Tryz.func62 (by kernel_rfl) (by kernel_rfl) (by kernel_rfl) (e := Extern.AbiNoEscape.same) (by kernel_rfl)]
  rw [Lib.run_noEscape]
  simp only [Result.andThen]
  rw [Oper.upon_value]
  go_wp2
  rw [Lib.run_from_unsafe w ⟨b, 0, none⟩ Tryz.underlying144 Tryz.underlying60 hj hs liesBld]
  simp only [Result.andThen]
  rw [Oper.upon_value]
  go_wp2
  go_end0
  exact ⟨rfl, rfl⟩
set_option maxRecDepth 100000 in
/-- Blocks that are not the builder's stand, but for rows of bytes. -/
theorem write_any (B b : Nat) (bs : List Value) (s : ByteArray) (w : World) (h : Lib.IsBuilder 62 5 B b bs w) (hlen : bs.length + s.size ≤ 140737488355328) (hBw : B ≤ w.heap.size) :
    Calls Tryz.prog 16 #[.pointer (some ⟨b, 0, none⟩), .string s] w fun e w' => e = .returned (.tuple #[.int .i64 s.size, .nilIface]) ∧ Bld B b (.pointer (some ⟨b, 0, none⟩)) (bs ++ Lib.strCells s) w' ∧ Below B w w' ∧ Lib.OthersKept 5 (some b) w w' := by
  obtain ⟨i0, hi, hz0, hz1, hz2⟩ := info_parts infoByte
  have hcc : Calls Tryz.prog 38 #[.pointer (some ⟨b, 0, none⟩)] w fun e w' => e = .returned (.tuple #[]) ∧ Bld B b (.pointer (some ⟨b, 0, none⟩)) bs w' ∧ Below B w w' ∧ Lib.OthersKept 5 (some b) w w' := by
    rcases h with h | h
    · refine (copy_fresh B b bs w h).mono ?_
      rintro e w' ⟨rfl, rfl⟩
      exact ⟨rfl, h.used _, (Below.refl B w).setCell (p := ⟨b, 0, none⟩) h.1 _, (Lib.OthersKept.refl _ _ w).setCell ⟨b, 0, none⟩ rfl _⟩
    · refine (copy_used B b bs w h).mono ?_
      rintro e w' ⟨rfl, rfl⟩
      exact ⟨rfl, h, Below.refl B _, Lib.OthersKept.refl _ _ _⟩
  go_enter Tryz.func16, Tryz.ntmps16
  go_wp2_with (go_at_call 38; refine hcc.mono ?_)
  rintro e w1 ⟨rfl, h1, hb1, ho1⟩
  obtain ⟨hB, v, hbk, hown, hne⟩ := h1
  have c0 : w1.cell? ⟨b, 0, none⟩ = some (.pointer (some ⟨b, 0, none⟩)) := by rw [Lib.cell_of_heap hbk]; rfl
  have c1 : w1.cell? ⟨b, 1, none⟩ = some v := by rw [Lib.cell_of_heap hbk]; rfl
  go_wp2_with (at_builtin; refine Lib.wpList_append_own_string _ rfl _ _ 28 9 rfl B 5 i0 Tryz.underlying28 Tryz.underlying9 hi hz0 hz1 hz2 _ _ _ rfl hown s rfl ?c3 ?c4 ?c5 ?_)
  case c3 => unfold maxLen; omega
  case c4 => omega
  case c5 => have := hb1.size; omega
  intro v' w2 hown' hgrow _
  have hlt : b < w1.heap.size := (Array.getElem?_eq_some_iff.1 hbk).1
  have hb2 : w2.heap[b]? = some (.cells #[.pointer (some ⟨b, 0, none⟩), v] 62 (0, 0)) := by
    rw [hgrow.block b hlt (fun e => hne e.symm)]
    exact hbk
  have d0 : w2.cell? ⟨b, 0, none⟩ = some (.pointer (some ⟨b, 0, none⟩)) := by rw [Lib.cell_of_heap hb2]; rfl
  have d1 : w2.cell? ⟨b, 1, none⟩ = some v := by rw [Lib.cell_of_heap hb2]; rfl
  have f1 : w2.frozen? ⟨b, 1, none⟩ = false := Lib.frozen_of_heap hb2 1
  obtain ⟨ao, n', cap, rfl⟩ : ∃ ao n' cap, v' = .slice ao n' cap := by
    rcases hown'.2 with ⟨hv, _⟩ | ⟨g, cap, cur, hv, _⟩
    · exact ⟨_, _, _, hv⟩
    · exact ⟨_, _, _, hv⟩
  go_wp2
  go_ret2
  refine ⟨rfl, Lib.BuilderAt.put hB hb2 (bs' := bs ++ Lib.strCells s) (by simpa [Lib.strCells_length] using hown') (by decide), ?_, ?_⟩
  · exact (hb1.grown hgrow (by have := hb1.size; omega) (fun k hk => (hown.lt k hk).1)).setCell (p := ⟨b, 1, none⟩) hB _
  · refine Lib.OthersKept.setCell (ho1.grown hgrow fun g hg => ?_) ⟨b, 1, none⟩ rfl _
    rcases hown.2 with ⟨rfl, _⟩ | ⟨g', cap', cur, rfl, _, hg', _⟩
    · cases hg
    · cases hg
      exact ⟨_, _, hg'⟩
end Go.Proofs.YtenigphjddnknaaGreatDoor
set_option linter.unusedVariables false
namespace Go.Proofs.YtenigphjddnknaaGreatDoor
open Go Go.RowKit Go.Viv Go.Shelf
/-- A state of the console: at which address it lies, how many blocks there were behind New, how many pieces were done, its own blocks. -/
abbrev CState := Addr → Nat → Nat → World → (Nat → Prop) → Prop
structure StateOK (w : World) (C : CState) : Prop where
  keep : ∀ a N k W S, C a N k W S → ∀ (T : Nat → Prop) W', Fr T W W' → (∀ i, S i → ¬ T i) → (∀ i, T i → w.heap.size ≤ i) → C a N k W' S
  own : ∀ a N k W S, C a N k W S → ∀ i, S i → w.heap.size ≤ i ∧ ∃ o, W.heap[i]? = some o ∧ (∀ c fz, o ≠ .cells c 5 fz) ∧ (o.isCells = true ∨ i < N)
/-- What the lines come to. -/
structure LinesOK (w : World) (C : CState) (ps : List (List UInt8)) (outs : Nat → List UInt8) : Prop where
  new : Calls Tryz.prog 6 #[] w fun e w' => ∃ a S, e = .returned (.pointer (some a)) ∧ C a w'.heap.size 0 w' S ∧ Fr (fun _ => False) w w'
  line : ∀ a N k x W S, ps[k]? = some x → x ≠ [] → C a N k W S → Calls Tryz.prog 7 #[.pointer (some a), str x] W fun e w' => ∃ t S', e = .returned (str t) ∧ outs k = t ++ [10] ∧ C a N (k + 1) w' S' ∧ Fr S W w' ∧ (∀ i, S' i → S i ∨ W.heap.size ≤ i)
  none : ∀ a N k W S, ps[k]? = some [] → C a N k W S → C a N (k + 1) W S ∧ outs k = []
def written (outs : Nat → List UInt8) (k : Nat) : List UInt8 := (List.range k).flatMap outs
theorem written_succ (outs : Nat → List UInt8) (k : Nat) : written outs (k + 1) = written outs k ++ outs k := by simp [written, List.range_succ]
theorem fr_grown {X Y : World} {row : Option Nat} (h : X.grownBy Y row) : Fr (fun i => some i = row) X Y := ⟨h.os, h.tape, h.output, h.size, fun k hk hn => h.block k hk hn⟩
theorem fr_others {b : Nat} {X Y : World} (h : Below b X Y) (ho : Lib.OthersKept 5 (some b) X Y) : Fr (fun i => i = b ∨ b ≤ i ∧ ∃ c fz, X.heap[i]? = some (.cells c 5 fz)) X Y := ⟨h.os, h.tape, h.output, h.size, fun k hk hn => by
  rcases Nat.lt_or_ge k b with hb | hb
  · exact h.block k hb
  · have e : X.heap[k]? = some X.heap[k] := Array.getElem?_eq_getElem hk
    rw [e]
    refine ho k _ e (fun h => hn (.inl (Option.some.inj h))) fun c fz h2 => hn (.inr ⟨hb, c, fz, by rw [e, h2]⟩)⟩
abbrev IsBld := Lib.IsBuilder 62 5
/-- The builder's block, and its row. -/
theorem bld_fr {B b : Nat} {p : Value} {bs : List Value} {X Y : World} {T : Nat → Prop} (h : Bld B b p bs X) (hf : Fr T X Y) (hb : ¬ T b) (hr : ∀ i c fz, X.heap[i]? = some (.cells c 5 fz) → ¬ T i) : Bld B b p bs Y := by
  have hlt := h.lt
  obtain ⟨h1, v, h2, h3, h4⟩ := h
  refine ⟨h1, v, (hf.block b hlt hb).trans h2, own_fr h3 hf (fun k hk => ?_), h4⟩
  rcases h3.2 with ⟨rfl, _⟩ | ⟨g, cap, cur, rfl, _, hg, _⟩
  · cases hk
  · cases hk
    exact hr _ _ _ hg
theorem isb_fr {B b : Nat} {bs : List Value} {X Y : World} {T : Nat → Prop} (h : IsBld B b bs X) (hf : Fr T X Y) (hb : ¬ T b) (hr : ∀ i c fz, X.heap[i]? = some (.cells c 5 fz) → ¬ T i) : IsBld B b bs Y := by
  rcases h with h | h
  · exact .inl (bld_fr h hf hb hr)
  · exact .inr (bld_fr h hf hb hr)
theorem isb_blk {B b : Nat} {bs : List Value} {X : World} (h : IsBld B b bs X) : ∃ p v, X.heap[b]? = some (.cells #[p, v] 62 (0, 0)) := by
  rcases h with ⟨_, v, h, _⟩ | ⟨_, v, h, _⟩
  · exact ⟨_, _, h⟩
  · exact ⟨_, _, h⟩
theorem boxed_frT {X Y : World} {B : Nat} {t : TypeId} {v : Value} {T : Nat → Prop} (h : Boxed X B t v) (hf : Fr T X Y) (hn : ¬ T B) : Boxed Y B t v := (hf.block B h.lt hn).trans h
theorem box3_fr {X Y : World} {Bs : Nat} {T : Nat → Prop} (h : Box3 X Bs) (hf : Fr T X Y) (h0 : ¬ T Bs) (h1 : ¬ T (Bs + 1)) (h2 : ¬ T (Bs + 2)) : Box3 Y Bs :=
  ⟨let ⟨u, h⟩ := h.s; ⟨u, boxed_frT h hf h0⟩, let ⟨u, h⟩ := h.sep; ⟨u, boxed_frT h hf h1⟩, let ⟨u, h⟩ := h.save; ⟨u, boxed_frT h hf h2⟩⟩
/-- Between two lines: n is the first block of the loop's own (behind New, what the boxes hold). -/
structure RnI (w : World) (C : CState) (outs : Nat → List UInt8) (a : Addr) (N n k : Nat) (W : World) : Prop where
  st : ∃ S, C a N k W S ∧ (∀ i, S i → i < n ∨ n + 5 ≤ i)
  con : Boxed W n 22 (.pointer (some a))
  bld : IsBld (n + 1) (n + 1) (Lib.byteCells (written outs k)) W
  box : Box3 W (n + 2)
end Go.Proofs.YtenigphjddnknaaGreatDoor
set_option linter.unusedVariables false
namespace Go.Proofs.YtenigphjddnknaaGreatDoor
open Go Go.RowKit Go.Viv Go.Shelf
theorem setc_fr (A : World) (B : Nat) (v : Value) : Fr (fun i => i = B) A (A.setCell ⟨B, 0, none⟩ v) := (Fr.refl (fun i => i = B) A).setCell (p := ⟨B, 0, none⟩) (.inl rfl) v
/-- What changes nothing but the iterator's box, or the loop's own records, leaves all else. -/
theorem RnI.keep3 {w : World} {C : CState} (hC : StateOK w C) {outs : Nat → List UInt8} {a : Addr} {n k : Nat} {W W' : World} {T : Nat → Prop} (h : RnI w C outs a n n k W) (hf : Fr T W W') (hw : w.heap.size ≤ n)
    (hT : ∀ i, T i → i = n + 2 ∨ n + 5 ≤ i ∧ ∃ o : Obj, W.heap[i]? = some o ∧ o.isCells = false) : (∃ S, C a n k W' S ∧ (∀ i, S i → i < n ∨ n + 5 ≤ i)) ∧ Boxed W' n 22 (.pointer (some a)) ∧ IsBld (n + 1) (n + 1) (Lib.byteCells (written outs k)) W' := by
  obtain ⟨S, h1, h2⟩ := h.st
  have h3 := hC.own _ _ _ _ _ h1
  refine ⟨⟨S, hC.keep _ _ _ _ _ h1 T W' hf (fun i hi ht => ?_) (fun i ht => ?_), h2⟩, boxed_frT h.con hf (fun ht => ?_), isb_fr h.bld hf (fun ht => ?_) (fun i c fz hi ht => ?_)⟩
  · obtain ⟨_, o, h4, h5, h6⟩ := h3 i hi
    rcases hT i ht with e | ⟨e, o', e2, e3⟩
    · rcases h2 i hi with h | h <;> omega
    · rw [h4] at e2
      cases e2
      rcases h6 with h6 | h6
      · rw [h6] at e3; cases e3
      · omega
  · rcases hT i ht with e | ⟨e, _⟩ <;> omega
  · rcases hT _ ht with e | ⟨e, _⟩ <;> omega
  · rcases hT _ ht with e | ⟨e, _⟩ <;> omega
  · rcases hT i ht with e | ⟨e, o', e2, e3⟩
    · subst e
      obtain ⟨u, hu⟩ := h.box.s
      have hu : W.heap[n + 2]? = some (.cells #[u] 9 (0, 0)) := hu
      rw [hu] at hi
      cases hi
    · rw [hi] at e2
      cases e2
      cases e3
attribute [local go_sem] Oper.semAt_some
set_option maxRecDepth 100000 in
set_option maxHeartbeats 4000000 in
theorem run_go (l : List UInt8) (w : World) {m : Int} (hm : w.cell? ⟨0, 0, none⟩ = some (.int .i64 m)) (hl : l.length ≤ 10000) {C : CState} (hC : StateOK w C) {outs : Nat → List UInt8} (hL : LinesOK w C (pieces ⟨#[10]⟩ l) outs) (hsz : ∀ k, k ≤ (pieces ⟨#[10]⟩ l).length → (written outs k).length ≤ 1000000) :
    Calls Tryz.prog 9 #[str l] w fun e w' => e = .returned (str (written outs (pieces ⟨#[10]⟩ l).length)) ∧ Fr (fun _ => False) w w' := by
  have hd : decide ((l.length : Int) > 10000) = false := decide_eq_false (by omega)
  have hnew := hL.new
  refine (callsIn_wide (n := 3)).1 ?_
  refine callsIn_of_wp_marks Tryz.func9 rfl trivial ?_ rfl
  simp only [Tryz.ntmps9, List.size_toArray, List.length_cons, List.length_nil, Nat.reduceAdd, Nat.reduceSub, Array.replicate_succ, Array.replicate_zero, List.push_toArray, List.append_toArray, List.nil_append, List.cons_append]
  gi_wp2_with (first
    | (gi_at_call 6; refine (callsIn_wide.2 hnew).mono ?_; rintro e w1 ⟨a, S0, rfl, hC0, hf1⟩)
    | (refine ⟨trivial, ?_⟩; gi_at_call 6; refine (callsIn_wide.2 hnew).mono ?_; rintro e w1 ⟨a, S0, rfl, hC0, hf1⟩)
    | (gi_at_call 15; refine (callsIn_wide.2 (splitSeq_any l _ _)).mono ?_; rintro e w2 ⟨rfl, rfl⟩)
    | (refine ⟨trivial, ?_⟩; gi_at_call 15; refine (callsIn_wide.2 (splitSeq_any l _ _)).mono ?_; rintro e w2 ⟨rfl, rfl⟩))
  obtain ⟨n, hn⟩ : ∃ n, w1.heap.size = n := ⟨_, rfl⟩
  rw [hn] at hC0 ⊢
  have hwn : w.heap.size ≤ n := by rw [← hn]; exact hf1.size
  have h0w : 0 < w.heap.size := World.block_lt_of_cell? _ _ hm
  obtain ⟨W0, hW0⟩ : ∃ W0, ((((w1.alloc (.cells #[.pointer (some a)] 22)).alloc (.cells #[.pointer none, .slice none 0 0] 62)).alloc (.cells #[str l] 9)).alloc (.cells #[.string ⟨#[10]⟩] 9)).alloc (.cells #[.int .i64 0] 3) = W0 := ⟨_, rfl⟩
  have sz : W0.heap.size = n + 5 := by rw [← hW0]; simp [hn]
  have q0 : Boxed W0 n 22 (.pointer (some a)) := by
    rw [← hW0, ← hn]; exact ((((Boxed.new w1 _ _).alloc _).alloc _).alloc _).alloc _
  have q1 : Blk W0 (n + 1) 62 #[.pointer none, .slice none 0 0] := by
    have := Blk.new (w1.alloc (.cells #[.pointer (some a)] 22)) 62 #[.pointer none, .slice none 0 0]
    rw [World.size_alloc, hn] at this
    rw [← hW0]; exact ((this.alloc _).alloc _).alloc _
  have q2 : Boxed W0 (n + 2) 9 (str l) := by
    have := Boxed.new ((w1.alloc (.cells #[.pointer (some a)] 22)).alloc (.cells #[.pointer none, .slice none 0 0] 62)) 9 (str l)
    rw [World.size_alloc, World.size_alloc, hn] at this
    rw [← hW0]; exact (this.alloc _).alloc _
  have q3 : Boxed W0 (n + 2 + 1) 9 (.string ⟨#[10]⟩) := by
    have := Boxed.new (((w1.alloc (.cells #[.pointer (some a)] 22)).alloc (.cells #[.pointer none, .slice none 0 0] 62)).alloc (.cells #[str l] 9)) 9 (.string ⟨#[10]⟩)
    rw [World.size_alloc, World.size_alloc, World.size_alloc, hn] at this
    rw [← hW0]; exact this.alloc _
  have q4 : Boxed W0 (n + 2 + 2) 3 (.int .i64 0) := by
    have := Boxed.new ((((w1.alloc (.cells #[.pointer (some a)] 22)).alloc (.cells #[.pointer none, .slice none 0 0] 62)).alloc (.cells #[str l] 9)).alloc (.cells #[.string ⟨#[10]⟩] 9)) 3 (.int .i64 0)
    rw [World.size_alloc, World.size_alloc, World.size_alloc, World.size_alloc, hn] at this
    rw [← hW0]; exact this
  have hf2 : Fr (fun _ => False) w1 W0 := by rw [← hW0]; exact (((((Fr.refl _ _).alloc _).alloc _).alloc _).alloc _).alloc _
  have hB0 : Fr (fun _ => False) w W0 := hf1.trans hf2 (fun _ h => h.elim)
  have hI0 : RnI w C outs a n n 0 W0 := by
    have hS := hC.own _ _ _ _ _ hC0
    refine ⟨⟨S0, hC.keep _ _ _ _ _ hC0 _ W0 hf2 (fun _ _ h => h) (fun _ h => h.elim), fun i hi => .inl ?_⟩, q0, .inl ⟨Nat.le_refl _, _, q1, World.ownsRow_nil _ _ _ _, by simp [Value.ownBlock]⟩, ⟨⟨_, q2⟩, ⟨_, q3⟩, ⟨_, q4⟩⟩⟩
    obtain ⟨_, o, h4, _⟩ := hS i hi
    rw [← hn]
    exact (Array.getElem?_eq_some_iff.1 h4).1
  rw [hW0]
  clear hW0
  refine wpIn_rangeFunc_box rfl (by omega) (gf := 59) (lb := #[.pointer (some ⟨n + 2 + 1, 0, none⟩), .pointer (some ⟨n + 2, 0, none⟩), .pointer (some ⟨n + 2 + 2, 0, none⟩)]) rfl trivial (enters_of Tryz.func59 (by kernel_rfl) rfl)
    (n₀ := w.heap.size) (Bs := n + 2) (by have := hB0.size; omega) (by omega) (seq85 (3 - 1) (by omega) (n + 2) w.heap.size ⟨#[10]⟩ (pieces ⟨#[10]⟩) (pieces_ok (by decide)) l (by omega) m W0 q2.cell q2.frozen q3.cell q4.cell ((hB0.cell (p := ⟨0, 0, none⟩) h0w (fun h => h)).trans hm) h0w (by omega)) (fun _ => rfl)
    (fun (pre : List (Upto l.length)) W => RnI w C outs a n n pre.length W ∧ Fr (fun _ => False) w W)
    (fun _ _ _ => False)
    (fun s X Y row hs hg hr => ⟨?_, hs.2.grown hg (fun k e => .inr (by have := (hr k e).1; omega))⟩)
    (fun c s X Y row hs hg hr => hs)
    (fun s A v h => ⟨?_, h.2.setCell (.inr (by show w.heap.size ≤ n + 2; omega)) v⟩)
    (fun c s A v h => h)
    ⟨hI0, hB0⟩
    (fun (x : Upto l.length) => { tmps := #[str l, undef, .string ⟨#[]⟩, .pointer (some ⟨n, 0, none⟩), .pointer (some ⟨n + 1, 0, none⟩), str x.1, str l, .int .i64 l.length, .bool false, undef, undef, .pointer (some a), str l, .func (.func 59) #[] #[.pointer (some ⟨n + 2 + 1, 0, none⟩), .pointer (some ⟨n + 2, 0, none⟩), .pointer (some ⟨n + 2 + 2, 0, none⟩)], str x.1, undef, undef, undef, undef, undef, undef, undef, undef], defers := [] })
    ?assign ?body ?done ?stop
  case assign =>
    intro l x W K hK
    gi_wp2
    exact hK
  case body =>
    rintro lp pre ⟨x, hx⟩ W ⟨hI, hB⟩ hlen' hsp
    obtain ⟨post, hpost⟩ := hsp
    have hxk : (pieces ⟨#[10]⟩ l)[pre.length]? = some x := by
      rw [← hpost, List.map_append, List.append_assoc, List.getElem?_append_right (by simp)]
      simp
    have hk : pre.length < (pieces ⟨#[10]⟩ l).length := (List.getElem?_eq_some_iff.1 hxk).1
    obtain ⟨S, hCk, hS⟩ := hI.st
    have hcon := hI.con.cell
    by_cases hne : x = []
    · subst hne
      dsimp only
      gi_wp2
      obtain ⟨e1, e2⟩ := hL.none a n pre.length W S hxk hCk
      refine ⟨(KeepsOthers.refl W).from _, KeepB.refl _ _ _, ⟨⟨S, ?_, hS⟩, hI.con, ?_, hI.box⟩, hB⟩
      · rw [List.length_append]; exact e1
      · rw [List.length_append, List.length_singleton, written_succ, e2, List.append_nil]; exact hI.bld
    · have hz : x.isEmpty = false := by cases x with
        | nil => exact absurd rfl hne
        | cons c r => rfl
      have hdo := hL.line a n pre.length x W S hxk hne hCk
      dsimp only
      have hown := hC.own _ _ _ _ _ hCk
      have hSb : ¬ S (n + 1) := fun h => by rcases hS _ h with h | h <;> omega
      have hrow : ∀ i c fz, W.heap[i]? = some (.cells c 5 fz) → ¬ S i := fun i c fz hi hs => by
        obtain ⟨_, o, h1, h2, _⟩ := hown i hs
        rw [hi] at h1
        cases h1
        exact h2 _ _ rfl
      have hWs : n + 5 ≤ W.heap.size := by
        obtain ⟨u, hu⟩ := hI.box.save
        have := hu.lt
        omega
      have hk1 := hsz (pre.length + 1) hk
      gi_wp2_with (refine ⟨trivial, ?_⟩; gi_at_call 7; refine (CallsIn.inRound lp (callsIn_wide.2 hdo)).mono ?_; rintro e w2 ⟨t, S', rfl, ho, hC2, hfr2, hS'⟩; have hw1 : (written outs (pre.length + 1)).length = (written outs pre.length).length + (t.length + 1) := (by rw [written_succ, ho]; simp))
      have hb2 := isb_fr hI.bld hfr2 hSb hrow
      have hsz2 := hfr2.size
      have hcs : (⟨t.toArray⟩ ++ ⟨#[10]⟩ : ByteArray) = ⟨(t ++ [10]).toArray⟩ := ba_ext (by simp)
      rw [hcs]
      have hwr := write_any (n + 1) (n + 1) (Lib.byteCells (written outs pre.length)) ⟨(t ++ [10]).toArray⟩ w2 hb2 (by rw [Lib.byteCells_length, size_str, List.length_append, List.length_singleton]; omega) (by omega)
      gi_wp2_with (refine ⟨trivial, ?_⟩; gi_at_call 16; refine (CallsIn.inRound lp (callsIn_wide.2 hwr)).mono ?_; rintro e w3 ⟨rfl, hB3, hbel, hok⟩)
      have hfr3 := fr_others hbel hok
      have hown2 := hC.own _ _ _ _ _ hC2
      have hS2 : ∀ i, S' i → i < n ∨ n + 5 ≤ i := fun i hi => by
        rcases hS' i hi with h | h
        · exact hS i h
        · exact .inr (by omega)
      have hST : ∀ i, S' i → ¬ (i = n + 1 ∨ n + 1 ≤ i ∧ ∃ c fz, w2.heap[i]? = some (.cells c 5 fz)) := fun i hi ht => by
        rcases ht with e | ⟨_, c, fz, h1⟩
        · rcases hS2 i hi with h | h <;> omega
        · obtain ⟨_, o, h2, h3, _⟩ := hown2 i hi
          rw [h1] at h2
          cases h2
          exact h3 _ _ rfl
      have hcon2 := boxed_frT hI.con hfr2 (fun h => by rcases hS _ h with h | h <;> omega)
      have hbox2 := box3_fr hI.box hfr2 (fun h => by rcases hS _ h with h | h <;> omega) (fun h => by rcases hS _ h with h | h <;> omega) (fun h => by rcases hS _ h with h | h <;> omega)
      have nob : ∀ {B : Nat} {ty : TypeId} {u : Value}, ty ≠ 5 → B ≠ n + 1 → Boxed w2 B ty u → ¬ (B = n + 1 ∨ n + 1 ≤ B ∧ ∃ c fz, w2.heap[B]? = some (.cells c 5 fz)) := fun {B ty u} h1 h2 h3 ht => by
        rcases ht with e | ⟨_, c, fz, h4⟩
        · exact h2 e
        · have h3 : w2.heap[B]? = some (.cells #[u] ty (0, 0)) := h3
          rw [h3] at h4
          simp only [Option.some.injEq, Obj.cells.injEq] at h4
          exact h1 h4.2.1
      have hbox3 : Box3 w3 (n + 2) := by
        obtain ⟨u0, e0⟩ := hbox2.s
        obtain ⟨u1, e1⟩ := hbox2.sep
        obtain ⟨u2, e2⟩ := hbox2.save
        exact box3_fr hbox2 hfr3 (nob (by decide) (by omega) e0) (nob (by decide) (by omega) e1) (nob (by decide) (by omega) e2)
      have hSw : ∀ i, S i → w.heap.size ≤ i := fun i hi => (hown i hi).1
      have hall : Fr (fun i => w.heap.size ≤ i) W w3 := (hfr2.mono fun i hi h => hSw i h).trans (hfr3.mono fun i hi h => by rcases h with h | ⟨h, _⟩ <;> omega) (fun i h => .inl h)
      refine ⟨⟨Nat.le_trans hsz2 hfr3.size, fun k o hk ho' hco => ?_⟩, ⟨Nat.le_trans hsz2 hfr3.size, fun k hk => ?_⟩, ⟨⟨S', ?_, hS2⟩, boxed_frT hcon2 hfr3 (nob (by decide) (by omega) hcon2), ?_, hbox3⟩, hB.trans hall fun i h => .inr h⟩
      · have hkS : ¬ S k := fun h => by
          obtain ⟨_, o2, h1, _, h2⟩ := hown k h
          rw [ho'] at h1
          cases h1
          rcases h2 with h2 | h2
          · rw [hco] at h2; cases h2
          · omega
        have h2 : w2.heap[k]? = some o := (hfr2.block k (Array.getElem?_eq_some_iff.1 ho').1 hkS).trans ho'
        exact hok k o h2 (fun e => by have := Option.some.inj e; omega) (fun c fz e => by subst e; cases hco)
      · have two : ∀ {B : Nat} {ty : TypeId} {u : Value}, ty ≠ 5 → B ≠ n + 1 → ¬ S B → Boxed W B ty u → w3.heap[B]? = W.heap[B]? := fun {B ty u} h1 h2 h3 h4 => by
          have h5 := boxed_frT h4 hfr2 h3
          exact (boxed_frT h5 hfr3 (nob h1 h2 h5)).trans (Eq.symm h4)
        rcases hk with hk | ⟨h1, h2⟩
        · exact hall.block k (by have := hB.size; omega) (by omega)
        · obtain ⟨u0, e0⟩ := hI.box.s
          obtain ⟨u1, e1⟩ := hI.box.sep
          obtain ⟨u2, e2⟩ := hI.box.save
          have hc : k = n + 2 ∨ k = n + 2 + 1 ∨ k = n + 2 + 2 := by omega
          rcases hc with rfl | rfl | rfl
          · exact two (by decide) (by omega) (fun h => by rcases hS _ h with h | h <;> omega) e0
          · exact two (by decide) (by omega) (fun h => by rcases hS _ h with h | h <;> omega) e1
          · exact two (by decide) (by omega) (fun h => by rcases hS _ h with h | h <;> omega) e2
      · rw [List.length_append]
        exact hC.keep _ _ _ _ _ hC2 _ w3 hfr3 hST (fun i h => by rcases h with h | ⟨h, _⟩ <;> omega)
      · rw [List.length_append, List.length_singleton, written_succ, ho]
        refine .inr ?_
        have e : Lib.strCells ⟨(t ++ [10]).toArray⟩ = Lib.byteCells (t ++ [10]) := rfl
        rw [e] at hB3
        simpa [Lib.byteCells] using hB3
  case done =>
    rintro D ys W hD hS ⟨hI, hB⟩ hK
    have hys : ys.length = (pieces ⟨#[10]⟩ l).length := by rw [← hS, List.length_map]
    rw [hys] at hI
    have hWs : n + 5 ≤ W.heap.size := by
      obtain ⟨u, hu⟩ := hI.box.save
      have := hu.lt
      omega
    have hst := Any.Builder_String_any_k Tryz.lays169 Tryz.Builder_Extra_169 (n + 1) (n + 1) (written outs (pieces ⟨#[10]⟩ l).length) W (Lib.IsBuilderF.of hI.bld) (by omega)
    gi_wp2_with (refine ⟨trivial, ?_⟩; gi_at_call 17; refine (callsIn_wide.2 hst).mono ?_; rintro e w2 ⟨rfl, _, hbl, hok⟩)
    have hK2 := hok D _ hK (fun e => by have := Option.some.inj e; omega) (fun c fz e => by cases e)
    have low : ∀ {A B : World}, Below w.heap.size A B → Fr (fun i => w.heap.size ≤ i) A B := fun {A B} h => ⟨h.os, h.tape, h.output, h.size, fun k _ hn => h.block k (by omega)⟩
    have hb2 : Fr (fun i => w.heap.size ≤ i) W w2 := ⟨hbl.os, hbl.tape, hbl.output, hbl.size, fun k _ hn => hbl.block k (by omega)⟩
    refine ⟨by simp, .inl ⟨_, _, rfl, run_takeDeferred hK2, ?_⟩⟩
    refine ⟨str (written outs (pieces ⟨#[10]⟩ l).length), by simp [results, Tryz.results9, go_sem], rfl, ?_⟩
    exact hB.trans (hb2.trans (low (belowK_b (w := W0) hB0.size w2 D _ _ hD hK2 rfl rfl)) (fun i h => .inl h)) (fun i h => .inr h)
  case stop =>
    rintro D c pre W hD hSp hX
    exact hX.elim
  · obtain ⟨p1, p2, p3⟩ := hs.1.keep3 hC (fr_grown hg) hwn (fun i hi => .inr (by
      obtain ⟨h1, h2⟩ := hr i hi.symm
      rw [sz] at h1
      exact ⟨h1, h2⟩))
    exact ⟨p1, p2, p3, hs.1.box.own hg (fun r e => (hr r e).2)⟩
  · obtain ⟨p1, p2, p3⟩ := h.1.keep3 hC (setc_fr A (n + 2) v) hwn (fun i hi => .inl hi)
    exact ⟨p1, p2, p3, h.1.box.set v⟩
end Go.Proofs.YtenigphjddnknaaGreatDoor
set_option linter.unusedVariables false
namespace Go.Proofs.YtenigphjddnknaaGreatDoor
open Go Go.RowKit Go.Viv Go.Shelf Go.Eva Go.Fv Go.Fw
abbrev GN : Nat := 7 + 1
abbrev stillAt (w : World) : Begin := Beg w (fun _ => False)
/-- A tree whose blocks may all be written, none of them a row of bytes; maps are older than N0. -/
def GoodT (N0 : Nat) (h : Hp) : Prop := N0 ≤ h.next ∧ GN ≤ h.next ∧ ∀ B o, h.t.at_ B = some o → GN ≤ B → B < h.next → rwB o = true ∧ match o with | .cells _ e _ => e ≠ 5 | _ => B < N0
def conC (w : World) (p : Value) (N0 : Nat) (h : Nat → Hp) : CState := fun a N k W S => GN ≤ w.heap.size ∧ GoodT N0 (h k) ∧ ∃ φ0 φ, Rw Tryz.prog GN (stillAt w) noToks φ (h k) W ∧ VR noToks φ p (.pointer (some a)) ∧ S = Owns w φ (h k) ∧ Ext N0 φ0 φ ∧ (∀ B r, φ0 B = some r → r.b < N)
theorem low_glob {W0 : Begin} {φ : Phi} {s : Hp} {w W : World} (hR : Rw Tryz.prog GN W0 noToks φ s W) (hG : GN ≤ w.heap.size) {B : Nat} {r : Ref} (hφ : φ B = some r) (h : w.heap.size ≤ r.b) : GN ≤ B ∧ B < s.next := by
  refine ⟨?_, ?_⟩
  · rcases Nat.lt_or_ge B GN with h1 | h1
    · obtain ⟨r', h2, h3⟩ := hR.glob B h1
      rw [hφ] at h2
      cases h2
      omega
    · exact h1
  · rcases Nat.lt_or_ge B s.next with h1 | h1
    · exact h1
    · rw [hR.fresh B h1] at hφ
      cases hφ
theorem conC_ok (w : World) (p : Value) (N0 : Nat) (h : Nat → Hp) : StateOK w (conC w p N0 h) := by
  refine ⟨fun a N k W S hC T W' hf h1 h2 => ?_, fun a N k W S hC i hi => ?_⟩
  · obtain ⟨hG, hg, φ0, φ, hR, hv, rfl, he, hN⟩ := hC
    exact ⟨hG, hg, φ0, φ, far hR hf h1 h2 hG (fun B r o hφ ht hB => (hg.2.2 B o ht hB (Nat.lt_of_not_le fun h3 => by rw [hR.fresh B h3] at hφ; cases hφ)).1), hv, rfl, he, hN⟩
  · obtain ⟨hG, hg, φ0, φ, hR, hv, rfl, he, hN⟩ := hC
    refine ⟨hi.1, owns_obj hR (u := 5) (fun B r o hφ ht ho hw => ?_) hi⟩
    obtain ⟨h1, h2⟩ := low_glob hR hG hφ hw
    have h3 := (hg.2.2 B o ht h1 h2).2
    cases o with
    | cells c e rw_ => exact h3
    | map es clk => exact hN B r ((he B h3).symm.trans hφ)
    | res x => cases ho
/-- New, and the lines one behind the other. -/
structure RunD (tb : Tb) (p : Value) (N0 : Nat) (h : Nat → Hp) (ps : List (List UInt8)) (outs : Nat → List UInt8) : Prop where
  new : ∃ K d, ev Tryz.prog (fun _ _ => none) tb GN K d 6 [] tree0 = some (p, h 0)
  n0 : N0 = (h 0).next
  ptr : ∃ B o, p = .pointer (some ⟨B, o, none⟩)
  good : ∀ k, k ≤ ps.length → GoodT N0 (h k)
  emp : ∀ k, ps[k]? = some [] → h (k + 1) = h k ∧ outs k = []
  line : ∀ k x, ps[k]? = some x → x ≠ [] → ∃ t K d, ev Tryz.prog (fun _ _ => none) tb GN K d 7 [p, str x] (h k) = some (str t, h (k + 1)) ∧ outs k = t ++ [10]
theorem lines_ok {w : World} (hE : EnvT w) {tb : Tb} (htb : ∀ W (S : Nat → Prop), Fr (fun _ => False) w W → (∀ i, S i → w.heap.size ≤ i) → TbOK Tryz.prog GN (Beg W S) noToks tb)
    {p : Value} {N0 : Nat} {h : Nat → Hp} {ps : List (List UInt8)} {outs : Nat → List UInt8} (hD : RunD tb p N0 h ps outs) : LinesOK w (conC w p N0 h) ps outs := by
  have hG : GN ≤ w.heap.size := by
    obtain ⟨e, fr, ht⟩ := hE
    exact (Array.getElem?_eq_some_iff.1 ht).1
  refine ⟨?_, fun a N k x W S hx hne hC => ?_, fun a N k W S hx hC => ?_⟩
  · obtain ⟨K, d, he⟩ := hD.new
    have htb0 : TbOK Tryz.prog GN (stillAt w) noToks tb := htb w _ (Fr.refl _ _) (fun _ h => h.elim)
    refine (ev_sound (W0 := stillAt w) (by kernel_rfl) syOK_none htb0 K d _ _ _ _ _ he _ w _ .nil (start_ok hE _) (Nat.le_refl _)).mono fun e w' hp => ?_
    obtain ⟨v', rfl, φ', hv, hR, _, _⟩ := hp
    obtain ⟨B, o, rfl⟩ := hD.ptr
    have hv' := hv
    cases hv with
    | ptr hB =>
      refine ⟨_, _, rfl, ⟨hG, hD.good 0 (Nat.zero_le _), φ', φ', hR, hv', rfl, Ext.refl _ _, fun B r h => hR.bound B r h⟩, hR.frame⟩
  · obtain ⟨hG', hg, φ0, φ, hR, hv, rfl, hext, hN⟩ := hC
    obtain ⟨t, K, d, he, ho⟩ := hD.line k x hx hne
    have hk : k < ps.length := (List.getElem?_eq_some_iff.1 hx).1
    have hfW : Fr (fun _ => False) w W := hR.frame
    refine (ev_sound (W0 := Beg W (Owns w φ (h k))) (by kernel_rfl) syOK_none (htb W _ hfW fun i hi => hi.1) K d _ _ _ _ _ he φ W _ (.cons hv (.cons (.string _) .nil)) (rebase hR) hg.2.1).mono fun e w' hp => ?_
    obtain ⟨v', rfl, φ', hv2, hR2, hext2, hle⟩ := hp
    cases hv2
    have hR3 := back hR2 hfW (fun i hi => hi.1)
    refine ⟨t, _, rfl, ho, ⟨hG, hD.good (k + 1) hk, φ0, φ', hR3, hv.ext (hR.up (Nat.le_refl _) hext2), rfl, hext.trans hext2 hg.1, hN⟩, hR2.frame, fun i hi => ?_⟩
    obtain ⟨hw, B, r, hφ, ⟨o, ht, hob⟩, rfl⟩ := hi
    have own : (Beg W (Owns w φ (h k))).own r.b := by
      cases hR2.obj B r o hφ ht with
      | cells h hs h2 hc => exact (h2 hob).2.2.1
      | map h hb he => exact hb
      | res x => cases hob
    exact own
  · obtain ⟨hG', hg, φ0, φ, hR, hv, rfl, hext, hN⟩ := hC
    obtain ⟨h1, h2⟩ := hD.emp k hx
    refine ⟨?_, h2⟩
    unfold conC
    rw [h1]
    exact ⟨hG', hg, φ0, φ, hR, hv, rfl, hext, hN⟩
end Go.Proofs.YtenigphjddnknaaGreatDoor
set_option linter.unusedVariables false
namespace Go.Proofs.YtenigphjddnknaaGreatDoor
open Go Go.RowKit Go.Viv Go.Shelf Go.Eva Go.Fv Go.Fw
theorem fr_grow (w : World) (k : Nat) (os : Array Obj) : Fr (fun _ => False) w (Go.Sort.grow (w.drewN k) os) :=
  ⟨rfl, rfl, rfl, by simp [Go.Sort.grow, World.drewN], fun i hi _ => by
    show (w.heap ++ os)[i]? = w.heap[i]?
    rw [Array.getElem?_append_left hi]⟩
theorem fr_bytes (w : World) (e : TypeId) (t : ByteArray) : Fr (fun _ => False) w (Lib.bytesWorld w e t) := by
  unfold Lib.bytesWorld World.freeze
  refine ⟨?_, ?_, ?_, ?_, fun i hi _ => ?_⟩
  · split <;> rfl
  · split <;> rfl
  · split <;> rfl
  · split <;> simp
  · split
    · exact Below.heap_alloc _ _ _ hi
    · simp only [Array.getElem?_modify]
      rw [if_neg (by show ¬ w.heap.size = i; omega)]
      exact Below.heap_alloc _ _ _ hi

/-- What is asked of memory. -/
structure EnvS (W : World) : Prop where
  max : ∃ m : Int, W.cell? ⟨0, 0, none⟩ = some (.int .i64 m)
  pow : Lib.TabIs Tryz.prog W "internal/strconv.uint64pow10" .u64 Lib.pow10Tab
  tab : EnvT W
def i64Ok (n : Int) : Bool := decide (-9223372036854775808 ≤ n) && decide (n ≤ 9223372036854775807)
def fIndex : List Value → Option Value
  | [.string s, .string u] => (match Nat.ble s.size 100000 with
    | true => some (.int .i64 (Lib.index s.data.toList u.data.toList))
    | false => none)
  | _ => none
def fCut : List Value → Option Value
  | [.string s, .string u] => (match Nat.ble s.size 100000 with
    | true => some (.tuple ⟨[.string ⟨(Lib.cut s.data.toList u.data.toList).1.toArray⟩, .string ⟨(Lib.cut s.data.toList u.data.toList).2.1.toArray⟩, .bool (Lib.cut s.data.toList u.data.toList).2.2]⟩)
    | false => none)
  | _ => none
def fCount : List Value → Option Value
  | [.string s, .string u] => (match Nat.ble s.size 100000 && Nat.ble 1 u.size with
    | true => some (.int .i64 (Lib.countB s u))
    | false => none)
  | _ => none
def fAtoi : List Value → Option Value
  | [.string s] => (match Nat.ble s.size 18, Lib.atoi s.data.toList with
    | true, some n => some (.tuple ⟨[.int .i64 n, .nilIface]⟩)
    | _, _ => none)
  | _ => none
def fItoa : List Value → Option Value
  | [.int .i64 n] => (match i64Ok n with
    | true => some (.string ⟨(Lib.itoa n).toArray⟩)
    | false => none)
  | _ => none
def fFmt : List Value → Option Value
  | [.int .i64 n, .int .i64 10] => (match i64Ok n with
    | true => some (.string ⟨(Lib.itoa n).toArray⟩)
    | false => none)
  | _ => none
def fParse : List Value → Option Value
  | [.string s, .int .i64 10, .int .i64 64] => (match Nat.ble s.size 1000, Lib.parseIntB 64 s.data.toList with
    | true, .ok v => some (.tuple ⟨[.int .i64 v, .nilIface]⟩)
    | _, _ => none)
  | _ => none
section
variable {W0 : Begin} {ν : Toks} {tb : Tb}
theorem index_tb (h : TbOK Tryz.prog (7 + 1) W0 ν tb) (hE : ∀ w, Fr W0.may W0.w w → EnvS w) : TbOK Tryz.prog (7 + 1) W0 ν (tb.set 61 (some (pureB fIndex))) := pure_tb h fun l v hf => by
  unfold fIndex at hf
  split at hf <;> try (cases hf; done)
  split at hf <;> try (cases hf; done)
  rename_i hb
  cases hf
  refine ⟨rfl, rfl, fun w hw => ?_⟩
  obtain ⟨m, hm⟩ := (hE w hw).max
  refine (Any.strings_Index Tryz.lays143 _ _ m w (by have := Nat.le_of_ble_eq_true hb; omega) hm).mono ?_
  rintro e w' ⟨rfl, rfl⟩
  exact ⟨rfl, Fr.refl _ _⟩
theorem cut_tb (h : TbOK Tryz.prog (7 + 1) W0 ν tb) (hE : ∀ w, Fr W0.may W0.w w → EnvS w) : TbOK Tryz.prog (7 + 1) W0 ν (tb.set 18 (some (pureB fCut))) := pure_tb h fun l v hf => by
  unfold fCut at hf
  split at hf <;> try (cases hf; done)
  split at hf <;> try (cases hf; done)
  rename_i hb
  cases hf
  refine ⟨rfl, rfl, fun w hw => ?_⟩
  obtain ⟨m, hm⟩ := (hE w hw).max
  refine (Any.strings_Cut Tryz.lays145 _ _ m w (by have := Nat.le_of_ble_eq_true hb; omega) hm).mono ?_
  rintro e w' ⟨rfl, n, rfl⟩
  exact ⟨rfl, (Fr.refl _ _).drewN _⟩
theorem count_tb (h : TbOK Tryz.prog (7 + 1) W0 ν tb) (hE : ∀ w, Fr W0.may W0.w w → EnvS w) : TbOK Tryz.prog (7 + 1) W0 ν (tb.set 146 (some (pureB fCount))) := pure_tb h fun l v hf => by
  unfold fCount at hf
  split at hf <;> try (cases hf; done)
  split at hf <;> try (cases hf; done)
  rename_i hb
  simp only [Bool.and_eq_true] at hb
  cases hf
  refine ⟨rfl, rfl, fun w hw => ?_⟩
  obtain ⟨m, hm⟩ := (hE w hw).max
  refine (Any.strings_Count_any Tryz.lays138 _ _ m w (by have := Nat.le_of_ble_eq_true hb.1; omega) hm (Nat.le_of_ble_eq_true hb.2)).mono ?_
  rintro e w' ⟨rfl, rfl⟩
  exact ⟨rfl, Fr.refl _ _⟩
theorem atoi_tb (h : TbOK Tryz.prog (7 + 1) W0 ν tb) : TbOK Tryz.prog (7 + 1) W0 ν (tb.set 89 (some (pureB fAtoi))) := pure_tb h fun l v hf => by
  unfold fAtoi at hf
  split at hf <;> try (cases hf; done)
  split at hf <;> try (cases hf; done)
  rename_i n hb hn
  cases hf
  refine ⟨rfl, rfl, fun w hw => ?_⟩
  refine (Any.strconv_Atoi Tryz.lays172 _ n (Nat.le_of_ble_eq_true hb) hn w).mono ?_
  rintro e w' ⟨rfl, t, rfl⟩
  exact ⟨rfl, fr_bytes _ _ _⟩
theorem itoa_tb (h : TbOK Tryz.prog (7 + 1) W0 ν tb) (hE : ∀ w, Fr W0.may W0.w w → EnvS w) : TbOK Tryz.prog (7 + 1) W0 ν (tb.set 21 (some (pureB fItoa))) := pure_tb h fun l v hf => by
  unfold fItoa at hf
  split at hf <;> try (cases hf; done)
  split at hf <;> try (cases hf; done)
  rename_i n _ hb
  simp only [i64Ok, Bool.and_eq_true, decide_eq_true_eq] at hb
  cases hf
  refine ⟨rfl, rfl, fun w hw => ?_⟩
  refine (Any.strconv_Itoa Tryz.laysM171 n hb.1 hb.2 w (hE w hw).pow).mono ?_
  rintro e w' ⟨rfl, k, os, rfl⟩
  exact ⟨rfl, fr_grow _ _ _⟩
theorem fmt_tb (h : TbOK Tryz.prog (7 + 1) W0 ν tb) (hE : ∀ w, Fr W0.may W0.w w → EnvS w) : TbOK Tryz.prog (7 + 1) W0 ν (tb.set 75 (some (pureB fFmt))) := pure_tb h fun l v hf => by
  unfold fFmt at hf
  split at hf <;> try (cases hf; done)
  split at hf <;> try (cases hf; done)
  rename_i n _ hb
  simp only [i64Ok, Bool.and_eq_true, decide_eq_true_eq] at hb
  cases hf
  refine ⟨rfl, rfl, fun w hw => ?_⟩
  refine (Any.strconv_FormatInt_10 Tryz.laysM173 n hb.1 hb.2 w (hE w hw).pow).mono ?_
  rintro e w' ⟨rfl, k, os, rfl⟩
  exact ⟨rfl, fr_grow _ _ _⟩
theorem joins_tb (h : TbOK Tryz.prog (7 + 1) W0 ν tb) : TbOK Tryz.prog (7 + 1) W0 ν (tb.set 22 (some joinB)) :=
  join_tb h fun bk o c xs sep w h1 h2 h3 h4 h5 => Any.strings_Join Tryz.lays156 Tryz.Builder_Extra_156 bk o c xs sep w h1 h2 h3 h4 h5
theorem parse_tb (h : TbOK Tryz.prog (7 + 1) W0 ν tb) : TbOK Tryz.prog (7 + 1) W0 ν (tb.set 151 (some (pureB fParse))) := pure_tb h fun l v hf => by
  unfold fParse at hf
  split at hf <;> try (cases hf; done)
  split at hf <;> try (cases hf; done)
  rename_i v' hb hn
  cases hf
  refine ⟨rfl, rfl, fun w hw => ?_⟩
  refine (Any.strconv_ParseInt_10_at64_ok Tryz.laysC174 _ (by have := Nat.le_of_ble_eq_true hb; omega) v' hn w).mono ?_
  rintro e w' ⟨rfl, hw'⟩
  rcases hw' with rfl | ⟨t, rfl⟩
  · exact ⟨rfl, Fr.refl _ _⟩
  · exact ⟨rfl, fr_bytes _ _ _⟩
end
end Go.Proofs.YtenigphjddnknaaGreatDoor
set_option linter.unusedVariables false
namespace Go.Proofs.YtenigphjddnknaaGreatDoor
open Go Go.RowKit Go.Viv Go.Shelf Go.Eva Go.Fv Go.Fw
abbrev sy0 : Sy := fun _ _ => none
/-- The library's calls on texts. -/
noncomputable def strIc : IcF := addIc 61 (pureX fIndex) (addIc 18 (pureX fCut) (addIc 146 (pureX fCount) (addIc 89 (pureX fAtoi) (addIc 21 (pureX fItoa) (addIc 75 (pureX fFmt) (addIc 22 joinX (addIc 151 (pureX fParse) (awIc none))))))))
noncomputable def strTb : Tb := ((((((((awTb none).set 151 (some (pureB fParse))).set 22 (some joinB)).set 75 (some (pureB fFmt))).set 21 (some (pureB fItoa))).set 89 (some (pureB fAtoi))).set 146 (some (pureB fCount))).set 18 (some (pureB fCut))).set 61 (some (pureB fIndex))
theorem strIc_ok : IcOK strIc strTb := addIc_ok (pure_ok _) (addIc_ok (pure_ok _) (addIc_ok (pure_ok _) (addIc_ok (pure_ok _) (addIc_ok (pure_ok _) (addIc_ok (pure_ok _) (addIc_ok join_ok (addIc_ok (pure_ok _) (awIc_ok none))))))))
theorem strTb_ok {W0 : Begin} {ν : Toks} (hE : ∀ w, Fr W0.may W0.w w → EnvS w) : TbOK Tryz.prog (7 + 1) W0 ν strTb :=
  index_tb (cut_tb (count_tb (atoi_tb (itoa_tb (fmt_tb (joins_tb (parse_tb TbOK.none)) hE) hE)) hE) hE) hE
noncomputable def isPtr (p : Value) : Bool := match p with
  | .pointer (some ⟨_, _, none⟩) => true
  | _ => false
noncomputable def conX : CallX := xW Tryz.prog sy0 GG tfn strIc 1000000 1000
noncomputable def conRun (ls : LinesL) : Bool := hput 7 (some (.cells deC 0 false)) H0 fun H => conX 6 [] H GG fun p H n => yes (isPtr p) (linesX conX (chkH 5 n GG) 7 p ls H n)
def outsOf (ls : LinesL) (k : Nat) : List UInt8 := match ls[k]? with
  | some ([], _) => []
  | some (_, t) => t ++ [10]
  | none => []
theorem sy0_t : SyT sy0 := fun _ _ _ h => by cases h
theorem con_of {ls : LinesL} (h : conRun ls = true) : ∃ p N0 hs, RunD strTb p N0 hs (ls.map (·.1)) (outsOf ls) := by
  have hce : CallEq conX (ev Tryz.prog sy0 strTb GG 1000000 1000) := by
    have e : syb noB sy0 = sy0 := by
      funext o vs
      unfold syb
      split <;> rfl
    have := fastw_ev (β := noB) (P := Tryz.prog) (G := GG) sy0_t tabOK strIc_ok 1000000 1000
    rw [e] at this
    exact this
  obtain ⟨H, hH, h⟩ := hput_of HR.start h
  obtain ⟨p, h0, H0', q1, q2, q3⟩ := hce _ _ _ _ _ _ hH h
  obtain ⟨hp, q4⟩ := yes_of q3
  obtain ⟨hs, p1, p2, p3⟩ := lines_of hce ls q2 q4
  have hk : ∀ k x, (ls.map (·.1))[k]? = some x → ∃ s, ls[k]? = some (x, s) := fun k x hx => by
    rw [List.getElem?_map] at hx
    cases e : ls[k]? with
    | none => rw [e] at hx; cases hx
    | some y => rw [e] at hx; obtain ⟨a, b⟩ := y; cases hx; exact ⟨b, e⟩
  refine ⟨p, h0.next, hs, ⟨⟨1000000, 1000, by rw [p1]; exact q1⟩, by rw [p1], ?_, fun k hk => ?_, fun k hx => ?_, fun k x hx hne => ?_⟩⟩
  · unfold isPtr at hp
    split at hp
    · exact ⟨_, _, rfl⟩
    · cases hp
  · obtain ⟨H', h1, h2⟩ := p2 k (by simpa using hk)
    exact chkH_of h1 h2
  · obtain ⟨s, e⟩ := hk k _ hx
    exact ⟨(p3 k _ _ e).1 rfl, by unfold outsOf; rw [e]⟩
  · obtain ⟨s, e⟩ := hk k _ hx
    refine ⟨s, _, _, (p3 k _ _ e).2 hne, ?_⟩
    unfold outsOf
    rw [e]
    cases x with
    | nil => exact absurd rfl hne
    | cons c r => rfl
end Go.Proofs.YtenigphjddnknaaGreatDoor
set_option linter.unusedVariables false
namespace Go.Proofs.YtenigphjddnknaaGreatDoor
open Go Go.RowKit Go.Viv Go.Shelf Go.Eva Go.Fv Go.Fw
def awLines : LinesL := [([99, 114, 101, 97, 116, 101], [111, 107, 32, 48, 58, 49]), ([], []), ([105, 110, 115, 101, 114, 116, 32, 48, 32, 48, 32, 53], [111, 107, 32, 45]), ([114, 111, 119, 115, 32, 114, 48], [111, 107, 32, 48]), ([122, 122], [101, 114, 114, 111, 114, 32, 49, 54]), ([], [])]
def awText : List UInt8 := [99, 114, 101, 97, 116, 101, 10, 10, 105, 110, 115, 101, 114, 116, 32, 48, 32, 48, 32, 53, 10, 114, 111, 119, 115, 32, 114, 48, 10, 122, 122, 10]
def awOut : List UInt8 := [111, 107, 32, 48, 58, 49, 10, 111, 107, 32, 45, 10, 111, 107, 32, 48, 10, 101, 114, 114, 111, 114, 32, 49, 54, 10]
set_option maxHeartbeats 8000000 in
theorem awRun : conRun awLines = true := by kernel_rfl
theorem pieces_aw : pieces ⟨#[10]⟩ awText = awLines.map (·.1) := by kernel_rfl
theorem globPowS : Tryz.prog.globalNamed "internal/strconv.uint64pow10" = some 3 := by kernel_rfl
theorem EnvS.low {w w' : World} (h : EnvS w) (hb : ∀ k, k < w.heap.size → w'.heap[k]? = w.heap[k]?) : EnvS w' := by
  obtain ⟨⟨m, hm⟩, hp, e, fr, ht⟩ := h
  refine ⟨⟨m, ?_⟩, ?_, e, fr, (hb _ (Array.getElem?_eq_some_iff.1 ht).1).trans ht⟩
  · exact (World.cell?_of_block (a := ⟨0, 0, none⟩) (hb 0 (World.block_lt_of_cell? _ _ hm))).trans hm
  · unfold Lib.TabIs World.var? at hp ⊢
    rw [globPowS] at hp ⊢
    rcases Nat.lt_or_ge 3 w.heap.size with h1 | h1
    · simpa [hb _ h1] using hp
    · simp [Array.getElem?_eq_none h1] at hp
theorem run_aw (w : World) (hE : EnvS w) : Calls Tryz.prog 9 #[str awText] w fun e w' => e = .returned (str awOut) ∧ Fr (fun _ => False) w w' := by
  obtain ⟨p, N0, hs, hD⟩ := con_of awRun
  obtain ⟨m, hm⟩ := hE.max
  have hL : LinesOK w (conC w p N0 hs) (pieces ⟨#[10]⟩ awText) (outsOf awLines) := by
    rw [pieces_aw]
    exact lines_ok hE.tab (fun W S hf hS => strTb_ok fun w' hw' => hE.low fun k hk => (hw'.block k (Nat.lt_of_lt_of_le hk hf.size) (fun h => by have := hS k h; omega)).trans (hf.block k hk (fun h => h))) hD
  have hlen : (pieces ⟨#[10]⟩ awText).length = 6 := by rw [pieces_aw]; rfl
  have hw6 : written (outsOf awLines) 6 = awOut := by kernel_rfl
  have := run_go awText w hm (by decide) (conC_ok w p N0 hs) hL (fun k hk => by
    rw [hlen] at hk
    have : ∀ k, k ≤ 6 → (written (outsOf awLines) k).length ≤ 1000000 := by decide
    exact this k hk)
  rw [hlen, hw6] at this
  exact this
end Go.Proofs.YtenigphjddnknaaGreatDoor
set_option linter.unusedVariables false
namespace Go.Proofs.YtenigphjddnknaaGreatDoor
open Go Go.RowKit Go.Viv Go.Shelf
set_option maxRecDepth 100000 in
theorem awake_any (w : World) (hE : EnvS w) : Calls Tryz.prog 8 #[] w fun e w' => e = .returned (.bool true) ∧ Fr (fun _ => False) w w' := by
  have hrun := run_aw w hE
  unfold awText awOut at hrun
  go_enter Tryz.func8, Tryz.ntmps8
  go_wp2_with (go_at_call 9; refine hrun.mono ?_; rintro e w1 ⟨rfl, hf⟩)
  go_ret
  exact ⟨rfl, hf⟩
end Go.Proofs.YtenigphjddnknaaGreatDoor
set_option linter.unusedVariables false
namespace Go.Fw
open Go Go.Eva Go.Fv Go.RowKit Go.Mix Go.Viv
section
variable {P : Program} {G : Nat} {W0 : Begin} {ν : Toks} {φ : Phi} {s : Hp} {w w' : World}
/-- A block that a call made. -/
theorem rw_grown (hR : Rw P G W0 ν φ s w) (hf : Fr (fun _ => False) w w') {o : AObj} (hno : isRes (some o) = false) {p : Ref} (h1 : w.heap.size ≤ p.b) (h2 : p.b < w'.heap.size)
    (hx : ∀ φ', (∀ B r, φ B = some r → φ' B = some r) → ObjR P W0.own ν φ' w' p o) : Rw P G W0 ν (φ.add s.next p) ⟨s.t.set s.next (some o), s.next + 1⟩ w' := by
  have hN : φ s.next = none := hR.fresh _ (Nat.le_refl _)
  have hup := φ.add_up p hN
  have hL := hR.later hf
  have hat : ∀ X, X ≠ s.next → (s.t.set s.next (some o)).at_ X = s.t.at_ X := fun X h => Tr.at_set_ne _ _ (Ne.symm h)
  have hsame : (s.t.set s.next (some o)).at_ s.next = some o := Tr.at_set_same _ _ _
  have low : ∀ X r, X ≠ s.next → (φ.add s.next p) X = some r → r.b < w.heap.size := fun X r e h => by
    rw [Phi.add_ne _ _ e] at h
    exact hR.bound X r h
  refine ⟨hL.frame, fun g hg => ?_, fun X hX => ?_, fun X r' h => ?_, fun X r' o' h h' => ?_, fun X X' r1 r2 g1 g2 g3 g4 g5 g6 g7 => ?_, ?_⟩
  · obtain ⟨r', h1, h2⟩ := hR.glob g hg
    exact ⟨r', hup _ _ h1, h2⟩
  · rw [Phi.add_ne _ _ (by simp only at hX; omega)]
    exact hR.fresh X (by simp only at hX; omega)
  · by_cases e : X = s.next
    · subst e; rw [Phi.add_same] at h; cases h; exact h2
    · rw [Phi.add_ne _ _ e] at h; exact hL.bound X r' h
  · by_cases e : X = s.next
    · subst e
      rw [Phi.add_same] at h; cases h
      simp only [hsame] at h'; cases h'
      exact hx _ hup
    · rw [Phi.add_ne _ _ e] at h
      simp only [hat X e] at h'
      exact (hL.obj X r' o' h h').ext hup
  · by_cases e : X = s.next <;> by_cases e' : X' = s.next
    · rw [e, e']
    · have := low X' r2 e' g6
      subst e
      rw [Phi.add_same] at g5; cases g5
      omega
    · have := low X r1 e g5
      subst e'
      rw [Phi.add_same] at g6; cases g6
      omega
    · rw [Phi.add_ne _ _ e] at g5
      rw [Phi.add_ne _ _ e'] at g6
      simp only [hat X e] at g1 g3
      simp only [hat X' e'] at g2 g4
      exact hR.inj X X' r1 r2 g1 g2 g3 g4 g5 g6 g7
  · obtain ⟨fp, q1, q2, q3, q4⟩ := hR.res
    have hnB : ∀ X, isRes ((s.t.set s.next (some o)).at_ X) = true → X ≠ s.next := fun X h e => by rw [e, hsame, hno] at h; cases h
    refine ⟨fp, fun X r' y h h' => ?_, fun X r' k h h' hk => ?_, fun X X' r1 r2 k h1 h2 h3 h4 => ?_, fun X X' r1 r2 h1 h2 h3 h4 h5 => ?_⟩
    · have e := hnB X (by simp only at h'; rw [h']; rfl)
      rw [Phi.add_ne _ _ e] at h
      simp only [hat X e] at h'
      exact W0.riX hup (W0.riF (q1 X r' y h h') (fun k hk => hf.block k (q2 X r' k h (by rw [h']; rfl) hk).2 (fun h => h)) hf.size)
    · have e := hnB X h'
      rw [Phi.add_ne _ _ e] at h
      simp only [hat X e] at h'
      have := q2 X r' k h h' hk
      exact ⟨this.1, Nat.lt_of_lt_of_le this.2 hf.size⟩
    · have e := hnB X h3
      have e' := hnB X' h4
      rw [Phi.add_ne _ _ e] at h1
      rw [Phi.add_ne _ _ e'] at h2
      simp only [hat X e] at h3
      simp only [hat X' e'] at h4
      exact q3 X X' r1 r2 k h1 h2 h3 h4
    · have e := hnB X h3
      rw [Phi.add_ne _ _ e] at h1
      simp only [hat X e] at h3
      by_cases e' : X' = s.next
      · have h2' := h2
        rw [e', Phi.add_same] at h2'
        cases h2'
        intro hk
        have := (q2 X r1 _ h1 h3 hk).2
        omega
      · rw [Phi.add_ne _ _ e'] at h2
        simp only [hat X' e'] at h4 h5
        exact q4 X X' r1 r2 h1 h2 h3 h4 h5
end
end Go.Fw
namespace Go.Proofs.YtenigphjddnknaaGreatDoor
open Go Go.RowKit Go.Viv Go.Shelf Go.Eva Go.Fv Go.Fw
/-- Texts, what they are, and the cells of that. -/
abbrev SplT := List (List UInt8 × List Insn × List Value)
def findT (s : ByteArray) : SplT → Option (List UInt8 × List Insn × List Value)
  | [] => none
  | x :: l => match s.data.toList == x.1 with
    | true => some x
    | false => findT s l
theorem findT_of {s : ByteArray} {x : List UInt8 × List Insn × List Value} : ∀ {l : SplT}, findT s l = some x → x ∈ l ∧ s = ⟨x.1.toArray⟩
  | [], h => by cases h
  | y :: l, h => by
    unfold findT at h
    split at h
    · rename_i hb
      cases h
      exact ⟨List.mem_cons_self .., ba_ext (by simpa using hb)⟩
    · obtain ⟨h1, h2⟩ := findT_of h
      exact ⟨List.mem_cons_of_mem _ h1, h2⟩
noncomputable def splX (T : SplT) : CtX := fun l H n k => match l with
  | [.string s] => (match findT s T with
    | some (_, is, c) => hput n (some (.cells c 152 true)) H fun H => k (.tuple ⟨[.slice (some ⟨n, 0, none⟩) is.length 0, .int .i64 0]⟩) H (n + 1)
    | none => false)
  | _ => false
def splB (T : SplT) : CtB := fun l h => match l with
  | [.string s] => (match findT s T with
    | some (_, is, c) => some (.tuple ⟨[.slice (some ⟨h.next, 0, none⟩) is.length 0, .int .i64 0]⟩, ⟨h.t.set h.next (some (.cells c 152 true)), h.next + 1⟩)
    | none => none)
  | _ => none
theorem spl_ok (T : SplT) : CtOK (splX T) (splB T) := fun l H t n k hH h => by
  unfold splX at h
  split at h
  · split at h
    · rename_i _ is c hf
      obtain ⟨H', h1, h2⟩ := hput_of hH h
      exact ⟨.tuple ⟨[.slice (some ⟨n, 0, none⟩) is.length 0, .int .i64 0]⟩, ⟨t.set n (some (.cells c 152 true)), n + 1⟩, H', by simp only [splB, hf], h1, h2⟩
    · cases h
  · cases h
/-- One instruction is read. -/
noncomputable def parseX (x : List UInt8) (c : List Value) : Bool := hput 7 (some (.cells deC 0 false)) H0 fun H => conX 66 [.string ⟨x.toArray⟩] H GG fun v _ _ => veq v (.tuple ⟨[.agg ⟨c⟩, .int .i64 0]⟩)
theorem conX_ev : CallEq conX (ev Tryz.prog sy0 strTb GG 1000000 1000) := by
  have e : syb noB sy0 = sy0 := by
    funext o vs
    unfold syb
    split <;> rfl
  have := fastw_ev (β := noB) (P := Tryz.prog) (G := GG) sy0_t tabOK strIc_ok 1000000 1000
  rw [e] at this
  exact this
theorem parse_any {x : List UInt8} {i : Insn} (h : parseX x (cellsI i) = true) {W : World} (hE : EnvS W) : Calls Tryz.prog 66 #[str x] W fun e w' => e = .returned (.tuple #[i.agg, .int .i64 0]) ∧ Fr (fun _ => False) W w' := by
  obtain ⟨H, hH, h⟩ := hput_of HR.start h
  obtain ⟨v, h0, H0', q1, q2, q3⟩ := conX_ev _ _ _ _ _ _ hH h
  have hv := veq_spec q3
  subst hv
  have htb : TbOK Tryz.prog GG (Begin.still W) noToks strTb := strTb_ok fun w' hw' => hE.low fun k hk => hw'.block k hk (fun h => h)
  refine (ev_sound (W0 := Begin.still W) (by kernel_rfl) syOK_none htb _ _ _ _ _ _ _ q1 _ W _ (.cons (.string _) .nil) (start_ok hE.tab _) (Nat.le_refl _)).mono fun e w' hp => ?_
  obtain ⟨v', rfl, φ', hv, hR, _, _⟩ := hp
  rw [hv.plain rfl]
  exact ⟨rfl, hR.frame⟩
/-- What is asked of a table of texts. -/
def SplGood (T : SplT) : Prop := ∀ x ∈ T, x.1 ≠ [] ∧ x.1.length < 100000 ∧ x.2.2 = x.2.1.flatMap cellsI ∧ x.2.1 ≠ [] ∧ x.2.1.length ≤ 100000 ∧ (pieces ⟨#[59, 32]⟩ x.1).length = x.2.1.length ∧
  ∀ (k : Nat) (y : List UInt8) (i : Insn), (pieces ⟨#[59, 32]⟩ x.1)[k]? = some y → x.2.1[k]? = some i → parseX y (cellsI i) = true
theorem cells_vr {ν : Toks} {φ : Phi} : ∀ (is : List Insn), VRs ν φ (is.flatMap cellsI) (is.flatMap cellsI)
  | [] => .nil
  | i :: is => .cons (.int _ _) (.cons (.int _ _) (.cons (.int _ _) (.cons (.int _ _) (cells_vr is))))
theorem spl_tb {W0 : Begin} {ν : Toks} {tb : Tb} (h : TbOK Tryz.prog GG W0 ν tb) {T : SplT} (hT : SplGood T) (hE : ∀ w, Fr W0.may W0.w w → EnvS w) : TbOK Tryz.prog GG W0 ν (tb.set 41 (some (splB T))) :=
  TbOK.more h fun args s v h' hc φ w args' hv hR _ => by
    unfold splB at hc
    split at hc <;> try (cases hc; done)
    split at hc <;> try (cases hc; done)
    rename_i t _ x is c hfd
    cases hc
    obtain ⟨hm, rfl⟩ := findT_of hfd
    obtain ⟨g1, g2, g3, g4, g5, g6, g7⟩ := hT _ hm
    simp only at g1 g2 g3 g4 g5 g6 g7
    subst g3
    cases hv with
    | cons a b =>
      cases b
      cases a
      have hEw := hE w hR.frame
      obtain ⟨m, hmx⟩ := hEw.max
      refine (split_go x w hmx g2 g1 is g6 g5 (fun k y i hy hi W hW => parse_any (g7 k y i hy hi) (hEw.low fun k hk => hW.block k hk (fun h => h)))).mono fun e w' hp => ?_
      obtain ⟨v, rfl, hown, hf⟩ := hp
      obtain ⟨hl, ho⟩ := hown
      rcases ho with ⟨_, h0⟩ | ⟨g, cap, cur, rfl, hb, hh, hn, hcm, hcs, htk⟩
      · exact absurd (List.length_eq_zero_iff.1 h0) g4
      obtain ⟨k, hk⟩ : ∃ k, is.length = k + 1 := ⟨is.length - 1, by have := List.length_pos_iff.2 g4; omega⟩
      have hgl : g < w'.heap.size := (Array.getElem?_eq_some_iff.1 hh).1
      refine ⟨_, rfl, φ.add s.next ⟨g, cap * 4, 4⟩, ?_, rw_grown hR hf rfl hb hgl (fun φ' hup => ?_), fun B hB => Phi.add_ne _ _ (by omega), Nat.le_succ _⟩
      · refine .tuple (.cons ?_ (.cons (.int _ _) .nil))
        rw [hk] at hn ⊢
        exact .slu (Phi.add_same _ _ _) hn (by simp)
      · refine .cells hh hcs (fun _ => ⟨rfl, by kernel_rfl, .inr (by exact Nat.le_trans hR.frame.size hb), rfl⟩) ?_
        rw [hl, htk]
        exact cells_vr is
end Go.Proofs.YtenigphjddnknaaGreatDoor
