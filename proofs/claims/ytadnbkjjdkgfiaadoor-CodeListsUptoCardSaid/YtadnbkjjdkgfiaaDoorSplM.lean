/-
  A range over a function that keeps its state in one cell of its own: the caller's law, and what is asked of the function.
-/
import Derived.RangeFuncNested
import Derived.RangeFuncBound
import Derived.RangeFuncCalls
import Derived.RangeFuncLeaves
import Derived.RangeFuncBox
import Derived.Test.YtadnbkjjdkgfiaaDoorValTC
import Derived.Shelf.Abstract
import Derived.Shelf.RegionOpen
import Derived.Shelf.Strings.Search3
import Derived.Deep.RegionHeld
import Derived.Lib.CutLaws
import Derived.OwnWalkIn
import Derived.TacticsInMore
import Derived.LoopNIn
import Derived.LoopIn
namespace Go.Viv
open Go Go.RowKit
variable {F : Fence} {n : Nat} {P : Program}

/-- What lay below n₀ lies as it lay, and blocks Bs, Bs + 1, Bs + 2 too. -/
def KeepB (n₀ Bs : Nat) (A B : World) : Prop := A.heap.size ≤ B.heap.size ∧ ∀ k, k < n₀ ∨ Bs ≤ k ∧ k ≤ Bs + 2 → B.heap[k]? = A.heap[k]?
theorem KeepB.refl (n₀ Bs : Nat) (A : World) : KeepB n₀ Bs A A := ⟨Nat.le_refl _, fun _ _ => rfl⟩
theorem KeepB.trans {n₀ Bs : Nat} {A B C : World} (h : KeepB n₀ Bs A B) (k : KeepB n₀ Bs B C) : KeepB n₀ Bs A C := ⟨Nat.le_trans h.1 k.1, fun i hi => (k.2 i hi).trans (h.2 i hi)⟩
theorem KeepB.cell {n₀ Bs : Nat} {A B : World} (h : KeepB n₀ Bs A B) {p : Addr} (hp : p.block < n₀ ∨ Bs ≤ p.block ∧ p.block ≤ Bs + 2) : B.cell? p = A.cell? p := World.cell?_of_block (h.2 p.block hp)
theorem KeepB.putObj {n₀ Bs : Nat} (W : World) {l : Nat} (o : Obj) (h1 : n₀ ≤ l) (h2 : Bs + 2 < l) : KeepB n₀ Bs W (W.putObj l o) :=
  ⟨by simp, fun k hk => World.putObj_heap_other (by rcases hk with h | h <;> omega)⟩

/-- A function that is ranged over, its state in cell 0 of block Bs. -/
def SeqBox {α : Type} (F : Fence) (n : Nat) (P : Program) (g : Nat) (lb : Array Value) (encs : α → Array Value) (n₀ Bs : Nat) (S Sp : List α → Prop) (N : Nat) (w : World) : Prop :=
  ∀ (l : Nat) (J Jx : List α → World → Prop) (W : World), KeepB n₀ Bs w W →
    (∀ s A v, J s A → J s (A.setCell ⟨Bs, 0, none⟩ v)) → (∀ s A v, Jx s A → Jx s (A.setCell ⟨Bs, 0, none⟩ v)) →
    (∀ pre x W1, J pre W1 → pre.length < N → YieldAt F (n - 1) P l (encs x) W1 fun e W' =>
      (e = .returned (.bool true) ∧ J (pre ++ [x]) W' ∧ KeepB n₀ Bs W1 W') ∨ (e = .returned (.bool false) ∧ Jx (pre ++ [x]) W')) →
    J [] W →
    CallsIn F n P g (#[.func (.yield l) #[] #[]] ++ lb) W fun e W' => (∃ v, e = .returned v) ∧ ((∃ xs, S xs ∧ J xs W') ∨ (∃ pre, Sp pre ∧ Jx pre W'))

theorem heap_setBox {A : World} {Bs k : Nat} (v : Value) (h : k ≠ Bs) : (A.setCell ⟨Bs, 0, none⟩ v).heap[k]? = A.heap[k]? := Below.heap_setCell _ _ _ k h

/-- The caller's law. -/
theorem wpIn_rangeFunc_box {α : Type} {g : Operand} {ps : Array Tmp} {assign body : Code} {Q : Exit → Act → World → Prop} {a : Act} {w : World}
    (hro : F.round = none) (h1 : 1 ≤ n) {gf : Nat} {lb : Array Value} (hg : a.eval g = .func (.func gf) #[] lb) (hFg : F.fn gf) (eg : ∀ args w, (callFunc gf args).run P w = .ok (.enter gf args) w)
    {encs : α → Array Value} {n₀ Bs : Nat} (hn : n₀ ≤ w.heap.size) (hBs : Bs + 2 < w.heap.size) {S Sp : List α → Prop} {N : Nat} (hseq : SeqBox F (n - 1) P gf lb encs n₀ Bs S Sp N w) (hps : ∀ x, (encs x).size = ps.size)
    (I : List α → World → Prop) (Ix : Code → List α → World → Prop) (hI : OwnFrom w.heap.size I) (hIx : ∀ c, OwnFrom w.heap.size (Ix c))
    (hIB : ∀ s A v, I s A → I s (A.setCell ⟨Bs, 0, none⟩ v)) (hIxB : ∀ c s A v, Ix c s A → Ix c s (A.setCell ⟨Bs, 0, none⟩ v)) (h0 : I [] w) (a₁ : α → Act)
    (hassign : ∀ (l : Nat) (x : α) (W : World) (K : Act → World → Prop), K (a₁ x) W →
      assign.wpIn (F.inRound l) (n - 1 - 1) P (Exit.then K (fun _ _ _ => False)) { tmps := (ps.zip (encs x)).foldl (fun t (p, v) => t.setIfInBounds p v) a.tmps, defers := [] } W)
    (hbody : ∀ (l : Nat) (pre : List α) (x : α) (W : World), I pre W → pre.length < N → body.wpIn (F.inRound l) (n - 1 - 1) P (ownPostG w.heap.size (KeepB n₀ Bs) I Ix (pre ++ [x]) W) (a₁ x) W)
    (hdone : ∀ (D : Nat) (xs : List α) (W : World), w.heap.size ≤ D → S xs → I xs W → W.heap[D]? = some (.deferred (some [])) → Q .normal { a with defers := { target := .collected D, args := #[] } :: a.defers } W)
    (hstop : ∀ (D : Nat) (c : Code) (pre : List α) (W : World), w.heap.size ≤ D → Sp pre → Ix c pre W → W.heap[D]? = some (.deferred (some [])) → c.wpIn F n P Q { a with defers := { target := .collected D, args := #[] } :: a.defers } W) :
    (Code.rangeFunc g ps assign body).wpIn F n P Q a w := by
  refine wpIn_rangeFunc fun fn hfn => ?_
  rw [hro]
  obtain ⟨H, hH⟩ : ∃ H, w.heap.size = H := ⟨_, rfl⟩
  obtain ⟨rec, hrec⟩ : ∃ rec : LoopState → Option Code → Loop, ∀ st pe, rec st pe = { state := st, pending := pe, fn, tmps := a.tmps, params := ps, assign, body, defers := H } := ⟨_, fun _ _ => rfl⟩
  obtain ⟨W1, hW1⟩ : ∃ W1, (w.alloc (.deferred (some []))).alloc (.loop (rec .ready none)) = W1 := ⟨_, rfl⟩
  have run1 : (Instr.enterLoop fn a.tmps ps assign body none).run P w = .ok (H + 1, [{ target := .collected H, args := #[] }]) W1 := by
    rw [run_enterLoop_outer, hH, ← hW1, hrec]
  have keep1 : ∀ k, k < H → W1.heap[k]? = w.heap[k]? := fun k hk => by
    rw [← hW1, Below.heap_alloc _ _ _ (by simp; omega), Below.heap_alloc _ _ _ (by omega)]
  have L1 : W1.heap[H + 1]? = some (.loop (rec .ready none)) := by
    rw [← hW1, ← hH]
    have := World.alloc_heap_new (w.alloc (.deferred (some []))) (.loop (rec .ready none))
    rwa [World.size_alloc] at this
  have D1 : W1.heap[H]? = some (.deferred (some [])) := by
    rw [← hW1, Below.heap_alloc _ _ _ (by simp; omega), ← hH]
    exact World.alloc_heap_new w _
  have S1 : w.heap.size ≤ W1.heap.size := by rw [← hW1]; simp; omega
  have I1 : I [] W1 := by rw [← hW1]; exact hI.alloc _ (hI.alloc _ h0)
  rw [hH] at hn hBs S1 hI hIx hbody hdone hstop
  -- the two blocks of the loop's own
  let Own2 : LoopState → Option Code → World → Prop := fun st pe W => W.heap[H + 1]? = some (.loop (rec st pe)) ∧ W.heap[H]? = some (.deferred (some []))
  have own2_box : ∀ {st pe A} (v : Value), Own2 st pe A → Own2 st pe (A.setCell ⟨Bs, 0, none⟩ v) := fun v h =>
    ⟨(heap_setBox v (by omega)).trans h.1, (heap_setBox v (by omega)).trans h.2⟩
  have own2_turn : ∀ {st pe} {A : World} (st' : LoopState) (pe' : Option Code), Own2 st pe A → Own2 st' pe' (A.putObj (H + 1) (.loop (rec st' pe'))) := fun st' pe' h =>
    ⟨World.putObj_heap_same (Array.getElem?_eq_some_iff.1 h.1).1, (World.putObj_heap_other (by omega)).trans h.2⟩
  refine ⟨H + 1, [{ target := .collected H, args := #[] }], W1, { target := .fn (.func gf) lb, args := #[.func (.yield (H + 1)) #[] #[]] }, W1, gf, #[.func (.yield (H + 1)) #[] #[]] ++ lb, W1, run1, ?_, ?_, ?_, fun _ => h1, ?_⟩
  · simp only [resolve, hg]
    simp [go_sem]
  · intro f' hf'
    simp [Target.leads] at hf'
    subst hf'
    exact hFg
  · simp [invoke, go_sem, eg]
  refine (hseq (H + 1) (fun pre W => I pre W ∧ Own2 .ready none W) (fun pre W => ∃ c, Ix c pre W ∧ Own2 .done (some c) W) W1
    ⟨by omega, fun k hk => keep1 k (by rcases hk with h | h <;> omega)⟩ (fun s A v h => ⟨hIB _ _ v h.1, own2_box v h.2⟩)
    (fun s A v h => by obtain ⟨c, hc, ho⟩ := h; exact ⟨c, hIxB _ _ _ v hc, own2_box v ho⟩) ?_ ⟨I1, L1, D1⟩).mono ?_
  · -- one round
    rintro pre x W ⟨hi, ho⟩ hlen
    have hy := run_yield (P := P) (args := encs x) ho.1 (by rw [hrec]; exact hps x)
    rw [hrec] at hy
    refine ⟨fn, _, assign, body, hy, roundIn_of_wpIn hfn (hassign _ x W _ ⟨_, run_beginRound ho.1 (by rw [hrec]), ?_⟩)⟩
    obtain ⟨W2, hW2⟩ : ∃ W2, W.putObj (H + 1) (.loop { rec .ready none with state := .busy }) = W2 := ⟨_, rfl⟩
    have e2 : ({ rec .ready none with state := .busy } : Loop) = rec .busy none := by rw [hrec, hrec]
    have ho2 : Own2 .busy none W2 := by rw [← hW2, e2]; exact own2_turn _ _ ho
    have hi2 : I pre W2 := by rw [← hW2]; exact hI.putObj _ hi (by omega) ho.1 rfl
    have hk2 : KeepB n₀ Bs W W2 := by rw [← hW2]; exact KeepB.putObj _ _ (by omega) (by omega)
    rw [hW2]
    have fin : ∀ (jump : Option Code) (W3 : World), KeepsFrom H W2 W3 → ∃ st, (Instr.endRound (H + 1) jump).run P W3 = .ok (.bool jump.isNone) (W3.putObj (H + 1) (.loop (rec st jump))) ∧ st = (if jump.isNone then .ready else .done) ∧
        W3.heap[H + 1]? = some (.loop (rec .busy none)) ∧ Own2 st jump (W3.putObj (H + 1) (.loop (rec st jump))) := fun jump W3 hk => by
      have o3 : Own2 .busy none W3 := ⟨hk.same _ _ (by omega) ho2.1 rfl, hk.same _ _ (Nat.le_refl _) ho2.2 rfl⟩
      refine ⟨_, ?_, rfl, o3.1, own2_turn _ _ o3⟩
      rw [run_endRound jump o3.1, hrec, hrec]
    refine wpIn_mono (hbody _ pre x W2 hi2 hlen) fun e a3 W3 hp => ?_
    match e, hp with
    | .normal, hp =>
      obtain ⟨hk, hkp, hi3⟩ := hp
      obtain ⟨st, hr, rfl, hl, h4⟩ := fin none W3 hk
      exact ⟨_, _, hr, .inl ⟨rfl, ⟨hI.putObj _ hi3 (by omega) hl rfl, h4⟩, (hk2.trans hkp).trans (KeepB.putObj _ _ (by omega) (by omega))⟩⟩
    | .ret, hp =>
      obtain ⟨hk, hi3⟩ := hp
      obtain ⟨st, hr, rfl, hl, h4⟩ := fin (some .ret) W3 hk
      exact ⟨_, _, hr, .inr ⟨rfl, .ret, (hIx _).putObj _ hi3 (by omega) hl rfl, h4⟩⟩
    | .exit id, hp =>
      obtain ⟨hk, hi3⟩ := hp
      obtain ⟨st, hr, rfl, hl, h4⟩ := fin (some (.exit id)) W3 hk
      exact ⟨_, _, hr, .inr ⟨rfl, .exit id, (hIx _).putObj _ hi3 (by omega) hl rfl, h4⟩⟩
    | .goto t, hp =>
      obtain ⟨hk, hi3⟩ := hp
      obtain ⟨st, hr, rfl, hl, h4⟩ := fin (some (.goto t)) W3 hk
      exact ⟨_, _, hr, .inr ⟨rfl, .goto t, (hIx _).putObj _ hi3 (by omega) hl rfl, h4⟩⟩
    | .panic _, hp => exact hp.elim
    | .outgrown, hp => exact hp.elim
  · -- behind it
    rintro e W2 ⟨⟨v, rfl⟩, ⟨xs, hS, hi, ho⟩ | ⟨pre, hSp, c, hi, ho⟩⟩
    · refine ⟨none, _, ?_, hdone _ xs _ (Nat.le_refl _) hS (hI.putObj (.loop { rec .ready none with state := .exhausted }) hi (by omega) ho.1 rfl) ((World.putObj_heap_other (by omega)).trans ho.2)⟩
      have := run_endLoop (P := P) ho.1 (by rw [hrec]; simp)
      rw [hrec] at this ⊢
      exact this
    · refine ⟨some c, _, ?_, hstop _ c pre _ (Nat.le_refl _) hSp ((hIx c).putObj (.loop { rec .done (some c) with state := .exhausted }) hi (by omega) ho.1 rfl) ((World.putObj_heap_other (by omega)).trans ho.2)⟩
      have := run_endLoop (P := P) ho.1 (by rw [hrec]; simp)
      rw [hrec] at this ⊢
      exact this
end Go.Viv
/-
  strings.SplitSeq's iterator: each piece comes once, in order.
-/
namespace Go.Viv
open Go.Lib Go.Proofs.YtadnbkjjdkgfiaaDoor Go.RowKit
/-- How long the text in a cell is. -/
def textLen (w : World) (B : Nat) : Nat := match w.cell? ⟨B, 0, none⟩ with
  | some (.string s) => s.size
  | _ => 0
theorem textLen_of {w : World} {B : Nat} {s : List UInt8} (h : w.cell? ⟨B, 0, none⟩ = some (str s)) : textLen w B = s.length := by
  unfold textLen
  rw [h]
  exact size_str s
/-- What an iterator over a text's pieces tells. -/
structure Pieces (sep : ByteArray) (pt : List UInt8 → List (List UInt8)) : Prop where
  one : 1 ≤ sep.size
  miss : ∀ l : List UInt8, Lib.indexB ⟨l.toArray⟩ sep = -1 → pt l = [l]
  hit : ∀ (l : List UInt8) (i : Nat), Lib.indexB ⟨l.toArray⟩ sep = i → pt l = l.take i :: pt (l.drop (i + sep.size))
theorem Pieces.ne {sep : ByteArray} {pt : List UInt8 → List (List UInt8)} (h : Pieces sep pt) (l : List UInt8) : pt l ≠ [] := by
  rcases Lib.indexB_cases ⟨l.toArray⟩ sep with e | ⟨i, e, _⟩
  · rw [h.miss l e]; simp
  · rw [h.hit l i e]; simp
/-- A text of at most so many letters. -/
abbrev Upto (N : Nat) := { x : List UInt8 // x.length ≤ N }
end Go.Viv
namespace Go.Proofs.YtadnbkjjdkgfiaaDoor
open Go.RowKit Go.Viv Go.Shelf
attribute [local go_sem] Oper.semAt_some
theorem frozen_of_block {A B : World} {k : Nat} (h : B.heap[k]? = A.heap[k]?) : B.frozen? ⟨k, 0, none⟩ = A.frozen? ⟨k, 0, none⟩ := by simp [World.frozen?, h]
set_option maxRecDepth 100000 in
set_option maxHeartbeats 2000000 in
theorem seq85 (n : Nat) (hn : 1 ≤ n) (Bs n₀ : Nat) (sep : ByteArray) (pt : List UInt8 → List (List UInt8)) (hp : Pieces sep pt) (l : List UInt8) (hl : l.length < 4294967281) (m : Int) (w : World)
    (hc0 : w.cell? ⟨Bs, 0, none⟩ = some (str l)) (hf0 : w.frozen? ⟨Bs, 0, none⟩ = false) (hc1 : w.cell? ⟨Bs + 1, 0, none⟩ = some (.string sep)) (hc2 : w.cell? ⟨Bs + 2, 0, none⟩ = some (.int .i64 0))
    (hm : w.cell? ⟨0, 0, none⟩ = some (.int .i64 m)) (h0n : 0 < n₀) (hB : n₀ ≤ Bs) :
    SeqBox Fence.wide n Tryd.prog 85 #[.pointer (some ⟨Bs + 1, 0, none⟩), .pointer (some ⟨Bs, 0, none⟩), .pointer (some ⟨Bs + 2, 0, none⟩)] (fun x : Upto l.length => #[str x.1]) n₀ Bs (fun xs => xs.map (·.1) = pt l) (fun pre => pre.map (·.1) <+: pt l) (pt l).length w := fun lp J Jx W hW hJ hJx hY h0 => by
  refine callsIn_of_wp Tryd.func85 rfl trivial ?_ rfl
  simp only [Tryd.ntmps85, List.size_toArray, List.length_cons, List.length_nil, Nat.reduceAdd, Nat.reduceSub, Array.replicate_succ, Array.replicate_zero, List.push_toArray, List.append_toArray, List.nil_append, List.cons_append]
  have d0 := (hW.cell (p := ⟨Bs, 0, none⟩) (.inr (by simp))).trans hc0
  have d1 := (hW.cell (p := ⟨Bs + 1, 0, none⟩) (.inr (by simp))).trans hc1
  have d2 := (hW.cell (p := ⟨Bs + 2, 0, none⟩) (.inr (by simp))).trans hc2
  have dm := (hW.cell (p := ⟨0, 0, none⟩) (.inl h0n)).trans hm
  have df : W.frozen? ⟨Bs, 0, none⟩ = false := (frozen_of_block (hW.2 Bs (.inr (by omega)))).trans hf0
  have hs0 : (((sep.size : Nat) : Int) == 0) = false := beq_eq_false_iff_ne.2 (by have := hp.one; omega)
  gi_wp2
  gi_loopw [7] (fun _ wr => ∃ (pre : List (Upto l.length)) (s : List UInt8), wr.cell? ⟨Bs, 0, none⟩ = some (str s) ∧ wr.frozen? ⟨Bs, 0, none⟩ = false ∧ wr.cell? ⟨Bs + 1, 0, none⟩ = some (.string sep) ∧ wr.cell? ⟨Bs + 2, 0, none⟩ = some (.int .i64 0) ∧ wr.cell? ⟨0, 0, none⟩ = some (.int .i64 m) ∧ pt l = pre.map (·.1) ++ pt s ∧ s.length ≤ l.length ∧ J pre wr) (fun _ wr => textLen wr Bs)
  case atStart => exact ⟨[], l, d0, df, d1, d2, dm, rfl, Nat.le_refl _, h0⟩
  case round =>
    obtain ⟨pre, s, e0, ef, e1, e2, em, hx, hsl, hJs⟩ := hrel
    have hix := Any.strings_Index Tryd.lays143 ⟨s.toArray⟩ sep m wr (by rw [size_str]; omega) em
    have hpl : pre.length < (pt l).length := by
      rw [hx, List.length_append, List.length_map]
      have := List.length_pos_iff.2 (hp.ne s)
      omega
    rcases Lib.indexB_cases ⟨s.toArray⟩ sep with hi | ⟨i, hi, hroom⟩
    · have hix2 : Calls Tryd.prog 82 #[str s, .string sep] wr fun e w' => e = .returned (.int .i64 (-1)) ∧ wr = w' := hix.mono (fun e w' ⟨h1, h2⟩ => ⟨by rw [h1]; exact congrArg (fun z => Ending.returned (Value.int .i64 z)) hi, h2.symm⟩)
      obtain ⟨fn, tmps, assign, body, hy, hR⟩ := hY pre ⟨s, hsl⟩ wr hJs hpl
      clear hix
      dsimp only at hy
      gi_wp2_with (first | (gi_at_call 82; refine (callsIn_wide.2 hix2).mono ?_; rintro e w' ⟨rfl, rfl⟩) | (refine ⟨trivial, ?_⟩; gi_at_call 82; refine (callsIn_wide.2 hix2).mono ?_; rintro e w' ⟨rfl, rfl⟩))
      refine hR.mono ?_
      rintro e W3 (⟨rfl, hJ3, hk3⟩ | ⟨rfl, hJx3⟩)
      all_goals
        gi_wp2
        go_end0
      · exact ⟨⟨_, rfl⟩, .inl ⟨_, by rw [hx, hp.miss s hi]; simp, hJ3⟩⟩
      · exact ⟨⟨_, rfl⟩, .inr ⟨_, by rw [hx, hp.miss s hi]; simp, hJx3⟩⟩
    · have hix2 : Calls Tryd.prog 82 #[str s, .string sep] wr fun e w' => e = .returned (.int .i64 (i : Int)) ∧ wr = w' := hix.mono (fun e w' ⟨h1, h2⟩ => ⟨by rw [h1]; exact congrArg (fun z => Ending.returned (Value.int .i64 z)) hi, h2.symm⟩)
      have hb : i + sep.size ≤ s.length := by rw [size_str] at hroom; exact hroom
      obtain ⟨fn, tmps, assign, body, hy, hR⟩ := hY pre ⟨s.take i, by simp; omega⟩ wr hJs hpl
      dsimp only at hy
      have hi0 : decide ((i : Int) < 0) = false := decide_eq_false (by omega)
      have x1 : (ByteArray.mk s.toArray).extract 0 i = ⟨(s.take i).toArray⟩ := ba_ext (by rw [Lib.extract_data, data_str]; simp)
      have x2 : (ByteArray.mk s.toArray).extract (i + sep.size) s.length = ⟨(s.drop (i + sep.size)).toArray⟩ := ba_ext (by rw [Lib.extract_data, data_str, List.take_of_length_le (by simp)])
      have hb1 : (i : Int) ≤ s.length := by omega
      have hb2 : (i : Int) + sep.size ≤ s.length := by omega
      clear hix
      gi_wp2_with (first | (gi_at_call 82; refine (callsIn_wide.2 hix2).mono ?_; rintro e w' ⟨rfl, rfl⟩) | (refine ⟨trivial, ?_⟩; gi_at_call 82; refine (callsIn_wide.2 hix2).mono ?_; rintro e w' ⟨rfl, rfl⟩))
      refine hR.mono ?_
      rintro e W3 (⟨rfl, hJ3, hk3⟩ | ⟨rfl, hJx3⟩)
      · have q0 := (hk3.cell (p := ⟨Bs, 0, none⟩) (.inr (by simp))).trans e0
        have qf : W3.frozen? ⟨Bs, 0, none⟩ = false := (frozen_of_block (hk3.2 Bs (.inr (by omega)))).trans ef
        have q1 := (hk3.cell (p := ⟨Bs + 1, 0, none⟩) (.inr (by simp))).trans e1
        have q2 := (hk3.cell (p := ⟨Bs + 2, 0, none⟩) (.inr (by simp))).trans e2
        have qm := (hk3.cell (p := ⟨0, 0, none⟩) (.inl h0n)).trans em
        gi_wp2
        go_roundw
        case rel =>
          refine ⟨pre ++ [⟨s.take i, by simp; omega⟩], s.drop (i + sep.size), ?_, ?_, ?_, ?_, ?_, by rw [hx, hp.hit s i hi]; simp, by simp; omega, hJ _ _ _ hJ3⟩
          · exact World.cell?_setCell_same' _ _ _ (by rw [q0]; rfl)
          · rw [World.frozen?_setCell]; exact qf
          · rw [World.cell?_setCell_far _ _ _ _ (by simp)]; exact q1
          · rw [World.cell?_setCell_far _ _ _ _ (by simp)]; exact q2
          · rw [World.cell?_setCell_far _ _ _ _ (by simp; omega)]; exact qm
        case measure =>
          rw [textLen_of e0, textLen_of (World.cell?_setCell_same' _ _ _ (by rw [q0]; rfl))]
          have := hp.one
          simp
          omega
      · gi_wp2
        refine bodyPost_ret (results_none rfl _ _ _) rfl ?_
        exact ⟨⟨_, rfl⟩, .inr ⟨_, by rw [hx, hp.hit s i hi]; exact ⟨pt (s.drop (i + sep.size)), by simp⟩, hJx3⟩⟩
end Go.Proofs.YtadnbkjjdkgfiaaDoor
