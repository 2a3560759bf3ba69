/-
  code.Split of a text all of whose pieces are read, told by what code.Parse makes of each.
-/
import Derived.Test.YtenigphjddnknaaGreatDoorRowC
import Derived.RangeFuncBox
import Derived.Maps.AppendAt
import Derived.Laws.Closers25b
import Derived.RangeFuncNested
import Derived.RangeFuncBound
import Derived.RangeFuncCalls
import Derived.RangeFuncLeaves
import Derived.Shelf.Abstract
import Derived.Shelf.RegionOpen
import Derived.Shelf.Strings.Search3
import Derived.Deep.RegionHeld
import Derived.Lib.CutLaws
import Derived.OwnWalkIn
import Derived.TacticsInMore
import Derived.LoopNIn
import Derived.LoopIn
import Derived.Test.YtenigphjddnknaaGreatDoorBase
import Derived.Test.YtenigphjddnknaaGreatDoorShelf
namespace Go.Viv
open Go Go.RowKit
abbrev str (l : List UInt8) : Value := .string ⟨l.toArray⟩
theorem data_str (l : List UInt8) : (⟨l.toArray⟩ : ByteArray).data.toList = l := by simp
theorem size_str (l : List UInt8) : (⟨l.toArray⟩ : ByteArray).size = l.length := by simp [ByteArray.size]
theorem ba_ext {a : ByteArray} {l : List UInt8} (h : a.data.toList = l) : a = ⟨l.toArray⟩ := by subst h; cases a; simp
end Go.Viv
namespace Go.Viv
open Go Go.RowKit
variable {F : Fence} {n : Nat} {P : Program}

/-- What lay below n₀ lies as it lay, and blocks Bs, Bs + 1, Bs + 2 too. -/
def KeepB (n₀ Bs : Nat) (A B : World) : Prop := A.heap.size ≤ B.heap.size ∧ ∀ k, k < n₀ ∨ Bs ≤ k ∧ k ≤ Bs + 2 → B.heap[k]? = A.heap[k]?
theorem KeepB.refl (n₀ Bs : Nat) (A : World) : KeepB n₀ Bs A A := ⟨Nat.le_refl _, fun _ _ => rfl⟩
theorem KeepB.trans {n₀ Bs : Nat} {A B C : World} (h : KeepB n₀ Bs A B) (k : KeepB n₀ Bs B C) : KeepB n₀ Bs A C := ⟨Nat.le_trans h.1 k.1, fun i hi => (k.2 i hi).trans (h.2 i hi)⟩
theorem KeepB.cell {n₀ Bs : Nat} {A B : World} (h : KeepB n₀ Bs A B) {p : Addr} (hp : p.block < n₀ ∨ Bs ≤ p.block ∧ p.block ≤ Bs + 2) : B.cell? p = A.cell? p := World.cell?_of_block (h.2 p.block hp)
theorem KeepB.putObj {n₀ Bs : Nat} (W : World) {l : Nat} (o : Obj) (h1 : n₀ ≤ l) (h2 : Bs + 2 < l) : KeepB n₀ Bs W (W.putObj l o) :=
  ⟨by simp, fun k hk => World.putObj_heap_other (by rcases hk with h | h <;> omega)⟩

/-- A function that is ranged over, its state in cell 0 of block Bs. -/
def SeqBox {α : Type} (F : Fence) (n : Nat) (P : Program) (g : Nat) (lb : Array Value) (encs : α → Array Value) (n₀ Bs : Nat) (S Sp : List α → Prop) (N : Nat) (w : World) : Prop :=
  ∀ (l : Nat) (J Jx : List α → World → Prop) (W : World), KeepB n₀ Bs w W →
    (∀ s A v, J s A → J s (A.setCell ⟨Bs, 0, none⟩ v)) → (∀ s A v, Jx s A → Jx s (A.setCell ⟨Bs, 0, none⟩ v)) →
    (∀ pre x W1, J pre W1 → pre.length < N → Sp (pre ++ [x]) → YieldAt F (n - 1) P l (encs x) W1 fun e W' =>
      (e = .returned (.bool true) ∧ J (pre ++ [x]) W' ∧ KeepB n₀ Bs W1 W') ∨ (e = .returned (.bool false) ∧ Jx (pre ++ [x]) W')) →
    J [] W →
    CallsIn F n P g (#[.func (.yield l) #[] #[]] ++ lb) W fun e W' => (∃ v, e = .returned v) ∧ ((∃ xs, S xs ∧ J xs W') ∨ (∃ pre, Sp pre ∧ Jx pre W'))

theorem heap_setBox {A : World} {Bs k : Nat} (v : Value) (h : k ≠ Bs) : (A.setCell ⟨Bs, 0, none⟩ v).heap[k]? = A.heap[k]? := Below.heap_setCell _ _ _ k h

/-- The caller's law. -/
theorem wpIn_rangeFunc_box {α : Type} {g : Operand} {ps : Array Tmp} {assign body : Code} {Q : Exit → Act → World → Prop} {a : Act} {w : World}
    (hro : F.round = none) (h1 : 1 ≤ n) {gf : Nat} {lb : Array Value} (hg : a.eval g = .func (.func gf) #[] lb) (hFg : F.fn gf) (eg : ∀ args w, (callFunc gf args).run P w = .ok (.enter gf args) w)
    {encs : α → Array Value} {n₀ Bs : Nat} (hn : n₀ ≤ w.heap.size) (hBs : Bs + 2 < w.heap.size) {S Sp : List α → Prop} {N : Nat} (hseq : SeqBox F (n - 1) P gf lb encs n₀ Bs S Sp N w) (hps : ∀ x, (encs x).size = ps.size)
    (I : List α → World → Prop) (Ix : Code → List α → World → Prop) (hI : OwnFrom w.heap.size I) (hIx : ∀ c, OwnFrom w.heap.size (Ix c))
    (hIB : ∀ s A v, I s A → I s (A.setCell ⟨Bs, 0, none⟩ v)) (hIxB : ∀ c s A v, Ix c s A → Ix c s (A.setCell ⟨Bs, 0, none⟩ v)) (h0 : I [] w) (a₁ : α → Act)
    (hassign : ∀ (l : Nat) (x : α) (W : World) (K : Act → World → Prop), K (a₁ x) W →
      assign.wpIn (F.inRound l) (n - 1 - 1) P (Exit.then K (fun _ _ _ => False)) { tmps := (ps.zip (encs x)).foldl (fun t (p, v) => t.setIfInBounds p v) a.tmps, defers := [] } W)
    (hbody : ∀ (l : Nat) (pre : List α) (x : α) (W : World), I pre W → pre.length < N → Sp (pre ++ [x]) → body.wpIn (F.inRound l) (n - 1 - 1) P (ownPostG w.heap.size (KeepB n₀ Bs) I Ix (pre ++ [x]) W) (a₁ x) W)
    (hdone : ∀ (D : Nat) (xs : List α) (W : World), w.heap.size ≤ D → S xs → I xs W → W.heap[D]? = some (.deferred (some [])) → Q .normal { a with defers := { target := .collected D, args := #[] } :: a.defers } W)
    (hstop : ∀ (D : Nat) (c : Code) (pre : List α) (W : World), w.heap.size ≤ D → Sp pre → Ix c pre W → W.heap[D]? = some (.deferred (some [])) → c.wpIn F n P Q { a with defers := { target := .collected D, args := #[] } :: a.defers } W) :
    (Code.rangeFunc g ps assign body).wpIn F n P Q a w := by
  refine wpIn_rangeFunc fun fn hfn => ?_
  rw [hro]
  obtain ⟨H, hH⟩ : ∃ H, w.heap.size = H := ⟨_, rfl⟩
  obtain ⟨rec, hrec⟩ : ∃ rec : LoopState → Option Code → Loop, ∀ st pe, rec st pe = { state := st, pending := pe, fn, tmps := a.tmps, params := ps, assign, body, defers := H } := ⟨_, fun _ _ => rfl⟩
  obtain ⟨W1, hW1⟩ : ∃ W1, (w.alloc (.deferred (some []))).alloc (.loop (rec .ready none)) = W1 := ⟨_, rfl⟩
  have run1 : (Instr.enterLoop fn a.tmps ps assign body none).run P w = .ok (H + 1, [{ target := .collected H, args := #[] }]) W1 := by
    rw [run_enterLoop_outer, hH, ← hW1, hrec]
  have keep1 : ∀ k, k < H → W1.heap[k]? = w.heap[k]? := fun k hk => by
    rw [← hW1, Below.heap_alloc _ _ _ (by simp; omega), Below.heap_alloc _ _ _ (by omega)]
  have L1 : W1.heap[H + 1]? = some (.loop (rec .ready none)) := by
    rw [← hW1, ← hH]
    have := World.alloc_heap_new (w.alloc (.deferred (some []))) (.loop (rec .ready none))
    rwa [World.size_alloc] at this
  have D1 : W1.heap[H]? = some (.deferred (some [])) := by
    rw [← hW1, Below.heap_alloc _ _ _ (by simp; omega), ← hH]
    exact World.alloc_heap_new w _
  have S1 : w.heap.size ≤ W1.heap.size := by rw [← hW1]; simp; omega
  have I1 : I [] W1 := by rw [← hW1]; exact hI.alloc _ (hI.alloc _ h0)
  rw [hH] at hn hBs S1 hI hIx hbody hdone hstop
  -- the two blocks of the loop's own
  let Own2 : LoopState → Option Code → World → Prop := fun st pe W => W.heap[H + 1]? = some (.loop (rec st pe)) ∧ W.heap[H]? = some (.deferred (some []))
  have own2_box : ∀ {st pe A} (v : Value), Own2 st pe A → Own2 st pe (A.setCell ⟨Bs, 0, none⟩ v) := fun v h =>
    ⟨(heap_setBox v (by omega)).trans h.1, (heap_setBox v (by omega)).trans h.2⟩
  have own2_turn : ∀ {st pe} {A : World} (st' : LoopState) (pe' : Option Code), Own2 st pe A → Own2 st' pe' (A.putObj (H + 1) (.loop (rec st' pe'))) := fun st' pe' h =>
    ⟨World.putObj_heap_same (Array.getElem?_eq_some_iff.1 h.1).1, (World.putObj_heap_other (by omega)).trans h.2⟩
  refine ⟨H + 1, [{ target := .collected H, args := #[] }], W1, { target := .fn (.func gf) lb, args := #[.func (.yield (H + 1)) #[] #[]] }, W1, gf, #[.func (.yield (H + 1)) #[] #[]] ++ lb, W1, run1, ?_, ?_, ?_, fun _ => h1, ?_⟩
  · simp only [resolve, hg]
    simp [go_sem]
  · intro f' hf'
    simp [Target.leads] at hf'
    subst hf'
    exact hFg
  · simp [invoke, go_sem, eg]
  refine (hseq (H + 1) (fun pre W => I pre W ∧ Own2 .ready none W) (fun pre W => ∃ c, Ix c pre W ∧ Own2 .done (some c) W) W1
    ⟨by omega, fun k hk => keep1 k (by rcases hk with h | h <;> omega)⟩ (fun s A v h => ⟨hIB _ _ v h.1, own2_box v h.2⟩)
    (fun s A v h => by obtain ⟨c, hc, ho⟩ := h; exact ⟨c, hIxB _ _ _ v hc, own2_box v ho⟩) ?_ ⟨I1, L1, D1⟩).mono ?_
  · -- one round
    rintro pre x W ⟨hi, ho⟩ hlen hsp
    have hy := run_yield (P := P) (args := encs x) ho.1 (by rw [hrec]; exact hps x)
    rw [hrec] at hy
    refine ⟨fn, _, assign, body, hy, roundIn_of_wpIn hfn (hassign _ x W _ ⟨_, run_beginRound ho.1 (by rw [hrec]), ?_⟩)⟩
    obtain ⟨W2, hW2⟩ : ∃ W2, W.putObj (H + 1) (.loop { rec .ready none with state := .busy }) = W2 := ⟨_, rfl⟩
    have e2 : ({ rec .ready none with state := .busy } : Loop) = rec .busy none := by rw [hrec, hrec]
    have ho2 : Own2 .busy none W2 := by rw [← hW2, e2]; exact own2_turn _ _ ho
    have hi2 : I pre W2 := by rw [← hW2]; exact hI.putObj _ hi (by omega) ho.1 rfl
    have hk2 : KeepB n₀ Bs W W2 := by rw [← hW2]; exact KeepB.putObj _ _ (by omega) (by omega)
    rw [hW2]
    have fin : ∀ (jump : Option Code) (W3 : World), KeepsFrom H W2 W3 → ∃ st, (Instr.endRound (H + 1) jump).run P W3 = .ok (.bool jump.isNone) (W3.putObj (H + 1) (.loop (rec st jump))) ∧ st = (if jump.isNone then .ready else .done) ∧
        W3.heap[H + 1]? = some (.loop (rec .busy none)) ∧ Own2 st jump (W3.putObj (H + 1) (.loop (rec st jump))) := fun jump W3 hk => by
      have o3 : Own2 .busy none W3 := ⟨hk.same _ _ (by omega) ho2.1 rfl, hk.same _ _ (Nat.le_refl _) ho2.2 rfl⟩
      refine ⟨_, ?_, rfl, o3.1, own2_turn _ _ o3⟩
      rw [run_endRound jump o3.1, hrec, hrec]
    refine wpIn_mono (hbody _ pre x W2 hi2 hlen hsp) fun e a3 W3 hp => ?_
    match e, hp with
    | .normal, hp =>
      obtain ⟨hk, hkp, hi3⟩ := hp
      obtain ⟨st, hr, rfl, hl, h4⟩ := fin none W3 hk
      exact ⟨_, _, hr, .inl ⟨rfl, ⟨hI.putObj _ hi3 (by omega) hl rfl, h4⟩, (hk2.trans hkp).trans (KeepB.putObj _ _ (by omega) (by omega))⟩⟩
    | .ret, hp =>
      obtain ⟨hk, hi3⟩ := hp
      obtain ⟨st, hr, rfl, hl, h4⟩ := fin (some .ret) W3 hk
      exact ⟨_, _, hr, .inr ⟨rfl, .ret, (hIx _).putObj _ hi3 (by omega) hl rfl, h4⟩⟩
    | .exit id, hp =>
      obtain ⟨hk, hi3⟩ := hp
      obtain ⟨st, hr, rfl, hl, h4⟩ := fin (some (.exit id)) W3 hk
      exact ⟨_, _, hr, .inr ⟨rfl, .exit id, (hIx _).putObj _ hi3 (by omega) hl rfl, h4⟩⟩
    | .goto t, hp =>
      obtain ⟨hk, hi3⟩ := hp
      obtain ⟨st, hr, rfl, hl, h4⟩ := fin (some (.goto t)) W3 hk
      exact ⟨_, _, hr, .inr ⟨rfl, .goto t, (hIx _).putObj _ hi3 (by omega) hl rfl, h4⟩⟩
    | .panic _, hp => exact hp.elim
    | .outgrown, hp => exact hp.elim
  · -- behind it
    rintro e W2 ⟨⟨v, rfl⟩, ⟨xs, hS, hi, ho⟩ | ⟨pre, hSp, c, hi, ho⟩⟩
    · refine ⟨none, _, ?_, hdone _ xs _ (Nat.le_refl _) hS (hI.putObj (.loop { rec .ready none with state := .exhausted }) hi (by omega) ho.1 rfl) ((World.putObj_heap_other (by omega)).trans ho.2)⟩
      have := run_endLoop (P := P) ho.1 (by rw [hrec]; simp)
      rw [hrec] at this ⊢
      exact this
    · refine ⟨some c, _, ?_, hstop _ c pre _ (Nat.le_refl _) hSp ((hIx c).putObj (.loop { rec .done (some c) with state := .exhausted }) hi (by omega) ho.1 rfl) ((World.putObj_heap_other (by omega)).trans ho.2)⟩
      have := run_endLoop (P := P) ho.1 (by rw [hrec]; simp)
      rw [hrec] at this ⊢
      exact this
end Go.Viv
namespace Go.Viv
open Go Go.Lib Go.RowKit
/-- How long the text in a cell is. -/
def textLen (w : World) (B : Nat) : Nat := match w.cell? ⟨B, 0, none⟩ with
  | some (.string s) => s.size
  | _ => 0
theorem textLen_of {w : World} {B : Nat} {s : List UInt8} (h : w.cell? ⟨B, 0, none⟩ = some (str s)) : textLen w B = s.length := by
  unfold textLen
  rw [h]
  exact size_str s
/-- What an iterator over a text's pieces tells. -/
structure Pieces (sep : ByteArray) (pt : List UInt8 → List (List UInt8)) : Prop where
  one : 1 ≤ sep.size
  miss : ∀ l : List UInt8, Lib.indexB ⟨l.toArray⟩ sep = -1 → pt l = [l]
  hit : ∀ (l : List UInt8) (i : Nat), Lib.indexB ⟨l.toArray⟩ sep = i → pt l = l.take i :: pt (l.drop (i + sep.size))
theorem Pieces.ne {sep : ByteArray} {pt : List UInt8 → List (List UInt8)} (h : Pieces sep pt) (l : List UInt8) : pt l ≠ [] := by
  rcases Lib.indexB_cases ⟨l.toArray⟩ sep with e | ⟨i, e, _⟩
  · rw [h.miss l e]; simp
  · rw [h.hit l i e]; simp
/-- A text of at most so many letters. -/
abbrev Upto (N : Nat) := { x : List UInt8 // x.length ≤ N }
end Go.Viv
namespace Go.Viv
open Go Go.Lib Go.RowKit
/-- A text's pieces. -/
def ptF (sep : ByteArray) : Nat → List UInt8 → List (List UInt8)
  | 0, l => [l]
  | n + 1, l => match Lib.indexB ⟨l.toArray⟩ sep with
    | .ofNat i => l.take i :: ptF sep n (l.drop (i + sep.size))
    | .negSucc _ => [l]
def pieces (sep : ByteArray) (l : List UInt8) : List (List UInt8) := ptF sep (l.length + 1) l
theorem ptF_fuel {sep : ByteArray} (h1 : 1 ≤ sep.size) : ∀ (n m : Nat) (l : List UInt8), l.length < n → l.length < m → ptF sep n l = ptF sep m l
  | 0, _, _, h, _ => absurd h (Nat.not_lt_zero _)
  | _ + 1, 0, _, _, h => absurd h (Nat.not_lt_zero _)
  | n + 1, m + 1, l, h, k => by
    unfold ptF
    rcases Lib.indexB_cases ⟨l.toArray⟩ sep with e | ⟨i, e, hr⟩
    · rw [e]; rfl
    · rw [e]
      have hr : i + sep.size ≤ l.length := by rw [size_str] at hr; exact hr
      refine congrArg (_ :: ·) (ptF_fuel h1 n m _ ?_ ?_) <;> rw [List.length_drop] <;> omega
theorem pieces_ok {sep : ByteArray} (h1 : 1 ≤ sep.size) : Pieces sep (pieces sep) := ⟨h1, fun l h => by
    unfold pieces ptF
    rw [h]; rfl, fun l i h => by
    have hr : i + sep.size ≤ l.length := by
      rcases Lib.indexB_cases ⟨l.toArray⟩ sep with e | ⟨j, e, hr⟩
      · rw [h] at e; omega
      · rw [h] at e
        have hr : j + sep.size ≤ l.length := by rw [size_str] at hr; exact hr
        have := Int.ofNat.inj e
        omega
    unfold pieces
    rw [ptF, h]
    refine congrArg (_ :: ·) (ptF_fuel h1 _ _ _ ?_ ?_) <;> rw [List.length_drop] <;> omega⟩
end Go.Viv
namespace Go.Proofs.YtenigphjddnknaaGreatDoor
open Go.RowKit Go.Viv Go.Shelf
attribute [local go_sem] Oper.semAt_some
theorem frozen_of_block {A B : World} {k : Nat} (h : B.heap[k]? = A.heap[k]?) : B.frozen? ⟨k, 0, none⟩ = A.frozen? ⟨k, 0, none⟩ := by simp [World.frozen?, h]
set_option maxRecDepth 100000 in
set_option maxHeartbeats 2000000 in
theorem seq85 (n : Nat) (hn : 1 ≤ n) (Bs n₀ : Nat) (sep : ByteArray) (pt : List UInt8 → List (List UInt8)) (hp : Pieces sep pt) (l : List UInt8) (hl : l.length < 4294967281) (m : Int) (w : World)
    (hc0 : w.cell? ⟨Bs, 0, none⟩ = some (str l)) (hf0 : w.frozen? ⟨Bs, 0, none⟩ = false) (hc1 : w.cell? ⟨Bs + 1, 0, none⟩ = some (.string sep)) (hc2 : w.cell? ⟨Bs + 2, 0, none⟩ = some (.int .i64 0))
    (hm : w.cell? ⟨0, 0, none⟩ = some (.int .i64 m)) (h0n : 0 < n₀) (hB : n₀ ≤ Bs) :
    SeqBox Fence.wide n Tryz.prog 59 #[.pointer (some ⟨Bs + 1, 0, none⟩), .pointer (some ⟨Bs, 0, none⟩), .pointer (some ⟨Bs + 2, 0, none⟩)] (fun x : Upto l.length => #[str x.1]) n₀ Bs (fun xs => xs.map (·.1) = pt l) (fun pre => pre.map (·.1) <+: pt l) (pt l).length w := fun lp J Jx W hW hJ hJx hY h0 => by
  refine callsIn_of_wp Tryz.func59 rfl trivial ?_ rfl
  simp only [Tryz.ntmps59, List.size_toArray, List.length_cons, List.length_nil, Nat.reduceAdd, Nat.reduceSub, Array.replicate_succ, Array.replicate_zero, List.push_toArray, List.append_toArray, List.nil_append, List.cons_append]
  have d0 := (hW.cell (p := ⟨Bs, 0, none⟩) (.inr (by simp))).trans hc0
  have d1 := (hW.cell (p := ⟨Bs + 1, 0, none⟩) (.inr (by simp))).trans hc1
  have d2 := (hW.cell (p := ⟨Bs + 2, 0, none⟩) (.inr (by simp))).trans hc2
  have dm := (hW.cell (p := ⟨0, 0, none⟩) (.inl h0n)).trans hm
  have df : W.frozen? ⟨Bs, 0, none⟩ = false := (frozen_of_block (hW.2 Bs (.inr (by omega)))).trans hf0
  have hs0 : (((sep.size : Nat) : Int) == 0) = false := beq_eq_false_iff_ne.2 (by have := hp.one; omega)
  gi_wp2
  gi_loopw [7] (fun _ wr => ∃ (pre : List (Upto l.length)) (s : List UInt8), wr.cell? ⟨Bs, 0, none⟩ = some (str s) ∧ wr.frozen? ⟨Bs, 0, none⟩ = false ∧ wr.cell? ⟨Bs + 1, 0, none⟩ = some (.string sep) ∧ wr.cell? ⟨Bs + 2, 0, none⟩ = some (.int .i64 0) ∧ wr.cell? ⟨0, 0, none⟩ = some (.int .i64 m) ∧ pt l = pre.map (·.1) ++ pt s ∧ s.length ≤ l.length ∧ J pre wr) (fun _ wr => textLen wr Bs)
  case atStart => exact ⟨[], l, d0, df, d1, d2, dm, rfl, Nat.le_refl _, h0⟩
  case round =>
    obtain ⟨pre, s, e0, ef, e1, e2, em, hx, hsl, hJs⟩ := hrel
    have hix := Any.strings_Index Tryz.lays143 ⟨s.toArray⟩ sep m wr (by rw [size_str]; omega) em
    have hpl : pre.length < (pt l).length := by
      rw [hx, List.length_append, List.length_map]
      have := List.length_pos_iff.2 (hp.ne s)
      omega
    rcases Lib.indexB_cases ⟨s.toArray⟩ sep with hi | ⟨i, hi, hroom⟩
    · have hix2 : Calls Tryz.prog 61 #[str s, .string sep] wr fun e w' => e = .returned (.int .i64 (-1)) ∧ wr = w' := hix.mono (fun e w' ⟨h1, h2⟩ => ⟨by rw [h1]; exact congrArg (fun z => Ending.returned (Value.int .i64 z)) hi, h2.symm⟩)
      obtain ⟨fn, tmps, assign, body, hy, hR⟩ := hY pre ⟨s, hsl⟩ wr hJs hpl ⟨[], by rw [hx, hp.miss s hi]; simp⟩
      clear hix
      dsimp only at hy
      gi_wp2_with (first | (gi_at_call 61; refine (callsIn_wide.2 hix2).mono ?_; rintro e w' ⟨rfl, rfl⟩) | (refine ⟨trivial, ?_⟩; gi_at_call 61; refine (callsIn_wide.2 hix2).mono ?_; rintro e w' ⟨rfl, rfl⟩))
      refine hR.mono ?_
      rintro e W3 (⟨rfl, hJ3, hk3⟩ | ⟨rfl, hJx3⟩)
      all_goals
        gi_wp2
        go_end0
      · exact ⟨⟨_, rfl⟩, .inl ⟨_, by rw [hx, hp.miss s hi]; simp, hJ3⟩⟩
      · exact ⟨⟨_, rfl⟩, .inr ⟨_, by rw [hx, hp.miss s hi]; simp, hJx3⟩⟩
    · have hix2 : Calls Tryz.prog 61 #[str s, .string sep] wr fun e w' => e = .returned (.int .i64 (i : Int)) ∧ wr = w' := hix.mono (fun e w' ⟨h1, h2⟩ => ⟨by rw [h1]; exact congrArg (fun z => Ending.returned (Value.int .i64 z)) hi, h2.symm⟩)
      have hb : i + sep.size ≤ s.length := by rw [size_str] at hroom; exact hroom
      obtain ⟨fn, tmps, assign, body, hy, hR⟩ := hY pre ⟨s.take i, by simp; omega⟩ wr hJs hpl ⟨pt (s.drop (i + sep.size)), by rw [hx, hp.hit s i hi]; simp⟩
      dsimp only at hy
      have hi0 : decide ((i : Int) < 0) = false := decide_eq_false (by omega)
      have x1 : (ByteArray.mk s.toArray).extract 0 i = ⟨(s.take i).toArray⟩ := ba_ext (by rw [Lib.extract_data, data_str]; simp)
      have x2 : (ByteArray.mk s.toArray).extract (i + sep.size) s.length = ⟨(s.drop (i + sep.size)).toArray⟩ := ba_ext (by rw [Lib.extract_data, data_str, List.take_of_length_le (by simp)])
      have hb1 : (i : Int) ≤ s.length := by omega
      have hb2 : (i : Int) + sep.size ≤ s.length := by omega
      clear hix
      gi_wp2_with (first | (gi_at_call 61; refine (callsIn_wide.2 hix2).mono ?_; rintro e w' ⟨rfl, rfl⟩) | (refine ⟨trivial, ?_⟩; gi_at_call 61; refine (callsIn_wide.2 hix2).mono ?_; rintro e w' ⟨rfl, rfl⟩))
      refine hR.mono ?_
      rintro e W3 (⟨rfl, hJ3, hk3⟩ | ⟨rfl, hJx3⟩)
      · have q0 := (hk3.cell (p := ⟨Bs, 0, none⟩) (.inr (by simp))).trans e0
        have qf : W3.frozen? ⟨Bs, 0, none⟩ = false := (frozen_of_block (hk3.2 Bs (.inr (by omega)))).trans ef
        have q1 := (hk3.cell (p := ⟨Bs + 1, 0, none⟩) (.inr (by simp))).trans e1
        have q2 := (hk3.cell (p := ⟨Bs + 2, 0, none⟩) (.inr (by simp))).trans e2
        have qm := (hk3.cell (p := ⟨0, 0, none⟩) (.inl h0n)).trans em
        gi_wp2
        go_roundw
        case rel =>
          refine ⟨pre ++ [⟨s.take i, by simp; omega⟩], s.drop (i + sep.size), ?_, ?_, ?_, ?_, ?_, by rw [hx, hp.hit s i hi]; simp, by simp; omega, hJ _ _ _ hJ3⟩
          · exact World.cell?_setCell_same' _ _ _ (by rw [q0]; rfl)
          · rw [World.frozen?_setCell]; exact qf
          · rw [World.cell?_setCell_far _ _ _ _ (by simp)]; exact q1
          · rw [World.cell?_setCell_far _ _ _ _ (by simp)]; exact q2
          · rw [World.cell?_setCell_far _ _ _ _ (by simp; omega)]; exact qm
        case measure =>
          rw [textLen_of e0, textLen_of (World.cell?_setCell_same' _ _ _ (by rw [q0]; rfl))]
          have := hp.one
          simp
          omega
      · gi_wp2
        refine bodyPost_ret (results_none rfl _ _ _) rfl ?_
        exact ⟨⟨_, rfl⟩, .inr ⟨_, by rw [hx, hp.hit s i hi]; exact ⟨pt (s.drop (i + sep.size)), by simp⟩, hJx3⟩⟩
end Go.Proofs.YtenigphjddnknaaGreatDoor
set_option linter.unusedVariables false
namespace Go.Viv
open Go Go.Lib Go.RowKit
structure Insn where
  op : Int
  r : Int
  s : Int
  n : Int
abbrev Insn.agg (i : Insn) : Value := .agg #[.int .i64 i.op, .int .i64 i.r, .int .i64 i.s, .int .i64 i.n]
abbrev cellsI (i : Insn) : List Value := [.int .i64 i.op, .int .i64 i.r, .int .i64 i.s, .int .i64 i.n]
theorem flatI_snoc (is : List Insn) (i : Insn) : (is ++ [i]).flatMap cellsI = is.flatMap cellsI ++ cellsI i := by simp
theorem ins_new (w : World) (i : Insn) : ∀ (j : Nat) u, (cellsI i)[j]? = some u → (w.alloc (.cells #[.int .i64 i.op, .int .i64 i.r, .int .i64 i.s, .int .i64 i.n] 152)).cell? ((⟨w.heap.size, 0, none⟩ : Addr).add j) = some u := fun j u hj => by
  rw [show (⟨w.heap.size, 0, none⟩ : Addr).add j = ⟨w.heap.size, 0 + j, none⟩ by simp [Addr.add]; omega, Nat.zero_add, (Blk.new w 152 #[.int .i64 i.op, .int .i64 i.r, .int .i64 i.s, .int .i64 i.n]).cell, ← Array.getElem?_toList]
  exact hj
theorem ins_at {w : World} {n : Nat} (h : n = w.heap.size) (i : Insn) : ∀ (j : Nat) u, (cellsI i)[j]? = some u → (w.alloc (.cells #[.int .i64 i.op, .int .i64 i.r, .int .i64 i.s, .int .i64 i.n] 152)).cell? ((⟨n, 0, none⟩ : Addr).add j) = some u := by
  subst h
  exact ins_new w i
theorem boxed_own {X Y : World} {row : Option Nat} {B : Nat} {t : TypeId} {v : Value} (h : Boxed X B t v) (hg : X.grownBy Y row) (hr : ∀ r, row = some r → ∃ o : Obj, X.heap[r]? = some o ∧ o.isCells = false) : Boxed Y B t v :=
  h.kept hg (fun e => by
    obtain ⟨o, ho, hc⟩ := hr B e.symm
    rw [show X.heap[B]? = _ from h] at ho
    cases ho
    cases hc)
theorem row_own {X Y : World} {row : Option Nat} {base : Nat} {e : TypeId} {size k : Nat} {v : Value} {xs : List Value} (h : X.ownsRow base e size v k xs) (hg : X.grownBy Y row) (hr : ∀ r, row = some r → ∃ o : Obj, X.heap[r]? = some o ∧ o.isCells = false) : Y.ownsRow base e size v k xs := by
  refine h.kept hg ?_
  rcases h.2 with ⟨rfl, _⟩ | ⟨g, cap, cur, rfl, _, hgb, _⟩
  · exact .inl rfl
  · refine .inr fun e' => ?_
    obtain ⟨o, ho, hc⟩ := hr g (by simpa [Value.ownBlock] using e'.symm)
    rw [hgb] at ho
    cases ho
    cases hc
theorem boxed_fr {X Y : World} {B : Nat} {t : TypeId} {v : Value} (h : Boxed X B t v) (hf : Fr (fun _ => False) X Y) : Boxed Y B t v := (hf.block B h.lt (fun h => h)).trans h
theorem boxed_far {X : World} {B : Nat} {t : TypeId} {v : Value} (h : Boxed X B t v) {p : Addr} (hp : B ≠ p.block) (u : Value) : Boxed (X.setCell p u) B t v := (Below.heap_setCell X p u B hp).trans h
theorem others_fr {X Y : World} (hf : Fr (fun _ => False) X Y) : KeepsOthers X Y := ⟨hf.size, fun k _ hk _ => (hf.block k (Array.getElem?_eq_some_iff.1 hk).1 (fun h => h)).trans hk⟩
/-- The three boxes of the iterator. -/
structure Box3 (W : World) (Bs : Nat) : Prop where
  s : ∃ u, Boxed W Bs 9 u
  sep : ∃ u, Boxed W (Bs + 1) 9 u
  save : ∃ u, Boxed W (Bs + 2) 3 u
theorem Box3.own {X Y : World} {row : Option Nat} {Bs : Nat} (h : Box3 X Bs) (hg : X.grownBy Y row) (hr : ∀ r, row = some r → ∃ o : Obj, X.heap[r]? = some o ∧ o.isCells = false) : Box3 Y Bs :=
  ⟨let ⟨u, h⟩ := h.s; ⟨u, boxed_own h hg hr⟩, let ⟨u, h⟩ := h.sep; ⟨u, boxed_own h hg hr⟩, let ⟨u, h⟩ := h.save; ⟨u, boxed_own h hg hr⟩⟩
theorem Box3.set {X : World} {Bs : Nat} (h : Box3 X Bs) (v : Value) : Box3 (X.setCell ⟨Bs, 0, none⟩ v) Bs :=
  ⟨let ⟨u, h⟩ := h.s; ⟨v, h.set v⟩, let ⟨u, h⟩ := h.sep; ⟨u, boxed_far h (by simp) v⟩, let ⟨u, h⟩ := h.save; ⟨u, boxed_far h (by simp) v⟩⟩
theorem Box3.keep {X Y : World} {n₀ Bs : Nat} (h : Box3 X Bs) (k : KeepB n₀ Bs X Y) : Box3 Y Bs :=
  ⟨let ⟨u, h⟩ := h.s; ⟨u, (k.2 Bs (.inr (by omega))).trans h⟩, let ⟨u, h⟩ := h.sep; ⟨u, (k.2 (Bs + 1) (.inr (by omega))).trans h⟩, let ⟨u, h⟩ := h.save; ⟨u, (k.2 (Bs + 2) (.inr (by omega))).trans h⟩⟩
/-- Between two rounds: k pieces are read. -/
structure SpI (w : World) (is : List Insn) (k : Nat) (W : World) (v : Value) : Prop where
  out : Boxed W (w.heap.size + 2) 33 v
  row : W.ownsRow w.heap.size 152 4 v k ((is.take k).flatMap cellsI)
  r0 : Boxed W w.heap.size 33 (.slice none 0 0)
  r1 : Boxed W (w.heap.size + 1) 36 (.int .i64 0)
  box : Box3 W (w.heap.size + 3)
theorem SpI.own {w X Y : World} {row : Option Nat} {is : List Insn} {k : Nat} {v : Value} (h : SpI w is k X v) (hg : X.grownBy Y row) (hr : ∀ r, row = some r → ∃ o : Obj, X.heap[r]? = some o ∧ o.isCells = false) : SpI w is k Y v :=
  ⟨boxed_own h.out hg hr, row_own h.row hg hr, boxed_own h.r0 hg hr, boxed_own h.r1 hg hr, h.box.own hg hr⟩
theorem SpI.set {w X : World} {is : List Insn} {k : Nat} {v : Value} (h : SpI w is k X v) (u : Value) : SpI w is k (X.setCell ⟨w.heap.size + 3, 0, none⟩ u) v := by
  obtain ⟨u0, hb⟩ := h.box.s
  exact ⟨boxed_far h.out (by simp) u, h.row.kept (grownBy_setCell' X _ u) (.inr (hb.not_row (by decide) h.row).symm), boxed_far h.r0 (by simp) u, boxed_far h.r1 (by simp) u, h.box.set u⟩
end Go.Viv
namespace Go.Proofs.YtenigphjddnknaaGreatDoor
open Go.RowKit Go.Viv Go.Shelf
theorem splitSeq_any (l : List UInt8) (sep : ByteArray) (w : World) : Calls Tryz.prog 15 #[str l, .string sep] w fun e w' => e = .returned (.func (.func 59) #[] #[.pointer (some ⟨w.heap.size + 1, 0, none⟩), .pointer (some ⟨w.heap.size, 0, none⟩), .pointer (some ⟨w.heap.size + 2, 0, none⟩)]) ∧ w' = ((w.alloc (.cells #[str l] 9)).alloc (.cells #[.string sep] 9)).alloc (.cells #[.int .i64 0] 3) := by
  have h75 : ∀ W : World, Calls Tryz.prog 37 #[str l, .string sep, .int .i64 0] W fun e w' => e = .returned (.func (.func 59) #[] #[.pointer (some ⟨W.heap.size + 1, 0, none⟩), .pointer (some ⟨W.heap.size, 0, none⟩), .pointer (some ⟨W.heap.size + 2, 0, none⟩)]) ∧ w' = ((W.alloc (.cells #[str l] 9)).alloc (.cells #[.string sep] 9)).alloc (.cells #[.int .i64 0] 3) := fun W => by
    go_enter Tryz.func37, Tryz.ntmps37
    go_wp2
    go_ret
    exact ⟨rfl, rfl⟩
  go_enter Tryz.func15, Tryz.ntmps15
  go_wp2_with (go_at_call 37; refine (h75 _).mono ?_; rintro e w1 ⟨rfl, rfl⟩)
  go_ret
  exact ⟨rfl, rfl⟩
theorem info152 : (Tryz.prog.info? 152).map (fun i => (i.zero, i.size, i.bytes)) = some (some (.agg #[.int .i64 0, .int .i64 0, .int .i64 0, .int .i64 0]), 4, 32) := by kernel_rfl
attribute [local go_sem] Oper.semAt_some
set_option maxRecDepth 100000 in
set_option maxHeartbeats 4000000 in
/-- code.Split of a text all of whose pieces are read. -/
theorem split_go (l : List UInt8) (w : World) {m : Int} (hm : w.cell? ⟨0, 0, none⟩ = some (.int .i64 m)) (hl : l.length < 100000) (hne : l ≠ []) (is : List Insn) (hlen : (pieces ⟨#[59, 32]⟩ l).length = is.length) (hmax : is.length ≤ 100000)
    (hp : ∀ (k : Nat) (x : List UInt8) (i : Insn), (pieces ⟨#[59, 32]⟩ l)[k]? = some x → is[k]? = some i → ∀ W, Fr (fun _ => False) w W → Calls Tryz.prog 66 #[str x] W fun e w' => e = .returned (.tuple #[i.agg, .int .i64 0]) ∧ Fr (fun _ => False) W w') :
    Calls Tryz.prog 41 #[str l] w fun e w' => ∃ v, e = .returned (.tuple #[v, .int .i64 0]) ∧ w'.ownsRow w.heap.size 152 4 v is.length (is.flatMap cellsI) ∧ Fr (fun _ => False) w w' := by
  have hz : l.isEmpty = false := by cases l with
    | nil => exact absurd rfl hne
    | cons a r => rfl
  refine (callsIn_wide (n := 3)).1 ?_
  refine callsIn_of_wp_marks Tryz.func41 rfl trivial ?_ rfl
  simp only [Tryz.ntmps41, List.size_toArray, List.length_cons, List.length_nil, Nat.reduceAdd, Nat.reduceSub, Array.replicate_succ, Array.replicate_zero, List.push_toArray, List.append_toArray, List.nil_append, List.cons_append]
  gi_wp2_with (first | (gi_at_call 15; refine (callsIn_wide.2 (splitSeq_any l _ _)).mono ?_; rintro e w1 ⟨rfl, rfl⟩) | (refine ⟨trivial, ?_⟩; gi_at_call 15; refine (callsIn_wide.2 (splitSeq_any l _ _)).mono ?_; rintro e w1 ⟨rfl, rfl⟩))
  have h0w : 0 < w.heap.size := World.block_lt_of_cell? _ _ hm
  obtain ⟨W0, hW0⟩ : ∃ W0, (((((w.alloc (.cells #[.slice none 0 0] 33)).alloc (.cells #[.int .i64 0] 36)).alloc (.cells #[.slice none 0 0] 33)).alloc (.cells #[str l] 9)).alloc (.cells #[.string ⟨#[59, 32]⟩] 9)).alloc (.cells #[.int .i64 0] 3) = W0 := ⟨_, rfl⟩
  have sz : W0.heap.size = w.heap.size + 6 := by rw [← hW0]; simp
  have q0 : Boxed W0 w.heap.size 33 (.slice none 0 0) := by rw [← hW0]; exact (((((Boxed.new w 33 _).alloc _).alloc _).alloc _).alloc _).alloc _
  have q1 : Boxed W0 (w.heap.size + 1) 36 (.int .i64 0) := by
    rw [← hW0]
    have := Boxed.new (w.alloc (.cells #[.slice none 0 0] 33)) 36 (.int .i64 0)
    rw [World.size_alloc] at this
    exact (((this.alloc _).alloc _).alloc _).alloc _
  have q2 : Boxed W0 (w.heap.size + 2) 33 (.slice none 0 0) := by
    rw [← hW0]
    have := Boxed.new ((w.alloc (.cells #[.slice none 0 0] 33)).alloc (.cells #[.int .i64 0] 36)) 33 (.slice none 0 0)
    rw [World.size_alloc, World.size_alloc] at this
    exact ((this.alloc _).alloc _).alloc _
  have q3 : Boxed W0 (w.heap.size + 3) 9 (str l) := by
    rw [← hW0]
    have := Boxed.new (((w.alloc (.cells #[.slice none 0 0] 33)).alloc (.cells #[.int .i64 0] 36)).alloc (.cells #[.slice none 0 0] 33)) 9 (str l)
    rw [World.size_alloc, World.size_alloc, World.size_alloc] at this
    exact (this.alloc _).alloc _
  have q4 : Boxed W0 (w.heap.size + 3 + 1) 9 (.string ⟨#[59, 32]⟩) := by
    rw [← hW0]
    have := Boxed.new ((((w.alloc (.cells #[.slice none 0 0] 33)).alloc (.cells #[.int .i64 0] 36)).alloc (.cells #[.slice none 0 0] 33)).alloc (.cells #[str l] 9)) 9 (.string ⟨#[59, 32]⟩)
    rw [World.size_alloc, World.size_alloc, World.size_alloc, World.size_alloc] at this
    exact this.alloc _
  have q5 : Boxed W0 (w.heap.size + 3 + 2) 3 (.int .i64 0) := by
    rw [← hW0]
    have := Boxed.new (((((w.alloc (.cells #[.slice none 0 0] 33)).alloc (.cells #[.int .i64 0] 36)).alloc (.cells #[.slice none 0 0] 33)).alloc (.cells #[str l] 9)).alloc (.cells #[.string ⟨#[59, 32]⟩] 9)) 3 (.int .i64 0)
    rw [World.size_alloc, World.size_alloc, World.size_alloc, World.size_alloc, World.size_alloc] at this
    exact this
  have hB0 : Below w.heap.size w W0 := by
    rw [← hW0]
    exact ((((((Below.refl _ w).alloc (Nat.le_refl _) _).alloc (by simp) _).alloc (by simp; omega) _).alloc (by simp; omega) _).alloc (by simp; omega) _).alloc (by simp; omega) _
  rw [hW0]
  clear hW0
  refine wpIn_rangeFunc_box rfl (by omega) (gf := 59) (lb := #[.pointer (some ⟨w.heap.size + 3 + 1, 0, none⟩), .pointer (some ⟨w.heap.size + 3, 0, none⟩), .pointer (some ⟨w.heap.size + 3 + 2, 0, none⟩)]) rfl trivial (enters_of Tryz.func59 (by kernel_rfl) rfl)
    (n₀ := w.heap.size) (Bs := w.heap.size + 3) (by omega) (by omega) (seq85 (3 - 1) (by omega) (w.heap.size + 3) w.heap.size ⟨#[59, 32]⟩ (pieces ⟨#[59, 32]⟩) (pieces_ok (by decide)) l (by omega) m W0 q3.cell q3.frozen q4.cell q5.cell ((hB0.cell (p := ⟨0, 0, none⟩) h0w).trans hm) h0w (by omega)) (fun _ => rfl)
    (fun (pre : List (Upto l.length)) W => (∃ v, SpI w is pre.length W v) ∧ Below w.heap.size w W)
    (fun _ _ _ => False)
    (OwnFrom.and (fun s X Y row hs hg hr => let ⟨v, h⟩ := hs; ⟨v, h.own hg (fun r e => (hr r e).2)⟩) (ownFrom_below (Nat.le_refl _) (by omega)))
    (fun c s X Y row hs hg hr => hs)
    (fun s A v h => ⟨let ⟨u, h⟩ := h.1; ⟨u, h.set v⟩, h.2.setCell (p := ⟨w.heap.size + 3, 0, none⟩) (by simp) v⟩)
    (fun c s A v h => h)
    ⟨⟨_, q2, World.ownsRow_nil _ _ _ _, q0, q1, ⟨⟨_, q3⟩, ⟨_, q4⟩, ⟨_, q5⟩⟩⟩, hB0⟩
    (fun (x : Upto l.length) => { tmps := #[str l, undef, .pointer (some ⟨w.heap.size, 0, none⟩), .pointer (some ⟨w.heap.size + 1, 0, none⟩), .pointer (some ⟨w.heap.size + 2, 0, none⟩), str x.1, undef, undef, str l, .bool false, str l, .func (.func 59) #[] #[.pointer (some ⟨w.heap.size + 3 + 1, 0, none⟩), .pointer (some ⟨w.heap.size + 3, 0, none⟩), .pointer (some ⟨w.heap.size + 3 + 2, 0, none⟩)], str x.1, undef, undef, undef, undef, undef, undef, undef, undef, undef, undef, undef, undef, undef], defers := [] }) ?assign ?body ?done ?stop
  case assign =>
    intro l x W K hK
    gi_wp2
    exact hK
  case body =>
    rintro lp pre ⟨x, hx⟩ W ⟨⟨v, hI⟩, hB⟩ hlen' hsp
    obtain ⟨post, hpost⟩ := hsp
    have hxk : (pieces ⟨#[59, 32]⟩ l)[pre.length]? = some x := by
      rw [← hpost, List.map_append, List.append_assoc, List.getElem?_append_right (by simp)]
      simp
    have hk : pre.length < is.length := by rw [← hlen]; exact (List.getElem?_eq_some_iff.1 hxk).1
    obtain ⟨i, hik⟩ : ∃ i, is[pre.length]? = some i := ⟨_, List.getElem?_eq_getElem hk⟩
    have htake : is.take (pre.length + 1) = is.take pre.length ++ [i] := by rw [List.take_add_one, hik]; rfl
    have hp1 := hp _ _ _ hxk hik W (Fr.of_below hB)
    dsimp only
    have hsize := hB.size
    obtain ⟨i0, hi, hz0, hz1, hz2⟩ := info_parts info152
    gi_wp2_with (first
      | (refine ⟨trivial, ?_⟩; gi_at_call 66; refine (CallsIn.inRound lp (callsIn_wide.2 hp1)).mono ?_; rintro e w2 ⟨rfl, hf2⟩; have hout := (boxed_fr hI.out hf2).alloc (.cells #[.int .i64 i.op, .int .i64 i.r, .int .i64 i.s, .int .i64 i.n] 152); have hrow := (own_fr hI.row hf2 (fun _ _ h => h)).alloc (.cells #[.int .i64 i.op, .int .i64 i.r, .int .i64 i.s, .int .i64 i.n] 152); have hc := hout.cell; have hn2 : w.heap.size ≤ (w2.alloc (.cells #[.int .i64 i.op, .int .i64 i.r, .int .i64 i.s, .int .i64 i.n] 152)).heap.size := by (have := hf2.size; simp; omega))
      | (gi_at_builtin; refine wpListIn_append_own _ rfl _ _ 33 rfl w.heap.size 152 i0 _ 4 32 Tryz.underlying33 hi hz0 hz1 hz2 rfl (by decide) _ _ _ rfl (hrow.alloc _) ⟨w2.heap.size + 1, 0, none⟩ 1 1 (cellsI i) rfl rfl (ins_at (by simp) i) (by simp [Value.oneCell']) (by unfold maxLen; omega) (by omega) (by simp; have := hf2.size; omega) ?_; intro v' w3 hown' hgrow _; obtain ⟨g', cap', rfl⟩ := ownsRow_succ hown'; obtain ⟨hv1, hv2, hr2, hk2, hb2⟩ := hout.appended (by decide) hrow hn2 (by omega) hown' hgrow; have hc1 := hv1.cell; have hf1 := hv1.frozen))
    have hbb : Below w.heap.size W w2 := hf2.below hsize (fun _ h => h.elim)
    have hs2 := hf2.size
    have hkb : ∀ (k t : Nat) (u : Value), t ≠ 152 → k ≠ w.heap.size + 2 → Boxed W k t u → Boxed (w3.setCell ⟨w.heap.size + 2, 0, none⟩ (.slice (some ⟨g', 0, none⟩) (pre.length + 1) cap')) k t u := fun k t u ht hk hb => by
      have b2 := (boxed_fr hb hf2).alloc (.cells #[.int .i64 i.op, .int .i64 i.r, .int .i64 i.s, .int .i64 i.n] 152)
      exact boxed_far ((b2.alloc _).kept hgrow (b2.not_row ht hrow)) hk _
    have hBW : Below w.heap.size W (w3.setCell ⟨w.heap.size + 2, 0, none⟩ (.slice (some ⟨g', 0, none⟩) (pre.length + 1) cap')) := (hbb.alloc (by omega) _).trans hb2
    have hKB : KeepB w.heap.size (w.heap.size + 3) W (w3.setCell ⟨w.heap.size + 2, 0, none⟩ (.slice (some ⟨g', 0, none⟩) (pre.length + 1) cap')) := by
      refine ⟨hBW.size, fun k hk => ?_⟩
      obtain ⟨u0, e0⟩ := hI.box.s
      obtain ⟨u1, e1⟩ := hI.box.sep
      obtain ⟨u2, e2⟩ := hI.box.save
      rcases hk with hk | ⟨h1, h2⟩
      · exact hBW.block k hk
      · have hc : k = w.heap.size + 3 ∨ k = w.heap.size + 3 + 1 ∨ k = w.heap.size + 3 + 2 := by omega
        rcases hc with rfl | rfl | rfl
        · exact (hkb _ _ _ (by decide) (by omega) e0).trans (Eq.symm e0)
        · exact (hkb _ _ _ (by decide) (by omega) e1).trans (Eq.symm e1)
        · exact (hkb _ _ _ (by decide) (by omega) e2).trans (Eq.symm e2)
    refine ⟨((others_fr hf2).trans ((KeepsOthers.alloc _ _).trans hk2)).from _, hKB, ⟨_, hv2, ?_, hkb _ _ _ (by decide) (by omega) hI.r0, hkb _ _ _ (by decide) (by omega) hI.r1, hI.box.keep hKB⟩, hB.trans hBW⟩
    rw [List.length_append, List.length_singleton, htake, flatI_snoc]
    simpa using hr2
  case done =>
    rintro D ys W hD hS ⟨⟨v, hI⟩, hB⟩ hK
    have hys : ys.length = is.length := by rw [← hlen, ← hS, List.length_map]
    rw [hys] at hI
    have hrw := hI.row
    rw [List.take_of_length_le (Nat.le_refl _)] at hrw
    obtain ⟨A, cap, rfl, h1, h2, h3⟩ := rowC_of_own hrw
    have b0 := hI.r0
    have b1 := hI.r1
    have b2 := hI.out
    have k0 := b0.lt
    have k1 := b1.lt
    have c0 := b0.cell
    have c1 := b1.cell
    have c2 := b2.cell
    have f0 := b0.frozen
    have f1 := b1.frozen
    have hrow := hrw
    have hK2 := ((KeepsOthers.setCell W ⟨w.heap.size, 0, none⟩ (.slice A is.length cap)).trans (KeepsOthers.setCell _ ⟨w.heap.size + 1, 0, none⟩ (.int .i64 0))).same D _ hK rfl
    have hrow1 : (W.setCell ⟨w.heap.size, 0, none⟩ (.slice A is.length cap)).ownsRow w.heap.size 152 4 (.slice A is.length cap) is.length (is.flatMap cellsI) := hrow.kept (grownBy_setCell' W _ _) (.inr (b0.not_row (by decide) hrow).symm)
    have b1' : Boxed (W.setCell ⟨w.heap.size, 0, none⟩ (.slice A is.length cap)) (w.heap.size + 1) 36 (.int .i64 0) := boxed_far b1 (by simp) _
    have hrow2 : ((W.setCell ⟨w.heap.size, 0, none⟩ (.slice A is.length cap)).setCell ⟨w.heap.size + 1, 0, none⟩ (.int .i64 0)).ownsRow w.heap.size 152 4 (.slice A is.length cap) is.length (is.flatMap cellsI) := hrow1.kept (grownBy_setCell' _ _ _) (.inr (b1'.not_row (by decide) hrow1).symm)
    have d0 := (boxed_far (b0.set (.slice A is.length cap)) (p := ⟨w.heap.size + 1, 0, none⟩) (by simp) (.int .i64 0)).cell
    have d1 := ((boxed_far b1 (p := ⟨w.heap.size, 0, none⟩) (by simp) (.slice A is.length cap)).set (.int .i64 0)).cell
    gi_wp2
    refine ⟨by simp, .inl ⟨_, _, rfl, run_takeDeferred hK2, ?_⟩⟩
    have p0 := (World.cell?_of_block (a := ⟨w.heap.size, 0, none⟩) (World.putObj_heap_other (w := (W.setCell ⟨w.heap.size, 0, none⟩ (.slice A is.length cap)).setCell ⟨w.heap.size + 1, 0, none⟩ (.int .i64 0)) (r := D) (k := w.heap.size) (o := .deferred none) (by omega))).trans d0
    have p1 := (World.cell?_of_block (a := ⟨w.heap.size + 1, 0, none⟩) (World.putObj_heap_other (w := (W.setCell ⟨w.heap.size, 0, none⟩ (.slice A is.length cap)).setCell ⟨w.heap.size + 1, 0, none⟩ (.int .i64 0)) (r := D) (k := w.heap.size + 1) (o := .deferred none) (by omega))).trans d1
    refine ⟨.tuple #[.slice A is.length cap, .int .i64 0], by simp [results, Tryz.results41, go_sem, p0, p1], .slice A is.length cap, rfl, ownsRow_putObj hrow2 (.deferred none) hK2 rfl, ?_⟩
    exact Fr.of_below ((((hB.setCell (p := ⟨w.heap.size, 0, none⟩) (Nat.le_refl _) _).setCell (p := ⟨w.heap.size + 1, 0, none⟩) (by simp) _).trans (belowK_b (w := W0) hB0.size _ D _ _ hD hK2 rfl rfl)))
  case stop =>
    rintro D c pre W hD hSp hX
    exact hX.elim
end Go.Proofs.YtenigphjddnknaaGreatDoor
