/-
  CursorSpawns is true, whatever the numbers are; and from a run to the given row.
-/
import Derived.Test.YtogmgjcdicnceaaGreatDoorBase
import Derived.Maps.AppendAt
import Derived.Deep.Slices
import Derived.Deep.Fields
import Derived.ChangeSame
import Derived.Test.YtogmgjcdicnceaaGreatDoorRows
import Derived.ProofKit
import Derived.OpenShut
import Derived.Lib.SmallJoins
import Derived.Lay
import Derived.LaidMore
import Derived.Lib.LaidTab
import Derived.Stop.LaidErr
import Derived.Stop.Joined
import Derived.MakeChecks
import Derived.HandedShaped
import Derived.Shelf.Vars
import Derived.SevenTiedAt
import Derived.SizedLaws
import Derived.ChangeMaps5
import Derived.Deep.DeepHandedRow
import Derived.Test.YtogmgjcdicnceaaGreatDoorFvH
import Derived.Test.YtogmgjcdicnceaaGreatDoorCsN
import Derived.Test.YtogmgjcdicnceaaGreatDoorCsu0
import Derived.Test.YtogmgjcdicnceaaGreatDoorCsu1
import Derived.Test.YtogmgjcdicnceaaGreatDoorCsu2
import Derived.Test.YtogmgjcdicnceaaGreatDoorCsu3
import Derived.Test.YtogmgjcdicnceaaGreatDoorCsu4
import Derived.Test.YtogmgjcdicnceaaGreatDoorCsu5
import Derived.Test.YtogmgjcdicnceaaGreatDoorCsu6
import Derived.Test.YtogmgjcdicnceaaGreatDoorCsu7
import Derived.Test.YtogmgjcdicnceaaGreatDoorCsu8
import Derived.Test.YtogmgjcdicnceaaGreatDoorCsu9
import Derived.Test.YtogmgjcdicnceaaGreatDoorCsu10
import Derived.Test.YtogmgjcdicnceaaGreatDoorCsu11
namespace Go.Viv
open Go.RowKit Go.Maps

/-- The cells cs lie at A, one behind the other. -/
def RowC (w : World) (A : Option Addr) (cs : List Value) : Prop := cs = [] ∨ ∃ b o, A = some ⟨b, o, none⟩ ∧ b < w.heap.size ∧ ∀ i u, cs[i]? = some u → w.cell? ⟨b, o + i, none⟩ = some u
theorem RowC.fr {w w' : World} {A : Option Addr} {cs : List Value} (h : RowC w A cs) (hf : Fr (fun _ => False) w w') : RowC w' A cs := by
  rcases h with h | ⟨b, o, h1, h2, h3⟩
  · exact .inl h
  · exact .inr ⟨b, o, h1, Nat.lt_of_lt_of_le h2 hf.size, fun i u hi => by rw [hf.cell (p := ⟨b, o + i, none⟩) h2 (fun h => h)]; exact h3 i u hi⟩
theorem rowC_of_own {w : World} {base : Nat} {e : TypeId} {size n : Nat} {v : Value} {xs : List Value} (h : w.ownsRow base e size v n xs) :
    ∃ A cap, v = .slice A n cap ∧ n ≤ cap ∧ cap ≤ maxLen ∧ RowC w A xs := by
  rcases h.2 with ⟨rfl, rfl⟩ | ⟨g, cap, cur, hv, _, hh, h1, h2, h3, h4⟩
  · have h0 : xs = [] := by have := h.1; simp at this; exact this
    exact ⟨none, 0, rfl, Nat.le_refl _, Nat.zero_le _, .inl h0⟩
  · refine ⟨_, cap, hv, h1, h2, .inr ⟨g, 0, rfl, Blk.lt (t := e) hh, fun i u hi => ?_⟩⟩
    rw [Nat.zero_add, Blk.cell (t := e) hh, ← Array.getElem?_toList]
    rw [← h4, List.getElem?_take] at hi
    split at hi
    · exact hi
    · cases hi
theorem RowC.blk {w : World} {g : Nat} {t : TypeId} {cs : Array Value} (h : Blk w g t cs) : RowC w (some ⟨g, 0, none⟩) cs.toList :=
  .inr ⟨g, 0, rfl, h.lt, fun i u hi => by rw [Nat.zero_add, h.cell, ← Array.getElem?_toList]; exact hi⟩

/-- One element is appended. -/
theorem app_one {P : Program} {T E : TypeId} {z : Value} {size bytes : Nat} (hT : P.underlying T = some (.slice E)) (hE : (P.info? E).map (fun i => (i.zero, i.size, i.bytes)) = some (some z, size, bytes)) (hz : z.cells.size = size) (hs : 0 < size)
    {W : World} {base n : Nat} {v : Value} {xs : List Value} (hown : W.ownsRow base E size v n xs) {g : Nat} {cs : Array Value} (hg : Blk W g E cs) (hc : cs.size = size) (h1 : ∀ u ∈ cs.toList, u.oneCell' = true)
    (hn : n + 1 ≤ maxLen) (hb : (n + 1) * bytes ≤ 140737488355328) (hbase : base ≤ W.heap.size) :
    ∃ v' w', appendV P T T v (.slice (some ⟨g, 0, none⟩) 1 1) W = .ok v' w' ∧ w'.ownsRow base E size v' (n + 1) (xs ++ cs.toList) ∧ ∀ V, Fr (fun _ => False) V W → V.heap.size ≤ base → Fr (fun _ => False) V w' := by
  obtain ⟨i0, hi, hz0, hz1, hz2⟩ := info_parts hE
  obtain ⟨v', w', h, ho, hgr, _⟩ := run_append_own_at (P := P) W base T T E i0 z size bytes hT hi hz0 hz1 hz2 hz hs v n xs hown ⟨g, 0, none⟩ 1 1 cs.toList (by simp [hc]) (fun j u hj => by
    rw [show (⟨g, 0, none⟩ : Addr).add j = ⟨g, 0 + j, none⟩ by simp [Addr.add]; omega, Nat.zero_add, hg.cell, ← Array.getElem?_toList]; exact hj) h1 hn hb hbase
  refine ⟨v', w', h, ho, fun V hV hle => hV.grown hgr (fun k hk => .inr ?_)⟩
  have := (hown.lt k hk).1
  omega
end Go.Viv
namespace Go.Viv
open Go.ChangeShapes Go.WideShapes Go.Deep Go.RowKit

theorem add_none {a : Addr} (h : a.spot = none) (n : Nat) : a.add n = ⟨a.block, a.off + n, none⟩ := by
  unfold Addr.add
  obtain ⟨b, o, s⟩ := a
  simp only at h
  subst h
  split
  · rename_i hn
    subst hn
    rfl
  · rfl
theorem spot_of_cell {w : World} {a : Addr} {v : Value} (h : w.cell? a = some v) : a.spot = none ∧ a.block < w.heap.size := by
  refine ⟨?_, World.block_lt_of_cell? w a h⟩
  unfold World.cell? at h
  split at h
  · split at h
    · cases h
    · rename_i hs
      simpa using hs
  · cases h

/-- Elements read one by one. -/
theorem each_row {α : Type} {inv : α → Prop} {f : α → List Value} {C : Nat → Value → Prop} {m : Nat} : ∀ (k : Nat), (∀ i, i < k → ∃ v, inv v ∧ ∀ j u, (f v)[j]? = some u → C (i * m + j) u) → ∃ vs : List α, vs.length = k ∧ (∀ v ∈ vs, inv v) ∧ ∀ (i : Nat) (v : α), vs[i]? = some v → ∀ (j : Nat) (u : Value), (f v)[j]? = some u → C (i * m + j) u
  | 0, _ => ⟨[], rfl, by simp, by simp⟩
  | k + 1, h => by
    obtain ⟨vs, h1, h2, h3⟩ := each_row k (fun i hi => h i (by omega))
    obtain ⟨v, hv, hc⟩ := h k (by omega)
    refine ⟨vs ++ [v], by simp [h1], fun x hx => ?_, fun i x hi => ?_⟩
    · rcases List.mem_append.1 hx with hx | hx
      · exact h2 x hx
      · rw [List.mem_singleton.1 hx]; exact hv
    · by_cases hik : i < k
      · rw [List.getElem?_append_left (by omega)] at hi
        exact h3 i x hi
      · rw [List.getElem?_append_right (by omega)] at hi
        have h0 : i - vs.length = 0 := by
          rcases Nat.eq_zero_or_pos (i - vs.length) with h0 | h0
          · exact h0
          · rw [List.getElem?_eq_none (by simp; omega)] at hi; cases hi
        rw [h0] at hi
        obtain rfl : v = x := by simpa using hi
        obtain rfl : i = k := by omega
        exact hc

theorem open_row {H : Type} {enc : TypeId × Value → H} {P : Program} {w : World} {base : Nat} {spare : Nat → Bool} {held : Bool} {α : Type} {inv : α → Prop} {t e : TypeId} {fuel : Nat} {cs : List Value} {x : DataW H × List MemPlace}
    (f : α → List Value) (m : Nat) (hf : ∀ v, (f v).length = m) (hm : 0 < m) (hC : P.cellsOf e = m) (hel : ∀ n cs x, DataW.trod enc P w base spare held n e cs = some x → ∃ v, cs = f v ∧ inv v)
    (ht : P.underlying t = some (.slice e)) (h : DataW.trod enc P w base spare held fuel t cs = some x) :
    ∃ (A : Option Addr) (vs : List α) (cap : Nat), cs = [.slice A vs.length cap] ∧ vs.length ≤ cap ∧ cap ≤ maxLen ∧ RowC w A (vs.flatMap f) ∧ ∀ v ∈ vs, inv v := by
  rcases open_slice ht h with ⟨rfl, _⟩ | ⟨a, len, cap, q, n, D, Pl, rfl, _, hl, hcap, hq, _, hi⟩
  · exact ⟨none, [], 0, rfl, Nat.le_refl _, Nat.zero_le _, .inl rfl, by simp⟩
  · have hlq : len ≤ q := by rw [hq]; split <;> omega
    obtain ⟨vs, h1, h2, h3⟩ := each_row (inv := inv) (f := f) (C := fun k u => w.cell? (a.add k) = some u) (m := m) len (fun i hlt => by
      obtain ⟨cs', hc, ht'⟩ := hi i (by omega)
      obtain ⟨v, rfl, hv⟩ := hel _ _ _ ht'
      rw [hC] at hc
      obtain ⟨_, _, hat⟩ := World.cells?_some hc
      refine ⟨v, hv, fun j u hj => ?_⟩
      have hjm : j < m := by
        rcases Nat.lt_or_ge j m with h | h
        · exact h
        · rw [List.getElem?_eq_none (by rw [hf]; exact h)] at hj; cases hj
      rw [← Go.Deep.add_add, hat j hjm, hj])
    subst h1
    refine ⟨some a, vs, cap, rfl, hl, hcap, ?_, h2⟩
    cases vs with
    | nil => exact .inl rfl
    | cons v0 r =>
      have hu : ∃ u, (f v0)[0]? = some u := ⟨_, List.getElem?_eq_getElem (by rw [hf]; exact hm)⟩
      obtain ⟨u, hu⟩ := hu
      have h0 := h3 0 v0 rfl 0 u hu
      rw [show 0 * m + 0 = 0 by omega, show a.add 0 = a from rfl] at h0
      obtain ⟨hs, hb⟩ := spot_of_cell h0
      refine .inr ⟨a.block, a.off, by cases a; simp only at hs; rw [hs], hb, fun k y hk => ?_⟩
      have hk2 := chunk_get f m hf (v0 :: r) (k / m) (k % m) (Nat.mod_lt _ hm)
      rw [show k / m * m + k % m = k by rw [Nat.mul_comm]; exact Nat.div_add_mod k m, hk] at hk2
      cases hv : (v0 :: r)[k / m]? with
      | none => rw [hv] at hk2; cases hk2
      | some v =>
        rw [hv] at hk2
        have h4 := h3 (k / m) v hv (k % m) y hk2.symm
        rw [show k / m * m + k % m = k by rw [Nat.mul_comm]; exact Nat.div_add_mod k m, add_none hs] at h4
        exact h4
end Go.Viv
namespace Go.Viv
open Go.ChangeShapes Go.WideShapes Go.Deep Go.RowKit

theorem cells_ints : ∀ (cs : List Value), (∀ j, j < cs.length → ∃ n, cs[j]? = some (.int .i64 n) ∧ (Lit.int .i64 n).wf = true) → ∃ ns : List Int, cs = ns.map (Value.int .i64) ∧ ∀ n ∈ ns, (Lit.int .i64 n).wf = true
  | [], _ => ⟨[], rfl, by simp⟩
  | c :: r, h => by
    obtain ⟨n, h1, h2⟩ := h 0 (by simp)
    obtain ⟨ns, h3, h4⟩ := cells_ints r (fun j hj => by
      obtain ⟨n, h1, h2⟩ := h (j + 1) (by simp; omega)
      exact ⟨n, by simpa using h1, h2⟩)
    obtain rfl : c = .int .i64 n := by simpa using h1
    refine ⟨n :: ns, by rw [h3]; rfl, fun x hx => ?_⟩
    rcases List.mem_cons.1 hx with rfl | hx
    · exact h2
    · exact h4 x hx

/-- A struct of whole numbers, cell by cell. -/
theorem elem_ints {H : Type} {enc : TypeId × Value → H} {P : Program} {w : World} {base : Nat} {spare : Nat → Bool} {held : Bool} {t : TypeId} {fs : Array Field} (hs : P.underlying t = some (.struct fs))
    (hone : ∀ (j : Nat) (f : Field), fs[j]? = some f → f.offset = j ∧ P.cellsOf f.type = 1 ∧ P.underlying f.type = some (.int .i64)) (hC : P.cellsOf t = fs.size) {n : Nat} {cs : List Value} {x : DataW H × List MemPlace}
    (h : DataW.trod enc P w base spare held n t cs = some x) : ∃ ns : List Int, cs = ns.map (Value.int .i64) ∧ ns.length = fs.size ∧ ∀ n ∈ ns, (Lit.int .i64 n).wf = true := by
  obtain ⟨xs, m, _, _, hlen, hxl, hf⟩ := DataW.trod_struct hs h
  rw [hC] at hlen
  obtain ⟨ns, h1, h2⟩ := cells_ints cs (fun j hj => by
    have hfj : fs[j]? = some fs[j] := Array.getElem?_eq_getElem (by omega)
    obtain ⟨o, c, u⟩ := hone j _ hfj
    have h1 := hf j _ hfj
    rw [o, c] at h1
    have hx : xs[j]? = some (xs[j]'(by omega)) := List.getElem?_eq_getElem (by omega)
    rw [hx] at h1
    obtain ⟨k, g, _, wf⟩ := DataW.trod_int u h1
    refine ⟨k, ?_, wf⟩
    have h3 : ((cs.drop j).take 1)[0]? = some (.int .i64 k) := by rw [g]; rfl
    rw [List.getElem?_take, if_pos (by decide), List.getElem?_drop, Nat.add_zero] at h3
    exact h3)
  exact ⟨ns, h1, by rw [← hlen, h1, List.length_map], h2⟩
end Go.Viv
namespace Go.Viv
open Go.ChangeShapes Go.WideShapes Go.ChangeAt Go.RowKit Go.Joins

/-- Arguments read behind the call as they did before it. -/
theorem trodAll_stays {H : Type} {enc : TypeId × Value → H} {P : Program} (hl : laidOutB P = true) {W W' : World} (hb : Below W.heap.size W W') : ∀ (ts : List TypeId) (vs : List Value) (ds : List (DataW H)) (ps : List MemPlace),
    (ts.all fun t => P.readableRec t && decide (t < P.types.size)) = true → DataW.TrodAll enc P W 0 (fun _ => true) true ts vs ds ps → (∀ x ∈ ps, x.block < W.heap.size) → DataW.TrodAll enc P W' 0 (fun b => decide (b < W.heap.size)) true ts vs ds ps
  | [], vs, ds, ps, _, h, _ => by
    obtain ⟨rfl, rfl, rfl⟩ := trodAll_nil h
    exact trodAll_mk0
  | t :: ts, vs, ds, ps, ht, h, hp => by
    obtain ⟨v0, vs0, d0, ds0, p0, q0, rfl, rfl, rfl, h0, r0⟩ := trodAll_cons h
    simp only [List.all_cons, Bool.and_eq_true, decide_eq_true_eq] at ht
    exact trodAll_cons_mk (Below.trod hl ht.1.1 ht.1.2 h0 hb (fun x hx => hp x (by simp [hx]))) (trodAll_stays hl hb ts vs0 ds0 q0 ht.2 r0 (fun x hx => hp x (by simp [hx])))

theorem trodAll_lt {H : Type} {enc : TypeId × Value → H} {P : Program} {W : World} {base : Nat} {sp : Nat → Bool} {held : Bool} : ∀ (ts : List TypeId) (vs : List Value) (ds : List (DataW H)) (ps : List MemPlace),
    DataW.TrodAll enc P W base sp held ts vs ds ps → ∀ x ∈ ps, x.block < W.heap.size
  | [], vs, ds, ps, h => by
    obtain ⟨rfl, rfl, rfl⟩ := trodAll_nil h
    simp
  | t :: ts, vs, ds, ps, h => by
    obtain ⟨v0, vs0, d0, ds0, p0, q0, rfl, rfl, rfl, h0, r0⟩ := trodAll_cons h
    intro x hx
    rcases List.mem_append.1 hx with hx | hx
    · obtain ⟨m, hm⟩ := h0
      exact DataW.trod_lt m _ _ _ hm x hx
    · exact trodAll_lt ts vs0 ds0 q0 r0 x hx
end Go.Viv

namespace Go.Viv
open Go.ChangeShapes Go.WideShapes Go.ChangeAt Go.RowKit Go.Joins
variable {H : Type} {enc : TypeId × Value → H}
/-- The wrap of a tied row, the world's shape kept for the walk. -/
theorem returnsIn_shaped_and {a : Assume} {C : Checked} {os : Os} {f : FuncId} {fn : Func} {s : ChangeSpec} {conds : List PathCond} {apart fresh handsOn again : Bool} {X : World → Array Value → Prop}
    (hX : ∀ (w w' : World) (args : Array Value), w.heap = w'.heap → X w args → X w' args)
    (own : ownKnob C.prog.godebug = none) (started : os.Started) (noInit : C.prog.inits.idxOf? f = none) (hfn : C.prog.funcs[f]? = some fn)
    (witness : ∃ (w : World) (tape : Tape) (i : Input), w.os = os ∧ (w.forCall tape i).Shaped C.prog ∧ i.vars = [] ∧ Input.okWide C.prog (w.forCall tape i) .any w.heap.size f i ∧
      ((s.pre enc C.prog fn conds apart (w.forCall tape i).memory i.args ∧ X (w.forCall tape i).memory i.args) ∧ sizedMet enc C.prog fn (OpenSpec.ofChange s) apart (w.forCall tape i).memory i.args) ∧ a.holds C.prog (lone (Frame.enter C.prog f i.args .normal) [] (w.forCall tape i)))
    (contract : ∀ (W : World) (base : Nat) (args : Array Value) (ds gs : List (DataW H)) (before : List MemPlace), W.ShapedOpen C.prog →
      (∀ (j : Nat) t v, fn.params[j]? = some t → args[j]? = some v → Value.okWide C.prog W .any base t v) →
      DataW.Whole enc C.prog fn.params.toList s.vars apart W args.toList ds gs before →
      (DataW.weightsEach C.prog (fn.params.toList ++ s.plain.varTypes C.prog) (ds ++ gs)).all (· ≤ reachBytes) = true → X W args →
      Calls C.prog f args W fun e W' => ∃ v, e = .returned v ∧ s.post enc C.prog fn apart fresh handsOn again W args v W') :
    ReturnsInHanded a C os f .any (fun w args => (s.pre enc C.prog fn conds apart w args ∧ X w args) ∧ sizedMet enc C.prog fn (OpenSpec.ofChange s) apart w args) (s.post enc C.prog fn apart fresh handsOn again) := by
  refine returnsInHanded_of_calls own started noInit witness ?_
  intro w tape i _ hsh _ hok hpre _
  obtain ⟨_, _, _, fn', hfn', _, _, _, _, hval⟩ := hok
  obtain rfl : fn' = fn := Option.some.inj (hfn'.symm.trans hfn)
  obtain ⟨⟨⟨ds, gs, before, hw, _⟩, hx⟩, hz⟩ := hpre
  refine (contract (w.forCall tape i) w.heap.size i.args ds gs before hsh hval (DataW.Whole.of_heap (w' := w.forCall tape i) (by rfl) hw) (hz.weights hw) (hX _ _ _ (by rfl) hx)).mono fun e W' ⟨v, he, hp⟩ => ?_
  subst he
  exact ChangeSpec.post_blind hp
end Go.Viv
namespace Go.Viv
/-- There is an input that fits, at a world whose shape is shown. -/
theorem witness_row_shaped {H : Type} {enc : TypeId × Value → H} {C : Checked} {os : Os} {f : FuncId} {fn : Func} {s : OpenSpec} {conds : List PathCond} {apart : Bool} {laid : List (String × DataW Unit)} (modest : Bool) (w0 : World) (args : Array Value) (hos : w0.os = os)
    (hsh : (w0.forCall (fun _ _ => 0) ⟨#[], args, []⟩).Shaped C.prog)
    (hok : Input.okWideB C.prog (w0.forCall (fun _ _ => 0) ⟨#[], args, []⟩) f ⟨#[], args, []⟩ = true)
    (hrow : s.preRow enc C.prog fn conds apart laid (w0.forCall (fun _ _ => 0) ⟨#[], args, []⟩).memory args) :
    ∃ (w : World) (tape : Tape) (i : Input), w.os = os ∧ (w.forCall tape i).Shaped C.prog ∧ i.vars = [] ∧ Input.okWide C.prog (w.forCall tape i) .any w.heap.size f i ∧
      s.preRow enc C.prog fn conds apart laid (w.forCall tape i).memory i.args ∧ ({ modest := modest } : Assume).holds C.prog (lone (Frame.enter C.prog f i.args .normal) [] (w.forCall tape i)) :=
  ⟨w0, fun _ _ => 0, ⟨#[], args, []⟩, hos, hsh, (Input.okWide_of_okWideB (base := 0) hok).1, (Input.okWide_of_okWideB hok).2, hrow, by
    simp only [Assume.holds]
    exact ⟨by simp, by simp, fun _ => Modest.zero, by simp, by simp⟩⟩
end Go.Viv
namespace Go.Proofs.YtogmgjcdicnceaaGreatDoor
open Go.ChangeShapes Go.WideShapes Go.ChangeAt Go.RowKit Go.Joins Go.Viv
theorem own : ownKnob Tryz.prog.godebug = none := by kernel_rfl
theorem laidOut : laidOutB Tryz.prog = true := by kernel_rfl
theorem gBr : Tryz.prog.globalNamed "math/bits.deBruijn64tab" = some 0 := by kernel_rfl
theorem lay_met (os : Os) (args : Array Value) : laidMetH Tryz.prog Rows.cursorSpawnsRow.laid ((World.laidAll Tryz.prog os Rows.cursorSpawnsRow.laid).forCall (fun _ _ => 0) ⟨#[], args, []⟩).memory := by
  rw [MakeChecks.laidMetH_plain _ _ _ (by kernel_rfl)]
  exact laidMet_laidAll _ (by kernel_rfl) (by kernel_rfl)
theorem lay_shaped (os : Os) : (World.laidAll Tryz.prog os Rows.cursorSpawnsRow.laid).Shaped Tryz.prog :=
  World.shaped_of_ZipB (by kernel_rfl) (by kernel_rfl)
theorem envT_of_laid {W : World} (h : laidMetH Tryz.prog Rows.cursorSpawnsRow.laid W) : EnvT W := by
  rw [MakeChecks.laidMetH_plain _ _ _ (by kernel_rfl)] at h
  have h1 : laidMet Tryz.prog (("math/bits.deBruijn64tab", Lib.tabData .u8 (deB.map Int.ofNat)) :: []) W := h
  have h2 := Lib.tabIs_of_head (t := 368) (e := 5) (n := 64) gBr (by kernel_rfl) Tryz.underlying368 Tryz.underlying5 (by kernel_rfl) (by kernel_rfl) h1
  unfold Lib.TabIs World.var? at h2
  rw [gBr] at h2
  simp only [Option.bind_some] at h2
  split at h2
  · rename_i cs e fr hh
    simp only [Option.some.injEq] at h2
    exact ⟨e, fr, by rw [hh, h2]; rfl⟩
  · cases h2
end Go.Proofs.YtogmgjcdicnceaaGreatDoor
namespace Go.Proofs.YtogmgjcdicnceaaGreatDoor
open Go Go.RowKit Go.Viv Go.Eva Go.Fv Go.Fw
def csP (n m p : Nat) : Prop := runF (awIc (some 26)) (csR n m p) (csF n m) 6 [tk 0, tk 1] = true
theorem csUp {n m k : Nat} (h : ∀ p, p < k → csP n m p) (hk : csP n m k) : ∀ p, p < k + 1 → csP n m p := fun p hp => by
  rcases Nat.lt_or_eq_of_le (Nat.lt_succ_iff.1 hp) with h1 | h1
  · exact h p h1
  · rw [h1]; exact hk
theorem csNo {n m : Nat} : ∀ p, p < 0 → csP n m p := fun p h => absurd h (Nat.not_lt_zero p)
theorem csA1 : ∀ p, p < 1 → csP 1 0 p := csUp (csNo) csu1_0
theorem csA2 : ∀ p, p < 1 → csP 2 0 p := csUp (csNo) csu2_0
theorem csA3 : ∀ p, p < 1 → csP 3 0 p := csUp (csNo) csu3_0
theorem csA4 : ∀ p, p < 2 → csP 4 1 p := csUp (csUp (csNo) csu4_0) csu4_1
theorem csA5 : ∀ p, p < 4 → csP 5 2 p := csUp (csUp (csUp (csUp (csNo) csu5_0) csu5_1) csu5_2) csu5_3
theorem csA6 : ∀ p, p < 8 → csP 6 3 p := csUp (csUp (csUp (csUp (csUp (csUp (csUp (csUp (csNo) csu6_0) csu6_1) csu6_2) csu6_3) csu6_4) csu6_5) csu6_6) csu6_7
theorem csA7 : ∀ p, p < 16 → csP 7 4 p := csUp (csUp (csUp (csUp (csUp (csUp (csUp (csUp (csUp (csUp (csUp (csUp (csUp (csUp (csUp (csUp (csNo) csu7_0) csu7_1) csu7_2) csu7_3) csu7_4) csu7_5) csu7_6) csu7_7) csu7_8) csu7_9) csu7_10) csu7_11) csu7_12) csu7_13) csu7_14) csu7_15
theorem csA8 : ∀ p, p < 32 → csP 8 5 p := csUp (csUp (csUp (csUp (csUp (csUp (csUp (csUp (csUp (csUp (csUp (csUp (csUp (csUp (csUp (csUp (csUp (csUp (csUp (csUp (csUp (csUp (csUp (csUp (csUp (csUp (csUp (csUp (csUp (csUp (csUp (csUp (csNo) csu8_0) csu8_1) csu8_2) csu8_3) csu8_4) csu8_5) csu8_6) csu8_7) csu8_8) csu8_9) csu8_10) csu8_11) csu8_12) csu8_13) csu8_14) csu8_15) csu8_16) csu8_17) csu8_18) csu8_19) csu8_20) csu8_21) csu8_22) csu8_23) csu8_24) csu8_25) csu8_26) csu8_27) csu8_28) csu8_29) csu8_30) csu8_31
theorem csA9 : ∀ p, p < 64 → csP 9 6 p := csUp (csUp (csUp (csUp (csUp (csUp (csUp (csUp (csUp (csUp (csUp (csUp (csUp (csUp (csUp (csUp (csUp (csUp (csUp (csUp (csUp (csUp (csUp (csUp (csUp (csUp (csUp (csUp (csUp (csUp (csUp (csUp (csUp (csUp (csUp (csUp (csUp (csUp (csUp (csUp (csUp (csUp (csUp (csUp (csUp (csUp (csUp (csUp (csUp (csUp (csUp (csUp (csUp (csUp (csUp (csUp (csUp (csUp (csUp (csUp (csUp (csUp (csUp (csUp (csNo) csu9_0) csu9_1) csu9_2) csu9_3) csu9_4) csu9_5) csu9_6) csu9_7) csu9_8) csu9_9) csu9_10) csu9_11) csu9_12) csu9_13) csu9_14) csu9_15) csu9_16) csu9_17) csu9_18) csu9_19) csu9_20) csu9_21) csu9_22) csu9_23) csu9_24) csu9_25) csu9_26) csu9_27) csu9_28) csu9_29) csu9_30) csu9_31) csu9_32) csu9_33) csu9_34) csu9_35) csu9_36) csu9_37) csu9_38) csu9_39) csu9_40) csu9_41) csu9_42) csu9_43) csu9_44) csu9_45) csu9_46) csu9_47) csu9_48) csu9_49) csu9_50) csu9_51) csu9_52) csu9_53) csu9_54) csu9_55) csu9_56) csu9_57) csu9_58) csu9_59) csu9_60) csu9_61) csu9_62) csu9_63
theorem csA10 : ∀ p, p < 128 → csP 10 7 p := csUp (csUp (csUp (csUp (csUp (csUp (csUp (csUp (csUp (csUp (csUp (csUp (csUp (csUp (csUp (csUp (csUp (csUp (csUp (csUp (csUp (csUp (csUp (csUp (csUp (csUp (csUp (csUp (csUp (csUp (csUp (csUp (csUp (csUp (csUp (csUp (csUp (csUp (csUp (csUp (csUp (csUp (csUp (csUp (csUp (csUp (csUp (csUp (csUp (csUp (csUp (csUp (csUp (csUp (csUp (csUp (csUp (csUp (csUp (csUp (csUp (csUp (csUp (csUp (csUp (csUp (csUp (csUp (csUp (csUp (csUp (csUp (csUp (csUp (csUp (csUp (csUp (csUp (csUp (csUp (csUp (csUp (csUp (csUp (csUp (csUp (csUp (csUp (csUp (csUp (csUp (csUp (csUp (csUp (csUp (csUp (csUp (csUp (csUp (csUp (csUp (csUp (csUp (csUp (csUp (csUp (csUp (csUp (csUp (csUp (csUp (csUp (csUp (csUp (csUp (csUp (csUp (csUp (csUp (csUp (csUp (csUp (csUp (csUp (csUp (csUp (csUp (csUp (csNo) csu10_0) csu10_1) csu10_2) csu10_3) csu10_4) csu10_5) csu10_6) csu10_7) csu10_8) csu10_9) csu10_10) csu10_11) csu10_12) csu10_13) csu10_14) csu10_15) csu10_16) csu10_17) csu10_18) csu10_19) csu10_20) csu10_21) csu10_22) csu10_23) csu10_24) csu10_25) csu10_26) csu10_27) csu10_28) csu10_29) csu10_30) csu10_31) csu10_32) csu10_33) csu10_34) csu10_35) csu10_36) csu10_37) csu10_38) csu10_39) csu10_40) csu10_41) csu10_42) csu10_43) csu10_44) csu10_45) csu10_46) csu10_47) csu10_48) csu10_49) csu10_50) csu10_51) csu10_52) csu10_53) csu10_54) csu10_55) csu10_56) csu10_57) csu10_58) csu10_59) csu10_60) csu10_61) csu10_62) csu10_63) csu10_64) csu10_65) csu10_66) csu10_67) csu10_68) csu10_69) csu10_70) csu10_71) csu10_72) csu10_73) csu10_74) csu10_75) csu10_76) csu10_77) csu10_78) csu10_79) csu10_80) csu10_81) csu10_82) csu10_83) csu10_84) csu10_85) csu10_86) csu10_87) csu10_88) csu10_89) csu10_90) csu10_91) csu10_92) csu10_93) csu10_94) csu10_95) csu10_96) csu10_97) csu10_98) csu10_99) csu10_100) csu10_101) csu10_102) csu10_103) csu10_104) csu10_105) csu10_106) csu10_107) csu10_108) csu10_109) csu10_110) csu10_111) csu10_112) csu10_113) csu10_114) csu10_115) csu10_116) csu10_117) csu10_118) csu10_119) csu10_120) csu10_121) csu10_122) csu10_123) csu10_124) csu10_125) csu10_126) csu10_127
theorem csAll : ∀ c, c < 10 → ∀ p, p < 2 ^ (c + 1 - 3) → csP (c + 1) (c + 1 - 3) p := fun c h => match c, h with
  | 0, _ => csA1
  | 1, _ => csA2
  | 2, _ => csA3
  | 3, _ => csA4
  | 4, _ => csA5
  | 5, _ => csA6
  | 6, _ => csA7
  | 7, _ => csA8
  | 8, _ => csA9
  | 9, _ => csA10
  | c + 10, h => absurd h (by omega)
theorem cspawns_any (n b : Int) (hb : 0 ≤ b) (hb2 : b < 18446744073709551616) (W : World) (hE : EnvT W) : Calls Tryz.prog 6 #[.int .i64 n, .int .u64 b] W fun e w' => e = .returned (.bool true) ∧ Fr (fun _ => False) W w' := by
  obtain ⟨B, rfl⟩ := Int.eq_ofNat_of_zero_le hb
  obtain ⟨c, hc⟩ := Int.eq_ofNat_of_zero_le (show 0 ≤ n % 256 % 10 by omega)
  have hB : B < 2 ^ 64 := by omega
  have aw : ∀ x, some 26 = some x → True_ x [] := fun x h => by cases h; exact awakeC_true
  have hp : ∀ i, i < c + 1 - 3 → csBit (B % 2 ^ (c + 1 - 3)) i = csBit B i := fun i hi => csBit_mod hi
  exact runF_any (ν := csN B n) hE (csR_ok hB (by omega) hc (by omega) hp) (csF_ok (by omega) (by omega)) (awIc_ok _) (aw_ok hE aw) (fun φ => .cons (VR.sym (ν := csN B n) 0) (.cons (VR.sym (ν := csN B n) 1) .nil)) (csAll c (by omega) (B % 2 ^ (c + 1 - 3)) (Nat.mod_lt _ (Nat.two_pow_pos _)))
end Go.Proofs.YtogmgjcdicnceaaGreatDoor
