/-
  Whole structures, in plain words. No program in sight.
-/
import Derived.Test.YtenigphjddnknaaGreatDoorBase
namespace Go.Viv
open Go.RowKit

structure Val where
  k : Int
  a : Int
  b : Int
  deriving DecidableEq
def Val.cells (v : Val) : List Value := [.int .i64 v.k, .int .i64 v.a, .int .i64 v.b]
def Val.agg (v : Val) : Value := .agg #[.int .i64 v.k, .int .i64 v.a, .int .i64 v.b]
def Val.zero : Val := ⟨0, 0, 0⟩
/-- Whether a value may be. -/
def okV (v : Val) : Bool := if v.k = 1 then v.b == 0 else if v.k = 2 then true else if v.k = 3 then v.a == 0 && v.b == 0 else false
/-- A footprint, with what was made since. -/
def Ext (S : Nat → Prop) (w w' : World) (k : Nat) : Prop := S k ∨ (w.heap.size ≤ k ∧ k < w'.heap.size)
end Go.Viv
namespace Go.Viv

structure Hnd where
  i : Int
  g : Int
  deriving DecidableEq
def Hnd.zero : Hnd := ⟨0, 0⟩
def Hnd.agg (h : Hnd) : Value := .agg #[.int .i64 h.i, .int .i64 h.g]
def Hnd.cells (h : Hnd) : List Value := [.int .i64 h.i, .int .i64 h.g]

/-- Handles: of each index its generation, and its state: 0 free, 1 live, 2 raised, 9 retired. -/
structure Als where
  top : Int
  gen : List Int
  st : List Nat
def Als.new (n : Nat) (top : Int) : Als := ⟨top, List.replicate n 0, List.replicate n 0⟩
def Als.size (a : Als) : Nat := a.st.length
/-- The least index of a state. -/
def Als.least (a : Als) : Option Nat := a.st.findIdx? (· == 0)
def Als.err (a : Als) : Int := if a.st.any (fun s => s != 9) then 6 else 7
def Als.genAt (a : Als) (i : Nat) : Int := a.gen.getD i 0
def Als.stAt (a : Als) (i : Nat) : Nat := a.st.getD i 0
def Als.give (a : Als) (i s : Nat) : Als := { a with gen := a.gen.set i (a.genAt i + 1), st := a.st.set i s }
/-- Create, Raise: the answer. -/
def Als.tookH (a : Als) : Hnd := match a.least with | some i => ⟨i, a.genAt i + 1⟩ | none => Hnd.zero
def Als.tookE (a : Als) : Int := match a.least with | some _ => 0 | none => a.err
def Als.took (a : Als) (s : Nat) : Als := match a.least with | some i => a.give i s | none => a
/-- State. -/
def Als.of (a : Als) (h : Hnd) : Nat :=
  if h.i < 0 ∨ (a.st.length : Int) ≤ h.i then 0 else if a.genAt h.i.toNat ≠ h.g then 0 else if a.stAt h.i.toNat = 1 ∨ a.stAt h.i.toNat = 2 then a.stAt h.i.toNat else 0
/-- The error of a handle that must be live. -/
def Als.may (a : Als) (h : Hnd) : Int := if a.of h = 0 then 4 else if a.of h = 2 then 5 else 0
def Als.gone (a : Als) (h : Hnd) : Als := { a with st := a.st.set h.i.toNat (if a.top ≤ h.g then 9 else 0) }
def Als.inSt (a : Als) (s : Nat) : List Hnd := ((List.range a.st.length).filter (fun i => a.stAt i == s)).map fun (i : Nat) => ⟨i, a.genAt i⟩
def Als.merged (a : Als) : Als := { a with st := a.st.map fun s => if s = 2 then 1 else s }
def Als.hasAt (a : Als) (i : Int) : Bool := decide (0 ≤ i) && decide (i < a.st.length) && (a.stAt i.toNat == 1 || a.stAt i.toNat == 2)
def Als.atH (a : Als) (i : Int) : Hnd := if a.hasAt i then ⟨i, a.genAt i.toNat⟩ else Hnd.zero

/-- What befell, all of it; where each reader stands. -/
structure Fls where
  bound : Nat
  evs : List (Int × Int)
  rd : List Nat
structure Dsc where
  k : Int
  v : Int
  b : Int
  deriving DecidableEq
def Dsc.cells (d : Dsc) : List Value := [.int .i64 d.k, .int .i64 d.v, .int .i64 d.b]
def Dsc.agg (d : Dsc) : Value := .agg #[.int .i64 d.k, .int .i64 d.v, .int .i64 d.b]
/-- Whether a component may be. -/
def Dsc.may (d : Dsc) : Int := if d.k < 1 ∨ 3 < d.k ∨ d.v < 1 ∨ 4 < d.v ∨ d.b < 0 ∨ 1000 < d.b then 1 else if d.v = 4 ∧ d.k ≠ 3 then 9 else 0
/-- A row of values by their indexes, rising. -/
abbrev SM := List (Nat × Val)
def SM.keys (l : SM) : List Nat := l.map (·.1)
def SM.lk (l : SM) (i : Int) : Option Val := (l.find? fun p => decide ((p.1 : Int) = i)).map (·.2)
def SM.put (i : Nat) (v : Val) : SM → SM
  | [] => [(i, v)]
  | p :: l => if i < p.1 then (i, v) :: p :: l else if i = p.1 then (i, v) :: l else p :: SM.put i v l
def SM.del (i : Int) (l : SM) : SM := l.filter fun p => decide ((p.1 : Int) ≠ i)
/-- A component: what it is, its values, what befell. -/
structure Sls where
  d : Dsc
  l : SM
  fl : Option Fls
def Sls.new (d : Dsc) : Sls := ⟨d, [], if 0 < d.b then some ⟨d.b.toNat, [], []⟩ else none⟩
def Sls.note (s : Sls) (k i : Int) : Sls := { s with fl := s.fl.map fun f => { f with evs := f.evs ++ [(k, i)] } }
def Sls.get (s : Sls) (i : Int) : Option Val := s.l.lk i
def Sls.val (s : Sls) (i : Int) : Val := (s.get i).getD Val.zero
def Sls.has (s : Sls) (i : Int) : Bool := (s.get i).isSome
def Sls.may (s : Sls) (i : Int) (v : Val) : Int := if i < 0 ∨ 65536 ≤ i then 1 else if okV v = false ∨ v.k ≠ s.d.k then 9 else 0
def Sls.lay (s : Sls) (i : Int) (v : Val) : Sls := { s with l := s.l.put i.toNat v }
/-- Put, of what may be; Take; Set, of what is there. -/
def Sls.put (s : Sls) (i : Int) (v : Val) : Sls := (s.lay i v).note (if s.has i then 2 else 1) i
def Sls.take (s : Sls) (i : Int) : Sls := if s.has i then { s with l := s.l.del i }.note 3 i else s
def Sls.setE (s : Sls) (i : Int) (v : Val) : Int := if s.may i v ≠ 0 then s.may i v else if s.has i then 0 else 10
def Sls.set (s : Sls) (i : Int) (v : Val) : Sls := if s.setE i v = 0 then (s.lay i v).note 2 i else s

structure Ops where
  k : Int
  h : Hnd
  c : Int
  v : Val
  deriving DecidableEq
def Ops.ok (o : Ops) : Bool := if o.k = 1 then o.c == 0 && o.v == Val.zero else if o.k = 2 then decide (0 ≤ o.c) && okV o.v else if o.k = 3 then decide (0 ≤ o.c) && o.v == Val.zero else false

/-- Things with parts. -/
structure Els where
  al : Als
  sl : List Sls
def Els.comp (w : Els) (c : Int) : Bool := decide (0 ≤ c) && decide (c < w.sl.length)
def Sls.no : Sls := ⟨⟨0, 0, 0⟩, [], none⟩
def Els.at_ (w : Els) (c : Int) : Sls := w.sl.getD c.toNat Sls.no
def Els.upd (w : Els) (c : Int) (s : Sls) : Els := { w with sl := w.sl.set c.toNat s }
def Els.parts (w : Els) (i : Int) : List Nat := (List.range w.sl.length).filter fun (c : Nat) => (w.at_ c).has i
/-- The error of a call on a part of a thing that must be live. -/
def Els.onE (w : Els) (h : Hnd) (c : Int) : Int := if w.al.may h ≠ 0 then w.al.may h else if w.comp c = false then 11 else 0
def Els.delN (w : Els) (h : Hnd) : Nat := if w.al.may h = 0 then (w.parts h.i).length else 0
def Els.del (w : Els) (h : Hnd) : Els := if w.al.may h = 0 then { al := w.al.gone h, sl := w.sl.map fun s => s.take h.i } else w
def Els.insE (w : Els) (h : Hnd) (c : Int) (v : Val) : Int := if w.onE h c ≠ 0 then w.onE h c else (w.at_ c).may h.i v
def Els.insV (w : Els) (h : Hnd) (c : Int) (v : Val) : Val := if w.insE h c v = 0 then (w.at_ c).val h.i else Val.zero
def Els.insB (w : Els) (h : Hnd) (c : Int) (v : Val) : Bool := if w.insE h c v = 0 then (w.at_ c).has h.i else false
def Els.ins (w : Els) (h : Hnd) (c : Int) (v : Val) : Els := if w.insE h c v = 0 then w.upd c ((w.at_ c).put h.i v) else w
def Els.getE (w : Els) (h : Hnd) (c : Int) : Int := if w.onE h c ≠ 0 then w.onE h c else if (w.at_ c).has h.i then 0 else 10
def Els.getV (w : Els) (h : Hnd) (c : Int) : Val := if w.getE h c = 0 then (w.at_ c).val h.i else Val.zero
def Els.rem (w : Els) (h : Hnd) (c : Int) : Els := if w.getE h c = 0 then w.upd c ((w.at_ c).take h.i) else w
def Els.setE (w : Els) (h : Hnd) (c : Int) (v : Val) : Int := if w.onE h c ≠ 0 then w.onE h c else (w.at_ c).setE h.i v
def Els.set (w : Els) (h : Hnd) (c : Int) (v : Val) : Els := if w.setE h c v = 0 then w.upd c ((w.at_ c).set h.i v) else w
structure Wls extends Els where
  res : List Int
  q : List Ops
  held : Bool
/-- The error of a call that is refused while the world is held. -/
def Wls.mayE (w : Wls) (h : Hnd) : Int := if w.al.of h = 0 then 4 else if w.held then 13 else 0
def Wls.createE (w : Wls) : Int := if w.held then 13 else w.al.tookE
def Wls.createH (w : Wls) : Hnd := if w.held then Hnd.zero else w.al.tookH
def Wls.create (w : Wls) : Wls := if w.held then w else { w with al := w.al.took 1 }
def Wls.delE (w : Wls) (h : Hnd) : Int := if w.mayE h ≠ 0 then w.mayE h else w.al.may h
def Wls.delN (w : Wls) (h : Hnd) : Nat := if w.mayE h ≠ 0 then 0 else w.toEls.delN h
def Wls.del (w : Wls) (h : Hnd) : Wls := if w.mayE h ≠ 0 then w else { w with toEls := w.toEls.del h }
def Wls.insE (w : Wls) (h : Hnd) (c : Int) (v : Val) : Int := if w.mayE h ≠ 0 then w.mayE h else w.toEls.insE h c v
def Wls.insV (w : Wls) (h : Hnd) (c : Int) (v : Val) : Val := if w.mayE h ≠ 0 then Val.zero else w.toEls.insV h c v
def Wls.insB (w : Wls) (h : Hnd) (c : Int) (v : Val) : Bool := if w.mayE h ≠ 0 then false else w.toEls.insB h c v
def Wls.ins (w : Wls) (h : Hnd) (c : Int) (v : Val) : Wls := if w.mayE h ≠ 0 then w else { w with toEls := w.toEls.ins h c v }
def Wls.remE (w : Wls) (h : Hnd) (c : Int) : Int := if w.mayE h ≠ 0 then w.mayE h else w.toEls.getE h c
def Wls.remV (w : Wls) (h : Hnd) (c : Int) : Val := if w.mayE h ≠ 0 then Val.zero else w.toEls.getV h c
def Wls.rem (w : Wls) (h : Hnd) (c : Int) : Wls := if w.mayE h ≠ 0 then w else { w with toEls := w.toEls.rem h c }
/-- What waits is done: how many ops are done, how many are passed over. -/
def Els.opE (w : Els) (o : Ops) : Int := if o.k = 1 then w.al.may o.h else if o.k = 2 then w.insE o.h o.c o.v else w.getE o.h o.c
def Els.op (w : Els) (o : Ops) : Els := if o.k = 1 then w.del o.h else if o.k = 2 then w.ins o.h o.c o.v else w.rem o.h o.c
def Els.ops : Els → List Ops → Els
  | w, [] => w
  | w, o :: l => (w.op o).ops l
def Els.done : Els → List Ops → Nat
  | _, [] => 0
  | w, o :: l => (if w.opE o = 0 then 1 else 0) + (w.op o).done l
def Wls.raisedN (w : Wls) : Nat := (w.al.inSt 2).length
def Wls.merged (w : Wls) : Els := { w.toEls with al := w.al.merged }
def Wls.maint (w : Wls) : Wls := if w.held then w else { w with toEls := w.merged.ops w.q, q := [] }
end Go.Viv
namespace Go.Eva
open Go Go.Viv
/-- What a whole structure in memory holds, in plain words. -/
inductive Rs where
  | set (l : List Nat)
  | alloc (a : Als)
  | place (v : Nat) (l : SM)
  | flag (f : Fls)
  | slot (s : Sls)
  | nums (l : List Int)
  | queue (l : List Ops)
  | world (w : Wls)
  | arena (l : List (Int × List Nat)) (s : List (List Nat))
  | ralloc (a : Als)
  | rslot (s : Sls)
  | other (k : Nat) (l : List (List Int))
/-- The plain cells at a structure's head that may be read as they are. -/
def viewRs : Rs → List Value
  | .rslot s => [.int .i64 s.d.k, .int .i64 s.d.v, .int .i64 s.d.b]
  | .ralloc a => [.int .i64 a.st.length, .int .i64 a.top]
  | _ => []
end Go.Eva
