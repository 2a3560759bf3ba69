/-
  A run of a closed call: regions that draw their order, looked at once in an order of their own. Plain definitions; no program in sight.
-/
import Derived.Test.YtenigphjddnknaaGreatDoorEvaE
import Derived.Test.YtenigphjddnknaaGreatDoorSeq
namespace Go.Eva
open Go Go.RowKit Go.Mix Go.Viv

def oeq : AObj → AObj → Bool
  | .cells a e r, .cells b f s => veqL a b && Nat.beq e f && r == s
  | .map [] 0, .map [] 0 => true
  | _, _ => false

/-- A number's bit. -/
def bit (m : Nat) (i : Nat) : Bool := m.testBit i
def bef (m : Array Nat) (i j : Nat) : Bool := (m.getD i 0).testBit j
def within (a b : Nat) : Bool := Nat.beq (a &&& b) a

/-! ### What is asked of the region once -/
def looksB (ops : Array Oper) (m : Array Nat) : Bool :=
  (List.range ops.size).all fun i => ((ops[i]?).map fun o => (o.looksAt ops).all fun t => (List.range ops.size).all fun j =>
    Nat.beq i j || ((ops[j]?).map fun q => q.dst != some t || bef m i j || bef m j i).getD true).getD true
def dstsB (ops : Array Oper) : Bool :=
  (List.range ops.size).all fun i => (List.range ops.size).all fun j => Nat.beq i j || ((ops[i]?).map fun o => ((ops[j]?).map fun q => o.dst.isNone || o.dst != q.dst).getD true).getD true
def topoB (ops : Array Oper) : Bool :=
  (List.range ops.size).all fun i => ((ops[i]?).map fun o => o.after.all fun e => !Region.binds .any e || Nat.blt e.on i).getD true
def statB (ops : Array Oper) : Bool :=
  maskB .any ops (Region.before ops) && looksB ops (Region.before ops) && dstsB ops && topoB ops

/-! ### The order: what is no effect as soon as it may come -/
def isEff (o : Op) : Bool := match kind o with
  | .eff => true
  | _ => false
def pickB (ops : List Oper) (m : Array Nat) (done : Nat) (eff : Bool) : List Nat → Option (Nat × List Nat)
  | [] => none
  | i :: l => match within (m.getD i 0) done && (((ops[i]?).map fun o => isEff o.op).getD false == eff) with
    | true => some (i, l)
    | false => (pickB ops m done eff l).map fun (j, r) => (j, i :: r)
def ordB : Nat → List Oper → Array Nat → Nat → List Nat → List Nat
  | 0, _, _, _, _ => []
  | f + 1, ops, m, done, todo => match pickB ops m done false todo with
    | some (i, r) => i :: ordB f ops m (done ||| 2 ^ i) r
    | none => match pickB ops m done true todo with
      | some (i, r) => i :: ordB f ops m (done ||| 2 ^ i) r
      | none => []
def orderOf (ops : Array Oper) : List Nat := ordB ops.size ops.toList (Region.before ops) 0 (List.range ops.size)

structure Ent where
  i : Nat
  o : Op
  T : Tr Value
  v : Value
section
variable (P : Program) (sy : Sy) (G n : Nat) (call : CallB) (ops : List Oper) (m : Array Nat) (base : Nat)
def again (t : Tr AObj) (x : Ent) : Bool := match kind x.o with
  | .quiet => match evQ P sy (evl G x.T) t x.o with
    | some v => veq v x.v
    | none => false
  | .alloc => match evA P (evl G x.T) (base + x.i) x.o, t.at_ (base + x.i) with
    | some (_, ob), some ob' => oeq ob ob'
    | _, _ => false
  | .eff => false
def allAgain (e : Nat) (t : Tr AObj) : List Ent → Bool
  | [] => true
  | x :: l => match bef m e x.i || again P sy G base t x with
    | true => allAgain e t l
    | false => false
def dRun : List Nat → Tr Value → Hp → Nat → Nat → List Ent → Option (Tr Value × Hp × Nat)
  | [], T, h, done, _, _ => some (T, h, done)
  | i :: rest, T, h, done, effs, ents => match ops[i]?, within (m.getD i 0) done && !bit done i with
    | some o, true => match wantedB ops T o with
      | some false => match putT n T o.dst undef with
        | some T' => dRun rest T' h (done ||| 2 ^ i) effs ents
        | none => none
      | some true => match kind o.op, within effs (m.getD i 0) with
        | .quiet, true => match evQ P sy (evl G T) h.t o.op with
          | some v => match putT n T o.dst v with
            | some T' => dRun rest T' h (done ||| 2 ^ i) effs (⟨i, o.op, T, v⟩ :: ents)
            | none => none
          | none => none
        | .alloc, true => match evA P (evl G T) (base + i) o.op, h.t.at_ (base + i) with
          | some (v, ob), none => match putT n T o.dst v with
            | some T' => dRun rest T' ⟨h.t.set (base + i) (some ob), h.next⟩ (done ||| 2 ^ i) effs (⟨i, o.op, T, v⟩ :: ents)
            | none => none
          | _, _ => none
        | .eff, true => match evE P call (evl G T) h o.op with
          | some (v, h') => match allAgain P sy G m base i h'.t ents with
            | true => match putT n T o.dst v with
              | some T' => dRun rest T' h' (done ||| 2 ^ i) (effs ||| 2 ^ i) ents
              | none => none
            | false => none
          | none => none
        | _, _ => none
      | none => none
    | _, _ => none
end
def evD (P : Program) (sy : Sy) (G n : Nat) (call : CallB) (ops : Array Oper) (T : Tr Value) (h : Hp) : Option (Tr Value × Hp) :=
  match statB ops with
  | true => match dRun P sy G n call ops.toList (Region.before ops) h.next (orderOf ops) T ⟨h.t, h.next + ops.size⟩ 0 0 [] with
    | some (T', h', done) => match Nat.beq done (2 ^ ops.size - 1) with
      | true => some (T', h')
      | false => none
    | none => none
  | false => none
/-- The run of a call. -/
def ev (P : Program) (sy : Sy) (tb : Tb) (G k f : Nat) : CallB := evF P sy tb G (fun G n call => evD P sy G n call) k f
end Go.Eva
