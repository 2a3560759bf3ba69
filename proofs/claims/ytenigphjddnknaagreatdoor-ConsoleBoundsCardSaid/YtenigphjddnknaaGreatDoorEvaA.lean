/-
  A run of a closed call, reckoned by the kernel: memory as a tree of blocks, and what each operation yields there. Plain definitions; no program in sight.
-/
import Derived.WalkKit
import Derived.Test.YtenigphjddnknaaGreatDoorRs
namespace Go.Eva
open Go

/-! ### Trees by numbers -/
inductive Pz where
  | h
  | o (p : Pz)
  | i (p : Pz)
def Pz.of : Nat → Nat → Pz
  | 0, _ => .h
  | f + 1, n => match Nat.ble n 1 with
    | true => .h
    | false => match Nat.beq (n % 2) 0 with
      | true => .o (Pz.of f (n / 2))
      | false => .i (Pz.of f (n / 2))
def key (n : Nat) : Pz := Pz.of (n + 1) (n + 1)
inductive Tr (α : Type) where
  | nil
  | node (l : Tr α) (v : Option α) (r : Tr α)
namespace Tr
variable {α : Type}
def val : Tr α → Option α
  | nil => none
  | node _ v _ => v
def left : Tr α → Tr α
  | nil => nil
  | node l _ _ => l
def right : Tr α → Tr α
  | nil => nil
  | node _ _ r => r
def get (t : Tr α) : Pz → Option α
  | .h => t.val
  | .o p => t.left.get p
  | .i p => t.right.get p
def put (t : Tr α) (p : Pz) (v : Option α) : Tr α :=
  match p with
  | .h => node t.left v t.right
  | .o p => node (t.left.put p v) t.val t.right
  | .i p => node t.left t.val (t.right.put p v)
def at_ (t : Tr α) (n : Nat) : Option α := t.get (key n)
def set (t : Tr α) (n : Nat) (v : Option α) : Tr α := t.put (key n) v
end Tr

/-! ### Blocks -/
inductive AObj where
  | cells (c : List Value) (elem : TypeId) (rw : Bool)
  | map (es : List MapEntry) (clock : Nat)
  | res (x : Rs)
structure Hp where
  t : Tr AObj
  next : Nat

/-- What looks at the program alone. -/
def pureRun {α : Type} (P : Program) : Sem α → Option α
  | .pure a => some a
  | .program k => pureRun P (k P)
  | _ => none

mutual
/-- Does a value bear no address? -/
def plainV : Value → Bool
  | .bool _ => true
  | .int _ _ => true
  | .string _ => true
  | .pointer none => true
  | .slice none 0 0 => true
  | .map none => true
  | .func _ ⟨f⟩ ⟨c⟩ => plainL f && plainL c
  | .nilFunc => true
  | .iface _ v => plainV v
  | .nilIface => true
  | .agg ⟨l⟩ => plainL l
  | .tuple ⟨l⟩ => plainL l
  | _ => false
def plainL : List Value → Bool
  | [] => true
  | v :: l => plainV v && plainL l
end

section
variable (P : Program)
def isAggB (t : TypeId) : Option Bool := (P.underlying t).map fun
  | .struct _ | .array _ _ => true
  | _ => false
def sizeB (t : TypeId) : Option Nat := (P.info? t).map (·.size)
def zeroB (t : TypeId) : Option (List Value) := match P.info? t with
  | some i => i.zero.map fun v => v.cells.toList
  | none => none
/-- Are there n more? -/
def has {α : Type} : List α → Nat → Bool
  | _, 0 => true
  | [], _ + 1 => false
  | _ :: l, n + 1 => has l n
def readCells (c : List Value) (o n : Nat) : Option (List Value) :=
  match has (c.drop o) n with
  | true => some ((c.drop o).take n)
  | false => none
def loadB (H : Tr AObj) (t : TypeId) : Value → Option Value
  | .pointer (some ⟨B, o, none⟩) => match H.at_ B with
    | some (.cells c _ _) => match isAggB P t with
      | some true => match sizeB P t with
        | some n => (readCells c o n).map fun l => .agg ⟨l⟩
        | none => none
      | some false => c[o]?
      | none => none
    | some (.res x) => match isAggB P t with
      | some true => match sizeB P t with
        | some n => (readCells (viewRs x) o n).map fun l => .agg ⟨l⟩
        | none => none
      | some false => (viewRs x)[o]?
      | none => none
    | _ => none
  | _ => none
def nilB : Value → Option Value
  | .pointer (some a) => some (.pointer (some a))
  | .func (.func f) a c => some (.func (.func f) a c)
  | .func (.methodOf t n) a c => some (.func (.methodOf t n) a c)
  | .iface t v => some (.iface t v)
  | .map (some r) => some (.map (some r))
  | .slice (some a) n c => some (.slice (some a) n c)
  | _ => none
def onlyPlain (v : Value) : Option Value := match plainV v with
  | true => some v
  | false => none
def semV : Sem Value → Option Value
  | .pure v => onlyPlain v
  | _ => none
def runV (P : Program) (s : Sem Value) : Option Value := match pureRun P s with
  | some v => onlyPlain v
  | none => none
/-- Two addresses of the program's own blocks: are they one? -/
def samePtr (H : Tr AObj) (B o B' o' : Nat) : Option Bool :=
  match Nat.beq B B' with
  | true => some (Nat.beq o o')
  | false => match H.at_ B, H.at_ B' with
    | some (.cells _ _ true), some (.cells _ _ true) => some false
    | _, _ => none
def isEq : BinOp → Option Bool
  | .eql => some true
  | .neq => some false
  | _ => none
def eqB (H : Tr AObj) (xt : TypeId) : Value → Value → Option Bool
  | .pointer none, .pointer none => (match P.underlying xt with | some (.pointer _) => some true | _ => none)
  | .pointer none, .pointer (some _) => (match P.underlying xt with | some (.pointer _) => some false | _ => none)
  | .pointer (some _), .pointer none => (match P.underlying xt with | some (.pointer _) => some false | _ => none)
  | .pointer (some ⟨B, o, none⟩), .pointer (some ⟨B', o', none⟩) => (match P.underlying xt with
    | some (.pointer e) => match sizeB P e with
      | some (_ + 1) => samePtr H B o B' o'
      | _ => none
    | _ => none)
  | .slice (some _) _ _, .slice none 0 0 => (match P.underlying xt with | some (.slice _) => some false | _ => none)
  | .slice none 0 0, .slice (some _) _ _ => (match P.underlying xt with | some (.slice _) => some false | _ => none)
  | .slice none 0 1, .slice none 0 0 => (match P.underlying xt with | some (.slice _) => some false | _ => none)
  | .slice none 0 0, .slice none 0 1 => (match P.underlying xt with | some (.slice _) => some false | _ => none)
  | .iface _ _, .nilIface => (match P.underlying xt with | some (.interface _) => some false | _ => none)
  | .nilIface, .iface _ _ => (match P.underlying xt with | some (.interface _) => some false | _ => none)
  | .map (some _), .map none => (match P.underlying xt with | some (.map _ _) => some false | _ => none)
  | .func _ _ _, .nilFunc => (match P.underlying xt with | some (.func _ _ _) => some false | _ => none)
  | _, _ => none
/-- A struct of whole numbers alone: how many. -/
def flatF : Nat → List Field → Bool
  | _, [] => true
  | o, f :: l => (!(f.name == "_")) && Nat.beq f.offset o && (match P.underlying f.type with | some (.int _) => true | _ => false) && flatF (o + 1) l
def flatI (t : TypeId) : Option Nat := match P.underlying t with
  | some (.struct fs) => (match flatF P 0 fs.toList && !(P.stoodInHeld t) && !(P.eqGuardType P.depth t) with | true => some fs.toList.length | false => none)
  | _ => none
def eqInts : List Value → List Value → Option Bool
  | [], [] => some true
  | .int .i64 a :: l, .int .i64 b :: k => (eqInts l k).map fun r => decide (a = b) && r
  | _, _ => none
def aggB (op : BinOp) (xt : TypeId) (ox oy : Operand) (l k : List Value) : Option Value := match isEq op, flatI P xt, eqInts l k with
  | some p, some n, some b => (match Nat.beq l.length n with | true => some (.bool (b == p)) | false => none)
  | _, _, _ => (match plainL l && plainL k with | true => runV P (do eqGuard op xt ox oy (.agg ⟨l⟩) (.agg ⟨k⟩); binOp op xt (.agg ⟨l⟩) (.agg ⟨k⟩)) | false => none)
def binB (H : Tr AObj) (op : BinOp) (xt : TypeId) (ox oy : Operand) : Value → Value → Option Value
  | .int k a, .int k' b => semV (binOp op xt (.int k a) (.int k' b))
  | .agg ⟨l⟩, .agg ⟨k⟩ => aggB P op xt ox oy l k
  | x, y => match plainV x && plainV y with
    | true => runV P (do eqGuard op xt ox oy x y; binOp op xt x y)
    | false => match isEq op with
      | some p => (eqB P H xt x y).map fun b => .bool (b == p)
      | none => none
def wrapInt : Value → Option Nat
  | .int _ (.ofNat n) => some n
  | _ => none
def fieldAddrB (s : TypeId) (f : Nat) : Value → Option Value
  | .pointer (some ⟨B, o, none⟩) => match P.underlying s with
    | some (.struct fs) => match fs[f]? with
      | some fd => match sizeB P fd.type with
        | some (_ + 1) => some (.pointer (some ⟨B, o + fd.offset, none⟩))
        | _ => none
      | none => none
    | _ => none
  | _ => none
def partB (t : TypeId) (cs : List Value) (off : Nat) : Option Value :=
  match isAggB P t with
  | some true => match sizeB P t with
    | some n => some (.agg ⟨(cs.drop off).take n⟩)
    | none => none
  | some false => cs[off]?
  | none => none
def fieldB (s : TypeId) (f : Nat) : Value → Option Value
  | .agg ⟨cs⟩ => match P.underlying s with
    | some (.struct fs) => match fs[f]? with
      | some fd => partB P fd.type cs fd.offset
      | none => none
    | _ => none
  | _ => none
def indexAddrB (t : TypeId) (x ix : Value) : Option Value :=
  match wrapInt ix, P.underlying t, x with
  | some i, some (.array len elem), .pointer (some ⟨B, o, none⟩) => match Nat.blt i len, sizeB P elem with
    | true, some n => some (.pointer (some ⟨B, o + i * n, none⟩))
    | _, _ => none
  | some i, some (.slice elem), .slice (some ⟨B, o, none⟩) len _ => match Nat.blt i len, sizeB P elem with
    | true, some n => some (.pointer (some ⟨B, o + i * n, none⟩))
    | _, _ => none
  | _, _, _ => none
def indexB (t : TypeId) (x ix : Value) : Option Value :=
  match wrapInt ix, P.underlying t, x with
  | some i, some (.array len elem), .agg ⟨cs⟩ => match Nat.blt i len, sizeB P elem with
    | true, some n => partB P elem cs (i * n)
    | _, _ => none
  | some i, some .string, .string s => (match s[i]? with
    | some b => some (.int .u8 b.toNat)
    | none => none)
  | _, _, _ => none
/-- A slice of known room c: written with c + 1; of room that is not known: with 0. -/
def sliceB (H : Tr AObj) (t : TypeId) (x : Value) (lo hi mx : Option Value) : Option Value :=
  match P.underlying t, x with
  | some (.slice elem), .slice none 0 0 => match lo.elim (some 0) wrapInt, hi.elim (some 0) wrapInt, mx.elim (some 0) wrapInt, sizeB P elem with
    | some 0, some 0, some 0, some _ => (match mx.isNone || hi.isSome with | true => some (.slice none 0 0) | false => none)
    | _, _, _, _ => none
  | some (.slice elem), .slice none 0 1 => match lo.elim (some 0) wrapInt, hi.elim (some 0) wrapInt, mx, sizeB P elem with
    | some 0, some 0, none, some _ => some (.slice none 0 1)
    | _, _, _, _ => none
  | some (.slice elem), .slice (some ⟨B, o, none⟩) len (cap + 1) => match sizeB P elem, lo.elim (some 0) wrapInt, hi.elim (some len) wrapInt, mx.elim (some cap) wrapInt with
    | some n, some l, some h, some m => match Nat.ble l h && Nat.ble h m && Nat.ble m cap && (mx.isNone || hi.isSome) with
      | true => some (.slice (some ⟨B, match Nat.beq m l with | true => o | false => o + l * n, none⟩) (h - l) (m - l + 1))
      | false => none
    | _, _, _, _ => none
  | some (.slice elem), .slice (some ⟨B, o, none⟩) len 0 => match sizeB P elem, lo.elim (some 0) wrapInt, hi.elim (some len) wrapInt, mx with
    | some n, some l, some h, none => match Nat.ble l h, H.at_ B with
      | true, some (.cells c e true) => match Nat.beq e elem && (Nat.ble h len || (Nat.ble 1 n && (Nat.ble 1 len || Nat.beq o 0) && Nat.ble (o + h * n) c.length)) with
        | true => some (.slice (some ⟨B, match Nat.beq h l with | true => (match Nat.beq l 0 with | true => o | false => 1) | false => o + l * n, none⟩) (h - l) 0)
        | false => none
      | _, _ => none
    | some n, some l, some h, some m => match wrapInt m with
      | some m => match Nat.ble l h && Nat.ble h m && Nat.ble m len && (mx.isNone || hi.isSome) && Nat.ble 1 len with
        | true => some (.slice (some ⟨B, match Nat.beq m l with | true => o | false => o + l * n, none⟩) (h - l) (m - l + 1))
        | false => none
      | none => none
    | _, _, _, _ => none
  | some (.array len elem), .pointer (some ⟨B, o, none⟩) => match sizeB P elem, lo.elim (some 0) wrapInt, hi.elim (some len) wrapInt, mx.elim (some len) wrapInt with
    | some n, some l, some h, some m => match Nat.ble l h && Nat.ble h m && Nat.ble m len && (mx.isNone || hi.isSome) with
      | true => some (.slice (some ⟨B, match Nat.beq m l with | true => o | false => o + l * n, none⟩) (h - l) (m - l + 1))
      | false => none
    | _, _, _, _ => none
  | some .string, .string s => match lo.elim (some 0) wrapInt, hi.elim (some s.size) wrapInt, mx with
    | some l, some h, none => match Nat.ble l h && Nat.ble h s.size with
      | true => some (.string (s.extract l h))
      | false => none
    | _, _, _ => none
  | _, _ => none
end
/-! ### Values made of parts -/
def cellsL : Value → List Value
  | .agg ⟨l⟩ => l
  | v => [v]
def oneB : Value → Bool
  | .agg _ => false
  | .tuple _ => false
  | .chan none => false
  | _ => true
/-- vs laid over cells from off on. -/
def spl (cells : List Value) (off : Nat) (vs : List Value) : List Value := cells.take off ++ (vs ++ cells.drop (off + vs.length))
def fillB (place : Nat → Option (Nat × Nat)) : List Value → List (Nat × Value) → Option (List Value)
  | cells, [] => some cells
  | cells, (i, v) :: rest => match place i with
    | none => none
    | some (off, size) => match Nat.beq (cellsL v).length size && Nat.ble (off + (cellsL v).length) cells.length && (cellsL v).all oneB with
      | true => fillB place (spl cells off (cellsL v)) rest
      | false => none
def placesB (P : Program) : List Field → Option (List (Nat × Nat))
  | [] => some []
  | f :: fs => match sizeB P f.type, placesB P fs with
    | some n, some l => some ((f.offset, n) :: l)
    | _, _ => none
def rep (z : List Value) : Nat → List Value
  | 0 => []
  | n + 1 => z ++ rep z n
def mapB (ρ : Operand → Value) : List (Nat × Operand) → List (Nat × Value)
  | [] => []
  | (i, x) :: l => (i, ρ x) :: mapB ρ l
section
variable (P : Program)
def plainZero (t : TypeId) : Option (List Value) := match zeroB P t with
  | some z => match plainL z with
    | true => some z
    | false => none
  | none => none
def buildB (t : TypeId) (parts : List (Nat × Value)) : Option Value :=
  match plainZero P t, P.underlying t with
  | some z, some (.struct fs) => match placesB P fs.toList with
    | some pl => (fillB (fun i => pl[i]?) z parts).map fun l => .agg ⟨l⟩
    | none => none
  | some z, some (.array _ elem) => match sizeB P elem with
    | some size => (fillB (fun i => some (i * size, size)) z parts).map fun l => .agg ⟨l⟩
    | none => none
  | _, _ => none
def lenB (t : TypeId) : Value → Option Value
  | .string s => (match P.underlying t with | some .string => some (.int .i64 (.ofNat s.size)) | _ => none)
  | .slice _ n _ => (match P.underlying t with | some (.slice _) => some (.int .i64 (.ofNat n)) | some (.array n _) => some (.int .i64 (.ofNat n)) | _ => none)
  | .pointer _ => (match P.underlying t with | some (.array n _) => some (.int .i64 (.ofNat n)) | _ => none)
  | .agg _ => (match P.underlying t with | some (.array n _) => some (.int .i64 (.ofNat n)) | _ => none)
  | _ => none
def quietBuiltin (_H : Tr AObj) (b : Builtin) (ts : List TypeId) (args : List Value) : Option Value :=
  match b, ts, args with
  | .len, t :: _, [x] => lenB P t x
  | .cap, t :: _, [.slice none 0 0] => (match P.underlying t with | some (.slice _) => some (.int .i64 0) | _ => none)
  | .max, _, [.int k a, .int k' b] => semV (Builtin.max2 (.int k a) (.int k' b))
  | .min, _, [.int k a, .int k' b] => semV (Builtin.min2 (.int k a) (.int k' b))
  | _, _, _ => none
def zeroVal (e : TypeId) : Option Value := match P.info? e with
  | some i => match i.zero with
    | some z => onlyPlain z
    | none => none
  | none => none
def lookupB (H : Tr AObj) (t : TypeId) (m : Value) (k : Value) (ok : Bool) : Option Value :=
  match P.underlying t, k, m with
  | some (.map kt e), .int kk i, .map (some B) => match P.underlying kt, H.at_ B, zeroVal P e with
    | some (.int ik), some (.map es _), some z => match Instr.findNow (.int ik) (.int kk i) es 0 with
      | some (some (_, v)) => some (match ok with | true => .tuple ⟨[v, .bool true]⟩ | false => v)
      | some none => some (match ok with | true => .tuple ⟨[z, .bool false]⟩ | false => z)
      | none => none
    | _, _, _ => none
  | _, _, _ => none
/-- What is said of operations on what is left open. -/
abbrev Sy := Op → List Value → Option Value
def evQ0 (ρ : Operand → Value) (H : Tr AObj) : Op → Option Value
  | .move x => some (ρ x)
  | .assign x => some (ρ x)
  | .pick c a b => (match ρ c with | .bool true => some (ρ a) | .bool false => some (ρ b) | _ => none)
  | .load t a => loadB P H t (ρ a)
  | .nilCheck x => nilB (ρ x)
  | .binOp op xt x y _ => binB P H op xt x y (ρ x) (ρ y)
  | .unOp op _ x => match plainV (ρ x) with | true => semV (Op.unary op (ρ x)) | false => none
  | .convert s d x => match plainV (ρ x) with | true => runV P (Go.convert s d (ρ x)) | false => none
  | .makeInterface t x => (match P.underlying t with | some (.interface _) => none | some _ => some (.iface t (ρ x)) | none => none)
  | .makeFunc fn f c => some (.func fn ⟨f.toList.map ρ⟩ ⟨c.toList.map ρ⟩)
  | .slice t x l h m => sliceB P H t (ρ x) (l.map ρ) (h.map ρ) (m.map ρ)
  | .fieldAddr s x f => fieldAddrB P s f (ρ x)
  | .field s x f => fieldB P s f (ρ x)
  | .indexAddr t x i => indexAddrB P t (ρ x) (ρ i)
  | .index t x i => indexB P t (ρ x) (ρ i)
  | .lookup t m k ok => lookupB P H t (ρ m) (ρ k) ok
  | .build t parts => buildB P t (mapB ρ parts.toList)
  | .extract t i => (match ρ t with | .tuple ⟨l⟩ => l[i]? | _ => none)
  | .call c => (match c.callee with | .builtin b => quietBuiltin P H b c.argTypes.toList (c.args.toList.map ρ) | _ => none)
  | _ => none
def evQ (sy : Sy) (ρ : Operand → Value) (H : Tr AObj) (o : Op) : Option Value := match sy o (o.operands.toList.map ρ) with
  | some v => some v
  | none => evQ0 P ρ H o
/-- A new block's number is id. -/
def evA (ρ : Operand → Value) (id : Nat) : Op → Option (Value × AObj)
  | .alloc e => (match plainZero P e, sizeB P e with
    | some z, some _ => some (.pointer (some ⟨id, 0, none⟩), .cells z e true)
    | _, _ => none)
  | .box e x => (match sizeB P e with
    | some _ => match (cellsL (ρ x)).all oneB with
      | true => some (.pointer (some ⟨id, 0, none⟩), .cells (cellsL (ρ x)) e true)
      | false => none
    | none => none)
  | .makeMap _ none => some (.map (some id), .map [] 0)
  | .makeSlice t l c => (match P.underlying t, ρ l, ρ c with
    | some (.slice e), .int .i64 (.ofNat n), .int .i64 (.ofNat cap) => match Nat.ble n cap && Nat.ble cap 1000000 && Nat.ble ((((P.info? e).map (·.bytes)).getD 10000000)) 1000000, plainZero P e, sizeB P e with
      | true, some z, some s => match Nat.beq z.length s && Nat.ble 1 s with
        | true => some (.slice (some ⟨id, 0, none⟩) n (cap + 1), .cells (rep z cap) e true)
        | false => none
      | _, _, _ => none
    | _, _, _ => none)
  | .buildSlice t len parts => (match P.underlying t with
    | some (.slice e) => match plainZero P e, sizeB P e with
      | some z, some s => match Nat.beq z.length s && Nat.ble 1 s && Nat.ble (len * s) 1000000 with
        | true => match fillB (fun i => some (i * s, s)) (rep z len) (mapB ρ parts.toList) with
          | some l => some (.slice (some ⟨id, 0, none⟩) len (len + 1), .cells l e true)
          | none => none
        | false => none
      | _, _ => none
    | _ => none)
  | _ => none
def storeB (H : Tr AObj) (t : TypeId) (a v : Value) : Option (Tr AObj) :=
  match a with
  | .pointer (some ⟨B, o, none⟩) => match H.at_ B, sizeB P t with
    | some (.cells c e true), some (n + 1) => match Nat.beq (cellsL v).length (n + 1) && has (c.drop o) (n + 1) && (cellsL v).all oneB with
      | true => some (H.set B (some (.cells (spl c o (cellsL v)) e true)))
      | false => none
    | _, _ => none
  | _ => none
/-- The cells of a slice's, or a string's, first n elements. -/
def firstB (H : Tr AObj) (size n : Nat) : Value → Option (List Value)
  | .slice (some ⟨B, o, none⟩) len _ => match Nat.beq n 0 with
    | true => some []
    | false => match Nat.ble n len, H.at_ B with
      | true, some (.cells c _ _) => readCells c o (n * size)
      | _, _ => none
  | .slice none 0 0 => some []
  | .slice none 0 1 => (match Nat.beq n 0 with | true => some [] | false => none)
  | .string s => some ((s.extract 0 n).data.toList.map fun b => .int .u8 b.toNat)
  | _ => none
def lenV : Value → Option Nat
  | .slice _ n _ => some n
  | .string s => some s.size
  | _ => none
def srcB (xt : TypeId) : Bool := match P.underlying xt with
  | some (.slice _) => true
  | some .string => true
  | _ => false
/-- How many elements are appended, and their cells. -/
def newsB (H : Tr AObj) (size : Nat) (z : List Value) (xt : TypeId) (x : Value) : Option (Nat × List Value) :=
  match P.underlying xt, x with
  | some (.int _), .int _ (.ofNat n) => (match Nat.ble n 1000000 with | true => some (n, rep z n) | false => none)
  | some (.int _), _ => none
  | _, _ => match srcB P xt, lenV x with
    | true, some n => (firstB H size n x).map fun l => (n, l)
    | _, _ => none
def appendB (h : Hp) (ts : List TypeId) (s x : Value) : Option (Value × Hp) :=
  match ts with
  | [st, xt] => match P.underlying st with
    | some (.slice e) => match sizeB P e, plainZero P e with
      | some (size + 1), some z => match newsB P h.t (size + 1) z xt x with
        | some (n, new) => match new.all oneB && Nat.beq new.length (n * (size + 1)) && Nat.beq z.length (size + 1) && Nat.ble n 1000000 && Nat.ble (((P.info? e).map (·.bytes)).getD 10000000) 1000000 with
          | true => app h e (size + 1) n new s
          | false => none
        | none => none
      | _, _ => none
    | _ => none
  | _ => none
where
  app (h : Hp) (e : TypeId) (size n : Nat) (new : List Value) : Value → Option (Value × Hp)
    | .slice none 0 0 => match n with
      | 0 => some (.slice none 0 0, h)
      | n + 1 => some (.slice (some ⟨h.next, 0, none⟩) (n + 1) 0, ⟨h.t.set h.next (some (.cells new e true)), h.next + 1⟩)
    | .slice (some ⟨B, o, none⟩) len (cap + 1) => match Nat.ble (len + n) cap with
      | true => match h.t.at_ B with
        | some (.cells c e' true) => match has (c.drop (o + len * size)) new.length && Nat.ble (o + len * size) c.length with
          | true => some (.slice (some ⟨B, o, none⟩) (len + n) (cap + 1), ⟨h.t.set B (some (.cells (spl c (o + len * size) new) e' true)), h.next⟩)
          | false => none
        | _ => none
      | false => match firstB h.t size len (.slice (some ⟨B, o, none⟩) len (cap + 1)), Nat.ble len 1000000 with
        | some old, true => some (.slice (some ⟨h.next, 0, none⟩) (len + n) 0, ⟨h.t.set h.next (some (.cells (old ++ new) e true)), h.next + 1⟩)
        | _, _ => none
    | .slice (some ⟨B, 0, none⟩) len 0 => match n, h.t.at_ B with
      | 0, _ => some (.slice (some ⟨B, 0, none⟩) len 0, h)
      | n + 1, some (.cells c e' true) => match Nat.beq e e' && has c (len * size) && Nat.ble len 1000000 with
        | true => some (.slice (some ⟨h.next, 0, none⟩) (len + (n + 1)) 0, ⟨(h.t.set B none).set h.next (some (.cells (c.take (len * size) ++ new) e true)), h.next + 1⟩)
        | false => none
      | _, _ => none
    | _ => none
def copyB (H : Tr AObj) (ts : List TypeId) (d x : Value) : Option (Value × Tr AObj) :=
  match ts, d with
  | dt :: _, .slice (some ⟨B, o, none⟩) len _ => match P.underlying dt, lenV x with
    | some (.slice e), some m => match sizeB P e with
      | some size => match firstB H size (Nat.min m len) x, H.at_ B with
        | some new, some (.cells c e' true) => match has (c.drop o) new.length && new.all oneB with
          | true => some (.int .i64 (.ofNat (Nat.min m len)), H.set B (some (.cells (spl c o new) e' true)))
          | false => none
        | _, _ => none
      | none => none
    | _, _ => none
  | dt :: _, .slice none 0 0 => (match P.underlying dt, lenV x with
    | some (.slice e), some _ => (match sizeB P e, x with
      | some _, .slice _ _ _ => some (.int .i64 0, H)
      | some _, .string _ => some (.int .i64 0, H)
      | _, _ => none)
    | _, _ => none)
  | _, _ => none
def mapSetB (H : Tr AObj) (t : TypeId) (m k v : Value) : Option (Tr AObj) :=
  match P.underlying t, k, m with
  | some (.map kt _), .int kk i, .map (some B) => match P.underlying kt, H.at_ B with
    | some (.int ik), some (.map es clk) => match Instr.findNow (.int ik) (.int kk i) es 0 with
      | some (some (j, _)) => some (H.set B (some (.map (es.modify j fun e => { e with key := .int kk i, val := v }) clk)))
      | some none => some (H.set B (some (.map (es ++ [{ key := .int kk i, val := v, born := clk }]) (clk + 1))))
      | none => none
    | _, _ => none
  | _, _, _ => none
def mapDelB (H : Tr AObj) (ts : List TypeId) (m k : Value) : Option (Tr AObj) :=
  match ts with
  | [t, _] => match P.underlying t, k, m with
    | some (.map kt _), .int kk i, .map (some B) => match P.underlying kt, H.at_ B with
      | some (.int ik), some (.map es clk) => match Instr.findNow (.int ik) (.int kk i) es 0 with
        | some (some (j, _)) => some (H.set B (some (.map (es.eraseIdx j) clk)))
        | some none => some H
        | none => none
      | _, _ => none
    | _, _, _ => none
  | _ => none
/-- A slice's parts made nought. -/
def clearB (H : Tr AObj) (ts : List TypeId) (x : Value) : Option (Tr AObj) :=
  match ts, x with
  | [t], .slice _ 0 _ => (match P.underlying t with
    | some _ => some H
    | none => none)
  | [t], .slice (some ⟨B, o, none⟩) (len + 1) _ => (match P.underlying t with
    | some (.slice e) => (match plainZero P e, H.at_ B with
      | some z, some (.cells c e' true) => (match has (c.drop o) (rep z (len + 1)).length && Nat.ble o c.length && (rep z (len + 1)).all oneB with
        | true => some (H.set B (some (.cells (spl c o (rep z (len + 1))) e' true)))
        | false => none)
      | _, _ => none)
    | _ => none)
  | _, _ => none
end
end Go.Eva
