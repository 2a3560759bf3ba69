/-
  A run of a closed call: what writes, what makes memory, what calls. No program in sight.
-/
import Derived.Test.YtenigphjddnknaaGreatDoorEvaX
namespace Go.Eva
open Go Go.RowKit Go.Viv

/-! ### Frames -/
def look (T : Tr Value) (t : Nat) : Value := match T.at_ t with
  | some v => v
  | none => undef
def evl (G : Nat) (T : Tr Value) : Operand → Value
  | .tmp t => look T t
  | .const v => (match plainV v with | true => v | false => .chan none)
  | .global g => (match Nat.blt g G with | true => .pointer (some ⟨g, 0, none⟩) | false => .chan none)
  | .func f => .func (.func f) ⟨[]⟩ ⟨[]⟩
def putT (n : Nat) (T : Tr Value) (d : Option Tmp) (v : Value) : Option (Tr Value) :=
  match d with
  | none => some T
  | some d => match Nat.blt d n with
    | true => some (T.set d (some v))
    | false => none
def wantedB (ops : List Oper) (T : Tr Value) (o : Oper) : Option Bool :=
  match o.guard with
  | none => some true
  | some (j, want) => match (ops[j]?).bind (·.dst) with
    | none => some false
    | some t => match look T t with
      | .bool b => some (b == want)
      | .tuple ⟨[]⟩ => some false
      | _ => none

/-! ### Calls -/
/-- A method of a type: found by its name. -/
def methB (P : Program) (t : TypeId) (name : String) : Option (FuncId × Bool) := match P.info? t with
  | some i => match i.methods.find? (·.name == name) with
    | some m => match m.path.isEmpty with
      | true => m.func
      | false => none
    | none => none
  | none => none
def isPtr (P : Program) (t : TypeId) : Option (Option TypeId) := (P.underlying t).map fun
  | .pointer e => some e
  | _ => none
def recvB (P : Program) (t : TypeId) (name : String) (v : Value) : Option (FuncId × Value) :=
  match methB P t name, isPtr P t with
  | some (f, true), some (some _) => some (f, v)
  | some (f, false), some none => some (f, v)
  | _, _ => none
def targetB (P : Program) (ρ : Operand → Value) (c : Call) : Option (FuncId × List Value) :=
  match c.callee with
  | .value f => (match ρ f with
    | .func (.func g) ⟨first⟩ ⟨cap⟩ => some (g, (first ++ c.args.toList.map ρ) ++ cap)
    | .func (.methodOf t name) ⟨first⟩ ⟨_⟩ => (match P.underlying t, first ++ c.args.toList.map ρ with
      | some (.interface _), _ => none
      | some _, x :: rest => (recvB P t name x).map fun (g, y) => (g, y :: rest)
      | _, _ => none)
    | _ => none)
  | .invoke r name => (match ρ r with
    | .iface t v => (recvB P t name v).map fun (g, y) => (g, y :: c.args.toList.map ρ)
    | _ => none)
  | .builtin _ => none
abbrev CallB := FuncId → List Value → Hp → Option (Value × Hp)
def okFn (P : Program) (f : FuncId) : Bool := match P.funcs[f]? with
  | some fn => fn.body.isSome && !(fn.name == "runtime.NumGoroutine")
  | none => false
def evE (P : Program) (call : CallB) (ρ : Operand → Value) (h : Hp) : Op → Option (Value × Hp)
  | .store t a v => (match storeB P h.t t (ρ a) (ρ v) with
    | some t => some (undef, ⟨t, h.next⟩)
    | none => none)
  | .mapUpdate t m k v => (match mapSetB P h.t t (ρ m) (ρ k) (ρ v) with
    | some t => some (undef, ⟨t, h.next⟩)
    | none => none)
  | .call c => (match c.callee, c.args.toList with
    | .builtin .append, [s, x] => appendB P h c.argTypes.toList (ρ s) (ρ x)
    | .builtin .clear, [x] => (match clearB P h.t c.argTypes.toList (ρ x) with
      | some t => some (.tuple ⟨[]⟩, ⟨t, h.next⟩)
      | none => none)
    | .builtin .delete, [m, k] => (match mapDelB P h.t c.argTypes.toList (ρ m) (ρ k) with
      | some t => some (.tuple ⟨[]⟩, ⟨t, h.next⟩)
      | none => none)
    | _, _ => match targetB P ρ c with
      | some (g, args) => match okFn P g with
        | true => call g args h
        | false => none
      | none => none)
  | _ => none
/-- What an operation is to memory. -/
inductive Kd where
  | quiet
  | alloc
  | eff
def kind : Op → Kd
  | .alloc _ => .alloc
  | .box _ _ => .alloc
  | .makeMap _ _ => .alloc
  | .makeSlice _ _ _ => .alloc
  | .buildSlice _ _ _ => .alloc
  | .store _ _ _ => .eff
  | .mapUpdate _ _ _ _ => .eff
  | .call c => (match c.callee with
    | .builtin .append => .eff
    | .builtin .copy => .eff
    | .builtin .delete => .eff
    | .builtin .clear => .eff
    | .builtin _ => .quiet
    | _ => .eff)
  | _ => .quiet
def evOp (P : Program) (sy : Sy) (call : CallB) (ρ : Operand → Value) (h : Hp) (o : Op) : Option (Value × Hp) :=
  match kind o with
  | .quiet => match evQ P sy ρ h.t o with
    | some v => some (v, h)
    | none => none
  | .alloc => match evA P ρ h.next o with
    | some (v, ob) => some (v, ⟨h.t.set h.next (some ob), h.next + 1⟩)
    | none => none
  | .eff => evE P call ρ h o
def evSeq (P : Program) (sy : Sy) (G n : Nat) (call : CallB) (all : List Oper) : List Oper → Tr Value → Hp → Option (Tr Value × Hp)
  | [], T, h => some (T, h)
  | o :: rest, T, h => match wantedB all T o with
    | some true => match evOp P sy call (evl G T) h o.op with
      | some (v, h') => match fkT P sy o.op v with
        | none => (match putT n T o.dst v with
          | some T' => evSeq P sy G n call all rest T' h'
          | none => none)
        | some c => (match putT n T o.dst (.bool true), putT n T o.dst (.bool false) with
          | some T1, some T2 => (match evSeq P sy G n call all rest T1 h', evSeq P sy G n call all rest T2 h' with
            | some (Ta, ha), some (Tb, hb) => some (joinT sy c Ta Tb, joinH sy c ha hb)
            | _, _ => none)
          | _, _ => none)
      | none => none
    | some false => match putT n T o.dst undef with
      | some T' => evSeq P sy G n call all rest T' h
      | none => none
    | none => none

inductive Ex where
  | normal
  | exit (id : Nat)
  | ret
/-- A plain region whose last operation defers a call. -/
def defOf : List Oper → Option Call
  | [] => none
  | [o] => (match o.op, o.dst, o.guard with | .defer c, none, none => some c | _, _, _ => none)
  | _ :: o :: l => defOf (o :: l)
def dfrB (P : Program) (ρ : Operand → Value) (c : Call) : Option Value := match c.callee with
  | .value (.func g) => (match okFn P g with | true => some (.func (.func g) ⟨c.args.toList.map ρ⟩ ⟨[]⟩) | false => none)
  | _ => none
/-- A region that draws its order: see further on. -/
abbrev DrawB := (ops : Array Oper) → Tr Value → Hp → Option (Tr Value × Hp)
def evC (P : Program) (sy : Sy) (G n : Nat) (call : CallB) (draw : DrawB) : Nat → Code → Tr Value → Hp → Option (Ex × Tr Value × Hp)
  | 0, _, _, _ => none
  | f + 1, c, T, h => match c with
    | .skip => some (.normal, T, h)
    | .label _ => some (.normal, T, h)
    | .region _ ops false => (match evSeq P sy G n call ops.toList ops.toList T h with
      | some (T', h') => some (.normal, T', h')
      | none => none)
    | .region _ ops true => (match draw ops T h with
      | some (T', h') => some (.normal, T', h')
      | none => none)
    | .seq a b => (match evC P sy G n call draw f a T h with
      | some (.normal, T', h') => evC P sy G n call draw f b T' h'
      | r => r)
    | .cond x a b => (match evl G T x with
      | .bool true => evC P sy G n call draw f a T h
      | .bool false => evC P sy G n call draw f b T h
      | .chan (some c) => (match testB sy c, evC P sy G n call draw f a T h, evC P sy G n call draw f b T h with
        | true, some (.normal, T1, h1), some (.normal, T2, h2) => some (.normal, joinT sy c T1 T2, joinH sy c h1 h2)
        | _, _, _ => none)
      | _ => none)
    | .block id body => (match evC P sy G n call draw f body T h with
      | some (.exit id', T', h') => (match Nat.beq id' id with
        | true => some (.normal, T', h')
        | false => some (.exit id', T', h'))
      | r => r)
    | .loop body => (match evC P sy G n call draw f body T h with
      | some (.normal, T', h') => evC P sy G n call draw f (.loop body) T' h'
      | r => r)
    | .scope body => evC P sy G n call draw f body T h
    | .exit id => some (.exit id, T, h)
    | .ret => some (.ret, T, h)
    | _ => none
def args0 : List Value → Nat → Tr Value → Tr Value
  | [], _, T => T
  | v :: l, i, T => args0 l (i + 1) (T.set i (some v))
def resB (P : Program) (H : Tr AObj) (T : Tr Value) : List ResultVar → Option (List Value)
  | [] => some []
  | .tmp t :: l => (resB P H T l).map (look T t :: ·)
  | .cell a t :: l => match loadB P H t (look T a), resB P H T l with
    | some v, some vs => some (v :: vs)
    | _, _ => none
def packB : List Value → Value
  | [v] => v
  | l => .tuple ⟨l⟩
/-- Calls that are not looked into: what they come to is told by a table. -/
abbrev Tb := Tr (List Value → Hp → Option (Value × Hp))
/-- A body, statement by statement: one of them may defer a call, which is told beside the frame. -/
def evS (P : Program) (sy : Sy) (G n : Nat) (call : CallB) (draw : DrawB) : Nat → Code → Tr Value → Hp → Value → Option (Ex × Tr Value × Hp × Value)
  | 0, _, _, _, _ => none
  | f + 1, c, T, h, d => match c with
    | .seq a b => (match evS P sy G n call draw f a T h d with
      | some (.normal, T', h', d') => evS P sy G n call draw f b T' h' d'
      | r => r)
    | .region _ ops false => (match defOf ops.toList with
      | some c => (match evSeq P sy G n call ops.toList ops.toList.dropLast T h with
        | some (T', h') => (match d, dfrB P (evl G T') c with
          | .tuple ⟨[]⟩, some v => some (.normal, T', h', v)
          | _, _ => none)
        | none => none)
      | none => (match evSeq P sy G n call ops.toList ops.toList T h with
        | some (T', h') => some (.normal, T', h', d)
        | none => none))
    | c => (match evC P sy G n call draw (f + 1) c T h with
      | some (x, T', h') => some (x, T', h', d)
      | none => none)
/-- A function's body: where it ends, and what it has deferred. -/
def evBody (P : Program) (sy : Sy) (G k : Nat) (call : CallB) (draw : Nat → DrawB) (g : FuncId) (args : List Value) (h : Hp) : Option (Func × Tr Value × Hp × Value) := match P.funcs[g]? with
  | some fn => match fn.body with
    | some c => match Nat.ble args.length fn.ntmps with
      | true => match evS P sy G fn.ntmps call (draw fn.ntmps) k c (args0 args 0 .nil) h undef with
        | some (.exit _, _, _, _) => none
        | some (_, T, h', d) => some (fn, T, h', d)
        | none => none
      | false => none
    | none => none
  | none => none
def evEnd (P : Program) (fn : Func) (T : Tr Value) (h : Hp) : Option (Value × Hp) := match resB P h.t T fn.results.toList with
  | some vs => some (packB vs, h)
  | none => none
/-- A call that defers nothing. -/
def evPlain (P : Program) (sy : Sy) (G k : Nat) (call : CallB) (draw : Nat → DrawB) (g : FuncId) (args : List Value) (h : Hp) : Option (Value × Hp) := match evBody P sy G k call draw g args h with
  | some (fn, T, h', d) => (match d with
    | .tuple ⟨[]⟩ => evEnd P fn T h'
    | _ => none)
  | none => none
/-- The first fuel is for calls in calls; the second, for one body. -/
def evF (P : Program) (sy : Sy) (tb : Tb) (G : Nat) (draw : Nat → Nat → CallB → DrawB) (k : Nat) : Nat → CallB
  | 0, _, _, _ => none
  | f + 1, g, args, h => match tb.at_ g with
  | some c => c args h
  | none => match evBody P sy G k (evF P sy tb G draw k f) (fun n => draw G n (evF P sy tb G draw k f)) g args h with
    | some (fn, T, h', d) => (match d with
      | .tuple ⟨[]⟩ => evEnd P fn T h'
      | .func (.func g2) ⟨a2⟩ ⟨[]⟩ => (match evPlain P sy G k (evF P sy tb G draw k f) (fun n => draw G n (evF P sy tb G draw k f)) g2 a2 h' with
        | some (_, h2) => evEnd P fn T h2
        | none => none)
      | _ => none)
    | none => none
end Go.Eva
