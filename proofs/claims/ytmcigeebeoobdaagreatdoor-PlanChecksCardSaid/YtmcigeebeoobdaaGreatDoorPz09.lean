/-
  A run reckoned with what is left open: what each operation comes to. No program in sight.
-/
import Derived.Test.YtmcigeebeoobdaaGreatDoorPz08
universe u
set_option linter.unusedSimpArgs false
set_option linter.unusedVariables false
namespace Go.Sym
/-- An equation that the walk does not take as one by definition (the kernel then sees each step). -/
theorem nr {α : Sort u} {a b : α} (h : a = b) : a = b := h
open Go Go.RowKit Go.Viv Go.Eva

section
variable {P : Program} {G n : Nat} {call : CallB} {T : Tr Value} {h : Hp} {H : Tr AObj} {K : Value → Hp → Prop} {ρ : Operand → Value} {t : TypeId} {ox oy : Operand}

/-! ### Decided tests -/
theorem dec_t {p : Prop} {d : Decidable p} (h : p) : @decide p d = true := decide_eq_true h
theorem dec_f {p : Prop} {d : Decidable p} (h : ¬ p) : @decide p d = false := decide_eq_false h
theorem beqi_t {a b : Int} (h : a = b) : (a == b) = true := by simp [h]
theorem beqi_f {a b : Int} (h : a ≠ b) : (a == b) = false := by simp [h]
theorem nblt_t {a b : Nat} (h : a < b) : Nat.blt a b = true := Nat.ble_eq_true_of_le h
theorem nblt_f {a b : Nat} (h : ¬ a < b) : Nat.blt a b = false := by
  cases e : Nat.blt a b with
  | false => rfl
  | true => exact absurd (blt_iff e) h
theorem nble_t {a b : Nat} (h : a ≤ b) : Nat.ble a b = true := Nat.ble_eq_true_of_le h
theorem nble_f {a b : Nat} (h : ¬ a ≤ b) : Nat.ble a b = false := by
  cases e : Nat.ble a b with
  | false => rfl
  | true => exact absurd (ble_iff e) h
theorem nbeq_t {a b : Nat} (h : a = b) : Nat.beq a b = true := by subst h; exact Nat.beq_refl a
theorem nbeq_f {a b : Nat} (h : a ≠ b) : Nat.beq a b = false := by
  cases e : Nat.beq a b with
  | false => rfl
  | true => exact absurd (beq_iff e) h

/-! ### Operands, frames -/
theorem evl_tmp (t : Tmp) : evl G T (.tmp t) = Eva.look T t := nr rfl
theorem evl_int (k : IntKind) (i : Int) : evl G T (.const (.int k i)) = .int k i := nr rfl
theorem evl_bool (b : Bool) : evl G T (.const (.bool b)) = .bool b := nr rfl
theorem evl_str (s : ByteArray) : evl G T (.const (.string s)) = .string s := nr rfl
theorem evl_ptr0 : evl G T (.const (.pointer none)) = .pointer none := nr rfl
theorem evl_sl0 : evl G T (.const (.slice none 0 0)) = .slice none 0 0 := nr rfl
theorem evl_map0 : evl G T (.const (.map none)) = .map none := nr rfl
theorem evl_nilFunc : evl G T (.const .nilFunc) = .nilFunc := nr rfl
theorem evl_nilIface : evl G T (.const .nilIface) = .nilIface := nr rfl
theorem evl_func (f : FuncId) : evl G T (.func f) = .func (.func f) ⟨[]⟩ ⟨[]⟩ := nr rfl
theorem evl_agg {l : List Value} (h : plainL l = true) : evl G T (.const (.agg ⟨l⟩)) = .agg ⟨l⟩ := by
  simp only [evl, plainV, h]
theorem evl_glob {g : Nat} (h : g < G) : evl G T (.global g) = .pointer (some ⟨g, 0, none⟩) := by
  simp only [evl, nblt_t h]
theorem putT_none (v : Value) : putT n T none v = some T := nr rfl
theorem putT_some {d : Nat} (v : Value) (h : d < n) : putT n T (@some Tmp d) v = some (T.set d (some v)) := by
  simp only [putT, nblt_t h]
theorem look_same (T : Tr Value) (d : Nat) (v : Value) : Eva.look (T.set d (some v)) d = v := look_set_same T d v
theorem look_ne (T : Tr Value) {d t : Nat} (v : Value) (h : d ≠ t) : Eva.look (T.set d (some v)) t = Eva.look T t := look_set_ne T v h
theorem wanted_none {ops : List Oper} {o : Oper} (h : o.guard = none) : wantedB ops T o = some true := by simp [wantedB, h]

/-! ### One operation -/
section
variable {P : Program} {G : Nat} {call : CallB} {T : Tr Value} {h : Hp} {K : Value → Hp → Prop}
def vK (K : Value → Hp → Prop) (h : Hp) (v : Value) : Prop := K v h
def pK (K : Value → Hp → Prop) (r : Value × Hp) : Prop := K r.1 r.2
def aK (K : Value → Hp → Prop) (h : Hp) (r : Value × AObj) : Prop := K r.1 ⟨h.t.set h.next (some r.2), h.next + 1⟩
def tK (K : Value → Hp → Prop) (h : Hp) (t : Tr AObj) : Prop := K undef ⟨t, h.next⟩
theorem pK_mk (K : Value → Hp → Prop) (v : Value) (h : Hp) : pK K (v, h) = K v h := nr rfl
theorem aK_mk (K : Value → Hp → Prop) (h : Hp) (v : Value) (o : AObj) : aK K h (v, o) = K v ⟨h.t.set h.next (some o), h.next + 1⟩ := nr rfl
theorem vK_ {K : Value → Hp → Prop} {h : Hp} (v : Value) : vK K h v = K v h := nr rfl
theorem tK_ {K : Value → Hp → Prop} {h : Hp} (t : Tr AObj) : tK K h t = K undef ⟨t, h.next⟩ := nr rfl
theorem k_quiet {o : Op} (hk : kind o = .quiet) : opK P G call o T h K = onSome (evQ0 P (evl G T) h.t o) (vK K h) := by
  unfold opK evOp
  rw [hk]
  show onSome (match evQ0 P (evl G T) h.t o with | some v => some (v, h) | none => none) _ = _
  cases evQ0 P (evl G T) h.t o <;> simp [onSome, vK, aK, pK, tK]
theorem k_alloc {o : Op} (hk : kind o = .alloc) : opK P G call o T h K = onSome (evA P (evl G T) h.next o) (aK K h) := by
  unfold opK evOp
  rw [hk]
  cases evA P (evl G T) h.next o <;> simp [onSome, vK, aK, pK, tK]
theorem k_eff {o : Op} (hk : kind o = .eff) : opK P G call o T h K = onSome (evE P call (evl G T) h o) (pK K) := by
  unfold opK evOp
  rw [hk]
  rfl
theorem k_move (x : Operand) : opK P G call (.move x) T h K = K (evl G T x) h := by rw [k_quiet rfl]; exact onSome_some _ _
theorem k_assign (x : Operand) : opK P G call (.assign x) T h K = K (evl G T x) h := by rw [k_quiet rfl]; exact onSome_some _ _
def pickB (c a b : Value) : Option Value := match c with | .bool true => some a | .bool false => some b | _ => none
theorem k_pick (c a b : Operand) : opK P G call (.pick c a b) T h K = onSome (pickB (evl G T c) (evl G T a) (evl G T b)) (vK K h) := nr (k_quiet rfl)
theorem k_load (t : TypeId) (a : Operand) : opK P G call (.load t a) T h K = onSome (loadB P h.t t (evl G T a)) (vK K h) := nr (k_quiet rfl)
theorem k_nilCheck (x : Operand) : opK P G call (.nilCheck x) T h K = onSome (nilB (evl G T x)) (vK K h) := nr (k_quiet rfl)
theorem k_binOp (op : BinOp) (xt : TypeId) (x y : Operand) (yt : TypeId) : opK P G call (.binOp op xt x y yt) T h K = onSome (binB P h.t op xt x y (evl G T x) (evl G T y)) (vK K h) := nr (k_quiet rfl)
def unB (op : UnOp) (x : Value) : Option Value := match plainV x with | true => semV (Op.unary op x) | false => none
theorem k_unOp (op : UnOp) (xt : TypeId) (x : Operand) : opK P G call (.unOp op xt x) T h K = onSome (unB op (evl G T x)) (vK K h) := nr (k_quiet rfl)
def convB (P : Program) (s d : TypeId) (x : Value) : Option Value := match plainV x with | true => runV P (Go.convert s d x) | false => none
theorem k_convert (s d : TypeId) (x : Operand) : opK P G call (.convert s d x) T h K = onSome (convB P s d (evl G T x)) (vK K h) := nr (k_quiet rfl)
def ifaceB (P : Program) (t : TypeId) (x : Value) : Option Value := match P.underlying t with | some (.interface _) => none | some _ => some (.iface t x) | none => none
theorem k_makeInterface (t : TypeId) (x : Operand) : opK P G call (.makeInterface t x) T h K = onSome (ifaceB P t (evl G T x)) (vK K h) := nr (k_quiet rfl)
theorem k_makeFunc (fn : Fn) (f c : Array Operand) : opK P G call (.makeFunc fn f c) T h K = K (.func fn ⟨f.toList.map (evl G T)⟩ ⟨c.toList.map (evl G T)⟩) h := by rw [k_quiet rfl]; exact onSome_some _ _
theorem k_slice (t : TypeId) (x : Operand) (l hi m : Option Operand) : opK P G call (.slice t x l hi m) T h K = onSome (sliceB P h.t t (evl G T x) (l.map (evl G T)) (hi.map (evl G T)) (m.map (evl G T))) (vK K h) := nr (k_quiet rfl)
theorem k_fieldAddr (s : TypeId) (x : Operand) (f : Nat) : opK P G call (.fieldAddr s x f) T h K = onSome (fieldAddrB P s f (evl G T x)) (vK K h) := nr (k_quiet rfl)
theorem k_field (s : TypeId) (x : Operand) (f : Nat) : opK P G call (.field s x f) T h K = onSome (fieldB P s f (evl G T x)) (vK K h) := nr (k_quiet rfl)
theorem k_indexAddr (t : TypeId) (x i : Operand) : opK P G call (.indexAddr t x i) T h K = onSome (indexAddrB P t (evl G T x) (evl G T i)) (vK K h) := nr (k_quiet rfl)
theorem k_index (t : TypeId) (x i : Operand) : opK P G call (.index t x i) T h K = onSome (indexB P t (evl G T x) (evl G T i)) (vK K h) := nr (k_quiet rfl)
theorem k_lookup (t : TypeId) (m k : Operand) (ok : Bool) : opK P G call (.lookup t m k ok) T h K = onSome (lookupB P h.t t (evl G T m) (evl G T k) ok) (vK K h) := nr (k_quiet rfl)
theorem k_build (t : TypeId) (parts : Array (Nat × Operand)) : opK P G call (.build t parts) T h K = onSome (buildB P t (mapB (evl G T) parts.toList)) (vK K h) := nr (k_quiet rfl)
def extB (i : Nat) : Value → Option Value
  | .tuple ⟨l⟩ => l[i]?
  | _ => none
theorem k_extract (x : Operand) (i : Nat) : opK P G call (.extract x i) T h K = onSome (extB i (evl G T x)) (vK K h) := nr (k_quiet rfl)
theorem k_alloc_ (e : TypeId) : opK P G call (.alloc e) T h K = onSome (evA P (evl G T) h.next (.alloc e)) (aK K h) := nr (k_alloc rfl)
theorem k_box (e : TypeId) (x : Operand) : opK P G call (.box e x) T h K = onSome (evA P (evl G T) h.next (.box e x)) (aK K h) := nr (k_alloc rfl)
theorem k_makeMap (e : TypeId) (x : Option Operand) : opK P G call (.makeMap e x) T h K = onSome (evA P (evl G T) h.next (.makeMap e x)) (aK K h) := nr (k_alloc rfl)
theorem k_makeSlice (t : TypeId) (l c : Operand) : opK P G call (.makeSlice t l c) T h K = onSome (evA P (evl G T) h.next (.makeSlice t l c)) (aK K h) := nr (k_alloc rfl)
theorem k_buildSlice (t : TypeId) (l : Nat) (p : Array (Nat × Operand)) : opK P G call (.buildSlice t l p) T h K = onSome (evA P (evl G T) h.next (.buildSlice t l p)) (aK K h) := nr (k_alloc rfl)
theorem k_store (t : TypeId) (a v : Operand) : opK P G call (.store t a v) T h K = onSome (storeB P h.t t (evl G T a) (evl G T v)) (tK K h) := by
  rw [k_eff rfl]
  simp only [evE]
  cases storeB P h.t t (evl G T a) (evl G T v) <;> simp [onSome, vK, aK, pK, tK]
theorem k_mapUpdate (t : TypeId) (m k v : Operand) : opK P G call (.mapUpdate t m k v) T h K = onSome (mapSetB P h.t t (evl G T m) (evl G T k) (evl G T v)) (tK K h) := by
  rw [k_eff rfl]
  simp only [evE]
  cases mapSetB P h.t t (evl G T m) (evl G T k) (evl G T v) <;> simp [onSome, vK, aK, pK, tK]
/-- A call of a builtin that only reads. -/
theorem k_len (ts : Array TypeId) (args : List Operand) : opK P G call (.call ⟨.builtin .len, ⟨args⟩, ts⟩) T h K = onSome (quietBuiltin P h.t .len ts.toList (args.map (evl G T))) (vK K h) := nr (k_quiet rfl)
theorem k_cap (ts : Array TypeId) (args : List Operand) : opK P G call (.call ⟨.builtin .cap, ⟨args⟩, ts⟩) T h K = onSome (quietBuiltin P h.t .cap ts.toList (args.map (evl G T))) (vK K h) := nr (k_quiet rfl)
theorem k_max (ts : Array TypeId) (args : List Operand) : opK P G call (.call ⟨.builtin .max, ⟨args⟩, ts⟩) T h K = onSome (quietBuiltin P h.t .max ts.toList (args.map (evl G T))) (vK K h) := nr (k_quiet rfl)
theorem k_min (ts : Array TypeId) (args : List Operand) : opK P G call (.call ⟨.builtin .min, ⟨args⟩, ts⟩) T h K = onSome (quietBuiltin P h.t .min ts.toList (args.map (evl G T))) (vK K h) := nr (k_quiet rfl)
theorem k_append (ts : Array TypeId) (s x : Operand) : opK P G call (.call ⟨.builtin .append, ⟨[s, x]⟩, ts⟩) T h K = onSome (appendB P h ts.toList (evl G T s) (evl G T x)) (pK K) := nr (k_eff rfl)
/-- A call of a function. -/
def goB (P : Program) (call : CallB) (h : Hp) : Option (FuncId × List Value) → Option (Value × Hp)
  | some (g, args) => match okFn P g with
    | true => call g args h
    | false => none
  | none => none
def valB (P : Program) (f : Value) (args : List Value) : Option (FuncId × List Value) := match f with
  | .func (.func g) ⟨first⟩ ⟨cap⟩ => some (g, (first ++ args) ++ cap)
  | .func (.methodOf t name) ⟨first⟩ ⟨_⟩ => (match P.underlying t, first ++ args with
    | some (.interface _), _ => none
    | some _, x :: rest => (recvB P t name x).map fun (g, y) => (g, y :: rest)
    | _, _ => none)
  | _ => none
def invB (P : Program) (r : Value) (name : String) (args : List Value) : Option (FuncId × List Value) := match r with
  | .iface t v => (recvB P t name v).map fun (g, y) => (g, y :: args)
  | _ => none
theorem k_value (f : Operand) (args : List Operand) (ts : Array TypeId) : opK P G call (.call ⟨.value f, ⟨args⟩, ts⟩) T h K = onSome (goB P call h (valB P (evl G T f) (args.map (evl G T)))) (pK K) := by
  rw [k_eff rfl]
  rfl
theorem k_invoke (r : Operand) (name : String) (args : List Operand) (ts : Array TypeId) : opK P G call (.call ⟨.invoke r name, ⟨args⟩, ts⟩) T h K = onSome (goB P call h (invB P (evl G T r) name (args.map (evl G T)))) (pK K) := by
  rw [k_eff rfl]
  rfl
theorem go_some {g : FuncId} {args : List Value} (hk : okFn P g = true) : goB P call h (some (g, args)) = call g args h := by simp only [goB, hk]
theorem val_func (g : FuncId) (f c args : List Value) : valB P (.func (.func g) ⟨f⟩ ⟨c⟩) args = some (g, (f ++ args) ++ c) := nr rfl
end
/-! ### Operations one behind the other; code -/
section
variable (P : Program) (G n : Nat) (call : CallB)
def rrK (all l : List Oper) (h : Hp) (K : Tr Value → Hp → Prop) (T : Tr Value) : Prop := R P G n call all l T h K
def rK (all l : List Oper) (T : Tr Value) (d : Option Tmp) (K : Tr Value → Hp → Prop) (v : Value) (h : Hp) : Prop := onSome (putT n T d v) (rrK P G n call all l h K)
def gK (all : List Oper) (o : Oper) (l : List Oper) (T : Tr Value) (h : Hp) (K : Tr Value → Hp → Prop) (b : Option Bool) : Prop := guardK b (opK P G call o.op T h (rK P G n call all l T o.dst K)) (onSome (putT n T o.dst undef) (rrK P G n call all l h K))
def rrdK (base : Nat) (all l : List Oper) (i : Nat) (h : Hp) (K : Tr Value → Hp → Prop) (T : Tr Value) : Prop := RD P G n call base all l i T h K
def rdK (base : Nat) (all l : List Oper) (i : Nat) (T : Tr Value) (d : Option Tmp) (K : Tr Value → Hp → Prop) (v : Value) (h : Hp) : Prop := onSome (putT n T d v) (rrdK P G n call base all l i h K)
def gdK (base : Nat) (all : List Oper) (o : Oper) (l : List Oper) (i : Nat) (T : Tr Value) (h : Hp) (K : Tr Value → Hp → Prop) (b : Option Bool) : Prop := guardK b (opD P G call base i o.op T h (rdK P G n call base all l (i + 1) T o.dst K)) (onSome (putT n T o.dst undef) (rrdK P G n call base all l (i + 1) h K))
def bK (base i : Nat) (K : Value → Hp → Prop) (h : Hp) (r : Value × AObj) : Prop := h.t.at_ (base + i) = none ∧ K r.1 ⟨h.t.set (base + i) (some r.2), h.next⟩
def ppK (base : Nat) (ops : List Oper) (rest : List (Nat × List Nat)) (h : Hp) (ents : List Ent) (K : Tr Value → Hp → Prop) (T : Tr Value) : Prop := PD P G n call base ops rest T h ents K
def pqK (base : Nat) (ops : List Oper) (rest : List (Nat × List Nat)) (T : Tr Value) (i : Nat) (o : Op) (d : Option Tmp) (ents : List Ent) (K : Tr Value → Hp → Prop) (v : Value) (h : Hp) : Prop := onSome (putT n T d v) (ppK P G n call base ops rest h (⟨i, o, T, v⟩ :: ents) K)
def peK (base : Nat) (ops : List Oper) (rest : List (Nat × List Nat)) (rc : List Nat) (T : Tr Value) (d : Option Tmp) (ents : List Ent) (K : Tr Value → Hp → Prop) (v : Value) (h : Hp) : Prop := againsR P G base rc h.t ents ∧ onSome (putT n T d v) (ppK P G n call base ops rest h ents K)
def paK (base : Nat) (ops : List Oper) (rest : List (Nat × List Nat)) (T : Tr Value) (i : Nat) (o : Op) (d : Option Tmp) (ents : List Ent) (h : Hp) (K : Tr Value → Hp → Prop) (r : Value × AObj) : Prop := h.t.at_ (base + i) = none ∧ onSome (putT n T d r.1) (ppK P G n call base ops rest ⟨h.t.set (base + i) (some r.2), h.next⟩ (⟨i, o, T, r.1⟩ :: ents) K)
def popK (base : Nat) (ops : List Oper) (rest : List (Nat × List Nat)) (i : Nat) (rc : List Nat) (d : Option Tmp) (o : Op) (T : Tr Value) (h : Hp) (ents : List Ent) (K : Tr Value → Hp → Prop) : Prop := match kind o with
  | .quiet => onSome (evQ0 P (evl G T) h.t o) fun v => onSome (putT n T d v) fun T' => PD P G n call base ops rest T' h (⟨i, o, T, v⟩ :: ents) K
  | .alloc => onSome (evA P (evl G T) (base + i) o) fun r => h.t.at_ (base + i) = none ∧ onSome (putT n T d r.1) fun T' => PD P G n call base ops rest T' ⟨h.t.set (base + i) (some r.2), h.next⟩ (⟨i, o, T, r.1⟩ :: ents) K
  | .eff => onSome (evE P call (evl G T) h o) fun r => againsR P G base rc r.2.t ents ∧ onSome (putT n T d r.1) fun T' => PD P G n call base ops rest T' r.2 ents K
def pgK (base : Nat) (ops : List Oper) (rest : List (Nat × List Nat)) (i : Nat) (rc : List Nat) (d : Option Tmp) (o : Op) (T : Tr Value) (h : Hp) (ents : List Ent) (K : Tr Value → Hp → Prop) (b : Option Bool) : Prop := guardK b (popK P G n call base ops rest i rc d o T h ents K) (onSome (putT n T d undef) (ppK P G n call base ops rest h ents K))
def ppoK (base : Nat) (ops : List Oper) (rest : List (Nat × List Nat)) (i : Nat) (rc : List Nat) (T : Tr Value) (h : Hp) (ents : List Ent) (K : Tr Value → Hp → Prop) (o : Option Oper) : Prop := onSome o fun o => pgK P G n call base ops rest i rc o.dst o.op T h ents K (wantedB ops T o)
def agK (base : Nat) (t : Tr AObj) (x : Ent) (l : List Ent) (rc : List Nat) (b : Bool) : Prop := (match b with
    | true => againK P G base t x
    | false => True) ∧ againsR P G base rc t l
def thenK (b : Code) (Q : Ex → Tr Value → Hp → Prop) (T : Tr Value) (h : Hp) : Prop := wpC P G n call b T h Q
def condK (a b : Code) (T : Tr Value) (h : Hp) (Q : Ex → Tr Value → Hp → Prop) (v : Value) : Prop := onBool v (wpC P G n call a T h Q) (wpC P G n call b T h Q)
end
section
variable {P : Program} {G n : Nat} {call : CallB} {T : Tr Value} {h : Hp} {Q : Ex → Tr Value → Hp → Prop} {K : Tr Value → Hp → Prop}
theorem rK_ (all l : List Oper) (T : Tr Value) (d : Option Tmp) (v : Value) : rK P G n call all l T d K v h = onSome (putT n T d v) (rrK P G n call all l h K) := nr rfl
theorem rrK_ (all l : List Oper) (T : Tr Value) : rrK P G n call all l h K T = R P G n call all l T h K := nr rfl
theorem rdK_ (base i : Nat) (all l : List Oper) (T : Tr Value) (d : Option Tmp) (v : Value) : rdK P G n call base all l i T d K v h = onSome (putT n T d v) (rrdK P G n call base all l i h K) := nr rfl
theorem rrdK_ (base i : Nat) (all l : List Oper) (T : Tr Value) : rrdK P G n call base all l i h K T = RD P G n call base all l i T h K := nr rfl
theorem thenK_ (b : Code) : thenK P G n call b Q T h = wpC P G n call b T h Q := nr rfl
theorem args0_nil (i : Nat) (T : Tr Value) : args0 [] i T = T := nr rfl
theorem args0_cons (v : Value) (l : List Value) (i : Nat) (T : Tr Value) : args0 (v :: l) i T = args0 l (i + 1) (T.set i (some v)) := nr rfl
theorem pickB_t (a b : Value) : pickB (.bool true) a b = some a := nr rfl
theorem pickB_f (a b : Value) : pickB (.bool false) a b = some b := nr rfl
theorem extB_ (i : Nat) (l : List Value) : extB i (.tuple ⟨l⟩) = l[i]? := nr rfl
theorem R_nil (all : List Oper) : R P G n call all [] T h K = K T h := nr rfl
theorem R_cons (all : List Oper) (o : Oper) (l : List Oper) : R P G n call all (o :: l) T h K = gK P G n call all o l T h K (wantedB all T o) := nr rfl
theorem R_plain (all : List Oper) (d : Option Tmp) (o : Op) (ty : TypeId) (pos : String) (after : Array Edge) (l : List Oper) : R P G n call all (⟨d, o, ty, pos, after, none⟩ :: l) T h K = opK P G call o T h (rK P G n call all l T d K) := nr rfl
theorem gK_true (all : List Oper) (o : Oper) (l : List Oper) : gK P G n call all o l T h K (some true) = opK P G call o.op T h (rK P G n call all l T o.dst K) := nr rfl
theorem gK_false (all : List Oper) (o : Oper) (l : List Oper) : gK P G n call all o l T h K (some false) = onSome (putT n T o.dst undef) (rrK P G n call all l h K) := nr rfl
theorem gK_of (all : List Oper) (o : Oper) (l : List Oper) {b : Bool} (h1 : b = true → gK P G n call all o l T h K (some true)) (h2 : b = false → gK P G n call all o l T h K (some false)) : gK P G n call all o l T h K (some b) := by
  cases b
  · exact h2 rfl
  · exact h1 rfl
theorem RD_nil (base i : Nat) (all : List Oper) : RD P G n call base all [] i T h K = K T h := nr rfl
theorem RD_guard (base i : Nat) (all : List Oper) (d : Option Tmp) (o : Op) (ty : TypeId) (pos : String) (after : Array Edge) (g : Nat × Bool) (l : List Oper) : RD P G n call base all (⟨d, o, ty, pos, after, some g⟩ :: l) i T h K = gdK P G n call base all ⟨d, o, ty, pos, after, some g⟩ l i T h K (wantedB all T ⟨d, o, ty, pos, after, some g⟩) := nr rfl
theorem R_guard (all : List Oper) (d : Option Tmp) (o : Op) (ty : TypeId) (pos : String) (after : Array Edge) (g : Nat × Bool) (l : List Oper) : R P G n call all (⟨d, o, ty, pos, after, some g⟩ :: l) T h K = gK P G n call all ⟨d, o, ty, pos, after, some g⟩ l T h K (wantedB all T ⟨d, o, ty, pos, after, some g⟩) := nr rfl
theorem RD_plain (base i : Nat) (all : List Oper) (d : Option Tmp) (o : Op) (ty : TypeId) (pos : String) (after : Array Edge) (l : List Oper) : RD P G n call base all (⟨d, o, ty, pos, after, none⟩ :: l) i T h K = opD P G call base i o T h (rdK P G n call base all l (i + 1) T d K) := nr rfl
theorem gdK_true (base i : Nat) (all : List Oper) (o : Oper) (l : List Oper) : gdK P G n call base all o l i T h K (some true) = opD P G call base i o.op T h (rdK P G n call base all l (i + 1) T o.dst K) := nr rfl
theorem gdK_false (base i : Nat) (all : List Oper) (o : Oper) (l : List Oper) : gdK P G n call base all o l i T h K (some false) = onSome (putT n T o.dst undef) (rrdK P G n call base all l (i + 1) h K) := nr rfl
theorem gdK_of (base i : Nat) (all : List Oper) (o : Oper) (l : List Oper) {b : Bool} (h1 : b = true → gdK P G n call base all o l i T h K (some true)) (h2 : b = false → gdK P G n call base all o l i T h K (some false)) : gdK P G n call base all o l i T h K (some b) := by
  cases b
  · exact h2 rfl
  · exact h1 rfl
theorem gK_of_f (all : List Oper) (o : Oper) (l : List Oper) {b : Bool} (h1 : b = true → gK P G n call all o l T h K (some false)) (h2 : b = false → gK P G n call all o l T h K (some true)) : gK P G n call all o l T h K (some (b == false)) := by
  cases b
  · exact h2 rfl
  · exact h1 rfl
theorem gK_of_t (all : List Oper) (o : Oper) (l : List Oper) {b : Bool} (h1 : b = true → gK P G n call all o l T h K (some true)) (h2 : b = false → gK P G n call all o l T h K (some false)) : gK P G n call all o l T h K (some (b == true)) := by
  cases b
  · exact h2 rfl
  · exact h1 rfl
theorem gdK_of_f (base i : Nat) (all : List Oper) (o : Oper) (l : List Oper) {b : Bool} (h1 : b = true → gdK P G n call base all o l i T h K (some false)) (h2 : b = false → gdK P G n call base all o l i T h K (some true)) : gdK P G n call base all o l i T h K (some (b == false)) := by
  cases b
  · exact h2 rfl
  · exact h1 rfl
theorem gdK_of_t (base i : Nat) (all : List Oper) (o : Oper) (l : List Oper) {b : Bool} (h1 : b = true → gdK P G n call base all o l i T h K (some true)) (h2 : b = false → gdK P G n call base all o l i T h K (some false)) : gdK P G n call base all o l i T h K (some (b == true)) := by
  cases b
  · exact h2 rfl
  · exact h1 rfl
/-- In a chain an operation that makes no block is as elsewhere. -/
theorem d_any (base i : Nat) (o : Op) (K : Value → Hp → Prop) (hk : isAl o = false) : opD P G call base i o T h K = opK P G call o T h K := by
  unfold opD
  cases e : kind o with
  | quiet => rw [k_quiet e]; rfl
  | alloc => unfold isAl at hk; rw [e] at hk; cases hk
  | eff => rw [k_eff e]; rfl
theorem d_alloc (base i : Nat) (o : Op) (K : Value → Hp → Prop) (hk : isAl o = true) : opD P G call base i o T h K = onSome (evA P (evl G T) (base + i) o) (bK base i K h) := by
  unfold opD
  cases e : kind o with
  | quiet => unfold isAl at hk; rw [e] at hk; cases hk
  | alloc => rfl
  | eff => unfold isAl at hk; rw [e] at hk; cases hk
theorem bK_mk (base i : Nat) (K : Value → Hp → Prop) (v : Value) (o : AObj) (hn : h.t.at_ (base + i) = none) : bK base i K h (v, o) = K v ⟨h.t.set (base + i) (some o), h.next⟩ := by
  simp only [bK, hn, true_and]
theorem d_move (base i : Nat) (x : Operand) (K : Value → Hp → Prop) : opD P G call base i (.move x) T h K = opK P G call (.move x) T h K := nr <| d_any base i _ K rfl
theorem d_assign (base i : Nat) (x : Operand) (K : Value → Hp → Prop) : opD P G call base i (.assign x) T h K = opK P G call (.assign x) T h K := nr <| d_any base i _ K rfl
theorem d_pick (base i : Nat) (a b c : Operand) (K : Value → Hp → Prop) : opD P G call base i (.pick a b c) T h K = opK P G call (.pick a b c) T h K := nr <| d_any base i _ K rfl
theorem d_load (base i : Nat) (t : TypeId) (x : Operand) (K : Value → Hp → Prop) : opD P G call base i (.load t x) T h K = opK P G call (.load t x) T h K := nr <| d_any base i _ K rfl
theorem d_nilCheck (base i : Nat) (x : Operand) (K : Value → Hp → Prop) : opD P G call base i (.nilCheck x) T h K = opK P G call (.nilCheck x) T h K := nr <| d_any base i _ K rfl
theorem d_binOp (base i : Nat) (op : BinOp) (xt : TypeId) (x y : Operand) (yt : TypeId) (K : Value → Hp → Prop) : opD P G call base i (.binOp op xt x y yt) T h K = opK P G call (.binOp op xt x y yt) T h K := nr <| d_any base i _ K rfl
theorem d_unOp (base i : Nat) (op : UnOp) (xt : TypeId) (x : Operand) (K : Value → Hp → Prop) : opD P G call base i (.unOp op xt x) T h K = opK P G call (.unOp op xt x) T h K := nr <| d_any base i _ K rfl
theorem d_convert (base i : Nat) (s d : TypeId) (x : Operand) (K : Value → Hp → Prop) : opD P G call base i (.convert s d x) T h K = opK P G call (.convert s d x) T h K := nr <| d_any base i _ K rfl
theorem d_makeInterface (base i : Nat) (t : TypeId) (x : Operand) (K : Value → Hp → Prop) : opD P G call base i (.makeInterface t x) T h K = opK P G call (.makeInterface t x) T h K := nr <| d_any base i _ K rfl
theorem d_makeFunc (base i : Nat) (fn : Fn) (f c : Array Operand) (K : Value → Hp → Prop) : opD P G call base i (.makeFunc fn f c) T h K = opK P G call (.makeFunc fn f c) T h K := nr <| d_any base i _ K rfl
theorem d_slice (base i : Nat) (t : TypeId) (x : Operand) (l hi m : Option Operand) (K : Value → Hp → Prop) : opD P G call base i (.slice t x l hi m) T h K = opK P G call (.slice t x l hi m) T h K := nr <| d_any base i _ K rfl
theorem d_fieldAddr (base i : Nat) (t : TypeId) (x : Operand) (f : Nat) (K : Value → Hp → Prop) : opD P G call base i (.fieldAddr t x f) T h K = opK P G call (.fieldAddr t x f) T h K := nr <| d_any base i _ K rfl
theorem d_field (base i : Nat) (t : TypeId) (x : Operand) (f : Nat) (K : Value → Hp → Prop) : opD P G call base i (.field t x f) T h K = opK P G call (.field t x f) T h K := nr <| d_any base i _ K rfl
theorem d_indexAddr (base i : Nat) (t : TypeId) (x y : Operand) (K : Value → Hp → Prop) : opD P G call base i (.indexAddr t x y) T h K = opK P G call (.indexAddr t x y) T h K := nr <| d_any base i _ K rfl
theorem d_index (base i : Nat) (t : TypeId) (x y : Operand) (K : Value → Hp → Prop) : opD P G call base i (.index t x y) T h K = opK P G call (.index t x y) T h K := nr <| d_any base i _ K rfl
theorem d_lookup (base i : Nat) (t : TypeId) (m k : Operand) (ok : Bool) (K : Value → Hp → Prop) : opD P G call base i (.lookup t m k ok) T h K = opK P G call (.lookup t m k ok) T h K := nr <| d_any base i _ K rfl
theorem d_build (base i : Nat) (t : TypeId) (p : Array (Nat × Operand)) (K : Value → Hp → Prop) : opD P G call base i (.build t p) T h K = opK P G call (.build t p) T h K := nr <| d_any base i _ K rfl
theorem d_extract (base i : Nat) (x : Operand) (j : Nat) (K : Value → Hp → Prop) : opD P G call base i (.extract x j) T h K = opK P G call (.extract x j) T h K := nr <| d_any base i _ K rfl
theorem d_store (base i : Nat) (t : TypeId) (a v : Operand) (K : Value → Hp → Prop) : opD P G call base i (.store t a v) T h K = opK P G call (.store t a v) T h K := nr <| d_any base i _ K rfl
theorem d_mapUpdate (base i : Nat) (t : TypeId) (m k v : Operand) (K : Value → Hp → Prop) : opD P G call base i (.mapUpdate t m k v) T h K = opK P G call (.mapUpdate t m k v) T h K := nr <| d_any base i _ K rfl
theorem d_alloc_ (base i : Nat) (e : TypeId) (K : Value → Hp → Prop) : opD P G call base i (.alloc e) T h K = onSome (evA P (evl G T) (base + i) (.alloc e)) (bK base i K h) := nr <| d_alloc base i _ K rfl
theorem d_box_ (base i : Nat) (e : TypeId) (x : Operand) (K : Value → Hp → Prop) : opD P G call base i (.box e x) T h K = onSome (evA P (evl G T) (base + i) (.box e x)) (bK base i K h) := nr <| d_alloc base i _ K rfl
theorem d_makeMap_ (base i : Nat) (e : TypeId) (x : Option Operand) (K : Value → Hp → Prop) : opD P G call base i (.makeMap e x) T h K = onSome (evA P (evl G T) (base + i) (.makeMap e x)) (bK base i K h) := nr <| d_alloc base i _ K rfl
theorem d_makeSlice_ (base i : Nat) (t : TypeId) (l c : Operand) (K : Value → Hp → Prop) : opD P G call base i (.makeSlice t l c) T h K = onSome (evA P (evl G T) (base + i) (.makeSlice t l c)) (bK base i K h) := nr <| d_alloc base i _ K rfl
theorem d_buildSlice_ (base i : Nat) (t : TypeId) (l : Nat) (p : Array (Nat × Operand)) (K : Value → Hp → Prop) : opD P G call base i (.buildSlice t l p) T h K = onSome (evA P (evl G T) (base + i) (.buildSlice t l p)) (bK base i K h) := nr <| d_alloc base i _ K rfl
theorem d_call (base i : Nat) (c : Callee) (a : Array Operand) (ts : Array TypeId) (K : Value → Hp → Prop) : opD P G call base i (.call ⟨c, a, ts⟩) T h K = opK P G call (.call ⟨c, a, ts⟩) T h K := by
  refine d_any base i _ K ?_
  cases c with
  | builtin b => cases b <;> rfl
  | value f => rfl
  | invoke r n => rfl
theorem PD_nil (base : Nat) (ops : List Oper) (ents : List Ent) : PD P G n call base ops [] T h ents K = K T h := nr rfl
theorem PD_cons (base : Nat) (ops : List Oper) (i : Nat) (rc : List Nat) (rest : List (Nat × List Nat)) (ents : List Ent) : PD P G n call base ops ((i, rc) :: rest) T h ents K = ppoK P G n call base ops rest i rc T h ents K ops[i]? := nr rfl
theorem ppo_plain (base : Nat) (ops : List Oper) (rest : List (Nat × List Nat)) (i : Nat) (rc : List Nat) (ents : List Ent) (d : Option Tmp) (o : Op) (ty : TypeId) (pos : String) (af : Array Edge) : ppoK P G n call base ops rest i rc T h ents K (some ⟨d, o, ty, pos, af, none⟩) = popK P G n call base ops rest i rc d o T h ents K := nr (onSome_some _ _)
theorem ppo_guard (base : Nat) (ops : List Oper) (rest : List (Nat × List Nat)) (i : Nat) (rc : List Nat) (ents : List Ent) (d : Option Tmp) (o : Op) (ty : TypeId) (pos : String) (af : Array Edge) (g : Nat × Bool) : ppoK P G n call base ops rest i rc T h ents K (some ⟨d, o, ty, pos, af, some g⟩) = pgK P G n call base ops rest i rc d o T h ents K (wantedB ops T ⟨d, o, ty, pos, af, some g⟩) := nr (onSome_some _ _)
theorem pgK_true (base : Nat) (ops : List Oper) (rest : List (Nat × List Nat)) (i : Nat) (rc : List Nat) (ents : List Ent) (d : Option Tmp) (o : Op) : pgK P G n call base ops rest i rc d o T h ents K (some true) = popK P G n call base ops rest i rc d o T h ents K := nr rfl
theorem pgK_false (base : Nat) (ops : List Oper) (rest : List (Nat × List Nat)) (i : Nat) (rc : List Nat) (ents : List Ent) (d : Option Tmp) (o : Op) : pgK P G n call base ops rest i rc d o T h ents K (some false) = onSome (putT n T d undef) (ppK P G n call base ops rest h ents K) := nr rfl
theorem ppK_ (base : Nat) (ops : List Oper) (rest : List (Nat × List Nat)) (ents : List Ent) (T : Tr Value) : ppK P G n call base ops rest h ents K T = PD P G n call base ops rest T h ents K := nr rfl
theorem pqK_ (base : Nat) (ops : List Oper) (rest : List (Nat × List Nat)) (i : Nat) (o : Op) (d : Option Tmp) (ents : List Ent) (v : Value) : pqK P G n call base ops rest T i o d ents K v h = onSome (putT n T d v) (ppK P G n call base ops rest h (⟨i, o, T, v⟩ :: ents) K) := nr rfl
theorem peK_ (base : Nat) (ops : List Oper) (rest : List (Nat × List Nat)) (rc : List Nat) (d : Option Tmp) (ents : List Ent) (v : Value) : peK P G n call base ops rest rc T d ents K v h = (againsR P G base rc h.t ents ∧ onSome (putT n T d v) (ppK P G n call base ops rest h ents K)) := nr rfl
theorem paK_ (base : Nat) (ops : List Oper) (rest : List (Nat × List Nat)) (i : Nat) (o : Op) (d : Option Tmp) (ents : List Ent) (v : Value) (ob : AObj) : paK P G n call base ops rest T i o d ents h K (v, ob) = (h.t.at_ (base + i) = none ∧ onSome (putT n T d v) (ppK P G n call base ops rest ⟨h.t.set (base + i) (some ob), h.next⟩ (⟨i, o, T, v⟩ :: ents) K)) := nr rfl
theorem ag_nil (base : Nat) (rc : List Nat) (t : Tr AObj) : againsR P G base rc t [] = True := nr rfl
theorem ag_cons (base : Nat) (rc : List Nat) (t : Tr AObj) (x : Ent) (l : List Ent) : againsR P G base rc t (x :: l) = agK P G base t x l rc (elemB rc x.i) := nr rfl
theorem agK_true (base : Nat) (rc : List Nat) (t : Tr AObj) (x : Ent) (l : List Ent) : agK P G base t x l rc true = (againK P G base t x ∧ againsR P G base rc t l) := nr rfl
theorem agK_false (base : Nat) (rc : List Nat) (t : Tr AObj) (x : Ent) (l : List Ent) : agK P G base t x l rc false = againsR P G base rc t l := nr (by simp [agK])
def veqK (u v : Value) (_h : Hp) : Prop := veq v u = true
theorem veqK_ (u v : Value) : veqK u v h = (veq v u = true) := nr rfl
theorem p_quiet (base : Nat) (ops : List Oper) (rest : List (Nat × List Nat)) (i : Nat) (rc : List Nat) (ents : List Ent) (d : Option Tmp) (o : Op) (hk : kind o = .quiet) : popK P G n call base ops rest i rc d o T h ents K = opK P G call o T h (pqK P G n call base ops rest T i o d ents K) := by
  unfold popK
  rw [hk, k_quiet hk]
  rfl
theorem p_eff (base : Nat) (ops : List Oper) (rest : List (Nat × List Nat)) (i : Nat) (rc : List Nat) (ents : List Ent) (d : Option Tmp) (o : Op) (hk : kind o = .eff) : popK P G n call base ops rest i rc d o T h ents K = opK P G call o T h (peK P G n call base ops rest rc T d ents K) := by
  unfold popK
  rw [hk, k_eff hk]
  rfl
theorem p_alloc (base : Nat) (ops : List Oper) (rest : List (Nat × List Nat)) (i : Nat) (rc : List Nat) (ents : List Ent) (d : Option Tmp) (o : Op) (hk : kind o = .alloc) : popK P G n call base ops rest i rc d o T h ents K = onSome (evA P (evl G T) (base + i) o) (paK P G n call base ops rest T i o d ents h K) := by
  unfold popK
  rw [hk]
  rfl
theorem ag_quiet (base : Nat) (t : Tr AObj) (i : Nat) (o : Op) (T : Tr Value) (v : Value) (hk : kind o = .quiet) : againK P G base t ⟨i, o, T, v⟩ = opK P G call o T ⟨t, 0⟩ (veqK v) := by
  unfold againK
  rw [k_quiet hk, hk]
  rfl
theorem p_move (base : Nat) (ops : List Oper) (rest : List (Nat × List Nat)) (i : Nat) (rc : List Nat) (ents : List Ent) (d : Option Tmp) (x : Operand) : popK P G n call base ops rest i rc d (.move x) T h ents K = opK P G call (.move x) T h (pqK P G n call base ops rest T i (.move x) d ents K) := nr (p_quiet base ops rest i rc ents d _ rfl)
theorem ag_move (base : Nat) (t0 : Tr AObj) (i : Nat) (x : Operand) (T : Tr Value) (u : Value) : againK P G base t0 ⟨i, .move x, T, u⟩ = opK P G (fun _ _ _ => none) (.move x) T ⟨t0, 0⟩ (veqK u) := nr (ag_quiet base t0 i _ T u rfl)
theorem p_assign (base : Nat) (ops : List Oper) (rest : List (Nat × List Nat)) (i : Nat) (rc : List Nat) (ents : List Ent) (d : Option Tmp) (x : Operand) : popK P G n call base ops rest i rc d (.assign x) T h ents K = opK P G call (.assign x) T h (pqK P G n call base ops rest T i (.assign x) d ents K) := nr (p_quiet base ops rest i rc ents d _ rfl)
theorem ag_assign (base : Nat) (t0 : Tr AObj) (i : Nat) (x : Operand) (T : Tr Value) (u : Value) : againK P G base t0 ⟨i, .assign x, T, u⟩ = opK P G (fun _ _ _ => none) (.assign x) T ⟨t0, 0⟩ (veqK u) := nr (ag_quiet base t0 i _ T u rfl)
theorem p_pick (base : Nat) (ops : List Oper) (rest : List (Nat × List Nat)) (i : Nat) (rc : List Nat) (ents : List Ent) (d : Option Tmp) (a b c : Operand) : popK P G n call base ops rest i rc d (.pick a b c) T h ents K = opK P G call (.pick a b c) T h (pqK P G n call base ops rest T i (.pick a b c) d ents K) := nr (p_quiet base ops rest i rc ents d _ rfl)
theorem ag_pick (base : Nat) (t0 : Tr AObj) (i : Nat) (a b c : Operand) (T : Tr Value) (u : Value) : againK P G base t0 ⟨i, .pick a b c, T, u⟩ = opK P G (fun _ _ _ => none) (.pick a b c) T ⟨t0, 0⟩ (veqK u) := nr (ag_quiet base t0 i _ T u rfl)
theorem p_load (base : Nat) (ops : List Oper) (rest : List (Nat × List Nat)) (i : Nat) (rc : List Nat) (ents : List Ent) (d : Option Tmp) (t : TypeId) (x : Operand) : popK P G n call base ops rest i rc d (.load t x) T h ents K = opK P G call (.load t x) T h (pqK P G n call base ops rest T i (.load t x) d ents K) := nr (p_quiet base ops rest i rc ents d _ rfl)
theorem ag_load (base : Nat) (t0 : Tr AObj) (i : Nat) (t : TypeId) (x : Operand) (T : Tr Value) (u : Value) : againK P G base t0 ⟨i, .load t x, T, u⟩ = opK P G (fun _ _ _ => none) (.load t x) T ⟨t0, 0⟩ (veqK u) := nr (ag_quiet base t0 i _ T u rfl)
theorem p_nilCheck (base : Nat) (ops : List Oper) (rest : List (Nat × List Nat)) (i : Nat) (rc : List Nat) (ents : List Ent) (d : Option Tmp) (x : Operand) : popK P G n call base ops rest i rc d (.nilCheck x) T h ents K = opK P G call (.nilCheck x) T h (pqK P G n call base ops rest T i (.nilCheck x) d ents K) := nr (p_quiet base ops rest i rc ents d _ rfl)
theorem ag_nilCheck (base : Nat) (t0 : Tr AObj) (i : Nat) (x : Operand) (T : Tr Value) (u : Value) : againK P G base t0 ⟨i, .nilCheck x, T, u⟩ = opK P G (fun _ _ _ => none) (.nilCheck x) T ⟨t0, 0⟩ (veqK u) := nr (ag_quiet base t0 i _ T u rfl)
theorem p_binOp (base : Nat) (ops : List Oper) (rest : List (Nat × List Nat)) (i : Nat) (rc : List Nat) (ents : List Ent) (d : Option Tmp) (op : BinOp) (xt : TypeId) (x y : Operand) (yt : TypeId) : popK P G n call base ops rest i rc d (.binOp op xt x y yt) T h ents K = opK P G call (.binOp op xt x y yt) T h (pqK P G n call base ops rest T i (.binOp op xt x y yt) d ents K) := nr (p_quiet base ops rest i rc ents d _ rfl)
theorem ag_binOp (base : Nat) (t0 : Tr AObj) (i : Nat) (op : BinOp) (xt : TypeId) (x y : Operand) (yt : TypeId) (T : Tr Value) (u : Value) : againK P G base t0 ⟨i, .binOp op xt x y yt, T, u⟩ = opK P G (fun _ _ _ => none) (.binOp op xt x y yt) T ⟨t0, 0⟩ (veqK u) := nr (ag_quiet base t0 i _ T u rfl)
theorem p_unOp (base : Nat) (ops : List Oper) (rest : List (Nat × List Nat)) (i : Nat) (rc : List Nat) (ents : List Ent) (d : Option Tmp) (op : UnOp) (xt : TypeId) (x : Operand) : popK P G n call base ops rest i rc d (.unOp op xt x) T h ents K = opK P G call (.unOp op xt x) T h (pqK P G n call base ops rest T i (.unOp op xt x) d ents K) := nr (p_quiet base ops rest i rc ents d _ rfl)
theorem ag_unOp (base : Nat) (t0 : Tr AObj) (i : Nat) (op : UnOp) (xt : TypeId) (x : Operand) (T : Tr Value) (u : Value) : againK P G base t0 ⟨i, .unOp op xt x, T, u⟩ = opK P G (fun _ _ _ => none) (.unOp op xt x) T ⟨t0, 0⟩ (veqK u) := nr (ag_quiet base t0 i _ T u rfl)
theorem p_convert (base : Nat) (ops : List Oper) (rest : List (Nat × List Nat)) (i : Nat) (rc : List Nat) (ents : List Ent) (d : Option Tmp) (s e : TypeId) (x : Operand) : popK P G n call base ops rest i rc d (.convert s e x) T h ents K = opK P G call (.convert s e x) T h (pqK P G n call base ops rest T i (.convert s e x) d ents K) := nr (p_quiet base ops rest i rc ents d _ rfl)
theorem ag_convert (base : Nat) (t0 : Tr AObj) (i : Nat) (s e : TypeId) (x : Operand) (T : Tr Value) (u : Value) : againK P G base t0 ⟨i, .convert s e x, T, u⟩ = opK P G (fun _ _ _ => none) (.convert s e x) T ⟨t0, 0⟩ (veqK u) := nr (ag_quiet base t0 i _ T u rfl)
theorem p_makeInterface (base : Nat) (ops : List Oper) (rest : List (Nat × List Nat)) (i : Nat) (rc : List Nat) (ents : List Ent) (d : Option Tmp) (t : TypeId) (x : Operand) : popK P G n call base ops rest i rc d (.makeInterface t x) T h ents K = opK P G call (.makeInterface t x) T h (pqK P G n call base ops rest T i (.makeInterface t x) d ents K) := nr (p_quiet base ops rest i rc ents d _ rfl)
theorem ag_makeInterface (base : Nat) (t0 : Tr AObj) (i : Nat) (t : TypeId) (x : Operand) (T : Tr Value) (u : Value) : againK P G base t0 ⟨i, .makeInterface t x, T, u⟩ = opK P G (fun _ _ _ => none) (.makeInterface t x) T ⟨t0, 0⟩ (veqK u) := nr (ag_quiet base t0 i _ T u rfl)
theorem p_makeFunc (base : Nat) (ops : List Oper) (rest : List (Nat × List Nat)) (i : Nat) (rc : List Nat) (ents : List Ent) (d : Option Tmp) (fn : Fn) (f c : Array Operand) : popK P G n call base ops rest i rc d (.makeFunc fn f c) T h ents K = opK P G call (.makeFunc fn f c) T h (pqK P G n call base ops rest T i (.makeFunc fn f c) d ents K) := nr (p_quiet base ops rest i rc ents d _ rfl)
theorem ag_makeFunc (base : Nat) (t0 : Tr AObj) (i : Nat) (fn : Fn) (f c : Array Operand) (T : Tr Value) (u : Value) : againK P G base t0 ⟨i, .makeFunc fn f c, T, u⟩ = opK P G (fun _ _ _ => none) (.makeFunc fn f c) T ⟨t0, 0⟩ (veqK u) := nr (ag_quiet base t0 i _ T u rfl)
theorem p_slice (base : Nat) (ops : List Oper) (rest : List (Nat × List Nat)) (i : Nat) (rc : List Nat) (ents : List Ent) (d : Option Tmp) (t : TypeId) (x : Operand) (l hi m : Option Operand) : popK P G n call base ops rest i rc d (.slice t x l hi m) T h ents K = opK P G call (.slice t x l hi m) T h (pqK P G n call base ops rest T i (.slice t x l hi m) d ents K) := nr (p_quiet base ops rest i rc ents d _ rfl)
theorem ag_slice (base : Nat) (t0 : Tr AObj) (i : Nat) (t : TypeId) (x : Operand) (l hi m : Option Operand) (T : Tr Value) (u : Value) : againK P G base t0 ⟨i, .slice t x l hi m, T, u⟩ = opK P G (fun _ _ _ => none) (.slice t x l hi m) T ⟨t0, 0⟩ (veqK u) := nr (ag_quiet base t0 i _ T u rfl)
theorem p_fieldAddr (base : Nat) (ops : List Oper) (rest : List (Nat × List Nat)) (i : Nat) (rc : List Nat) (ents : List Ent) (d : Option Tmp) (t : TypeId) (x : Operand) (f : Nat) : popK P G n call base ops rest i rc d (.fieldAddr t x f) T h ents K = opK P G call (.fieldAddr t x f) T h (pqK P G n call base ops rest T i (.fieldAddr t x f) d ents K) := nr (p_quiet base ops rest i rc ents d _ rfl)
theorem ag_fieldAddr (base : Nat) (t0 : Tr AObj) (i : Nat) (t : TypeId) (x : Operand) (f : Nat) (T : Tr Value) (u : Value) : againK P G base t0 ⟨i, .fieldAddr t x f, T, u⟩ = opK P G (fun _ _ _ => none) (.fieldAddr t x f) T ⟨t0, 0⟩ (veqK u) := nr (ag_quiet base t0 i _ T u rfl)
theorem p_field (base : Nat) (ops : List Oper) (rest : List (Nat × List Nat)) (i : Nat) (rc : List Nat) (ents : List Ent) (d : Option Tmp) (t : TypeId) (x : Operand) (f : Nat) : popK P G n call base ops rest i rc d (.field t x f) T h ents K = opK P G call (.field t x f) T h (pqK P G n call base ops rest T i (.field t x f) d ents K) := nr (p_quiet base ops rest i rc ents d _ rfl)
theorem ag_field (base : Nat) (t0 : Tr AObj) (i : Nat) (t : TypeId) (x : Operand) (f : Nat) (T : Tr Value) (u : Value) : againK P G base t0 ⟨i, .field t x f, T, u⟩ = opK P G (fun _ _ _ => none) (.field t x f) T ⟨t0, 0⟩ (veqK u) := nr (ag_quiet base t0 i _ T u rfl)
theorem p_indexAddr (base : Nat) (ops : List Oper) (rest : List (Nat × List Nat)) (i : Nat) (rc : List Nat) (ents : List Ent) (d : Option Tmp) (t : TypeId) (x y : Operand) : popK P G n call base ops rest i rc d (.indexAddr t x y) T h ents K = opK P G call (.indexAddr t x y) T h (pqK P G n call base ops rest T i (.indexAddr t x y) d ents K) := nr (p_quiet base ops rest i rc ents d _ rfl)
theorem ag_indexAddr (base : Nat) (t0 : Tr AObj) (i : Nat) (t : TypeId) (x y : Operand) (T : Tr Value) (u : Value) : againK P G base t0 ⟨i, .indexAddr t x y, T, u⟩ = opK P G (fun _ _ _ => none) (.indexAddr t x y) T ⟨t0, 0⟩ (veqK u) := nr (ag_quiet base t0 i _ T u rfl)
theorem p_index (base : Nat) (ops : List Oper) (rest : List (Nat × List Nat)) (i : Nat) (rc : List Nat) (ents : List Ent) (d : Option Tmp) (t : TypeId) (x y : Operand) : popK P G n call base ops rest i rc d (.index t x y) T h ents K = opK P G call (.index t x y) T h (pqK P G n call base ops rest T i (.index t x y) d ents K) := nr (p_quiet base ops rest i rc ents d _ rfl)
theorem ag_index (base : Nat) (t0 : Tr AObj) (i : Nat) (t : TypeId) (x y : Operand) (T : Tr Value) (u : Value) : againK P G base t0 ⟨i, .index t x y, T, u⟩ = opK P G (fun _ _ _ => none) (.index t x y) T ⟨t0, 0⟩ (veqK u) := nr (ag_quiet base t0 i _ T u rfl)
theorem p_lookup (base : Nat) (ops : List Oper) (rest : List (Nat × List Nat)) (i : Nat) (rc : List Nat) (ents : List Ent) (d : Option Tmp) (t : TypeId) (m k : Operand) (ok : Bool) : popK P G n call base ops rest i rc d (.lookup t m k ok) T h ents K = opK P G call (.lookup t m k ok) T h (pqK P G n call base ops rest T i (.lookup t m k ok) d ents K) := nr (p_quiet base ops rest i rc ents d _ rfl)
theorem ag_lookup (base : Nat) (t0 : Tr AObj) (i : Nat) (t : TypeId) (m k : Operand) (ok : Bool) (T : Tr Value) (u : Value) : againK P G base t0 ⟨i, .lookup t m k ok, T, u⟩ = opK P G (fun _ _ _ => none) (.lookup t m k ok) T ⟨t0, 0⟩ (veqK u) := nr (ag_quiet base t0 i _ T u rfl)
theorem p_build (base : Nat) (ops : List Oper) (rest : List (Nat × List Nat)) (i : Nat) (rc : List Nat) (ents : List Ent) (d : Option Tmp) (t : TypeId) (p : Array (Nat × Operand)) : popK P G n call base ops rest i rc d (.build t p) T h ents K = opK P G call (.build t p) T h (pqK P G n call base ops rest T i (.build t p) d ents K) := nr (p_quiet base ops rest i rc ents d _ rfl)
theorem ag_build (base : Nat) (t0 : Tr AObj) (i : Nat) (t : TypeId) (p : Array (Nat × Operand)) (T : Tr Value) (u : Value) : againK P G base t0 ⟨i, .build t p, T, u⟩ = opK P G (fun _ _ _ => none) (.build t p) T ⟨t0, 0⟩ (veqK u) := nr (ag_quiet base t0 i _ T u rfl)
theorem p_extract (base : Nat) (ops : List Oper) (rest : List (Nat × List Nat)) (i : Nat) (rc : List Nat) (ents : List Ent) (d : Option Tmp) (x : Operand) (j : Nat) : popK P G n call base ops rest i rc d (.extract x j) T h ents K = opK P G call (.extract x j) T h (pqK P G n call base ops rest T i (.extract x j) d ents K) := nr (p_quiet base ops rest i rc ents d _ rfl)
theorem ag_extract (base : Nat) (t0 : Tr AObj) (i : Nat) (x : Operand) (j : Nat) (T : Tr Value) (u : Value) : againK P G base t0 ⟨i, .extract x j, T, u⟩ = opK P G (fun _ _ _ => none) (.extract x j) T ⟨t0, 0⟩ (veqK u) := nr (ag_quiet base t0 i _ T u rfl)
theorem p_len (base : Nat) (ops : List Oper) (rest : List (Nat × List Nat)) (i : Nat) (rc : List Nat) (ents : List Ent) (d : Option Tmp) (a : Array Operand) (ts : Array TypeId) : popK P G n call base ops rest i rc d (.call ⟨.builtin .len, a, ts⟩) T h ents K = opK P G call (.call ⟨.builtin .len, a, ts⟩) T h (pqK P G n call base ops rest T i (.call ⟨.builtin .len, a, ts⟩) d ents K) := nr (p_quiet base ops rest i rc ents d _ rfl)
theorem ag_len (base : Nat) (t0 : Tr AObj) (i : Nat) (a : Array Operand) (ts : Array TypeId) (T : Tr Value) (u : Value) : againK P G base t0 ⟨i, .call ⟨.builtin .len, a, ts⟩, T, u⟩ = opK P G (fun _ _ _ => none) (.call ⟨.builtin .len, a, ts⟩) T ⟨t0, 0⟩ (veqK u) := nr (ag_quiet base t0 i _ T u rfl)
theorem p_max (base : Nat) (ops : List Oper) (rest : List (Nat × List Nat)) (i : Nat) (rc : List Nat) (ents : List Ent) (d : Option Tmp) (a : Array Operand) (ts : Array TypeId) : popK P G n call base ops rest i rc d (.call ⟨.builtin .max, a, ts⟩) T h ents K = opK P G call (.call ⟨.builtin .max, a, ts⟩) T h (pqK P G n call base ops rest T i (.call ⟨.builtin .max, a, ts⟩) d ents K) := nr (p_quiet base ops rest i rc ents d _ rfl)
theorem ag_max (base : Nat) (t0 : Tr AObj) (i : Nat) (a : Array Operand) (ts : Array TypeId) (T : Tr Value) (u : Value) : againK P G base t0 ⟨i, .call ⟨.builtin .max, a, ts⟩, T, u⟩ = opK P G (fun _ _ _ => none) (.call ⟨.builtin .max, a, ts⟩) T ⟨t0, 0⟩ (veqK u) := nr (ag_quiet base t0 i _ T u rfl)
theorem p_min (base : Nat) (ops : List Oper) (rest : List (Nat × List Nat)) (i : Nat) (rc : List Nat) (ents : List Ent) (d : Option Tmp) (a : Array Operand) (ts : Array TypeId) : popK P G n call base ops rest i rc d (.call ⟨.builtin .min, a, ts⟩) T h ents K = opK P G call (.call ⟨.builtin .min, a, ts⟩) T h (pqK P G n call base ops rest T i (.call ⟨.builtin .min, a, ts⟩) d ents K) := nr (p_quiet base ops rest i rc ents d _ rfl)
theorem ag_min (base : Nat) (t0 : Tr AObj) (i : Nat) (a : Array Operand) (ts : Array TypeId) (T : Tr Value) (u : Value) : againK P G base t0 ⟨i, .call ⟨.builtin .min, a, ts⟩, T, u⟩ = opK P G (fun _ _ _ => none) (.call ⟨.builtin .min, a, ts⟩) T ⟨t0, 0⟩ (veqK u) := nr (ag_quiet base t0 i _ T u rfl)
theorem p_store (base : Nat) (ops : List Oper) (rest : List (Nat × List Nat)) (i : Nat) (rc : List Nat) (ents : List Ent) (d : Option Tmp) (t : TypeId) (a v : Operand) : popK P G n call base ops rest i rc d (.store t a v) T h ents K = opK P G call (.store t a v) T h (peK P G n call base ops rest rc T d ents K) := nr (p_eff base ops rest i rc ents d _ rfl)
theorem p_mapUpdate (base : Nat) (ops : List Oper) (rest : List (Nat × List Nat)) (i : Nat) (rc : List Nat) (ents : List Ent) (d : Option Tmp) (t : TypeId) (m k v : Operand) : popK P G n call base ops rest i rc d (.mapUpdate t m k v) T h ents K = opK P G call (.mapUpdate t m k v) T h (peK P G n call base ops rest rc T d ents K) := nr (p_eff base ops rest i rc ents d _ rfl)
theorem p_append (base : Nat) (ops : List Oper) (rest : List (Nat × List Nat)) (i : Nat) (rc : List Nat) (ents : List Ent) (d : Option Tmp) (a : Array Operand) (ts : Array TypeId) : popK P G n call base ops rest i rc d (.call ⟨.builtin .append, a, ts⟩) T h ents K = opK P G call (.call ⟨.builtin .append, a, ts⟩) T h (peK P G n call base ops rest rc T d ents K) := nr (p_eff base ops rest i rc ents d _ rfl)
theorem p_value (base : Nat) (ops : List Oper) (rest : List (Nat × List Nat)) (i : Nat) (rc : List Nat) (ents : List Ent) (d : Option Tmp) (f : Operand) (a : Array Operand) (ts : Array TypeId) : popK P G n call base ops rest i rc d (.call ⟨.value f, a, ts⟩) T h ents K = opK P G call (.call ⟨.value f, a, ts⟩) T h (peK P G n call base ops rest rc T d ents K) := nr (p_eff base ops rest i rc ents d _ rfl)
theorem p_invoke (base : Nat) (ops : List Oper) (rest : List (Nat × List Nat)) (i : Nat) (rc : List Nat) (ents : List Ent) (d : Option Tmp) (r : Operand) (nm : String) (a : Array Operand) (ts : Array TypeId) : popK P G n call base ops rest i rc d (.call ⟨.invoke r nm, a, ts⟩) T h ents K = opK P G call (.call ⟨.invoke r nm, a, ts⟩) T h (peK P G n call base ops rest rc T d ents K) := nr (p_eff base ops rest i rc ents d _ rfl)
theorem p_alloc_ (base : Nat) (ops : List Oper) (rest : List (Nat × List Nat)) (i : Nat) (rc : List Nat) (ents : List Ent) (d : Option Tmp) (e : TypeId) : popK P G n call base ops rest i rc d (.alloc e) T h ents K = onSome (evA P (evl G T) (base + i) (.alloc e)) (paK P G n call base ops rest T i (.alloc e) d ents h K) := nr (p_alloc base ops rest i rc ents d _ rfl)
theorem p_box_ (base : Nat) (ops : List Oper) (rest : List (Nat × List Nat)) (i : Nat) (rc : List Nat) (ents : List Ent) (d : Option Tmp) (e : TypeId) (x : Operand) : popK P G n call base ops rest i rc d (.box e x) T h ents K = onSome (evA P (evl G T) (base + i) (.box e x)) (paK P G n call base ops rest T i (.box e x) d ents h K) := nr (p_alloc base ops rest i rc ents d _ rfl)
theorem p_makeMap_ (base : Nat) (ops : List Oper) (rest : List (Nat × List Nat)) (i : Nat) (rc : List Nat) (ents : List Ent) (d : Option Tmp) (e : TypeId) (x : Option Operand) : popK P G n call base ops rest i rc d (.makeMap e x) T h ents K = onSome (evA P (evl G T) (base + i) (.makeMap e x)) (paK P G n call base ops rest T i (.makeMap e x) d ents h K) := nr (p_alloc base ops rest i rc ents d _ rfl)
theorem p_makeSlice_ (base : Nat) (ops : List Oper) (rest : List (Nat × List Nat)) (i : Nat) (rc : List Nat) (ents : List Ent) (d : Option Tmp) (t : TypeId) (l c : Operand) : popK P G n call base ops rest i rc d (.makeSlice t l c) T h ents K = onSome (evA P (evl G T) (base + i) (.makeSlice t l c)) (paK P G n call base ops rest T i (.makeSlice t l c) d ents h K) := nr (p_alloc base ops rest i rc ents d _ rfl)
theorem p_buildSlice_ (base : Nat) (ops : List Oper) (rest : List (Nat × List Nat)) (i : Nat) (rc : List Nat) (ents : List Ent) (d : Option Tmp) (t : TypeId) (l : Nat) (p : Array (Nat × Operand)) : popK P G n call base ops rest i rc d (.buildSlice t l p) T h ents K = onSome (evA P (evl G T) (base + i) (.buildSlice t l p)) (paK P G n call base ops rest T i (.buildSlice t l p) d ents h K) := nr (p_alloc base ops rest i rc ents d _ rfl)
def oeqK (o ob : AObj) : Prop := oeq o ob = true
def oeK (base i : Nat) (t : Tr AObj) (r : Value × AObj) : Prop := onSome (t.at_ (base + i)) (oeqK r.2)
theorem oeqK_ (o ob : AObj) : oeqK o ob = (oeq o ob = true) := nr rfl
theorem oeK_ (base i : Nat) (t : Tr AObj) (v : Value) (o : AObj) : oeK base i t (v, o) = onSome (t.at_ (base + i)) (oeqK o) := nr rfl
theorem ag_alloc (base : Nat) (t : Tr AObj) (i : Nat) (o : Op) (T : Tr Value) (v : Value) (hk : kind o = .alloc) : againK P G base t ⟨i, o, T, v⟩ = onSome (evA P (evl G T) (base + i) o) (oeK base i t) := by
  unfold againK
  rw [hk]
  rfl
theorem ag_alloc_ (base : Nat) (t0 : Tr AObj) (i : Nat) (e : TypeId) (T : Tr Value) (u : Value) : againK P G base t0 ⟨i, .alloc e, T, u⟩ = onSome (evA P (evl G T) (base + i) (.alloc e)) (oeK base i t0) := nr (ag_alloc base t0 i _ T u rfl)
theorem ag_box_ (base : Nat) (t0 : Tr AObj) (i : Nat) (e : TypeId) (x : Operand) (T : Tr Value) (u : Value) : againK P G base t0 ⟨i, .box e x, T, u⟩ = onSome (evA P (evl G T) (base + i) (.box e x)) (oeK base i t0) := nr (ag_alloc base t0 i _ T u rfl)
theorem ag_makeMap_ (base : Nat) (t0 : Tr AObj) (i : Nat) (e : TypeId) (x : Option Operand) (T : Tr Value) (u : Value) : againK P G base t0 ⟨i, .makeMap e x, T, u⟩ = onSome (evA P (evl G T) (base + i) (.makeMap e x)) (oeK base i t0) := nr (ag_alloc base t0 i _ T u rfl)
theorem ag_makeSlice_ (base : Nat) (t0 : Tr AObj) (i : Nat) (t : TypeId) (l c : Operand) (T : Tr Value) (u : Value) : againK P G base t0 ⟨i, .makeSlice t l c, T, u⟩ = onSome (evA P (evl G T) (base + i) (.makeSlice t l c)) (oeK base i t0) := nr (ag_alloc base t0 i _ T u rfl)
theorem ag_buildSlice_ (base : Nat) (t0 : Tr AObj) (i : Nat) (t : TypeId) (l : Nat) (p : Array (Nat × Operand)) (T : Tr Value) (u : Value) : againK P G base t0 ⟨i, .buildSlice t l p, T, u⟩ = onSome (evA P (evl G T) (base + i) (.buildSlice t l p)) (oeK base i t0) := nr (ag_alloc base t0 i _ T u rfl)
theorem w_loop (I : Nat → Tr Value → Hp → Prop) (m : Nat) {c : Code} (h0 : I m T h) (hs : ∀ m T h, I m T h → wpC P G n call c T h (seqK Q fun T' h' => ∃ m', m' < m ∧ I m' T' h')) : wpC P G n call (.loop c) T h Q := ⟨I, ⟨m, h0⟩, hs⟩
theorem w_skip : wpC P G n call .skip T h Q = Q .normal T h := nr rfl
theorem w_label (l : Nat) : wpC P G n call (.label l) T h Q = Q .normal T h := nr rfl
theorem w_exit (id : Nat) : wpC P G n call (.exit id) T h Q = Q (.exit id) T h := nr rfl
theorem w_ret : wpC P G n call .ret T h Q = Q .ret T h := nr rfl
theorem w_scope (c : Code) : wpC P G n call (.scope c) T h Q = wpC P G n call c T h Q := nr rfl
theorem w_region (id : Nat) (ops : List Oper) : wpC P G n call (.region id ⟨ops⟩ false) T h Q = R P G n call ops ops T h (Q .normal) := nr rfl
theorem w_seq (a b : Code) : wpC P G n call (.seq a b) T h Q = wpC P G n call a T h (seqK Q (thenK P G n call b Q)) := nr rfl
theorem w_block (id : Nat) (c : Code) : wpC P G n call (.block id c) T h Q = wpC P G n call c T h (blockK id Q) := nr rfl
theorem w_cond (x : Operand) (a b : Code) : wpC P G n call (.cond x a b) T h Q = condK P G n call a b T h Q (evl G T x) := nr rfl
theorem condK_true (a b : Code) : condK P G n call a b T h Q (.bool true) = wpC P G n call a T h Q := nr rfl
theorem condK_false (a b : Code) : condK P G n call a b T h Q (.bool false) = wpC P G n call b T h Q := nr rfl
theorem condK_of (c d : Code) {b : Bool} (h1 : b = true → wpC P G n call c T h Q) (h2 : b = false → wpC P G n call d T h Q) : condK P G n call c d T h Q (.bool b) := onBool_of h1 h2
theorem seqK_normal (k : Tr Value → Hp → Prop) : seqK Q k .normal T h = k T h := nr rfl
theorem seqK_exit (k : Tr Value → Hp → Prop) (id : Nat) : seqK Q k (.exit id) T h = Q (.exit id) T h := nr rfl
theorem seqK_ret (k : Tr Value → Hp → Prop) : seqK Q k .ret T h = Q .ret T h := nr rfl
theorem blockK_normal (id : Nat) : blockK id Q .normal T h = Q .normal T h := nr rfl
theorem blockK_ret (id : Nat) : blockK id Q .ret T h = Q .ret T h := nr rfl
theorem blockK_same (id : Nat) : blockK id Q (.exit id) T h = Q .normal T h := by simp only [blockK, Nat.beq_refl]
theorem blockK_ne {id id' : Nat} (hn : id' ≠ id) : blockK id Q (.exit id') T h = Q (.exit id') T h := by simp only [blockK, nbeq_f hn]
def packK (K : Value → Hp → Prop) (h : Hp) (vs : List Value) : Prop := K (packB vs) h
theorem endK_ret (rs : List ResultVar) (K : Value → Hp → Prop) : endK P rs K .ret T h = onSome (resB P h.t T rs) (packK K h) := nr rfl
theorem endK_normal (rs : List ResultVar) (K : Value → Hp → Prop) : endK P rs K .normal T h = onSome (resB P h.t T rs) (packK K h) := nr rfl
theorem packK_one (K : Value → Hp → Prop) (v : Value) : packK K h [v] = K v h := nr rfl
theorem packK_two (K : Value → Hp → Prop) (v u : Value) (l : List Value) : packK K h (v :: u :: l) = K (.tuple ⟨v :: u :: l⟩) h := nr rfl
theorem packK_nil (K : Value → Hp → Prop) : packK K h [] = K (.tuple ⟨[]⟩) h := nr rfl
theorem res_nil (H : Tr AObj) : resB P H T [] = some [] := nr rfl
theorem res_tmp (H : Tr AObj) (t : Tmp) (l : List ResultVar) : resB P H T (.tmp t :: l) = (resB P H T l).map (Eva.look T t :: ·) := nr rfl
end
end
attribute [go_sem] evl_tmp evl_int evl_bool evl_str evl_ptr0 evl_sl0 evl_map0 evl_nilFunc evl_nilIface evl_func evl_agg evl_glob putT_none putT_some look_same look_ne pK_mk aK_mk vK_ tK_ k_move k_assign k_pick k_load k_nilCheck k_binOp k_unOp k_convert k_makeInterface k_makeFunc k_slice k_fieldAddr k_field k_indexAddr k_index k_lookup k_build k_extract k_alloc_ k_box k_makeMap k_makeSlice k_buildSlice k_store k_mapUpdate k_len k_cap k_max k_min k_append k_value k_invoke val_func rK_ rrK_ rdK_ rrdK_ thenK_ args0_nil args0_cons pickB_t pickB_f extB_ R_nil R_plain gK_true gK_false RD_nil RD_guard R_guard RD_plain gdK_true gdK_false bK_mk d_move d_assign d_pick d_load d_nilCheck d_binOp d_unOp d_convert d_makeInterface d_makeFunc d_slice d_fieldAddr d_field d_indexAddr d_index d_lookup d_build d_extract d_store d_mapUpdate d_alloc_ d_box_ d_makeMap_ d_makeSlice_ d_buildSlice_ d_call PD_nil PD_cons ppo_plain ppo_guard pgK_true pgK_false ppK_ pqK_ peK_ paK_ ag_nil ag_cons agK_true agK_false veqK_ p_move ag_move p_assign ag_assign p_pick ag_pick p_load ag_load p_nilCheck ag_nilCheck p_binOp ag_binOp p_unOp ag_unOp p_convert ag_convert p_makeInterface ag_makeInterface p_makeFunc ag_makeFunc p_slice ag_slice p_fieldAddr ag_fieldAddr p_field ag_field p_indexAddr ag_indexAddr p_index ag_index p_lookup ag_lookup p_build ag_build p_extract ag_extract p_len ag_len p_max ag_max p_min ag_min p_store p_mapUpdate p_append p_value p_invoke p_alloc_ p_box_ p_makeMap_ p_makeSlice_ p_buildSlice_ oeqK_ oeK_ ag_alloc_ ag_box_ ag_makeMap_ ag_makeSlice_ ag_buildSlice_ w_skip w_label w_exit w_ret w_scope w_region w_seq w_block w_cond condK_true condK_false seqK_normal seqK_exit seqK_ret blockK_normal blockK_ret blockK_same blockK_ne endK_ret endK_normal packK_one packK_two packK_nil res_nil res_tmp Eva.Tr.at_set_same Eva.Tr.at_set_ne onSome_some cellsL oneB List.getElem?_cons_zero List.getElem?_cons_succ List.all_cons List.all_nil Bool.and_self elemB clean_in clean_out
end Go.Sym
