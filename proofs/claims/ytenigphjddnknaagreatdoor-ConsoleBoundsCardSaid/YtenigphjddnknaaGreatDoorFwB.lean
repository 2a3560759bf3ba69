/-
  A run of a closed call as plain functions: what each operation does to values. No program in sight.
-/
import Derived.Test.YtenigphjddnknaaGreatDoorFwA
set_option linter.unusedVariables false
namespace Go.Fw
open Go Go.Eva Go.Fv Go.RowKit Go.Viv

/-- What a run has at hand. -/
structure Mc where
  P : Program
  sy : Sy
  G : Nat
  cx : CallX
/-- Rules may answer an operation by a test both of whose answers are run to the end: the test as a row of one. -/
def fz : Op → Bool
  | .pick _ _ _ => false
  | _ => true
def bsub (β : Nat → Bool) : Value → Value
  | .tuple ⟨[.chan (some c)]⟩ => .bool (β c)
  | v => v
/-- The rules, once the tests' answers are told. -/
def syb (β : Nat → Bool) (sy : Sy) : Sy := fun o vs => match fz o with
  | true => (sy o vs).map (bsub β)
  | false => sy o vs
noncomputable def kw (k : Value → Bool) (v : Value) : Bool := match v with
  | .tuple ⟨[.chan (some _)]⟩ => yes (k (.bool true)) (k (.bool false))
  | v => k v
noncomputable def kf (o : Op) (k : Value → Bool) (v : Value) : Bool := match fz o with
  | true => kw k v
  | false => k v
theorem kw_of {β : Nat → Bool} {k : Value → Bool} {v : Value} (h : kw k v = true) : k (bsub β v) = true := by
  unfold kw at h
  split at h
  · rename_i c
    obtain ⟨h1, h2⟩ := yes_of h
    show k (.bool (β c)) = true
    cases β c
    · exact h2
    · exact h1
  · rename_i hn
    have e : bsub β v = v := by
      unfold bsub
      split
      · exact absurd rfl (hn _)
      · rfl
    rw [e]
    exact h
noncomputable def sl (m : Mc) (o : Op) (vs : List Value) (k : Value → Bool) : Bool := match m.sy o vs with
  | some v => fW v (kf o k)
  | none => oV (evQ0 m.P (rho m.G o.operands.toList vs) .nil o) k
noncomputable def slH (m : Mc) (o : Op) (vs : List Value) (H : FH) (k : Value → Bool) : Bool := match m.sy o vs with
  | some v => fW v (kf o k)
  | none => oV (evQ0 m.P (rho m.G o.operands.toList vs) (mini H vs) o) k
theorem syb_t {β : Nat → Bool} {sy : Sy} (h : SyT sy) : SyT (syb β sy) := fun o vs v e => by
  unfold syb at e
  cases hs : sy o vs with
  | none => rw [hs] at e; split at e <;> cases e
  | some w => exact h _ _ _ hs
theorem jv_syb {β : Nat → Bool} {sy : Sy} {c : Nat} : ∀ d, jv (syb β sy) c d = jv sy c d
  | 0 => by funext a b; rfl
  | d + 1 => by funext a b; simp only [jv, jv_syb d]; rfl
theorem jo_syb {β : Nat → Bool} {sy : Sy} {c : Nat} : jo (syb β sy) c = jo sy c := by
  funext a b
  simp only [jo, jv_syb]
theorem joinH_syb {β : Nat → Bool} {sy : Sy} {c : Nat} : joinH (syb β sy) c = joinH sy c := by
  funext h g
  simp only [joinH, jo_syb]
theorem joinT_syb {β : Nat → Bool} {sy : Sy} {c : Nat} : joinT (syb β sy) c = joinT sy c := by
  funext T U
  have e : jr (syb β sy) c = jr sy c := by
    funext a b
    simp only [jr, jv_syb]
  simp only [joinT, e]
theorem testB_syb {β : Nat → Bool} {sy : Sy} {c : Nat} : testB (syb β sy) c = testB sy c := rfl
abbrev VN := Value → (Nat → Bool) → Bool → Bool
noncomputable def v64 (v : Value) : (Nat → Bool) → Bool → Bool := Value.rec (motive_1 := fun _ => (Nat → Bool) → Bool → Bool) (motive_2 := fun _ => Unit) (motive_3 := fun _ => Unit) (fun _ _ d => d) (fun k n f d => IntKind.rec (motive := fun _ => Bool) d d d (iNat n f d) d d d d k) (fun _ _ _ d => d) (fun _ _ _ _ d => d) (fun _ _ d => d) (fun _ _ d => d) (fun _ _ _ _ d => d) (fun _ _ d => d) (fun _ _ d => d) (fun _ _ _ _ _ _ d => d) (fun _ d => d) (fun _ _ _ _ d => d) (fun _ d => d) (fun _ _ _ d => d) (fun _ _ _ d => d) (fun _ _ => ()) () (fun _ _ _ _ => ()) v
noncomputable def vu64 (v : Value) : (Nat → Bool) → Bool → Bool := Value.rec (motive_1 := fun _ => (Nat → Bool) → Bool → Bool) (motive_2 := fun _ => Unit) (motive_3 := fun _ => Unit) (fun _ _ d => d) (fun k n f d => IntKind.rec (motive := fun _ => Bool) d d d d d d d (iNat n f d) k) (fun _ _ _ d => d) (fun _ _ _ _ d => d) (fun _ _ d => d) (fun _ _ d => d) (fun _ _ _ _ d => d) (fun _ _ d => d) (fun _ _ d => d) (fun _ _ _ _ _ _ d => d) (fun _ d => d) (fun _ _ _ _ d => d) (fun _ d => d) (fun _ _ _ d => d) (fun _ _ _ d => d) (fun _ _ => ()) () (fun _ _ _ _ => ()) v
noncomputable def vK (kd : IntKind) : VN := fun v f d => vInt v (fun k n => ifB (kEq kd k) (iNat n f d) d) d
/-- A kind's own look. -/
def VNok (kd : IntKind) (w : VN) : Prop := ∀ v f d, w v f d = true → (∃ x : Nat, v = .int kd (.ofNat x) ∧ f x = true) ∨ d = true
theorem v64_ok : VNok .i64 v64 := fun v f d h => by
  cases v <;> try exact .inr h
  rename_i k n
  cases k <;> try exact .inr h
  exact (iNat_of (n := n) h).imp (fun ⟨x, h1, h2⟩ => ⟨x, by rw [h1], h2⟩) id
theorem vu64_ok : VNok .u64 vu64 := fun v f d h => by
  cases v <;> try exact .inr h
  rename_i k n
  cases k <;> try exact .inr h
  exact (iNat_of (n := n) h).imp (fun ⟨x, h1, h2⟩ => ⟨x, by rw [h1], h2⟩) id
theorem vK_ok (kd : IntKind) : VNok kd (vK kd) := fun v f d h => by
  rcases vInt_of h with ⟨k, n, hv, g⟩ | g
  · rcases ifB_of g with ⟨h1, g⟩ | ⟨_, g⟩
    · have e := Fv.kEq_iff h1
      exact (iNat_of (n := n) g).imp (fun ⟨x, h1, h2⟩ => ⟨x, by rw [hv, e, h1], h2⟩) id
    · exact .inr g
  · exact .inr g
noncomputable def kB (w : VN) (kd : IntKind) (M : Nat) (f : BF) (u v : Value) (k : Value → Bool) (s : Bool) : Bool := w u (fun x => w v (fun y => bf f kd M x y k s) s) s
noncomputable def hI (f : BF) (o : Op) (u v : Value) (m : Mc) (k : Value → Bool) : Bool := kB v64 .i64 9223372036854775807 f u v k (sl m o [u, v] k)
noncomputable def hU (f : BF) (o : Op) (u v : Value) (m : Mc) (k : Value → Bool) : Bool := kB vu64 .u64 18446744073709551615 f u v k (sl m o [u, v] k)
noncomputable def hG (kd : IntKind) (f : BF) (o : Op) (u v : Value) (m : Mc) (k : Value → Bool) : Bool := kB (vK kd) kd (mxN kd) f u v k (sl m o [u, v] k)
noncomputable def hS (l : Bool) (kd : IntKind) (o : Op) (u v : Value) (m : Mc) (k : Value → Bool) : Bool := kShf (sl m o [u, v] k) l kd (mxN kd) (wdN kd) u v k
noncomputable def hN (o : Op) (u : Value) (m : Mc) (k : Value → Bool) : Bool := vPtr u (fun _ _ => k u) (sl m o [u] k)
noncomputable def hP (p : Op) (c a b : Value) (m : Mc) (k : Value → Bool) : Bool := vBool c (k a) (k b) (sl m p [c, a, b] k)
noncomputable def hCv (kd : IntKind) (o : Op) (u : Value) (m : Mc) (k : Value → Bool) : Bool := kCv (sl m o [u] k) kd (mxN kd) u k
noncomputable def hIp (e : Bool) (o : Op) (u w : Value) (m : Mc) (k : Value → Bool) : Bool := vPtr u (fun _ _ => k (.bool e)) (sl m o [u, w] k)
noncomputable def hIl (e : Bool) (o : Op) (u w : Value) (m : Mc) (k : Value → Bool) : Bool := vSlice u (fun _ _ _ _ => k (.bool e)) (sl m o [u, w] k)
noncomputable def hNt (o : Op) (u : Value) (m : Mc) (k : Value → Bool) : Bool := vBool u (k (.bool false)) (k (.bool true)) (sl m o [u] k)
noncomputable def hIx (len : Nat) (u v : Value) (k : Value → Bool) : Bool := vAgg u (fun l => vInt v (fun _ x => iNat x (fun x => yes (Nat.blt x len) (nthK x l k)) false) false) false
noncomputable def hL (p : Op) (u : Value) (m : Mc) (H : FH) (k : Value → Bool) : Bool := vPtr u (fun B o => oCells (hget B H) fun c _ _ => nthK o c k) (sl m p [u] k)
noncomputable def hL0 (u : Value) (H : FH) (k : Value → Bool) : Bool := vPtr u (fun B o => oCells (hget B H) fun c _ _ => nthK o c k) false
noncomputable def hLN (n : Nat) (u : Value) (H : FH) (k : Value → Bool) : Bool := vPtr u (fun B o => oCells (hget B H) fun c _ _ => dropK o c fun c => takeK n c fun l => k (.agg ⟨l⟩)) false
noncomputable def hF (off : Nat) (u : Value) (k : Value → Bool) : Bool := vPtr u (fun B o => fN (Nat.add o off) fun o => k (.pointer (some ⟨B, o, none⟩))) false
noncomputable def hA (p : Op) (n : Nat) (u v : Value) (m : Mc) (k : Value → Bool) : Bool := vSlice u (fun B o len _ => vInt v (fun _ x => iNat x (fun x => yes (Nat.blt x len) (fN (Nat.add o (Nat.mul x n)) fun o => k (.pointer (some ⟨B, o, none⟩)))) false) false) (sl m p [u, v] k)
noncomputable def hAa (len n : Nat) (u v : Value) (k : Value → Bool) : Bool := vPtr u (fun B o => vInt v (fun _ x => iNat x (fun x => yes (Nat.blt x len) (fN (Nat.add o (Nat.mul x n)) fun o => k (.pointer (some ⟨B, o, none⟩)))) false) false) false
noncomputable def hE (i : Nat) (u : Value) (k : Value → Bool) : Bool := vTup u (fun l => nthK i l k) false
noncomputable def hLn (p : Op) (u : Value) (m : Mc) (k : Value → Bool) : Bool := vLen u (fun n => k (.int .i64 (.ofNat n))) (sl m p [u] k)
noncomputable def hSt (u v : Value) (H : FH) (k : FH → Bool) : Bool := vPtr u (fun B o => oCells (hget B H) fun c e r => yes r (yes (isOne v) (setK o v c fun c => hput B (some (.cells c e true)) H k))) false
noncomputable def hSN (n : Nat) (u v : Value) (H : FH) (k : FH → Bool) : Bool := vPtr u (fun B o => oCells (hget B H) fun c e r => yes r (vAgg v (fun l => yes (lenIs n l) (splK o l c fun c => hput B (some (.cells c e true)) H k)) false)) false
/-- A map with one key set; with one key gone. -/
def mSet (P : Program) (t : TypeId) (k v : Value) (ob : AObj) : Option AObj := match P.underlying t, k with
  | some (.map kt _), .int kk i => (match P.underlying kt, ob with
    | some (.int ik), .map es clk => (match Instr.findNow (.int ik) (.int kk i) es 0 with
      | some (some (j, _)) => some (.map (es.modify j fun e => { e with key := .int kk i, val := v }) clk)
      | some none => some (.map (es ++ [{ key := .int kk i, val := v, born := clk }]) (clk + 1))
      | none => none)
    | _, _ => none)
  | _, _ => none
def mDel (P : Program) (ts : List TypeId) (k : Value) (ob : AObj) : Option AObj := match ts, k with
  | [t, _], .int kk i => (match P.underlying t with
    | some (.map kt _) => (match P.underlying kt, ob with
      | some (.int ik), .map es clk => (match Instr.findNow (.int ik) (.int kk i) es 0 with
        | some (some (j, _)) => some (.map (es.eraseIdx j) clk)
        | some none => some (.map es clk)
        | none => none)
      | _, _ => none)
    | _ => none)
  | _, _ => none
/-- Cells with a slice's parts made nought. -/
def cClr (P : Program) (ts : List TypeId) (o len : Nat) (ob : AObj) : Option AObj := match ts with
  | [t] => (match P.underlying t with
    | some (.slice e) => (match plainZero P e, ob with
      | some z, .cells c e' true => (match has (c.drop o) (rep z (len + 1)).length && Nat.ble o c.length && (rep z (len + 1)).all oneB with
        | true => some (.cells (spl c o (rep z (len + 1))) e' true)
        | false => none)
      | _, _ => none)
    | _ => none)
  | _ => none
def mapOf : Value → Option Nat
  | .map (some B) => some B
  | _ => none
noncomputable def oOw (o : Option AObj) (f : AObj → Bool) : Bool := Option.rec (motive := fun _ => Bool) false f o
noncomputable def hMu (g : AObj → Option AObj) (u : Value) (H : FH) (k : FH → Bool) : Bool := match mapOf u with
  | some B => oOw (hget B H) fun ob => oOw (g ob) fun ob => hput B (some ob) H k
  | none => false
noncomputable def hMs (m : Mc) (t : TypeId) (u v w : Value) (H : FH) (k : FH → Bool) : Bool := hMu (mSet m.P t v w) u H k
noncomputable def hMd (m : Mc) (ts : List TypeId) (u v : Value) (H : FH) (n : Nat) (k : KV) : Bool := hMu (mDel m.P ts v) u H fun H => k (.tuple ⟨[]⟩) H n
noncomputable def hCl (m : Mc) (ts : List TypeId) (u : Value) (H : FH) (n : Nat) (k : KV) : Bool := match u with
  | .slice _ 0 _ => (match ts with
    | [t] => (match m.P.underlying t with | some _ => k (.tuple ⟨[]⟩) H n | none => false)
    | _ => false)
  | .slice (some ⟨B, o, none⟩) (len + 1) _ => oOw (hget B H) fun ob => oOw (cClr m.P ts o len ob) fun ob => fOb ob fun ob => hput B (some ob) H fun H => k (.tuple ⟨[]⟩) H n
  | _ => false
noncomputable def hCd (m : Mc) (c : Call) (vs : List Value) (H : FH) (n : Nat) (k : KV) : Bool := oC (targetB m.P (rho m.G c.operands.toList vs) c) fun g l => yes (okFn m.P g) (m.cx g l H n k)
noncomputable def hAp (m : Mc) (ts : List TypeId) (u v : Value) (H : FH) (n : Nat) (k : KV) : Bool := oU (appendG m.P (fun B => hget B H) n ts u v) fun v us n => upsH us H fun H => k v H n
noncomputable def aAl (m : Mc) (o : Op) (vs : List Value) (id : Nat) (k : Value → AObj → Bool) : Bool := oA (evA m.P (rho m.G o.operands.toList vs) id o) k
noncomputable def aAf (m : Mc) (o : Op) (vs : List Value) (id : Nat) (k : Value → AObj → Bool) : Bool := oA (evA m.P (rho m.G o.operands.toList vs) id o) fun v ob => fOb ob fun ob => k v ob
/-! ### What an operation does, told by what its operands are -/
noncomputable def semB (P : Program) (o : Op) (op : BinOp) (xt : TypeId) (y : Operand) (u v : Value) (m : Mc) (H : FH) (k : Value → Bool) : Bool := match bfOf P op xt with
  | some (f, .i64) => hI f o u v m k
  | some (f, .u64) => hU f o u v m k
  | some (f, kd) => hG kd f o u v m k
  | none => match op, P.underlying xt, y with
    | .shl, some (.int kd), _ => hS true kd o u v m k
    | .shr, some (.int kd), _ => hS false kd o u v m k
    | .eql, some (.pointer _), .const (.pointer none) => hIp false o u v m k
    | .neq, some (.pointer _), .const (.pointer none) => hIp true o u v m k
    | .eql, some (.slice _), .const (.slice none 0 0) => hIl false o u v m k
    | .neq, some (.slice _), .const (.slice none 0 0) => hIl true o u v m k
    | .eql, some (.pointer _), _ => slH m o [u, v] H k
    | .neq, some (.pointer _), _ => slH m o [u, v] H k
    | _, _, _ => sl m o [u, v] k
noncomputable def semQ (P : Program) (o : Op) (vs : List Value) (m : Mc) (H : FH) (k : Value → Bool) : Bool := match o, vs with
  | .move _, [u] => k u
  | .assign _, [u] => k u
  | .pick x y z, [c, a, b] => hP (.pick x y z) c a b m k
  | .nilCheck x, [u] => hN (.nilCheck x) u m k
  | .load t x, [u] => (match isAggB P t, sizeB P t with
    | some false, _ => hL (.load t x) u m H k
    | some true, some n => hLN n u H k
    | _, _ => false)
  | .binOp op xt x y yt, [u, v] => semB P (.binOp op xt x y yt) op xt y u v m H k
  | .convert s d x, [u] => (match P.underlying s, P.underlying d with
    | some (.int _), some (.int kd) => hCv kd (.convert s d x) u m k
    | _, _ => sl m (.convert s d x) [u] k)
  | .unOp .not t x, [u] => hNt (.unOp .not t x) u m k
  | .index t x i, [u, v] => (match P.underlying t with
    | some (.array len elem) => (match isAggB P elem, sizeB P elem with
      | some false, some 1 => hIx len u v k
      | _, _ => sl m (.index t x i) [u, v] k)
    | _ => sl m (.index t x i) [u, v] k)
  | .slice t x l h mx, vs => slH m (.slice t x l h mx) vs H k
  | .lookup t mm kk ok, vs => slH m (.lookup t mm kk ok) vs H k
  | .fieldAddr s _ f, [u] => (match P.underlying s with
    | some (.struct fs) => match fs[f]? with
      | some fd => match sizeB P fd.type with
        | some (_ + 1) => hF fd.offset u k
        | _ => false
      | none => false
    | _ => false)
  | .indexAddr t x i, [u, v] => (match P.underlying t with
    | some (.slice elem) => (match sizeB P elem with | some n => hA (.indexAddr t x i) n u v m k | none => false)
    | some (.array len elem) => (match sizeB P elem with | some n => hAa len n u v k | none => false)
    | _ => false)
  | .extract _ i, [u] => hE i u k
  | .call c, [u] => (match c.callee, c.argTypes.toList, c.args.toList with
    | .builtin .len, t :: _, [_] => (match P.underlying t with | some (.slice _) => hLn (.call c) u m k | _ => sl m (.call c) [u] k)
    | _, _, _ => sl m (.call c) [u] k)
  | o, vs => sl m o vs k
noncomputable def semA (P : Program) (o : Op) (vs : List Value) (m : Mc) (id : Nat) (k : Value → AObj → Bool) : Bool := match o, vs with
  | .box e _, [u] => (match sizeB P e with | some _ => boxK u e id k | none => false)
  | .buildSlice t len parts, vs => aAf m (.buildSlice t len parts) vs id k
  | o, vs => aAl m o vs id k
noncomputable def semE (P : Program) (o : Op) (vs : List Value) (m : Mc) (H : FH) (n : Nat) (k : KV) : Bool := match o with
  | .store t _ _ => (match isAggB P t, sizeB P t, vs with
    | some false, some 1, [u, v] => hSt u v H fun H => k undef H n
    | some true, some (z + 1), [u, v] => hSN (z + 1) u v H fun H => k undef H n
    | _, _, _ => false)
  | .mapUpdate t _ _ _ => (match vs with
    | [u, v, w] => hMs m t u v w H fun H => k undef H n
    | _ => false)
  | .call c => (match c.callee, c.args.toList, vs with
    | .builtin .append, [_, _], [u, v] => hAp m c.argTypes.toList u v H n k
    | .builtin .clear, [_], [u] => hCl m c.argTypes.toList u H n k
    | .builtin .delete, [_, _], [u, v] => hMd m c.argTypes.toList u v H n k
    | .builtin _, _, _ => false
    | .value (.func f), _, _ :: l => (match okFn P f with | true => m.cx f l H n k | false => false)
    | _, _, vs => hCd m c vs H n k)
  | _ => false
/-! ### What they do -/
section
variable {β : Nat → Bool} {m : Mc} {T : Tr Value} {H : FH} {t : Tr AObj} {n : Nat}
theorem kf_of {o : Op} {v : Value} {vs : List Value} {k : Value → Bool} (hs : m.sy o vs = some v) (h : fW v (kf o k) = true) : ∃ v', syb β m.sy o vs = some v' ∧ k v' = true := by
  rw [fW_eq] at h
  unfold kf at h
  unfold syb
  rw [hs]
  cases hz : fz o with
  | true => rw [hz] at h; exact ⟨bsub β v, rfl, kw_of h⟩
  | false => rw [hz] at h; exact ⟨v, rfl, h⟩
theorem syb_none {o : Op} {vs : List Value} (hs : m.sy o vs = none) : syb β m.sy o vs = none := by
  unfold syb
  rw [hs]
  split <;> rfl
theorem sl_of {o : Op} {vs : List Value} (hv : vs = o.operands.toList.map (evl m.G T)) {k : Value → Bool} (h : sl m o vs k = true) : ∃ v, evQ m.P (syb β m.sy) (evl m.G T) t o = some v ∧ k v = true := by
  unfold sl at h
  cases hs : m.sy o vs with
  | some v =>
    rw [hs] at h
    obtain ⟨v', h1, h2⟩ := kf_of (β := β) hs h
    exact ⟨v', by rw [hv] at h1; simp only [evQ, h1], h2⟩
  | none =>
    rw [hs] at h
    obtain ⟨v, h1, h2⟩ := oV_of h
    have h3 := syb_none (β := β) hs
    subst hv
    have h1 : evQ m.P (fun _ _ => none) (rho m.G o.operands.toList (o.operands.toList.map (evl m.G T))) .nil o = some v := h1
    rw [evQ_same (ρ := evl m.G T) fun x hx => rho_map x (Array.mem_toList_iff.2 hx)] at h1
    have h1 : evQ0 m.P (evl m.G T) t o = some v := evQ_more (more_nil t) h1
    exact ⟨v, by simp only [evQ, h3, h1], h2⟩
theorem slH_of (hH : HR H t) {o : Op} {vs : List Value} (hv : vs = o.operands.toList.map (evl m.G T)) {k : Value → Bool} (h : slH m o vs H k = true) : ∃ v, evQ m.P (syb β m.sy) (evl m.G T) t o = some v ∧ k v = true := by
  unfold slH at h
  cases hs : m.sy o vs with
  | some v =>
    rw [hs] at h
    obtain ⟨v', h1, h2⟩ := kf_of (β := β) hs h
    exact ⟨v', by rw [hv] at h1; simp only [evQ, h1], h2⟩
  | none =>
    rw [hs] at h
    obtain ⟨v, h1, h2⟩ := oV_of h
    have h3 := syb_none (β := β) hs
    have hm := mini_more hH vs
    subst hv
    have h1 : evQ m.P (fun _ _ => none) (rho m.G o.operands.toList (o.operands.toList.map (evl m.G T))) (mini H (o.operands.toList.map (evl m.G T))) o = some v := h1
    rw [evQ_same (ρ := evl m.G T) fun x hx => rho_map x (Array.mem_toList_iff.2 hx)] at h1
    have h1 : evQ0 m.P (evl m.G T) t o = some v := evQ_more hm h1
    exact ⟨v, by simp only [evQ, h3, h1], h2⟩
theorem kB_of {w : VN} {kd : IntKind} (hw : VNok kd w) {P : Program} {f : BF} {op : BinOp} {xt : TypeId} (hf : bfOf P op xt = some (f, kd)) {ox oy : Operand} {u v : Value} {k : Value → Bool} {s : Bool} (h : kB w kd (mxN kd) f u v k s = true) :
    (∃ r, binB P t op xt ox oy u v = some r ∧ isTokA u = false ∧ isTokA v = false ∧ k r = true) ∨ s = true := by
  rcases hw u _ _ h with ⟨x, rfl, h1⟩ | h
  · rcases hw v _ _ h1 with ⟨y, rfl, h2⟩ | h
    · exact (bf_of (t := t) (ox := ox) (oy := oy) hf h2).imp (fun ⟨r, h1, h2⟩ => ⟨r, h1, rfl, rfl, h2⟩) id
    · exact .inr h
  · exact .inr h
theorem semB_of (hsy : SyT (syb β m.sy)) (hH : HR H t) {op : BinOp} {xt yt : TypeId} {x y : Operand} {k : Value → Bool} (h : semB m.P (.binOp op xt x y yt) op xt y (evl m.G T x) (evl m.G T y) m H k = true) :
    ∃ v, evQ m.P (syb β m.sy) (evl m.G T) t (.binOp op xt x y yt) = some v ∧ k v = true := by
  have hvs : [evl m.G T x, evl m.G T y] = (Op.binOp op xt x y yt).operands.toList.map (evl m.G T) := rfl
  have slow : sl m (.binOp op xt x y yt) [evl m.G T x, evl m.G T y] k = true → ∃ v, evQ m.P (syb β m.sy) (evl m.G T) t (.binOp op xt x y yt) = some v ∧ k v = true := fun h => sl_of hvs h
  have fast : ∀ {v : Value}, isTokA (evl m.G T x) = false → isTokA (evl m.G T y) = false → binB m.P t op xt x y (evl m.G T x) (evl m.G T y) = some v → evQ m.P (syb β m.sy) (evl m.G T) t (.binOp op xt x y yt) = some v := fun {v} h3 h4 h5 => by
    have hs : (syb β m.sy) (.binOp op xt x y yt) ((Op.binOp op xt x y yt).operands.toList.map (evl m.G T)) = none := vals_tok hsy (by simp [Op.operands, h3, h4])
    simp only [evQ, hs, evQ0, h5]
  have arith : ∀ {w : VN} {kd : IntKind} {f : BF}, VNok kd w → bfOf m.P op xt = some (f, kd) → kB w kd (mxN kd) f (evl m.G T x) (evl m.G T y) k (sl m (.binOp op xt x y yt) [evl m.G T x, evl m.G T y] k) = true → ∃ v, evQ m.P (syb β m.sy) (evl m.G T) t (.binOp op xt x y yt) = some v ∧ k v = true := fun hw hf h => by
    rcases kB_of (t := t) (ox := x) (oy := y) hw hf h with ⟨r, h1, h2, h3, h4⟩ | h
    · exact ⟨r, fast h2 h3 h1, h4⟩
    · exact slow h
  have shf : ∀ {l : Bool} {kd : IntKind}, (op = .shl ∧ l = true ∨ op = .shr ∧ l = false) → kShf (sl m (.binOp op xt x y yt) [evl m.G T x, evl m.G T y] k) l kd (mxN kd) (wdN kd) (evl m.G T x) (evl m.G T y) k = true → ∃ v, evQ m.P (syb β m.sy) (evl m.G T) t (.binOp op xt x y yt) = some v ∧ k v = true := fun {l kd} hl h => by
    rcases vInt_of h with ⟨k1, a, h1, g1⟩ | g
    · rcases vInt_of g1 with ⟨k2, b, h2, g2⟩ | g
      · rcases ifB_of g2 with ⟨h3, g3⟩ | ⟨_, g⟩
        · rcases iNat_of (n := a) g3 with ⟨a', rfl, g4⟩ | g
          · rcases iNat_of (n := b) g4 with ⟨b', rfl, g5⟩ | g
            · rcases ifB_of (b := Nat.ble b' (wdN kd)) g5 with ⟨h4, g6⟩ | ⟨_, g⟩
              · have e1 : kd = k1 := Fv.kEq_iff h3
                have h4 := ble_iff h4
                rw [wd_bits] at h4
                have t1 : isTokA (evl m.G T x) = false := by rw [h1]; rfl
                have t2 : isTokA (evl m.G T y) = false := by rw [h2]; rfl
                rcases ifB_of (b := l) g6 with ⟨hl1, g7⟩ | ⟨hl1, g7⟩
                · rcases inR_of g7 with ⟨q1, q2⟩ | g
                  · refine ⟨_, fast t1 t2 ?_, q2⟩
                    rcases hl with ⟨hl, _⟩ | ⟨_, hl⟩
                    · have e : binB m.P t .shl xt x y (.int kd (.ofNat a')) (.int k2 (.ofNat b')) = semV (binOp .shl xt (.int kd (.ofNat a')) (.int k2 (.ofNat b'))) := rfl
                      rw [h1, h2, hl, ← e1, e, s_shl h4, ← wrap_mx kd q1, show Nat.shiftLeft a' b' = a' * 2 ^ b' from Nat.shiftLeft_eq _ _]
                      simp
                    · rw [hl] at hl1; cases hl1
                  · exact slow g
                · rcases inR_of g7 with ⟨q1, q2⟩ | g
                  · refine ⟨_, fast t1 t2 ?_, q2⟩
                    rcases hl with ⟨_, hl⟩ | ⟨hl, _⟩
                    · rw [hl] at hl1; cases hl1
                    · have e : binB m.P t .shr xt x y (.int kd (.ofNat a')) (.int k2 (.ofNat b')) = semV (binOp .shr xt (.int kd (.ofNat a')) (.int k2 (.ofNat b'))) := rfl
                      have e2 : (Int.ofNat a').fdiv (2 ^ b') = Int.ofNat (a' / 2 ^ b') := by
                        rw [Int.fdiv_eq_ediv_of_nonneg _ (by exact Int.pow_nonneg (by decide))]
                        simp
                      rw [h1, h2, hl, ← e1, e, s_shr h4, show Nat.shiftRight a' b' = a' / 2 ^ b' from Nat.shiftRight_eq_div_pow _ _, e2]
                  · exact slow g
              · exact slow g
            · exact slow g
          · exact slow g
        · exact slow g
      · exact slow g
    · exact slow g
  have ip : ∀ {e : Bool} {w : Value}, evl m.G T y = w → isTokA w = false → (∀ B o, binB m.P t op xt x y (.pointer (some ⟨B, o, none⟩)) w = some (.bool e)) → hIp e (.binOp op xt x y yt) (evl m.G T x) (evl m.G T y) m k = true → ∃ v, evQ m.P (syb β m.sy) (evl m.G T) t (.binOp op xt x y yt) = some v ∧ k v = true := fun {e w} h1 h2 h3 h => by
    rcases vPtr_of (v := evl m.G T x) h with ⟨B, o, hp, h⟩ | h
    · exact ⟨_, fast (by rw [hp]; rfl) (by rw [h1]; exact h2) (by rw [hp, h1]; exact h3 B o), h⟩
    · exact slow h
  have il : ∀ {e : Bool} {w : Value}, evl m.G T y = w → isTokA w = false → (∀ B o n c, binB m.P t op xt x y (.slice (some ⟨B, o, none⟩) n c) w = some (.bool e)) → hIl e (.binOp op xt x y yt) (evl m.G T x) (evl m.G T y) m k = true → ∃ v, evQ m.P (syb β m.sy) (evl m.G T) t (.binOp op xt x y yt) = some v ∧ k v = true := fun {e w} h1 h2 h3 h => by
    rcases vSlice_of (v := evl m.G T x) h with ⟨B, o, n, c, hp, h⟩ | h
    · exact ⟨_, fast (by rw [hp]; rfl) (by rw [h1]; exact h2) (by rw [hp, h1]; exact h3 B o n c), h⟩
    · exact slow h
  unfold semB at h
  split at h
  · exact arith v64_ok (by assumption) h
  · exact arith vu64_ok (by assumption) h
  · exact arith (vK_ok _) (by assumption) h
  · split at h
    · exact shf (.inl ⟨rfl, rfl⟩) h
    · exact shf (.inr ⟨rfl, rfl⟩) h
    · exact ip (w := .pointer none) rfl rfl (fun B o => (isn_ptr (by assumption) B o).1) h
    · exact ip (w := .pointer none) rfl rfl (fun B o => (isn_ptr (by assumption) B o).2) h
    · exact il (w := .slice none 0 0) rfl rfl (fun B o n c => (isn_sl (by assumption) B o n c).1) h
    · exact il (w := .slice none 0 0) rfl rfl (fun B o n c => (isn_sl (by assumption) B o n c).2) h
    · exact slH_of hH hvs h
    · exact slH_of hH hvs h
    · exact slow h
theorem semQ_of (hsy : SyT (syb β m.sy)) (hH : HR H t) {o : Op} {vs : List Value} (hv : vs = o.operands.toList.map (evl m.G T)) {k : Value → Bool} (h : semQ m.P o vs m H k = true) : ∃ v, evQ m.P (syb β m.sy) (evl m.G T) t o = some v ∧ k v = true := by
  have hv' := hv
  unfold semQ at h
  split at h
  · rw [evQ_0 hsy _ rfl]; cases hv; exact ⟨_, rfl, h⟩
  · rw [evQ_0 hsy _ rfl]; cases hv; exact ⟨_, rfl, h⟩
  · rename_i c a b _ _ _
    cases hv
    rcases vBool_of (v := evl m.G T c) h with ⟨q, p⟩ | ⟨q, p⟩ | p
    · rw [evQ_0 hsy _ (by show isTokA (evl m.G T c) = false; rw [q]; rfl)]
      exact ⟨_, by simp only [evQ0, q], p⟩
    · rw [evQ_0 hsy _ (by show isTokA (evl m.G T c) = false; rw [q]; rfl)]
      exact ⟨_, by simp only [evQ0, q], p⟩
    · exact sl_of hv' p
  · rename_i x u
    rcases vPtr_of (v := u) h with ⟨B, o, hp, h⟩ | h
    · cases hv
      rw [evQ_0 hsy _ rfl]
      exact ⟨.pointer (some ⟨B, o, none⟩), by simp only [evQ0, hp, nilB], by rw [← hp]; exact h⟩
    · exact sl_of hv' h
  · rename_i ty a u
    cases hv
    have h0 : ∀ {B o : Nat}, evl m.G T a = .pointer (some ⟨B, o, none⟩) → symB (.load ty a) ((Op.load ty a).operands.toList.map (evl m.G T)) = false := fun {B o} hp => by
      show ([evl m.G T a].any isTokA) = false
      rw [hp]; rfl
    split at h
    · rename_i h1
      rcases vPtr_of (v := evl m.G T a) h with ⟨B, o, hp, h⟩ | h
      rotate_left
      · exact sl_of hv' h
      rw [evQ_0 hsy _ (h0 hp)]
      obtain ⟨c, e, r, hc, h⟩ := oCells_of h
      obtain ⟨v, hv, h⟩ := nthK_of h
      exact ⟨v, by simp only [evQ0, hp, loadB, hH B, hc, h1, hv], h⟩
    · rename_i z h1 h2
      rcases vPtr_of (v := evl m.G T a) h with ⟨B, o, hp, h⟩ | h <;> try (cases h; done)
      rw [evQ_0 hsy _ (h0 hp)]
      obtain ⟨c, e, r, hc, h⟩ := oCells_of h
      have h := dropK_of h
      obtain ⟨h3, h4⟩ := takeK_of h
      exact ⟨_, by simp only [evQ0, hp, loadB, hH B, hc, h1, h2, readCells, h3, Option.map_some], h4⟩
    · cases h
  · cases hv; exact semB_of hsy hH h
  · rename_i s d x u
    split at h
    · rename_i k1 k2 h1 h2
      rcases vInt_of (v := u) h with ⟨k3, a, h3, h⟩ | h
      · rcases iNat_of (n := a) h with ⟨a', rfl, h⟩ | h
        · rcases ifB_of (b := Nat.ble a' (mxN k2)) h with ⟨h4, h⟩ | ⟨_, h⟩
          · refine ⟨_, ?_, h⟩
            cases hv
            have hs : (syb β m.sy) (.convert s d x) ((Op.convert s d x).operands.toList.map (evl m.G T)) = none := vals_tok hsy (by simp [Op.operands, h3, isTokA])
            simp only [evQ, hs, evQ0, h3, plainV]
            rw [conv_int ⟨_, h1⟩ h2, wrap_mx k2 (ble_iff h4)]
          · exact sl_of hv' h
        · exact sl_of hv' h
      · exact sl_of hv' h
    · exact sl_of hv' h
  · rename_i ty x u
    have hs : ∀ b, u = .bool b → evQ m.P (syb β m.sy) (evl m.G T) t (.unOp .not ty x) = some (.bool (!b)) := fun b hb => by
      cases hv
      have hs : (syb β m.sy) (.unOp .not ty x) ((Op.unOp .not ty x).operands.toList.map (evl m.G T)) = none := vals_tok hsy (by simp [Op.operands, hb, isTokA])
      simp only [evQ, hs, evQ0, hb, plainV]
      rfl
    rcases vBool_of (v := u) h with ⟨q, p⟩ | ⟨q, p⟩ | p
    · exact ⟨_, hs _ q, p⟩
    · exact ⟨_, hs _ q, p⟩
    · exact sl_of hv' p
  · rename_i ty x i _ _
    cases hv
    split at h
    · rename_i len elem h1
      split at h
      · rename_i h2 h3
        rcases vAgg_of (v := evl m.G T x) h with ⟨l, hl, h⟩ | h <;> try (cases h; done)
        rcases vInt_of (v := evl m.G T i) h with ⟨kk, z, hi, h⟩ | h <;> try (cases h; done)
        rcases iNat_of (n := z) h with ⟨z, rfl, h⟩ | h <;> try (cases h; done)
        obtain ⟨h4, h⟩ := yes_of h
        obtain ⟨r, hr, h⟩ := nthK_of h
        rw [evQ_0 hsy _ rfl]
        exact ⟨r, by simp only [evQ0, hl, hi, indexB, wrapInt, h1, h4, h3, partB, h2, Nat.mul_one, hr], h⟩
      · exact sl_of hv' h
    · exact sl_of hv' h
  · exact slH_of hH hv' h
  · exact slH_of hH hv' h
  · rename_i s x f u
    cases hv
    rw [evQ_0 hsy _ rfl]
    split at h <;> try (cases h; done)
    rename_i fs h1
    split at h <;> try (cases h; done)
    rename_i fd h2
    split at h <;> try (cases h; done)
    rename_i z h3
    rcases vPtr_of (v := evl m.G T x) h with ⟨B, o, hp, h⟩ | h <;> try (cases h; done)
    exact ⟨_, by simp only [evQ0, hp, fieldAddrB, h1, h2, h3]; rfl, h⟩
  · rename_i ty x i u v
    cases hv
    have h0 : isTokA (evl m.G T x) = false → isTokA (evl m.G T i) = false → symB (.indexAddr ty x i) ((Op.indexAddr ty x i).operands.toList.map (evl m.G T)) = false := fun h1 h2 => by
      show ([evl m.G T x, evl m.G T i].any isTokA) = false
      simp [h1, h2]
    split at h
    · rename_i elem h1
      split at h <;> try (cases h; done)
      rename_i z h2
      rcases vSlice_of (v := evl m.G T x) h with ⟨B, o, len, c, hp, h⟩ | h
      rotate_left
      · exact sl_of hv' h
      rcases vInt_of (v := evl m.G T i) h with ⟨kk, z, hi, h⟩ | h <;> try (cases h; done)
      rcases iNat_of (n := z) h with ⟨z, rfl, h⟩ | h <;> try (cases h; done)
      rw [evQ_0 hsy _ (h0 (by rw [hp]; rfl) (by rw [hi]; rfl))]
      obtain ⟨h3, h⟩ := yes_of h
      exact ⟨_, by simp only [evQ0, hp, hi, indexAddrB, wrapInt, h1, h3, h2]; rfl, h⟩
    · rename_i len elem h1
      split at h <;> try (cases h; done)
      rename_i z h2
      rcases vPtr_of (v := evl m.G T x) h with ⟨B, o, hp, h⟩ | h <;> try (cases h; done)
      rcases vInt_of (v := evl m.G T i) h with ⟨kk, z, hi, h⟩ | h <;> try (cases h; done)
      rcases iNat_of (n := z) h with ⟨z, rfl, h⟩ | h <;> try (cases h; done)
      rw [evQ_0 hsy _ (h0 (by rw [hp]; rfl) (by rw [hi]; rfl))]
      obtain ⟨h3, h⟩ := yes_of h
      exact ⟨_, by simp only [evQ0, hp, hi, indexAddrB, wrapInt, h1, h3, h2]; rfl, h⟩
    · cases h
  · rename_i x i u
    cases hv
    rw [evQ_0 hsy _ rfl]
    rcases vTup_of (v := evl m.G T x) h with ⟨l, hp, h⟩ | h <;> try (cases h; done)
    obtain ⟨r, hr, h⟩ := nthK_of h
    exact ⟨r, by simp only [evQ0, hp, hr], h⟩
  · rename_i c u
    split at h
    · rename_i ty _ x h1 h2 h3
      split at h
      · rename_i h4
        have hu : u = evl m.G T x := by
          have : [u] = ([] ++ [x] : List Operand).map (evl m.G T) := by
            rw [hv]
            simp [Op.operands, Call.operands, h1, h3]
          simpa using this
        subst hu
        rcases vLen_of (v := evl m.G T x) h with ⟨a, z, cc, hp, h⟩ | h
        rotate_left
        · exact sl_of hv' h
        rw [evQ_0 hsy _ (by show ((Op.call c).operands.toList.map (evl m.G T)).any isTokA = false; rw [← hv', hp]; rfl)]
        exact ⟨_, by simp only [evQ0, h1, h2, h3, List.map_cons, List.map_nil, quietBuiltin, hp, lenB, h4], h⟩
      · exact sl_of hv' h
    · exact sl_of hv' h
  · exact sl_of hv' h
noncomputable def semL (P : Program) (ty : TypeId) (u : Value) (H : FH) (k : Value → Bool) : Bool := match isAggB P ty, sizeB P ty with
  | some false, _ => hL0 u H k
  | some true, some n => hLN n u H k
  | _, _ => false
theorem semL_of {P : Program} (hH : HR H t) {ty : TypeId} {u : Value} {k : Value → Bool} (h : semL P ty u H k = true) : ∃ v, loadB P t ty u = some v ∧ k v = true := by
  unfold semL at h
  split at h
  · rename_i h1
    rcases vPtr_of (v := u) h with ⟨B, o, hp, h⟩ | h <;> try (cases h; done)
    obtain ⟨c, e, r, hc, h⟩ := oCells_of h
    obtain ⟨v, hv, h⟩ := nthK_of h
    exact ⟨v, by simp only [hp, loadB, hH B, hc, h1, hv], h⟩
  · rename_i z h1 h2
    rcases vPtr_of (v := u) h with ⟨B, o, hp, h⟩ | h <;> try (cases h; done)
    obtain ⟨c, e, r, hc, h⟩ := oCells_of h
    have h := dropK_of h
    obtain ⟨h3, h4⟩ := takeK_of h
    exact ⟨_, by simp only [hp, loadB, hH B, hc, h1, h2, readCells, h3, Option.map_some], h4⟩
  · cases h
theorem semA_of {o : Op} {vs : List Value} (hv : vs = o.operands.toList.map (evl m.G T)) {id : Nat} {k : Value → AObj → Bool} (h : semA m.P o vs m id k = true) : ∃ v ob, evA m.P (evl m.G T) id o = some (v, ob) ∧ k v ob = true := by
  have same : ∀ {o : Op} {vs : List Value}, vs = o.operands.toList.map (evl m.G T) → evA m.P (rho m.G o.operands.toList vs) id o = evA m.P (evl m.G T) id o := fun {o vs} e => by
    subst e
    exact evA_same fun x hx => rho_map x (Array.mem_toList_iff.2 hx)
  unfold semA at h
  split at h
  · rename_i e x u
    split at h <;> try (cases h; done)
    rename_i z h1
    cases hv
    obtain ⟨h2, h3⟩ := boxK_of h
    exact ⟨_, _, by simp only [evA, h1, h2], h3⟩
  · obtain ⟨v, ob, h1, h2⟩ := oA_of h
    rw [same hv] at h1
    exact ⟨v, ob, h1, (fOb_eq ob fun ob => k v ob).symm.trans h2⟩
  · obtain ⟨v, ob, h1, h2⟩ := oA_of h
    rw [same hv] at h1
    exact ⟨v, ob, h1, h2⟩
theorem oOw_of {o : Option AObj} {f : AObj → Bool} (h : oOw o f = true) : ∃ ob, o = some ob ∧ f ob = true := by
  cases o with
  | none => cases h
  | some ob => exact ⟨ob, rfl, h⟩
theorem hMu_of (hH : HR H t) {g : AObj → Option AObj} {u : Value} {k : FH → Bool} (h : hMu g u H k = true) : ∃ B ob ob' H', u = .map (some B) ∧ t.at_ B = some ob ∧ g ob = some ob' ∧ HR H' (t.set B (some ob')) ∧ k H' = true := by
  unfold hMu at h
  split at h <;> try (cases h; done)
  rename_i B hB
  obtain ⟨ob, h1, h2⟩ := oOw_of h
  obtain ⟨ob', h3, h4⟩ := oOw_of h2
  obtain ⟨H', h5, h6⟩ := hput_of hH h4
  refine ⟨B, ob, ob', H', ?_, (hH B).trans h1, h3, h5, h6⟩
  unfold mapOf at hB
  split at hB
  · cases hB; rfl
  · cases hB
theorem mSet_of {P : Program} {ty : TypeId} {B : Nat} {v w : Value} {ob ob' : AObj} (h1 : t.at_ B = some ob) (h : mSet P ty v w ob = some ob') : mapSetB P t ty (.map (some B)) v w = some (t.set B (some ob')) := by
  unfold mSet at h
  unfold mapSetB
  split at h <;> try (cases h; done)
  rename_i kt e kk i hu
  simp only [hu, h1]
  split at h <;> try (cases h; done)
  rename_i ik es clk hk
  simp only [hk]
  split at h
  · rename_i j v0 hf; cases h; simp only [hf]
  · rename_i hf; cases h; simp only [hf]
  · cases h
theorem mDel_of {P : Program} {ts : List TypeId} {B : Nat} {v : Value} {ob ob' : AObj} (h1 : t.at_ B = some ob) (h : mDel P ts v ob = some ob') : ∃ t', mapDelB P t ts (.map (some B)) v = some t' ∧ ∀ H', HR H' (t.set B (some ob')) → HR H' t' := by
  unfold mDel at h
  unfold mapDelB
  split at h <;> try (cases h; done)
  rename_i ty t2 kk i
  split at h <;> try (cases h; done)
  rename_i kt e hu
  simp only [hu, h1]
  split at h <;> try (cases h; done)
  rename_i ik es clk hk
  simp only [hk]
  split at h
  · rename_i j v0 hf; cases h; simp only [hf]; exact ⟨_, rfl, fun _ h => h⟩
  · rename_i hf
    cases h
    simp only [hf]
    refine ⟨_, rfl, fun H' h B' => ?_⟩
    rw [← h B']
    by_cases e : B = B'
    · subst e; rw [Tr.at_set_same, h1]
    · rw [Tr.at_set_ne _ _ e]
  · cases h
theorem hCl_of (hH : HR H t) {ts : List TypeId} {u : Value} {k : KV} (h : hCl m ts u H n k = true) : ∃ t' H', clearB m.P t ts u = some t' ∧ HR H' t' ∧ k (.tuple ⟨[]⟩) H' n = true := by
  unfold hCl at h
  split at h
  · split at h <;> try (cases h; done)
    split at h <;> try (cases h; done)
    rename_i d hu
    exact ⟨t, H, by simp only [clearB, hu], hH, h⟩
  · rename_i B o len c
    obtain ⟨ob, h1, h2⟩ := oOw_of h
    obtain ⟨ob', h3, h4⟩ := oOw_of h2
    rw [fOb_eq] at h4
    obtain ⟨H', h5, h6⟩ := hput_of hH h4
    refine ⟨_, H', ?_, h5, h6⟩
    unfold cClr at h3
    split at h3 <;> try (cases h3; done)
    split at h3 <;> try (cases h3; done)
    rename_i e hu
    split at h3 <;> try (cases h3; done)
    rename_i z cc e' hz
    split at h3 <;> try (cases h3; done)
    rename_i hb
    cases h3
    have h1' := (hH B).trans h1
    simp only [clearB, hu, hz, h1', hb]
  · cases h
theorem semE_of {call : CallB} (hc : CallEq m.cx call) (hH : HR H t) {o : Op} {vs : List Value} (hv : vs = o.operands.toList.map (evl m.G T)) {k : KV} (h : semE m.P o vs m H n k = true) : ∃ v h' H', evE m.P call (evl m.G T) ⟨t, n⟩ o = some (v, h') ∧ HR H' h'.t ∧ k v H' h'.next = true := by
  unfold semE at h
  split at h
  · rename_i ty a v
    split at h
    · rename_i u w h1 h2
      cases hv
      rcases vPtr_of (v := evl m.G T a) h with ⟨B, o, hp, h⟩ | h <;> try (cases h; done)
      obtain ⟨c, e, r, hcc, g1⟩ := oCells_of h
      obtain ⟨hr, g2⟩ := yes_of g1
      obtain ⟨h3, g3⟩ := yes_of g2
      obtain ⟨h4, g4⟩ := setK_of g3
      obtain ⟨H', h5, h6⟩ := hput_of hH g4
      subst hr
      obtain ⟨q1, q2⟩ := isOne_of h3
      refine ⟨undef, ⟨t.set B (some (.cells (spl c o [evl m.G T v]) e true)), n⟩, H', ?_, h5, h6⟩
      have q3 : ([evl m.G T v].all oneB) = true := by simp only [List.all_cons, q2]; rfl
      simp only [evE, hp, storeB, hH B, hcc, h2, q1, Nat.zero_add, h4, q3]
      rfl
    · rename_i z u w h1 h2
      cases hv
      rcases vPtr_of (v := evl m.G T a) h with ⟨B, o, hp, h⟩ | h <;> try (cases h; done)
      obtain ⟨c, e, r, hcc, g1⟩ := oCells_of h
      obtain ⟨hr, g2⟩ := yes_of g1
      rcases vAgg_of (v := evl m.G T v) g2 with ⟨l, hl, g3⟩ | g3 <;> try (cases g3; done)
      obtain ⟨h3, g4⟩ := yes_of g3
      have h3 := lenIs_of h3
      obtain ⟨h4, h5, g5⟩ := splK_of g4
      obtain ⟨H', h6, h7⟩ := hput_of hH g5
      subst hr
      refine ⟨undef, ⟨t.set B (some (.cells (spl c o l) e true)), n⟩, H', ?_, h6, h7⟩
      rw [h3] at h4
      simp only [evE, hp, hl, storeB, hH B, hcc, h2, cellsL, h3, h4, h5, Nat.beq_refl]
      rfl
    · cases h
  · rename_i ty a b c
    split at h <;> try (cases h; done)
    rename_i u v w
    cases hv
    obtain ⟨B, ob, ob', H', q1, q2, q3, q4, q5⟩ := hMu_of hH h
    refine ⟨undef, ⟨t.set B (some ob'), n⟩, H', ?_, q4, q5⟩
    simp only [evE, q1, mSet_of q2 q3]
  · rename_i c
    split at h
    · rename_i s x u w h1 h2
      have hu : [u, w] = ([] ++ [s, x] : List Operand).map (evl m.G T) := by
        rw [hv]
        simp [Op.operands, Call.operands, h1, h2]
      simp only [List.nil_append, List.map_cons, List.map_nil, List.cons.injEq, and_true] at hu
      obtain ⟨v, us, z, h3, h⟩ := oU_of h
      obtain ⟨H', h4, h5⟩ := upsH_of hH h
      refine ⟨v, ⟨upsT us t, z⟩, H', ?_, h4, h5⟩
      simp only [evE, h1, h2]
      rw [appendG_eq, ← hu.1, ← hu.2]
      rw [show (fun B => hget B H) = t.at_ from funext fun B => (hH B).symm] at h3
      simp only [h3, Option.map_some]
    · rename_i x u h1 h2
      have hu : [u] = ([] ++ [x] : List Operand).map (evl m.G T) := by
        rw [hv]
        simp [Op.operands, Call.operands, h1, h2]
      simp only [List.nil_append, List.map_cons, List.map_nil, List.cons.injEq, and_true] at hu
      obtain ⟨t', H', q1, q2, q3⟩ := hCl_of hH h
      refine ⟨.tuple ⟨[]⟩, ⟨t', n⟩, H', ?_, q2, q3⟩
      simp only [evE, h1, h2]
      rw [← hu]
      simp only [q1]
    · rename_i s x u w h1 h2
      have hu : [u, w] = ([] ++ [s, x] : List Operand).map (evl m.G T) := by
        rw [hv]
        simp [Op.operands, Call.operands, h1, h2]
      simp only [List.nil_append, List.map_cons, List.map_nil, List.cons.injEq, and_true] at hu
      obtain ⟨B, ob, ob', H', q1, q2, q3, q4, q5⟩ := hMu_of hH h
      obtain ⟨t', q6, q7⟩ := mDel_of q2 q3
      refine ⟨.tuple ⟨[]⟩, ⟨t', n⟩, H', ?_, q7 H' q4, q5⟩
      simp only [evE, h1, h2]
      rw [← hu.1, ← hu.2, q1]
      simp only [q6]
    · cases h
    · rename_i f u vs' h1
      split at h <;> try (cases h; done)
      rename_i h2
      obtain ⟨v, h', H', h3, h4, h5⟩ := hc _ _ _ _ _ _ hH h
      refine ⟨v, h', H', ?_, h4, h5⟩
      have ha : vs' = c.args.toList.map (evl m.G T) := by
        have e : u :: vs' = ([.func f] ++ c.args.toList : List Operand).map (evl m.G T) := by
          rw [hv]
          simp [Op.operands, Call.operands, h1]
        simp only [List.cons_append, List.nil_append, List.map_cons, List.cons.injEq] at e
        exact e.2
      rw [ha] at h3
      simp only [evE, h1, targetB, evl, List.nil_append, List.append_nil, h2, h3]
    · rename_i hn9 hn0 hn1 hn2 hn3
      obtain ⟨g, l, h1, g1⟩ := oC_of h
      obtain ⟨h2, g2⟩ := yes_of g1
      rw [show (Op.call c).operands = c.operands from rfl] at hv
      subst hv
      rw [target_same (ρ := evl m.G T) fun x hx => rho_map x (Array.mem_toList_iff.2 hx)] at h1
      obtain ⟨v, h', H', h3, h4, h5⟩ := hc _ _ _ _ _ _ hH g2
      refine ⟨v, h', H', ?_, h4, h5⟩
      cases hcal : c.callee with
      | builtin b => first | exact absurd hcal (hn9 _) | exact absurd hcal (hn0 _) | exact absurd hcal (hn1 _) | exact absurd hcal (hn2 _) | exact absurd hcal (hn3 _)
      | value f => simp only [evE, hcal, h1, h2, h3]
      | invoke r mm => simp only [evE, hcal, h1, h2, h3]
  · cases h
end
end Go.Fw
