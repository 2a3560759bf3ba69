/-
  Several texts in one. A run of a closed call: how the tree of blocks stands for memory. No program in sight.
-/
import Derived.Test.YtmcigeebeoobdaaGreatDoorPz02
import Derived.Test.YtmcigeebeoobdaaGreatDoorPz00
import Derived.Laws.CopyRow
import Derived.Laws.StructEq
section
namespace Go.Eva
open Go Go.RowKit Go.Viv

theorem Pz.of_inj : ∀ (f n m : Nat) (g : Nat), 1 ≤ n → 1 ≤ m → n ≤ f → m ≤ g → Pz.of f n = Pz.of g m → n = m
  | 0, n, m, g, hn, _, hf, _, _ => by omega
  | f + 1, n, m, 0, _, hm, _, hg, _ => by omega
  | f + 1, n, m, g + 1, hn, hm, hf, hg, heq => by
    have eb : ∀ k, Nat.ble k 1 = decide (k ≤ 1) := fun k => by
      cases hb : Nat.ble k 1 with
      | true => simp [Nat.le_of_ble_eq_true hb]
      | false =>
        by_cases hk : k ≤ 1
        · rw [Nat.ble_eq_true_of_le hk] at hb; cases hb
        · simp [hk]
    have e1 := eb n
    have e2 := eb m
    have e3 : ∀ k, Nat.beq (k % 2) 0 = decide (k % 2 = 0) := fun k => by
      cases hb : Nat.beq (k % 2) 0 with
      | true => simp [Nat.eq_of_beq_eq_true hb]
      | false => have := Nat.ne_of_beq_eq_false hb; simp [this]
    unfold Pz.of at heq
    rw [e1, e2, e3, e3] at heq
    by_cases c1 : n ≤ 1 <;> by_cases c2 : m ≤ 1 <;> by_cases c3 : n % 2 = 0 <;> by_cases c4 : m % 2 = 0 <;> simp only [c1, c2, c3, c4, decide_true, decide_false] at heq <;> first
      | omega
      | cases heq
      | (injection heq with hq
         have := Pz.of_inj f (n / 2) (m / 2) g (by omega) (by omega) (by omega) (by omega) hq
         omega)
theorem key_inj {n m : Nat} (h : key n = key m) : n = m := by
  have := Pz.of_inj (n + 1) (n + 1) (m + 1) (m + 1) (by omega) (by omega) (by omega) (by omega) h
  omega
section
variable {α : Type}
theorem Tr.get_put_same : ∀ (p : Pz) (t : Tr α) (v : Option α), (t.put p v).get p = v
  | .h, t, v => rfl
  | .o p, t, v => by simp only [Tr.put, Tr.get, Tr.left]; exact Tr.get_put_same p _ v
  | .i p, t, v => by simp only [Tr.put, Tr.get, Tr.right]; exact Tr.get_put_same p _ v
theorem Tr.get_put_ne : ∀ (p q : Pz) (t : Tr α) (v : Option α), p ≠ q → (t.put p v).get q = t.get q
  | .h, .h, _, _, h => absurd rfl h
  | .h, .o _, t, v, _ => rfl
  | .h, .i _, t, v, _ => rfl
  | .o _, .h, t, v, _ => rfl
  | .i _, .h, t, v, _ => rfl
  | .o _, .i _, t, v, _ => rfl
  | .i _, .o _, t, v, _ => rfl
  | .o p, .o q, t, v, h => by simp only [Tr.put, Tr.get, Tr.left]; exact Tr.get_put_ne p q _ v (fun e => h (by rw [e]))
  | .i p, .i q, t, v, h => by simp only [Tr.put, Tr.get, Tr.right]; exact Tr.get_put_ne p q _ v (fun e => h (by rw [e]))
theorem Tr.at_set_same (t : Tr α) (n : Nat) (v : Option α) : (t.set n v).at_ n = v := Tr.get_put_same _ _ _
theorem Tr.at_set_ne (t : Tr α) {n m : Nat} (v : Option α) (h : n ≠ m) : (t.set n v).at_ m = t.at_ m := Tr.get_put_ne _ _ _ _ (fun e => h (key_inj e))
end

/-- Where a block stands in memory; how many cells it has; how many an element of it. -/
structure Ref where
  b : Nat
  sz : Nat
  es : Nat
abbrev Phi := Nat → Option Ref
/-- What is left open: numbers that stand for values. -/
structure Toks where
  v : Nat → Value
  one : ∀ k, (v k).oneCell' = true

mutual
/-- A value of the tree stands for one of memory. -/
inductive VR (ν : Toks) (φ : Phi) : Value → Value → Prop
  | bad (v : Value) : VR ν φ (.chan none) v
  | sym (k : Nat) : VR ν φ (.chan (some k)) (ν.v k)
  | bool (b : Bool) : VR ν φ (.bool b) (.bool b)
  | int (k : IntKind) (n : Int) : VR ν φ (.int k n) (.int k n)
  | string (s : ByteArray) : VR ν φ (.string s) (.string s)
  | ptr0 : VR ν φ (.pointer none) (.pointer none)
  | ptr {B o : Nat} {r : Ref} (h : φ B = some r) : VR ν φ (.pointer (some ⟨B, o, none⟩)) (.pointer (some ⟨r.b, o, none⟩))
  | sl0 : VR ν φ (.slice none 0 0) (.slice none 0 0)
  | slk {B o n c : Nat} {r : Ref} (h : φ B = some r) (hn : n ≤ c) : VR ν φ (.slice (some ⟨B, o, none⟩) n (c + 1)) (.slice (some ⟨r.b, o, none⟩) n c)
  | slu {B o n c : Nat} {r : Ref} (h : φ B = some r) (hn : n + 1 ≤ c) (hc : o + c * r.es ≤ r.sz) : VR ν φ (.slice (some ⟨B, o, none⟩) (n + 1) 0) (.slice (some ⟨r.b, o, none⟩) (n + 1) c)
  | sle {B o o' c : Nat} {r : Ref} (h : φ B = some r) (hc : o' + c * r.es ≤ r.sz) (ho : o = 0 → o' = 0) : VR ν φ (.slice (some ⟨B, o, none⟩) 0 0) (.slice (some ⟨r.b, o', none⟩) 0 c)
  | emp (a : Addr) (c : Nat) : VR ν φ (.slice none 0 1) (.slice (some a) 0 c)
  | map0 : VR ν φ (.map none) (.map none)
  | map {B : Nat} {r : Ref} (h : φ B = some r) : VR ν φ (.map (some B)) (.map (some r.b))
  | func (fn : Fn) {f f' c c' : List Value} (h1 : VRs ν φ f f') (h2 : VRs ν φ c c') : VR ν φ (.func fn ⟨f⟩ ⟨c⟩) (.func fn ⟨f'⟩ ⟨c'⟩)
  | nilFunc : VR ν φ .nilFunc .nilFunc
  | iface (t : TypeId) {v v' : Value} (h : VR ν φ v v') : VR ν φ (.iface t v) (.iface t v')
  | nilIface : VR ν φ .nilIface .nilIface
  | agg {l l' : List Value} (h : VRs ν φ l l') : VR ν φ (.agg ⟨l⟩) (.agg ⟨l'⟩)
  | tuple {l l' : List Value} (h : VRs ν φ l l') : VR ν φ (.tuple ⟨l⟩) (.tuple ⟨l'⟩)
inductive VRs (ν : Toks) (φ : Phi) : List Value → List Value → Prop
  | nil : VRs ν φ [] []
  | cons {v v' : Value} {l l' : List Value} (h : VR ν φ v v') (t : VRs ν φ l l') : VRs ν φ (v :: l) (v' :: l')
end

section
variable {ν : Toks} {φ φ' : Phi}
mutual
theorem VR.ext (hx : ∀ B r, φ B = some r → φ' B = some r) : ∀ {v v' : Value}, VR ν φ v v' → VR ν φ' v v'
  | _, _, .bad v => .bad v
  | _, _, .sym k => .sym k
  | _, _, .bool b => .bool b
  | _, _, .int k n => .int k n
  | _, _, .string s => .string s
  | _, _, .ptr0 => .ptr0
  | _, _, .ptr h => .ptr (hx _ _ h)
  | _, _, .sl0 => .sl0
  | _, _, .slk h hn => .slk (hx _ _ h) hn
  | _, _, .slu h hn hc => .slu (hx _ _ h) hn hc
  | _, _, .sle h hc ho => .sle (hx _ _ h) hc ho
  | _, _, .emp a c => .emp a c
  | _, _, .map0 => .map0
  | _, _, .map h => .map (hx _ _ h)
  | _, _, .func fn h1 h2 => .func fn (VRs.ext hx h1) (VRs.ext hx h2)
  | _, _, .nilFunc => .nilFunc
  | _, _, .iface t h => .iface t (VR.ext hx h)
  | _, _, .nilIface => .nilIface
  | _, _, .agg h => .agg (VRs.ext hx h)
  | _, _, .tuple h => .tuple (VRs.ext hx h)
theorem VRs.ext (hx : ∀ B r, φ B = some r → φ' B = some r) : ∀ {l l' : List Value}, VRs ν φ l l' → VRs ν φ' l l'
  | _, _, .nil => .nil
  | _, _, .cons h t => .cons (VR.ext hx h) (VRs.ext hx t)
end

theorem VRs.length {l l' : List Value} (h : VRs ν φ l l') : l'.length = l.length := by
  induction l generalizing l' with
  | nil => cases h; rfl
  | cons v l ih => cases h with | cons h t => simp [ih t]
theorem VRs.get {l l' : List Value} (h : VRs ν φ l l') {i : Nat} {v : Value} (hi : l[i]? = some v) : ∃ v', l'[i]? = some v' ∧ VR ν φ v v' := by
  induction l generalizing l' i with
  | nil => simp at hi
  | cons x l ih =>
    cases h with
    | cons h t =>
      cases i with
      | zero => simp at hi; subst hi; exact ⟨_, by simp, h⟩
      | succ i => simp at hi; obtain ⟨v', h1, h2⟩ := ih t hi; exact ⟨v', by simpa using h1, h2⟩
theorem VRs.append {l l' k k' : List Value} (h : VRs ν φ l l') (h' : VRs ν φ k k') : VRs ν φ (l ++ k) (l' ++ k') := by
  induction l generalizing l' with
  | nil => cases h; exact h'
  | cons v l ih => cases h with | cons h t => exact .cons h (ih t)
theorem VRs.take {l l' : List Value} (h : VRs ν φ l l') (n : Nat) : VRs ν φ (l.take n) (l'.take n) := by
  induction l generalizing l' n with
  | nil => cases h; simp; exact .nil
  | cons v l ih => cases h with | cons h t => cases n with
    | zero => simp; exact .nil
    | succ n => simp; exact .cons h (ih t n)
theorem VRs.drop {l l' : List Value} (h : VRs ν φ l l') (n : Nat) : VRs ν φ (l.drop n) (l'.drop n) := by
  induction l generalizing l' n with
  | nil => cases h; simp; exact .nil
  | cons v l ih => cases h with | cons h t => cases n with
    | zero => simp; exact .cons h t
    | succ n => simp; exact ih t n
theorem VRs.map {ρ ρ' : Operand → Value} : ∀ (l : List Operand), (∀ x ∈ l, VR ν φ (ρ x) (ρ' x)) → VRs ν φ (l.map ρ) (l.map ρ')
  | [], _ => .nil
  | x :: l, h => .cons (h x (by simp)) (VRs.map l fun y hy => h y (by simp [hy]))
theorem VRs.one {v v' : Value} (h : VR ν φ v v') : VRs ν φ [v] [v'] := .cons h .nil

mutual
theorem VR.plain : ∀ {v v' : Value}, VR ν φ v v' → plainV v = true → v' = v
  | _, _, .bad v, h => by simp [plainV] at h
  | _, _, .sym k, h => by simp [plainV] at h
  | _, _, .bool b, _ => rfl
  | _, _, .int k n, _ => rfl
  | _, _, .string s, _ => rfl
  | _, _, .ptr0, _ => rfl
  | _, _, .ptr h, hp => by simp [plainV] at hp
  | _, _, .sl0, _ => rfl
  | _, _, .slk h hn, hp => by simp [plainV] at hp
  | _, _, .slu h hn hc, hp => by simp [plainV] at hp
  | _, _, .sle h hc ho, hp => by simp [plainV] at hp
  | _, _, .emp a c, hp => by simp [plainV] at hp
  | _, _, .map0, _ => rfl
  | _, _, .map h, hp => by simp [plainV] at hp
  | _, _, .func fn h1 h2, hp => by
    simp only [plainV, Bool.and_eq_true] at hp
    rw [VRs.plain h1 hp.1, VRs.plain h2 hp.2]
  | _, _, .nilFunc, _ => rfl
  | _, _, .iface t h, hp => by
    simp only [plainV] at hp
    rw [VR.plain h hp]
  | _, _, .nilIface, _ => rfl
  | _, _, .agg h, hp => by
    simp only [plainV] at hp
    rw [VRs.plain h hp]
  | _, _, .tuple h, hp => by
    simp only [plainV] at hp
    rw [VRs.plain h hp]
theorem VRs.plain : ∀ {l l' : List Value}, VRs ν φ l l' → plainL l = true → l' = l
  | _, _, .nil, _ => rfl
  | _, _, .cons h t, hp => by
    simp only [plainL, Bool.and_eq_true] at hp
    rw [VR.plain h hp.1, VRs.plain t hp.2]
end
mutual
theorem VR.refl : ∀ (v : Value), plainV v = true → VR ν φ v v
  | .bool b, _ => .bool b
  | .int k n, _ => .int k n
  | .float k n, h => by simp [plainV] at h
  | .complex k a b, h => by simp [plainV] at h
  | .string s, _ => .string s
  | .pointer none, _ => .ptr0
  | .pointer (some a), h => by simp [plainV] at h
  | .slice none 0 0, _ => .sl0
  | .slice none (n + 1) c, h => by simp [plainV] at h
  | .slice none 0 (c + 1), h => by simp [plainV] at h
  | .slice (some a) n c, h => by simp [plainV] at h
  | .map none, _ => .map0
  | .map (some r), h => by simp [plainV] at h
  | .chan r, h => by simp [plainV] at h
  | .func fn ⟨f⟩ ⟨c⟩, h => by
    simp only [plainV, Bool.and_eq_true] at h
    exact .func fn (VRs.refl f h.1) (VRs.refl c h.2)
  | .nilFunc, _ => .nilFunc
  | .iface t v, h => by
    simp only [plainV] at h
    exact .iface t (VR.refl v h)
  | .nilIface, _ => .nilIface
  | .agg ⟨l⟩, h => by
    simp only [plainV] at h
    exact .agg (VRs.refl l h)
  | .tuple ⟨l⟩, h => by
    simp only [plainV] at h
    exact .tuple (VRs.refl l h)
theorem VRs.refl : ∀ (l : List Value), plainL l = true → VRs ν φ l l
  | [], _ => .nil
  | v :: l, h => by
    simp only [plainL, Bool.and_eq_true] at h
    exact .cons (VR.refl v h.1) (VRs.refl l h.2)
end
theorem VR.int_ {k : IntKind} {n : Int} {v : Value} (h : VR ν φ (.int k n) v) : v = .int k n := by cases h; rfl
theorem VR.undef_ : VR ν φ undef undef := .tuple .nil
theorem one_cells {v : Value} (h : v.oneCell' = true) : v.cells = #[v] := by
  cases v <;> first | rfl | (simp [Value.oneCell'] at h)
theorem VR.cells {v v' : Value} (h : VR ν φ v v') (h1 : (cellsL v).all oneB = true) : VRs ν φ (cellsL v) v'.cells.toList := by
  cases h <;> first
    | (rw [one_cells (ν.one _)]; exact .one (.sym _))
    | (simp [cellsL, oneB] at h1; done)
    | exact .one (by constructor <;> assumption)
    | (simp only [cellsL, Value.cells]; assumption)
    | exact .one (.func _ ‹_› ‹_›)
theorem VR.one {v v' : Value} (h : VR ν φ v v') (h1 : oneB v = true) : v'.oneCell' = true := by
  cases h <;> first | exact ν.one _ | (simp [oneB] at h1; done) | simp [Value.oneCell']
theorem VRs.one_ {l l' : List Value} (h : VRs ν φ l l') (h1 : l.all oneB = true) : ∀ v ∈ l', v.oneCell' = true := by
  induction l generalizing l' with
  | nil => cases h; simp
  | cons v l ih =>
    cases h with
    | cons h t =>
      simp only [List.all_cons, Bool.and_eq_true] at h1
      intro u hu
      rcases List.mem_cons.1 hu with rfl | hu
      · exact h.one h1.1
      · exact ih t h1.2 u hu
end

/-- Entries of a map: keys as they are. -/
inductive ER (ν : Toks) (φ : Phi) : List MapEntry → List MapEntry → Prop
  | nil : ER ν φ [] []
  | cons {k v v' : Value} {n : Nat} {l l' : List MapEntry} (h : VR ν φ v v') (t : ER ν φ l l') : ER ν φ (⟨k, v, n⟩ :: l) (⟨k, v', n⟩ :: l')

/-- Where a run begins: a world, the old blocks that it may write, and what a structure is in memory. -/
structure Begin where
  w : World
  may : Nat → Prop
  ri : Rs → Phi → World → Ref → (Nat → Prop) → Prop
  riF : ∀ {x φ w w' b F}, ri x φ w b F → (∀ k, F k → w'.heap[k]? = w.heap[k]?) → w.heap.size ≤ w'.heap.size → ri x φ w' b F
  riX : ∀ {x} {φ φ' : Phi} {w b F}, (∀ B r, φ B = some r → φ' B = some r) → ri x φ w b F → ri x φ' w b F
  vw : ∀ {x φ w r F}, ri x φ w r F → ∀ i v, (viewRs x)[i]? = some v → w.cell? ⟨r.b, i, none⟩ = some v
theorem viewRs_plain (x : Rs) : plainL (viewRs x) = true := by cases x <;> rfl
def Begin.own (W : Begin) (b : Nat) : Prop := W.may b ∨ W.w.heap.size ≤ b
/-- A block of the tree stands for one of memory. -/
inductive ObjR (P : Program) (own : Nat → Prop) (ν : Toks) (φ : Phi) (w : World) (r : Ref) : AObj → Prop
  | cells {c : List Value} {e e' : TypeId} {rw : Bool} {cs : Array Value} {fr : Nat × Nat} (h : w.heap[r.b]? = some (.cells cs e' fr)) (hs : cs.size = r.sz)
      (hrw : rw = true → e' = e ∧ sizeB P e = some r.es ∧ own r.b ∧ fr = (0, 0)) (hc : VRs ν φ c (cs.toList.take c.length)) : ObjR P own ν φ w r (.cells c e rw)
  | map {es : List MapEntry} {es' : Array MapEntry} {clk : Nat} (h : w.heap[r.b]? = some (.map es' clk)) (hb : own r.b) (he : ER ν φ es es'.toList) : ObjR P own ν φ w r (.map es clk)
  | res (x : Rs) : ObjR P own ν φ w r (.res x)
def isRes : Option AObj → Bool
  | some (.res _) => true
  | _ => false
/-- The structures among the tree's blocks, each with the blocks of memory that are its own. -/
structure ResR (W0 : Begin) (φ : Phi) (t : Tr AObj) (w : World) (fp : Nat → Nat → Prop) : Prop where
  ri : ∀ B r x, φ B = some r → t.at_ B = some (.res x) → W0.ri x φ w r (fp B)
  own : ∀ B r k, φ B = some r → isRes (t.at_ B) = true → fp B k → W0.own k ∧ k < w.heap.size
  sep : ∀ B B' r r' k, φ B = some r → φ B' = some r' → isRes (t.at_ B) = true → isRes (t.at_ B') = true → fp B k → fp B' k → B = B'
  far : ∀ B B' r r', φ B = some r → φ B' = some r' → isRes (t.at_ B) = true → (t.at_ B').isSome = true → isRes (t.at_ B') = false → ¬ fp B r'.b

/-- The tree stands for memory. G: how many of the program's variables there are. -/
structure Rw (P : Program) (G : Nat) (W0 : Begin) (ν : Toks) (φ : Phi) (s : Hp) (w : World) : Prop where
  frame : Fr W0.may W0.w w
  glob : ∀ g, g < G → ∃ r, φ g = some r ∧ r.b = g
  fresh : ∀ B, s.next ≤ B → φ B = none
  bound : ∀ B r, φ B = some r → r.b < w.heap.size
  obj : ∀ B r o, φ B = some r → s.t.at_ B = some o → ObjR P W0.own ν φ w r o
  inj : ∀ B B' r r', (s.t.at_ B).isSome = true → (s.t.at_ B').isSome = true → isRes (s.t.at_ B) = false → isRes (s.t.at_ B') = false → φ B = some r → φ B' = some r' → r.b = r'.b → B = B'
  res : ∃ fp, ResR W0 φ s.t w fp
/-- Nothing has turned below n. -/
def Ext (n : Nat) (φ φ' : Phi) : Prop := ∀ B, B < n → φ' B = φ B
theorem Ext.refl (n : Nat) (φ : Phi) : Ext n φ φ := fun _ _ => rfl
theorem Ext.trans {n m : Nat} {φ φ' φ'' : Phi} (h : Ext n φ φ') (h' : Ext m φ' φ'') (hm : n ≤ m) : Ext n φ φ'' := fun B hB => (h' B (by omega)).trans (h B hB)
section
variable {P : Program} {G : Nat} {W0 : Begin} {ν : Toks} {φ φ' : Phi} {s : Hp} {w w' : World}
theorem Rw.up (hR : Rw P G W0 ν φ s w) {n : Nat} (hn : s.next ≤ n) (h : Ext n φ φ') : ∀ B r, φ B = some r → φ' B = some r := fun B r hB => by
  rcases Nat.lt_or_ge B n with hlt | hge
  · rw [h B hlt]; exact hB
  · rw [hR.fresh B (by omega)] at hB; cases hB
theorem ER.ext {es es' : List MapEntry} (hx : ∀ B r, φ B = some r → φ' B = some r) (h : ER ν φ es es') : ER ν φ' es es' := by
  induction h with
  | nil => exact .nil
  | cons h _ ih => exact .cons (h.ext hx) ih
theorem ObjR.ext {own : Nat → Prop} {r : Ref} {o : AObj} (hx : ∀ B r, φ B = some r → φ' B = some r) (h : ObjR P own ν φ w r o) : ObjR P own ν φ' w r o := by
  cases h with
  | cells h hs hrw hc => exact .cells h hs hrw (hc.ext hx)
  | map h hb he => exact .map h hb (he.ext hx)
  | res x => exact .res x
theorem ObjR.far {own : Nat → Prop} {r : Ref} {o : AObj} (hb : isRes (some o) = false → w'.heap[r.b]? = w.heap[r.b]?) (h : ObjR P own ν φ w r o) : ObjR P own ν φ w' r o := by
  cases h with
  | cells h hs hrw hc => exact .cells ((hb rfl).trans h) hs hrw hc
  | map h hb' he => exact .map ((hb rfl).trans h) hb' he
  | res x => exact .res x
theorem res_at {o : Option AObj} (h : isRes o = true) : ∃ x, o = some (.res x) := by
  match o, h with
  | some (.res x), _ => exact ⟨x, rfl⟩
/-- One of the tree's blocks is written. -/
theorem Rw.upd (hR : Rw P G W0 ν φ s w) {B : Nat} {r : Ref} (hφ : φ B = some r) (halive : (s.t.at_ B).isSome = true) (hn : isRes (s.t.at_ B) = false) (hf : Fr W0.may W0.w w') (hz : w'.heap.size = w.heap.size)
    (hb : ∀ k, k ≠ r.b → w'.heap[k]? = w.heap[k]?) (o : AObj) (hno : isRes (some o) = false) (ho : ObjR P W0.own ν φ w' r o) : Rw P G W0 ν φ ⟨s.t.set B (some o), s.next⟩ w' := by
  have hal : ∀ X, ((s.t.set B (some o)).at_ X).isSome = true → (s.t.at_ X).isSome = true := fun X hX => by
    by_cases h : B = X
    · subst h; exact halive
    · rwa [Tr.at_set_ne _ _ h] at hX
  have hrs : ∀ X, isRes ((s.t.set B (some o)).at_ X) = isRes (s.t.at_ X) := fun X => by
    by_cases h : B = X
    · subst h; rw [Tr.at_set_same, hn, hno]
    · rw [Tr.at_set_ne _ _ h]
  refine ⟨hf, hR.glob, hR.fresh, fun X r' h => by rw [hz]; exact hR.bound X r' h, fun X r' o' h h' => ?_, fun X X' r1 r2 h1 h2 h3 h4 => hR.inj X X' r1 r2 (hal X h1) (hal X' h2) (by rw [← hrs]; exact h3) (by rw [← hrs]; exact h4), ?_⟩
  · by_cases hX : B = X
    · subst hX
      rw [Tr.at_set_same] at h'
      cases h'
      rw [hφ] at h; cases h
      exact ho
    · rw [Tr.at_set_ne _ _ hX] at h'
      exact (hR.obj X r' o' h h').far (fun hno' => hb _ fun e => hX (hR.inj B X r r' halive (by rw [h']; rfl) hn (by rw [h']; exact hno') hφ h e.symm))
  · obtain ⟨fp, q1, q2, q3, q4⟩ := hR.res
    refine ⟨fp, fun X r' x h h' => ?_, fun X r' k h h' hk => ?_, fun X X' r1 r2 k h1 h2 h3 h4 => ?_, fun X X' r1 r2 h1 h2 h3 h4 h5 => ?_⟩
    · by_cases hX : B = X
      · subst hX; rw [Tr.at_set_same] at h'; cases h'; cases hno
      · rw [Tr.at_set_ne _ _ hX] at h'
        refine W0.riF (q1 X r' x h h') (fun k hk => hb k (fun e => ?_)) (by rw [hz]; exact Nat.le_refl _)
        subst e
        exact q4 X B r' r h hφ (by rw [h']; rfl) halive hn hk
    · rw [hz]; exact q2 X r' k h (by rw [← hrs]; exact h') hk
    · exact q3 X X' r1 r2 k h1 h2 (by rw [← hrs]; exact h3) (by rw [← hrs]; exact h4)
    · exact q4 X X' r1 r2 h1 h2 (by rw [← hrs]; exact h3) (hal X' h4) (by rw [← hrs]; exact h5)
/-- A block that nothing in memory stands for yet. -/
theorem Rw.ghost (hR : Rw P G W0 ν φ s w) {B : Nat} (hB : φ B = none) (o : Option AObj) {n : Nat} (hn : s.next ≤ n) : Rw P G W0 ν φ ⟨s.t.set B o, n⟩ w := by
  have hne : ∀ X r, φ X = some r → B ≠ X := fun X r h e => by subst e; rw [hB] at h; cases h
  have hat : ∀ X r, φ X = some r → (s.t.set B o).at_ X = s.t.at_ X := fun X r h => Tr.at_set_ne _ _ (hne X r h)
  refine ⟨hR.frame, hR.glob, fun X hX => hR.fresh X (Nat.le_trans hn hX), hR.bound, fun X r o' h h' => ?_, fun X X' r r' h1 h2 h3 h4 h5 h6 h7 => ?_, ?_⟩
  · rw [hat X r h] at h'; exact hR.obj X r o' h h'
  · rw [hat X r h5] at h1 h3
    rw [hat X' r' h6] at h2 h4
    exact hR.inj X X' r r' h1 h2 h3 h4 h5 h6 h7
  · obtain ⟨fp, q1, q2, q3, q4⟩ := hR.res
    exact ⟨fp, fun X r x h h' => q1 X r x h (by rw [← hat X r h]; exact h'), fun X r k h h' => q2 X r k h (by rw [← hat X r h]; exact h'), fun X X' r1 r2 k h1 h2 h3 h4 => q3 X X' r1 r2 k h1 h2 (by rw [← hat X r1 h1]; exact h3) (by rw [← hat X' r2 h2]; exact h4),
      fun X X' r1 r2 h1 h2 h3 h4 h5 => q4 X X' r1 r2 h1 h2 (by rw [← hat X r1 h1]; exact h3) (by rw [← hat X' r2 h2]; exact h4) (by rw [← hat X' r2 h2]; exact h5)⟩
theorem Rw.more (hR : Rw P G W0 ν φ s w) {n : Nat} (hn : s.next ≤ n) : Rw P G W0 ν φ ⟨s.t, n⟩ w :=
  ⟨hR.frame, hR.glob, fun X hX => hR.fresh X (Nat.le_trans hn hX), hR.bound, hR.obj, hR.inj, hR.res⟩
/-- A block of the tree is thrown away. -/
theorem Rw.kill (hR : Rw P G W0 ν φ s w) (B : Nat) : Rw P G W0 ν φ ⟨s.t.set B none, s.next⟩ w := by
  have hal : ∀ X, ((s.t.set B none).at_ X).isSome = true → (s.t.set B none).at_ X = s.t.at_ X := fun X hX => by
    by_cases h : B = X
    · subst h; rw [Tr.at_set_same] at hX; cases hX
    · rw [Tr.at_set_ne _ _ h]
  have hsome : ∀ o : Option AObj, isRes o = true → o.isSome = true := fun o h => by obtain ⟨x, rfl⟩ := res_at h; rfl
  refine ⟨hR.frame, hR.glob, hR.fresh, hR.bound, fun X r o h h' => hR.obj X r o h (by rw [← hal X (by simp only at h'; rw [h']; rfl)]; exact h'), fun X X' r1 r2 h1 h2 h3 h4 => ?_, ?_⟩
  · have e1 := hal X h1
    have e2 := hal X' h2
    simp only at h1 h2 h3 h4
    rw [e1] at h1 h3
    rw [e2] at h2 h4
    exact hR.inj X X' r1 r2 h1 h2 h3 h4
  · obtain ⟨fp, q1, q2, q3, q4⟩ := hR.res
    exact ⟨fp, fun X r x h h' => q1 X r x h (by rw [← hal X (by rw [h']; rfl)]; exact h'), fun X r k h h' => q2 X r k h (by rw [← hal X (hsome _ h')]; exact h'),
      fun X X' r1 r2 k h1 h2 h3 h4 => q3 X X' r1 r2 k h1 h2 (by rw [← hal X (hsome _ h3)]; exact h3) (by rw [← hal X' (hsome _ h4)]; exact h4),
      fun X X' r1 r2 h1 h2 h3 h4 h5 => q4 X X' r1 r2 h1 h2 (by rw [← hal X (hsome _ h3)]; exact h3) (by rw [← hal X' h4]; exact h4) (by rw [← hal X' h4]; exact h5)⟩
theorem Rw.drew (hR : Rw P G W0 ν φ s w) : Rw P G W0 ν φ s w.drew := by
  refine ⟨hR.frame.drew, hR.glob, hR.fresh, hR.bound, fun B r o h h' => ObjR.far (w := w) (fun _ => rfl) (hR.obj B r o h h'), hR.inj, ?_⟩
  obtain ⟨fp, q1, q2, q3, q4⟩ := hR.res
  exact ⟨fp, fun X r x h h' => W0.riF (q1 X r x h h') (fun _ _ => rfl) (Nat.le_refl _), q2, q3, q4⟩
/-- phi with a block more. -/
def Phi.add (φ : Phi) (B : Nat) (r : Ref) : Phi := fun X => if X = B then some r else φ X
theorem Phi.add_same (φ : Phi) (B : Nat) (r : Ref) : φ.add B r B = some r := by simp [Phi.add]
theorem Phi.add_ne (φ : Phi) {B X : Nat} (r : Ref) (h : X ≠ B) : φ.add B r X = φ X := by simp [Phi.add, h]
theorem Phi.add_up (φ : Phi) {B : Nat} (r : Ref) (h : φ B = none) : ∀ X r', φ X = some r' → φ.add B r X = some r' := fun X r' hX => by
  by_cases e : X = B
  · subst e; rw [h] at hX; cases hX
  · rw [Phi.add_ne _ _ e]; exact hX
/-- A new block of memory: for one of the tree that nothing stood for. -/
theorem Rw.born (hR : Rw P G W0 ν φ s w) {B : Nat} (hB : φ B = none) (hlt : B < s.next) (hG : G ≤ B) {o : AObj} (hno : isRes (some o) = false) (ho : s.t.at_ B = some o) (x : Obj) {sz es : Nat}
    (hx : ObjR P W0.own ν (φ.add B ⟨w.heap.size, sz, es⟩) (w.alloc x) ⟨w.heap.size, sz, es⟩ o) : Rw P G W0 ν (φ.add B ⟨w.heap.size, sz, es⟩) s (w.alloc x) := by
  have hup := φ.add_up ⟨w.heap.size, sz, es⟩ hB
  refine ⟨hR.frame.alloc _, fun g hg => ?_, fun X hX => ?_, fun X r h => ?_, fun X r o' h h' => ?_, fun X X' r r' h1 h2 h3' h4' h3 h4 h5 => ?_, ?_⟩
  · obtain ⟨r, h1, h2⟩ := hR.glob g hg
    exact ⟨r, hup _ _ h1, h2⟩
  · rw [Phi.add_ne _ _ (by omega)]; exact hR.fresh X hX
  · by_cases e : X = B
    · subst e; rw [Phi.add_same] at h; cases h; simp
    · rw [Phi.add_ne _ _ e] at h; have := hR.bound X r h; simp; omega
  · by_cases e : X = B
    · subst e
      rw [Phi.add_same] at h; cases h
      rw [ho] at h'; cases h'
      exact hx
    · rw [Phi.add_ne _ _ e] at h
      exact ((hR.obj X r o' h h').far (fun _ => Below.heap_alloc w x r.b (hR.bound X r h))).ext hup
  · by_cases e : X = B <;> by_cases e' : X' = B
    · rw [e, e']
    · subst e
      rw [Phi.add_same] at h3; cases h3
      rw [Phi.add_ne _ _ e'] at h4
      have := hR.bound X' r' h4
      simp only at h5
      omega
    · subst e'
      rw [Phi.add_same] at h4; cases h4
      rw [Phi.add_ne _ _ e] at h3
      have := hR.bound X r h3
      simp only at h5
      omega
    · rw [Phi.add_ne _ _ e] at h3
      rw [Phi.add_ne _ _ e'] at h4
      exact hR.inj X X' r r' h1 h2 h3' h4' h3 h4 h5
  · obtain ⟨fp, q1, q2, q3, q4⟩ := hR.res
    have hnB : ∀ X, isRes (s.t.at_ X) = true → X ≠ B := fun X h e => by rw [e, ho, hno] at h; cases h
    refine ⟨fp, fun X r' y h h' => ?_, fun X r' k h h' hk => ?_, fun X X' r1 r2 k h1 h2 h3 h4 => ?_, fun X X' r1 r2 h1 h2 h3 h4 h5 => ?_⟩
    · rw [Phi.add_ne _ _ (hnB X (by rw [h']; rfl))] at h
      exact W0.riX hup (W0.riF (q1 X r' y h h') (fun k hk => Below.heap_alloc w x k (q2 X r' k h (by rw [h']; rfl) hk).2) (show w.heap.size ≤ (w.alloc x).heap.size by simp))
    · rw [Phi.add_ne _ _ (hnB X h')] at h
      have := q2 X r' k h h' hk
      exact ⟨this.1, by simp; omega⟩
    · rw [Phi.add_ne _ _ (hnB X h3)] at h1
      rw [Phi.add_ne _ _ (hnB X' h4)] at h2
      exact q3 X X' r1 r2 k h1 h2 h3 h4
    · rw [Phi.add_ne _ _ (hnB X h3)] at h1
      by_cases e : X' = B
      · subst e
        rw [Phi.add_same] at h2; cases h2
        intro hk
        have := (q2 X r1 _ h1 h3 hk).2
        simp only at this
        omega
      · rw [Phi.add_ne _ _ e] at h2
        exact q4 X X' r1 r2 h1 h2 h3 h4 h5
end
end Go.Eva
end

/-
  A run of a closed call: what only reads. No program in sight.
-/
section
set_option linter.unusedSimpArgs false
set_option linter.unusedVariables false
namespace Go.Eva
open Go Go.RowKit Go.Viv

theorem has_spec {α : Type} : ∀ {l : List α} {n : Nat}, has l n = true → n ≤ l.length
  | _, 0, _ => Nat.zero_le _
  | [], n + 1, h => by simp [has] at h
  | _ :: l, n + 1, h => by simp only [has] at h; have := has_spec h; simp; omega
theorem ble_iff {a b : Nat} (h : Nat.ble a b = true) : a ≤ b := Nat.le_of_ble_eq_true h
theorem blt_iff {a b : Nat} (h : Nat.blt a b = true) : a < b := Nat.le_of_ble_eq_true h
theorem beq_iff {a b : Nat} (h : Nat.beq a b = true) : a = b := Nat.eq_of_beq_eq_true h

section
variable {P : Program} {w : World}
theorem run_size {t : TypeId} {n : Nat} (h : sizeB P t = some n) : (sizeOf t).run P w = .ok n w := by
  unfold sizeB at h
  cases hi : P.info? t with
  | none => rw [hi] at h; cases h
  | some i => rw [hi] at h; simp at h; simp [sizeOf, typeInfo, hi, h]
theorem run_agg {t : TypeId} {b : Bool} (h : isAggB P t = some b) : (isAgg t).run P w = .ok b w := by
  unfold isAggB at h
  cases hu : P.underlying t with
  | none => rw [hu] at h; cases h
  | some d => rw [hu] at h; simp at h; simp only [isAgg, Sem.run_bind, run_underlying hu, Result.andThen_ok]; cases d <;> simp_all
theorem run_zero {t : TypeId} {z : List Value} (h : zeroB P t = some z) : ∃ v, (zeroValue t).run P w = .ok v w ∧ v.cells.toList = z := by
  unfold zeroB at h
  cases hi : P.info? t with
  | none => rw [hi] at h; cases h
  | some i =>
    rw [hi] at h
    simp only at h
    cases hz : i.zero with
    | none => rw [hz] at h; cases h
    | some v => rw [hz] at h; simp at h; exact ⟨v, by simp [zeroValue, typeInfo, hi, hz], h⟩
theorem pureRun_spec {α : Type} : ∀ (s : Sem α) {a : α}, pureRun P s = some a → s.run P w = .ok a w
  | .pure a, _, h => by simp only [pureRun, Option.some.injEq] at h; subst h; rfl
  | .program k, a, h => by simp only [pureRun] at h; simp only [Sem.run]; exact pureRun_spec (k P) h
  | .load _ _ _, _, h => by simp [pureRun] at h
  | .store _ _ _ _, _, h => by simp [pureRun] at h
  | .new _ _, _, h => by simp [pureRun] at h
  | .shape _ _, _, h => by simp [pureRun] at h
  | .freeze _ _ _, _, h => by simp [pureRun] at h
  | .frozen _ _, _, h => by simp [pureRun] at h
  | .getObj _ _, _, h => by simp [pureRun] at h
  | .setObj _ _ _, _, h => by simp [pureRun] at h
  | .choose _ _, _, h => by simp [pureRun] at h
  | .sys _ _, _, h => by simp [pureRun] at h
  | .mark _ _, _, h => by simp [pureRun] at h
  | .halt _, _, h => by simp [pureRun] at h
theorem onlyPlain_spec {v u : Value} (h : onlyPlain v = some u) : u = v ∧ plainV v = true := by
  unfold onlyPlain at h
  cases hp : plainV v <;> rw [hp] at h <;> simp at h
  exact ⟨h.symm, rfl⟩
theorem semV_spec {ν : Toks} {φ : Phi} {s : Sem Value} {v : Value} (h : semV s = some v) : s = .pure v ∧ VR ν φ v v := by
  cases s <;> simp only [semV] at h <;> try cases h
  obtain ⟨rfl, hp⟩ := onlyPlain_spec h
  exact ⟨rfl, VR.refl _ hp⟩
theorem runV_spec {ν : Toks} {φ : Phi} {s : Sem Value} {v : Value} (h : runV P s = some v) : s.run P w = .ok v w ∧ VR ν φ v v := by
  unfold runV at h
  cases hp : pureRun P s with
  | none => rw [hp] at h; cases h
  | some u =>
    rw [hp] at h
    obtain ⟨rfl, hq⟩ := onlyPlain_spec h
    exact ⟨pureRun_spec s hp, VR.refl _ hq⟩
end

section
variable {P : Program} {G : Nat} {W0 : Begin} {ν : Toks} {φ : Phi} {s : Hp} {w : World}

theorem Rw.cells_ (hR : Rw P G W0 ν φ s w) {B : Nat} {r : Ref} {c : List Value} {e : TypeId} {rw_ : Bool} (hφ : φ B = some r) (ht : s.t.at_ B = some (.cells c e rw_)) :
    ∃ cs e' fr, w.heap[r.b]? = some (.cells cs e' fr) ∧ cs.size = r.sz ∧ (rw_ = true → e' = e ∧ sizeB P e = some r.es ∧ W0.own r.b ∧ fr = (0, 0)) ∧ VRs ν φ c (cs.toList.take c.length) ∧ c.length ≤ cs.size := by
  cases hR.obj B r _ hφ ht with
  | cells h hs hrw hc =>
    refine ⟨_, _, _, h, hs, hrw, hc, ?_⟩
    have := hc.length
    simp at this
    omega
theorem Rw.cell (hR : Rw P G W0 ν φ s w) {B : Nat} {r : Ref} {c : List Value} {e : TypeId} {rw_ : Bool} (hφ : φ B = some r) (ht : s.t.at_ B = some (.cells c e rw_)) {i : Nat} {v : Value} (hi : c[i]? = some v) :
    ∃ v', w.cell? ⟨r.b, i, none⟩ = some v' ∧ VR ν φ v v' := by
  obtain ⟨cs, e', fr, h, hs, hrw, hc, hl⟩ := hR.cells_ hφ ht
  obtain ⟨v', h1, h2⟩ := hc.get hi
  refine ⟨v', ?_, h2⟩
  rw [cell_of_row w r.b i cs e' fr h]
  have : i < c.length := (List.getElem?_eq_some_iff.1 hi).1
  rw [List.getElem?_take_of_lt this] at h1
  simpa using h1
theorem add_off (b o i : Nat) : (⟨b, o, none⟩ : Addr).add i = ⟨b, o + i, none⟩ := by unfold Addr.add; split <;> simp_all
theorem Rw.row (hR : Rw P G W0 ν φ s w) {B : Nat} {r : Ref} {c : List Value} {e : TypeId} {rw_ : Bool} (hφ : φ B = some r) (ht : s.t.at_ B = some (.cells c e rw_)) {o n : Nat} {l : List Value} (hl : readCells c o n = some l) :
    ∃ l', (∀ w2 : World, w2.heap = w.heap → (loadCells ⟨r.b, o, none⟩ n).run P w2 = .ok ⟨l'⟩ w2) ∧ VRs ν φ l l' ∧ l.length = n := by
  unfold readCells at hl
  cases hh : has (c.drop o) n with
  | false => rw [hh] at hl; cases hl
  | true =>
    rw [hh] at hl
    simp only [Option.some.injEq] at hl
    subst hl
    have hn := has_spec hh
    obtain ⟨cs, e', fr, h, hs, hrw, hc, hle⟩ := hR.cells_ hφ ht
    have hv := (hc.drop o).take n
    have hlen := hv.length
    have hl2 : ((c.drop o).take n).length = n := by simp at hn ⊢; omega
    refine ⟨_, fun w2 hw2 => ?_, hv, hl2⟩
    have := run_loadCells_list (P := P) w2 ⟨r.b, o, none⟩ (((cs.toList.take c.length).drop o).take n) (fun j v hj => by
      rw [add_off, cell_of_row w2 r.b (o + j) cs e' fr (by rw [hw2]; exact h)]
      have hjn : j < n := by
        have := (List.getElem?_eq_some_iff.1 hj).1
        simp at this; omega
      rw [List.getElem?_take_of_lt hjn, List.getElem?_drop] at hj
      have h3 : o + j < c.length := by simp at hn; omega
      rw [List.getElem?_take_of_lt h3] at hj
      simpa using hj)
    rw [hlen, hl2] at this
    simpa using this
theorem load_sound (hR : Rw P G W0 ν φ s w) {t : TypeId} {v v' u : Value} (hv : VR ν φ v v') (h : loadB P s.t t v = some u) : ∃ u', (Instr.loadAt t v').run P w = .ok u' w ∧ VR ν φ u u' := by
  cases hv <;> simp only [loadB] at h <;> try cases h
  rename_i B o r hφ
  cases ht : s.t.at_ B with
  | none => rw [ht] at h; cases h
  | some ob =>
    rw [ht] at h
    cases ob with
    | map es clk => cases h
    | res x =>
      simp only at h
      obtain ⟨fp, q1, _⟩ := hR.res
      have hvw := W0.vw (q1 B r x hφ ht)
      cases ha : isAggB P t with
      | none => rw [ha] at h; cases h
      | some b =>
        rw [ha] at h
        have hra := run_agg (w := w) ha
        cases b with
        | true =>
          simp only at h
          cases hz : sizeB P t with
          | none => rw [hz] at h; cases h
          | some n =>
            rw [hz] at h
            simp only [Option.map_eq_some_iff] at h
            obtain ⟨l, hl, rfl⟩ := h
            unfold readCells at hl
            cases hh : has ((viewRs x).drop o) n with
            | false => rw [hh] at hl; cases hl
            | true =>
              rw [hh] at hl
              simp only [Option.some.injEq] at hl
              subst hl
              have hn := has_spec hh
              have hlen : (((viewRs x).drop o).take n).length = n := by simp at hn ⊢; omega
              have := run_loadCells_list (P := P) w ⟨r.b, o, none⟩ (((viewRs x).drop o).take n) (fun j v hj => by
                rw [add_off]
                have hjn : j < n := by
                  have := (List.getElem?_eq_some_iff.1 hj).1
                  simp at this; omega
                rw [List.getElem?_take_of_lt hjn, List.getElem?_drop] at hj
                exact hvw _ _ hj)
              rw [hlen] at this
              refine ⟨.agg ⟨((viewRs x).drop o).take n⟩, by simp [Instr.loadAt, Instr.sureAddr, loadVar, hra, run_size (w := w) hz, this], .agg (((VRs.refl _ (viewRs_plain x)).drop o).take n)⟩
        | false =>
          simp only at h
          have h1 := hvw _ _ h
          refine ⟨u, by simp [Instr.loadAt, Instr.sureAddr, loadVar, hra, load, Sem.run, h1], ?_⟩
          obtain ⟨v', h2, h3⟩ := (VRs.refl (ν := ν) (φ := φ) _ (viewRs_plain x)).get h
          rw [h] at h2
          cases h2
          exact h3
    | cells c e rw_ =>
      simp only at h
      cases ha : isAggB P t with
      | none => rw [ha] at h; cases h
      | some b =>
        rw [ha] at h
        have hra := run_agg (w := w) ha
        cases b with
        | true =>
          simp only at h
          cases hz : sizeB P t with
          | none => rw [hz] at h; cases h
          | some n =>
            rw [hz] at h
            simp only at h
            cases hc : readCells c o n with
            | none => rw [hc] at h; cases h
            | some l =>
              rw [hc] at h
              simp at h
              subst h
              obtain ⟨l', h1, h2, _⟩ := hR.row hφ ht hc
              exact ⟨.agg ⟨l'⟩, by simp [Instr.loadAt, Instr.sureAddr, loadVar, hra, run_size (w := w) hz, h1 w rfl], .agg h2⟩
        | false =>
          simp only at h
          obtain ⟨u', h1, h2⟩ := hR.cell hφ ht h
          exact ⟨u', by simp [Instr.loadAt, Instr.sureAddr, loadVar, hra, load, Sem.run, h1], h2⟩
theorem VR.wrapInt {v v' : Value} {i : Nat} (hv : VR ν φ v v') (h : wrapInt v = some i) : ∃ k, v' = .int k i := by
  cases hv <;> simp only [Eva.wrapInt] at h <;> try cases h
  rename_i k n
  cases n <;> cases h
  exact ⟨k, rfl⟩
/-- A value at which a nil check yields itself. -/
def nn : Value → Bool
  | .pointer none => false
  | .nilIface => false
  | .nilFunc => false
  | .func (.method _) _ _ => false
  | _ => true
theorem nil_sound {v v' u : Value} (hv : VR ν φ v v') (h : nilB v = some u) : u = v ∧ nn v' = true := by
  cases hv <;> simp only [nilB] at h <;> try cases h
  all_goals first
    | exact ⟨rfl, rfl⟩
    | skip
  rename_i fn f f' c c' h1 h2
  cases fn <;> cases h <;> exact ⟨rfl, rfl⟩
theorem fieldAddr_sound {t : TypeId} {f : Nat} {v v' u : Value} (hv : VR ν φ v v') (h : fieldAddrB P t f v = some u) : ∃ u', (Instr.fieldAt t v' f).run P w = .ok u' w ∧ VR ν φ u u' := by
  cases hv <;> simp only [fieldAddrB] at h <;> try cases h
  rename_i B o r hφ
  cases hu : P.underlying t with
  | none => rw [hu] at h; cases h
  | some d =>
    rw [hu] at h
    cases d <;> simp only at h <;> try cases h
    rename_i fs
    cases hf : fs[f]? with
    | none => rw [hf] at h; cases h
    | some fd =>
      rw [hf] at h
      simp only at h
      cases hz : sizeB P fd.type with
      | none => rw [hz] at h; cases h
      | some n =>
        rw [hz] at h
        cases n <;> simp only at h <;> cases h
        rename_i n
        refine ⟨_, ?_, .ptr hφ⟩
        simp [Instr.fieldAt, run_underlying hu, hf, Instr.sureAddr, fieldPlace, run_size (w := w) hz, add_off]
theorem part_sound {t : TypeId} {cs cs' : List Value} {off : Nat} {u : Value} (hv : VRs ν φ cs cs') (h : partB P t cs off = some u) : ∃ u', (part t ⟨cs'⟩ off).run P w = .ok u' w ∧ VR ν φ u u' := by
  unfold partB at h
  cases ha : isAggB P t with
  | none => rw [ha] at h; cases h
  | some b =>
    rw [ha] at h
    have hra := run_agg (w := w) ha
    cases b with
    | true =>
      simp only at h
      cases hz : sizeB P t with
      | none => rw [hz] at h; cases h
      | some n =>
        rw [hz] at h
        simp only [Option.some.injEq] at h
        subst h
        refine ⟨_, ?_, .agg ((hv.drop off).take n)⟩
        simp only [part, Sem.run_bind, hra, Result.andThen_ok, if_true, run_size (w := w) hz, Sem.run_pure]
        congr 2
        apply Array.ext'
        simp [List.extract_eq_take_drop]
    | false =>
      simp only at h
      obtain ⟨u', h1, h2⟩ := hv.get h
      exact ⟨u', by simp [part, hra, h1], h2⟩
theorem field_sound {t : TypeId} {f : Nat} {v v' u : Value} (hv : VR ν φ v v') (h : fieldB P t f v = some u) : ∃ u', (Instr.field t v' f).run P w = .ok u' w ∧ VR ν φ u u' := by
  cases hv <;> simp only [fieldB] at h <;> try cases h
  rename_i l l' hl
  cases hu : P.underlying t with
  | none => rw [hu] at h; cases h
  | some d =>
    rw [hu] at h
    cases d <;> simp only at h <;> try cases h
    rename_i fs
    cases hf : fs[f]? with
    | none => rw [hf] at h; cases h
    | some fd =>
      rw [hf] at h
      simp only at h
      obtain ⟨u', h1, h2⟩ := part_sound (w := w) hl h
      exact ⟨u', by simp [Instr.field, run_underlying hu, hf, asAgg, h1], h2⟩
theorem indexAddr_sound {t : TypeId} {x x' i i' u : Value} (hx : VR ν φ x x') (hi : VR ν φ i i') (h : indexAddrB P t x i = some u) : ∃ u', (Instr.indexAt t x' i').run P w = .ok u' w ∧ VR ν φ u u' := by
  unfold indexAddrB at h
  cases hw : wrapInt i with
  | none => rw [hw] at h; cases h
  | some k =>
    obtain ⟨ik, rfl⟩ := hi.wrapInt hw
    rw [hw] at h
    cases hu : P.underlying t with
    | none => rw [hu] at h; cases h
    | some d =>
      rw [hu] at h
      cases d <;> simp only at h <;> try cases h
      case slice elem =>
        cases hx <;> simp only at h <;> try cases h
        all_goals
          split at h <;> try cases h
          rename_i hlt hz
          have := blt_iff hlt
          first
            | (refine ⟨_, ?_, .ptr ‹_›⟩
               simp [Instr.indexAt, asIntOf, run_underlying hu, run_size (w := w) hz, add_off, this]; done)
            | omega
      case array len elem =>
        cases hx <;> simp only at h <;> try cases h
        split at h <;> try cases h
        rename_i hlt hz
        have := blt_iff hlt
        refine ⟨_, ?_, .ptr ‹_›⟩
        simp [Instr.indexAt, asIntOf, run_underlying hu, run_size (w := w) hz, add_off, this, Instr.sureAddr]
theorem index_sound {t : TypeId} {x x' i i' u : Value} (hx : VR ν φ x x') (hi : VR ν φ i i') (h : indexB P t x i = some u) : ∃ u', (Instr.index t x' i').run P w = .ok u' w ∧ VR ν φ u u' := by
  unfold indexB at h
  cases hw : wrapInt i with
  | none => rw [hw] at h; cases h
  | some k =>
    obtain ⟨ik, rfl⟩ := hi.wrapInt hw
    rw [hw] at h
    cases hu : P.underlying t with
    | none => rw [hu] at h; cases h
    | some d =>
      rw [hu] at h
      cases d <;> (try simp only at h) <;> try (cases h; done)
      case array len elem =>
        cases hx <;> (try simp only at h) <;> try (cases h; done)
        split at h <;> try cases h
        rename_i hlt hz
        have := blt_iff hlt
        obtain ⟨u', h1, h2⟩ := part_sound (w := w) ‹VRs ν φ _ _› h
        exact ⟨u', by simp [Instr.index, asIntOf, run_underlying hu, run_size (w := w) hz, this, h1], h2⟩
      case string =>
        cases hx <;> (try simp only at h) <;> try (cases h; done)
        rename_i sb
        cases hs : sb[k]? with
        | none => rw [hs] at h; cases h
        | some b =>
          rw [hs] at h
          cases h
          exact ⟨_, by simp [Instr.index, asIntOf, run_underlying hu, hs], .int _ _⟩

theorem run_eqGuard_other {op : BinOp} {t : TypeId} {ox oy : Operand} {a b : Value} (h1 : ¬ (a = .nilIface ∧ b = .nilIface)) (h2 : ∀ c d, ¬ (a = .agg c ∧ b = .agg d)) : (eqGuard op t ox oy a b).run P w = .ok () w := by
  have key : (match a, b with
    | .nilIface, .nilIface => False
    | .agg _, .agg _ => False
    | _, _ => True) := by
    cases a <;> cases b <;> first
      | trivial
      | exact h1 ⟨rfl, rfl⟩
      | exact h2 _ _ ⟨rfl, rfl⟩
  cases op <;> cases a <;> cases b <;> first
    | rfl
    | exact key.elim
theorem same_sound (hR : Rw P G W0 ν φ s w) {B o B' o' : Nat} {r r' : Ref} {b : Bool} (h1 : φ B = some r) (h2 : φ B' = some r') (h : samePtr s.t B o B' o' = some b) : (sameAddr ⟨r.b, o, none⟩ ⟨r'.b, o', none⟩).run P w = .ok b w := by
  unfold samePtr at h
  cases hb : Nat.beq B B' with
  | true =>
    rw [hb] at h
    simp only [Option.some.injEq] at h
    have := beq_iff hb
    subst this
    rw [h1] at h2; cases h2
    subst h
    by_cases e : o = o'
    · subst e; simp [sameAddr]
    · have : Nat.beq o o' = false := by
        cases hq : Nat.beq o o' with
        | false => rfl
        | true => exact absurd (beq_iff hq) e
      simp [sameAddr, this]
  | false =>
    rw [hb] at h
    simp only at h
    split at h <;> try cases h
    rename_i c e c' e' ht ht'
    obtain ⟨cs, _, fr, hh, _, hrw, _, _⟩ := hR.cells_ h1 ht
    obtain ⟨cs', _, fr', hh', _, hrw', _, _⟩ := hR.cells_ h2 ht'
    obtain ⟨_, _, _, rfl⟩ := hrw rfl
    obtain ⟨_, _, _, rfl⟩ := hrw' rfl
    have hne : r.b ≠ r'.b := fun e => by
      have := hR.inj B B' r r' (by rw [ht]; rfl) (by rw [ht']; rfl) (by rw [ht]; rfl) (by rw [ht']; rfl) h1 h2 e
      subst this
      have : Nat.beq B B = true := Nat.beq_refl B
      rw [this] at hb; cases hb
    simp [sameAddr, hne, frozen, Sem.run, World.frozen?, hh, hh', noView, viewAt, shape, World.shape?, mayBeOne, stringish]
theorem eq_sound (hR : Rw P G W0 ν φ s w) {t : TypeId} {x y x' y' : Value} {b : Bool} (hx : VR ν φ x x') (hy : VR ν φ y y') (h : eqB P s.t t x y = some b) :
    (Op.equal t x' y').run P w = .ok b w ∧ ¬ (x' = .nilIface ∧ y' = .nilIface) ∧ (∀ c d, ¬ (x' = .agg c ∧ y' = .agg d)) ∧ (∀ k n, x' ≠ .int k n) ∧ (∀ k n, x' ≠ .float k n) ∧ (∀ k n m, x' ≠ .complex k n m) ∧ (∀ s, x' ≠ .string s) := by
  cases hx <;> cases hy <;> simp only [eqB] at h <;> try (cases h; done)
  all_goals
    rcases hu : P.underlying t with _ | d
    · rw [hu] at h; cases h
    rw [hu] at h
    cases d <;> simp only at h <;> try (cases h; done)
  all_goals first
    | (cases h
       refine ⟨?_, by simp, by simp, by simp, by simp, by simp, by simp⟩
       show (Op.equalIn (9999 + 1) t _ _).run P w = _
       rw [Op.equalIn]
       simp only [Sem.run_bind, run_underlying hu, Result.andThen_ok]
       rfl)
    | skip
  rename_i B o r h1 B' o' r' h2 e
  cases hz : sizeB P e with
  | none => rw [hz] at h; cases h
  | some n =>
    rw [hz] at h
    cases n <;> simp only at h <;> try (cases h; done)
    refine ⟨?_, by simp, by simp, by simp, by simp, by simp, by simp⟩
    show (Op.equalIn (9999 + 1) t _ _).run P w = _
    rw [Op.equalIn]
    simp [run_underlying hu, run_size (w := w) hz, same_sound hR h1 h2 h]
theorem eqInts_len : ∀ {l k : List Value} {b : Bool}, eqInts l k = some b → l.length = k.length ∧ (∀ v ∈ l, plainV v = true) ∧ ∀ v ∈ k, plainV v = true
  | [], [], _, _ => ⟨rfl, by simp, by simp⟩
  | .int .i64 a :: l, .int .i64 c :: k, b, h => by
    simp only [eqInts, Option.map_eq_some_iff] at h
    obtain ⟨r, h1, _⟩ := h
    obtain ⟨h2, h3, h4⟩ := eqInts_len h1
    refine ⟨by simp [h2], fun v hv => ?_, fun v hv => ?_⟩
    · rcases List.mem_cons.1 hv with rfl | hv
      · rfl
      · exact h3 v hv
    · rcases List.mem_cons.1 hv with rfl | hv
      · rfl
      · exact h4 v hv
theorem flat_run {w : World} (d : Nat) (xs ys : List Value) : ∀ (fs : List Field) (o : Nat) {b : Bool}, flatF P o fs = true → eqInts (xs.drop o) (ys.drop o) = some b → (xs.drop o).length = fs.length → (Op.eqFields (d + 1) ⟨xs⟩ ⟨ys⟩ fs).run P w = .ok b w
  | [], o, b, _, he, hl => by
    have : xs.drop o = [] := List.length_eq_zero_iff.1 hl
    rw [this] at he
    cases hy : ys.drop o with
    | nil => rw [hy] at he; simp only [eqInts, Option.some.injEq] at he; subst he; simp [Op.eqFields]
    | cons a k => rw [hy] at he; simp [eqInts] at he
  | f :: fs, o, b, hf, he, hl => by
    simp only [flatF, Bool.and_eq_true, Bool.not_eq_true', beq_eq_false_iff_ne, ne_eq] at hf
    obtain ⟨⟨⟨hn, ho⟩, hu⟩, hr⟩ := hf
    have ho' := beq_iff ho
    cases hx : xs.drop o with
    | nil => rw [hx] at hl; simp at hl
    | cons x l =>
      cases hy : ys.drop o with
      | nil => rw [hx, hy] at he; cases x <;> simp [eqInts] at he
      | cons y k =>
        have hx1 : xs.drop (o + 1) = l := by
          have := congrArg List.tail hx
          simpa using this
        have hy1 : ys.drop (o + 1) = k := by
          have := congrArg List.tail hy
          simpa using this
        have hx0 : xs[o]? = some x := by
          have := congrArg (·[0]?) hx
          simpa using this
        have hy0 : ys[o]? = some y := by
          have := congrArg (·[0]?) hy
          simpa using this
        rw [hx, hy] at he
        unfold eqInts at he
        split at he <;> try (cases he; done)
        · rename_i e1 e2; cases e1
        · rename_i a l' c k' e1 e2
          cases e1; cases e2
          simp only [Option.map_eq_some_iff] at he
          obtain ⟨r, h1, h2⟩ := he
          split at hu <;> try (cases hu; done)
          rename_i ik hik
          have hagg : isAggB P f.type = some false := by simp [isAggB, hik]
          have hlen : (xs.drop (o + 1)).length = fs.length := by
            rw [hx1]
            rw [hx] at hl
            simpa using hl
          have ih := flat_run (w := w) d xs ys fs (o + 1) hr (by rw [hx1, hy1]; exact h1) hlen
          have p1 : (part f.type ⟨xs⟩ f.offset).run P w = .ok (.int .i64 a) w := by
            rw [ho']
            simp [part, run_agg (w := w) hagg, hx0]
          have p2 : (part f.type ⟨ys⟩ f.offset).run P w = .ok (.int .i64 c) w := by
            rw [ho']
            simp [part, run_agg (w := w) hagg, hy0]
          simp only [Op.eqFields, ne_eq, hn, not_false_eq_true, if_true, Sem.run_bind, p1, p2, Result.andThen_ok, run_equalIn_int w d f.type .i64 ik a c hik]
          by_cases hac : a = c
          · subst hac
            simp only [decide_true, Bool.true_and] at h2
            subst h2
            simpa using ih
          · have : (a == c) = false := by simpa using hac
            rw [this]
            simp only [decide_eq_false hac, Bool.false_and] at h2
            subst h2
            simp
theorem plainL_of : ∀ {l : List Value}, (∀ v ∈ l, plainV v = true) → plainL l = true
  | [], _ => rfl
  | v :: l, h => by
    simp only [plainL, Bool.and_eq_true]
    exact ⟨h v (by simp), plainL_of fun u hu => h u (List.mem_cons_of_mem _ hu)⟩
theorem agg_sound {l l' k k' : List Value} (hx : VRs ν φ l l') (hy : VRs ν φ k k') {w : World} {op : BinOp} {t : TypeId} {ox oy : Operand} {u : Value} (h : aggB P op t ox oy l k = some u) :
    ∃ u', (do eqGuard op t ox oy (.agg ⟨l'⟩) (.agg ⟨k'⟩); binOp op t (.agg ⟨l'⟩) (.agg ⟨k'⟩) : Sem Value).run P w = .ok u' w ∧ VR ν φ u u' := by
  unfold aggB at h
  split at h
  · rename_i p n b e1 e2 e3
    split at h <;> try (cases h; done)
    rename_i hlen
    cases h
    obtain ⟨_, hp1, hp2⟩ := eqInts_len e3
    have q1 : plainL l = true := plainL_of hp1
    have q2 : plainL k = true := plainL_of hp2
    have := hx.plain q1
    subst this
    have := hy.plain q2
    subst this
    unfold flatI at e2
    split at e2 <;> try (cases e2; done)
    rename_i fs hu
    split at e2 <;> try (cases e2; done)
    rename_i hf
    simp only [Option.some.injEq] at e2
    simp only [Bool.and_eq_true, Bool.not_eq_true'] at hf
    have hfs : P.fieldsOf t = fs := by simp [Program.fieldsOf, hu]
    have hr := flat_run (P := P) (w := w) 9998 l' k' fs.toList 0 hf.1.1 (by simpa using e3) (by simpa [e2] using beq_iff hlen)
    have hq : (Op.equalIn 10000 t (.agg ⟨l'⟩) (.agg ⟨k'⟩)).run P w = .ok b w := by
      rw [show (10000 : Nat) = 9999 + 1 from rfl, run_equalIn_struct w 9999 t ⟨l'⟩ ⟨k'⟩ (by rw [hfs]; exact hu) hf.1.2, hfs]
      exact hr
    refine ⟨.bool (b == p), ?_, .bool _⟩
    simp only [Sem.run_bind, run_eqGuard_agg w op t ox oy ⟨l'⟩ ⟨k'⟩ hf.2, Result.andThen_ok]
    cases op <;> simp only [isEq] at e1 <;> cases e1
    · rw [run_eql_struct, hq]; simp
    · rw [run_neq_struct, hq]; simp
  · split at h <;> try (cases h; done)
    rename_i hp
    simp only [Bool.and_eq_true] at hp
    have := hx.plain hp.1
    subst this
    have := hy.plain hp.2
    subst this
    obtain ⟨h1, h2⟩ := runV_spec (ν := ν) (φ := φ) (w := w) h
    exact ⟨u, h1, h2⟩
theorem bin_sound (hR : Rw P G W0 ν φ s w) {op : BinOp} {t : TypeId} {ox oy : Operand} {x y x' y' u : Value} (hx : VR ν φ x x') (hy : VR ν φ y y') (h : binB P s.t op t ox oy x y = some u) :
    ∃ u', (do eqGuard op t ox oy x' y'; binOp op t x' y' : Sem Value).run P w = .ok u' w ∧ VR ν φ u u' := by
  unfold binB at h
  split at h
  · rename_i k a k' b
    cases hx
    cases hy
    obtain ⟨h1, h2⟩ := semV_spec (ν := ν) (φ := φ) h
    refine ⟨u, ?_, h2⟩
    simp [run_eqGuard_other (P := P) (w := w) (op := op) (t := t) (ox := ox) (oy := oy) (a := .int k a) (b := .int k' b) (by simp) (by simp), h1]
  · cases hx with
    | agg hx' => cases hy with
      | agg hy' => exact agg_sound hx' hy' h
  · split at h
    · rename_i hp
      simp only [Bool.and_eq_true] at hp
      have e1 := hx.plain hp.1
      have e2 := hy.plain hp.2
      subst e1 e2
      obtain ⟨h1, h2⟩ := runV_spec (ν := ν) (φ := φ) (w := w) h
      exact ⟨u, h1, h2⟩
    · cases hq : isEq op with
      | none => rw [hq] at h; cases h
      | some p =>
        rw [hq] at h
        simp only [Option.map_eq_some_iff] at h
        obtain ⟨b, hb, rfl⟩ := h
        obtain ⟨h1, h2, h3, h4, h5, h6, h7⟩ := eq_sound hR hx hy hb
        refine ⟨_, ?_, .bool _⟩
        simp only [Sem.run_bind, run_eqGuard_other (P := P) (w := w) (op := op) (t := t) (ox := ox) (oy := oy) h2 h3, Result.andThen_ok]
        cases op <;> simp only [isEq] at hq <;> cases hq
        all_goals
          unfold binOp
          split <;> first
            | (rename_i e1 e2; exact absurd rfl (h4 _ _))
            | (exact absurd rfl (h4 _ _))
            | (exact absurd rfl (h5 _ _))
            | (exact absurd rfl (h6 _ _ _))
            | (exact absurd rfl (h7 _))
            | (simp [h1]; done)
            | (simp_all; done)
theorem len_sound {t : TypeId} {v v' u : Value} (hv : VR ν φ v v') (h : lenB P t v = some u) : (∀ ts ty, ts[0]? = some t → (Builtin.len_ ts ty #[v']).run P w = .ok u w) ∧ VR ν φ u u := by
  cases hv <;> simp only [lenB] at h <;> try cases h
  all_goals
    cases hu : P.underlying t with
    | none => rw [hu] at h; cases h
    | some d =>
      rw [hu] at h
      cases d <;> simp only at h <;> try cases h
      all_goals
        refine ⟨fun ts ty ht => ?_, .int _ _⟩
        simp [Builtin.len_, ht, run_underlying hu, goInt]
end
end Go.Eva
end
