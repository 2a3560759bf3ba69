/-
  A run of a closed call: how the tree of blocks stands for memory. No program in sight.
-/
import Derived.Test.YtenigphjddnknaaGreatDoorEvaA
import Derived.Test.YtenigphjddnknaaGreatDoorBase
namespace Go.Eva
open Go Go.RowKit Go.Viv

theorem Pz.of_inj : ∀ (f n m : Nat) (g : Nat), 1 ≤ n → 1 ≤ m → n ≤ f → m ≤ g → Pz.of f n = Pz.of g m → n = m
  | 0, n, m, g, hn, _, hf, _, _ => by omega
  | f + 1, n, m, 0, _, hm, _, hg, _ => by omega
  | f + 1, n, m, g + 1, hn, hm, hf, hg, heq => by
    have eb : ∀ k, Nat.ble k 1 = decide (k ≤ 1) := fun k => by
      cases hb : Nat.ble k 1 with
      | true => simp [Nat.le_of_ble_eq_true hb]
      | false =>
        by_cases hk : k ≤ 1
        · rw [Nat.ble_eq_true_of_le hk] at hb; cases hb
        · simp [hk]
    have e1 := eb n
    have e2 := eb m
    have e3 : ∀ k, Nat.beq (k % 2) 0 = decide (k % 2 = 0) := fun k => by
      cases hb : Nat.beq (k % 2) 0 with
      | true => simp [Nat.eq_of_beq_eq_true hb]
      | false => have := Nat.ne_of_beq_eq_false hb; simp [this]
    unfold Pz.of at heq
    rw [e1, e2, e3, e3] at heq
    by_cases c1 : n ≤ 1 <;> by_cases c2 : m ≤ 1 <;> by_cases c3 : n % 2 = 0 <;> by_cases c4 : m % 2 = 0 <;> simp only [c1, c2, c3, c4, decide_true, decide_false] at heq <;> first
      | omega
      | cases heq
      | (injection heq with hq
         have := Pz.of_inj f (n / 2) (m / 2) g (by omega) (by omega) (by omega) (by omega) hq
         omega)
theorem key_inj {n m : Nat} (h : key n = key m) : n = m := by
  have := Pz.of_inj (n + 1) (n + 1) (m + 1) (m + 1) (by omega) (by omega) (by omega) (by omega) h
  omega
section
variable {α : Type}
theorem Tr.get_put_same : ∀ (p : Pz) (t : Tr α) (v : Option α), (t.put p v).get p = v
  | .h, t, v => rfl
  | .o p, t, v => by simp only [Tr.put, Tr.get, Tr.left]; exact Tr.get_put_same p _ v
  | .i p, t, v => by simp only [Tr.put, Tr.get, Tr.right]; exact Tr.get_put_same p _ v
theorem Tr.get_put_ne : ∀ (p q : Pz) (t : Tr α) (v : Option α), p ≠ q → (t.put p v).get q = t.get q
  | .h, .h, _, _, h => absurd rfl h
  | .h, .o _, t, v, _ => rfl
  | .h, .i _, t, v, _ => rfl
  | .o _, .h, t, v, _ => rfl
  | .i _, .h, t, v, _ => rfl
  | .o _, .i _, t, v, _ => rfl
  | .i _, .o _, t, v, _ => rfl
  | .o p, .o q, t, v, h => by simp only [Tr.put, Tr.get, Tr.left]; exact Tr.get_put_ne p q _ v (fun e => h (by rw [e]))
  | .i p, .i q, t, v, h => by simp only [Tr.put, Tr.get, Tr.right]; exact Tr.get_put_ne p q _ v (fun e => h (by rw [e]))
theorem Tr.at_set_same (t : Tr α) (n : Nat) (v : Option α) : (t.set n v).at_ n = v := Tr.get_put_same _ _ _
theorem Tr.at_set_ne (t : Tr α) {n m : Nat} (v : Option α) (h : n ≠ m) : (t.set n v).at_ m = t.at_ m := Tr.get_put_ne _ _ _ _ (fun e => h (key_inj e))
end

/-- Where a block stands in memory; how many cells it has; how many an element of it. -/
structure Ref where
  b : Nat
  sz : Nat
  es : Nat
abbrev Phi := Nat → Option Ref
/-- What is left open: numbers that stand for values. -/
structure Toks where
  v : Nat → Value
  one : ∀ k, (v k).oneCell' = true

mutual
/-- A value of the tree stands for one of memory. -/
inductive VR (ν : Toks) (φ : Phi) : Value → Value → Prop
  | bad (v : Value) : VR ν φ (.chan none) v
  | sym (k : Nat) : VR ν φ (.chan (some k)) (ν.v k)
  | bool (b : Bool) : VR ν φ (.bool b) (.bool b)
  | int (k : IntKind) (n : Int) : VR ν φ (.int k n) (.int k n)
  | string (s : ByteArray) : VR ν φ (.string s) (.string s)
  | ptr0 : VR ν φ (.pointer none) (.pointer none)
  | ptr {B o : Nat} {r : Ref} (h : φ B = some r) : VR ν φ (.pointer (some ⟨B, o, none⟩)) (.pointer (some ⟨r.b, o, none⟩))
  | sl0 : VR ν φ (.slice none 0 0) (.slice none 0 0)
  | slk {B o n c : Nat} {r : Ref} (h : φ B = some r) (hn : n ≤ c) : VR ν φ (.slice (some ⟨B, o, none⟩) n (c + 1)) (.slice (some ⟨r.b, o, none⟩) n c)
  | slu {B o n c : Nat} {r : Ref} (h : φ B = some r) (hn : n + 1 ≤ c) (hc : o + c * r.es = r.sz) : VR ν φ (.slice (some ⟨B, o, none⟩) (n + 1) 0) (.slice (some ⟨r.b, o, none⟩) (n + 1) c)
  | sle {B o o' c : Nat} {r : Ref} (h : φ B = some r) (hc : o' + c * r.es ≤ r.sz) (ho : o = 0 → o' = 0 ∧ c * r.es = r.sz) : VR ν φ (.slice (some ⟨B, o, none⟩) 0 0) (.slice (some ⟨r.b, o', none⟩) 0 c)
  | emp (a : Addr) (c : Nat) : VR ν φ (.slice none 0 1) (.slice (some a) 0 c)
  | map0 : VR ν φ (.map none) (.map none)
  | map {B : Nat} {r : Ref} (h : φ B = some r) : VR ν φ (.map (some B)) (.map (some r.b))
  | func (fn : Fn) {f f' c c' : List Value} (h1 : VRs ν φ f f') (h2 : VRs ν φ c c') : VR ν φ (.func fn ⟨f⟩ ⟨c⟩) (.func fn ⟨f'⟩ ⟨c'⟩)
  | nilFunc : VR ν φ .nilFunc .nilFunc
  | iface (t : TypeId) {v v' : Value} (h : VR ν φ v v') : VR ν φ (.iface t v) (.iface t v')
  | nilIface : VR ν φ .nilIface .nilIface
  | agg {l l' : List Value} (h : VRs ν φ l l') : VR ν φ (.agg ⟨l⟩) (.agg ⟨l'⟩)
  | tuple {l l' : List Value} (h : VRs ν φ l l') : VR ν φ (.tuple ⟨l⟩) (.tuple ⟨l'⟩)
inductive VRs (ν : Toks) (φ : Phi) : List Value → List Value → Prop
  | nil : VRs ν φ [] []
  | cons {v v' : Value} {l l' : List Value} (h : VR ν φ v v') (t : VRs ν φ l l') : VRs ν φ (v :: l) (v' :: l')
end

section
variable {ν : Toks} {φ φ' : Phi}
mutual
theorem VR.ext (hx : ∀ B r, φ B = some r → φ' B = some r) : ∀ {v v' : Value}, VR ν φ v v' → VR ν φ' v v'
  | _, _, .bad v => .bad v
  | _, _, .sym k => .sym k
  | _, _, .bool b => .bool b
  | _, _, .int k n => .int k n
  | _, _, .string s => .string s
  | _, _, .ptr0 => .ptr0
  | _, _, .ptr h => .ptr (hx _ _ h)
  | _, _, .sl0 => .sl0
  | _, _, .slk h hn => .slk (hx _ _ h) hn
  | _, _, .slu h hn hc => .slu (hx _ _ h) hn hc
  | _, _, .sle h hc ho => .sle (hx _ _ h) hc ho
  | _, _, .emp a c => .emp a c
  | _, _, .map0 => .map0
  | _, _, .map h => .map (hx _ _ h)
  | _, _, .func fn h1 h2 => .func fn (VRs.ext hx h1) (VRs.ext hx h2)
  | _, _, .nilFunc => .nilFunc
  | _, _, .iface t h => .iface t (VR.ext hx h)
  | _, _, .nilIface => .nilIface
  | _, _, .agg h => .agg (VRs.ext hx h)
  | _, _, .tuple h => .tuple (VRs.ext hx h)
theorem VRs.ext (hx : ∀ B r, φ B = some r → φ' B = some r) : ∀ {l l' : List Value}, VRs ν φ l l' → VRs ν φ' l l'
  | _, _, .nil => .nil
  | _, _, .cons h t => .cons (VR.ext hx h) (VRs.ext hx t)
end

theorem VRs.length {l l' : List Value} (h : VRs ν φ l l') : l'.length = l.length := by
  induction l generalizing l' with
  | nil => cases h; rfl
  | cons v l ih => cases h with | cons h t => simp [ih t]
theorem VRs.get {l l' : List Value} (h : VRs ν φ l l') {i : Nat} {v : Value} (hi : l[i]? = some v) : ∃ v', l'[i]? = some v' ∧ VR ν φ v v' := by
  induction l generalizing l' i with
  | nil => simp at hi
  | cons x l ih =>
    cases h with
    | cons h t =>
      cases i with
      | zero => simp at hi; subst hi; exact ⟨_, by simp, h⟩
      | succ i => simp at hi; obtain ⟨v', h1, h2⟩ := ih t hi; exact ⟨v', by simpa using h1, h2⟩
theorem VRs.append {l l' k k' : List Value} (h : VRs ν φ l l') (h' : VRs ν φ k k') : VRs ν φ (l ++ k) (l' ++ k') := by
  induction l generalizing l' with
  | nil => cases h; exact h'
  | cons v l ih => cases h with | cons h t => exact .cons h (ih t)
theorem VRs.take {l l' : List Value} (h : VRs ν φ l l') (n : Nat) : VRs ν φ (l.take n) (l'.take n) := by
  induction l generalizing l' n with
  | nil => cases h; simp; exact .nil
  | cons v l ih => cases h with | cons h t => cases n with
    | zero => simp; exact .nil
    | succ n => simp; exact .cons h (ih t n)
theorem VRs.drop {l l' : List Value} (h : VRs ν φ l l') (n : Nat) : VRs ν φ (l.drop n) (l'.drop n) := by
  induction l generalizing l' n with
  | nil => cases h; simp; exact .nil
  | cons v l ih => cases h with | cons h t => cases n with
    | zero => simp; exact .cons h t
    | succ n => simp; exact ih t n
theorem VRs.map {ρ ρ' : Operand → Value} : ∀ (l : List Operand), (∀ x ∈ l, VR ν φ (ρ x) (ρ' x)) → VRs ν φ (l.map ρ) (l.map ρ')
  | [], _ => .nil
  | x :: l, h => .cons (h x (by simp)) (VRs.map l fun y hy => h y (by simp [hy]))
theorem VRs.one {v v' : Value} (h : VR ν φ v v') : VRs ν φ [v] [v'] := .cons h .nil

mutual
theorem VR.plain : ∀ {v v' : Value}, VR ν φ v v' → plainV v = true → v' = v
  | _, _, .bad v, h => by simp [plainV] at h
  | _, _, .sym k, h => by simp [plainV] at h
  | _, _, .bool b, _ => rfl
  | _, _, .int k n, _ => rfl
  | _, _, .string s, _ => rfl
  | _, _, .ptr0, _ => rfl
  | _, _, .ptr h, hp => by simp [plainV] at hp
  | _, _, .sl0, _ => rfl
  | _, _, .slk h hn, hp => by simp [plainV] at hp
  | _, _, .slu h hn hc, hp => by simp [plainV] at hp
  | _, _, .sle h hc ho, hp => by simp [plainV] at hp
  | _, _, .emp a c, hp => by simp [plainV] at hp
  | _, _, .map0, _ => rfl
  | _, _, .map h, hp => by simp [plainV] at hp
  | _, _, .func fn h1 h2, hp => by
    simp only [plainV, Bool.and_eq_true] at hp
    rw [VRs.plain h1 hp.1, VRs.plain h2 hp.2]
  | _, _, .nilFunc, _ => rfl
  | _, _, .iface t h, hp => by
    simp only [plainV] at hp
    rw [VR.plain h hp]
  | _, _, .nilIface, _ => rfl
  | _, _, .agg h, hp => by
    simp only [plainV] at hp
    rw [VRs.plain h hp]
  | _, _, .tuple h, hp => by
    simp only [plainV] at hp
    rw [VRs.plain h hp]
theorem VRs.plain : ∀ {l l' : List Value}, VRs ν φ l l' → plainL l = true → l' = l
  | _, _, .nil, _ => rfl
  | _, _, .cons h t, hp => by
    simp only [plainL, Bool.and_eq_true] at hp
    rw [VR.plain h hp.1, VRs.plain t hp.2]
end
mutual
theorem VR.refl : ∀ (v : Value), plainV v = true → VR ν φ v v
  | .bool b, _ => .bool b
  | .int k n, _ => .int k n
  | .float k n, h => by simp [plainV] at h
  | .complex k a b, h => by simp [plainV] at h
  | .string s, _ => .string s
  | .pointer none, _ => .ptr0
  | .pointer (some a), h => by simp [plainV] at h
  | .slice none 0 0, _ => .sl0
  | .slice none (n + 1) c, h => by simp [plainV] at h
  | .slice none 0 (c + 1), h => by simp [plainV] at h
  | .slice (some a) n c, h => by simp [plainV] at h
  | .map none, _ => .map0
  | .map (some r), h => by simp [plainV] at h
  | .chan r, h => by simp [plainV] at h
  | .func fn ⟨f⟩ ⟨c⟩, h => by
    simp only [plainV, Bool.and_eq_true] at h
    exact .func fn (VRs.refl f h.1) (VRs.refl c h.2)
  | .nilFunc, _ => .nilFunc
  | .iface t v, h => by
    simp only [plainV] at h
    exact .iface t (VR.refl v h)
  | .nilIface, _ => .nilIface
  | .agg ⟨l⟩, h => by
    simp only [plainV] at h
    exact .agg (VRs.refl l h)
  | .tuple ⟨l⟩, h => by
    simp only [plainV] at h
    exact .tuple (VRs.refl l h)
theorem VRs.refl : ∀ (l : List Value), plainL l = true → VRs ν φ l l
  | [], _ => .nil
  | v :: l, h => by
    simp only [plainL, Bool.and_eq_true] at h
    exact .cons (VR.refl v h.1) (VRs.refl l h.2)
end
theorem VR.int_ {k : IntKind} {n : Int} {v : Value} (h : VR ν φ (.int k n) v) : v = .int k n := by cases h; rfl
theorem VR.undef_ : VR ν φ undef undef := .tuple .nil
theorem one_cells {v : Value} (h : v.oneCell' = true) : v.cells = #[v] := by
  cases v <;> first | rfl | (simp [Value.oneCell'] at h)
theorem VR.cells {v v' : Value} (h : VR ν φ v v') (h1 : (cellsL v).all oneB = true) : VRs ν φ (cellsL v) v'.cells.toList := by
  cases h <;> first
    | (rw [one_cells (ν.one _)]; exact .one (.sym _))
    | (simp [cellsL, oneB] at h1; done)
    | exact .one (by constructor <;> assumption)
    | (simp only [cellsL, Value.cells]; assumption)
    | exact .one (.func _ ‹_› ‹_›)
theorem VR.one {v v' : Value} (h : VR ν φ v v') (h1 : oneB v = true) : v'.oneCell' = true := by
  cases h <;> first | exact ν.one _ | (simp [oneB] at h1; done) | simp [Value.oneCell']
theorem VRs.one_ {l l' : List Value} (h : VRs ν φ l l') (h1 : l.all oneB = true) : ∀ v ∈ l', v.oneCell' = true := by
  induction l generalizing l' with
  | nil => cases h; simp
  | cons v l ih =>
    cases h with
    | cons h t =>
      simp only [List.all_cons, Bool.and_eq_true] at h1
      intro u hu
      rcases List.mem_cons.1 hu with rfl | hu
      · exact h.one h1.1
      · exact ih t h1.2 u hu
end

/-- Entries of a map: keys as they are. -/
inductive ER (ν : Toks) (φ : Phi) : List MapEntry → List MapEntry → Prop
  | nil : ER ν φ [] []
  | cons {k v v' : Value} {n : Nat} {l l' : List MapEntry} (h : VR ν φ v v') (t : ER ν φ l l') : ER ν φ (⟨k, v, n⟩ :: l) (⟨k, v', n⟩ :: l')

/-- Where a run begins: a world, the old blocks that it may write, and what a structure is in memory. -/
structure Begin where
  w : World
  may : Nat → Prop
  ri : Rs → Phi → World → Ref → (Nat → Prop) → Prop
  riF : ∀ {x φ w w' b F}, ri x φ w b F → (∀ k, F k → w'.heap[k]? = w.heap[k]?) → w.heap.size ≤ w'.heap.size → ri x φ w' b F
  riX : ∀ {x} {φ φ' : Phi} {w b F}, (∀ B r, φ B = some r → φ' B = some r) → ri x φ w b F → ri x φ' w b F
  vw : ∀ {x φ w r F}, ri x φ w r F → ∀ i v, (viewRs x)[i]? = some v → w.cell? ⟨r.b, i, none⟩ = some v
theorem viewRs_plain (x : Rs) : plainL (viewRs x) = true := by cases x <;> rfl
def Begin.own (W : Begin) (b : Nat) : Prop := W.may b ∨ W.w.heap.size ≤ b
/-- A block of the tree stands for one of memory. -/
inductive ObjR (P : Program) (own : Nat → Prop) (ν : Toks) (φ : Phi) (w : World) (r : Ref) : AObj → Prop
  | cells {c : List Value} {e e' : TypeId} {rw : Bool} {cs : Array Value} {fr : Nat × Nat} (h : w.heap[r.b]? = some (.cells cs e' fr)) (hs : cs.size = r.sz)
      (hrw : rw = true → e' = e ∧ sizeB P e = some r.es ∧ own r.b ∧ fr = (0, 0)) (hc : VRs ν φ c (cs.toList.take c.length)) : ObjR P own ν φ w r (.cells c e rw)
  | map {es : List MapEntry} {es' : Array MapEntry} {clk : Nat} (h : w.heap[r.b]? = some (.map es' clk)) (hb : own r.b) (he : ER ν φ es es'.toList) : ObjR P own ν φ w r (.map es clk)
  | res (x : Rs) : ObjR P own ν φ w r (.res x)
def isRes : Option AObj → Bool
  | some (.res _) => true
  | _ => false
/-- The structures among the tree's blocks, each with the blocks of memory that are its own. -/
structure ResR (W0 : Begin) (φ : Phi) (t : Tr AObj) (w : World) (fp : Nat → Nat → Prop) : Prop where
  ri : ∀ B r x, φ B = some r → t.at_ B = some (.res x) → W0.ri x φ w r (fp B)
  own : ∀ B r k, φ B = some r → isRes (t.at_ B) = true → fp B k → W0.own k ∧ k < w.heap.size
  sep : ∀ B B' r r' k, φ B = some r → φ B' = some r' → isRes (t.at_ B) = true → isRes (t.at_ B') = true → fp B k → fp B' k → B = B'
  far : ∀ B B' r r', φ B = some r → φ B' = some r' → isRes (t.at_ B) = true → (t.at_ B').isSome = true → isRes (t.at_ B') = false → ¬ fp B r'.b

/-- The tree stands for memory. G: how many of the program's variables there are. -/
structure Rw (P : Program) (G : Nat) (W0 : Begin) (ν : Toks) (φ : Phi) (s : Hp) (w : World) : Prop where
  frame : Fr W0.may W0.w w
  glob : ∀ g, g < G → ∃ r, φ g = some r ∧ r.b = g
  fresh : ∀ B, s.next ≤ B → φ B = none
  bound : ∀ B r, φ B = some r → r.b < w.heap.size
  obj : ∀ B r o, φ B = some r → s.t.at_ B = some o → ObjR P W0.own ν φ w r o
  inj : ∀ B B' r r', (s.t.at_ B).isSome = true → (s.t.at_ B').isSome = true → isRes (s.t.at_ B) = false → isRes (s.t.at_ B') = false → φ B = some r → φ B' = some r' → r.b = r'.b → B = B'
  res : ∃ fp, ResR W0 φ s.t w fp
/-- Nothing has turned below n. -/
def Ext (n : Nat) (φ φ' : Phi) : Prop := ∀ B, B < n → φ' B = φ B
theorem Ext.refl (n : Nat) (φ : Phi) : Ext n φ φ := fun _ _ => rfl
theorem Ext.trans {n m : Nat} {φ φ' φ'' : Phi} (h : Ext n φ φ') (h' : Ext m φ' φ'') (hm : n ≤ m) : Ext n φ φ'' := fun B hB => (h' B (by omega)).trans (h B hB)
section
variable {P : Program} {G : Nat} {W0 : Begin} {ν : Toks} {φ φ' : Phi} {s : Hp} {w w' : World}
theorem Rw.up (hR : Rw P G W0 ν φ s w) {n : Nat} (hn : s.next ≤ n) (h : Ext n φ φ') : ∀ B r, φ B = some r → φ' B = some r := fun B r hB => by
  rcases Nat.lt_or_ge B n with hlt | hge
  · rw [h B hlt]; exact hB
  · rw [hR.fresh B (by omega)] at hB; cases hB
theorem ER.ext {es es' : List MapEntry} (hx : ∀ B r, φ B = some r → φ' B = some r) (h : ER ν φ es es') : ER ν φ' es es' := by
  induction h with
  | nil => exact .nil
  | cons h _ ih => exact .cons (h.ext hx) ih
theorem ObjR.ext {own : Nat → Prop} {r : Ref} {o : AObj} (hx : ∀ B r, φ B = some r → φ' B = some r) (h : ObjR P own ν φ w r o) : ObjR P own ν φ' w r o := by
  cases h with
  | cells h hs hrw hc => exact .cells h hs hrw (hc.ext hx)
  | map h hb he => exact .map h hb (he.ext hx)
  | res x => exact .res x
theorem ObjR.far {own : Nat → Prop} {r : Ref} {o : AObj} (hb : isRes (some o) = false → w'.heap[r.b]? = w.heap[r.b]?) (h : ObjR P own ν φ w r o) : ObjR P own ν φ w' r o := by
  cases h with
  | cells h hs hrw hc => exact .cells ((hb rfl).trans h) hs hrw hc
  | map h hb' he => exact .map ((hb rfl).trans h) hb' he
  | res x => exact .res x
theorem res_at {o : Option AObj} (h : isRes o = true) : ∃ x, o = some (.res x) := by
  match o, h with
  | some (.res x), _ => exact ⟨x, rfl⟩
/-- One of the tree's blocks is written. -/
theorem Rw.upd (hR : Rw P G W0 ν φ s w) {B : Nat} {r : Ref} (hφ : φ B = some r) (halive : (s.t.at_ B).isSome = true) (hn : isRes (s.t.at_ B) = false) (hf : Fr W0.may W0.w w') (hz : w'.heap.size = w.heap.size)
    (hb : ∀ k, k ≠ r.b → w'.heap[k]? = w.heap[k]?) (o : AObj) (hno : isRes (some o) = false) (ho : ObjR P W0.own ν φ w' r o) : Rw P G W0 ν φ ⟨s.t.set B (some o), s.next⟩ w' := by
  have hal : ∀ X, ((s.t.set B (some o)).at_ X).isSome = true → (s.t.at_ X).isSome = true := fun X hX => by
    by_cases h : B = X
    · subst h; exact halive
    · rwa [Tr.at_set_ne _ _ h] at hX
  have hrs : ∀ X, isRes ((s.t.set B (some o)).at_ X) = isRes (s.t.at_ X) := fun X => by
    by_cases h : B = X
    · subst h; rw [Tr.at_set_same, hn, hno]
    · rw [Tr.at_set_ne _ _ h]
  refine ⟨hf, hR.glob, hR.fresh, fun X r' h => by rw [hz]; exact hR.bound X r' h, fun X r' o' h h' => ?_, fun X X' r1 r2 h1 h2 h3 h4 => hR.inj X X' r1 r2 (hal X h1) (hal X' h2) (by rw [← hrs]; exact h3) (by rw [← hrs]; exact h4), ?_⟩
  · by_cases hX : B = X
    · subst hX
      rw [Tr.at_set_same] at h'
      cases h'
      rw [hφ] at h; cases h
      exact ho
    · rw [Tr.at_set_ne _ _ hX] at h'
      exact (hR.obj X r' o' h h').far (fun hno' => hb _ fun e => hX (hR.inj B X r r' halive (by rw [h']; rfl) hn (by rw [h']; exact hno') hφ h e.symm))
  · obtain ⟨fp, q1, q2, q3, q4⟩ := hR.res
    refine ⟨fp, fun X r' x h h' => ?_, fun X r' k h h' hk => ?_, fun X X' r1 r2 k h1 h2 h3 h4 => ?_, fun X X' r1 r2 h1 h2 h3 h4 h5 => ?_⟩
    · by_cases hX : B = X
      · subst hX; rw [Tr.at_set_same] at h'; cases h'; cases hno
      · rw [Tr.at_set_ne _ _ hX] at h'
        refine W0.riF (q1 X r' x h h') (fun k hk => hb k (fun e => ?_)) (by rw [hz]; exact Nat.le_refl _)
        subst e
        exact q4 X B r' r h hφ (by rw [h']; rfl) halive hn hk
    · rw [hz]; exact q2 X r' k h (by rw [← hrs]; exact h') hk
    · exact q3 X X' r1 r2 k h1 h2 (by rw [← hrs]; exact h3) (by rw [← hrs]; exact h4)
    · exact q4 X X' r1 r2 h1 h2 (by rw [← hrs]; exact h3) (hal X' h4) (by rw [← hrs]; exact h5)
/-- A block that nothing in memory stands for yet. -/
theorem Rw.ghost (hR : Rw P G W0 ν φ s w) {B : Nat} (hB : φ B = none) (o : Option AObj) {n : Nat} (hn : s.next ≤ n) : Rw P G W0 ν φ ⟨s.t.set B o, n⟩ w := by
  have hne : ∀ X r, φ X = some r → B ≠ X := fun X r h e => by subst e; rw [hB] at h; cases h
  have hat : ∀ X r, φ X = some r → (s.t.set B o).at_ X = s.t.at_ X := fun X r h => Tr.at_set_ne _ _ (hne X r h)
  refine ⟨hR.frame, hR.glob, fun X hX => hR.fresh X (Nat.le_trans hn hX), hR.bound, fun X r o' h h' => ?_, fun X X' r r' h1 h2 h3 h4 h5 h6 h7 => ?_, ?_⟩
  · rw [hat X r h] at h'; exact hR.obj X r o' h h'
  · rw [hat X r h5] at h1 h3
    rw [hat X' r' h6] at h2 h4
    exact hR.inj X X' r r' h1 h2 h3 h4 h5 h6 h7
  · obtain ⟨fp, q1, q2, q3, q4⟩ := hR.res
    exact ⟨fp, fun X r x h h' => q1 X r x h (by rw [← hat X r h]; exact h'), fun X r k h h' => q2 X r k h (by rw [← hat X r h]; exact h'), fun X X' r1 r2 k h1 h2 h3 h4 => q3 X X' r1 r2 k h1 h2 (by rw [← hat X r1 h1]; exact h3) (by rw [← hat X' r2 h2]; exact h4),
      fun X X' r1 r2 h1 h2 h3 h4 h5 => q4 X X' r1 r2 h1 h2 (by rw [← hat X r1 h1]; exact h3) (by rw [← hat X' r2 h2]; exact h4) (by rw [← hat X' r2 h2]; exact h5)⟩
theorem Rw.more (hR : Rw P G W0 ν φ s w) {n : Nat} (hn : s.next ≤ n) : Rw P G W0 ν φ ⟨s.t, n⟩ w :=
  ⟨hR.frame, hR.glob, fun X hX => hR.fresh X (Nat.le_trans hn hX), hR.bound, hR.obj, hR.inj, hR.res⟩
/-- A block of the tree is thrown away. -/
theorem Rw.kill (hR : Rw P G W0 ν φ s w) (B : Nat) : Rw P G W0 ν φ ⟨s.t.set B none, s.next⟩ w := by
  have hal : ∀ X, ((s.t.set B none).at_ X).isSome = true → (s.t.set B none).at_ X = s.t.at_ X := fun X hX => by
    by_cases h : B = X
    · subst h; rw [Tr.at_set_same] at hX; cases hX
    · rw [Tr.at_set_ne _ _ h]
  have hsome : ∀ o : Option AObj, isRes o = true → o.isSome = true := fun o h => by obtain ⟨x, rfl⟩ := res_at h; rfl
  refine ⟨hR.frame, hR.glob, hR.fresh, hR.bound, fun X r o h h' => hR.obj X r o h (by rw [← hal X (by simp only at h'; rw [h']; rfl)]; exact h'), fun X X' r1 r2 h1 h2 h3 h4 => ?_, ?_⟩
  · have e1 := hal X h1
    have e2 := hal X' h2
    simp only at h1 h2 h3 h4
    rw [e1] at h1 h3
    rw [e2] at h2 h4
    exact hR.inj X X' r1 r2 h1 h2 h3 h4
  · obtain ⟨fp, q1, q2, q3, q4⟩ := hR.res
    exact ⟨fp, fun X r x h h' => q1 X r x h (by rw [← hal X (by rw [h']; rfl)]; exact h'), fun X r k h h' => q2 X r k h (by rw [← hal X (hsome _ h')]; exact h'),
      fun X X' r1 r2 k h1 h2 h3 h4 => q3 X X' r1 r2 k h1 h2 (by rw [← hal X (hsome _ h3)]; exact h3) (by rw [← hal X' (hsome _ h4)]; exact h4),
      fun X X' r1 r2 h1 h2 h3 h4 h5 => q4 X X' r1 r2 h1 h2 (by rw [← hal X (hsome _ h3)]; exact h3) (by rw [← hal X' h4]; exact h4) (by rw [← hal X' h4]; exact h5)⟩
theorem Rw.drew (hR : Rw P G W0 ν φ s w) : Rw P G W0 ν φ s w.drew := by
  refine ⟨hR.frame.drew, hR.glob, hR.fresh, hR.bound, fun B r o h h' => ObjR.far (w := w) (fun _ => rfl) (hR.obj B r o h h'), hR.inj, ?_⟩
  obtain ⟨fp, q1, q2, q3, q4⟩ := hR.res
  exact ⟨fp, fun X r x h h' => W0.riF (q1 X r x h h') (fun _ _ => rfl) (Nat.le_refl _), q2, q3, q4⟩
/-- phi with a block more. -/
def Phi.add (φ : Phi) (B : Nat) (r : Ref) : Phi := fun X => if X = B then some r else φ X
theorem Phi.add_same (φ : Phi) (B : Nat) (r : Ref) : φ.add B r B = some r := by simp [Phi.add]
theorem Phi.add_ne (φ : Phi) {B X : Nat} (r : Ref) (h : X ≠ B) : φ.add B r X = φ X := by simp [Phi.add, h]
theorem Phi.add_up (φ : Phi) {B : Nat} (r : Ref) (h : φ B = none) : ∀ X r', φ X = some r' → φ.add B r X = some r' := fun X r' hX => by
  by_cases e : X = B
  · subst e; rw [h] at hX; cases hX
  · rw [Phi.add_ne _ _ e]; exact hX
/-- A new block of memory: for one of the tree that nothing stood for. -/
theorem Rw.born (hR : Rw P G W0 ν φ s w) {B : Nat} (hB : φ B = none) (hlt : B < s.next) (hG : G ≤ B) {o : AObj} (hno : isRes (some o) = false) (ho : s.t.at_ B = some o) (x : Obj) {sz es : Nat}
    (hx : ObjR P W0.own ν (φ.add B ⟨w.heap.size, sz, es⟩) (w.alloc x) ⟨w.heap.size, sz, es⟩ o) : Rw P G W0 ν (φ.add B ⟨w.heap.size, sz, es⟩) s (w.alloc x) := by
  have hup := φ.add_up ⟨w.heap.size, sz, es⟩ hB
  refine ⟨hR.frame.alloc _, fun g hg => ?_, fun X hX => ?_, fun X r h => ?_, fun X r o' h h' => ?_, fun X X' r r' h1 h2 h3' h4' h3 h4 h5 => ?_, ?_⟩
  · obtain ⟨r, h1, h2⟩ := hR.glob g hg
    exact ⟨r, hup _ _ h1, h2⟩
  · rw [Phi.add_ne _ _ (by omega)]; exact hR.fresh X hX
  · by_cases e : X = B
    · subst e; rw [Phi.add_same] at h; cases h; simp
    · rw [Phi.add_ne _ _ e] at h; have := hR.bound X r h; simp; omega
  · by_cases e : X = B
    · subst e
      rw [Phi.add_same] at h; cases h
      rw [ho] at h'; cases h'
      exact hx
    · rw [Phi.add_ne _ _ e] at h
      exact ((hR.obj X r o' h h').far (fun _ => Below.heap_alloc w x r.b (hR.bound X r h))).ext hup
  · by_cases e : X = B <;> by_cases e' : X' = B
    · rw [e, e']
    · subst e
      rw [Phi.add_same] at h3; cases h3
      rw [Phi.add_ne _ _ e'] at h4
      have := hR.bound X' r' h4
      simp only at h5
      omega
    · subst e'
      rw [Phi.add_same] at h4; cases h4
      rw [Phi.add_ne _ _ e] at h3
      have := hR.bound X r h3
      simp only at h5
      omega
    · rw [Phi.add_ne _ _ e] at h3
      rw [Phi.add_ne _ _ e'] at h4
      exact hR.inj X X' r r' h1 h2 h3' h4' h3 h4 h5
  · obtain ⟨fp, q1, q2, q3, q4⟩ := hR.res
    have hnB : ∀ X, isRes (s.t.at_ X) = true → X ≠ B := fun X h e => by rw [e, ho, hno] at h; cases h
    refine ⟨fp, fun X r' y h h' => ?_, fun X r' k h h' hk => ?_, fun X X' r1 r2 k h1 h2 h3 h4 => ?_, fun X X' r1 r2 h1 h2 h3 h4 h5 => ?_⟩
    · rw [Phi.add_ne _ _ (hnB X (by rw [h']; rfl))] at h
      exact W0.riX hup (W0.riF (q1 X r' y h h') (fun k hk => Below.heap_alloc w x k (q2 X r' k h (by rw [h']; rfl) hk).2) (show w.heap.size ≤ (w.alloc x).heap.size by simp))
    · rw [Phi.add_ne _ _ (hnB X h')] at h
      have := q2 X r' k h h' hk
      exact ⟨this.1, by simp; omega⟩
    · rw [Phi.add_ne _ _ (hnB X h3)] at h1
      rw [Phi.add_ne _ _ (hnB X' h4)] at h2
      exact q3 X X' r1 r2 k h1 h2 h3 h4
    · rw [Phi.add_ne _ _ (hnB X h3)] at h1
      by_cases e : X' = B
      · subst e
        rw [Phi.add_same] at h2; cases h2
        intro hk
        have := (q2 X r1 _ h1 h3 hk).2
        simp only at this
        omega
      · rw [Phi.add_ne _ _ e] at h2
        exact q4 X X' r1 r2 h1 h2 h3 h4 h5
end
end Go.Eva
