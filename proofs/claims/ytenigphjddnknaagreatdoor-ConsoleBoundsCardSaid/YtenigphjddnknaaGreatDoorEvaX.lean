/-
  Two runs that part at an open test, joined: plain definitions. No program in sight.
-/
import Derived.Test.YtenigphjddnknaaGreatDoorEvaD
namespace Go.Eva
open Go Go.RowKit Go.Viv

mutual
def veq : Value → Value → Bool
  | .bool a, .bool b => a == b
  | .int k a, .int j b => k == j && a == b
  | .string a, .string b => a.data.toList == b.data.toList
  | .pointer none, .pointer none => true
  | .pointer (some ⟨a, o, none⟩), .pointer (some ⟨b, p, none⟩) => Nat.beq a b && Nat.beq o p
  | .slice none a b, .slice none c d => Nat.beq a c && Nat.beq b d
  | .slice (some ⟨a, o, none⟩) n c, .slice (some ⟨b, p, none⟩) m d => Nat.beq a b && Nat.beq o p && Nat.beq n m && Nat.beq c d
  | .map none, .map none => true
  | .chan (some a), .chan (some b) => Nat.beq a b
  | .map (some a), .map (some b) => Nat.beq a b
  | .func (.func f) ⟨a⟩ ⟨b⟩, .func (.func g) ⟨c⟩ ⟨d⟩ => Nat.beq f g && veqL a c && veqL b d
  | .nilFunc, .nilFunc => true
  | .iface t v, .iface u w => Nat.beq t u && veq v w
  | .nilIface, .nilIface => true
  | .agg ⟨a⟩, .agg ⟨b⟩ => veqL a b
  | .tuple ⟨a⟩, .tuple ⟨b⟩ => veqL a b
  | _, _ => false
def veqL : List Value → List Value → Bool
  | [], [] => true
  | a :: l, b :: k => veq a b && veqL l k
  | _, _ => false
end
mutual
theorem veq_spec : ∀ {a b : Value}, veq a b = true → a = b
  | .bool a, .bool b, h => by simp [veq] at h; rw [h]
  | .int k a, .int j b, h => by simp [veq] at h; rw [h.1, h.2]
  | .string a, .string b, h => by
    simp [veq] at h
    obtain ⟨⟨a⟩⟩ := a
    obtain ⟨⟨b⟩⟩ := b
    simp at h
    rw [h]
  | .pointer none, .pointer none, _ => rfl
  | .pointer (some ⟨a, o, none⟩), .pointer (some ⟨b, p, none⟩), h => by simp [veq] at h; rw [h.1, h.2]
  | .slice none a b, .slice none c d, h => by simp [veq] at h; rw [h.1, h.2]
  | .slice (some ⟨a, o, none⟩) n c, .slice (some ⟨b, p, none⟩) m d, h => by simp [veq] at h; obtain ⟨⟨⟨h1, h2⟩, h3⟩, h4⟩ := h; rw [h1, h2, h3, h4]
  | .map none, .map none, _ => rfl
  | .chan (some a), .chan (some b), h => by simp [veq] at h; rw [h]
  | .map (some a), .map (some b), h => by simp [veq] at h; rw [h]
  | .func (.func f) ⟨a⟩ ⟨b⟩, .func (.func g) ⟨c⟩ ⟨d⟩, h => by simp [veq] at h; rw [h.1.1, veqL_spec h.1.2, veqL_spec h.2]
  | .nilFunc, .nilFunc, _ => rfl
  | .iface t v, .iface u w, h => by simp [veq] at h; rw [h.1, veq_spec h.2]
  | .nilIface, .nilIface, _ => rfl
  | .agg ⟨a⟩, .agg ⟨b⟩, h => by simp only [veq] at h; rw [veqL_spec h]
  | .tuple ⟨a⟩, .tuple ⟨b⟩, h => by simp only [veq] at h; rw [veqL_spec h]
theorem veqL_spec : ∀ {a b : List Value}, veqL a b = true → a = b
  | [], [], _ => rfl
  | a :: l, b :: k, h => by simp only [veqL, Bool.and_eq_true] at h; rw [veq_spec h.1, veqL_spec h.2]
  | [], _ :: _, h => by simp [veqL] at h
  | _ :: _, [], h => by simp [veqL] at h
end
/-! ### Trees, two by two -/
namespace Tr
variable {α : Type}
def mapo (f : Option α → Option α) : Tr α → Tr α
  | .nil => .nil
  | .node l v r => .node (mapo f l) (f v) (mapo f r)
def zipW (f : Option α → Option α → Option α) : Tr α → Tr α → Tr α
  | .nil, t => mapo (f none) t
  | .node l v r, t => .node (zipW f l t.left) (f v t.val) (zipW f r t.right)
theorem mapo_get {f : Option α → Option α} (hf : f none = none) : ∀ (p : Pz) (t : Tr α), (mapo f t).get p = f (t.get p)
  | .h, .nil => hf.symm
  | .h, .node _ _ _ => rfl
  | .o p, .nil => by
    have := mapo_get hf p .nil
    exact this
  | .o p, .node l _ _ => mapo_get hf p l
  | .i p, .nil => by
    have := mapo_get hf p .nil
    exact this
  | .i p, .node _ _ r => mapo_get hf p r
theorem zipW_get {f : Option α → Option α → Option α} (hf : f none none = none) : ∀ (p : Pz) (t u : Tr α), (zipW f t u).get p = f (t.get p) (u.get p)
  | p, .nil, u => by
    have e : (Tr.nil : Tr α).get p = none := by
      induction p with
      | h => rfl
      | o p ih => exact ih
      | i p ih => exact ih
    rw [e]
    exact mapo_get (f := f none) hf p u
  | .h, .node _ _ _, _ => rfl
  | .o p, .node l _ _, u => zipW_get hf p l u.left
  | .i p, .node _ _ r, u => zipW_get hf p r u.right
theorem zipW_at {f : Option α → Option α → Option α} (hf : f none none = none) (t u : Tr α) (n : Nat) : (zipW f t u).at_ n = f (t.at_ n) (u.at_ n) := zipW_get hf _ _ _
end Tr
/-! ### What is told of a value that is one or the other -/
def leafV : Value → Bool
  | .bool _ => true
  | .int _ _ => true
  | .chan (some _) => true
  | _ => false
def pickO : Op := .pick (.tmp 0) (.tmp 1) (.tmp 2)
section
variable (sy : Sy) (c : Nat)
def jl (a b : Value) : Value := match veq a b with
  | true => a
  | false => match leafV a && leafV b with
    | true => (match sy pickO [.chan (some c), a, b] with
      | some v => v
      | none => .chan none)
    | false => .chan none
def jv : Nat → Value → Value → Value
  | 0, a, b => jl sy c a b
  | d + 1, a, b => match a, b with
    | .agg ⟨l⟩, .agg ⟨k⟩ => (match Nat.beq l.length k.length with
      | true => .agg ⟨List.zipWith (jv d) l k⟩
      | false => .chan none)
    | .tuple ⟨l⟩, .tuple ⟨k⟩ => (match Nat.beq l.length k.length with
      | true => .tuple ⟨List.zipWith (jv d) l k⟩
      | false => .chan none)
    | a, b => jl sy c a b
def meq : List MapEntry → List MapEntry → Bool
  | [], [] => true
  | a :: l, b :: k => veq a.key b.key && veq a.val b.val && Nat.beq a.born b.born && meq l k
  | _, _ => false
def jo : Option AObj → Option AObj → Option AObj
  | some (.cells a e r), some (.cells b f s) => (match Nat.beq e f && r == s with
    | true => some (.cells (List.zipWith (jv sy c 2) a b) e r)
    | false => none)
  | some (.map a x), some (.map b y) => (match Nat.beq x y && meq a b with
    | true => some (.map a x)
    | false => none)
  | _, _ => none
def jr : Option Value → Option Value → Option Value
  | none, none => none
  | a, b => some (jv sy c 2 (a.getD (.tuple ⟨[]⟩)) (b.getD (.tuple ⟨[]⟩)))
def mxn (a b : Nat) : Nat := match Nat.ble a b with
  | true => b
  | false => a
def joinT (T U : Tr Value) : Tr Value := Tr.zipW (jr sy c) T U
def joinH (h g : Hp) : Hp := ⟨Tr.zipW (jo sy c) h.t g.t, mxn h.next g.next⟩
/-- Is an open value a test? -/
def testB : Bool := (sy pickO [.chan (some c), .bool true, .bool false]).isSome
end
/-- A test that is forked where it is made: the rest of its region is run for both answers. -/
def fkOp (P : Program) : Op → Bool
  | .binOp .eql t _ _ _ => (match P.underlying t with
    | some (.int .u64) => true
    | _ => false)
  | _ => false
def tokOf : Value → Option Nat
  | .chan (some c) => some c
  | _ => none
def fkT (P : Program) (sy : Sy) (o : Op) (v : Value) : Option Nat := match fkOp P o, tokOf v with
  | true, some c => (match testB sy c with
    | true => some c
    | false => none)
  | _, _ => none
theorem fkT_none {P : Program} {o : Op} {v : Value} : fkT P (fun _ _ => none) o v = none := by
  unfold fkT
  split
  · rfl
  · rfl
theorem fkT_tok {P : Program} {sy : Sy} {o : Op} {v : Value} {c : Nat} (h : fkT P sy o v = some c) : fkOp P o = true ∧ v = .chan (some c) ∧ testB sy c = true := by
  unfold fkT at h
  split at h <;> try (cases h; done)
  rename_i c' h1 h2
  split at h <;> try (cases h; done)
  rename_i h3
  cases h
  refine ⟨h1, ?_, h3⟩
  unfold tokOf at h2
  split at h2
  · cases h2; rfl
  · cases h2
theorem meq_spec : ∀ {a b : List MapEntry}, meq a b = true → a = b
  | [], [], _ => rfl
  | ⟨k, v, n⟩ :: l, ⟨k', v', n'⟩ :: l', h => by
    simp only [meq, Bool.and_eq_true] at h
    obtain ⟨⟨⟨h1, h2⟩, h3⟩, h4⟩ := h
    rw [veq_spec h1, veq_spec h2, Nat.eq_of_beq_eq_true h3, meq_spec h4]
  | [], _ :: _, h => by simp [meq] at h
  | _ :: _, [], h => by simp [meq] at h
theorem mxn_l (a b : Nat) : a ≤ mxn a b := by
  unfold mxn
  split
  · rename_i h; exact Nat.le_of_ble_eq_true h
  · exact Nat.le_refl _
theorem mxn_r (a b : Nat) : b ≤ mxn a b := by
  unfold mxn
  split
  · exact Nat.le_refl _
  · rename_i h
    rcases Nat.le_total a b with h' | h'
    · rw [Nat.ble_eq_true_of_le h'] at h; cases h
    · exact h'
end Go.Eva
