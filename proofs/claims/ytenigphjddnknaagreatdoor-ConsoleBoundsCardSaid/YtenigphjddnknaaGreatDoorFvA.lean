/-
  A run of a closed call, made for the kernel's speed: registers and memory in parts of sixteen, answers handed on. Plain definitions; no program in sight.
-/
import Derived.Test.YtenigphjddnknaaGreatDoorEvaN
namespace Go.Fv
open Go Go.Eva

inductive N16 (α : Type) where
  | mk (a0 a1 a2 a3 a4 a5 a6 a7 a8 a9 a10 a11 a12 a13 a14 a15 : α)
inductive D16 where
  | d0 | d1 | d2 | d3 | d4 | d5 | d6 | d7 | d8 | d9 | d10 | d11 | d12 | d13 | d14 | d15
  deriving DecidableEq
def D16.of (n : Nat) : D16 := match n with
  | 0 => .d0
  | 1 => .d1
  | 2 => .d2
  | 3 => .d3
  | 4 => .d4
  | 5 => .d5
  | 6 => .d6
  | 7 => .d7
  | 8 => .d8
  | 9 => .d9
  | 10 => .d10
  | 11 => .d11
  | 12 => .d12
  | 13 => .d13
  | 14 => .d14
  | _ => .d15
section
variable {α : Type}
noncomputable def g0 (x : N16 α) : α := N16.rec (motive := fun _ => α) (fun a0 _ _ _ _ _ _ _ _ _ _ _ _ _ _ _ => a0) x
noncomputable def g1 (x : N16 α) : α := N16.rec (motive := fun _ => α) (fun _ a1 _ _ _ _ _ _ _ _ _ _ _ _ _ _ => a1) x
noncomputable def g2 (x : N16 α) : α := N16.rec (motive := fun _ => α) (fun _ _ a2 _ _ _ _ _ _ _ _ _ _ _ _ _ => a2) x
noncomputable def g3 (x : N16 α) : α := N16.rec (motive := fun _ => α) (fun _ _ _ a3 _ _ _ _ _ _ _ _ _ _ _ _ => a3) x
noncomputable def g4 (x : N16 α) : α := N16.rec (motive := fun _ => α) (fun _ _ _ _ a4 _ _ _ _ _ _ _ _ _ _ _ => a4) x
noncomputable def g5 (x : N16 α) : α := N16.rec (motive := fun _ => α) (fun _ _ _ _ _ a5 _ _ _ _ _ _ _ _ _ _ => a5) x
noncomputable def g6 (x : N16 α) : α := N16.rec (motive := fun _ => α) (fun _ _ _ _ _ _ a6 _ _ _ _ _ _ _ _ _ => a6) x
noncomputable def g7 (x : N16 α) : α := N16.rec (motive := fun _ => α) (fun _ _ _ _ _ _ _ a7 _ _ _ _ _ _ _ _ => a7) x
noncomputable def g8 (x : N16 α) : α := N16.rec (motive := fun _ => α) (fun _ _ _ _ _ _ _ _ a8 _ _ _ _ _ _ _ => a8) x
noncomputable def g9 (x : N16 α) : α := N16.rec (motive := fun _ => α) (fun _ _ _ _ _ _ _ _ _ a9 _ _ _ _ _ _ => a9) x
noncomputable def g10 (x : N16 α) : α := N16.rec (motive := fun _ => α) (fun _ _ _ _ _ _ _ _ _ _ a10 _ _ _ _ _ => a10) x
noncomputable def g11 (x : N16 α) : α := N16.rec (motive := fun _ => α) (fun _ _ _ _ _ _ _ _ _ _ _ a11 _ _ _ _ => a11) x
noncomputable def g12 (x : N16 α) : α := N16.rec (motive := fun _ => α) (fun _ _ _ _ _ _ _ _ _ _ _ _ a12 _ _ _ => a12) x
noncomputable def g13 (x : N16 α) : α := N16.rec (motive := fun _ => α) (fun _ _ _ _ _ _ _ _ _ _ _ _ _ a13 _ _ => a13) x
noncomputable def g14 (x : N16 α) : α := N16.rec (motive := fun _ => α) (fun _ _ _ _ _ _ _ _ _ _ _ _ _ _ a14 _ => a14) x
noncomputable def g15 (x : N16 α) : α := N16.rec (motive := fun _ => α) (fun _ _ _ _ _ _ _ _ _ _ _ _ _ _ _ a15 => a15) x
noncomputable def c0 (x : N16 α) (k : α → Bool) : Bool := N16.rec (motive := fun _ => Bool) (fun a0 _ _ _ _ _ _ _ _ _ _ _ _ _ _ _ => k a0) x
noncomputable def c1 (x : N16 α) (k : α → Bool) : Bool := N16.rec (motive := fun _ => Bool) (fun _ a1 _ _ _ _ _ _ _ _ _ _ _ _ _ _ => k a1) x
noncomputable def c2 (x : N16 α) (k : α → Bool) : Bool := N16.rec (motive := fun _ => Bool) (fun _ _ a2 _ _ _ _ _ _ _ _ _ _ _ _ _ => k a2) x
noncomputable def c3 (x : N16 α) (k : α → Bool) : Bool := N16.rec (motive := fun _ => Bool) (fun _ _ _ a3 _ _ _ _ _ _ _ _ _ _ _ _ => k a3) x
noncomputable def c4 (x : N16 α) (k : α → Bool) : Bool := N16.rec (motive := fun _ => Bool) (fun _ _ _ _ a4 _ _ _ _ _ _ _ _ _ _ _ => k a4) x
noncomputable def c5 (x : N16 α) (k : α → Bool) : Bool := N16.rec (motive := fun _ => Bool) (fun _ _ _ _ _ a5 _ _ _ _ _ _ _ _ _ _ => k a5) x
noncomputable def c6 (x : N16 α) (k : α → Bool) : Bool := N16.rec (motive := fun _ => Bool) (fun _ _ _ _ _ _ a6 _ _ _ _ _ _ _ _ _ => k a6) x
noncomputable def c7 (x : N16 α) (k : α → Bool) : Bool := N16.rec (motive := fun _ => Bool) (fun _ _ _ _ _ _ _ a7 _ _ _ _ _ _ _ _ => k a7) x
noncomputable def c8 (x : N16 α) (k : α → Bool) : Bool := N16.rec (motive := fun _ => Bool) (fun _ _ _ _ _ _ _ _ a8 _ _ _ _ _ _ _ => k a8) x
noncomputable def c9 (x : N16 α) (k : α → Bool) : Bool := N16.rec (motive := fun _ => Bool) (fun _ _ _ _ _ _ _ _ _ a9 _ _ _ _ _ _ => k a9) x
noncomputable def c10 (x : N16 α) (k : α → Bool) : Bool := N16.rec (motive := fun _ => Bool) (fun _ _ _ _ _ _ _ _ _ _ a10 _ _ _ _ _ => k a10) x
noncomputable def c11 (x : N16 α) (k : α → Bool) : Bool := N16.rec (motive := fun _ => Bool) (fun _ _ _ _ _ _ _ _ _ _ _ a11 _ _ _ _ => k a11) x
noncomputable def c12 (x : N16 α) (k : α → Bool) : Bool := N16.rec (motive := fun _ => Bool) (fun _ _ _ _ _ _ _ _ _ _ _ _ a12 _ _ _ => k a12) x
noncomputable def c13 (x : N16 α) (k : α → Bool) : Bool := N16.rec (motive := fun _ => Bool) (fun _ _ _ _ _ _ _ _ _ _ _ _ _ a13 _ _ => k a13) x
noncomputable def c14 (x : N16 α) (k : α → Bool) : Bool := N16.rec (motive := fun _ => Bool) (fun _ _ _ _ _ _ _ _ _ _ _ _ _ _ a14 _ => k a14) x
noncomputable def c15 (x : N16 α) (k : α → Bool) : Bool := N16.rec (motive := fun _ => Bool) (fun _ _ _ _ _ _ _ _ _ _ _ _ _ _ _ a15 => k a15) x
noncomputable def p0 (v : α) (x : N16 α) : N16 α := N16.rec (motive := fun _ => N16 α) (fun _ a1 a2 a3 a4 a5 a6 a7 a8 a9 a10 a11 a12 a13 a14 a15 => .mk v a1 a2 a3 a4 a5 a6 a7 a8 a9 a10 a11 a12 a13 a14 a15) x
noncomputable def p1 (v : α) (x : N16 α) : N16 α := N16.rec (motive := fun _ => N16 α) (fun a0 _ a2 a3 a4 a5 a6 a7 a8 a9 a10 a11 a12 a13 a14 a15 => .mk a0 v a2 a3 a4 a5 a6 a7 a8 a9 a10 a11 a12 a13 a14 a15) x
noncomputable def p2 (v : α) (x : N16 α) : N16 α := N16.rec (motive := fun _ => N16 α) (fun a0 a1 _ a3 a4 a5 a6 a7 a8 a9 a10 a11 a12 a13 a14 a15 => .mk a0 a1 v a3 a4 a5 a6 a7 a8 a9 a10 a11 a12 a13 a14 a15) x
noncomputable def p3 (v : α) (x : N16 α) : N16 α := N16.rec (motive := fun _ => N16 α) (fun a0 a1 a2 _ a4 a5 a6 a7 a8 a9 a10 a11 a12 a13 a14 a15 => .mk a0 a1 a2 v a4 a5 a6 a7 a8 a9 a10 a11 a12 a13 a14 a15) x
noncomputable def p4 (v : α) (x : N16 α) : N16 α := N16.rec (motive := fun _ => N16 α) (fun a0 a1 a2 a3 _ a5 a6 a7 a8 a9 a10 a11 a12 a13 a14 a15 => .mk a0 a1 a2 a3 v a5 a6 a7 a8 a9 a10 a11 a12 a13 a14 a15) x
noncomputable def p5 (v : α) (x : N16 α) : N16 α := N16.rec (motive := fun _ => N16 α) (fun a0 a1 a2 a3 a4 _ a6 a7 a8 a9 a10 a11 a12 a13 a14 a15 => .mk a0 a1 a2 a3 a4 v a6 a7 a8 a9 a10 a11 a12 a13 a14 a15) x
noncomputable def p6 (v : α) (x : N16 α) : N16 α := N16.rec (motive := fun _ => N16 α) (fun a0 a1 a2 a3 a4 a5 _ a7 a8 a9 a10 a11 a12 a13 a14 a15 => .mk a0 a1 a2 a3 a4 a5 v a7 a8 a9 a10 a11 a12 a13 a14 a15) x
noncomputable def p7 (v : α) (x : N16 α) : N16 α := N16.rec (motive := fun _ => N16 α) (fun a0 a1 a2 a3 a4 a5 a6 _ a8 a9 a10 a11 a12 a13 a14 a15 => .mk a0 a1 a2 a3 a4 a5 a6 v a8 a9 a10 a11 a12 a13 a14 a15) x
noncomputable def p8 (v : α) (x : N16 α) : N16 α := N16.rec (motive := fun _ => N16 α) (fun a0 a1 a2 a3 a4 a5 a6 a7 _ a9 a10 a11 a12 a13 a14 a15 => .mk a0 a1 a2 a3 a4 a5 a6 a7 v a9 a10 a11 a12 a13 a14 a15) x
noncomputable def p9 (v : α) (x : N16 α) : N16 α := N16.rec (motive := fun _ => N16 α) (fun a0 a1 a2 a3 a4 a5 a6 a7 a8 _ a10 a11 a12 a13 a14 a15 => .mk a0 a1 a2 a3 a4 a5 a6 a7 a8 v a10 a11 a12 a13 a14 a15) x
noncomputable def p10 (v : α) (x : N16 α) : N16 α := N16.rec (motive := fun _ => N16 α) (fun a0 a1 a2 a3 a4 a5 a6 a7 a8 a9 _ a11 a12 a13 a14 a15 => .mk a0 a1 a2 a3 a4 a5 a6 a7 a8 a9 v a11 a12 a13 a14 a15) x
noncomputable def p11 (v : α) (x : N16 α) : N16 α := N16.rec (motive := fun _ => N16 α) (fun a0 a1 a2 a3 a4 a5 a6 a7 a8 a9 a10 _ a12 a13 a14 a15 => .mk a0 a1 a2 a3 a4 a5 a6 a7 a8 a9 a10 v a12 a13 a14 a15) x
noncomputable def p12 (v : α) (x : N16 α) : N16 α := N16.rec (motive := fun _ => N16 α) (fun a0 a1 a2 a3 a4 a5 a6 a7 a8 a9 a10 a11 _ a13 a14 a15 => .mk a0 a1 a2 a3 a4 a5 a6 a7 a8 a9 a10 a11 v a13 a14 a15) x
noncomputable def p13 (v : α) (x : N16 α) : N16 α := N16.rec (motive := fun _ => N16 α) (fun a0 a1 a2 a3 a4 a5 a6 a7 a8 a9 a10 a11 a12 _ a14 a15 => .mk a0 a1 a2 a3 a4 a5 a6 a7 a8 a9 a10 a11 a12 v a14 a15) x
noncomputable def p14 (v : α) (x : N16 α) : N16 α := N16.rec (motive := fun _ => N16 α) (fun a0 a1 a2 a3 a4 a5 a6 a7 a8 a9 a10 a11 a12 a13 _ a15 => .mk a0 a1 a2 a3 a4 a5 a6 a7 a8 a9 a10 a11 a12 a13 v a15) x
noncomputable def p15 (v : α) (x : N16 α) : N16 α := N16.rec (motive := fun _ => N16 α) (fun a0 a1 a2 a3 a4 a5 a6 a7 a8 a9 a10 a11 a12 a13 a14 _ => .mk a0 a1 a2 a3 a4 a5 a6 a7 a8 a9 a10 a11 a12 a13 a14 v) x
noncomputable def s0 (v : α) (x : N16 α) (k : N16 α → Bool) : Bool := N16.rec (motive := fun _ => Bool) (fun _ a1 a2 a3 a4 a5 a6 a7 a8 a9 a10 a11 a12 a13 a14 a15 => k (.mk v a1 a2 a3 a4 a5 a6 a7 a8 a9 a10 a11 a12 a13 a14 a15)) x
noncomputable def s1 (v : α) (x : N16 α) (k : N16 α → Bool) : Bool := N16.rec (motive := fun _ => Bool) (fun a0 _ a2 a3 a4 a5 a6 a7 a8 a9 a10 a11 a12 a13 a14 a15 => k (.mk a0 v a2 a3 a4 a5 a6 a7 a8 a9 a10 a11 a12 a13 a14 a15)) x
noncomputable def s2 (v : α) (x : N16 α) (k : N16 α → Bool) : Bool := N16.rec (motive := fun _ => Bool) (fun a0 a1 _ a3 a4 a5 a6 a7 a8 a9 a10 a11 a12 a13 a14 a15 => k (.mk a0 a1 v a3 a4 a5 a6 a7 a8 a9 a10 a11 a12 a13 a14 a15)) x
noncomputable def s3 (v : α) (x : N16 α) (k : N16 α → Bool) : Bool := N16.rec (motive := fun _ => Bool) (fun a0 a1 a2 _ a4 a5 a6 a7 a8 a9 a10 a11 a12 a13 a14 a15 => k (.mk a0 a1 a2 v a4 a5 a6 a7 a8 a9 a10 a11 a12 a13 a14 a15)) x
noncomputable def s4 (v : α) (x : N16 α) (k : N16 α → Bool) : Bool := N16.rec (motive := fun _ => Bool) (fun a0 a1 a2 a3 _ a5 a6 a7 a8 a9 a10 a11 a12 a13 a14 a15 => k (.mk a0 a1 a2 a3 v a5 a6 a7 a8 a9 a10 a11 a12 a13 a14 a15)) x
noncomputable def s5 (v : α) (x : N16 α) (k : N16 α → Bool) : Bool := N16.rec (motive := fun _ => Bool) (fun a0 a1 a2 a3 a4 _ a6 a7 a8 a9 a10 a11 a12 a13 a14 a15 => k (.mk a0 a1 a2 a3 a4 v a6 a7 a8 a9 a10 a11 a12 a13 a14 a15)) x
noncomputable def s6 (v : α) (x : N16 α) (k : N16 α → Bool) : Bool := N16.rec (motive := fun _ => Bool) (fun a0 a1 a2 a3 a4 a5 _ a7 a8 a9 a10 a11 a12 a13 a14 a15 => k (.mk a0 a1 a2 a3 a4 a5 v a7 a8 a9 a10 a11 a12 a13 a14 a15)) x
noncomputable def s7 (v : α) (x : N16 α) (k : N16 α → Bool) : Bool := N16.rec (motive := fun _ => Bool) (fun a0 a1 a2 a3 a4 a5 a6 _ a8 a9 a10 a11 a12 a13 a14 a15 => k (.mk a0 a1 a2 a3 a4 a5 a6 v a8 a9 a10 a11 a12 a13 a14 a15)) x
noncomputable def s8 (v : α) (x : N16 α) (k : N16 α → Bool) : Bool := N16.rec (motive := fun _ => Bool) (fun a0 a1 a2 a3 a4 a5 a6 a7 _ a9 a10 a11 a12 a13 a14 a15 => k (.mk a0 a1 a2 a3 a4 a5 a6 a7 v a9 a10 a11 a12 a13 a14 a15)) x
noncomputable def s9 (v : α) (x : N16 α) (k : N16 α → Bool) : Bool := N16.rec (motive := fun _ => Bool) (fun a0 a1 a2 a3 a4 a5 a6 a7 a8 _ a10 a11 a12 a13 a14 a15 => k (.mk a0 a1 a2 a3 a4 a5 a6 a7 a8 v a10 a11 a12 a13 a14 a15)) x
noncomputable def s10 (v : α) (x : N16 α) (k : N16 α → Bool) : Bool := N16.rec (motive := fun _ => Bool) (fun a0 a1 a2 a3 a4 a5 a6 a7 a8 a9 _ a11 a12 a13 a14 a15 => k (.mk a0 a1 a2 a3 a4 a5 a6 a7 a8 a9 v a11 a12 a13 a14 a15)) x
noncomputable def s11 (v : α) (x : N16 α) (k : N16 α → Bool) : Bool := N16.rec (motive := fun _ => Bool) (fun a0 a1 a2 a3 a4 a5 a6 a7 a8 a9 a10 _ a12 a13 a14 a15 => k (.mk a0 a1 a2 a3 a4 a5 a6 a7 a8 a9 a10 v a12 a13 a14 a15)) x
noncomputable def s12 (v : α) (x : N16 α) (k : N16 α → Bool) : Bool := N16.rec (motive := fun _ => Bool) (fun a0 a1 a2 a3 a4 a5 a6 a7 a8 a9 a10 a11 _ a13 a14 a15 => k (.mk a0 a1 a2 a3 a4 a5 a6 a7 a8 a9 a10 a11 v a13 a14 a15)) x
noncomputable def s13 (v : α) (x : N16 α) (k : N16 α → Bool) : Bool := N16.rec (motive := fun _ => Bool) (fun a0 a1 a2 a3 a4 a5 a6 a7 a8 a9 a10 a11 a12 _ a14 a15 => k (.mk a0 a1 a2 a3 a4 a5 a6 a7 a8 a9 a10 a11 a12 v a14 a15)) x
noncomputable def s14 (v : α) (x : N16 α) (k : N16 α → Bool) : Bool := N16.rec (motive := fun _ => Bool) (fun a0 a1 a2 a3 a4 a5 a6 a7 a8 a9 a10 a11 a12 a13 _ a15 => k (.mk a0 a1 a2 a3 a4 a5 a6 a7 a8 a9 a10 a11 a12 a13 v a15)) x
noncomputable def s15 (v : α) (x : N16 α) (k : N16 α → Bool) : Bool := N16.rec (motive := fun _ => Bool) (fun a0 a1 a2 a3 a4 a5 a6 a7 a8 a9 a10 a11 a12 a13 a14 _ => k (.mk a0 a1 a2 a3 a4 a5 a6 a7 a8 a9 a10 a11 a12 a13 a14 v)) x
noncomputable def N16.get (d : D16) : N16 α → α := D16.rec (motive := fun _ => N16 α → α) g0 g1 g2 g3 g4 g5 g6 g7 g8 g9 g10 g11 g12 g13 g14 g15 d
noncomputable def N16.cas (d : D16) : N16 α → (α → Bool) → Bool := D16.rec (motive := fun _ => N16 α → (α → Bool) → Bool) c0 c1 c2 c3 c4 c5 c6 c7 c8 c9 c10 c11 c12 c13 c14 c15 d
noncomputable def N16.put (d : D16) : α → N16 α → N16 α := D16.rec (motive := fun _ => α → N16 α → N16 α) p0 p1 p2 p3 p4 p5 p6 p7 p8 p9 p10 p11 p12 p13 p14 p15 d
noncomputable def N16.putK (d : D16) : α → N16 α → (N16 α → Bool) → Bool := D16.rec (motive := fun _ => α → N16 α → (N16 α → Bool) → Bool) s0 s1 s2 s3 s4 s5 s6 s7 s8 s9 s10 s11 s12 s13 s14 s15 d
theorem N16.cas_eq (d : D16) (x : N16 α) (k : α → Bool) : N16.cas d x k = k (N16.get d x) := by cases d <;> cases x <;> rfl
theorem N16.putK_eq (d : D16) (v : α) (x : N16 α) (k : N16 α → Bool) : N16.putK d v x k = k (N16.put d v x) := by cases d <;> cases x <;> rfl
theorem N16.get_same (d : D16) (v : α) (x : N16 α) : N16.get d (N16.put d v x) = v := by cases d <;> cases x <;> rfl
theorem N16.get_ne {d e : D16} (v : α) (x : N16 α) (h : d ≠ e) : N16.get e (N16.put d v x) = N16.get e x := by cases d <;> cases e <;> first | exact absurd rfl h | (cases x; rfl)
def N16.all (v : α) : N16 α := .mk v v v v v v v v v v v v v v v v
theorem N16.get_all (v : α) (d : D16) : N16.get d (N16.all v) = v := by cases d <;> rfl
end
theorem D16.of_inj {n m : Nat} (hn : n < 16) (hm : m < 16) (h : D16.of n = D16.of m) : n = m := by
  have f : ∀ n : Fin 16, ∀ m : Fin 16, D16.of n.1 = D16.of m.1 → n = m := by decide
  exact congrArg Fin.val (f ⟨n, hn⟩ ⟨m, hm⟩ h)
/-! ### Values by kind: arms are closed, what goes on is handed over -/
noncomputable def vInt (v : Value) : (IntKind → Int → Bool) → Bool → Bool := Value.rec (motive_1 := fun _ => (IntKind → Int → Bool) → Bool → Bool) (motive_2 := fun _ => Unit) (motive_3 := fun _ => Unit) (fun _ => fun _ d => d) (fun k n f _ => f k n) (fun _ _ => fun _ d => d) (fun _ _ _ => fun _ d => d) (fun _ => fun _ d => d) (fun _ => fun _ d => d) (fun _ _ _ => fun _ d => d) (fun _ => fun _ d => d) (fun _ => fun _ d => d) (fun _ _ _ _ _ => fun _ d => d) (fun _ d => d) (fun _ _ _ => fun _ d => d) (fun _ d => d) (fun _ _ => fun _ d => d) (fun _ _ => fun _ d => d) (fun _ _ => ()) () (fun _ _ _ _ => ()) v
noncomputable def vBool (v : Value) : Bool → Bool → Bool → Bool := Value.rec (motive_1 := fun _ => Bool → Bool → Bool → Bool) (motive_2 := fun _ => Unit) (motive_3 := fun _ => Unit) (fun b x y _ => Bool.rec (motive := fun _ => Bool) y x b) (fun _ _ => fun _ _ d => d) (fun _ _ => fun _ _ d => d) (fun _ _ _ => fun _ _ d => d) (fun _ => fun _ _ d => d) (fun _ => fun _ _ d => d) (fun _ _ _ => fun _ _ d => d) (fun _ => fun _ _ d => d) (fun _ => fun _ _ d => d) (fun _ _ _ _ _ => fun _ _ d => d) (fun _ _ d => d) (fun _ _ _ => fun _ _ d => d) (fun _ _ d => d) (fun _ _ => fun _ _ d => d) (fun _ _ => fun _ _ d => d) (fun _ _ => ()) () (fun _ _ _ _ => ()) v
noncomputable def oAddr (a : Option Addr) : (Nat → Nat → Bool) → Bool → Bool := Option.rec (motive := fun _ => (Nat → Nat → Bool) → Bool → Bool) (fun _ d => d) (fun a f d => Addr.rec (motive := fun _ => Bool) (fun b o s => Option.rec (motive := fun _ => Bool) (f b o) (fun _ => d) s) a) a
noncomputable def vPtr (v : Value) : (Nat → Nat → Bool) → Bool → Bool := Value.rec (motive_1 := fun _ => (Nat → Nat → Bool) → Bool → Bool) (motive_2 := fun _ => Unit) (motive_3 := fun _ => Unit) (fun _ => fun _ d => d) (fun _ _ => fun _ d => d) (fun _ _ => fun _ d => d) (fun _ _ _ => fun _ d => d) (fun _ => fun _ d => d) (fun a => oAddr a) (fun _ _ _ => fun _ d => d) (fun _ => fun _ d => d) (fun _ => fun _ d => d) (fun _ _ _ _ _ => fun _ d => d) (fun _ d => d) (fun _ _ _ => fun _ d => d) (fun _ d => d) (fun _ _ => fun _ d => d) (fun _ _ => fun _ d => d) (fun _ _ => ()) () (fun _ _ _ _ => ()) v
noncomputable def vSlice (v : Value) : (Nat → Nat → Nat → Nat → Bool) → Bool → Bool := Value.rec (motive_1 := fun _ => (Nat → Nat → Nat → Nat → Bool) → Bool → Bool) (motive_2 := fun _ => Unit) (motive_3 := fun _ => Unit) (fun _ => fun _ d => d) (fun _ _ => fun _ d => d) (fun _ _ => fun _ d => d) (fun _ _ _ => fun _ d => d) (fun _ => fun _ d => d) (fun _ => fun _ d => d) (fun a n c f d => oAddr a (fun b o => f b o n c) d) (fun _ => fun _ d => d) (fun _ => fun _ d => d) (fun _ _ _ _ _ => fun _ d => d) (fun _ d => d) (fun _ _ _ => fun _ d => d) (fun _ d => d) (fun _ _ => fun _ d => d) (fun _ _ => fun _ d => d) (fun _ _ => ()) () (fun _ _ _ _ => ()) v
noncomputable def vLen (v : Value) : (Nat → Bool) → Bool → Bool := Value.rec (motive_1 := fun _ => (Nat → Bool) → Bool → Bool) (motive_2 := fun _ => Unit) (motive_3 := fun _ => Unit) (fun _ => fun _ d => d) (fun _ _ => fun _ d => d) (fun _ _ => fun _ d => d) (fun _ _ _ => fun _ d => d) (fun _ => fun _ d => d) (fun _ => fun _ d => d) (fun _ n _ f _ => f n) (fun _ => fun _ d => d) (fun _ => fun _ d => d) (fun _ _ _ _ _ => fun _ d => d) (fun _ d => d) (fun _ _ _ => fun _ d => d) (fun _ d => d) (fun _ _ => fun _ d => d) (fun _ _ => fun _ d => d) (fun _ _ => ()) () (fun _ _ _ _ => ()) v
noncomputable def arr (a : Array Value) (f : List Value → Bool) : Bool := Array.rec (motive := fun _ => Bool) f a
noncomputable def vAgg (v : Value) : (List Value → Bool) → Bool → Bool := Value.rec (motive_1 := fun _ => (List Value → Bool) → Bool → Bool) (motive_2 := fun _ => Unit) (motive_3 := fun _ => Unit) (fun _ => fun _ d => d) (fun _ _ => fun _ d => d) (fun _ _ => fun _ d => d) (fun _ _ _ => fun _ d => d) (fun _ => fun _ d => d) (fun _ => fun _ d => d) (fun _ _ _ => fun _ d => d) (fun _ => fun _ d => d) (fun _ => fun _ d => d) (fun _ _ _ _ _ => fun _ d => d) (fun _ d => d) (fun _ _ _ => fun _ d => d) (fun _ d => d) (fun a _ f _ => arr a f) (fun _ _ => fun _ d => d) (fun _ _ => ()) () (fun _ _ _ _ => ()) v
noncomputable def vTup (v : Value) : (List Value → Bool) → Bool → Bool := Value.rec (motive_1 := fun _ => (List Value → Bool) → Bool → Bool) (motive_2 := fun _ => Unit) (motive_3 := fun _ => Unit) (fun _ => fun _ d => d) (fun _ _ => fun _ d => d) (fun _ _ => fun _ d => d) (fun _ _ _ => fun _ d => d) (fun _ => fun _ d => d) (fun _ => fun _ d => d) (fun _ _ _ => fun _ d => d) (fun _ => fun _ d => d) (fun _ => fun _ d => d) (fun _ _ _ _ _ => fun _ d => d) (fun _ d => d) (fun _ _ _ => fun _ d => d) (fun _ d => d) (fun _ _ => fun _ d => d) (fun a _ f _ => arr a f) (fun _ _ => ()) () (fun _ _ _ _ => ()) v
noncomputable def isOne (v : Value) : Bool := Value.rec (motive_1 := fun _ => Bool) (motive_2 := fun _ => Unit) (motive_3 := fun _ => Unit) (fun _ => true) (fun _ _ => true) (fun _ _ => true) (fun _ _ _ => true) (fun _ => true) (fun _ => true) (fun _ _ _ => true) (fun _ => true) (fun r => Option.rec (motive := fun _ => Bool) false (fun _ => true) r) (fun _ _ _ _ _ => true) (true) (fun _ _ _ => true) (true) (fun _ _ => false) (fun _ _ => false) (fun _ _ => ()) () (fun _ _ _ _ => ()) v
noncomputable def fN (n : Nat) (f : Nat → Bool) : Bool := Nat.rec (motive := fun _ => Bool) (f 0) (fun m _ => f m) (Nat.add n 1)
theorem fN_eq (n : Nat) (f : Nat → Bool) : fN n f = f n := rfl
noncomputable def iNat (n : Int) : (Nat → Bool) → Bool → Bool := Int.rec (motive := fun _ => (Nat → Bool) → Bool → Bool) (fun m f _ => f m) (fun _ _ d => d) n
noncomputable def kEq (k : IntKind) : IntKind → Bool := IntKind.rec (motive := fun _ => IntKind → Bool) (fun j => IntKind.rec (motive := fun _ => Bool) true false false false false false false false j) (fun j => IntKind.rec (motive := fun _ => Bool) false true false false false false false false j) (fun j => IntKind.rec (motive := fun _ => Bool) false false true false false false false false j) (fun j => IntKind.rec (motive := fun _ => Bool) false false false true false false false false j) (fun j => IntKind.rec (motive := fun _ => Bool) false false false false true false false false j) (fun j => IntKind.rec (motive := fun _ => Bool) false false false false false true false false j) (fun j => IntKind.rec (motive := fun _ => Bool) false false false false false false true false j) (fun j => IntKind.rec (motive := fun _ => Bool) false false false false false false false true j) k
theorem kEq_iff {k j : IntKind} (h : kEq k j = true) : k = j := by cases k <;> cases j <;> first | rfl | cases h
theorem vInt_of {v : Value} {f : IntKind → Int → Bool} {d : Bool} (h : vInt v f d = true) : (∃ k n, v = .int k n ∧ f k n = true) ∨ d = true := by
  cases v <;> first | exact .inr h | exact .inl ⟨_, _, rfl, h⟩
theorem oAddr_of {a : Option Addr} {f : Nat → Nat → Bool} {d : Bool} (h : oAddr a f d = true) : (∃ b o, a = some ⟨b, o, none⟩ ∧ f b o = true) ∨ d = true := by
  cases a with
  | none => exact .inr h
  | some a =>
    obtain ⟨b, o, s⟩ := a
    cases s
    · exact .inl ⟨_, _, rfl, h⟩
    · exact .inr h
theorem vPtr_of {v : Value} {f : Nat → Nat → Bool} {d : Bool} (h : vPtr v f d = true) : (∃ b o, v = .pointer (some ⟨b, o, none⟩) ∧ f b o = true) ∨ d = true := by
  cases v <;> try exact .inr h
  rcases oAddr_of h with ⟨b, o, rfl, h⟩ | h
  · exact .inl ⟨b, o, rfl, h⟩
  · exact .inr h
theorem vSlice_of {v : Value} {f : Nat → Nat → Nat → Nat → Bool} {d : Bool} (h : vSlice v f d = true) : (∃ b o n c, v = .slice (some ⟨b, o, none⟩) n c ∧ f b o n c = true) ∨ d = true := by
  cases v <;> try exact .inr h
  rcases oAddr_of h with ⟨b, o, rfl, h⟩ | h
  · exact .inl ⟨b, o, _, _, rfl, h⟩
  · exact .inr h
theorem vLen_of {v : Value} {f : Nat → Bool} {d : Bool} (h : vLen v f d = true) : (∃ a n c, v = .slice a n c ∧ f n = true) ∨ d = true := by
  cases v <;> first | exact .inr h | exact .inl ⟨_, _, _, rfl, h⟩
theorem vAgg_of {v : Value} {f : List Value → Bool} {d : Bool} (h : vAgg v f d = true) : (∃ l, v = .agg ⟨l⟩ ∧ f l = true) ∨ d = true := by
  cases v <;> first | exact .inr h | exact .inl ⟨_, rfl, h⟩
theorem vTup_of {v : Value} {f : List Value → Bool} {d : Bool} (h : vTup v f d = true) : (∃ l, v = .tuple ⟨l⟩ ∧ f l = true) ∨ d = true := by
  cases v <;> first | exact .inr h | exact .inl ⟨_, rfl, h⟩
theorem vBool_of {v : Value} {x y d : Bool} (h : vBool v x y d = true) : (v = .bool true ∧ x = true) ∨ (v = .bool false ∧ y = true) ∨ d = true := by
  cases v <;> try exact .inr (.inr h)
  rename_i b
  cases b
  · exact .inr (.inl ⟨rfl, h⟩)
  · exact .inl ⟨rfl, h⟩
theorem isOne_of {v : Value} (h : isOne v = true) : cellsL v = [v] ∧ oneB v = true := by
  cases v <;> try exact ⟨rfl, rfl⟩
  · rename_i r; cases r
    · cases h
    · exact ⟨rfl, rfl⟩
  · cases h
  · cases h
theorem iNat_of {n : Int} {f : Nat → Bool} {d : Bool} (h : iNat n f d = true) : (∃ m : Nat, n = .ofNat m ∧ f m = true) ∨ d = true := by
  cases n
  · exact .inl ⟨_, rfl, h⟩
  · exact .inr h
/-! ### A value brought to its plain form -/
noncomputable def fB (b : Bool) (f : Bool → Bool) : Bool := Bool.rec (motive := fun _ => Bool) (f false) (f true) b
noncomputable def fK (k : IntKind) (f : IntKind → Bool) : Bool := IntKind.rec (motive := fun _ => Bool) (f .i8) (f .i16) (f .i32) (f .i64) (f .u8) (f .u16) (f .u32) (f .u64) k
noncomputable def fI (n : Int) (f : Int → Bool) : Bool := Int.rec (motive := fun _ => Bool) (fun m => fN m fun m => f (.ofNat m)) (fun m => fN m fun m => f (.negSucc m)) n
noncomputable def fO (r : Option Nat) (f : Option Nat → Bool) : Bool := Option.rec (motive := fun _ => Bool) (f none) (fun m => fN m fun m => f (some m)) r
noncomputable def fA (a : Option Addr) (f : Option Addr → Bool) : Bool := Option.rec (motive := fun _ => Bool) (f none) (fun a => Addr.rec (motive := fun _ => Bool) (fun b o s => fN b fun b => fN o fun o => fO s fun s => f (some ⟨b, o, s⟩)) a) a
theorem fB_eq (b : Bool) (f : Bool → Bool) : fB b f = f b := by cases b <;> rfl
theorem fK_eq (k : IntKind) (f : IntKind → Bool) : fK k f = f k := by cases k <;> rfl
theorem fI_eq (n : Int) (f : Int → Bool) : fI n f = f n := by cases n <;> rfl
theorem fO_eq (r : Option Nat) (f : Option Nat → Bool) : fO r f = f r := by cases r <;> rfl
theorem fA_eq (a : Option Addr) (f : Option Addr → Bool) : fA a f = f a := by
  cases a with
  | none => rfl
  | some a => obtain ⟨b, o, s⟩ := a; cases s <;> rfl
noncomputable def fS (v : Value) : (Value → Bool) → Bool := Value.rec (motive_1 := fun _ => (Value → Bool) → Bool) (motive_2 := fun _ => Unit) (motive_3 := fun _ => Unit) (fun b f => fB b fun b => f (.bool b)) (fun k n f => fK k fun k => fI n fun n => f (.int k n)) (fun k n f => f (.float k n)) (fun k n m f => f (.complex k n m)) (fun s f => f (.string s)) (fun a f => fA a fun a => f (.pointer a)) (fun a n c f => fA a fun a => fN n fun n => fN c fun c => f (.slice a n c)) (fun r f => fO r fun r => f (.map r)) (fun r f => fO r fun r => f (.chan r)) (fun g a b _ _ f => f (.func g a b)) (fun f => f .nilFunc) (fun t v _ f => f (.iface t v)) (fun f => f .nilIface) (fun a _ f => f (.agg a)) (fun a _ f => f (.tuple a)) (fun _ _ => ()) () (fun _ _ _ _ => ()) v
theorem fS_eq (v : Value) (f : Value → Bool) : fS v f = f v := by
  cases v with
  | bool b => exact fB_eq b fun b => f (.bool b)
  | int k n => exact (fK_eq k fun k => fI n fun n => f (.int k n)).trans (fI_eq n fun n => f (.int k n))
  | pointer a => exact fA_eq a fun a => f (.pointer a)
  | slice a n c => exact fA_eq a fun a => f (.slice a n c)
  | map r => exact fO_eq r fun r => f (.map r)
  | chan r => exact fO_eq r fun r => f (.chan r)
  | _ => rfl
noncomputable def fL (g : Value → (Value → Bool) → Bool) (l : List Value) : (List Value → Bool) → Bool := List.rec (motive := fun _ => (List Value → Bool) → Bool) (fun f => f []) (fun x _ ih f => g x fun x => ih fun l => f (x :: l)) l
theorem fL_eq {g : Value → (Value → Bool) → Bool} (hg : ∀ v f, g v f = f v) : ∀ (l : List Value) (f : List Value → Bool), fL g l f = f l
  | [], _ => rfl
  | x :: l, f => by
    show g x (fun x => fL g l fun l => f (x :: l)) = f (x :: l)
    rw [hg, fL_eq hg l]
noncomputable def fAgg (a : Array Value) (f : Array Value → Bool) : Bool := Array.rec (motive := fun _ => Bool) (fun l => fL fS l fun l => f ⟨l⟩) a
theorem fAgg_eq (a : Array Value) (f : Array Value → Bool) : fAgg a f = f a := by
  obtain ⟨l⟩ := a
  exact fL_eq fS_eq l _
noncomputable def fV (v : Value) : (Value → Bool) → Bool := Value.rec (motive_1 := fun _ => (Value → Bool) → Bool) (motive_2 := fun _ => Unit) (motive_3 := fun _ => Unit) (fun b f => fB b fun b => f (.bool b)) (fun k n f => fK k fun k => fI n fun n => f (.int k n)) (fun k n f => f (.float k n)) (fun k n m f => f (.complex k n m)) (fun s f => f (.string s)) (fun a f => fA a fun a => f (.pointer a)) (fun a n c f => fA a fun a => fN n fun n => fN c fun c => f (.slice a n c)) (fun r f => fO r fun r => f (.map r)) (fun r f => fO r fun r => f (.chan r)) (fun g a b _ _ f => fAgg a fun a => fAgg b fun b => f (.func g a b)) (fun f => f .nilFunc) (fun t v _ f => fN t fun t => fS v fun v => f (.iface t v)) (fun f => f .nilIface) (fun a _ f => fAgg a fun a => f (.agg a)) (fun a _ f => f (.tuple a)) (fun _ _ => ()) () (fun _ _ _ _ => ()) v
theorem fV_eq (v : Value) (f : Value → Bool) : fV v f = f v := by
  cases v with
  | bool b => exact fB_eq b fun b => f (.bool b)
  | int k n => exact (fK_eq k fun k => fI n fun n => f (.int k n)).trans (fI_eq n fun n => f (.int k n))
  | pointer a => exact fA_eq a fun a => f (.pointer a)
  | slice a n c => exact fA_eq a fun a => f (.slice a n c)
  | map r => exact fO_eq r fun r => f (.map r)
  | chan r => exact fO_eq r fun r => f (.chan r)
  | func g a b => exact (fAgg_eq a fun a => fAgg b fun b => f (.func g a b)).trans (fAgg_eq b fun b => f (.func g a b))
  | iface t v => exact fS_eq v fun v => f (.iface t v)
  | agg a => exact fAgg_eq a fun a => f (.agg a)
  | _ => rfl
noncomputable def fTup (a : Array Value) (f : Array Value → Bool) : Bool := Array.rec (motive := fun _ => Bool) (fun l => fL fV l fun l => f ⟨l⟩) a
theorem fTup_eq (a : Array Value) (f : Array Value → Bool) : fTup a f = f a := by
  obtain ⟨l⟩ := a
  exact fL_eq fV_eq l _
noncomputable def fW (v : Value) : (Value → Bool) → Bool := Value.rec (motive_1 := fun _ => (Value → Bool) → Bool) (motive_2 := fun _ => Unit) (motive_3 := fun _ => Unit) (fun b f => fB b fun b => f (.bool b)) (fun k n f => fK k fun k => fI n fun n => f (.int k n)) (fun k n f => f (.float k n)) (fun k n m f => f (.complex k n m)) (fun s f => f (.string s)) (fun a f => fA a fun a => f (.pointer a)) (fun a n c f => fA a fun a => fN n fun n => fN c fun c => f (.slice a n c)) (fun r f => fO r fun r => f (.map r)) (fun r f => fO r fun r => f (.chan r)) (fun g a b _ _ f => fAgg a fun a => fAgg b fun b => f (.func g a b)) (fun f => f .nilFunc) (fun t v _ f => fN t fun t => fS v fun v => f (.iface t v)) (fun f => f .nilIface) (fun a _ f => fAgg a fun a => f (.agg a)) (fun a _ f => fTup a fun a => f (.tuple a)) (fun _ _ => ()) () (fun _ _ _ _ => ()) v
theorem fW_eq (v : Value) (f : Value → Bool) : fW v f = f v := by
  cases v with
  | tuple a => exact fTup_eq a fun a => f (.tuple a)
  | bool b => exact fV_eq (.bool b) f
  | int k n => exact fV_eq (.int k n) f
  | float k n => rfl
  | complex k n m => rfl
  | string s => rfl
  | pointer a => exact fV_eq (.pointer a) f
  | slice a n c => exact fV_eq (.slice a n c) f
  | map r => exact fV_eq (.map r) f
  | chan r => exact fV_eq (.chan r) f
  | func g a b => exact fV_eq (.func g a b) f
  | nilFunc => rfl
  | iface t v => exact fV_eq (.iface t v) f
  | nilIface => rfl
  | agg a => exact fV_eq (.agg a) f
/-! ### Lists -/
noncomputable def nthK (o : Nat) : List Value → (Value → Bool) → Bool := Nat.rec (motive := fun _ => List Value → (Value → Bool) → Bool) (fun l k => List.rec (motive := fun _ => Bool) false (fun x _ _ => k x) l) (fun _ ih l k => List.rec (motive := fun _ => Bool) false (fun _ l _ => ih l k) l) o
theorem nthK_of : ∀ {o : Nat} {l : List Value} {k : Value → Bool}, nthK o l k = true → ∃ v, l[o]? = some v ∧ k v = true
  | 0, [], _, h => by cases h
  | 0, x :: l, _, h => ⟨x, rfl, h⟩
  | _ + 1, [], _, h => by cases h
  | o + 1, x :: l, k, h => by
    obtain ⟨v, h1, h2⟩ := nthK_of (o := o) (l := l) (k := k) h
    exact ⟨v, by simpa using h1, h2⟩
noncomputable def dropK (o : Nat) : List Value → (List Value → Bool) → Bool := Nat.rec (motive := fun _ => List Value → (List Value → Bool) → Bool) (fun l k => k l) (fun _ ih l k => List.rec (motive := fun _ => Bool) false (fun _ l _ => ih l k) l) o
theorem dropK_of : ∀ {o : Nat} {l : List Value} {k : List Value → Bool}, dropK o l k = true → k (l.drop o) = true
  | 0, _, _, h => h
  | _ + 1, [], _, h => by cases h
  | o + 1, x :: l, k, h => by
    have := dropK_of (o := o) (l := l) (k := k) h
    simpa using this
noncomputable def takeK (n : Nat) : List Value → (List Value → Bool) → Bool := Nat.rec (motive := fun _ => List Value → (List Value → Bool) → Bool) (fun _ k => k []) (fun _ ih l k => List.rec (motive := fun _ => Bool) false (fun x l _ => ih l fun r => k (x :: r)) l) n
theorem takeK_of : ∀ {n : Nat} {l : List Value} {k : List Value → Bool}, takeK n l k = true → has l n = true ∧ k (l.take n) = true
  | 0, l, k, h => ⟨by simp [has], by rw [List.take_zero]; exact h⟩
  | _ + 1, [], _, h => by cases h
  | n + 1, x :: l, k, h => by
    have := takeK_of (n := n) (l := l) (k := fun r => k (x :: r)) h
    simpa [has] using this
/-- One cell laid anew. -/
noncomputable def setK (o : Nat) : Value → List Value → (List Value → Bool) → Bool := Nat.rec (motive := fun _ => Value → List Value → (List Value → Bool) → Bool) (fun v l k => List.rec (motive := fun _ => Bool) false (fun _ l _ => k (v :: l)) l) (fun _ ih v l k => List.rec (motive := fun _ => Bool) false (fun x l _ => ih v l fun r => k (x :: r)) l) o
theorem spl_cons (x : Value) (l : List Value) (o : Nat) (vs : List Value) : spl (x :: l) (o + 1) vs = x :: spl l o vs := by
  unfold spl
  simp [Nat.add_right_comm o 1]
theorem setK_of : ∀ {o : Nat} {v : Value} {l : List Value} {k : List Value → Bool}, setK o v l k = true → has (l.drop o) 1 = true ∧ k (spl l o [v]) = true
  | 0, _, [], _, h => by cases h
  | 0, v, x :: l, k, h => ⟨by simp [has], by rw [show spl (x :: l) 0 [v] = v :: l by simp [spl]]; exact h⟩
  | _ + 1, _, [], _, h => by cases h
  | o + 1, v, x :: l, k, h => by
    have := setK_of (o := o) (v := v) (l := l) (k := fun r => k (x :: r)) h
    rw [spl_cons]
    simpa using this
/-- Cells laid over others, from the first on. -/
noncomputable def overK (vs : List Value) : List Value → (List Value → Bool) → Bool := List.rec (motive := fun _ => List Value → (List Value → Bool) → Bool) (fun l k => k l) (fun v _ ih l k => Bool.rec (motive := fun _ => Bool) false (List.rec (motive := fun _ => Bool) false (fun _ l _ => ih l fun r => k (v :: r)) l) (isOne v)) vs
theorem overK_of : ∀ {vs l : List Value} {k : List Value → Bool}, overK vs l k = true → has l vs.length = true ∧ vs.all oneB = true ∧ k (spl l 0 vs) = true
  | [], l, k, h => ⟨by simp [has], rfl, by rw [show spl l 0 [] = l by simp [spl]]; exact h⟩
  | v :: vs, l, k, h => by
    have h' : (Bool.rec (motive := fun _ => Bool) false (List.rec (motive := fun _ => Bool) false (fun _ l _ => overK vs l fun r => k (v :: r)) l) (isOne v) : Bool) = true := h
    cases hv : isOne v with
    | false => rw [hv] at h'; cases h'
    | true =>
      rw [hv] at h'
      cases l with
      | nil => cases h'
      | cons x l =>
        obtain ⟨h1, h2, h3⟩ := overK_of (vs := vs) (l := l) (k := fun r => k (v :: r)) h'
        refine ⟨by simpa [has] using h1, by simp only [List.all_cons, (isOne_of hv).2, h2]; rfl, ?_⟩
        simpa [spl] using h3
noncomputable def splK (o : Nat) : List Value → List Value → (List Value → Bool) → Bool := Nat.rec (motive := fun _ => List Value → List Value → (List Value → Bool) → Bool) (fun vs l k => overK vs l k) (fun _ ih vs l k => List.rec (motive := fun _ => Bool) false (fun x l _ => ih vs l fun r => k (x :: r)) l) o
theorem splK_of : ∀ {o : Nat} {vs l : List Value} {k : List Value → Bool}, splK o vs l k = true → has (l.drop o) vs.length = true ∧ vs.all oneB = true ∧ k (spl l o vs) = true
  | 0, vs, l, k, h => by simpa using overK_of (vs := vs) (l := l) (k := k) h
  | _ + 1, _, [], _, h => by cases h
  | o + 1, vs, x :: l, k, h => by
    have := splK_of (o := o) (vs := vs) (l := l) (k := fun r => k (x :: r)) h
    rw [spl_cons]
    simpa using this
/-! ### Registers -/
abbrev Rg := N16 (N16 Value)
def R0 : Rg := N16.all (N16.all undef)
inductive Od where
  | r (i j : D16)
  | c (v : Value)
noncomputable def rd (o : Od) : Rg → Value := Od.rec (motive := fun _ => Rg → Value) (fun i j R => N16.get j (N16.get i R)) (fun v _ => v) o
noncomputable def rdK (o : Od) : Rg → (Value → Bool) → Bool := Od.rec (motive := fun _ => Rg → (Value → Bool) → Bool) (fun i j R k => N16.cas i R fun x => N16.cas j x k) (fun v _ k => k v) o
theorem rdK_eq (o : Od) (R : Rg) (k : Value → Bool) : rdK o R k = k (rd o R) := by
  cases o with
  | r i j => exact (N16.cas_eq _ _ _).trans (N16.cas_eq _ _ _)
  | c v => rfl
inductive Ds where
  | no
  | to (i j : D16)
  | bad
noncomputable def wr (d : Ds) : Value → Rg → (Rg → Bool) → Bool := Ds.rec (motive := fun _ => Value → Rg → (Rg → Bool) → Bool) (fun _ R k => k R) (fun i j v R k => N16.cas i R fun x => N16.putK j v x fun x => N16.putK i x R k) (fun _ _ _ => false) d
/-- Registers stand for a frame. -/
def RR (R : Rg) (T : Tr Value) : Prop := ∀ t, Eva.look T t = if t < 256 then N16.get (D16.of (t % 16)) (N16.get (D16.of (t / 16)) R) else undef
def odT (t : Nat) : Od := match Nat.blt t 256 with
  | true => .r (D16.of (t / 16)) (D16.of (t % 16))
  | false => .c undef
theorem nblt_iff {a b : Nat} : Nat.blt a b = true ↔ a < b := by
  unfold Nat.blt
  rw [Nat.ble_eq]
  exact Iff.rfl
theorem RR.odT {R : Rg} {T : Tr Value} (h : RR R T) (t : Nat) : rd (odT t) R = Eva.look T t := by
  rw [h t]
  unfold Fv.odT
  cases hb : Nat.blt t 256 with
  | true => rw [if_pos (nblt_iff.1 hb)]; rfl
  | false => rw [if_neg (fun e => by rw [nblt_iff.2 e] at hb; cases hb)]; rfl
def od (G : Nat) (x : Operand) : Od := match x with
  | .tmp t => odT t
  | .const v => (match plainV v with | true => .c v | false => .c (.chan none))
  | .global g => (match Nat.blt g G with | true => .c (.pointer (some ⟨g, 0, none⟩)) | false => .c (.chan none))
  | .func f => .c (.func (.func f) ⟨[]⟩ ⟨[]⟩)
theorem RR.od {R : Rg} {T : Tr Value} (h : RR R T) (G : Nat) (x : Operand) : rd (od G x) R = evl G T x := by
  cases x with
  | tmp t => exact h.odT t
  | const v =>
    show rd (match plainV v with | true => .c v | false => .c (.chan none)) R = match plainV v with | true => v | false => .chan none
    cases plainV v <;> rfl
  | global g =>
    show rd (match Nat.blt g G with | true => .c (.pointer (some ⟨g, 0, none⟩)) | false => .c (.chan none)) R = match Nat.blt g G with | true => .pointer (some ⟨g, 0, none⟩) | false => .chan none
    cases Nat.blt g G <;> rfl
  | func f => rfl
def ds (n : Nat) (d : Option Nat) : Ds := match d with
  | none => .no
  | some t => match Nat.blt t n, Nat.blt t 256 with
    | true, true => .to (D16.of (t / 16)) (D16.of (t % 16))
    | _, _ => .bad
theorem ds_of {n : Nat} {d : Option Nat} {R : Rg} {T : Tr Value} {v : Value} {k : Rg → Bool} (hR : RR R T) (h : wr (ds n d) v R k = true) : ∃ R' T', putT n T d v = some T' ∧ RR R' T' ∧ k R' = true := by
  cases d with
  | none => exact ⟨R, T, rfl, hR, h⟩
  | some t =>
    unfold ds at h
    simp only at h
    cases h1 : Nat.blt t n with
    | false => rw [h1] at h; cases h
    | true =>
      cases h2 : Nat.blt t 256 with
      | false => rw [h1, h2] at h; cases h
      | true =>
        rw [h1, h2] at h
        simp only at h
        have e : wr (.to (D16.of (t / 16)) (D16.of (t % 16))) v R k = k (N16.put (D16.of (t / 16)) (N16.put (D16.of (t % 16)) v (N16.get (D16.of (t / 16)) R)) R) := (N16.cas_eq _ _ _).trans ((N16.putK_eq _ _ _ _).trans (N16.putK_eq _ _ _ _))
        rw [e] at h
        refine ⟨_, T.set t (some v), by simp only [putT, h1], fun s => ?_, h⟩
        have ht := nblt_iff.1 h2
        by_cases hs : t = s
        · subst hs
          rw [look_set_same, if_pos ht, N16.get_same, N16.get_same]
        · rw [look_set_ne _ _ hs, hR s]
          by_cases hs2 : s < 256
          · rw [if_pos hs2, if_pos hs2]
            by_cases hd : t / 16 = s / 16
            · rw [← hd, N16.get_same, N16.get_ne _ _ (fun e => hs (by have := D16.of_inj (by omega) (by omega) e; omega))]
            · rw [N16.get_ne _ _ (fun e => hd (D16.of_inj (by omega) (by omega) e))]
          · rw [if_neg hs2, if_neg hs2]
theorem RR.start : RR R0 (.nil : Tr Value) := fun t => by
  have : Eva.look (.nil : Tr Value) t = undef := by simp [Eva.look, nil_at]
  rw [this]
  split
  · unfold R0; rw [N16.get_all, N16.get_all]
  · rfl
/-! ### Memory -/
abbrev FH := N16 (N16 (N16 (N16 (Option AObj))))
def H0 : FH := N16.all (N16.all (N16.all (N16.all none)))
inductive Pth where
  | mk (a b c d : D16)
  | bad
def Pth.of (B : Nat) : Pth := match Nat.blt B 65536 with
  | true => .mk (D16.of (B / 4096)) (D16.of (B / 256 % 16)) (D16.of (B / 16 % 16)) (D16.of (B % 16))
  | false => .bad
noncomputable def hgp (p : Pth) : FH → Option AObj := Pth.rec (motive := fun _ => FH → Option AObj) (fun a b c d H => N16.get d (N16.get c (N16.get b (N16.get a H)))) (fun _ => none) p
noncomputable def hget (B : Nat) (H : FH) : Option AObj := hgp (Pth.of B) H
noncomputable def hpp (p : Pth) : Option AObj → FH → (FH → Bool) → Bool := Pth.rec (motive := fun _ => Option AObj → FH → (FH → Bool) → Bool) (fun a b c d ob H k => N16.cas a H fun h3 => N16.cas b h3 fun h2 => N16.cas c h2 fun h1 => N16.putK d ob h1 fun h1 => N16.putK c h1 h2 fun h2 => N16.putK b h2 h3 fun h3 => N16.putK a h3 H k) (fun _ _ _ => false) p
noncomputable def hput (B : Nat) (ob : Option AObj) (H : FH) (k : FH → Bool) : Bool := hpp (Pth.of B) ob H k
/-- Memory stands for a tree of blocks. -/
def HR (H : FH) (t : Tr AObj) : Prop := ∀ B, t.at_ B = hget B H
theorem HR.start : HR H0 (.nil : Tr AObj) := fun B => by
  rw [nil_at]
  unfold hget Pth.of
  cases Nat.blt B 65536
  · rfl
  · show none = N16.get _ (N16.get _ (N16.get _ (N16.get _ H0)))
    unfold H0
    rw [N16.get_all, N16.get_all, N16.get_all, N16.get_all]
theorem hput_of {B : Nat} {ob : Option AObj} {H : FH} {t : Tr AObj} {k : FH → Bool} (hH : HR H t) (h : hput B ob H k = true) : ∃ H', HR H' (t.set B ob) ∧ k H' = true := by
  unfold hput Pth.of at h
  cases hb : Nat.blt B 65536 with
  | false => rw [hb] at h; cases h
  | true =>
    rw [hb] at h
    simp only at h
    have hB := nblt_iff.1 hb
    generalize ha : B / 4096 = a at h
    generalize hb2 : B / 256 % 16 = b at h
    generalize hc : B / 16 % 16 = c at h
    generalize hd : B % 16 = d at h
    have e : hpp (.mk (D16.of a) (D16.of b) (D16.of c) (D16.of d)) ob H k = k (N16.put (D16.of a) (N16.put (D16.of b) (N16.put (D16.of c) (N16.put (D16.of d) ob (N16.get (D16.of c) (N16.get (D16.of b) (N16.get (D16.of a) H)))) (N16.get (D16.of b) (N16.get (D16.of a) H))) (N16.get (D16.of a) H)) H) :=
      (N16.cas_eq _ _ _).trans ((N16.cas_eq _ _ _).trans ((N16.cas_eq _ _ _).trans ((N16.putK_eq _ _ _ _).trans ((N16.putK_eq _ _ _ _).trans ((N16.putK_eq _ _ _ _).trans (N16.putK_eq _ _ _ _))))))
    rw [e] at h
    refine ⟨_, fun X => ?_, h⟩
    unfold hget Pth.of
    cases hX : Nat.blt X 65536 with
    | false =>
      have hne : B ≠ X := fun q => by subst q; rw [hb] at hX; cases hX
      rw [Tr.at_set_ne _ _ hne, hH X]
      unfold hget Pth.of
      rw [hX]
      rfl
    | true =>
      have hX' := nblt_iff.1 hX
      show _ = N16.get _ (N16.get _ (N16.get _ (N16.get _ _)))
      by_cases q : B = X
      · subst q
        rw [Tr.at_set_same, ha, hb2, hc, hd, N16.get_same, N16.get_same, N16.get_same, N16.get_same]
      · rw [Tr.at_set_ne _ _ q, hH X]
        unfold hget Pth.of
        rw [hX]
        show N16.get _ (N16.get _ (N16.get _ (N16.get _ _))) = _
        by_cases q1 : a = X / 4096
        · rw [← q1, N16.get_same]
          by_cases q2 : b = X / 256 % 16
          · rw [← q2, N16.get_same]
            by_cases q3 : c = X / 16 % 16
            · rw [← q3, N16.get_same, N16.get_ne _ _ (fun e => q (by have := D16.of_inj (by omega) (by omega) e; omega))]
            · rw [N16.get_ne _ _ (fun e => q3 (D16.of_inj (by omega) (by omega) e))]
          · rw [N16.get_ne _ _ (fun e => q2 (D16.of_inj (by omega) (by omega) e))]
        · rw [N16.get_ne _ _ (fun e => q1 (D16.of_inj (by omega) (by omega) e))]
end Go.Fv
