/-
  A run of a closed call as plain functions: registers, and a region's own values. No program in sight.
-/
import Derived.Test.YtenigphjddnknaaGreatDoorFkA
set_option linter.unusedVariables false
namespace Go.Fw
open Go Go.Eva Go.Fv

/-- Sixteen registers near at hand, and more behind them. -/
inductive Rf where
  | mk (a0 a1 a2 a3 a4 a5 a6 a7 a8 a9 a10 a11 a12 a13 a14 a15 : Value) (x : N16 (N16 Value))
noncomputable def l0 (R : Rf) (k : Value → Bool) : Bool := Rf.rec (motive := fun _ => Bool) (fun a0 _ _ _ _ _ _ _ _ _ _ _ _ _ _ _ _ => k a0) R
noncomputable def l1 (R : Rf) (k : Value → Bool) : Bool := Rf.rec (motive := fun _ => Bool) (fun _ a1 _ _ _ _ _ _ _ _ _ _ _ _ _ _ _ => k a1) R
noncomputable def l2 (R : Rf) (k : Value → Bool) : Bool := Rf.rec (motive := fun _ => Bool) (fun _ _ a2 _ _ _ _ _ _ _ _ _ _ _ _ _ _ => k a2) R
noncomputable def l3 (R : Rf) (k : Value → Bool) : Bool := Rf.rec (motive := fun _ => Bool) (fun _ _ _ a3 _ _ _ _ _ _ _ _ _ _ _ _ _ => k a3) R
noncomputable def l4 (R : Rf) (k : Value → Bool) : Bool := Rf.rec (motive := fun _ => Bool) (fun _ _ _ _ a4 _ _ _ _ _ _ _ _ _ _ _ _ => k a4) R
noncomputable def l5 (R : Rf) (k : Value → Bool) : Bool := Rf.rec (motive := fun _ => Bool) (fun _ _ _ _ _ a5 _ _ _ _ _ _ _ _ _ _ _ => k a5) R
noncomputable def l6 (R : Rf) (k : Value → Bool) : Bool := Rf.rec (motive := fun _ => Bool) (fun _ _ _ _ _ _ a6 _ _ _ _ _ _ _ _ _ _ => k a6) R
noncomputable def l7 (R : Rf) (k : Value → Bool) : Bool := Rf.rec (motive := fun _ => Bool) (fun _ _ _ _ _ _ _ a7 _ _ _ _ _ _ _ _ _ => k a7) R
noncomputable def l8 (R : Rf) (k : Value → Bool) : Bool := Rf.rec (motive := fun _ => Bool) (fun _ _ _ _ _ _ _ _ a8 _ _ _ _ _ _ _ _ => k a8) R
noncomputable def l9 (R : Rf) (k : Value → Bool) : Bool := Rf.rec (motive := fun _ => Bool) (fun _ _ _ _ _ _ _ _ _ a9 _ _ _ _ _ _ _ => k a9) R
noncomputable def l10 (R : Rf) (k : Value → Bool) : Bool := Rf.rec (motive := fun _ => Bool) (fun _ _ _ _ _ _ _ _ _ _ a10 _ _ _ _ _ _ => k a10) R
noncomputable def l11 (R : Rf) (k : Value → Bool) : Bool := Rf.rec (motive := fun _ => Bool) (fun _ _ _ _ _ _ _ _ _ _ _ a11 _ _ _ _ _ => k a11) R
noncomputable def l12 (R : Rf) (k : Value → Bool) : Bool := Rf.rec (motive := fun _ => Bool) (fun _ _ _ _ _ _ _ _ _ _ _ _ a12 _ _ _ _ => k a12) R
noncomputable def l13 (R : Rf) (k : Value → Bool) : Bool := Rf.rec (motive := fun _ => Bool) (fun _ _ _ _ _ _ _ _ _ _ _ _ _ a13 _ _ _ => k a13) R
noncomputable def l14 (R : Rf) (k : Value → Bool) : Bool := Rf.rec (motive := fun _ => Bool) (fun _ _ _ _ _ _ _ _ _ _ _ _ _ _ a14 _ _ => k a14) R
noncomputable def l15 (R : Rf) (k : Value → Bool) : Bool := Rf.rec (motive := fun _ => Bool) (fun _ _ _ _ _ _ _ _ _ _ _ _ _ _ _ a15 _ => k a15) R
noncomputable def m0 (v : Value) (R : Rf) (k : Rf → Bool) : Bool := Rf.rec (motive := fun _ => Bool) (fun _ a1 a2 a3 a4 a5 a6 a7 a8 a9 a10 a11 a12 a13 a14 a15 x => k (.mk v a1 a2 a3 a4 a5 a6 a7 a8 a9 a10 a11 a12 a13 a14 a15 x)) R
noncomputable def m1 (v : Value) (R : Rf) (k : Rf → Bool) : Bool := Rf.rec (motive := fun _ => Bool) (fun a0 _ a2 a3 a4 a5 a6 a7 a8 a9 a10 a11 a12 a13 a14 a15 x => k (.mk a0 v a2 a3 a4 a5 a6 a7 a8 a9 a10 a11 a12 a13 a14 a15 x)) R
noncomputable def m2 (v : Value) (R : Rf) (k : Rf → Bool) : Bool := Rf.rec (motive := fun _ => Bool) (fun a0 a1 _ a3 a4 a5 a6 a7 a8 a9 a10 a11 a12 a13 a14 a15 x => k (.mk a0 a1 v a3 a4 a5 a6 a7 a8 a9 a10 a11 a12 a13 a14 a15 x)) R
noncomputable def m3 (v : Value) (R : Rf) (k : Rf → Bool) : Bool := Rf.rec (motive := fun _ => Bool) (fun a0 a1 a2 _ a4 a5 a6 a7 a8 a9 a10 a11 a12 a13 a14 a15 x => k (.mk a0 a1 a2 v a4 a5 a6 a7 a8 a9 a10 a11 a12 a13 a14 a15 x)) R
noncomputable def m4 (v : Value) (R : Rf) (k : Rf → Bool) : Bool := Rf.rec (motive := fun _ => Bool) (fun a0 a1 a2 a3 _ a5 a6 a7 a8 a9 a10 a11 a12 a13 a14 a15 x => k (.mk a0 a1 a2 a3 v a5 a6 a7 a8 a9 a10 a11 a12 a13 a14 a15 x)) R
noncomputable def m5 (v : Value) (R : Rf) (k : Rf → Bool) : Bool := Rf.rec (motive := fun _ => Bool) (fun a0 a1 a2 a3 a4 _ a6 a7 a8 a9 a10 a11 a12 a13 a14 a15 x => k (.mk a0 a1 a2 a3 a4 v a6 a7 a8 a9 a10 a11 a12 a13 a14 a15 x)) R
noncomputable def m6 (v : Value) (R : Rf) (k : Rf → Bool) : Bool := Rf.rec (motive := fun _ => Bool) (fun a0 a1 a2 a3 a4 a5 _ a7 a8 a9 a10 a11 a12 a13 a14 a15 x => k (.mk a0 a1 a2 a3 a4 a5 v a7 a8 a9 a10 a11 a12 a13 a14 a15 x)) R
noncomputable def m7 (v : Value) (R : Rf) (k : Rf → Bool) : Bool := Rf.rec (motive := fun _ => Bool) (fun a0 a1 a2 a3 a4 a5 a6 _ a8 a9 a10 a11 a12 a13 a14 a15 x => k (.mk a0 a1 a2 a3 a4 a5 a6 v a8 a9 a10 a11 a12 a13 a14 a15 x)) R
noncomputable def m8 (v : Value) (R : Rf) (k : Rf → Bool) : Bool := Rf.rec (motive := fun _ => Bool) (fun a0 a1 a2 a3 a4 a5 a6 a7 _ a9 a10 a11 a12 a13 a14 a15 x => k (.mk a0 a1 a2 a3 a4 a5 a6 a7 v a9 a10 a11 a12 a13 a14 a15 x)) R
noncomputable def m9 (v : Value) (R : Rf) (k : Rf → Bool) : Bool := Rf.rec (motive := fun _ => Bool) (fun a0 a1 a2 a3 a4 a5 a6 a7 a8 _ a10 a11 a12 a13 a14 a15 x => k (.mk a0 a1 a2 a3 a4 a5 a6 a7 a8 v a10 a11 a12 a13 a14 a15 x)) R
noncomputable def m10 (v : Value) (R : Rf) (k : Rf → Bool) : Bool := Rf.rec (motive := fun _ => Bool) (fun a0 a1 a2 a3 a4 a5 a6 a7 a8 a9 _ a11 a12 a13 a14 a15 x => k (.mk a0 a1 a2 a3 a4 a5 a6 a7 a8 a9 v a11 a12 a13 a14 a15 x)) R
noncomputable def m11 (v : Value) (R : Rf) (k : Rf → Bool) : Bool := Rf.rec (motive := fun _ => Bool) (fun a0 a1 a2 a3 a4 a5 a6 a7 a8 a9 a10 _ a12 a13 a14 a15 x => k (.mk a0 a1 a2 a3 a4 a5 a6 a7 a8 a9 a10 v a12 a13 a14 a15 x)) R
noncomputable def m12 (v : Value) (R : Rf) (k : Rf → Bool) : Bool := Rf.rec (motive := fun _ => Bool) (fun a0 a1 a2 a3 a4 a5 a6 a7 a8 a9 a10 a11 _ a13 a14 a15 x => k (.mk a0 a1 a2 a3 a4 a5 a6 a7 a8 a9 a10 a11 v a13 a14 a15 x)) R
noncomputable def m13 (v : Value) (R : Rf) (k : Rf → Bool) : Bool := Rf.rec (motive := fun _ => Bool) (fun a0 a1 a2 a3 a4 a5 a6 a7 a8 a9 a10 a11 a12 _ a14 a15 x => k (.mk a0 a1 a2 a3 a4 a5 a6 a7 a8 a9 a10 a11 a12 v a14 a15 x)) R
noncomputable def m14 (v : Value) (R : Rf) (k : Rf → Bool) : Bool := Rf.rec (motive := fun _ => Bool) (fun a0 a1 a2 a3 a4 a5 a6 a7 a8 a9 a10 a11 a12 a13 _ a15 x => k (.mk a0 a1 a2 a3 a4 a5 a6 a7 a8 a9 a10 a11 a12 a13 v a15 x)) R
noncomputable def m15 (v : Value) (R : Rf) (k : Rf → Bool) : Bool := Rf.rec (motive := fun _ => Bool) (fun a0 a1 a2 a3 a4 a5 a6 a7 a8 a9 a10 a11 a12 a13 a14 _ x => k (.mk a0 a1 a2 a3 a4 a5 a6 a7 a8 a9 a10 a11 a12 a13 a14 v x)) R
noncomputable def lh (i j : D16) (R : Rf) (k : Value → Bool) : Bool := Rf.rec (motive := fun _ => Bool) (fun _ _ _ _ _ _ _ _ _ _ _ _ _ _ _ _ x => N16.cas i x fun y => N16.cas j y k) R
noncomputable def mh (i j : D16) (v : Value) (R : Rf) (k : Rf → Bool) : Bool := Rf.rec (motive := fun _ => Bool) (fun a0 a1 a2 a3 a4 a5 a6 a7 a8 a9 a10 a11 a12 a13 a14 a15 x => N16.cas i x fun y => N16.putK j v y fun y => N16.putK i y x fun x => k (.mk a0 a1 a2 a3 a4 a5 a6 a7 a8 a9 a10 a11 a12 a13 a14 a15 x)) R
def gl0 : Rf → Value | .mk a0 _ _ _ _ _ _ _ _ _ _ _ _ _ _ _ _ => a0
def gl1 : Rf → Value | .mk _ a1 _ _ _ _ _ _ _ _ _ _ _ _ _ _ _ => a1
def gl2 : Rf → Value | .mk _ _ a2 _ _ _ _ _ _ _ _ _ _ _ _ _ _ => a2
def gl3 : Rf → Value | .mk _ _ _ a3 _ _ _ _ _ _ _ _ _ _ _ _ _ => a3
def gl4 : Rf → Value | .mk _ _ _ _ a4 _ _ _ _ _ _ _ _ _ _ _ _ => a4
def gl5 : Rf → Value | .mk _ _ _ _ _ a5 _ _ _ _ _ _ _ _ _ _ _ => a5
def gl6 : Rf → Value | .mk _ _ _ _ _ _ a6 _ _ _ _ _ _ _ _ _ _ => a6
def gl7 : Rf → Value | .mk _ _ _ _ _ _ _ a7 _ _ _ _ _ _ _ _ _ => a7
def gl8 : Rf → Value | .mk _ _ _ _ _ _ _ _ a8 _ _ _ _ _ _ _ _ => a8
def gl9 : Rf → Value | .mk _ _ _ _ _ _ _ _ _ a9 _ _ _ _ _ _ _ => a9
def gl10 : Rf → Value | .mk _ _ _ _ _ _ _ _ _ _ a10 _ _ _ _ _ _ => a10
def gl11 : Rf → Value | .mk _ _ _ _ _ _ _ _ _ _ _ a11 _ _ _ _ _ => a11
def gl12 : Rf → Value | .mk _ _ _ _ _ _ _ _ _ _ _ _ a12 _ _ _ _ => a12
def gl13 : Rf → Value | .mk _ _ _ _ _ _ _ _ _ _ _ _ _ a13 _ _ _ => a13
def gl14 : Rf → Value | .mk _ _ _ _ _ _ _ _ _ _ _ _ _ _ a14 _ _ => a14
def gl15 : Rf → Value | .mk _ _ _ _ _ _ _ _ _ _ _ _ _ _ _ a15 _ => a15
def pl0 (v : Value) : Rf → Rf | .mk _ a1 a2 a3 a4 a5 a6 a7 a8 a9 a10 a11 a12 a13 a14 a15 x => .mk v a1 a2 a3 a4 a5 a6 a7 a8 a9 a10 a11 a12 a13 a14 a15 x
def pl1 (v : Value) : Rf → Rf | .mk a0 _ a2 a3 a4 a5 a6 a7 a8 a9 a10 a11 a12 a13 a14 a15 x => .mk a0 v a2 a3 a4 a5 a6 a7 a8 a9 a10 a11 a12 a13 a14 a15 x
def pl2 (v : Value) : Rf → Rf | .mk a0 a1 _ a3 a4 a5 a6 a7 a8 a9 a10 a11 a12 a13 a14 a15 x => .mk a0 a1 v a3 a4 a5 a6 a7 a8 a9 a10 a11 a12 a13 a14 a15 x
def pl3 (v : Value) : Rf → Rf | .mk a0 a1 a2 _ a4 a5 a6 a7 a8 a9 a10 a11 a12 a13 a14 a15 x => .mk a0 a1 a2 v a4 a5 a6 a7 a8 a9 a10 a11 a12 a13 a14 a15 x
def pl4 (v : Value) : Rf → Rf | .mk a0 a1 a2 a3 _ a5 a6 a7 a8 a9 a10 a11 a12 a13 a14 a15 x => .mk a0 a1 a2 a3 v a5 a6 a7 a8 a9 a10 a11 a12 a13 a14 a15 x
def pl5 (v : Value) : Rf → Rf | .mk a0 a1 a2 a3 a4 _ a6 a7 a8 a9 a10 a11 a12 a13 a14 a15 x => .mk a0 a1 a2 a3 a4 v a6 a7 a8 a9 a10 a11 a12 a13 a14 a15 x
def pl6 (v : Value) : Rf → Rf | .mk a0 a1 a2 a3 a4 a5 _ a7 a8 a9 a10 a11 a12 a13 a14 a15 x => .mk a0 a1 a2 a3 a4 a5 v a7 a8 a9 a10 a11 a12 a13 a14 a15 x
def pl7 (v : Value) : Rf → Rf | .mk a0 a1 a2 a3 a4 a5 a6 _ a8 a9 a10 a11 a12 a13 a14 a15 x => .mk a0 a1 a2 a3 a4 a5 a6 v a8 a9 a10 a11 a12 a13 a14 a15 x
def pl8 (v : Value) : Rf → Rf | .mk a0 a1 a2 a3 a4 a5 a6 a7 _ a9 a10 a11 a12 a13 a14 a15 x => .mk a0 a1 a2 a3 a4 a5 a6 a7 v a9 a10 a11 a12 a13 a14 a15 x
def pl9 (v : Value) : Rf → Rf | .mk a0 a1 a2 a3 a4 a5 a6 a7 a8 _ a10 a11 a12 a13 a14 a15 x => .mk a0 a1 a2 a3 a4 a5 a6 a7 a8 v a10 a11 a12 a13 a14 a15 x
def pl10 (v : Value) : Rf → Rf | .mk a0 a1 a2 a3 a4 a5 a6 a7 a8 a9 _ a11 a12 a13 a14 a15 x => .mk a0 a1 a2 a3 a4 a5 a6 a7 a8 a9 v a11 a12 a13 a14 a15 x
def pl11 (v : Value) : Rf → Rf | .mk a0 a1 a2 a3 a4 a5 a6 a7 a8 a9 a10 _ a12 a13 a14 a15 x => .mk a0 a1 a2 a3 a4 a5 a6 a7 a8 a9 a10 v a12 a13 a14 a15 x
def pl12 (v : Value) : Rf → Rf | .mk a0 a1 a2 a3 a4 a5 a6 a7 a8 a9 a10 a11 _ a13 a14 a15 x => .mk a0 a1 a2 a3 a4 a5 a6 a7 a8 a9 a10 a11 v a13 a14 a15 x
def pl13 (v : Value) : Rf → Rf | .mk a0 a1 a2 a3 a4 a5 a6 a7 a8 a9 a10 a11 a12 _ a14 a15 x => .mk a0 a1 a2 a3 a4 a5 a6 a7 a8 a9 a10 a11 a12 v a14 a15 x
def pl14 (v : Value) : Rf → Rf | .mk a0 a1 a2 a3 a4 a5 a6 a7 a8 a9 a10 a11 a12 a13 _ a15 x => .mk a0 a1 a2 a3 a4 a5 a6 a7 a8 a9 a10 a11 a12 a13 v a15 x
def pl15 (v : Value) : Rf → Rf | .mk a0 a1 a2 a3 a4 a5 a6 a7 a8 a9 a10 a11 a12 a13 a14 _ x => .mk a0 a1 a2 a3 a4 a5 a6 a7 a8 a9 a10 a11 a12 a13 a14 v x
noncomputable def glh (i j : D16) : Rf → Value | .mk _ _ _ _ _ _ _ _ _ _ _ _ _ _ _ _ x => N16.get j (N16.get i x)
noncomputable def plh (i j : D16) (v : Value) : Rf → Rf | .mk a0 a1 a2 a3 a4 a5 a6 a7 a8 a9 a10 a11 a12 a13 a14 a15 x => .mk a0 a1 a2 a3 a4 a5 a6 a7 a8 a9 a10 a11 a12 a13 a14 a15 (N16.put i (N16.put j v (N16.get i x)) x)
inductive Sl where
  | lo (d : D16)
  | hi (i j : D16)
  deriving DecidableEq
noncomputable def gS : Sl → Rf → Value
  | .lo .d0 => gl0
  | .lo .d1 => gl1
  | .lo .d2 => gl2
  | .lo .d3 => gl3
  | .lo .d4 => gl4
  | .lo .d5 => gl5
  | .lo .d6 => gl6
  | .lo .d7 => gl7
  | .lo .d8 => gl8
  | .lo .d9 => gl9
  | .lo .d10 => gl10
  | .lo .d11 => gl11
  | .lo .d12 => gl12
  | .lo .d13 => gl13
  | .lo .d14 => gl14
  | .lo .d15 => gl15
  | .hi i j => glh i j
noncomputable def pS : Sl → Value → Rf → Rf
  | .lo .d0 => pl0
  | .lo .d1 => pl1
  | .lo .d2 => pl2
  | .lo .d3 => pl3
  | .lo .d4 => pl4
  | .lo .d5 => pl5
  | .lo .d6 => pl6
  | .lo .d7 => pl7
  | .lo .d8 => pl8
  | .lo .d9 => pl9
  | .lo .d10 => pl10
  | .lo .d11 => pl11
  | .lo .d12 => pl12
  | .lo .d13 => pl13
  | .lo .d14 => pl14
  | .lo .d15 => pl15
  | .hi i j => plh i j
noncomputable def qS : Sl → Rf → (Value → Bool) → Bool
  | .lo .d0 => l0
  | .lo .d1 => l1
  | .lo .d2 => l2
  | .lo .d3 => l3
  | .lo .d4 => l4
  | .lo .d5 => l5
  | .lo .d6 => l6
  | .lo .d7 => l7
  | .lo .d8 => l8
  | .lo .d9 => l9
  | .lo .d10 => l10
  | .lo .d11 => l11
  | .lo .d12 => l12
  | .lo .d13 => l13
  | .lo .d14 => l14
  | .lo .d15 => l15
  | .hi i j => lh i j
noncomputable def wS : Sl → Value → Rf → (Rf → Bool) → Bool
  | .lo .d0 => m0
  | .lo .d1 => m1
  | .lo .d2 => m2
  | .lo .d3 => m3
  | .lo .d4 => m4
  | .lo .d5 => m5
  | .lo .d6 => m6
  | .lo .d7 => m7
  | .lo .d8 => m8
  | .lo .d9 => m9
  | .lo .d10 => m10
  | .lo .d11 => m11
  | .lo .d12 => m12
  | .lo .d13 => m13
  | .lo .d14 => m14
  | .lo .d15 => m15
  | .hi i j => mh i j
theorem qS_eq (s : Sl) (R : Rf) (k : Value → Bool) : qS s R k = k (gS s R) := by
  cases R
  cases s with
  | lo d => cases d <;> rfl
  | hi i j => exact (N16.cas_eq _ _ _).trans (N16.cas_eq _ _ _)
theorem wS_eq (s : Sl) (v : Value) (R : Rf) (k : Rf → Bool) : wS s v R k = k (pS s v R) := by
  cases R
  cases s with
  | lo d => cases d <;> rfl
  | hi i j => exact (N16.cas_eq _ _ _).trans ((N16.putK_eq _ _ _ _).trans (N16.putK_eq _ _ _ _))
theorem gS_same (s : Sl) (v : Value) (R : Rf) : gS s (pS s v R) = v := by
  cases R
  cases s with
  | lo d => cases d <;> rfl
  | hi i j => simp only [gS, pS, glh, plh, N16.get_same]
theorem gS_ne {s q : Sl} (v : Value) (R : Rf) (h : s ≠ q) : gS q (pS s v R) = gS q R := by
  cases R
  cases s with
  | lo d =>
    cases q with
    | lo e => cases d <;> cases e <;> first | exact absurd rfl h | rfl
    | hi i j => cases d <;> rfl
  | hi i j =>
    cases q with
    | lo e => cases e <;> rfl
    | hi i' j' =>
      simp only [gS, pS, glh, plh]
      by_cases e : i = i'
      · subst e
        rw [N16.get_same, N16.get_ne _ _ (fun e => h (by rw [e]))]
      · rw [N16.get_ne _ _ e]
def R0 : Rf := .mk undef undef undef undef undef undef undef undef undef undef undef undef undef undef undef undef (N16.all (N16.all undef))
theorem gS_R0 (s : Sl) : gS s R0 = undef := by
  cases s with
  | lo d => cases d <;> rfl
  | hi i j => simp only [gS, glh, R0, N16.get_all]
/-! ### Where a register lies -/
def slN (s : Nat) : Option Sl := match Nat.blt s 16 with
  | true => some (.lo (D16.of s))
  | false => match Nat.blt s 272 with
    | true => some (.hi (D16.of ((s - 16) / 16)) (D16.of ((s - 16) % 16)))
    | false => none
theorem slN_inj {a b : Nat} {s : Sl} (ha : slN a = some s) (hb : slN b = some s) : a = b := by
  unfold slN at ha hb
  cases h1 : Nat.blt a 16 with
  | true =>
    rw [h1] at ha
    cases h2 : Nat.blt b 16 with
    | true =>
      rw [h2] at hb
      simp only [Option.some.injEq] at ha hb
      rw [← ha] at hb
      injection hb with hb
      exact (D16.of_inj (nblt_iff.1 h2) (nblt_iff.1 h1) hb).symm
    | false =>
      rw [h2] at hb
      simp only at ha hb
      split at hb
      · cases ha; cases hb
      · cases hb
  | false =>
    rw [h1] at ha
    cases h2 : Nat.blt b 16 with
    | true =>
      rw [h2] at hb
      simp only at ha hb
      split at ha
      · cases ha; cases hb
      · cases ha
    | false =>
      rw [h2] at hb
      simp only at ha hb
      cases h3 : Nat.blt a 272 with
      | false => rw [h3] at ha; cases ha
      | true =>
      cases h4 : Nat.blt b 272 with
      | false => rw [h4] at hb; cases hb
      | true =>
      rw [h3] at ha
      rw [h4] at hb
      have h3 := nblt_iff.1 h3
      have h4 := nblt_iff.1 h4
      have h5 : ¬ a < 16 := fun e => by rw [nblt_iff.2 e] at h1; cases h1
      have h6 : ¬ b < 16 := fun e => by rw [nblt_iff.2 e] at h2; cases h2
      simp only [Option.some.injEq] at ha hb
      rw [← ha] at hb
      injection hb with e1 e2
      have e1 := D16.of_inj (by omega) (by omega) e1
      have e2 := D16.of_inj (by omega) (by omega) e2
      omega
def idxOf (t : Nat) : List Nat → Nat → Option Nat
  | [], _ => none
  | x :: l, i => match Nat.beq x t with
    | true => some i
    | false => idxOf t l (i + 1)
theorem idxOf_of {t : Nat} : ∀ {l : List Nat} {i r : Nat}, idxOf t l i = some r → i ≤ r ∧ l[r - i]? = some t
  | [], _, _, h => by cases h
  | x :: l, i, r, h => by
    unfold idxOf at h
    split at h
    · rename_i hb
      cases h
      rw [beq_iff hb]
      simp
    · obtain ⟨h1, h2⟩ := idxOf_of h
      refine ⟨by omega, ?_⟩
      rw [show r - i = (r - (i + 1)) + 1 by omega]
      simpa using h2
def slotOf (K : List Nat) (t : Nat) : Option Sl := (idxOf t K 0).bind slN
theorem slotOf_inj {K : List Nat} {a b : Nat} {s : Sl} (ha : slotOf K a = some s) (hb : slotOf K b = some s) : a = b := by
  unfold slotOf at ha hb
  obtain ⟨i, h1, h2⟩ := Option.bind_eq_some_iff.1 ha
  obtain ⟨j, h3, h4⟩ := Option.bind_eq_some_iff.1 hb
  have e := slN_inj h2 h4
  subst e
  have h1 := (idxOf_of h1).2
  have h3 := (idxOf_of h3).2
  rw [h1] at h3
  exact Option.some.inj h3
/-- Registers stand for a frame. -/
def RK (K : List Nat) (R : Rf) (T : Tr Value) : Prop := ∀ t s, slotOf K t = some s → gS s R = Eva.look T t
abbrev Env := List (Nat × Value)
def getE (t : Nat) : Env → Option Value
  | [] => none
  | (s, v) :: l => match Nat.beq s t with
    | true => some v
    | false => getE t l
def EnvOK (E : Env) (T : Tr Value) : Prop := ∀ t v, getE t E = some v → Eva.look T t = v
/-- An operand is read. -/
noncomputable def rdO (G : Nat) (K : List Nat) (E : Env) (x : Operand) (R : Rf) (k : Value → Bool) : Bool := match x with
  | .tmp t => match getE t E with
    | some v => k v
    | none => match slotOf K t with
      | some s => qS s R k
      | none => false
  | .const v => (match plainV v with | true => k v | false => false)
  | .global g => (match Nat.blt g G with | true => k (.pointer (some ⟨g, 0, none⟩)) | false => false)
  | .func f => k (.func (.func f) ⟨[]⟩ ⟨[]⟩)
theorem rdO_of {G : Nat} {K : List Nat} {E : Env} {x : Operand} {R : Rf} {T : Tr Value} {k : Value → Bool} (hR : RK K R T) (hE : EnvOK E T) (h : rdO G K E x R k = true) : k (evl G T x) = true := by
  unfold rdO at h
  cases x with
  | tmp t =>
    simp only at h
    split at h
    · rename_i v hv
      rw [← hE t v hv] at h
      exact h
    · split at h
      · rename_i s hs
        rw [qS_eq, hR t s hs] at h
        exact h
      · cases h
  | const v =>
    simp only at h
    split at h
    · rename_i hv
      simp only [evl, hv]
      exact h
    · cases h
  | global g =>
    simp only at h
    split at h
    · rename_i hv
      simp only [evl, hv]
      exact h
    · cases h
  | func f => exact h
noncomputable def rdL (G : Nat) (K : List Nat) (E : Env) : List Operand → Rf → (List Value → Bool) → Bool
  | [], _, k => k []
  | x :: l, R, k => rdO G K E x R fun v => rdL G K E l R fun vs => k (v :: vs)
theorem rdL_of {G : Nat} {K : List Nat} {E : Env} {R : Rf} {T : Tr Value} (hR : RK K R T) (hE : EnvOK E T) : ∀ {l : List Operand} {k : List Value → Bool}, rdL G K E l R k = true → k (l.map (evl G T)) = true
  | [], k, h => h
  | x :: l, k, h => rdL_of hR hE (l := l) (rdO_of hR hE (x := x) h)
/-- What has been read, as a reading. -/
def findT (t : Nat) : List Operand → List Value → Value
  | .tmp s :: l, v :: vs => (match Nat.beq s t with | true => v | false => findT t l vs)
  | _ :: l, _ :: vs => findT t l vs
  | _, _ => undef
def rho (G : Nat) (xs : List Operand) (vs : List Value) (x : Operand) : Value := match x with
  | .tmp t => findT t xs vs
  | .const v => (match plainV v with | true => v | false => .chan none)
  | .global g => (match Nat.blt g G with | true => .pointer (some ⟨g, 0, none⟩) | false => .chan none)
  | .func f => .func (.func f) ⟨[]⟩ ⟨[]⟩
theorem findT_map {G : Nat} {T : Tr Value} {t : Nat} : ∀ {xs : List Operand}, .tmp t ∈ xs → findT t xs (xs.map (evl G T)) = Eva.look T t
  | [], h => by cases h
  | x :: l, h => by
    cases x with
    | tmp s =>
      simp only [List.map_cons, findT]
      cases hb : Nat.beq s t with
      | true => rw [← beq_iff hb]; rfl
      | false =>
        rcases List.mem_cons.1 h with e | h
        · injection e with e; rw [e, Nat.beq_refl] at hb; cases hb
        · exact findT_map h
    | const v => simp only [List.map_cons, findT]; exact findT_map ((List.mem_cons.1 h).resolve_left (by simp))
    | global v => simp only [List.map_cons, findT]; exact findT_map ((List.mem_cons.1 h).resolve_left (by simp))
    | func v => simp only [List.map_cons, findT]; exact findT_map ((List.mem_cons.1 h).resolve_left (by simp))
theorem rho_map {G : Nat} {T : Tr Value} {xs : List Operand} : ∀ x ∈ xs, rho G xs (xs.map (evl G T)) x = evl G T x := fun x h => by
  cases x with
  | tmp t => exact findT_map h
  | const v => rfl
  | global g => rfl
  | func f => rfl
/-- A value is laid where its register lies, and among the region's own. -/
noncomputable def wrO (K : List Nat) (nt : Nat) (d : Option Nat) (v : Value) (R : Rf) (E : Env) (k : Rf → Env → Bool) : Bool := match d with
  | none => k R E
  | some t => match Nat.blt t nt with
    | true => (match slotOf K t with
      | some s => wS s v R fun R => k R ((t, v) :: E)
      | none => k R ((t, v) :: E))
    | false => false
theorem wrO_of {K : List Nat} {nt : Nat} {d : Option Nat} {v : Value} {R : Rf} {E : Env} {T : Tr Value} {k : Rf → Env → Bool} (hR : RK K R T) (hE : EnvOK E T) (h : wrO K nt d v R E k = true) :
    ∃ R' E' T', putT nt T d v = some T' ∧ RK K R' T' ∧ EnvOK E' T' ∧ k R' E' = true := by
  unfold wrO at h
  cases d with
  | none => exact ⟨R, E, T, rfl, hR, hE, h⟩
  | some t =>
    simp only at h
    split at h <;> try (cases h; done)
    rename_i hb
    have hE' : EnvOK ((t, v) :: E) (T.set t (some v)) := fun q u hq => by
      unfold getE at hq
      split at hq
      · rename_i he
        cases hq
        rw [← beq_iff he, look_set_same]
      · rename_i he
        rw [look_set_ne _ _ (fun e => by rw [e, Nat.beq_refl] at he; cases he)]
        exact hE q u hq
    have hp : putT nt T (some t) v = some (T.set t (some v)) := by simp only [putT, hb]
    split at h
    · rename_i s hs
      rw [wS_eq] at h
      refine ⟨_, _, _, hp, fun q u hq => ?_, hE', h⟩
      by_cases e : t = q
      · subst e
        rw [hs] at hq
        cases hq
        rw [gS_same, look_set_same]
      · rw [look_set_ne _ _ e]
        by_cases e2 : s = u
        · subst e2
          exact absurd (slotOf_inj hs hq) e
        · rw [gS_ne _ _ e2]
          exact hR q u hq
    · rename_i hs
      refine ⟨_, _, _, hp, fun q u hq => ?_, hE', h⟩
      rw [look_set_ne _ _ (fun e => by subst e; rw [hs] at hq; cases hq)]
      exact hR q u hq
end Go.Fw
