/-
  An instruction made of a number: Tame.
-/
import Derived.Test.YtadnbkjjdkgfiaaDoorFormA
import Derived.Test.YtadnbkjjdkgfiaaDoorSkipA
namespace Go.Viv
open Go.Lib
/-- The number of an instruction made of a number. -/
def nI (o n c m r : Nat) : Int :=
  if o = 1 then ((n % 32 : Nat) : Int) - 9 else if o = 7 ∨ o = 8 ∨ o = 9 ∨ o = 10 then ((n % c : Nat) : Int) else if o = 11 ∨ o = 12 then ((n % r : Nat) : Int) else if o = 13 then ((n % 2 : Nat) : Int) else ((n % m : Nat) : Int)
/-- What the first k letters lay. -/
def partI (o X c m r k : Nat) : Insn :=
  ⟨o, if (114 : UInt8) ∈ (formB o).take k then ((X / 32 % 4 : Nat) : Int) else 0, if (115 : UInt8) ∈ (formB o).take k then ((X / 128 % 4 : Nat) : Int) else 0, if (110 : UInt8) ∈ (formB o).take k then nI o (X / 512) c m r else 0⟩
abbrev tameI (o X c m r : Nat) : Insn := partI o X c m r 2
end Go.Viv
namespace Go.Proofs.YtadnbkjjdkgfiaaDoor
open Go.RowKit Go.Viv
theorem blk4 {w : World} {g : Nat} {a b c d : Value} (h : Blk w g 42 #[a, b, c, d]) : w.cell? ⟨g, 0, none⟩ = some a ∧ w.cell? ⟨g, 1, none⟩ = some b ∧ w.cell? ⟨g, 2, none⟩ = some c ∧ w.cell? ⟨g, 3, none⟩ = some d :=
  ⟨h.cell 0, h.cell 1, h.cell 2, h.cell 3⟩
theorem blk_to {w : World} {g : Nat} {cs cs' : Array Value} (h : Blk w g 42 cs) (i : Nat) (u : Value) (e : cs.setIfInBounds i u = cs') : Blk (w.setCell ⟨g, i, none⟩ u) g 42 cs' := e ▸ h.set_ i u
theorem and_nat (x : Nat) (m : Int) (k : Nat) (hk : k ≤ 62) (h : (BitVec.ofInt 64 m).toNat = 2 ^ k - 1) : bits .and .i64 (x : Int) m = ((x % 2 ^ k : Nat) : Int) := by
  rw [i64_mask _ m k hk h]
  simp
/-- What Tame does. -/
def TameC : Prop := ∀ (x : Int) (c m r : Nat) (w : World), 1 ≤ c ∧ c < 1000 → 1 ≤ m ∧ m < 1000 → 1 ≤ r ∧ r < 1000 →
    ∃ o X : Nat, 1 ≤ o ∧ o ≤ 18 ∧ X < 16777216 ∧ Calls Tryd.prog 25 #[.int .i64 x, .int .i64 c, .int .i64 m, .int .i64 r] w fun e w' => e = .returned (tameI o X c m r).agg ∧ Fr (fun _ => False) w w'
end Go.Proofs.YtadnbkjjdkgfiaaDoor
