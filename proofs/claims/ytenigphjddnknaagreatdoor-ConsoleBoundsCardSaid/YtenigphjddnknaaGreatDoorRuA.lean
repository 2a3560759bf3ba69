/-
  Rules on open values: short words for their parts. No program in sight.
-/
import Derived.Test.YtenigphjddnknaaGreatDoorFvG
namespace Go.Fv
open Go Go.Eva Go.RowKit
abbrev tk (k : Nat) : Value := .chan (some k)
abbrev n6 (n : Nat) : Value := .int .i64 (.ofNat n)
abbrev w6 (n : Nat) : Value := .int .u64 (.ofNat n)
abbrev bo (b : Bool) : Value := .bool b
/-- One after the other. -/
def upto {α : Type} (f : Nat → List α) : Nat → List α
  | 0 => []
  | n + 1 => upto f n ++ f n
theorem mem_upto {α : Type} {f : Nat → List α} {x : α} : ∀ {n : Nat}, x ∈ upto f n → ∃ i, i < n ∧ x ∈ f i
  | 0, h => by cases h
  | n + 1, h => by
    unfold upto at h
    rcases List.mem_append.1 h with h | h
    · obtain ⟨i, h1, h2⟩ := mem_upto h
      exact ⟨i, by omega, h2⟩
    · exact ⟨n, by omega, h⟩
/-- A test told apart. -/
def tst (c : Nat) : Rp := ⟨c, bo true, bo false, tk c⟩
/-- Looks at a slice of type t. -/
def isLen (t : TypeId) : Op → Bool
  | .call c => (match c.callee, c.argTypes.toList with | .builtin .len, [u] => Nat.beq u t | _, _ => false)
  | _ => false
def isMin : Op → Bool
  | .call c => (match c.callee with | .builtin .min => true | _ => false)
  | _ => false
def isIdx (t : TypeId) : Op → Bool
  | .indexAddr u _ _ => Nat.beq u t
  | _ => false
def isLd (t : TypeId) : Op → Bool
  | .load u _ => Nat.beq u t
  | _ => false
def isSl (t : TypeId) : Op → Bool
  | .slice u _ (some _) none none => Nat.beq u t
  | _ => false
end Go.Fv
