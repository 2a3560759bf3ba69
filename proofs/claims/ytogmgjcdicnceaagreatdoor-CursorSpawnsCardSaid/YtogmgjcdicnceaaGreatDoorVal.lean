/-
  A part's value: its cells; whether it may be. No program in sight.
-/
import Derived.Test.YtogmgjcdicnceaaGreatDoorBase
namespace Go.Viv
open Go.RowKit

structure Val where
  k : Int
  a : Int
  b : Int
  deriving DecidableEq
def Val.cells (v : Val) : List Value := [.int .i64 v.k, .int .i64 v.a, .int .i64 v.b]
def Val.agg (v : Val) : Value := .agg #[.int .i64 v.k, .int .i64 v.a, .int .i64 v.b]
def Val.zero : Val := ⟨0, 0, 0⟩
/-- Whether a value may be. -/
def okV (v : Val) : Bool := if v.k = 1 then v.b == 0 else if v.k = 2 then true else if v.k = 3 then v.a == 0 && v.b == 0 else false
/-- A footprint, with what was made since. -/
def Ext (S : Nat → Prop) (w w' : World) (k : Nat) : Prop := S k ∨ (w.heap.size ≤ k ∧ k < w'.heap.size)
end Go.Viv
