/-
  InterpReckons: what is said of open numbers in each case.
-/
import Derived.Test.YtcpnjbneabmehaaGreatDoorFvH
namespace Go.Proofs.YtcpnjbneabmehaaGreatDoor
open Go Go.RowKit Go.Viv Go.Eva Go.Fv
def tk (n : Nat) : Value := .chan (some n)
def i64 (n : Int) : Value := .int .i64 n
def mn : Int := -9223372036854775808
def base (c : Int) : List Rl := [⟨.and, tk 2, i64 255, tk 3⟩, ⟨.rem, tk 3, i64 5, i64 c⟩]
noncomputable def rkAll (l : List Rl) (u : List Ru) : Bool := runT l u (some 15) 3 [tk 0, tk 1, tk 2]
def ruA : List Rl := [⟨.add, tk 0, tk 1, tk 4⟩, ⟨.eql, tk 4, tk 4, .bool true⟩]
def ruS : List Rl := [⟨.sub, tk 0, tk 1, tk 4⟩, ⟨.eql, tk 4, tk 4, .bool true⟩]
def ruM : List Rl := [⟨.mul, tk 0, tk 1, tk 4⟩, ⟨.eql, tk 4, tk 4, .bool true⟩]
def ruV : List Rl := [⟨.eql, tk 1, tk 1, .bool true⟩]
def ru0 : List Rl := [⟨.eql, tk 1, i64 0, .bool true⟩, ⟨.eql, tk 0, tk 0, .bool true⟩]
def ruD (m1 m2 : Bool) (x : Nat) : List Rl := [⟨.eql, tk 1, i64 0, .bool false⟩, ⟨.eql, tk 0, i64 mn, .bool m1⟩, ⟨.eql, tk 1, i64 (-1), .bool m2⟩, ⟨.neq, tk 1, i64 (-1), .bool (!m2)⟩, ⟨.eql, tk x, tk x, .bool true⟩]
def ruQ : List Rl := [⟨.quo, tk 0, tk 1, tk 4⟩]
end Go.Proofs.YtcpnjbneabmehaaGreatDoor
