/-
  InterpSkips: what is said of open values. n: how many things.
-/
import Derived.Test.YtnlinpocnopibaaGreatDoorRuA
namespace Go.Proofs.YtnlinpocnopibaaGreatDoor
open Go Go.Eva Go.Fv
/-- How many steps have been done ahead of a row; five more. -/
def skS : Nat → Value
  | 0 => n6 0
  | i + 1 => tk (221 + i)
def skA : Nat → Value
  | 0 => n6 5
  | i + 1 => tk (251 + i)
def skB : Nat → Value
  | 0 => n6 4
  | i + 1 => tk (281 + i)
/-- The steps of a row. -/
def skT : Nat → Value
  | 0 => tk 221
  | i + 1 => tk (191 + i)
def skL (i : Nat) : List Rl := [⟨.shr, tk 0, n6 i, tk (10 + i)⟩, ⟨.and, tk (10 + i), w6 1, tk (40 + i)⟩, ⟨.eql, tk (40 + i), w6 1, tk (100 + i)⟩, ⟨.mul, n6 20, tk (70 + i), tk (130 + i)⟩, ⟨.add, n6 50, tk (130 + i), tk (160 + i)⟩,
  ⟨.add, skS i, n6 5, skA i⟩, ⟨.sub, skA i, n6 1, skB i⟩, ⟨.add, skS i, skT i, skS (i + 1)⟩]
def skP (i : Nat) : List Rp := [tst (100 + i), ⟨100 + i, skB i, skA i, skS (i + 1)⟩, ⟨100 + i, n6 4, n6 5, skT i⟩, ⟨100 + i, n6 70, n6 50, tk (160 + i)⟩]
def skR (n : Nat) : Rules where
  l := [⟨.and, tk 1, n6 255, tk 2⟩, ⟨.rem, tk 2, n6 20, n6 (n - 1)⟩] ++ upto skL n
  c := upto (fun i => [⟨64, 2, tk (40 + i), tk (70 + i)⟩]) n
  p := upto skP n
  it := fun k => Nat.ble 70 k && (Nat.blt k 100 || Nat.ble 130 k)
def skC (n : Nat) : List Value → Option (List (Nat × Rules) × Rules)
  | [_, .agg ⟨[.int .i64 (.ofNat i), _]⟩] => (match Nat.blt i n with
    | true => some ([(100 + i, (skR n).more { l := [⟨.neq, tk (70 + i), n6 0, bo true⟩] })], (skR n).more { l := [⟨.neq, tk (70 + i), n6 0, bo false⟩] })
    | false => none)
  | _ => none
end Go.Proofs.YtnlinpocnopibaaGreatDoor
