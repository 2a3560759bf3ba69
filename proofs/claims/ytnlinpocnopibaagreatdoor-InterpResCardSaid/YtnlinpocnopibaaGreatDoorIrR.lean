/-
  InterpRes: what is said of open values. m: how many numbers are looked at.
-/
import Derived.Test.YtnlinpocnopibaaGreatDoorRuA
namespace Go.Proofs.YtnlinpocnopibaaGreatDoor
open Go Go.Eva Go.Fv
def reS : Nat → Value
  | 0 => n6 0
  | i + 1 => tk (71 + i)
def reR (m : Nat) : Rules where
  l := upto (fun i => [⟨.add, reS i, tk (40 + i), reS (i + 1)⟩]) m
  x := [⟨isLen 22, [tk 0], tk 1⟩, ⟨isMin, [tk 1, n6 20], n6 m⟩] ++ upto (fun i => [⟨isIdx 22, [tk 0, n6 i], tk (10 + i)⟩, ⟨isLd 2, [tk (10 + i)], tk (40 + i)⟩]) m
  it := fun k => Nat.ble 40 k
end Go.Proofs.YtnlinpocnopibaaGreatDoor
