/-
  ScriptCursor: what is said of open values. n: how many things.
-/
import Derived.Test.YtnlinpocnopibaaGreatDoorKRuA
namespace Go.Proofs.YtnlinpocnopibaaGreatDoor
open Go Go.Eva Go.Fv
def scR (n : Nat) : Rules where
  l := [⟨.and, tk 0, n6 255, tk 2⟩, ⟨.rem, tk 2, n6 10, n6 (n - 1)⟩] ++ upto (fun i => [⟨.shr, tk 1, n6 i, tk (10 + i)⟩, ⟨.and, tk (10 + i), w6 1, tk (40 + i)⟩, ⟨.eql, tk (40 + i), w6 1, tk (100 + i)⟩]) n
  p := upto (fun i => [tst (100 + i), ⟨100 + i, n6 100, n6 i, tk (160 + i)⟩]) n
  it := fun k => Nat.ble 160 k
end Go.Proofs.YtnlinpocnopibaaGreatDoor
