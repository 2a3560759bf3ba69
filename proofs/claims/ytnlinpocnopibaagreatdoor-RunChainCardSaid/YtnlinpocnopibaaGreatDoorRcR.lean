/-
  RunChain: what is said of open values. n: how many systems; r: how far they are turned.
-/
import Derived.Test.YtnlinpocnopibaaGreatDoorRuA
namespace Go.Proofs.YtnlinpocnopibaaGreatDoor
open Go Go.Eva Go.Fv
def chW : Nat → Value
  | 0 => tk 2
  | i + 1 => tk (51 + i)
def chP : Nat → Value
  | 0 => tk 3
  | j + 1 => tk (131 + j)
def chL (n r i : Nat) : List Rl := [⟨.add, n6 i, tk 4, tk (10 + i)⟩, ⟨.rem, tk (10 + i), n6 n, n6 ((i + r) % n)⟩, ⟨.mul, n6 2, chW i, tk (70 + i)⟩, ⟨.add, chW i, chW i, tk (70 + i)⟩, ⟨.add, tk (70 + i), n6 ((i + r) % n), tk (90 + i)⟩, ⟨.add, tk (90 + i), n6 1, chW (i + 1)⟩, ⟨.add, tk (70 + i), n6 ((i + r) % n + 1), chW (i + 1)⟩]
def chR (n r : Nat) : Rules where
  l := [⟨.and, tk 0, n6 7, n6 (n - 1)⟩, ⟨.and, tk 1, n6 255, tk 4⟩, ⟨.gtr, tk 5, n6 50, bo false⟩] ++ upto (chL n r) n
  p := upto (fun m => [tst (110 + m)]) n
  x := [⟨isLen 43, [tk 3], tk 5⟩]
  it := fun k => Nat.beq k 2 || Nat.ble 51 k && Nat.blt k 110
/-- m picks and no more; m of them at least. -/
def chM (n r m : Nat) : Rules := (chR n r).more { l := upto (fun j => [⟨.rem, tk (170 + j), n6 1, n6 0⟩]) m, x := upto (fun j => [⟨isIdx 43, [chP j, n6 0], tk (150 + j)⟩, ⟨isLd 3, [tk (150 + j)], tk (170 + j)⟩, ⟨isSl 43, [chP j, n6 1], chP (j + 1)⟩]) m ++ upto (fun j => [⟨isLen 43, [chP j], n6 (m - j)⟩]) (m + 1) }
def chN (n r : Nat) : Rules := (chR n r).more { l := upto (fun j => [⟨.rem, tk (170 + j), n6 1, n6 0⟩, ⟨.gtr, tk (190 + j), n6 0, bo true⟩]) n, x := upto (fun j => [⟨isIdx 43, [chP j, n6 0], tk (150 + j)⟩, ⟨isLd 3, [tk (150 + j)], tk (170 + j)⟩, ⟨isSl 43, [chP j, n6 1], chP (j + 1)⟩, ⟨isLen 43, [chP j], tk (190 + j)⟩]) n }
def chC (n r : Nat) : List Value → Option (List (Nat × Rules) × Rules) := fun _ => some (upto (fun m => [(110 + m, chM n r m)]) n, chN n r)
/-- Too many picks: they are not looked at. -/
def chB (n _r : Nat) : Rules where
  l := [⟨.and, tk 0, n6 7, n6 (n - 1)⟩, ⟨.gtr, tk 5, n6 50, bo true⟩]
  x := [⟨isLen 43, [tk 3], tk 5⟩]
end Go.Proofs.YtnlinpocnopibaaGreatDoor
