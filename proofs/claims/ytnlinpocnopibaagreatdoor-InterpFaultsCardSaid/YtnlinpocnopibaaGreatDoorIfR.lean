/-
  InterpFaults: what is said of open values. n: how many things; the fault is at one of the rows from lo on and below hi, or, where hi is n, at none.
-/
import Derived.Test.YtnlinpocnopibaaGreatDoorRuA
namespace Go.Proofs.YtnlinpocnopibaaGreatDoor
open Go Go.Eva Go.Fv
/-- What a row's number comes to, if the fault is known to be at row j or behind it, or not at all. -/
def faU (hi i j : Nat) : Value := match Nat.blt i j || Nat.ble hi j with
  | true => n6 (5 * i)
  | false => tk (1000 + 30 * i + j)
/-- Rows, steps and the fault, likewise. -/
def faW (n hi j : Nat) : Value := match Nat.ble hi j || Nat.ble n (j + 1) with
  | true => n6 n
  | false => tk (200 + j)
def faS (n hi j : Nat) : Value := match Nat.ble hi j with
  | true => n6 (4 * n)
  | false => tk (230 + j)
def faF (hi j : Nat) : Value := match Nat.ble hi j with
  | true => n6 0
  | false => tk (260 + j)
def faQ (n hi j : Nat) : List Rp := [⟨10 + j, n6 (j + 1), faW n hi (j + 1), faW n hi j⟩, ⟨10 + j, n6 (4 * j + 3), faS n hi (j + 1), faS n hi j⟩, ⟨10 + j, n6 21, faF hi (j + 1), faF hi j⟩] ++ upto (fun i => match Nat.ble j i with | true => [⟨10 + j, n6 (10 * i), faU hi i (j + 1), faU hi i j⟩] | false => []) n
def faP (hi lo i : Nat) : List Rp := [tst (10 + i), ⟨10 + i, n6 0, n6 2, tk (100 + i)⟩, tst (40 + i), ⟨40 + i, n6 (5 * i), n6 (10 * i), faU hi i lo⟩]
def faR (n lo hi : Nat) : Rules where
  l := [⟨.and, tk 0, n6 255, tk 2⟩, ⟨.rem, tk 2, n6 20, n6 (n - 1)⟩, ⟨.and, tk 1, n6 255, tk 3⟩, ⟨.rem, tk 3, n6 (n + 1), tk 4⟩, ⟨.lss, tk 4, n6 n, tk 70⟩, ⟨.add, tk 4, n6 1, tk 71⟩, ⟨.mul, n6 4, tk 4, tk 72⟩, ⟨.add, tk 72, n6 3, tk 73⟩] ++ upto (fun i => [⟨.eql, n6 i, tk 4, tk (10 + i)⟩, ⟨.lss, n6 i, tk 4, tk (40 + i)⟩]) n
  p := ([tst 70, ⟨70, tk 71, n6 n, faW n hi lo⟩, ⟨70, tk 73, n6 (4 * n), faS n hi lo⟩, ⟨70, n6 21, n6 0, faF hi lo⟩] ++ upto (faP hi lo) n) ++ upto (fun j => faQ n hi (lo + j)) (hi - lo)
  it := fun k => Nat.ble 71 k
/-- The fault at row j; none if j is n. -/
def faJ (n lo hi j : Nat) : Rules := (faR n lo hi).more { l := upto (fun i => [⟨.eql, tk (100 + i), n6 0, bo (Nat.beq i j)⟩]) n ++ upto (fun i => [⟨.quo, n6 (10 * i), tk (100 + i), n6 (5 * i)⟩]) (Nat.min j n) }
def faC (n lo hi : Nat) : List Value → Option (List (Nat × Rules) × Rules) := fun _ => some (upto (fun j => [(10 + (lo + j), faJ n lo hi (lo + j))]) (hi - lo), faJ n lo hi n)
end Go.Proofs.YtnlinpocnopibaaGreatDoor
