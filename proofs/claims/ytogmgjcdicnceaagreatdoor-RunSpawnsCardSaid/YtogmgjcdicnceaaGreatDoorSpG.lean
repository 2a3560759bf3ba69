/-
  RunSpawns: what is said of open numbers in each case.
-/
import Derived.Test.YtogmgjcdicnceaaGreatDoorFwE
namespace Go.Proofs.YtogmgjcdicnceaaGreatDoor
open Go Go.RowKit Go.Viv Go.Eva Go.Fv
def spw (c d : Nat) : List Rl := [⟨.and, .chan (some 0), .int .i64 255, .chan (some 2)⟩, ⟨.rem, .chan (some 2), .int .i64 6, .int .i64 (.ofNat c)⟩, ⟨.and, .chan (some 1), .int .i64 255, .chan (some 3)⟩, ⟨.rem, .chan (some 3), .int .i64 3, .int .i64 (.ofNat d)⟩]
noncomputable def spwAll (c d : Nat) : Bool := runW (spw c d) [] (some 10) 3 [.chan (some 0), .chan (some 1)]
end Go.Proofs.YtogmgjcdicnceaaGreatDoor
