/-
  InterpWaits: what is said of open numbers in each case.
-/
import Derived.Test.YtcpnjbneabmehaaGreatDoorFwE
namespace Go.Proofs.YtcpnjbneabmehaaGreatDoor
open Go Go.RowKit Go.Viv Go.Eva Go.Fv
def wai (c d : Nat) : List Rl := [⟨.and, .chan (some 0), .int .i64 255, .chan (some 2)⟩, ⟨.rem, .chan (some 2), .int .i64 10, .int .i64 (.ofNat c)⟩, ⟨.and, .chan (some 1), .int .i64 255, .chan (some 3)⟩, ⟨.rem, .chan (some 3), .int .i64 3, .int .i64 (.ofNat d)⟩]
noncomputable def waiAll (c d : Nat) : Bool := runW (wai c d) [] (some 15) 8 [.chan (some 0), .chan (some 1)]
end Go.Proofs.YtcpnjbneabmehaaGreatDoor
