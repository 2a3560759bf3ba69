/-
  ScriptKinds: what is said of open numbers in each case, and the runs, reckoned by the kernel.
-/
import Derived.Test.YtogmgjcdicnceaaGreatDoorFwE
namespace Go.Proofs.YtogmgjcdicnceaaGreatDoor
open Go Go.RowKit Go.Viv Go.Eva Go.Fv
def kdA : List Rl := [⟨.geq, .chan (some 0), .int .i64 1, .bool false⟩, ⟨.lss, .chan (some 0), .int .i64 1, .bool true⟩]
def kdB : List Rl := [⟨.geq, .chan (some 0), .int .i64 1, .bool true⟩, ⟨.leq, .chan (some 0), .int .i64 21, .bool false⟩, ⟨.lss, .chan (some 0), .int .i64 1, .bool false⟩, ⟨.gtr, .chan (some 0), .int .i64 21, .bool true⟩]
def kdC : List Rl := [⟨.geq, .chan (some 0), .int .i64 1, .bool true⟩, ⟨.leq, .chan (some 0), .int .i64 21, .bool true⟩]
def hnA : List Rl := [⟨.eql, .chan (some 1), .int .i64 0, .bool true⟩]
def hnB : List Rl := [⟨.eql, .chan (some 1), .int .i64 0, .bool false⟩, ⟨.lss, .chan (some 1), .int .i64 0, .bool true⟩]
def hnC : List Rl := [⟨.eql, .chan (some 1), .int .i64 0, .bool false⟩, ⟨.lss, .chan (some 1), .int .i64 0, .bool false⟩, ⟨.geq, .chan (some 1), .int .i64 1, .bool true⟩]
noncomputable def skAll (l k : List Rl) : Bool := runW (l ++ k) [] (some 18) 4 [.chan (some 0), .chan (some 1)]
set_option maxHeartbeats 8000000 in
theorem skAA : skAll kdA hnA = true := by kernel_rfl
set_option maxHeartbeats 8000000 in
theorem skAB : skAll kdA hnB = true := by kernel_rfl
set_option maxHeartbeats 8000000 in
theorem skAC : skAll kdA hnC = true := by kernel_rfl
set_option maxHeartbeats 8000000 in
theorem skBA : skAll kdB hnA = true := by kernel_rfl
set_option maxHeartbeats 8000000 in
theorem skBB : skAll kdB hnB = true := by kernel_rfl
set_option maxHeartbeats 8000000 in
theorem skBC : skAll kdB hnC = true := by kernel_rfl
set_option maxHeartbeats 8000000 in
theorem skCA : skAll kdC hnA = true := by kernel_rfl
set_option maxHeartbeats 8000000 in
theorem skCB : skAll kdC hnB = true := by kernel_rfl
set_option maxHeartbeats 8000000 in
theorem skCC : skAll kdC hnC = true := by kernel_rfl
end Go.Proofs.YtogmgjcdicnceaaGreatDoor
