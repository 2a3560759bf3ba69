/-
  What the program's table of types tells, type by type; printed by a program of ours.
-/
import Derived.Test.YtclmjcjaebonnaaGreatDoorSx12
import Derived.Test.YtclmjcjaebonnaaGreatDoorProg
namespace Go.Proofs.YtclmjcjaebonnaaGreatDoor
open Go Go.Eva Go.Sym

@[go_sem] theorem agg2 : isAggB Tryz.prog 2 = some false := by kernel_rfl
@[go_sem] theorem size2 : sizeB Tryz.prog 2 = some 1 := by kernel_rfl
@[go_sem] theorem und2 : Tryz.prog.underlying 2 = some (.int .i64) := by kernel_rfl
@[go_sem] theorem apb2 : Nat.ble (((Tryz.prog.info? 2).map (·.bytes)).getD 10000000) 1000000 = true := by kernel_rfl
@[go_sem] theorem pz2 : plainZero Tryz.prog 2 = some [.int .i64 0] := by kernel_rfl
@[go_sem] theorem agg3 : isAggB Tryz.prog 3 = some false := by kernel_rfl
@[go_sem] theorem size3 : sizeB Tryz.prog 3 = some 1 := by kernel_rfl
@[go_sem] theorem und3 : Tryz.prog.underlying 3 = some (.int .i64) := by kernel_rfl
@[go_sem] theorem apb3 : Nat.ble (((Tryz.prog.info? 3).map (·.bytes)).getD 10000000) 1000000 = true := by kernel_rfl
@[go_sem] theorem pz3 : plainZero Tryz.prog 3 = some [.int .i64 0] := by kernel_rfl
@[go_sem] theorem agg4 : isAggB Tryz.prog 4 = some false := by kernel_rfl
@[go_sem] theorem size4 : sizeB Tryz.prog 4 = some 1 := by kernel_rfl
@[go_sem] theorem und4 : Tryz.prog.underlying 4 = some .bool := by kernel_rfl
@[go_sem] theorem apb4 : Nat.ble (((Tryz.prog.info? 4).map (·.bytes)).getD 10000000) 1000000 = true := by kernel_rfl
@[go_sem] theorem pz4 : plainZero Tryz.prog 4 = some [.bool false] := by kernel_rfl
@[go_sem] theorem agg5 : isAggB Tryz.prog 5 = some false := by kernel_rfl
@[go_sem] theorem size5 : sizeB Tryz.prog 5 = some 1 := by kernel_rfl
@[go_sem] theorem und5 : Tryz.prog.underlying 5 = some (.int .u8) := by kernel_rfl
@[go_sem] theorem apb5 : Nat.ble (((Tryz.prog.info? 5).map (·.bytes)).getD 10000000) 1000000 = true := by kernel_rfl
@[go_sem] theorem pz5 : plainZero Tryz.prog 5 = some [.int .u8 0] := by kernel_rfl
@[go_sem] theorem agg9 : isAggB Tryz.prog 9 = some false := by kernel_rfl
@[go_sem] theorem size9 : sizeB Tryz.prog 9 = some 1 := by kernel_rfl
@[go_sem] theorem und9 : Tryz.prog.underlying 9 = some .string := by kernel_rfl
@[go_sem] theorem apb9 : Nat.ble (((Tryz.prog.info? 9).map (·.bytes)).getD 10000000) 1000000 = true := by kernel_rfl
@[go_sem] theorem pz9 : plainZero Tryz.prog 9 = some [.string ⟨#[]⟩] := by kernel_rfl
@[go_sem] theorem agg12 : isAggB Tryz.prog 12 = some false := by kernel_rfl
@[go_sem] theorem size12 : sizeB Tryz.prog 12 = some 1 := by kernel_rfl
@[go_sem] theorem und12 : Tryz.prog.underlying 12 = some (.int .u64) := by kernel_rfl
@[go_sem] theorem apb12 : Nat.ble (((Tryz.prog.info? 12).map (·.bytes)).getD 10000000) 1000000 = true := by kernel_rfl
@[go_sem] theorem pz12 : plainZero Tryz.prog 12 = some [.int .u64 0] := by kernel_rfl
@[go_sem] theorem agg20 : isAggB Tryz.prog 20 = some false := by kernel_rfl
@[go_sem] theorem size20 : sizeB Tryz.prog 20 = some 1 := by kernel_rfl
@[go_sem] theorem apb20 : Nat.ble (((Tryz.prog.info? 20).map (·.bytes)).getD 10000000) 1000000 = true := by kernel_rfl
@[go_sem] theorem pz20 : plainZero Tryz.prog 20 = some [.nilIface] := by kernel_rfl
@[go_sem] theorem agg21 : isAggB Tryz.prog 21 = some false := by kernel_rfl
@[go_sem] theorem size21 : sizeB Tryz.prog 21 = some 1 := by kernel_rfl
@[go_sem] theorem und21 : Tryz.prog.underlying 21 = some (.int .i32) := by kernel_rfl
@[go_sem] theorem apb21 : Nat.ble (((Tryz.prog.info? 21).map (·.bytes)).getD 10000000) 1000000 = true := by kernel_rfl
@[go_sem] theorem pz21 : plainZero Tryz.prog 21 = some [.int .i32 0] := by kernel_rfl
@[go_sem] theorem agg22 : isAggB Tryz.prog 22 = some false := by kernel_rfl
@[go_sem] theorem size22 : sizeB Tryz.prog 22 = some 1 := by kernel_rfl
@[go_sem] theorem und22 : Tryz.prog.underlying 22 = some (.int .i64) := by kernel_rfl
@[go_sem] theorem apb22 : Nat.ble (((Tryz.prog.info? 22).map (·.bytes)).getD 10000000) 1000000 = true := by kernel_rfl
@[go_sem] theorem pz22 : plainZero Tryz.prog 22 = some [.int .i64 0] := by kernel_rfl
@[go_sem] theorem agg23 : isAggB Tryz.prog 23 = some true := by kernel_rfl
@[go_sem] theorem size23 : sizeB Tryz.prog 23 = some 2 := by kernel_rfl
@[go_sem] theorem apb23 : Nat.ble (((Tryz.prog.info? 23).map (·.bytes)).getD 10000000) 1000000 = true := by kernel_rfl
@[go_sem] theorem pz23 : plainZero Tryz.prog 23 = some [.int .i64 0, .int .i64 0] := by kernel_rfl
@[go_sem] theorem flat23 : flatI Tryz.prog 23 = some 2 := by kernel_rfl
@[go_sem] theorem bld23 (parts : List (Nat × Value)) : buildB Tryz.prog 23 parts = (fillB (fun i => ([(0, 1), (1, 1)] : List (Nat × Nat))[i]?) [.int .i64 0, .int .i64 0] parts).map fun l => .agg ⟨l⟩ := by kernel_rfl
@[go_sem] theorem fa23_0 (B o : Nat) : fieldAddrB Tryz.prog 23 0 (.pointer (some ⟨B, o, none⟩)) = some (.pointer (some ⟨B, o, none⟩)) := by kernel_rfl
@[go_sem] theorem fd23_0 (l : List Value) : fieldB Tryz.prog 23 0 (.agg ⟨l⟩) = l[0]? := by kernel_rfl
@[go_sem] theorem fa23_1 (B o : Nat) : fieldAddrB Tryz.prog 23 1 (.pointer (some ⟨B, o, none⟩)) = some (.pointer (some ⟨B, o + 1, none⟩)) := by kernel_rfl
@[go_sem] theorem fd23_1 (l : List Value) : fieldB Tryz.prog 23 1 (.agg ⟨l⟩) = l[1]? := by kernel_rfl
@[go_sem] theorem agg24 : isAggB Tryz.prog 24 = some true := by kernel_rfl
@[go_sem] theorem size24 : sizeB Tryz.prog 24 = some 2 := by kernel_rfl
@[go_sem] theorem apb24 : Nat.ble (((Tryz.prog.info? 24).map (·.bytes)).getD 10000000) 1000000 = true := by kernel_rfl
@[go_sem] theorem pz24 : plainZero Tryz.prog 24 = some [.int .i64 0, .int .i64 0] := by kernel_rfl
@[go_sem] theorem flat24 : flatI Tryz.prog 24 = some 2 := by kernel_rfl
@[go_sem] theorem bld24 (parts : List (Nat × Value)) : buildB Tryz.prog 24 parts = (fillB (fun i => ([(0, 1), (1, 1)] : List (Nat × Nat))[i]?) [.int .i64 0, .int .i64 0] parts).map fun l => .agg ⟨l⟩ := by kernel_rfl
@[go_sem] theorem fa24_0 (B o : Nat) : fieldAddrB Tryz.prog 24 0 (.pointer (some ⟨B, o, none⟩)) = some (.pointer (some ⟨B, o, none⟩)) := by kernel_rfl
@[go_sem] theorem fd24_0 (l : List Value) : fieldB Tryz.prog 24 0 (.agg ⟨l⟩) = l[0]? := by kernel_rfl
@[go_sem] theorem fa24_1 (B o : Nat) : fieldAddrB Tryz.prog 24 1 (.pointer (some ⟨B, o, none⟩)) = some (.pointer (some ⟨B, o + 1, none⟩)) := by kernel_rfl
@[go_sem] theorem fd24_1 (l : List Value) : fieldB Tryz.prog 24 1 (.agg ⟨l⟩) = l[1]? := by kernel_rfl
@[go_sem] theorem agg25 : isAggB Tryz.prog 25 = some true := by kernel_rfl
@[go_sem] theorem size25 : sizeB Tryz.prog 25 = some 3 := by kernel_rfl
@[go_sem] theorem apb25 : Nat.ble (((Tryz.prog.info? 25).map (·.bytes)).getD 10000000) 1000000 = true := by kernel_rfl
@[go_sem] theorem pz25 : plainZero Tryz.prog 25 = some [.int .i64 0, .int .i64 0, .int .i64 0] := by kernel_rfl
@[go_sem] theorem flat25 : flatI Tryz.prog 25 = some 3 := by kernel_rfl
@[go_sem] theorem bld25 (parts : List (Nat × Value)) : buildB Tryz.prog 25 parts = (fillB (fun i => ([(0, 1), (1, 1), (2, 1)] : List (Nat × Nat))[i]?) [.int .i64 0, .int .i64 0, .int .i64 0] parts).map fun l => .agg ⟨l⟩ := by kernel_rfl
@[go_sem] theorem fa25_0 (B o : Nat) : fieldAddrB Tryz.prog 25 0 (.pointer (some ⟨B, o, none⟩)) = some (.pointer (some ⟨B, o, none⟩)) := by kernel_rfl
@[go_sem] theorem fd25_0 (l : List Value) : fieldB Tryz.prog 25 0 (.agg ⟨l⟩) = l[0]? := by kernel_rfl
@[go_sem] theorem fa25_1 (B o : Nat) : fieldAddrB Tryz.prog 25 1 (.pointer (some ⟨B, o, none⟩)) = some (.pointer (some ⟨B, o + 1, none⟩)) := by kernel_rfl
@[go_sem] theorem fd25_1 (l : List Value) : fieldB Tryz.prog 25 1 (.agg ⟨l⟩) = l[1]? := by kernel_rfl
@[go_sem] theorem fa25_2 (B o : Nat) : fieldAddrB Tryz.prog 25 2 (.pointer (some ⟨B, o, none⟩)) = some (.pointer (some ⟨B, o + 2, none⟩)) := by kernel_rfl
@[go_sem] theorem fd25_2 (l : List Value) : fieldB Tryz.prog 25 2 (.agg ⟨l⟩) = l[2]? := by kernel_rfl
@[go_sem] theorem agg26 : isAggB Tryz.prog 26 = some true := by kernel_rfl
@[go_sem] theorem size26 : sizeB Tryz.prog 26 = some 3 := by kernel_rfl
@[go_sem] theorem apb26 : Nat.ble (((Tryz.prog.info? 26).map (·.bytes)).getD 10000000) 1000000 = true := by kernel_rfl
@[go_sem] theorem pz26 : plainZero Tryz.prog 26 = some [.int .i64 0, .int .i64 0, .int .i64 0] := by kernel_rfl
@[go_sem] theorem flat26 : flatI Tryz.prog 26 = some 3 := by kernel_rfl
@[go_sem] theorem bld26 (parts : List (Nat × Value)) : buildB Tryz.prog 26 parts = (fillB (fun i => ([(0, 1), (1, 1), (2, 1)] : List (Nat × Nat))[i]?) [.int .i64 0, .int .i64 0, .int .i64 0] parts).map fun l => .agg ⟨l⟩ := by kernel_rfl
@[go_sem] theorem fa26_0 (B o : Nat) : fieldAddrB Tryz.prog 26 0 (.pointer (some ⟨B, o, none⟩)) = some (.pointer (some ⟨B, o, none⟩)) := by kernel_rfl
@[go_sem] theorem fd26_0 (l : List Value) : fieldB Tryz.prog 26 0 (.agg ⟨l⟩) = l[0]? := by kernel_rfl
@[go_sem] theorem fa26_1 (B o : Nat) : fieldAddrB Tryz.prog 26 1 (.pointer (some ⟨B, o, none⟩)) = some (.pointer (some ⟨B, o + 1, none⟩)) := by kernel_rfl
@[go_sem] theorem fd26_1 (l : List Value) : fieldB Tryz.prog 26 1 (.agg ⟨l⟩) = l[1]? := by kernel_rfl
@[go_sem] theorem fa26_2 (B o : Nat) : fieldAddrB Tryz.prog 26 2 (.pointer (some ⟨B, o, none⟩)) = some (.pointer (some ⟨B, o + 2, none⟩)) := by kernel_rfl
@[go_sem] theorem fd26_2 (l : List Value) : fieldB Tryz.prog 26 2 (.agg ⟨l⟩) = l[2]? := by kernel_rfl
@[go_sem] theorem agg27 : isAggB Tryz.prog 27 = some false := by kernel_rfl
@[go_sem] theorem size27 : sizeB Tryz.prog 27 = some 1 := by kernel_rfl
@[go_sem] theorem und27 : Tryz.prog.underlying 27 = some (.slice 3) := by kernel_rfl
@[go_sem] theorem apb27 : Nat.ble (((Tryz.prog.info? 27).map (·.bytes)).getD 10000000) 1000000 = true := by kernel_rfl
@[go_sem] theorem pz27 : plainZero Tryz.prog 27 = some [.slice none 0 0] := by kernel_rfl
@[go_sem] theorem agg28 : isAggB Tryz.prog 28 = some false := by kernel_rfl
@[go_sem] theorem size28 : sizeB Tryz.prog 28 = some 1 := by kernel_rfl
@[go_sem] theorem und28 : Tryz.prog.underlying 28 = some (.slice 42) := by kernel_rfl
@[go_sem] theorem apb28 : Nat.ble (((Tryz.prog.info? 28).map (·.bytes)).getD 10000000) 1000000 = true := by kernel_rfl
@[go_sem] theorem pz28 : plainZero Tryz.prog 28 = some [.slice none 0 0] := by kernel_rfl
@[go_sem] theorem agg29 : isAggB Tryz.prog 29 = some false := by kernel_rfl
@[go_sem] theorem size29 : sizeB Tryz.prog 29 = some 1 := by kernel_rfl
@[go_sem] theorem und29 : Tryz.prog.underlying 29 = some (.slice 26) := by kernel_rfl
@[go_sem] theorem apb29 : Nat.ble (((Tryz.prog.info? 29).map (·.bytes)).getD 10000000) 1000000 = true := by kernel_rfl
@[go_sem] theorem pz29 : plainZero Tryz.prog 29 = some [.slice none 0 0] := by kernel_rfl
@[go_sem] theorem agg30 : isAggB Tryz.prog 30 = some false := by kernel_rfl
@[go_sem] theorem size30 : sizeB Tryz.prog 30 = some 1 := by kernel_rfl
@[go_sem] theorem und30 : Tryz.prog.underlying 30 = some (.slice 4) := by kernel_rfl
@[go_sem] theorem apb30 : Nat.ble (((Tryz.prog.info? 30).map (·.bytes)).getD 10000000) 1000000 = true := by kernel_rfl
@[go_sem] theorem pz30 : plainZero Tryz.prog 30 = some [.slice none 0 0] := by kernel_rfl
@[go_sem] theorem agg31 : isAggB Tryz.prog 31 = some true := by kernel_rfl
@[go_sem] theorem size31 : sizeB Tryz.prog 31 = some 4 := by kernel_rfl
@[go_sem] theorem apb31 : Nat.ble (((Tryz.prog.info? 31).map (·.bytes)).getD 10000000) 1000000 = true := by kernel_rfl
@[go_sem] theorem pz31 : plainZero Tryz.prog 31 = some [.int .i64 0, .int .i64 0, .slice none 0 0, .slice none 0 0] := by kernel_rfl
@[go_sem] theorem bld31 (parts : List (Nat × Value)) : buildB Tryz.prog 31 parts = (fillB (fun i => ([(0, 2), (2, 1), (3, 1)] : List (Nat × Nat))[i]?) [.int .i64 0, .int .i64 0, .slice none 0 0, .slice none 0 0] parts).map fun l => .agg ⟨l⟩ := by kernel_rfl
@[go_sem] theorem fa31_0 (B o : Nat) : fieldAddrB Tryz.prog 31 0 (.pointer (some ⟨B, o, none⟩)) = some (.pointer (some ⟨B, o, none⟩)) := by kernel_rfl
@[go_sem] theorem fd31_0 (l : List Value) : fieldB Tryz.prog 31 0 (.agg ⟨l⟩) = some (.agg ⟨(l.drop 0).take 2⟩) := by kernel_rfl
@[go_sem] theorem fa31_1 (B o : Nat) : fieldAddrB Tryz.prog 31 1 (.pointer (some ⟨B, o, none⟩)) = some (.pointer (some ⟨B, o + 2, none⟩)) := by kernel_rfl
@[go_sem] theorem fd31_1 (l : List Value) : fieldB Tryz.prog 31 1 (.agg ⟨l⟩) = l[2]? := by kernel_rfl
@[go_sem] theorem fa31_2 (B o : Nat) : fieldAddrB Tryz.prog 31 2 (.pointer (some ⟨B, o, none⟩)) = some (.pointer (some ⟨B, o + 3, none⟩)) := by kernel_rfl
@[go_sem] theorem fd31_2 (l : List Value) : fieldB Tryz.prog 31 2 (.agg ⟨l⟩) = l[3]? := by kernel_rfl
@[go_sem] theorem agg32 : isAggB Tryz.prog 32 = some true := by kernel_rfl
@[go_sem] theorem size32 : sizeB Tryz.prog 32 = some 4 := by kernel_rfl
@[go_sem] theorem apb32 : Nat.ble (((Tryz.prog.info? 32).map (·.bytes)).getD 10000000) 1000000 = true := by kernel_rfl
@[go_sem] theorem pz32 : plainZero Tryz.prog 32 = some [.int .i64 0, .int .i64 0, .slice none 0 0, .slice none 0 0] := by kernel_rfl
@[go_sem] theorem bld32 (parts : List (Nat × Value)) : buildB Tryz.prog 32 parts = (fillB (fun i => ([(0, 2), (2, 1), (3, 1)] : List (Nat × Nat))[i]?) [.int .i64 0, .int .i64 0, .slice none 0 0, .slice none 0 0] parts).map fun l => .agg ⟨l⟩ := by kernel_rfl
@[go_sem] theorem fa32_0 (B o : Nat) : fieldAddrB Tryz.prog 32 0 (.pointer (some ⟨B, o, none⟩)) = some (.pointer (some ⟨B, o, none⟩)) := by kernel_rfl
@[go_sem] theorem fd32_0 (l : List Value) : fieldB Tryz.prog 32 0 (.agg ⟨l⟩) = some (.agg ⟨(l.drop 0).take 2⟩) := by kernel_rfl
@[go_sem] theorem fa32_1 (B o : Nat) : fieldAddrB Tryz.prog 32 1 (.pointer (some ⟨B, o, none⟩)) = some (.pointer (some ⟨B, o + 2, none⟩)) := by kernel_rfl
@[go_sem] theorem fd32_1 (l : List Value) : fieldB Tryz.prog 32 1 (.agg ⟨l⟩) = l[2]? := by kernel_rfl
@[go_sem] theorem fa32_2 (B o : Nat) : fieldAddrB Tryz.prog 32 2 (.pointer (some ⟨B, o, none⟩)) = some (.pointer (some ⟨B, o + 3, none⟩)) := by kernel_rfl
@[go_sem] theorem fd32_2 (l : List Value) : fieldB Tryz.prog 32 2 (.agg ⟨l⟩) = l[3]? := by kernel_rfl
@[go_sem] theorem agg33 : isAggB Tryz.prog 33 = some true := by kernel_rfl
@[go_sem] theorem size33 : sizeB Tryz.prog 33 = some 3 := by kernel_rfl
@[go_sem] theorem apb33 : Nat.ble (((Tryz.prog.info? 33).map (·.bytes)).getD 10000000) 1000000 = true := by kernel_rfl
@[go_sem] theorem pz33 : plainZero Tryz.prog 33 = some [.int .i64 0, .int .i64 0, .int .i64 0] := by kernel_rfl
@[go_sem] theorem flat33 : flatI Tryz.prog 33 = some 3 := by kernel_rfl
@[go_sem] theorem bld33 (parts : List (Nat × Value)) : buildB Tryz.prog 33 parts = (fillB (fun i => ([(0, 1), (1, 1), (2, 1)] : List (Nat × Nat))[i]?) [.int .i64 0, .int .i64 0, .int .i64 0] parts).map fun l => .agg ⟨l⟩ := by kernel_rfl
@[go_sem] theorem fa33_0 (B o : Nat) : fieldAddrB Tryz.prog 33 0 (.pointer (some ⟨B, o, none⟩)) = some (.pointer (some ⟨B, o, none⟩)) := by kernel_rfl
@[go_sem] theorem fd33_0 (l : List Value) : fieldB Tryz.prog 33 0 (.agg ⟨l⟩) = l[0]? := by kernel_rfl
@[go_sem] theorem fa33_1 (B o : Nat) : fieldAddrB Tryz.prog 33 1 (.pointer (some ⟨B, o, none⟩)) = some (.pointer (some ⟨B, o + 1, none⟩)) := by kernel_rfl
@[go_sem] theorem fd33_1 (l : List Value) : fieldB Tryz.prog 33 1 (.agg ⟨l⟩) = l[1]? := by kernel_rfl
@[go_sem] theorem fa33_2 (B o : Nat) : fieldAddrB Tryz.prog 33 2 (.pointer (some ⟨B, o, none⟩)) = some (.pointer (some ⟨B, o + 2, none⟩)) := by kernel_rfl
@[go_sem] theorem fd33_2 (l : List Value) : fieldB Tryz.prog 33 2 (.agg ⟨l⟩) = l[2]? := by kernel_rfl
@[go_sem] theorem agg34 : isAggB Tryz.prog 34 = some true := by kernel_rfl
@[go_sem] theorem size34 : sizeB Tryz.prog 34 = some 3 := by kernel_rfl
@[go_sem] theorem apb34 : Nat.ble (((Tryz.prog.info? 34).map (·.bytes)).getD 10000000) 1000000 = true := by kernel_rfl
@[go_sem] theorem pz34 : plainZero Tryz.prog 34 = some [.int .i64 0, .int .i64 0, .int .i64 0] := by kernel_rfl
@[go_sem] theorem flat34 : flatI Tryz.prog 34 = some 3 := by kernel_rfl
@[go_sem] theorem bld34 (parts : List (Nat × Value)) : buildB Tryz.prog 34 parts = (fillB (fun i => ([(0, 1), (1, 1), (2, 1)] : List (Nat × Nat))[i]?) [.int .i64 0, .int .i64 0, .int .i64 0] parts).map fun l => .agg ⟨l⟩ := by kernel_rfl
@[go_sem] theorem fa34_0 (B o : Nat) : fieldAddrB Tryz.prog 34 0 (.pointer (some ⟨B, o, none⟩)) = some (.pointer (some ⟨B, o, none⟩)) := by kernel_rfl
@[go_sem] theorem fd34_0 (l : List Value) : fieldB Tryz.prog 34 0 (.agg ⟨l⟩) = l[0]? := by kernel_rfl
@[go_sem] theorem fa34_1 (B o : Nat) : fieldAddrB Tryz.prog 34 1 (.pointer (some ⟨B, o, none⟩)) = some (.pointer (some ⟨B, o + 1, none⟩)) := by kernel_rfl
@[go_sem] theorem fd34_1 (l : List Value) : fieldB Tryz.prog 34 1 (.agg ⟨l⟩) = l[1]? := by kernel_rfl
@[go_sem] theorem fa34_2 (B o : Nat) : fieldAddrB Tryz.prog 34 2 (.pointer (some ⟨B, o, none⟩)) = some (.pointer (some ⟨B, o + 2, none⟩)) := by kernel_rfl
@[go_sem] theorem fd34_2 (l : List Value) : fieldB Tryz.prog 34 2 (.agg ⟨l⟩) = l[2]? := by kernel_rfl
@[go_sem] theorem agg35 : isAggB Tryz.prog 35 = some false := by kernel_rfl
@[go_sem] theorem size35 : sizeB Tryz.prog 35 = some 1 := by kernel_rfl
@[go_sem] theorem und35 : Tryz.prog.underlying 35 = some (.slice 44) := by kernel_rfl
@[go_sem] theorem apb35 : Nat.ble (((Tryz.prog.info? 35).map (·.bytes)).getD 10000000) 1000000 = true := by kernel_rfl
@[go_sem] theorem pz35 : plainZero Tryz.prog 35 = some [.slice none 0 0] := by kernel_rfl
@[go_sem] theorem agg36 : isAggB Tryz.prog 36 = some true := by kernel_rfl
@[go_sem] theorem size36 : sizeB Tryz.prog 36 = some 6 := by kernel_rfl
@[go_sem] theorem apb36 : Nat.ble (((Tryz.prog.info? 36).map (·.bytes)).getD 10000000) 1000000 = true := by kernel_rfl
@[go_sem] theorem pz36 : plainZero Tryz.prog 36 = some [.slice none 0 0, .int .i64 0, .bool false, .int .i64 0, .int .i64 0, .int .i64 0] := by kernel_rfl
@[go_sem] theorem bld36 (parts : List (Nat × Value)) : buildB Tryz.prog 36 parts = (fillB (fun i => ([(0, 1), (1, 1), (2, 1), (3, 3)] : List (Nat × Nat))[i]?) [.slice none 0 0, .int .i64 0, .bool false, .int .i64 0, .int .i64 0, .int .i64 0] parts).map fun l => .agg ⟨l⟩ := by kernel_rfl
@[go_sem] theorem fa36_0 (B o : Nat) : fieldAddrB Tryz.prog 36 0 (.pointer (some ⟨B, o, none⟩)) = some (.pointer (some ⟨B, o, none⟩)) := by kernel_rfl
@[go_sem] theorem fd36_0 (l : List Value) : fieldB Tryz.prog 36 0 (.agg ⟨l⟩) = l[0]? := by kernel_rfl
@[go_sem] theorem fa36_1 (B o : Nat) : fieldAddrB Tryz.prog 36 1 (.pointer (some ⟨B, o, none⟩)) = some (.pointer (some ⟨B, o + 1, none⟩)) := by kernel_rfl
@[go_sem] theorem fd36_1 (l : List Value) : fieldB Tryz.prog 36 1 (.agg ⟨l⟩) = l[1]? := by kernel_rfl
@[go_sem] theorem fa36_2 (B o : Nat) : fieldAddrB Tryz.prog 36 2 (.pointer (some ⟨B, o, none⟩)) = some (.pointer (some ⟨B, o + 2, none⟩)) := by kernel_rfl
@[go_sem] theorem fd36_2 (l : List Value) : fieldB Tryz.prog 36 2 (.agg ⟨l⟩) = l[2]? := by kernel_rfl
@[go_sem] theorem fa36_3 (B o : Nat) : fieldAddrB Tryz.prog 36 3 (.pointer (some ⟨B, o, none⟩)) = some (.pointer (some ⟨B, o + 3, none⟩)) := by kernel_rfl
@[go_sem] theorem fd36_3 (l : List Value) : fieldB Tryz.prog 36 3 (.agg ⟨l⟩) = some (.agg ⟨(l.drop 3).take 3⟩) := by kernel_rfl
@[go_sem] theorem agg37 : isAggB Tryz.prog 37 = some true := by kernel_rfl
@[go_sem] theorem size37 : sizeB Tryz.prog 37 = some 6 := by kernel_rfl
@[go_sem] theorem apb37 : Nat.ble (((Tryz.prog.info? 37).map (·.bytes)).getD 10000000) 1000000 = true := by kernel_rfl
@[go_sem] theorem pz37 : plainZero Tryz.prog 37 = some [.slice none 0 0, .int .i64 0, .bool false, .int .i64 0, .int .i64 0, .int .i64 0] := by kernel_rfl
@[go_sem] theorem bld37 (parts : List (Nat × Value)) : buildB Tryz.prog 37 parts = (fillB (fun i => ([(0, 1), (1, 1), (2, 1), (3, 3)] : List (Nat × Nat))[i]?) [.slice none 0 0, .int .i64 0, .bool false, .int .i64 0, .int .i64 0, .int .i64 0] parts).map fun l => .agg ⟨l⟩ := by kernel_rfl
@[go_sem] theorem fa37_0 (B o : Nat) : fieldAddrB Tryz.prog 37 0 (.pointer (some ⟨B, o, none⟩)) = some (.pointer (some ⟨B, o, none⟩)) := by kernel_rfl
@[go_sem] theorem fd37_0 (l : List Value) : fieldB Tryz.prog 37 0 (.agg ⟨l⟩) = l[0]? := by kernel_rfl
@[go_sem] theorem fa37_1 (B o : Nat) : fieldAddrB Tryz.prog 37 1 (.pointer (some ⟨B, o, none⟩)) = some (.pointer (some ⟨B, o + 1, none⟩)) := by kernel_rfl
@[go_sem] theorem fd37_1 (l : List Value) : fieldB Tryz.prog 37 1 (.agg ⟨l⟩) = l[1]? := by kernel_rfl
@[go_sem] theorem fa37_2 (B o : Nat) : fieldAddrB Tryz.prog 37 2 (.pointer (some ⟨B, o, none⟩)) = some (.pointer (some ⟨B, o + 2, none⟩)) := by kernel_rfl
@[go_sem] theorem fd37_2 (l : List Value) : fieldB Tryz.prog 37 2 (.agg ⟨l⟩) = l[2]? := by kernel_rfl
@[go_sem] theorem fa37_3 (B o : Nat) : fieldAddrB Tryz.prog 37 3 (.pointer (some ⟨B, o, none⟩)) = some (.pointer (some ⟨B, o + 3, none⟩)) := by kernel_rfl
@[go_sem] theorem fd37_3 (l : List Value) : fieldB Tryz.prog 37 3 (.agg ⟨l⟩) = some (.agg ⟨(l.drop 3).take 3⟩) := by kernel_rfl
@[go_sem] theorem agg38 : isAggB Tryz.prog 38 = some true := by kernel_rfl
@[go_sem] theorem size38 : sizeB Tryz.prog 38 = some 23 := by kernel_rfl
@[go_sem] theorem apb38 : Nat.ble (((Tryz.prog.info? 38).map (·.bytes)).getD 10000000) 1000000 = true := by kernel_rfl
@[go_sem] theorem pz38 : plainZero Tryz.prog 38 = some [.int .i64 0, .int .i64 0, .int .i64 0, .int .i64 0, .int .i64 0, .int .i64 0, .bool false, .int .i64 0, .slice none 0 0, .slice none 0 0, .int .i64 0, .int .i64 0, .slice none 0 0, .slice none 0 0, .int .i64 0, .int .i64 0, .int .i64 0, .slice none 0 0, .int .i64 0, .bool false, .int .i64 0, .int .i64 0, .int .i64 0] := by kernel_rfl
@[go_sem] theorem bld38 (parts : List (Nat × Value)) : buildB Tryz.prog 38 parts = (fillB (fun i => ([(0, 1), (1, 2), (3, 3), (6, 1), (7, 1), (8, 1), (9, 1), (10, 4), (14, 3), (17, 6)] : List (Nat × Nat))[i]?) [.int .i64 0, .int .i64 0, .int .i64 0, .int .i64 0, .int .i64 0, .int .i64 0, .bool false, .int .i64 0, .slice none 0 0, .slice none 0 0, .int .i64 0, .int .i64 0, .slice none 0 0, .slice none 0 0, .int .i64 0, .int .i64 0, .int .i64 0, .slice none 0 0, .int .i64 0, .bool false, .int .i64 0, .int .i64 0, .int .i64 0] parts).map fun l => .agg ⟨l⟩ := by kernel_rfl
@[go_sem] theorem fa38_0 (B o : Nat) : fieldAddrB Tryz.prog 38 0 (.pointer (some ⟨B, o, none⟩)) = some (.pointer (some ⟨B, o, none⟩)) := by kernel_rfl
@[go_sem] theorem fd38_0 (l : List Value) : fieldB Tryz.prog 38 0 (.agg ⟨l⟩) = l[0]? := by kernel_rfl
@[go_sem] theorem fa38_1 (B o : Nat) : fieldAddrB Tryz.prog 38 1 (.pointer (some ⟨B, o, none⟩)) = some (.pointer (some ⟨B, o + 1, none⟩)) := by kernel_rfl
@[go_sem] theorem fd38_1 (l : List Value) : fieldB Tryz.prog 38 1 (.agg ⟨l⟩) = some (.agg ⟨(l.drop 1).take 2⟩) := by kernel_rfl
@[go_sem] theorem fa38_2 (B o : Nat) : fieldAddrB Tryz.prog 38 2 (.pointer (some ⟨B, o, none⟩)) = some (.pointer (some ⟨B, o + 3, none⟩)) := by kernel_rfl
@[go_sem] theorem fd38_2 (l : List Value) : fieldB Tryz.prog 38 2 (.agg ⟨l⟩) = some (.agg ⟨(l.drop 3).take 3⟩) := by kernel_rfl
@[go_sem] theorem fa38_3 (B o : Nat) : fieldAddrB Tryz.prog 38 3 (.pointer (some ⟨B, o, none⟩)) = some (.pointer (some ⟨B, o + 6, none⟩)) := by kernel_rfl
@[go_sem] theorem fd38_3 (l : List Value) : fieldB Tryz.prog 38 3 (.agg ⟨l⟩) = l[6]? := by kernel_rfl
@[go_sem] theorem fa38_4 (B o : Nat) : fieldAddrB Tryz.prog 38 4 (.pointer (some ⟨B, o, none⟩)) = some (.pointer (some ⟨B, o + 7, none⟩)) := by kernel_rfl
@[go_sem] theorem fd38_4 (l : List Value) : fieldB Tryz.prog 38 4 (.agg ⟨l⟩) = l[7]? := by kernel_rfl
@[go_sem] theorem fa38_5 (B o : Nat) : fieldAddrB Tryz.prog 38 5 (.pointer (some ⟨B, o, none⟩)) = some (.pointer (some ⟨B, o + 8, none⟩)) := by kernel_rfl
@[go_sem] theorem fd38_5 (l : List Value) : fieldB Tryz.prog 38 5 (.agg ⟨l⟩) = l[8]? := by kernel_rfl
@[go_sem] theorem fa38_6 (B o : Nat) : fieldAddrB Tryz.prog 38 6 (.pointer (some ⟨B, o, none⟩)) = some (.pointer (some ⟨B, o + 9, none⟩)) := by kernel_rfl
@[go_sem] theorem fd38_6 (l : List Value) : fieldB Tryz.prog 38 6 (.agg ⟨l⟩) = l[9]? := by kernel_rfl
@[go_sem] theorem fa38_7 (B o : Nat) : fieldAddrB Tryz.prog 38 7 (.pointer (some ⟨B, o, none⟩)) = some (.pointer (some ⟨B, o + 10, none⟩)) := by kernel_rfl
@[go_sem] theorem fd38_7 (l : List Value) : fieldB Tryz.prog 38 7 (.agg ⟨l⟩) = some (.agg ⟨(l.drop 10).take 4⟩) := by kernel_rfl
@[go_sem] theorem fa38_8 (B o : Nat) : fieldAddrB Tryz.prog 38 8 (.pointer (some ⟨B, o, none⟩)) = some (.pointer (some ⟨B, o + 14, none⟩)) := by kernel_rfl
@[go_sem] theorem fd38_8 (l : List Value) : fieldB Tryz.prog 38 8 (.agg ⟨l⟩) = some (.agg ⟨(l.drop 14).take 3⟩) := by kernel_rfl
@[go_sem] theorem fa38_9 (B o : Nat) : fieldAddrB Tryz.prog 38 9 (.pointer (some ⟨B, o, none⟩)) = some (.pointer (some ⟨B, o + 17, none⟩)) := by kernel_rfl
@[go_sem] theorem fd38_9 (l : List Value) : fieldB Tryz.prog 38 9 (.agg ⟨l⟩) = some (.agg ⟨(l.drop 17).take 6⟩) := by kernel_rfl
@[go_sem] theorem agg39 : isAggB Tryz.prog 39 = some true := by kernel_rfl
@[go_sem] theorem size39 : sizeB Tryz.prog 39 = some 23 := by kernel_rfl
@[go_sem] theorem apb39 : Nat.ble (((Tryz.prog.info? 39).map (·.bytes)).getD 10000000) 1000000 = true := by kernel_rfl
@[go_sem] theorem pz39 : plainZero Tryz.prog 39 = some [.int .i64 0, .int .i64 0, .int .i64 0, .int .i64 0, .int .i64 0, .int .i64 0, .bool false, .int .i64 0, .slice none 0 0, .slice none 0 0, .int .i64 0, .int .i64 0, .slice none 0 0, .slice none 0 0, .int .i64 0, .int .i64 0, .int .i64 0, .slice none 0 0, .int .i64 0, .bool false, .int .i64 0, .int .i64 0, .int .i64 0] := by kernel_rfl
@[go_sem] theorem bld39 (parts : List (Nat × Value)) : buildB Tryz.prog 39 parts = (fillB (fun i => ([(0, 1), (1, 2), (3, 3), (6, 1), (7, 1), (8, 1), (9, 1), (10, 4), (14, 3), (17, 6)] : List (Nat × Nat))[i]?) [.int .i64 0, .int .i64 0, .int .i64 0, .int .i64 0, .int .i64 0, .int .i64 0, .bool false, .int .i64 0, .slice none 0 0, .slice none 0 0, .int .i64 0, .int .i64 0, .slice none 0 0, .slice none 0 0, .int .i64 0, .int .i64 0, .int .i64 0, .slice none 0 0, .int .i64 0, .bool false, .int .i64 0, .int .i64 0, .int .i64 0] parts).map fun l => .agg ⟨l⟩ := by kernel_rfl
@[go_sem] theorem fa39_0 (B o : Nat) : fieldAddrB Tryz.prog 39 0 (.pointer (some ⟨B, o, none⟩)) = some (.pointer (some ⟨B, o, none⟩)) := by kernel_rfl
@[go_sem] theorem fd39_0 (l : List Value) : fieldB Tryz.prog 39 0 (.agg ⟨l⟩) = l[0]? := by kernel_rfl
@[go_sem] theorem fa39_1 (B o : Nat) : fieldAddrB Tryz.prog 39 1 (.pointer (some ⟨B, o, none⟩)) = some (.pointer (some ⟨B, o + 1, none⟩)) := by kernel_rfl
@[go_sem] theorem fd39_1 (l : List Value) : fieldB Tryz.prog 39 1 (.agg ⟨l⟩) = some (.agg ⟨(l.drop 1).take 2⟩) := by kernel_rfl
@[go_sem] theorem fa39_2 (B o : Nat) : fieldAddrB Tryz.prog 39 2 (.pointer (some ⟨B, o, none⟩)) = some (.pointer (some ⟨B, o + 3, none⟩)) := by kernel_rfl
@[go_sem] theorem fd39_2 (l : List Value) : fieldB Tryz.prog 39 2 (.agg ⟨l⟩) = some (.agg ⟨(l.drop 3).take 3⟩) := by kernel_rfl
@[go_sem] theorem fa39_3 (B o : Nat) : fieldAddrB Tryz.prog 39 3 (.pointer (some ⟨B, o, none⟩)) = some (.pointer (some ⟨B, o + 6, none⟩)) := by kernel_rfl
@[go_sem] theorem fd39_3 (l : List Value) : fieldB Tryz.prog 39 3 (.agg ⟨l⟩) = l[6]? := by kernel_rfl
@[go_sem] theorem fa39_4 (B o : Nat) : fieldAddrB Tryz.prog 39 4 (.pointer (some ⟨B, o, none⟩)) = some (.pointer (some ⟨B, o + 7, none⟩)) := by kernel_rfl
@[go_sem] theorem fd39_4 (l : List Value) : fieldB Tryz.prog 39 4 (.agg ⟨l⟩) = l[7]? := by kernel_rfl
@[go_sem] theorem fa39_5 (B o : Nat) : fieldAddrB Tryz.prog 39 5 (.pointer (some ⟨B, o, none⟩)) = some (.pointer (some ⟨B, o + 8, none⟩)) := by kernel_rfl
@[go_sem] theorem fd39_5 (l : List Value) : fieldB Tryz.prog 39 5 (.agg ⟨l⟩) = l[8]? := by kernel_rfl
@[go_sem] theorem fa39_6 (B o : Nat) : fieldAddrB Tryz.prog 39 6 (.pointer (some ⟨B, o, none⟩)) = some (.pointer (some ⟨B, o + 9, none⟩)) := by kernel_rfl
@[go_sem] theorem fd39_6 (l : List Value) : fieldB Tryz.prog 39 6 (.agg ⟨l⟩) = l[9]? := by kernel_rfl
@[go_sem] theorem fa39_7 (B o : Nat) : fieldAddrB Tryz.prog 39 7 (.pointer (some ⟨B, o, none⟩)) = some (.pointer (some ⟨B, o + 10, none⟩)) := by kernel_rfl
@[go_sem] theorem fd39_7 (l : List Value) : fieldB Tryz.prog 39 7 (.agg ⟨l⟩) = some (.agg ⟨(l.drop 10).take 4⟩) := by kernel_rfl
@[go_sem] theorem fa39_8 (B o : Nat) : fieldAddrB Tryz.prog 39 8 (.pointer (some ⟨B, o, none⟩)) = some (.pointer (some ⟨B, o + 14, none⟩)) := by kernel_rfl
@[go_sem] theorem fd39_8 (l : List Value) : fieldB Tryz.prog 39 8 (.agg ⟨l⟩) = some (.agg ⟨(l.drop 14).take 3⟩) := by kernel_rfl
@[go_sem] theorem fa39_9 (B o : Nat) : fieldAddrB Tryz.prog 39 9 (.pointer (some ⟨B, o, none⟩)) = some (.pointer (some ⟨B, o + 17, none⟩)) := by kernel_rfl
@[go_sem] theorem fd39_9 (l : List Value) : fieldB Tryz.prog 39 9 (.agg ⟨l⟩) = some (.agg ⟨(l.drop 17).take 6⟩) := by kernel_rfl
@[go_sem] theorem agg41 : isAggB Tryz.prog 41 = some true := by kernel_rfl
@[go_sem] theorem size41 : sizeB Tryz.prog 41 = some 2 := by kernel_rfl
@[go_sem] theorem apb41 : Nat.ble (((Tryz.prog.info? 41).map (·.bytes)).getD 10000000) 1000000 = true := by kernel_rfl
@[go_sem] theorem pz41 : plainZero Tryz.prog 41 = some [.int .i64 0, .int .i64 0] := by kernel_rfl
@[go_sem] theorem flat41 : flatI Tryz.prog 41 = some 2 := by kernel_rfl
@[go_sem] theorem bld41 (parts : List (Nat × Value)) : buildB Tryz.prog 41 parts = (fillB (fun i => ([(0, 1), (1, 1)] : List (Nat × Nat))[i]?) [.int .i64 0, .int .i64 0] parts).map fun l => .agg ⟨l⟩ := by kernel_rfl
@[go_sem] theorem fa41_0 (B o : Nat) : fieldAddrB Tryz.prog 41 0 (.pointer (some ⟨B, o, none⟩)) = some (.pointer (some ⟨B, o, none⟩)) := by kernel_rfl
@[go_sem] theorem fd41_0 (l : List Value) : fieldB Tryz.prog 41 0 (.agg ⟨l⟩) = l[0]? := by kernel_rfl
@[go_sem] theorem fa41_1 (B o : Nat) : fieldAddrB Tryz.prog 41 1 (.pointer (some ⟨B, o, none⟩)) = some (.pointer (some ⟨B, o + 1, none⟩)) := by kernel_rfl
@[go_sem] theorem fd41_1 (l : List Value) : fieldB Tryz.prog 41 1 (.agg ⟨l⟩) = l[1]? := by kernel_rfl
@[go_sem] theorem agg42 : isAggB Tryz.prog 42 = some true := by kernel_rfl
@[go_sem] theorem size42 : sizeB Tryz.prog 42 = some 2 := by kernel_rfl
@[go_sem] theorem apb42 : Nat.ble (((Tryz.prog.info? 42).map (·.bytes)).getD 10000000) 1000000 = true := by kernel_rfl
@[go_sem] theorem pz42 : plainZero Tryz.prog 42 = some [.int .i64 0, .int .i64 0] := by kernel_rfl
@[go_sem] theorem flat42 : flatI Tryz.prog 42 = some 2 := by kernel_rfl
@[go_sem] theorem bld42 (parts : List (Nat × Value)) : buildB Tryz.prog 42 parts = (fillB (fun i => ([(0, 1), (1, 1)] : List (Nat × Nat))[i]?) [.int .i64 0, .int .i64 0] parts).map fun l => .agg ⟨l⟩ := by kernel_rfl
@[go_sem] theorem fa42_0 (B o : Nat) : fieldAddrB Tryz.prog 42 0 (.pointer (some ⟨B, o, none⟩)) = some (.pointer (some ⟨B, o, none⟩)) := by kernel_rfl
@[go_sem] theorem fd42_0 (l : List Value) : fieldB Tryz.prog 42 0 (.agg ⟨l⟩) = l[0]? := by kernel_rfl
@[go_sem] theorem fa42_1 (B o : Nat) : fieldAddrB Tryz.prog 42 1 (.pointer (some ⟨B, o, none⟩)) = some (.pointer (some ⟨B, o + 1, none⟩)) := by kernel_rfl
@[go_sem] theorem fd42_1 (l : List Value) : fieldB Tryz.prog 42 1 (.agg ⟨l⟩) = l[1]? := by kernel_rfl
@[go_sem] theorem agg43 : isAggB Tryz.prog 43 = some true := by kernel_rfl
@[go_sem] theorem size43 : sizeB Tryz.prog 43 = some 3 := by kernel_rfl
@[go_sem] theorem apb43 : Nat.ble (((Tryz.prog.info? 43).map (·.bytes)).getD 10000000) 1000000 = true := by kernel_rfl
@[go_sem] theorem pz43 : plainZero Tryz.prog 43 = some [.int .i64 0, .int .i64 0, .int .i64 0] := by kernel_rfl
@[go_sem] theorem flat43 : flatI Tryz.prog 43 = some 3 := by kernel_rfl
@[go_sem] theorem bld43 (parts : List (Nat × Value)) : buildB Tryz.prog 43 parts = (fillB (fun i => ([(0, 1), (1, 1), (2, 1)] : List (Nat × Nat))[i]?) [.int .i64 0, .int .i64 0, .int .i64 0] parts).map fun l => .agg ⟨l⟩ := by kernel_rfl
@[go_sem] theorem fa43_0 (B o : Nat) : fieldAddrB Tryz.prog 43 0 (.pointer (some ⟨B, o, none⟩)) = some (.pointer (some ⟨B, o, none⟩)) := by kernel_rfl
@[go_sem] theorem fd43_0 (l : List Value) : fieldB Tryz.prog 43 0 (.agg ⟨l⟩) = l[0]? := by kernel_rfl
@[go_sem] theorem fa43_1 (B o : Nat) : fieldAddrB Tryz.prog 43 1 (.pointer (some ⟨B, o, none⟩)) = some (.pointer (some ⟨B, o + 1, none⟩)) := by kernel_rfl
@[go_sem] theorem fd43_1 (l : List Value) : fieldB Tryz.prog 43 1 (.agg ⟨l⟩) = l[1]? := by kernel_rfl
@[go_sem] theorem fa43_2 (B o : Nat) : fieldAddrB Tryz.prog 43 2 (.pointer (some ⟨B, o, none⟩)) = some (.pointer (some ⟨B, o + 2, none⟩)) := by kernel_rfl
@[go_sem] theorem fd43_2 (l : List Value) : fieldB Tryz.prog 43 2 (.agg ⟨l⟩) = l[2]? := by kernel_rfl
@[go_sem] theorem agg44 : isAggB Tryz.prog 44 = some true := by kernel_rfl
@[go_sem] theorem size44 : sizeB Tryz.prog 44 = some 3 := by kernel_rfl
@[go_sem] theorem apb44 : Nat.ble (((Tryz.prog.info? 44).map (·.bytes)).getD 10000000) 1000000 = true := by kernel_rfl
@[go_sem] theorem pz44 : plainZero Tryz.prog 44 = some [.int .i64 0, .int .i64 0, .int .i64 0] := by kernel_rfl
@[go_sem] theorem flat44 : flatI Tryz.prog 44 = some 3 := by kernel_rfl
@[go_sem] theorem bld44 (parts : List (Nat × Value)) : buildB Tryz.prog 44 parts = (fillB (fun i => ([(0, 1), (1, 1), (2, 1)] : List (Nat × Nat))[i]?) [.int .i64 0, .int .i64 0, .int .i64 0] parts).map fun l => .agg ⟨l⟩ := by kernel_rfl
@[go_sem] theorem fa44_0 (B o : Nat) : fieldAddrB Tryz.prog 44 0 (.pointer (some ⟨B, o, none⟩)) = some (.pointer (some ⟨B, o, none⟩)) := by kernel_rfl
@[go_sem] theorem fd44_0 (l : List Value) : fieldB Tryz.prog 44 0 (.agg ⟨l⟩) = l[0]? := by kernel_rfl
@[go_sem] theorem fa44_1 (B o : Nat) : fieldAddrB Tryz.prog 44 1 (.pointer (some ⟨B, o, none⟩)) = some (.pointer (some ⟨B, o + 1, none⟩)) := by kernel_rfl
@[go_sem] theorem fd44_1 (l : List Value) : fieldB Tryz.prog 44 1 (.agg ⟨l⟩) = l[1]? := by kernel_rfl
@[go_sem] theorem fa44_2 (B o : Nat) : fieldAddrB Tryz.prog 44 2 (.pointer (some ⟨B, o, none⟩)) = some (.pointer (some ⟨B, o + 2, none⟩)) := by kernel_rfl
@[go_sem] theorem fd44_2 (l : List Value) : fieldB Tryz.prog 44 2 (.agg ⟨l⟩) = l[2]? := by kernel_rfl
@[go_sem] theorem agg47 : isAggB Tryz.prog 47 = some false := by kernel_rfl
@[go_sem] theorem size47 : sizeB Tryz.prog 47 = some 1 := by kernel_rfl
@[go_sem] theorem und47 : Tryz.prog.underlying 47 = some (.slice 54) := by kernel_rfl
@[go_sem] theorem apb47 : Nat.ble (((Tryz.prog.info? 47).map (·.bytes)).getD 10000000) 1000000 = true := by kernel_rfl
@[go_sem] theorem pz47 : plainZero Tryz.prog 47 = some [.slice none 0 0] := by kernel_rfl
@[go_sem] theorem agg48 : isAggB Tryz.prog 48 = some false := by kernel_rfl
@[go_sem] theorem size48 : sizeB Tryz.prog 48 = some 1 := by kernel_rfl
@[go_sem] theorem und48 : Tryz.prog.underlying 48 = some (.slice 2) := by kernel_rfl
@[go_sem] theorem apb48 : Nat.ble (((Tryz.prog.info? 48).map (·.bytes)).getD 10000000) 1000000 = true := by kernel_rfl
@[go_sem] theorem pz48 : plainZero Tryz.prog 48 = some [.slice none 0 0] := by kernel_rfl
@[go_sem] theorem agg49 : isAggB Tryz.prog 49 = some true := by kernel_rfl
@[go_sem] theorem size49 : sizeB Tryz.prog 49 = some 4 := by kernel_rfl
@[go_sem] theorem apb49 : Nat.ble (((Tryz.prog.info? 49).map (·.bytes)).getD 10000000) 1000000 = true := by kernel_rfl
@[go_sem] theorem pz49 : plainZero Tryz.prog 49 = some [.int .i64 0, .int .i64 0, .slice none 0 0, .slice none 0 0] := by kernel_rfl
@[go_sem] theorem bld49 (parts : List (Nat × Value)) : buildB Tryz.prog 49 parts = (fillB (fun i => ([(0, 1), (1, 1), (2, 1), (3, 1)] : List (Nat × Nat))[i]?) [.int .i64 0, .int .i64 0, .slice none 0 0, .slice none 0 0] parts).map fun l => .agg ⟨l⟩ := by kernel_rfl
@[go_sem] theorem fa49_0 (B o : Nat) : fieldAddrB Tryz.prog 49 0 (.pointer (some ⟨B, o, none⟩)) = some (.pointer (some ⟨B, o, none⟩)) := by kernel_rfl
@[go_sem] theorem fd49_0 (l : List Value) : fieldB Tryz.prog 49 0 (.agg ⟨l⟩) = l[0]? := by kernel_rfl
@[go_sem] theorem fa49_1 (B o : Nat) : fieldAddrB Tryz.prog 49 1 (.pointer (some ⟨B, o, none⟩)) = some (.pointer (some ⟨B, o + 1, none⟩)) := by kernel_rfl
@[go_sem] theorem fd49_1 (l : List Value) : fieldB Tryz.prog 49 1 (.agg ⟨l⟩) = l[1]? := by kernel_rfl
@[go_sem] theorem fa49_2 (B o : Nat) : fieldAddrB Tryz.prog 49 2 (.pointer (some ⟨B, o, none⟩)) = some (.pointer (some ⟨B, o + 2, none⟩)) := by kernel_rfl
@[go_sem] theorem fd49_2 (l : List Value) : fieldB Tryz.prog 49 2 (.agg ⟨l⟩) = l[2]? := by kernel_rfl
@[go_sem] theorem fa49_3 (B o : Nat) : fieldAddrB Tryz.prog 49 3 (.pointer (some ⟨B, o, none⟩)) = some (.pointer (some ⟨B, o + 3, none⟩)) := by kernel_rfl
@[go_sem] theorem fd49_3 (l : List Value) : fieldB Tryz.prog 49 3 (.agg ⟨l⟩) = l[3]? := by kernel_rfl
@[go_sem] theorem agg50 : isAggB Tryz.prog 50 = some true := by kernel_rfl
@[go_sem] theorem size50 : sizeB Tryz.prog 50 = some 4 := by kernel_rfl
@[go_sem] theorem apb50 : Nat.ble (((Tryz.prog.info? 50).map (·.bytes)).getD 10000000) 1000000 = true := by kernel_rfl
@[go_sem] theorem pz50 : plainZero Tryz.prog 50 = some [.int .i64 0, .int .i64 0, .slice none 0 0, .slice none 0 0] := by kernel_rfl
@[go_sem] theorem bld50 (parts : List (Nat × Value)) : buildB Tryz.prog 50 parts = (fillB (fun i => ([(0, 1), (1, 1), (2, 1), (3, 1)] : List (Nat × Nat))[i]?) [.int .i64 0, .int .i64 0, .slice none 0 0, .slice none 0 0] parts).map fun l => .agg ⟨l⟩ := by kernel_rfl
@[go_sem] theorem fa50_0 (B o : Nat) : fieldAddrB Tryz.prog 50 0 (.pointer (some ⟨B, o, none⟩)) = some (.pointer (some ⟨B, o, none⟩)) := by kernel_rfl
@[go_sem] theorem fd50_0 (l : List Value) : fieldB Tryz.prog 50 0 (.agg ⟨l⟩) = l[0]? := by kernel_rfl
@[go_sem] theorem fa50_1 (B o : Nat) : fieldAddrB Tryz.prog 50 1 (.pointer (some ⟨B, o, none⟩)) = some (.pointer (some ⟨B, o + 1, none⟩)) := by kernel_rfl
@[go_sem] theorem fd50_1 (l : List Value) : fieldB Tryz.prog 50 1 (.agg ⟨l⟩) = l[1]? := by kernel_rfl
@[go_sem] theorem fa50_2 (B o : Nat) : fieldAddrB Tryz.prog 50 2 (.pointer (some ⟨B, o, none⟩)) = some (.pointer (some ⟨B, o + 2, none⟩)) := by kernel_rfl
@[go_sem] theorem fd50_2 (l : List Value) : fieldB Tryz.prog 50 2 (.agg ⟨l⟩) = l[2]? := by kernel_rfl
@[go_sem] theorem fa50_3 (B o : Nat) : fieldAddrB Tryz.prog 50 3 (.pointer (some ⟨B, o, none⟩)) = some (.pointer (some ⟨B, o + 3, none⟩)) := by kernel_rfl
@[go_sem] theorem fd50_3 (l : List Value) : fieldB Tryz.prog 50 3 (.agg ⟨l⟩) = l[3]? := by kernel_rfl
@[go_sem] theorem agg53 : isAggB Tryz.prog 53 = some true := by kernel_rfl
@[go_sem] theorem size53 : sizeB Tryz.prog 53 = some 3 := by kernel_rfl
@[go_sem] theorem apb53 : Nat.ble (((Tryz.prog.info? 53).map (·.bytes)).getD 10000000) 1000000 = true := by kernel_rfl
@[go_sem] theorem pz53 : plainZero Tryz.prog 53 = some [.int .i64 0, .int .i64 0, .int .i64 0] := by kernel_rfl
@[go_sem] theorem flat53 : flatI Tryz.prog 53 = some 3 := by kernel_rfl
@[go_sem] theorem bld53 (parts : List (Nat × Value)) : buildB Tryz.prog 53 parts = (fillB (fun i => ([(0, 1), (1, 1), (2, 1)] : List (Nat × Nat))[i]?) [.int .i64 0, .int .i64 0, .int .i64 0] parts).map fun l => .agg ⟨l⟩ := by kernel_rfl
@[go_sem] theorem fa53_0 (B o : Nat) : fieldAddrB Tryz.prog 53 0 (.pointer (some ⟨B, o, none⟩)) = some (.pointer (some ⟨B, o, none⟩)) := by kernel_rfl
@[go_sem] theorem fd53_0 (l : List Value) : fieldB Tryz.prog 53 0 (.agg ⟨l⟩) = l[0]? := by kernel_rfl
@[go_sem] theorem fa53_1 (B o : Nat) : fieldAddrB Tryz.prog 53 1 (.pointer (some ⟨B, o, none⟩)) = some (.pointer (some ⟨B, o + 1, none⟩)) := by kernel_rfl
@[go_sem] theorem fd53_1 (l : List Value) : fieldB Tryz.prog 53 1 (.agg ⟨l⟩) = l[1]? := by kernel_rfl
@[go_sem] theorem fa53_2 (B o : Nat) : fieldAddrB Tryz.prog 53 2 (.pointer (some ⟨B, o, none⟩)) = some (.pointer (some ⟨B, o + 2, none⟩)) := by kernel_rfl
@[go_sem] theorem fd53_2 (l : List Value) : fieldB Tryz.prog 53 2 (.agg ⟨l⟩) = l[2]? := by kernel_rfl
@[go_sem] theorem agg54 : isAggB Tryz.prog 54 = some true := by kernel_rfl
@[go_sem] theorem size54 : sizeB Tryz.prog 54 = some 3 := by kernel_rfl
@[go_sem] theorem apb54 : Nat.ble (((Tryz.prog.info? 54).map (·.bytes)).getD 10000000) 1000000 = true := by kernel_rfl
@[go_sem] theorem pz54 : plainZero Tryz.prog 54 = some [.int .i64 0, .int .i64 0, .int .i64 0] := by kernel_rfl
@[go_sem] theorem flat54 : flatI Tryz.prog 54 = some 3 := by kernel_rfl
@[go_sem] theorem bld54 (parts : List (Nat × Value)) : buildB Tryz.prog 54 parts = (fillB (fun i => ([(0, 1), (1, 1), (2, 1)] : List (Nat × Nat))[i]?) [.int .i64 0, .int .i64 0, .int .i64 0] parts).map fun l => .agg ⟨l⟩ := by kernel_rfl
@[go_sem] theorem fa54_0 (B o : Nat) : fieldAddrB Tryz.prog 54 0 (.pointer (some ⟨B, o, none⟩)) = some (.pointer (some ⟨B, o, none⟩)) := by kernel_rfl
@[go_sem] theorem fd54_0 (l : List Value) : fieldB Tryz.prog 54 0 (.agg ⟨l⟩) = l[0]? := by kernel_rfl
@[go_sem] theorem fa54_1 (B o : Nat) : fieldAddrB Tryz.prog 54 1 (.pointer (some ⟨B, o, none⟩)) = some (.pointer (some ⟨B, o + 1, none⟩)) := by kernel_rfl
@[go_sem] theorem fd54_1 (l : List Value) : fieldB Tryz.prog 54 1 (.agg ⟨l⟩) = l[1]? := by kernel_rfl
@[go_sem] theorem fa54_2 (B o : Nat) : fieldAddrB Tryz.prog 54 2 (.pointer (some ⟨B, o, none⟩)) = some (.pointer (some ⟨B, o + 2, none⟩)) := by kernel_rfl
@[go_sem] theorem fd54_2 (l : List Value) : fieldB Tryz.prog 54 2 (.agg ⟨l⟩) = l[2]? := by kernel_rfl
@[go_sem] theorem agg58 : isAggB Tryz.prog 58 = some false := by kernel_rfl
@[go_sem] theorem size58 : sizeB Tryz.prog 58 = some 1 := by kernel_rfl
@[go_sem] theorem und58 : Tryz.prog.underlying 58 = some (.slice 39) := by kernel_rfl
@[go_sem] theorem apb58 : Nat.ble (((Tryz.prog.info? 58).map (·.bytes)).getD 10000000) 1000000 = true := by kernel_rfl
@[go_sem] theorem pz58 : plainZero Tryz.prog 58 = some [.slice none 0 0] := by kernel_rfl
@[go_sem] theorem agg61 : isAggB Tryz.prog 61 = some false := by kernel_rfl
@[go_sem] theorem size61 : sizeB Tryz.prog 61 = some 1 := by kernel_rfl
@[go_sem] theorem und61 : Tryz.prog.underlying 61 = some (.slice 216) := by kernel_rfl
@[go_sem] theorem apb61 : Nat.ble (((Tryz.prog.info? 61).map (·.bytes)).getD 10000000) 1000000 = true := by kernel_rfl
@[go_sem] theorem pz61 : plainZero Tryz.prog 61 = some [.slice none 0 0] := by kernel_rfl
@[go_sem] theorem agg62 : isAggB Tryz.prog 62 = some false := by kernel_rfl
@[go_sem] theorem size62 : sizeB Tryz.prog 62 = some 1 := by kernel_rfl
@[go_sem] theorem und62 : Tryz.prog.underlying 62 = some (.slice 278) := by kernel_rfl
@[go_sem] theorem apb62 : Nat.ble (((Tryz.prog.info? 62).map (·.bytes)).getD 10000000) 1000000 = true := by kernel_rfl
@[go_sem] theorem pz62 : plainZero Tryz.prog 62 = some [.slice none 0 0] := by kernel_rfl
@[go_sem] theorem agg63 : isAggB Tryz.prog 63 = some true := by kernel_rfl
@[go_sem] theorem size63 : sizeB Tryz.prog 63 = some 10 := by kernel_rfl
@[go_sem] theorem apb63 : Nat.ble (((Tryz.prog.info? 63).map (·.bytes)).getD 10000000) 1000000 = true := by kernel_rfl
@[go_sem] theorem pz63 : plainZero Tryz.prog 63 = some [.int .i64 0, .int .i64 0, .int .i64 0, .int .i64 0, .int .i64 0, .int .i64 0, .int .i64 0, .slice none 0 0, .slice none 0 0, .slice none 0 0] := by kernel_rfl
@[go_sem] theorem bld63 (parts : List (Nat × Value)) : buildB Tryz.prog 63 parts = (fillB (fun i => ([(0, 1), (1, 1), (2, 1), (3, 1), (4, 3), (7, 1), (8, 1), (9, 1)] : List (Nat × Nat))[i]?) [.int .i64 0, .int .i64 0, .int .i64 0, .int .i64 0, .int .i64 0, .int .i64 0, .int .i64 0, .slice none 0 0, .slice none 0 0, .slice none 0 0] parts).map fun l => .agg ⟨l⟩ := by kernel_rfl
@[go_sem] theorem fa63_0 (B o : Nat) : fieldAddrB Tryz.prog 63 0 (.pointer (some ⟨B, o, none⟩)) = some (.pointer (some ⟨B, o, none⟩)) := by kernel_rfl
@[go_sem] theorem fd63_0 (l : List Value) : fieldB Tryz.prog 63 0 (.agg ⟨l⟩) = l[0]? := by kernel_rfl
@[go_sem] theorem fa63_1 (B o : Nat) : fieldAddrB Tryz.prog 63 1 (.pointer (some ⟨B, o, none⟩)) = some (.pointer (some ⟨B, o + 1, none⟩)) := by kernel_rfl
@[go_sem] theorem fd63_1 (l : List Value) : fieldB Tryz.prog 63 1 (.agg ⟨l⟩) = l[1]? := by kernel_rfl
@[go_sem] theorem fa63_2 (B o : Nat) : fieldAddrB Tryz.prog 63 2 (.pointer (some ⟨B, o, none⟩)) = some (.pointer (some ⟨B, o + 2, none⟩)) := by kernel_rfl
@[go_sem] theorem fd63_2 (l : List Value) : fieldB Tryz.prog 63 2 (.agg ⟨l⟩) = l[2]? := by kernel_rfl
@[go_sem] theorem fa63_3 (B o : Nat) : fieldAddrB Tryz.prog 63 3 (.pointer (some ⟨B, o, none⟩)) = some (.pointer (some ⟨B, o + 3, none⟩)) := by kernel_rfl
@[go_sem] theorem fd63_3 (l : List Value) : fieldB Tryz.prog 63 3 (.agg ⟨l⟩) = l[3]? := by kernel_rfl
@[go_sem] theorem fa63_4 (B o : Nat) : fieldAddrB Tryz.prog 63 4 (.pointer (some ⟨B, o, none⟩)) = some (.pointer (some ⟨B, o + 4, none⟩)) := by kernel_rfl
@[go_sem] theorem fd63_4 (l : List Value) : fieldB Tryz.prog 63 4 (.agg ⟨l⟩) = some (.agg ⟨(l.drop 4).take 3⟩) := by kernel_rfl
@[go_sem] theorem fa63_5 (B o : Nat) : fieldAddrB Tryz.prog 63 5 (.pointer (some ⟨B, o, none⟩)) = some (.pointer (some ⟨B, o + 7, none⟩)) := by kernel_rfl
@[go_sem] theorem fd63_5 (l : List Value) : fieldB Tryz.prog 63 5 (.agg ⟨l⟩) = l[7]? := by kernel_rfl
@[go_sem] theorem fa63_6 (B o : Nat) : fieldAddrB Tryz.prog 63 6 (.pointer (some ⟨B, o, none⟩)) = some (.pointer (some ⟨B, o + 8, none⟩)) := by kernel_rfl
@[go_sem] theorem fd63_6 (l : List Value) : fieldB Tryz.prog 63 6 (.agg ⟨l⟩) = l[8]? := by kernel_rfl
@[go_sem] theorem fa63_7 (B o : Nat) : fieldAddrB Tryz.prog 63 7 (.pointer (some ⟨B, o, none⟩)) = some (.pointer (some ⟨B, o + 9, none⟩)) := by kernel_rfl
@[go_sem] theorem fd63_7 (l : List Value) : fieldB Tryz.prog 63 7 (.agg ⟨l⟩) = l[9]? := by kernel_rfl
@[go_sem] theorem agg64 : isAggB Tryz.prog 64 = some true := by kernel_rfl
@[go_sem] theorem size64 : sizeB Tryz.prog 64 = some 10 := by kernel_rfl
@[go_sem] theorem apb64 : Nat.ble (((Tryz.prog.info? 64).map (·.bytes)).getD 10000000) 1000000 = true := by kernel_rfl
@[go_sem] theorem pz64 : plainZero Tryz.prog 64 = some [.int .i64 0, .int .i64 0, .int .i64 0, .int .i64 0, .int .i64 0, .int .i64 0, .int .i64 0, .slice none 0 0, .slice none 0 0, .slice none 0 0] := by kernel_rfl
@[go_sem] theorem bld64 (parts : List (Nat × Value)) : buildB Tryz.prog 64 parts = (fillB (fun i => ([(0, 1), (1, 1), (2, 1), (3, 1), (4, 3), (7, 1), (8, 1), (9, 1)] : List (Nat × Nat))[i]?) [.int .i64 0, .int .i64 0, .int .i64 0, .int .i64 0, .int .i64 0, .int .i64 0, .int .i64 0, .slice none 0 0, .slice none 0 0, .slice none 0 0] parts).map fun l => .agg ⟨l⟩ := by kernel_rfl
@[go_sem] theorem fa64_0 (B o : Nat) : fieldAddrB Tryz.prog 64 0 (.pointer (some ⟨B, o, none⟩)) = some (.pointer (some ⟨B, o, none⟩)) := by kernel_rfl
@[go_sem] theorem fd64_0 (l : List Value) : fieldB Tryz.prog 64 0 (.agg ⟨l⟩) = l[0]? := by kernel_rfl
@[go_sem] theorem fa64_1 (B o : Nat) : fieldAddrB Tryz.prog 64 1 (.pointer (some ⟨B, o, none⟩)) = some (.pointer (some ⟨B, o + 1, none⟩)) := by kernel_rfl
@[go_sem] theorem fd64_1 (l : List Value) : fieldB Tryz.prog 64 1 (.agg ⟨l⟩) = l[1]? := by kernel_rfl
@[go_sem] theorem fa64_2 (B o : Nat) : fieldAddrB Tryz.prog 64 2 (.pointer (some ⟨B, o, none⟩)) = some (.pointer (some ⟨B, o + 2, none⟩)) := by kernel_rfl
@[go_sem] theorem fd64_2 (l : List Value) : fieldB Tryz.prog 64 2 (.agg ⟨l⟩) = l[2]? := by kernel_rfl
@[go_sem] theorem fa64_3 (B o : Nat) : fieldAddrB Tryz.prog 64 3 (.pointer (some ⟨B, o, none⟩)) = some (.pointer (some ⟨B, o + 3, none⟩)) := by kernel_rfl
@[go_sem] theorem fd64_3 (l : List Value) : fieldB Tryz.prog 64 3 (.agg ⟨l⟩) = l[3]? := by kernel_rfl
@[go_sem] theorem fa64_4 (B o : Nat) : fieldAddrB Tryz.prog 64 4 (.pointer (some ⟨B, o, none⟩)) = some (.pointer (some ⟨B, o + 4, none⟩)) := by kernel_rfl
@[go_sem] theorem fd64_4 (l : List Value) : fieldB Tryz.prog 64 4 (.agg ⟨l⟩) = some (.agg ⟨(l.drop 4).take 3⟩) := by kernel_rfl
@[go_sem] theorem fa64_5 (B o : Nat) : fieldAddrB Tryz.prog 64 5 (.pointer (some ⟨B, o, none⟩)) = some (.pointer (some ⟨B, o + 7, none⟩)) := by kernel_rfl
@[go_sem] theorem fd64_5 (l : List Value) : fieldB Tryz.prog 64 5 (.agg ⟨l⟩) = l[7]? := by kernel_rfl
@[go_sem] theorem fa64_6 (B o : Nat) : fieldAddrB Tryz.prog 64 6 (.pointer (some ⟨B, o, none⟩)) = some (.pointer (some ⟨B, o + 8, none⟩)) := by kernel_rfl
@[go_sem] theorem fd64_6 (l : List Value) : fieldB Tryz.prog 64 6 (.agg ⟨l⟩) = l[8]? := by kernel_rfl
@[go_sem] theorem fa64_7 (B o : Nat) : fieldAddrB Tryz.prog 64 7 (.pointer (some ⟨B, o, none⟩)) = some (.pointer (some ⟨B, o + 9, none⟩)) := by kernel_rfl
@[go_sem] theorem fd64_7 (l : List Value) : fieldB Tryz.prog 64 7 (.agg ⟨l⟩) = l[9]? := by kernel_rfl
@[go_sem] theorem agg77 : isAggB Tryz.prog 77 = some false := by kernel_rfl
@[go_sem] theorem size77 : sizeB Tryz.prog 77 = some 1 := by kernel_rfl
@[go_sem] theorem und77 : Tryz.prog.underlying 77 = some (.pointer 103) := by kernel_rfl
@[go_sem] theorem apb77 : Nat.ble (((Tryz.prog.info? 77).map (·.bytes)).getD 10000000) 1000000 = true := by kernel_rfl
@[go_sem] theorem pz77 : plainZero Tryz.prog 77 = some [.pointer none] := by kernel_rfl
@[go_sem] theorem agg82 : isAggB Tryz.prog 82 = some false := by kernel_rfl
@[go_sem] theorem size82 : sizeB Tryz.prog 82 = some 1 := by kernel_rfl
@[go_sem] theorem und82 : Tryz.prog.underlying 82 = some (.slice 64) := by kernel_rfl
@[go_sem] theorem apb82 : Nat.ble (((Tryz.prog.info? 82).map (·.bytes)).getD 10000000) 1000000 = true := by kernel_rfl
@[go_sem] theorem pz82 : plainZero Tryz.prog 82 = some [.slice none 0 0] := by kernel_rfl
@[go_sem] theorem agg83 : isAggB Tryz.prog 83 = some false := by kernel_rfl
@[go_sem] theorem size83 : sizeB Tryz.prog 83 = some 1 := by kernel_rfl
@[go_sem] theorem und83 : Tryz.prog.underlying 83 = some (.pointer 107) := by kernel_rfl
@[go_sem] theorem apb83 : Nat.ble (((Tryz.prog.info? 83).map (·.bytes)).getD 10000000) 1000000 = true := by kernel_rfl
@[go_sem] theorem pz83 : plainZero Tryz.prog 83 = some [.pointer none] := by kernel_rfl
@[go_sem] theorem agg89 : isAggB Tryz.prog 89 = some false := by kernel_rfl
@[go_sem] theorem size89 : sizeB Tryz.prog 89 = some 1 := by kernel_rfl
@[go_sem] theorem und89 : Tryz.prog.underlying 89 = some (.pointer 122) := by kernel_rfl
@[go_sem] theorem apb89 : Nat.ble (((Tryz.prog.info? 89).map (·.bytes)).getD 10000000) 1000000 = true := by kernel_rfl
@[go_sem] theorem pz89 : plainZero Tryz.prog 89 = some [.pointer none] := by kernel_rfl
@[go_sem] theorem agg92 : isAggB Tryz.prog 92 = some true := by kernel_rfl
@[go_sem] theorem size92 : sizeB Tryz.prog 92 = some 1 := by kernel_rfl
@[go_sem] theorem apb92 : Nat.ble (((Tryz.prog.info? 92).map (·.bytes)).getD 10000000) 1000000 = true := by kernel_rfl
@[go_sem] theorem pz92 : plainZero Tryz.prog 92 = some [.pointer none] := by kernel_rfl
@[go_sem] theorem bld92 (parts : List (Nat × Value)) : buildB Tryz.prog 92 parts = (fillB (fun i => ([(0, 1)] : List (Nat × Nat))[i]?) [.pointer none] parts).map fun l => .agg ⟨l⟩ := by kernel_rfl
@[go_sem] theorem fa92_0 (B o : Nat) : fieldAddrB Tryz.prog 92 0 (.pointer (some ⟨B, o, none⟩)) = some (.pointer (some ⟨B, o, none⟩)) := by kernel_rfl
@[go_sem] theorem fd92_0 (l : List Value) : fieldB Tryz.prog 92 0 (.agg ⟨l⟩) = l[0]? := by kernel_rfl
@[go_sem] theorem agg93 : isAggB Tryz.prog 93 = some true := by kernel_rfl
@[go_sem] theorem size93 : sizeB Tryz.prog 93 = some 1 := by kernel_rfl
@[go_sem] theorem apb93 : Nat.ble (((Tryz.prog.info? 93).map (·.bytes)).getD 10000000) 1000000 = true := by kernel_rfl
@[go_sem] theorem pz93 : plainZero Tryz.prog 93 = some [.pointer none] := by kernel_rfl
@[go_sem] theorem bld93 (parts : List (Nat × Value)) : buildB Tryz.prog 93 parts = (fillB (fun i => ([(0, 1)] : List (Nat × Nat))[i]?) [.pointer none] parts).map fun l => .agg ⟨l⟩ := by kernel_rfl
@[go_sem] theorem fa93_0 (B o : Nat) : fieldAddrB Tryz.prog 93 0 (.pointer (some ⟨B, o, none⟩)) = some (.pointer (some ⟨B, o, none⟩)) := by kernel_rfl
@[go_sem] theorem fd93_0 (l : List Value) : fieldB Tryz.prog 93 0 (.agg ⟨l⟩) = l[0]? := by kernel_rfl
@[go_sem] theorem agg94 : isAggB Tryz.prog 94 = some false := by kernel_rfl
@[go_sem] theorem size94 : sizeB Tryz.prog 94 = some 1 := by kernel_rfl
@[go_sem] theorem und94 : Tryz.prog.underlying 94 = some (.pointer 124) := by kernel_rfl
@[go_sem] theorem apb94 : Nat.ble (((Tryz.prog.info? 94).map (·.bytes)).getD 10000000) 1000000 = true := by kernel_rfl
@[go_sem] theorem pz94 : plainZero Tryz.prog 94 = some [.pointer none] := by kernel_rfl
@[go_sem] theorem agg96 : isAggB Tryz.prog 96 = some true := by kernel_rfl
@[go_sem] theorem size96 : sizeB Tryz.prog 96 = some 1 := by kernel_rfl
@[go_sem] theorem apb96 : Nat.ble (((Tryz.prog.info? 96).map (·.bytes)).getD 10000000) 1000000 = true := by kernel_rfl
@[go_sem] theorem pz96 : plainZero Tryz.prog 96 = some [.pointer none] := by kernel_rfl
@[go_sem] theorem bld96 (parts : List (Nat × Value)) : buildB Tryz.prog 96 parts = (fillB (fun i => ([(0, 1)] : List (Nat × Nat))[i]?) [.pointer none] parts).map fun l => .agg ⟨l⟩ := by kernel_rfl
@[go_sem] theorem fa96_0 (B o : Nat) : fieldAddrB Tryz.prog 96 0 (.pointer (some ⟨B, o, none⟩)) = some (.pointer (some ⟨B, o, none⟩)) := by kernel_rfl
@[go_sem] theorem fd96_0 (l : List Value) : fieldB Tryz.prog 96 0 (.agg ⟨l⟩) = l[0]? := by kernel_rfl
@[go_sem] theorem agg97 : isAggB Tryz.prog 97 = some true := by kernel_rfl
@[go_sem] theorem size97 : sizeB Tryz.prog 97 = some 1 := by kernel_rfl
@[go_sem] theorem apb97 : Nat.ble (((Tryz.prog.info? 97).map (·.bytes)).getD 10000000) 1000000 = true := by kernel_rfl
@[go_sem] theorem pz97 : plainZero Tryz.prog 97 = some [.pointer none] := by kernel_rfl
@[go_sem] theorem bld97 (parts : List (Nat × Value)) : buildB Tryz.prog 97 parts = (fillB (fun i => ([(0, 1)] : List (Nat × Nat))[i]?) [.pointer none] parts).map fun l => .agg ⟨l⟩ := by kernel_rfl
@[go_sem] theorem fa97_0 (B o : Nat) : fieldAddrB Tryz.prog 97 0 (.pointer (some ⟨B, o, none⟩)) = some (.pointer (some ⟨B, o, none⟩)) := by kernel_rfl
@[go_sem] theorem fd97_0 (l : List Value) : fieldB Tryz.prog 97 0 (.agg ⟨l⟩) = l[0]? := by kernel_rfl
@[go_sem] theorem agg98 : isAggB Tryz.prog 98 = some false := by kernel_rfl
@[go_sem] theorem size98 : sizeB Tryz.prog 98 = some 1 := by kernel_rfl
@[go_sem] theorem und98 : Tryz.prog.underlying 98 = some (.pointer 127) := by kernel_rfl
@[go_sem] theorem apb98 : Nat.ble (((Tryz.prog.info? 98).map (·.bytes)).getD 10000000) 1000000 = true := by kernel_rfl
@[go_sem] theorem pz98 : plainZero Tryz.prog 98 = some [.pointer none] := by kernel_rfl
@[go_sem] theorem agg100 : isAggB Tryz.prog 100 = some true := by kernel_rfl
@[go_sem] theorem size100 : sizeB Tryz.prog 100 = some 1 := by kernel_rfl
@[go_sem] theorem apb100 : Nat.ble (((Tryz.prog.info? 100).map (·.bytes)).getD 10000000) 1000000 = true := by kernel_rfl
@[go_sem] theorem pz100 : plainZero Tryz.prog 100 = some [.pointer none] := by kernel_rfl
@[go_sem] theorem bld100 (parts : List (Nat × Value)) : buildB Tryz.prog 100 parts = (fillB (fun i => ([(0, 1)] : List (Nat × Nat))[i]?) [.pointer none] parts).map fun l => .agg ⟨l⟩ := by kernel_rfl
@[go_sem] theorem fa100_0 (B o : Nat) : fieldAddrB Tryz.prog 100 0 (.pointer (some ⟨B, o, none⟩)) = some (.pointer (some ⟨B, o, none⟩)) := by kernel_rfl
@[go_sem] theorem fd100_0 (l : List Value) : fieldB Tryz.prog 100 0 (.agg ⟨l⟩) = l[0]? := by kernel_rfl
@[go_sem] theorem agg101 : isAggB Tryz.prog 101 = some true := by kernel_rfl
@[go_sem] theorem size101 : sizeB Tryz.prog 101 = some 1 := by kernel_rfl
@[go_sem] theorem apb101 : Nat.ble (((Tryz.prog.info? 101).map (·.bytes)).getD 10000000) 1000000 = true := by kernel_rfl
@[go_sem] theorem pz101 : plainZero Tryz.prog 101 = some [.pointer none] := by kernel_rfl
@[go_sem] theorem bld101 (parts : List (Nat × Value)) : buildB Tryz.prog 101 parts = (fillB (fun i => ([(0, 1)] : List (Nat × Nat))[i]?) [.pointer none] parts).map fun l => .agg ⟨l⟩ := by kernel_rfl
@[go_sem] theorem fa101_0 (B o : Nat) : fieldAddrB Tryz.prog 101 0 (.pointer (some ⟨B, o, none⟩)) = some (.pointer (some ⟨B, o, none⟩)) := by kernel_rfl
@[go_sem] theorem fd101_0 (l : List Value) : fieldB Tryz.prog 101 0 (.agg ⟨l⟩) = l[0]? := by kernel_rfl
@[go_sem] theorem agg102 : isAggB Tryz.prog 102 = some true := by kernel_rfl
@[go_sem] theorem size102 : sizeB Tryz.prog 102 = some 6 := by kernel_rfl
@[go_sem] theorem apb102 : Nat.ble (((Tryz.prog.info? 102).map (·.bytes)).getD 10000000) 1000000 = true := by kernel_rfl
@[go_sem] theorem pz102 : plainZero Tryz.prog 102 = some [.pointer none, .pointer none, .pointer none, .bool false, .int .i64 0, .int .i64 0] := by kernel_rfl
@[go_sem] theorem bld102 (parts : List (Nat × Value)) : buildB Tryz.prog 102 parts = (fillB (fun i => ([(0, 1), (1, 1), (2, 1), (3, 1), (4, 1), (5, 1)] : List (Nat × Nat))[i]?) [.pointer none, .pointer none, .pointer none, .bool false, .int .i64 0, .int .i64 0] parts).map fun l => .agg ⟨l⟩ := by kernel_rfl
@[go_sem] theorem fa102_0 (B o : Nat) : fieldAddrB Tryz.prog 102 0 (.pointer (some ⟨B, o, none⟩)) = some (.pointer (some ⟨B, o, none⟩)) := by kernel_rfl
@[go_sem] theorem fd102_0 (l : List Value) : fieldB Tryz.prog 102 0 (.agg ⟨l⟩) = some (.agg ⟨(l.drop 0).take 1⟩) := by kernel_rfl
@[go_sem] theorem fa102_1 (B o : Nat) : fieldAddrB Tryz.prog 102 1 (.pointer (some ⟨B, o, none⟩)) = some (.pointer (some ⟨B, o + 1, none⟩)) := by kernel_rfl
@[go_sem] theorem fd102_1 (l : List Value) : fieldB Tryz.prog 102 1 (.agg ⟨l⟩) = some (.agg ⟨(l.drop 1).take 1⟩) := by kernel_rfl
@[go_sem] theorem fa102_2 (B o : Nat) : fieldAddrB Tryz.prog 102 2 (.pointer (some ⟨B, o, none⟩)) = some (.pointer (some ⟨B, o + 2, none⟩)) := by kernel_rfl
@[go_sem] theorem fd102_2 (l : List Value) : fieldB Tryz.prog 102 2 (.agg ⟨l⟩) = some (.agg ⟨(l.drop 2).take 1⟩) := by kernel_rfl
@[go_sem] theorem fa102_3 (B o : Nat) : fieldAddrB Tryz.prog 102 3 (.pointer (some ⟨B, o, none⟩)) = some (.pointer (some ⟨B, o + 3, none⟩)) := by kernel_rfl
@[go_sem] theorem fd102_3 (l : List Value) : fieldB Tryz.prog 102 3 (.agg ⟨l⟩) = l[3]? := by kernel_rfl
@[go_sem] theorem fa102_4 (B o : Nat) : fieldAddrB Tryz.prog 102 4 (.pointer (some ⟨B, o, none⟩)) = some (.pointer (some ⟨B, o + 4, none⟩)) := by kernel_rfl
@[go_sem] theorem fd102_4 (l : List Value) : fieldB Tryz.prog 102 4 (.agg ⟨l⟩) = l[4]? := by kernel_rfl
@[go_sem] theorem fa102_5 (B o : Nat) : fieldAddrB Tryz.prog 102 5 (.pointer (some ⟨B, o, none⟩)) = some (.pointer (some ⟨B, o + 5, none⟩)) := by kernel_rfl
@[go_sem] theorem fd102_5 (l : List Value) : fieldB Tryz.prog 102 5 (.agg ⟨l⟩) = l[5]? := by kernel_rfl
@[go_sem] theorem agg103 : isAggB Tryz.prog 103 = some true := by kernel_rfl
@[go_sem] theorem size103 : sizeB Tryz.prog 103 = some 6 := by kernel_rfl
@[go_sem] theorem apb103 : Nat.ble (((Tryz.prog.info? 103).map (·.bytes)).getD 10000000) 1000000 = true := by kernel_rfl
@[go_sem] theorem pz103 : plainZero Tryz.prog 103 = some [.pointer none, .pointer none, .pointer none, .bool false, .int .i64 0, .int .i64 0] := by kernel_rfl
@[go_sem] theorem bld103 (parts : List (Nat × Value)) : buildB Tryz.prog 103 parts = (fillB (fun i => ([(0, 1), (1, 1), (2, 1), (3, 1), (4, 1), (5, 1)] : List (Nat × Nat))[i]?) [.pointer none, .pointer none, .pointer none, .bool false, .int .i64 0, .int .i64 0] parts).map fun l => .agg ⟨l⟩ := by kernel_rfl
@[go_sem] theorem fa103_0 (B o : Nat) : fieldAddrB Tryz.prog 103 0 (.pointer (some ⟨B, o, none⟩)) = some (.pointer (some ⟨B, o, none⟩)) := by kernel_rfl
@[go_sem] theorem fd103_0 (l : List Value) : fieldB Tryz.prog 103 0 (.agg ⟨l⟩) = some (.agg ⟨(l.drop 0).take 1⟩) := by kernel_rfl
@[go_sem] theorem fa103_1 (B o : Nat) : fieldAddrB Tryz.prog 103 1 (.pointer (some ⟨B, o, none⟩)) = some (.pointer (some ⟨B, o + 1, none⟩)) := by kernel_rfl
@[go_sem] theorem fd103_1 (l : List Value) : fieldB Tryz.prog 103 1 (.agg ⟨l⟩) = some (.agg ⟨(l.drop 1).take 1⟩) := by kernel_rfl
@[go_sem] theorem fa103_2 (B o : Nat) : fieldAddrB Tryz.prog 103 2 (.pointer (some ⟨B, o, none⟩)) = some (.pointer (some ⟨B, o + 2, none⟩)) := by kernel_rfl
@[go_sem] theorem fd103_2 (l : List Value) : fieldB Tryz.prog 103 2 (.agg ⟨l⟩) = some (.agg ⟨(l.drop 2).take 1⟩) := by kernel_rfl
@[go_sem] theorem fa103_3 (B o : Nat) : fieldAddrB Tryz.prog 103 3 (.pointer (some ⟨B, o, none⟩)) = some (.pointer (some ⟨B, o + 3, none⟩)) := by kernel_rfl
@[go_sem] theorem fd103_3 (l : List Value) : fieldB Tryz.prog 103 3 (.agg ⟨l⟩) = l[3]? := by kernel_rfl
@[go_sem] theorem fa103_4 (B o : Nat) : fieldAddrB Tryz.prog 103 4 (.pointer (some ⟨B, o, none⟩)) = some (.pointer (some ⟨B, o + 4, none⟩)) := by kernel_rfl
@[go_sem] theorem fd103_4 (l : List Value) : fieldB Tryz.prog 103 4 (.agg ⟨l⟩) = l[4]? := by kernel_rfl
@[go_sem] theorem fa103_5 (B o : Nat) : fieldAddrB Tryz.prog 103 5 (.pointer (some ⟨B, o, none⟩)) = some (.pointer (some ⟨B, o + 5, none⟩)) := by kernel_rfl
@[go_sem] theorem fd103_5 (l : List Value) : fieldB Tryz.prog 103 5 (.agg ⟨l⟩) = l[5]? := by kernel_rfl
@[go_sem] theorem agg104 : isAggB Tryz.prog 104 = some false := by kernel_rfl
@[go_sem] theorem size104 : sizeB Tryz.prog 104 = some 1 := by kernel_rfl
@[go_sem] theorem und104 : Tryz.prog.underlying 104 = some (.slice 24) := by kernel_rfl
@[go_sem] theorem apb104 : Nat.ble (((Tryz.prog.info? 104).map (·.bytes)).getD 10000000) 1000000 = true := by kernel_rfl
@[go_sem] theorem pz104 : plainZero Tryz.prog 104 = some [.slice none 0 0] := by kernel_rfl
@[go_sem] theorem agg105 : isAggB Tryz.prog 105 = some false := by kernel_rfl
@[go_sem] theorem size105 : sizeB Tryz.prog 105 = some 1 := by kernel_rfl
@[go_sem] theorem und105 : Tryz.prog.underlying 105 = some (.pointer 214) := by kernel_rfl
@[go_sem] theorem apb105 : Nat.ble (((Tryz.prog.info? 105).map (·.bytes)).getD 10000000) 1000000 = true := by kernel_rfl
@[go_sem] theorem pz105 : plainZero Tryz.prog 105 = some [.pointer none] := by kernel_rfl
@[go_sem] theorem agg106 : isAggB Tryz.prog 106 = some true := by kernel_rfl
@[go_sem] theorem size106 : sizeB Tryz.prog 106 = some 3 := by kernel_rfl
@[go_sem] theorem apb106 : Nat.ble (((Tryz.prog.info? 106).map (·.bytes)).getD 10000000) 1000000 = true := by kernel_rfl
@[go_sem] theorem pz106 : plainZero Tryz.prog 106 = some [.pointer none, .slice none 0 0, .pointer none] := by kernel_rfl
@[go_sem] theorem bld106 (parts : List (Nat × Value)) : buildB Tryz.prog 106 parts = (fillB (fun i => ([(0, 1), (1, 1), (2, 1)] : List (Nat × Nat))[i]?) [.pointer none, .slice none 0 0, .pointer none] parts).map fun l => .agg ⟨l⟩ := by kernel_rfl
@[go_sem] theorem fa106_0 (B o : Nat) : fieldAddrB Tryz.prog 106 0 (.pointer (some ⟨B, o, none⟩)) = some (.pointer (some ⟨B, o, none⟩)) := by kernel_rfl
@[go_sem] theorem fd106_0 (l : List Value) : fieldB Tryz.prog 106 0 (.agg ⟨l⟩) = l[0]? := by kernel_rfl
@[go_sem] theorem fa106_1 (B o : Nat) : fieldAddrB Tryz.prog 106 1 (.pointer (some ⟨B, o, none⟩)) = some (.pointer (some ⟨B, o + 1, none⟩)) := by kernel_rfl
@[go_sem] theorem fd106_1 (l : List Value) : fieldB Tryz.prog 106 1 (.agg ⟨l⟩) = l[1]? := by kernel_rfl
@[go_sem] theorem fa106_2 (B o : Nat) : fieldAddrB Tryz.prog 106 2 (.pointer (some ⟨B, o, none⟩)) = some (.pointer (some ⟨B, o + 2, none⟩)) := by kernel_rfl
@[go_sem] theorem fd106_2 (l : List Value) : fieldB Tryz.prog 106 2 (.agg ⟨l⟩) = l[2]? := by kernel_rfl
@[go_sem] theorem agg107 : isAggB Tryz.prog 107 = some true := by kernel_rfl
@[go_sem] theorem size107 : sizeB Tryz.prog 107 = some 3 := by kernel_rfl
@[go_sem] theorem apb107 : Nat.ble (((Tryz.prog.info? 107).map (·.bytes)).getD 10000000) 1000000 = true := by kernel_rfl
@[go_sem] theorem pz107 : plainZero Tryz.prog 107 = some [.pointer none, .slice none 0 0, .pointer none] := by kernel_rfl
@[go_sem] theorem bld107 (parts : List (Nat × Value)) : buildB Tryz.prog 107 parts = (fillB (fun i => ([(0, 1), (1, 1), (2, 1)] : List (Nat × Nat))[i]?) [.pointer none, .slice none 0 0, .pointer none] parts).map fun l => .agg ⟨l⟩ := by kernel_rfl
@[go_sem] theorem fa107_0 (B o : Nat) : fieldAddrB Tryz.prog 107 0 (.pointer (some ⟨B, o, none⟩)) = some (.pointer (some ⟨B, o, none⟩)) := by kernel_rfl
@[go_sem] theorem fd107_0 (l : List Value) : fieldB Tryz.prog 107 0 (.agg ⟨l⟩) = l[0]? := by kernel_rfl
@[go_sem] theorem fa107_1 (B o : Nat) : fieldAddrB Tryz.prog 107 1 (.pointer (some ⟨B, o, none⟩)) = some (.pointer (some ⟨B, o + 1, none⟩)) := by kernel_rfl
@[go_sem] theorem fd107_1 (l : List Value) : fieldB Tryz.prog 107 1 (.agg ⟨l⟩) = l[1]? := by kernel_rfl
@[go_sem] theorem fa107_2 (B o : Nat) : fieldAddrB Tryz.prog 107 2 (.pointer (some ⟨B, o, none⟩)) = some (.pointer (some ⟨B, o + 2, none⟩)) := by kernel_rfl
@[go_sem] theorem fd107_2 (l : List Value) : fieldB Tryz.prog 107 2 (.agg ⟨l⟩) = l[2]? := by kernel_rfl
@[go_sem] theorem agg109 : isAggB Tryz.prog 109 = some true := by kernel_rfl
@[go_sem] theorem size109 : sizeB Tryz.prog 109 = some 22 := by kernel_rfl
@[go_sem] theorem und109 : Tryz.prog.underlying 109 = some (.array 22 108) := by kernel_rfl
@[go_sem] theorem apb109 : Nat.ble (((Tryz.prog.info? 109).map (·.bytes)).getD 10000000) 1000000 = true := by kernel_rfl
@[go_sem] theorem pz109 : plainZero Tryz.prog 109 = some [.nilFunc, .nilFunc, .nilFunc, .nilFunc, .nilFunc, .nilFunc, .nilFunc, .nilFunc, .nilFunc, .nilFunc, .nilFunc, .nilFunc, .nilFunc, .nilFunc, .nilFunc, .nilFunc, .nilFunc, .nilFunc, .nilFunc, .nilFunc, .nilFunc, .nilFunc] := by kernel_rfl
@[go_sem] theorem agg111 : isAggB Tryz.prog 111 = some false := by kernel_rfl
@[go_sem] theorem size111 : sizeB Tryz.prog 111 = some 1 := by kernel_rfl
@[go_sem] theorem und111 : Tryz.prog.underlying 111 = some (.pointer 133) := by kernel_rfl
@[go_sem] theorem apb111 : Nat.ble (((Tryz.prog.info? 111).map (·.bytes)).getD 10000000) 1000000 = true := by kernel_rfl
@[go_sem] theorem pz111 : plainZero Tryz.prog 111 = some [.pointer none] := by kernel_rfl
@[go_sem] theorem agg114 : isAggB Tryz.prog 114 = some false := by kernel_rfl
@[go_sem] theorem size114 : sizeB Tryz.prog 114 = some 1 := by kernel_rfl
@[go_sem] theorem und114 : Tryz.prog.underlying 114 = some (.pointer 138) := by kernel_rfl
@[go_sem] theorem apb114 : Nat.ble (((Tryz.prog.info? 114).map (·.bytes)).getD 10000000) 1000000 = true := by kernel_rfl
@[go_sem] theorem pz114 : plainZero Tryz.prog 114 = some [.pointer none] := by kernel_rfl
@[go_sem] theorem agg117 : isAggB Tryz.prog 117 = some true := by kernel_rfl
@[go_sem] theorem size117 : sizeB Tryz.prog 117 = some 1 := by kernel_rfl
@[go_sem] theorem apb117 : Nat.ble (((Tryz.prog.info? 117).map (·.bytes)).getD 10000000) 1000000 = true := by kernel_rfl
@[go_sem] theorem pz117 : plainZero Tryz.prog 117 = some [.pointer none] := by kernel_rfl
@[go_sem] theorem bld117 (parts : List (Nat × Value)) : buildB Tryz.prog 117 parts = (fillB (fun i => ([(0, 1)] : List (Nat × Nat))[i]?) [.pointer none] parts).map fun l => .agg ⟨l⟩ := by kernel_rfl
@[go_sem] theorem fa117_0 (B o : Nat) : fieldAddrB Tryz.prog 117 0 (.pointer (some ⟨B, o, none⟩)) = some (.pointer (some ⟨B, o, none⟩)) := by kernel_rfl
@[go_sem] theorem fd117_0 (l : List Value) : fieldB Tryz.prog 117 0 (.agg ⟨l⟩) = l[0]? := by kernel_rfl
@[go_sem] theorem agg118 : isAggB Tryz.prog 118 = some true := by kernel_rfl
@[go_sem] theorem size118 : sizeB Tryz.prog 118 = some 1 := by kernel_rfl
@[go_sem] theorem apb118 : Nat.ble (((Tryz.prog.info? 118).map (·.bytes)).getD 10000000) 1000000 = true := by kernel_rfl
@[go_sem] theorem pz118 : plainZero Tryz.prog 118 = some [.pointer none] := by kernel_rfl
@[go_sem] theorem bld118 (parts : List (Nat × Value)) : buildB Tryz.prog 118 parts = (fillB (fun i => ([(0, 1)] : List (Nat × Nat))[i]?) [.pointer none] parts).map fun l => .agg ⟨l⟩ := by kernel_rfl
@[go_sem] theorem fa118_0 (B o : Nat) : fieldAddrB Tryz.prog 118 0 (.pointer (some ⟨B, o, none⟩)) = some (.pointer (some ⟨B, o, none⟩)) := by kernel_rfl
@[go_sem] theorem fd118_0 (l : List Value) : fieldB Tryz.prog 118 0 (.agg ⟨l⟩) = l[0]? := by kernel_rfl
@[go_sem] theorem agg119 : isAggB Tryz.prog 119 = some true := by kernel_rfl
@[go_sem] theorem size119 : sizeB Tryz.prog 119 = some 1 := by kernel_rfl
@[go_sem] theorem apb119 : Nat.ble (((Tryz.prog.info? 119).map (·.bytes)).getD 10000000) 1000000 = true := by kernel_rfl
@[go_sem] theorem pz119 : plainZero Tryz.prog 119 = some [.pointer none] := by kernel_rfl
@[go_sem] theorem bld119 (parts : List (Nat × Value)) : buildB Tryz.prog 119 parts = (fillB (fun i => ([(0, 1)] : List (Nat × Nat))[i]?) [.pointer none] parts).map fun l => .agg ⟨l⟩ := by kernel_rfl
@[go_sem] theorem fa119_0 (B o : Nat) : fieldAddrB Tryz.prog 119 0 (.pointer (some ⟨B, o, none⟩)) = some (.pointer (some ⟨B, o, none⟩)) := by kernel_rfl
@[go_sem] theorem fd119_0 (l : List Value) : fieldB Tryz.prog 119 0 (.agg ⟨l⟩) = l[0]? := by kernel_rfl
@[go_sem] theorem agg120 : isAggB Tryz.prog 120 = some true := by kernel_rfl
@[go_sem] theorem size120 : sizeB Tryz.prog 120 = some 1 := by kernel_rfl
@[go_sem] theorem apb120 : Nat.ble (((Tryz.prog.info? 120).map (·.bytes)).getD 10000000) 1000000 = true := by kernel_rfl
@[go_sem] theorem pz120 : plainZero Tryz.prog 120 = some [.pointer none] := by kernel_rfl
@[go_sem] theorem bld120 (parts : List (Nat × Value)) : buildB Tryz.prog 120 parts = (fillB (fun i => ([(0, 1)] : List (Nat × Nat))[i]?) [.pointer none] parts).map fun l => .agg ⟨l⟩ := by kernel_rfl
@[go_sem] theorem fa120_0 (B o : Nat) : fieldAddrB Tryz.prog 120 0 (.pointer (some ⟨B, o, none⟩)) = some (.pointer (some ⟨B, o, none⟩)) := by kernel_rfl
@[go_sem] theorem fd120_0 (l : List Value) : fieldB Tryz.prog 120 0 (.agg ⟨l⟩) = l[0]? := by kernel_rfl
@[go_sem] theorem agg121 : isAggB Tryz.prog 121 = some true := by kernel_rfl
@[go_sem] theorem size121 : sizeB Tryz.prog 121 = some 2 := by kernel_rfl
@[go_sem] theorem apb121 : Nat.ble (((Tryz.prog.info? 121).map (·.bytes)).getD 10000000) 1000000 = true := by kernel_rfl
@[go_sem] theorem pz121 : plainZero Tryz.prog 121 = some [.pointer none, .pointer none] := by kernel_rfl
@[go_sem] theorem bld121 (parts : List (Nat × Value)) : buildB Tryz.prog 121 parts = (fillB (fun i => ([(0, 1), (1, 1)] : List (Nat × Nat))[i]?) [.pointer none, .pointer none] parts).map fun l => .agg ⟨l⟩ := by kernel_rfl
@[go_sem] theorem fa121_0 (B o : Nat) : fieldAddrB Tryz.prog 121 0 (.pointer (some ⟨B, o, none⟩)) = some (.pointer (some ⟨B, o, none⟩)) := by kernel_rfl
@[go_sem] theorem fd121_0 (l : List Value) : fieldB Tryz.prog 121 0 (.agg ⟨l⟩) = some (.agg ⟨(l.drop 0).take 1⟩) := by kernel_rfl
@[go_sem] theorem fa121_1 (B o : Nat) : fieldAddrB Tryz.prog 121 1 (.pointer (some ⟨B, o, none⟩)) = some (.pointer (some ⟨B, o + 1, none⟩)) := by kernel_rfl
@[go_sem] theorem fd121_1 (l : List Value) : fieldB Tryz.prog 121 1 (.agg ⟨l⟩) = some (.agg ⟨(l.drop 1).take 1⟩) := by kernel_rfl
@[go_sem] theorem agg122 : isAggB Tryz.prog 122 = some true := by kernel_rfl
@[go_sem] theorem size122 : sizeB Tryz.prog 122 = some 2 := by kernel_rfl
@[go_sem] theorem apb122 : Nat.ble (((Tryz.prog.info? 122).map (·.bytes)).getD 10000000) 1000000 = true := by kernel_rfl
@[go_sem] theorem pz122 : plainZero Tryz.prog 122 = some [.pointer none, .pointer none] := by kernel_rfl
@[go_sem] theorem bld122 (parts : List (Nat × Value)) : buildB Tryz.prog 122 parts = (fillB (fun i => ([(0, 1), (1, 1)] : List (Nat × Nat))[i]?) [.pointer none, .pointer none] parts).map fun l => .agg ⟨l⟩ := by kernel_rfl
@[go_sem] theorem fa122_0 (B o : Nat) : fieldAddrB Tryz.prog 122 0 (.pointer (some ⟨B, o, none⟩)) = some (.pointer (some ⟨B, o, none⟩)) := by kernel_rfl
@[go_sem] theorem fd122_0 (l : List Value) : fieldB Tryz.prog 122 0 (.agg ⟨l⟩) = some (.agg ⟨(l.drop 0).take 1⟩) := by kernel_rfl
@[go_sem] theorem fa122_1 (B o : Nat) : fieldAddrB Tryz.prog 122 1 (.pointer (some ⟨B, o, none⟩)) = some (.pointer (some ⟨B, o + 1, none⟩)) := by kernel_rfl
@[go_sem] theorem fd122_1 (l : List Value) : fieldB Tryz.prog 122 1 (.agg ⟨l⟩) = some (.agg ⟨(l.drop 1).take 1⟩) := by kernel_rfl
@[go_sem] theorem agg123 : isAggB Tryz.prog 123 = some true := by kernel_rfl
@[go_sem] theorem size123 : sizeB Tryz.prog 123 = some 1 := by kernel_rfl
@[go_sem] theorem apb123 : Nat.ble (((Tryz.prog.info? 123).map (·.bytes)).getD 10000000) 1000000 = true := by kernel_rfl
@[go_sem] theorem pz123 : plainZero Tryz.prog 123 = some [.slice none 0 0] := by kernel_rfl
@[go_sem] theorem bld123 (parts : List (Nat × Value)) : buildB Tryz.prog 123 parts = (fillB (fun i => ([(0, 1)] : List (Nat × Nat))[i]?) [.slice none 0 0] parts).map fun l => .agg ⟨l⟩ := by kernel_rfl
@[go_sem] theorem fa123_0 (B o : Nat) : fieldAddrB Tryz.prog 123 0 (.pointer (some ⟨B, o, none⟩)) = some (.pointer (some ⟨B, o, none⟩)) := by kernel_rfl
@[go_sem] theorem fd123_0 (l : List Value) : fieldB Tryz.prog 123 0 (.agg ⟨l⟩) = l[0]? := by kernel_rfl
@[go_sem] theorem agg124 : isAggB Tryz.prog 124 = some true := by kernel_rfl
@[go_sem] theorem size124 : sizeB Tryz.prog 124 = some 1 := by kernel_rfl
@[go_sem] theorem apb124 : Nat.ble (((Tryz.prog.info? 124).map (·.bytes)).getD 10000000) 1000000 = true := by kernel_rfl
@[go_sem] theorem pz124 : plainZero Tryz.prog 124 = some [.slice none 0 0] := by kernel_rfl
@[go_sem] theorem bld124 (parts : List (Nat × Value)) : buildB Tryz.prog 124 parts = (fillB (fun i => ([(0, 1)] : List (Nat × Nat))[i]?) [.slice none 0 0] parts).map fun l => .agg ⟨l⟩ := by kernel_rfl
@[go_sem] theorem fa124_0 (B o : Nat) : fieldAddrB Tryz.prog 124 0 (.pointer (some ⟨B, o, none⟩)) = some (.pointer (some ⟨B, o, none⟩)) := by kernel_rfl
@[go_sem] theorem fd124_0 (l : List Value) : fieldB Tryz.prog 124 0 (.agg ⟨l⟩) = l[0]? := by kernel_rfl
@[go_sem] theorem agg125 : isAggB Tryz.prog 125 = some false := by kernel_rfl
@[go_sem] theorem size125 : sizeB Tryz.prog 125 = some 1 := by kernel_rfl
@[go_sem] theorem und125 : Tryz.prog.underlying 125 = some (.slice 155) := by kernel_rfl
@[go_sem] theorem apb125 : Nat.ble (((Tryz.prog.info? 125).map (·.bytes)).getD 10000000) 1000000 = true := by kernel_rfl
@[go_sem] theorem pz125 : plainZero Tryz.prog 125 = some [.slice none 0 0] := by kernel_rfl
@[go_sem] theorem agg126 : isAggB Tryz.prog 126 = some true := by kernel_rfl
@[go_sem] theorem size126 : sizeB Tryz.prog 126 = some 1 := by kernel_rfl
@[go_sem] theorem apb126 : Nat.ble (((Tryz.prog.info? 126).map (·.bytes)).getD 10000000) 1000000 = true := by kernel_rfl
@[go_sem] theorem pz126 : plainZero Tryz.prog 126 = some [.slice none 0 0] := by kernel_rfl
@[go_sem] theorem bld126 (parts : List (Nat × Value)) : buildB Tryz.prog 126 parts = (fillB (fun i => ([(0, 1)] : List (Nat × Nat))[i]?) [.slice none 0 0] parts).map fun l => .agg ⟨l⟩ := by kernel_rfl
@[go_sem] theorem fa126_0 (B o : Nat) : fieldAddrB Tryz.prog 126 0 (.pointer (some ⟨B, o, none⟩)) = some (.pointer (some ⟨B, o, none⟩)) := by kernel_rfl
@[go_sem] theorem fd126_0 (l : List Value) : fieldB Tryz.prog 126 0 (.agg ⟨l⟩) = l[0]? := by kernel_rfl
@[go_sem] theorem agg127 : isAggB Tryz.prog 127 = some true := by kernel_rfl
@[go_sem] theorem size127 : sizeB Tryz.prog 127 = some 1 := by kernel_rfl
@[go_sem] theorem apb127 : Nat.ble (((Tryz.prog.info? 127).map (·.bytes)).getD 10000000) 1000000 = true := by kernel_rfl
@[go_sem] theorem pz127 : plainZero Tryz.prog 127 = some [.slice none 0 0] := by kernel_rfl
@[go_sem] theorem bld127 (parts : List (Nat × Value)) : buildB Tryz.prog 127 parts = (fillB (fun i => ([(0, 1)] : List (Nat × Nat))[i]?) [.slice none 0 0] parts).map fun l => .agg ⟨l⟩ := by kernel_rfl
@[go_sem] theorem fa127_0 (B o : Nat) : fieldAddrB Tryz.prog 127 0 (.pointer (some ⟨B, o, none⟩)) = some (.pointer (some ⟨B, o, none⟩)) := by kernel_rfl
@[go_sem] theorem fd127_0 (l : List Value) : fieldB Tryz.prog 127 0 (.agg ⟨l⟩) = l[0]? := by kernel_rfl
@[go_sem] theorem agg128 : isAggB Tryz.prog 128 = some false := by kernel_rfl
@[go_sem] theorem size128 : sizeB Tryz.prog 128 = some 1 := by kernel_rfl
@[go_sem] theorem und128 : Tryz.prog.underlying 128 = some (.pointer 186) := by kernel_rfl
@[go_sem] theorem apb128 : Nat.ble (((Tryz.prog.info? 128).map (·.bytes)).getD 10000000) 1000000 = true := by kernel_rfl
@[go_sem] theorem pz128 : plainZero Tryz.prog 128 = some [.pointer none] := by kernel_rfl
@[go_sem] theorem agg130 : isAggB Tryz.prog 130 = some true := by kernel_rfl
@[go_sem] theorem size130 : sizeB Tryz.prog 130 = some 3 := by kernel_rfl
@[go_sem] theorem apb130 : Nat.ble (((Tryz.prog.info? 130).map (·.bytes)).getD 10000000) 1000000 = true := by kernel_rfl
@[go_sem] theorem pz130 : plainZero Tryz.prog 130 = some [.pointer none, .pointer none, .pointer none] := by kernel_rfl
@[go_sem] theorem bld130 (parts : List (Nat × Value)) : buildB Tryz.prog 130 parts = (fillB (fun i => ([(0, 1), (1, 1), (2, 1)] : List (Nat × Nat))[i]?) [.pointer none, .pointer none, .pointer none] parts).map fun l => .agg ⟨l⟩ := by kernel_rfl
@[go_sem] theorem fa130_0 (B o : Nat) : fieldAddrB Tryz.prog 130 0 (.pointer (some ⟨B, o, none⟩)) = some (.pointer (some ⟨B, o, none⟩)) := by kernel_rfl
@[go_sem] theorem fd130_0 (l : List Value) : fieldB Tryz.prog 130 0 (.agg ⟨l⟩) = l[0]? := by kernel_rfl
@[go_sem] theorem fa130_1 (B o : Nat) : fieldAddrB Tryz.prog 130 1 (.pointer (some ⟨B, o, none⟩)) = some (.pointer (some ⟨B, o + 1, none⟩)) := by kernel_rfl
@[go_sem] theorem fd130_1 (l : List Value) : fieldB Tryz.prog 130 1 (.agg ⟨l⟩) = l[1]? := by kernel_rfl
@[go_sem] theorem fa130_2 (B o : Nat) : fieldAddrB Tryz.prog 130 2 (.pointer (some ⟨B, o, none⟩)) = some (.pointer (some ⟨B, o + 2, none⟩)) := by kernel_rfl
@[go_sem] theorem fd130_2 (l : List Value) : fieldB Tryz.prog 130 2 (.agg ⟨l⟩) = l[2]? := by kernel_rfl
@[go_sem] theorem agg131 : isAggB Tryz.prog 131 = some true := by kernel_rfl
@[go_sem] theorem size131 : sizeB Tryz.prog 131 = some 3 := by kernel_rfl
@[go_sem] theorem apb131 : Nat.ble (((Tryz.prog.info? 131).map (·.bytes)).getD 10000000) 1000000 = true := by kernel_rfl
@[go_sem] theorem pz131 : plainZero Tryz.prog 131 = some [.pointer none, .pointer none, .pointer none] := by kernel_rfl
@[go_sem] theorem bld131 (parts : List (Nat × Value)) : buildB Tryz.prog 131 parts = (fillB (fun i => ([(0, 1), (1, 1), (2, 1)] : List (Nat × Nat))[i]?) [.pointer none, .pointer none, .pointer none] parts).map fun l => .agg ⟨l⟩ := by kernel_rfl
@[go_sem] theorem fa131_0 (B o : Nat) : fieldAddrB Tryz.prog 131 0 (.pointer (some ⟨B, o, none⟩)) = some (.pointer (some ⟨B, o, none⟩)) := by kernel_rfl
@[go_sem] theorem fd131_0 (l : List Value) : fieldB Tryz.prog 131 0 (.agg ⟨l⟩) = l[0]? := by kernel_rfl
@[go_sem] theorem fa131_1 (B o : Nat) : fieldAddrB Tryz.prog 131 1 (.pointer (some ⟨B, o, none⟩)) = some (.pointer (some ⟨B, o + 1, none⟩)) := by kernel_rfl
@[go_sem] theorem fd131_1 (l : List Value) : fieldB Tryz.prog 131 1 (.agg ⟨l⟩) = l[1]? := by kernel_rfl
@[go_sem] theorem fa131_2 (B o : Nat) : fieldAddrB Tryz.prog 131 2 (.pointer (some ⟨B, o, none⟩)) = some (.pointer (some ⟨B, o + 2, none⟩)) := by kernel_rfl
@[go_sem] theorem fd131_2 (l : List Value) : fieldB Tryz.prog 131 2 (.agg ⟨l⟩) = l[2]? := by kernel_rfl
@[go_sem] theorem agg132 : isAggB Tryz.prog 132 = some true := by kernel_rfl
@[go_sem] theorem size132 : sizeB Tryz.prog 132 = some 6 := by kernel_rfl
@[go_sem] theorem apb132 : Nat.ble (((Tryz.prog.info? 132).map (·.bytes)).getD 10000000) 1000000 = true := by kernel_rfl
@[go_sem] theorem pz132 : plainZero Tryz.prog 132 = some [.pointer none, .pointer none, .pointer none, .int .i64 0, .slice none 0 0, .int .i64 0] := by kernel_rfl
@[go_sem] theorem bld132 (parts : List (Nat × Value)) : buildB Tryz.prog 132 parts = (fillB (fun i => ([(0, 3), (3, 1), (4, 1), (5, 1)] : List (Nat × Nat))[i]?) [.pointer none, .pointer none, .pointer none, .int .i64 0, .slice none 0 0, .int .i64 0] parts).map fun l => .agg ⟨l⟩ := by kernel_rfl
@[go_sem] theorem fa132_0 (B o : Nat) : fieldAddrB Tryz.prog 132 0 (.pointer (some ⟨B, o, none⟩)) = some (.pointer (some ⟨B, o, none⟩)) := by kernel_rfl
@[go_sem] theorem fd132_0 (l : List Value) : fieldB Tryz.prog 132 0 (.agg ⟨l⟩) = some (.agg ⟨(l.drop 0).take 3⟩) := by kernel_rfl
@[go_sem] theorem fa132_1 (B o : Nat) : fieldAddrB Tryz.prog 132 1 (.pointer (some ⟨B, o, none⟩)) = some (.pointer (some ⟨B, o + 3, none⟩)) := by kernel_rfl
@[go_sem] theorem fd132_1 (l : List Value) : fieldB Tryz.prog 132 1 (.agg ⟨l⟩) = l[3]? := by kernel_rfl
@[go_sem] theorem fa132_2 (B o : Nat) : fieldAddrB Tryz.prog 132 2 (.pointer (some ⟨B, o, none⟩)) = some (.pointer (some ⟨B, o + 4, none⟩)) := by kernel_rfl
@[go_sem] theorem fd132_2 (l : List Value) : fieldB Tryz.prog 132 2 (.agg ⟨l⟩) = l[4]? := by kernel_rfl
@[go_sem] theorem fa132_3 (B o : Nat) : fieldAddrB Tryz.prog 132 3 (.pointer (some ⟨B, o, none⟩)) = some (.pointer (some ⟨B, o + 5, none⟩)) := by kernel_rfl
@[go_sem] theorem fd132_3 (l : List Value) : fieldB Tryz.prog 132 3 (.agg ⟨l⟩) = l[5]? := by kernel_rfl
@[go_sem] theorem agg133 : isAggB Tryz.prog 133 = some true := by kernel_rfl
@[go_sem] theorem size133 : sizeB Tryz.prog 133 = some 6 := by kernel_rfl
@[go_sem] theorem apb133 : Nat.ble (((Tryz.prog.info? 133).map (·.bytes)).getD 10000000) 1000000 = true := by kernel_rfl
@[go_sem] theorem pz133 : plainZero Tryz.prog 133 = some [.pointer none, .pointer none, .pointer none, .int .i64 0, .slice none 0 0, .int .i64 0] := by kernel_rfl
@[go_sem] theorem bld133 (parts : List (Nat × Value)) : buildB Tryz.prog 133 parts = (fillB (fun i => ([(0, 3), (3, 1), (4, 1), (5, 1)] : List (Nat × Nat))[i]?) [.pointer none, .pointer none, .pointer none, .int .i64 0, .slice none 0 0, .int .i64 0] parts).map fun l => .agg ⟨l⟩ := by kernel_rfl
@[go_sem] theorem fa133_0 (B o : Nat) : fieldAddrB Tryz.prog 133 0 (.pointer (some ⟨B, o, none⟩)) = some (.pointer (some ⟨B, o, none⟩)) := by kernel_rfl
@[go_sem] theorem fd133_0 (l : List Value) : fieldB Tryz.prog 133 0 (.agg ⟨l⟩) = some (.agg ⟨(l.drop 0).take 3⟩) := by kernel_rfl
@[go_sem] theorem fa133_1 (B o : Nat) : fieldAddrB Tryz.prog 133 1 (.pointer (some ⟨B, o, none⟩)) = some (.pointer (some ⟨B, o + 3, none⟩)) := by kernel_rfl
@[go_sem] theorem fd133_1 (l : List Value) : fieldB Tryz.prog 133 1 (.agg ⟨l⟩) = l[3]? := by kernel_rfl
@[go_sem] theorem fa133_2 (B o : Nat) : fieldAddrB Tryz.prog 133 2 (.pointer (some ⟨B, o, none⟩)) = some (.pointer (some ⟨B, o + 4, none⟩)) := by kernel_rfl
@[go_sem] theorem fd133_2 (l : List Value) : fieldB Tryz.prog 133 2 (.agg ⟨l⟩) = l[4]? := by kernel_rfl
@[go_sem] theorem fa133_3 (B o : Nat) : fieldAddrB Tryz.prog 133 3 (.pointer (some ⟨B, o, none⟩)) = some (.pointer (some ⟨B, o + 5, none⟩)) := by kernel_rfl
@[go_sem] theorem fd133_3 (l : List Value) : fieldB Tryz.prog 133 3 (.agg ⟨l⟩) = l[5]? := by kernel_rfl
@[go_sem] theorem agg136 : isAggB Tryz.prog 136 = some false := by kernel_rfl
@[go_sem] theorem size136 : sizeB Tryz.prog 136 = some 1 := by kernel_rfl
@[go_sem] theorem und136 : Tryz.prog.underlying 136 = some (.slice 143) := by kernel_rfl
@[go_sem] theorem apb136 : Nat.ble (((Tryz.prog.info? 136).map (·.bytes)).getD 10000000) 1000000 = true := by kernel_rfl
@[go_sem] theorem pz136 : plainZero Tryz.prog 136 = some [.slice none 0 0] := by kernel_rfl
@[go_sem] theorem agg137 : isAggB Tryz.prog 137 = some true := by kernel_rfl
@[go_sem] theorem size137 : sizeB Tryz.prog 137 = some 1 := by kernel_rfl
@[go_sem] theorem apb137 : Nat.ble (((Tryz.prog.info? 137).map (·.bytes)).getD 10000000) 1000000 = true := by kernel_rfl
@[go_sem] theorem pz137 : plainZero Tryz.prog 137 = some [.slice none 0 0] := by kernel_rfl
@[go_sem] theorem bld137 (parts : List (Nat × Value)) : buildB Tryz.prog 137 parts = (fillB (fun i => ([(0, 1)] : List (Nat × Nat))[i]?) [.slice none 0 0] parts).map fun l => .agg ⟨l⟩ := by kernel_rfl
@[go_sem] theorem fa137_0 (B o : Nat) : fieldAddrB Tryz.prog 137 0 (.pointer (some ⟨B, o, none⟩)) = some (.pointer (some ⟨B, o, none⟩)) := by kernel_rfl
@[go_sem] theorem fd137_0 (l : List Value) : fieldB Tryz.prog 137 0 (.agg ⟨l⟩) = l[0]? := by kernel_rfl
@[go_sem] theorem agg138 : isAggB Tryz.prog 138 = some true := by kernel_rfl
@[go_sem] theorem size138 : sizeB Tryz.prog 138 = some 1 := by kernel_rfl
@[go_sem] theorem apb138 : Nat.ble (((Tryz.prog.info? 138).map (·.bytes)).getD 10000000) 1000000 = true := by kernel_rfl
@[go_sem] theorem pz138 : plainZero Tryz.prog 138 = some [.slice none 0 0] := by kernel_rfl
@[go_sem] theorem bld138 (parts : List (Nat × Value)) : buildB Tryz.prog 138 parts = (fillB (fun i => ([(0, 1)] : List (Nat × Nat))[i]?) [.slice none 0 0] parts).map fun l => .agg ⟨l⟩ := by kernel_rfl
@[go_sem] theorem fa138_0 (B o : Nat) : fieldAddrB Tryz.prog 138 0 (.pointer (some ⟨B, o, none⟩)) = some (.pointer (some ⟨B, o, none⟩)) := by kernel_rfl
@[go_sem] theorem fd138_0 (l : List Value) : fieldB Tryz.prog 138 0 (.agg ⟨l⟩) = l[0]? := by kernel_rfl
@[go_sem] theorem agg139 : isAggB Tryz.prog 139 = some false := by kernel_rfl
@[go_sem] theorem size139 : sizeB Tryz.prog 139 = some 1 := by kernel_rfl
@[go_sem] theorem und139 : Tryz.prog.underlying 139 = some (.pointer 196) := by kernel_rfl
@[go_sem] theorem apb139 : Nat.ble (((Tryz.prog.info? 139).map (·.bytes)).getD 10000000) 1000000 = true := by kernel_rfl
@[go_sem] theorem pz139 : plainZero Tryz.prog 139 = some [.pointer none] := by kernel_rfl
@[go_sem] theorem agg142 : isAggB Tryz.prog 142 = some true := by kernel_rfl
@[go_sem] theorem size142 : sizeB Tryz.prog 142 = some 1 := by kernel_rfl
@[go_sem] theorem apb142 : Nat.ble (((Tryz.prog.info? 142).map (·.bytes)).getD 10000000) 1000000 = true := by kernel_rfl
@[go_sem] theorem pz142 : plainZero Tryz.prog 142 = some [.pointer none] := by kernel_rfl
@[go_sem] theorem bld142 (parts : List (Nat × Value)) : buildB Tryz.prog 142 parts = (fillB (fun i => ([(0, 1)] : List (Nat × Nat))[i]?) [.pointer none] parts).map fun l => .agg ⟨l⟩ := by kernel_rfl
@[go_sem] theorem fa142_0 (B o : Nat) : fieldAddrB Tryz.prog 142 0 (.pointer (some ⟨B, o, none⟩)) = some (.pointer (some ⟨B, o, none⟩)) := by kernel_rfl
@[go_sem] theorem fd142_0 (l : List Value) : fieldB Tryz.prog 142 0 (.agg ⟨l⟩) = l[0]? := by kernel_rfl
@[go_sem] theorem agg143 : isAggB Tryz.prog 143 = some true := by kernel_rfl
@[go_sem] theorem size143 : sizeB Tryz.prog 143 = some 1 := by kernel_rfl
@[go_sem] theorem apb143 : Nat.ble (((Tryz.prog.info? 143).map (·.bytes)).getD 10000000) 1000000 = true := by kernel_rfl
@[go_sem] theorem pz143 : plainZero Tryz.prog 143 = some [.pointer none] := by kernel_rfl
@[go_sem] theorem bld143 (parts : List (Nat × Value)) : buildB Tryz.prog 143 parts = (fillB (fun i => ([(0, 1)] : List (Nat × Nat))[i]?) [.pointer none] parts).map fun l => .agg ⟨l⟩ := by kernel_rfl
@[go_sem] theorem fa143_0 (B o : Nat) : fieldAddrB Tryz.prog 143 0 (.pointer (some ⟨B, o, none⟩)) = some (.pointer (some ⟨B, o, none⟩)) := by kernel_rfl
@[go_sem] theorem fd143_0 (l : List Value) : fieldB Tryz.prog 143 0 (.agg ⟨l⟩) = l[0]? := by kernel_rfl
@[go_sem] theorem agg154 : isAggB Tryz.prog 154 = some true := by kernel_rfl
@[go_sem] theorem size154 : sizeB Tryz.prog 154 = some 7 := by kernel_rfl
@[go_sem] theorem apb154 : Nat.ble (((Tryz.prog.info? 154).map (·.bytes)).getD 10000000) 1000000 = true := by kernel_rfl
@[go_sem] theorem pz154 : plainZero Tryz.prog 154 = some [.int .i64 0, .int .i64 0, .int .i64 0, .int .i64 0, .int .i64 0, .int .i64 0, .int .i64 0] := by kernel_rfl
@[go_sem] theorem bld154 (parts : List (Nat × Value)) : buildB Tryz.prog 154 parts = (fillB (fun i => ([(0, 1), (1, 2), (3, 1), (4, 3)] : List (Nat × Nat))[i]?) [.int .i64 0, .int .i64 0, .int .i64 0, .int .i64 0, .int .i64 0, .int .i64 0, .int .i64 0] parts).map fun l => .agg ⟨l⟩ := by kernel_rfl
@[go_sem] theorem fa154_0 (B o : Nat) : fieldAddrB Tryz.prog 154 0 (.pointer (some ⟨B, o, none⟩)) = some (.pointer (some ⟨B, o, none⟩)) := by kernel_rfl
@[go_sem] theorem fd154_0 (l : List Value) : fieldB Tryz.prog 154 0 (.agg ⟨l⟩) = l[0]? := by kernel_rfl
@[go_sem] theorem fa154_1 (B o : Nat) : fieldAddrB Tryz.prog 154 1 (.pointer (some ⟨B, o, none⟩)) = some (.pointer (some ⟨B, o + 1, none⟩)) := by kernel_rfl
@[go_sem] theorem fd154_1 (l : List Value) : fieldB Tryz.prog 154 1 (.agg ⟨l⟩) = some (.agg ⟨(l.drop 1).take 2⟩) := by kernel_rfl
@[go_sem] theorem fa154_2 (B o : Nat) : fieldAddrB Tryz.prog 154 2 (.pointer (some ⟨B, o, none⟩)) = some (.pointer (some ⟨B, o + 3, none⟩)) := by kernel_rfl
@[go_sem] theorem fd154_2 (l : List Value) : fieldB Tryz.prog 154 2 (.agg ⟨l⟩) = l[3]? := by kernel_rfl
@[go_sem] theorem fa154_3 (B o : Nat) : fieldAddrB Tryz.prog 154 3 (.pointer (some ⟨B, o, none⟩)) = some (.pointer (some ⟨B, o + 4, none⟩)) := by kernel_rfl
@[go_sem] theorem fd154_3 (l : List Value) : fieldB Tryz.prog 154 3 (.agg ⟨l⟩) = some (.agg ⟨(l.drop 4).take 3⟩) := by kernel_rfl
@[go_sem] theorem agg155 : isAggB Tryz.prog 155 = some true := by kernel_rfl
@[go_sem] theorem size155 : sizeB Tryz.prog 155 = some 7 := by kernel_rfl
@[go_sem] theorem apb155 : Nat.ble (((Tryz.prog.info? 155).map (·.bytes)).getD 10000000) 1000000 = true := by kernel_rfl
@[go_sem] theorem pz155 : plainZero Tryz.prog 155 = some [.int .i64 0, .int .i64 0, .int .i64 0, .int .i64 0, .int .i64 0, .int .i64 0, .int .i64 0] := by kernel_rfl
@[go_sem] theorem bld155 (parts : List (Nat × Value)) : buildB Tryz.prog 155 parts = (fillB (fun i => ([(0, 1), (1, 2), (3, 1), (4, 3)] : List (Nat × Nat))[i]?) [.int .i64 0, .int .i64 0, .int .i64 0, .int .i64 0, .int .i64 0, .int .i64 0, .int .i64 0] parts).map fun l => .agg ⟨l⟩ := by kernel_rfl
@[go_sem] theorem fa155_0 (B o : Nat) : fieldAddrB Tryz.prog 155 0 (.pointer (some ⟨B, o, none⟩)) = some (.pointer (some ⟨B, o, none⟩)) := by kernel_rfl
@[go_sem] theorem fd155_0 (l : List Value) : fieldB Tryz.prog 155 0 (.agg ⟨l⟩) = l[0]? := by kernel_rfl
@[go_sem] theorem fa155_1 (B o : Nat) : fieldAddrB Tryz.prog 155 1 (.pointer (some ⟨B, o, none⟩)) = some (.pointer (some ⟨B, o + 1, none⟩)) := by kernel_rfl
@[go_sem] theorem fd155_1 (l : List Value) : fieldB Tryz.prog 155 1 (.agg ⟨l⟩) = some (.agg ⟨(l.drop 1).take 2⟩) := by kernel_rfl
@[go_sem] theorem fa155_2 (B o : Nat) : fieldAddrB Tryz.prog 155 2 (.pointer (some ⟨B, o, none⟩)) = some (.pointer (some ⟨B, o + 3, none⟩)) := by kernel_rfl
@[go_sem] theorem fd155_2 (l : List Value) : fieldB Tryz.prog 155 2 (.agg ⟨l⟩) = l[3]? := by kernel_rfl
@[go_sem] theorem fa155_3 (B o : Nat) : fieldAddrB Tryz.prog 155 3 (.pointer (some ⟨B, o, none⟩)) = some (.pointer (some ⟨B, o + 4, none⟩)) := by kernel_rfl
@[go_sem] theorem fd155_3 (l : List Value) : fieldB Tryz.prog 155 3 (.agg ⟨l⟩) = some (.agg ⟨(l.drop 4).take 3⟩) := by kernel_rfl
@[go_sem] theorem agg179 : isAggB Tryz.prog 179 = some false := by kernel_rfl
@[go_sem] theorem size179 : sizeB Tryz.prog 179 = some 1 := by kernel_rfl
@[go_sem] theorem und179 : Tryz.prog.underlying 179 = some (.int .u64) := by kernel_rfl
@[go_sem] theorem apb179 : Nat.ble (((Tryz.prog.info? 179).map (·.bytes)).getD 10000000) 1000000 = true := by kernel_rfl
@[go_sem] theorem pz179 : plainZero Tryz.prog 179 = some [.int .u64 0] := by kernel_rfl
@[go_sem] theorem agg180 : isAggB Tryz.prog 180 = some false := by kernel_rfl
@[go_sem] theorem size180 : sizeB Tryz.prog 180 = some 1 := by kernel_rfl
@[go_sem] theorem und180 : Tryz.prog.underlying 180 = some (.int .u64) := by kernel_rfl
@[go_sem] theorem apb180 : Nat.ble (((Tryz.prog.info? 180).map (·.bytes)).getD 10000000) 1000000 = true := by kernel_rfl
@[go_sem] theorem pz180 : plainZero Tryz.prog 180 = some [.int .u64 0] := by kernel_rfl
@[go_sem] theorem agg181 : isAggB Tryz.prog 181 = some false := by kernel_rfl
@[go_sem] theorem size181 : sizeB Tryz.prog 181 = some 1 := by kernel_rfl
@[go_sem] theorem und181 : Tryz.prog.underlying 181 = some (.pointer 184) := by kernel_rfl
@[go_sem] theorem apb181 : Nat.ble (((Tryz.prog.info? 181).map (·.bytes)).getD 10000000) 1000000 = true := by kernel_rfl
@[go_sem] theorem pz181 : plainZero Tryz.prog 181 = some [.pointer none] := by kernel_rfl
@[go_sem] theorem agg182 : isAggB Tryz.prog 182 = some true := by kernel_rfl
@[go_sem] theorem size182 : sizeB Tryz.prog 182 = some 64 := by kernel_rfl
@[go_sem] theorem und182 : Tryz.prog.underlying 182 = some (.array 64 181) := by kernel_rfl
@[go_sem] theorem apb182 : Nat.ble (((Tryz.prog.info? 182).map (·.bytes)).getD 10000000) 1000000 = true := by kernel_rfl
@[go_sem] theorem pz182 : plainZero Tryz.prog 182 = some [.pointer none, .pointer none, .pointer none, .pointer none, .pointer none, .pointer none, .pointer none, .pointer none, .pointer none, .pointer none, .pointer none, .pointer none, .pointer none, .pointer none, .pointer none, .pointer none, .pointer none, .pointer none, .pointer none, .pointer none, .pointer none, .pointer none, .pointer none, .pointer none, .pointer none, .pointer none, .pointer none, .pointer none, .pointer none, .pointer none, .pointer none, .pointer none, .pointer none, .pointer none, .pointer none, .pointer none, .pointer none, .pointer none, .pointer none, .pointer none, .pointer none, .pointer none, .pointer none, .pointer none, .pointer none, .pointer none, .pointer none, .pointer none, .pointer none, .pointer none, .pointer none, .pointer none, .pointer none, .pointer none, .pointer none, .pointer none, .pointer none, .pointer none, .pointer none, .pointer none, .pointer none, .pointer none, .pointer none, .pointer none] := by kernel_rfl
@[go_sem] theorem agg183 : isAggB Tryz.prog 183 = some true := by kernel_rfl
@[go_sem] theorem size183 : sizeB Tryz.prog 183 = some 65 := by kernel_rfl
@[go_sem] theorem apb183 : Nat.ble (((Tryz.prog.info? 183).map (·.bytes)).getD 10000000) 1000000 = true := by kernel_rfl
@[go_sem] theorem pz183 : plainZero Tryz.prog 183 = some [.int .u64 0, .pointer none, .pointer none, .pointer none, .pointer none, .pointer none, .pointer none, .pointer none, .pointer none, .pointer none, .pointer none, .pointer none, .pointer none, .pointer none, .pointer none, .pointer none, .pointer none, .pointer none, .pointer none, .pointer none, .pointer none, .pointer none, .pointer none, .pointer none, .pointer none, .pointer none, .pointer none, .pointer none, .pointer none, .pointer none, .pointer none, .pointer none, .pointer none, .pointer none, .pointer none, .pointer none, .pointer none, .pointer none, .pointer none, .pointer none, .pointer none, .pointer none, .pointer none, .pointer none, .pointer none, .pointer none, .pointer none, .pointer none, .pointer none, .pointer none, .pointer none, .pointer none, .pointer none, .pointer none, .pointer none, .pointer none, .pointer none, .pointer none, .pointer none, .pointer none, .pointer none, .pointer none, .pointer none, .pointer none, .pointer none] := by kernel_rfl
@[go_sem] theorem bld183 (parts : List (Nat × Value)) : buildB Tryz.prog 183 parts = (fillB (fun i => ([(0, 1), (1, 64)] : List (Nat × Nat))[i]?) [.int .u64 0, .pointer none, .pointer none, .pointer none, .pointer none, .pointer none, .pointer none, .pointer none, .pointer none, .pointer none, .pointer none, .pointer none, .pointer none, .pointer none, .pointer none, .pointer none, .pointer none, .pointer none, .pointer none, .pointer none, .pointer none, .pointer none, .pointer none, .pointer none, .pointer none, .pointer none, .pointer none, .pointer none, .pointer none, .pointer none, .pointer none, .pointer none, .pointer none, .pointer none, .pointer none, .pointer none, .pointer none, .pointer none, .pointer none, .pointer none, .pointer none, .pointer none, .pointer none, .pointer none, .pointer none, .pointer none, .pointer none, .pointer none, .pointer none, .pointer none, .pointer none, .pointer none, .pointer none, .pointer none, .pointer none, .pointer none, .pointer none, .pointer none, .pointer none, .pointer none, .pointer none, .pointer none, .pointer none, .pointer none, .pointer none] parts).map fun l => .agg ⟨l⟩ := by kernel_rfl
@[go_sem] theorem fa183_0 (B o : Nat) : fieldAddrB Tryz.prog 183 0 (.pointer (some ⟨B, o, none⟩)) = some (.pointer (some ⟨B, o, none⟩)) := by kernel_rfl
@[go_sem] theorem fd183_0 (l : List Value) : fieldB Tryz.prog 183 0 (.agg ⟨l⟩) = l[0]? := by kernel_rfl
@[go_sem] theorem fa183_1 (B o : Nat) : fieldAddrB Tryz.prog 183 1 (.pointer (some ⟨B, o, none⟩)) = some (.pointer (some ⟨B, o + 1, none⟩)) := by kernel_rfl
@[go_sem] theorem fd183_1 (l : List Value) : fieldB Tryz.prog 183 1 (.agg ⟨l⟩) = some (.agg ⟨(l.drop 1).take 64⟩) := by kernel_rfl
@[go_sem] theorem agg184 : isAggB Tryz.prog 184 = some true := by kernel_rfl
@[go_sem] theorem size184 : sizeB Tryz.prog 184 = some 65 := by kernel_rfl
@[go_sem] theorem apb184 : Nat.ble (((Tryz.prog.info? 184).map (·.bytes)).getD 10000000) 1000000 = true := by kernel_rfl
@[go_sem] theorem pz184 : plainZero Tryz.prog 184 = some [.int .u64 0, .pointer none, .pointer none, .pointer none, .pointer none, .pointer none, .pointer none, .pointer none, .pointer none, .pointer none, .pointer none, .pointer none, .pointer none, .pointer none, .pointer none, .pointer none, .pointer none, .pointer none, .pointer none, .pointer none, .pointer none, .pointer none, .pointer none, .pointer none, .pointer none, .pointer none, .pointer none, .pointer none, .pointer none, .pointer none, .pointer none, .pointer none, .pointer none, .pointer none, .pointer none, .pointer none, .pointer none, .pointer none, .pointer none, .pointer none, .pointer none, .pointer none, .pointer none, .pointer none, .pointer none, .pointer none, .pointer none, .pointer none, .pointer none, .pointer none, .pointer none, .pointer none, .pointer none, .pointer none, .pointer none, .pointer none, .pointer none, .pointer none, .pointer none, .pointer none, .pointer none, .pointer none, .pointer none, .pointer none, .pointer none] := by kernel_rfl
@[go_sem] theorem bld184 (parts : List (Nat × Value)) : buildB Tryz.prog 184 parts = (fillB (fun i => ([(0, 1), (1, 64)] : List (Nat × Nat))[i]?) [.int .u64 0, .pointer none, .pointer none, .pointer none, .pointer none, .pointer none, .pointer none, .pointer none, .pointer none, .pointer none, .pointer none, .pointer none, .pointer none, .pointer none, .pointer none, .pointer none, .pointer none, .pointer none, .pointer none, .pointer none, .pointer none, .pointer none, .pointer none, .pointer none, .pointer none, .pointer none, .pointer none, .pointer none, .pointer none, .pointer none, .pointer none, .pointer none, .pointer none, .pointer none, .pointer none, .pointer none, .pointer none, .pointer none, .pointer none, .pointer none, .pointer none, .pointer none, .pointer none, .pointer none, .pointer none, .pointer none, .pointer none, .pointer none, .pointer none, .pointer none, .pointer none, .pointer none, .pointer none, .pointer none, .pointer none, .pointer none, .pointer none, .pointer none, .pointer none, .pointer none, .pointer none, .pointer none, .pointer none, .pointer none, .pointer none] parts).map fun l => .agg ⟨l⟩ := by kernel_rfl
@[go_sem] theorem fa184_0 (B o : Nat) : fieldAddrB Tryz.prog 184 0 (.pointer (some ⟨B, o, none⟩)) = some (.pointer (some ⟨B, o, none⟩)) := by kernel_rfl
@[go_sem] theorem fd184_0 (l : List Value) : fieldB Tryz.prog 184 0 (.agg ⟨l⟩) = l[0]? := by kernel_rfl
@[go_sem] theorem fa184_1 (B o : Nat) : fieldAddrB Tryz.prog 184 1 (.pointer (some ⟨B, o, none⟩)) = some (.pointer (some ⟨B, o + 1, none⟩)) := by kernel_rfl
@[go_sem] theorem fd184_1 (l : List Value) : fieldB Tryz.prog 184 1 (.agg ⟨l⟩) = some (.agg ⟨(l.drop 1).take 64⟩) := by kernel_rfl
@[go_sem] theorem agg185 : isAggB Tryz.prog 185 = some true := by kernel_rfl
@[go_sem] theorem size185 : sizeB Tryz.prog 185 = some 66 := by kernel_rfl
@[go_sem] theorem apb185 : Nat.ble (((Tryz.prog.info? 185).map (·.bytes)).getD 10000000) 1000000 = true := by kernel_rfl
@[go_sem] theorem pz185 : plainZero Tryz.prog 185 = some [.int .u64 0, .pointer none, .pointer none, .pointer none, .pointer none, .pointer none, .pointer none, .pointer none, .pointer none, .pointer none, .pointer none, .pointer none, .pointer none, .pointer none, .pointer none, .pointer none, .pointer none, .pointer none, .pointer none, .pointer none, .pointer none, .pointer none, .pointer none, .pointer none, .pointer none, .pointer none, .pointer none, .pointer none, .pointer none, .pointer none, .pointer none, .pointer none, .pointer none, .pointer none, .pointer none, .pointer none, .pointer none, .pointer none, .pointer none, .pointer none, .pointer none, .pointer none, .pointer none, .pointer none, .pointer none, .pointer none, .pointer none, .pointer none, .pointer none, .pointer none, .pointer none, .pointer none, .pointer none, .pointer none, .pointer none, .pointer none, .pointer none, .pointer none, .pointer none, .pointer none, .pointer none, .pointer none, .pointer none, .pointer none, .pointer none, .int .i64 0] := by kernel_rfl
@[go_sem] theorem bld185 (parts : List (Nat × Value)) : buildB Tryz.prog 185 parts = (fillB (fun i => ([(0, 65), (65, 1)] : List (Nat × Nat))[i]?) [.int .u64 0, .pointer none, .pointer none, .pointer none, .pointer none, .pointer none, .pointer none, .pointer none, .pointer none, .pointer none, .pointer none, .pointer none, .pointer none, .pointer none, .pointer none, .pointer none, .pointer none, .pointer none, .pointer none, .pointer none, .pointer none, .pointer none, .pointer none, .pointer none, .pointer none, .pointer none, .pointer none, .pointer none, .pointer none, .pointer none, .pointer none, .pointer none, .pointer none, .pointer none, .pointer none, .pointer none, .pointer none, .pointer none, .pointer none, .pointer none, .pointer none, .pointer none, .pointer none, .pointer none, .pointer none, .pointer none, .pointer none, .pointer none, .pointer none, .pointer none, .pointer none, .pointer none, .pointer none, .pointer none, .pointer none, .pointer none, .pointer none, .pointer none, .pointer none, .pointer none, .pointer none, .pointer none, .pointer none, .pointer none, .pointer none, .int .i64 0] parts).map fun l => .agg ⟨l⟩ := by kernel_rfl
@[go_sem] theorem fa185_0 (B o : Nat) : fieldAddrB Tryz.prog 185 0 (.pointer (some ⟨B, o, none⟩)) = some (.pointer (some ⟨B, o, none⟩)) := by kernel_rfl
@[go_sem] theorem fd185_0 (l : List Value) : fieldB Tryz.prog 185 0 (.agg ⟨l⟩) = some (.agg ⟨(l.drop 0).take 65⟩) := by kernel_rfl
@[go_sem] theorem fa185_1 (B o : Nat) : fieldAddrB Tryz.prog 185 1 (.pointer (some ⟨B, o, none⟩)) = some (.pointer (some ⟨B, o + 65, none⟩)) := by kernel_rfl
@[go_sem] theorem fd185_1 (l : List Value) : fieldB Tryz.prog 185 1 (.agg ⟨l⟩) = l[65]? := by kernel_rfl
@[go_sem] theorem agg186 : isAggB Tryz.prog 186 = some true := by kernel_rfl
@[go_sem] theorem size186 : sizeB Tryz.prog 186 = some 66 := by kernel_rfl
@[go_sem] theorem apb186 : Nat.ble (((Tryz.prog.info? 186).map (·.bytes)).getD 10000000) 1000000 = true := by kernel_rfl
@[go_sem] theorem pz186 : plainZero Tryz.prog 186 = some [.int .u64 0, .pointer none, .pointer none, .pointer none, .pointer none, .pointer none, .pointer none, .pointer none, .pointer none, .pointer none, .pointer none, .pointer none, .pointer none, .pointer none, .pointer none, .pointer none, .pointer none, .pointer none, .pointer none, .pointer none, .pointer none, .pointer none, .pointer none, .pointer none, .pointer none, .pointer none, .pointer none, .pointer none, .pointer none, .pointer none, .pointer none, .pointer none, .pointer none, .pointer none, .pointer none, .pointer none, .pointer none, .pointer none, .pointer none, .pointer none, .pointer none, .pointer none, .pointer none, .pointer none, .pointer none, .pointer none, .pointer none, .pointer none, .pointer none, .pointer none, .pointer none, .pointer none, .pointer none, .pointer none, .pointer none, .pointer none, .pointer none, .pointer none, .pointer none, .pointer none, .pointer none, .pointer none, .pointer none, .pointer none, .pointer none, .int .i64 0] := by kernel_rfl
@[go_sem] theorem bld186 (parts : List (Nat × Value)) : buildB Tryz.prog 186 parts = (fillB (fun i => ([(0, 65), (65, 1)] : List (Nat × Nat))[i]?) [.int .u64 0, .pointer none, .pointer none, .pointer none, .pointer none, .pointer none, .pointer none, .pointer none, .pointer none, .pointer none, .pointer none, .pointer none, .pointer none, .pointer none, .pointer none, .pointer none, .pointer none, .pointer none, .pointer none, .pointer none, .pointer none, .pointer none, .pointer none, .pointer none, .pointer none, .pointer none, .pointer none, .pointer none, .pointer none, .pointer none, .pointer none, .pointer none, .pointer none, .pointer none, .pointer none, .pointer none, .pointer none, .pointer none, .pointer none, .pointer none, .pointer none, .pointer none, .pointer none, .pointer none, .pointer none, .pointer none, .pointer none, .pointer none, .pointer none, .pointer none, .pointer none, .pointer none, .pointer none, .pointer none, .pointer none, .pointer none, .pointer none, .pointer none, .pointer none, .pointer none, .pointer none, .pointer none, .pointer none, .pointer none, .pointer none, .int .i64 0] parts).map fun l => .agg ⟨l⟩ := by kernel_rfl
@[go_sem] theorem fa186_0 (B o : Nat) : fieldAddrB Tryz.prog 186 0 (.pointer (some ⟨B, o, none⟩)) = some (.pointer (some ⟨B, o, none⟩)) := by kernel_rfl
@[go_sem] theorem fd186_0 (l : List Value) : fieldB Tryz.prog 186 0 (.agg ⟨l⟩) = some (.agg ⟨(l.drop 0).take 65⟩) := by kernel_rfl
@[go_sem] theorem fa186_1 (B o : Nat) : fieldAddrB Tryz.prog 186 1 (.pointer (some ⟨B, o, none⟩)) = some (.pointer (some ⟨B, o + 65, none⟩)) := by kernel_rfl
@[go_sem] theorem fd186_1 (l : List Value) : fieldB Tryz.prog 186 1 (.agg ⟨l⟩) = l[65]? := by kernel_rfl
@[go_sem] theorem agg191 : isAggB Tryz.prog 191 = some false := by kernel_rfl
@[go_sem] theorem size191 : sizeB Tryz.prog 191 = some 1 := by kernel_rfl
@[go_sem] theorem apb191 : Nat.ble (((Tryz.prog.info? 191).map (·.bytes)).getD 10000000) 1000000 = true := by kernel_rfl
@[go_sem] theorem pz191 : plainZero Tryz.prog 191 = some [.nilIface] := by kernel_rfl
@[go_sem] theorem agg192 : isAggB Tryz.prog 192 = some false := by kernel_rfl
@[go_sem] theorem size192 : sizeB Tryz.prog 192 = some 1 := by kernel_rfl
@[go_sem] theorem apb192 : Nat.ble (((Tryz.prog.info? 192).map (·.bytes)).getD 10000000) 1000000 = true := by kernel_rfl
@[go_sem] theorem pz192 : plainZero Tryz.prog 192 = some [.nilIface] := by kernel_rfl
@[go_sem] theorem agg194 : isAggB Tryz.prog 194 = some false := by kernel_rfl
@[go_sem] theorem size194 : sizeB Tryz.prog 194 = some 1 := by kernel_rfl
@[go_sem] theorem und194 : Tryz.prog.underlying 194 = some (.pointer 245) := by kernel_rfl
@[go_sem] theorem apb194 : Nat.ble (((Tryz.prog.info? 194).map (·.bytes)).getD 10000000) 1000000 = true := by kernel_rfl
@[go_sem] theorem pz194 : plainZero Tryz.prog 194 = some [.pointer none] := by kernel_rfl
@[go_sem] theorem agg195 : isAggB Tryz.prog 195 = some true := by kernel_rfl
@[go_sem] theorem size195 : sizeB Tryz.prog 195 = some 6 := by kernel_rfl
@[go_sem] theorem apb195 : Nat.ble (((Tryz.prog.info? 195).map (·.bytes)).getD 10000000) 1000000 = true := by kernel_rfl
@[go_sem] theorem pz195 : plainZero Tryz.prog 195 = some [.nilIface, .int .i64 0, .int .i64 0, .int .i64 0, .pointer none, .pointer none] := by kernel_rfl
@[go_sem] theorem bld195 (parts : List (Nat × Value)) : buildB Tryz.prog 195 parts = (fillB (fun i => ([(0, 1), (1, 3), (4, 1), (5, 1)] : List (Nat × Nat))[i]?) [.nilIface, .int .i64 0, .int .i64 0, .int .i64 0, .pointer none, .pointer none] parts).map fun l => .agg ⟨l⟩ := by kernel_rfl
@[go_sem] theorem fa195_0 (B o : Nat) : fieldAddrB Tryz.prog 195 0 (.pointer (some ⟨B, o, none⟩)) = some (.pointer (some ⟨B, o, none⟩)) := by kernel_rfl
@[go_sem] theorem fd195_0 (l : List Value) : fieldB Tryz.prog 195 0 (.agg ⟨l⟩) = l[0]? := by kernel_rfl
@[go_sem] theorem fa195_1 (B o : Nat) : fieldAddrB Tryz.prog 195 1 (.pointer (some ⟨B, o, none⟩)) = some (.pointer (some ⟨B, o + 1, none⟩)) := by kernel_rfl
@[go_sem] theorem fd195_1 (l : List Value) : fieldB Tryz.prog 195 1 (.agg ⟨l⟩) = some (.agg ⟨(l.drop 1).take 3⟩) := by kernel_rfl
@[go_sem] theorem fa195_2 (B o : Nat) : fieldAddrB Tryz.prog 195 2 (.pointer (some ⟨B, o, none⟩)) = some (.pointer (some ⟨B, o + 4, none⟩)) := by kernel_rfl
@[go_sem] theorem fd195_2 (l : List Value) : fieldB Tryz.prog 195 2 (.agg ⟨l⟩) = l[4]? := by kernel_rfl
@[go_sem] theorem fa195_3 (B o : Nat) : fieldAddrB Tryz.prog 195 3 (.pointer (some ⟨B, o, none⟩)) = some (.pointer (some ⟨B, o + 5, none⟩)) := by kernel_rfl
@[go_sem] theorem fd195_3 (l : List Value) : fieldB Tryz.prog 195 3 (.agg ⟨l⟩) = l[5]? := by kernel_rfl
@[go_sem] theorem agg196 : isAggB Tryz.prog 196 = some true := by kernel_rfl
@[go_sem] theorem size196 : sizeB Tryz.prog 196 = some 6 := by kernel_rfl
@[go_sem] theorem apb196 : Nat.ble (((Tryz.prog.info? 196).map (·.bytes)).getD 10000000) 1000000 = true := by kernel_rfl
@[go_sem] theorem pz196 : plainZero Tryz.prog 196 = some [.nilIface, .int .i64 0, .int .i64 0, .int .i64 0, .pointer none, .pointer none] := by kernel_rfl
@[go_sem] theorem bld196 (parts : List (Nat × Value)) : buildB Tryz.prog 196 parts = (fillB (fun i => ([(0, 1), (1, 3), (4, 1), (5, 1)] : List (Nat × Nat))[i]?) [.nilIface, .int .i64 0, .int .i64 0, .int .i64 0, .pointer none, .pointer none] parts).map fun l => .agg ⟨l⟩ := by kernel_rfl
@[go_sem] theorem fa196_0 (B o : Nat) : fieldAddrB Tryz.prog 196 0 (.pointer (some ⟨B, o, none⟩)) = some (.pointer (some ⟨B, o, none⟩)) := by kernel_rfl
@[go_sem] theorem fd196_0 (l : List Value) : fieldB Tryz.prog 196 0 (.agg ⟨l⟩) = l[0]? := by kernel_rfl
@[go_sem] theorem fa196_1 (B o : Nat) : fieldAddrB Tryz.prog 196 1 (.pointer (some ⟨B, o, none⟩)) = some (.pointer (some ⟨B, o + 1, none⟩)) := by kernel_rfl
@[go_sem] theorem fd196_1 (l : List Value) : fieldB Tryz.prog 196 1 (.agg ⟨l⟩) = some (.agg ⟨(l.drop 1).take 3⟩) := by kernel_rfl
@[go_sem] theorem fa196_2 (B o : Nat) : fieldAddrB Tryz.prog 196 2 (.pointer (some ⟨B, o, none⟩)) = some (.pointer (some ⟨B, o + 4, none⟩)) := by kernel_rfl
@[go_sem] theorem fd196_2 (l : List Value) : fieldB Tryz.prog 196 2 (.agg ⟨l⟩) = l[4]? := by kernel_rfl
@[go_sem] theorem fa196_3 (B o : Nat) : fieldAddrB Tryz.prog 196 3 (.pointer (some ⟨B, o, none⟩)) = some (.pointer (some ⟨B, o + 5, none⟩)) := by kernel_rfl
@[go_sem] theorem fd196_3 (l : List Value) : fieldB Tryz.prog 196 3 (.agg ⟨l⟩) = l[5]? := by kernel_rfl
@[go_sem] theorem agg213 : isAggB Tryz.prog 213 = some true := by kernel_rfl
@[go_sem] theorem size213 : sizeB Tryz.prog 213 = some 6 := by kernel_rfl
@[go_sem] theorem apb213 : Nat.ble (((Tryz.prog.info? 213).map (·.bytes)).getD 10000000) 1000000 = true := by kernel_rfl
@[go_sem] theorem pz213 : plainZero Tryz.prog 213 = some [.pointer none, .slice none 0 0, .slice none 0 0, .int .i64 0, .bool false, .bool false] := by kernel_rfl
@[go_sem] theorem bld213 (parts : List (Nat × Value)) : buildB Tryz.prog 213 parts = (fillB (fun i => ([(0, 1), (1, 1), (2, 1), (3, 1), (4, 1), (5, 1)] : List (Nat × Nat))[i]?) [.pointer none, .slice none 0 0, .slice none 0 0, .int .i64 0, .bool false, .bool false] parts).map fun l => .agg ⟨l⟩ := by kernel_rfl
@[go_sem] theorem fa213_0 (B o : Nat) : fieldAddrB Tryz.prog 213 0 (.pointer (some ⟨B, o, none⟩)) = some (.pointer (some ⟨B, o, none⟩)) := by kernel_rfl
@[go_sem] theorem fd213_0 (l : List Value) : fieldB Tryz.prog 213 0 (.agg ⟨l⟩) = l[0]? := by kernel_rfl
@[go_sem] theorem fa213_1 (B o : Nat) : fieldAddrB Tryz.prog 213 1 (.pointer (some ⟨B, o, none⟩)) = some (.pointer (some ⟨B, o + 1, none⟩)) := by kernel_rfl
@[go_sem] theorem fd213_1 (l : List Value) : fieldB Tryz.prog 213 1 (.agg ⟨l⟩) = l[1]? := by kernel_rfl
@[go_sem] theorem fa213_2 (B o : Nat) : fieldAddrB Tryz.prog 213 2 (.pointer (some ⟨B, o, none⟩)) = some (.pointer (some ⟨B, o + 2, none⟩)) := by kernel_rfl
@[go_sem] theorem fd213_2 (l : List Value) : fieldB Tryz.prog 213 2 (.agg ⟨l⟩) = l[2]? := by kernel_rfl
@[go_sem] theorem fa213_3 (B o : Nat) : fieldAddrB Tryz.prog 213 3 (.pointer (some ⟨B, o, none⟩)) = some (.pointer (some ⟨B, o + 3, none⟩)) := by kernel_rfl
@[go_sem] theorem fd213_3 (l : List Value) : fieldB Tryz.prog 213 3 (.agg ⟨l⟩) = l[3]? := by kernel_rfl
@[go_sem] theorem fa213_4 (B o : Nat) : fieldAddrB Tryz.prog 213 4 (.pointer (some ⟨B, o, none⟩)) = some (.pointer (some ⟨B, o + 4, none⟩)) := by kernel_rfl
@[go_sem] theorem fd213_4 (l : List Value) : fieldB Tryz.prog 213 4 (.agg ⟨l⟩) = l[4]? := by kernel_rfl
@[go_sem] theorem fa213_5 (B o : Nat) : fieldAddrB Tryz.prog 213 5 (.pointer (some ⟨B, o, none⟩)) = some (.pointer (some ⟨B, o + 5, none⟩)) := by kernel_rfl
@[go_sem] theorem fd213_5 (l : List Value) : fieldB Tryz.prog 213 5 (.agg ⟨l⟩) = l[5]? := by kernel_rfl
@[go_sem] theorem agg214 : isAggB Tryz.prog 214 = some true := by kernel_rfl
@[go_sem] theorem size214 : sizeB Tryz.prog 214 = some 6 := by kernel_rfl
@[go_sem] theorem apb214 : Nat.ble (((Tryz.prog.info? 214).map (·.bytes)).getD 10000000) 1000000 = true := by kernel_rfl
@[go_sem] theorem pz214 : plainZero Tryz.prog 214 = some [.pointer none, .slice none 0 0, .slice none 0 0, .int .i64 0, .bool false, .bool false] := by kernel_rfl
@[go_sem] theorem bld214 (parts : List (Nat × Value)) : buildB Tryz.prog 214 parts = (fillB (fun i => ([(0, 1), (1, 1), (2, 1), (3, 1), (4, 1), (5, 1)] : List (Nat × Nat))[i]?) [.pointer none, .slice none 0 0, .slice none 0 0, .int .i64 0, .bool false, .bool false] parts).map fun l => .agg ⟨l⟩ := by kernel_rfl
@[go_sem] theorem fa214_0 (B o : Nat) : fieldAddrB Tryz.prog 214 0 (.pointer (some ⟨B, o, none⟩)) = some (.pointer (some ⟨B, o, none⟩)) := by kernel_rfl
@[go_sem] theorem fd214_0 (l : List Value) : fieldB Tryz.prog 214 0 (.agg ⟨l⟩) = l[0]? := by kernel_rfl
@[go_sem] theorem fa214_1 (B o : Nat) : fieldAddrB Tryz.prog 214 1 (.pointer (some ⟨B, o, none⟩)) = some (.pointer (some ⟨B, o + 1, none⟩)) := by kernel_rfl
@[go_sem] theorem fd214_1 (l : List Value) : fieldB Tryz.prog 214 1 (.agg ⟨l⟩) = l[1]? := by kernel_rfl
@[go_sem] theorem fa214_2 (B o : Nat) : fieldAddrB Tryz.prog 214 2 (.pointer (some ⟨B, o, none⟩)) = some (.pointer (some ⟨B, o + 2, none⟩)) := by kernel_rfl
@[go_sem] theorem fd214_2 (l : List Value) : fieldB Tryz.prog 214 2 (.agg ⟨l⟩) = l[2]? := by kernel_rfl
@[go_sem] theorem fa214_3 (B o : Nat) : fieldAddrB Tryz.prog 214 3 (.pointer (some ⟨B, o, none⟩)) = some (.pointer (some ⟨B, o + 3, none⟩)) := by kernel_rfl
@[go_sem] theorem fd214_3 (l : List Value) : fieldB Tryz.prog 214 3 (.agg ⟨l⟩) = l[3]? := by kernel_rfl
@[go_sem] theorem fa214_4 (B o : Nat) : fieldAddrB Tryz.prog 214 4 (.pointer (some ⟨B, o, none⟩)) = some (.pointer (some ⟨B, o + 4, none⟩)) := by kernel_rfl
@[go_sem] theorem fd214_4 (l : List Value) : fieldB Tryz.prog 214 4 (.agg ⟨l⟩) = l[4]? := by kernel_rfl
@[go_sem] theorem fa214_5 (B o : Nat) : fieldAddrB Tryz.prog 214 5 (.pointer (some ⟨B, o, none⟩)) = some (.pointer (some ⟨B, o + 5, none⟩)) := by kernel_rfl
@[go_sem] theorem fd214_5 (l : List Value) : fieldB Tryz.prog 214 5 (.agg ⟨l⟩) = l[5]? := by kernel_rfl
@[go_sem] theorem agg215 : isAggB Tryz.prog 215 = some true := by kernel_rfl
@[go_sem] theorem size215 : sizeB Tryz.prog 215 = some 2 := by kernel_rfl
@[go_sem] theorem apb215 : Nat.ble (((Tryz.prog.info? 215).map (·.bytes)).getD 10000000) 1000000 = true := by kernel_rfl
@[go_sem] theorem pz215 : plainZero Tryz.prog 215 = some [.int .i64 0, .int .i64 0] := by kernel_rfl
@[go_sem] theorem flat215 : flatI Tryz.prog 215 = some 2 := by kernel_rfl
@[go_sem] theorem bld215 (parts : List (Nat × Value)) : buildB Tryz.prog 215 parts = (fillB (fun i => ([(0, 1), (1, 1)] : List (Nat × Nat))[i]?) [.int .i64 0, .int .i64 0] parts).map fun l => .agg ⟨l⟩ := by kernel_rfl
@[go_sem] theorem fa215_0 (B o : Nat) : fieldAddrB Tryz.prog 215 0 (.pointer (some ⟨B, o, none⟩)) = some (.pointer (some ⟨B, o, none⟩)) := by kernel_rfl
@[go_sem] theorem fd215_0 (l : List Value) : fieldB Tryz.prog 215 0 (.agg ⟨l⟩) = l[0]? := by kernel_rfl
@[go_sem] theorem fa215_1 (B o : Nat) : fieldAddrB Tryz.prog 215 1 (.pointer (some ⟨B, o, none⟩)) = some (.pointer (some ⟨B, o + 1, none⟩)) := by kernel_rfl
@[go_sem] theorem fd215_1 (l : List Value) : fieldB Tryz.prog 215 1 (.agg ⟨l⟩) = l[1]? := by kernel_rfl
@[go_sem] theorem agg216 : isAggB Tryz.prog 216 = some true := by kernel_rfl
@[go_sem] theorem size216 : sizeB Tryz.prog 216 = some 2 := by kernel_rfl
@[go_sem] theorem apb216 : Nat.ble (((Tryz.prog.info? 216).map (·.bytes)).getD 10000000) 1000000 = true := by kernel_rfl
@[go_sem] theorem pz216 : plainZero Tryz.prog 216 = some [.int .i64 0, .int .i64 0] := by kernel_rfl
@[go_sem] theorem flat216 : flatI Tryz.prog 216 = some 2 := by kernel_rfl
@[go_sem] theorem bld216 (parts : List (Nat × Value)) : buildB Tryz.prog 216 parts = (fillB (fun i => ([(0, 1), (1, 1)] : List (Nat × Nat))[i]?) [.int .i64 0, .int .i64 0] parts).map fun l => .agg ⟨l⟩ := by kernel_rfl
@[go_sem] theorem fa216_0 (B o : Nat) : fieldAddrB Tryz.prog 216 0 (.pointer (some ⟨B, o, none⟩)) = some (.pointer (some ⟨B, o, none⟩)) := by kernel_rfl
@[go_sem] theorem fd216_0 (l : List Value) : fieldB Tryz.prog 216 0 (.agg ⟨l⟩) = l[0]? := by kernel_rfl
@[go_sem] theorem fa216_1 (B o : Nat) : fieldAddrB Tryz.prog 216 1 (.pointer (some ⟨B, o, none⟩)) = some (.pointer (some ⟨B, o + 1, none⟩)) := by kernel_rfl
@[go_sem] theorem fd216_1 (l : List Value) : fieldB Tryz.prog 216 1 (.agg ⟨l⟩) = l[1]? := by kernel_rfl
@[go_sem] theorem agg220 : isAggB Tryz.prog 220 = some false := by kernel_rfl
@[go_sem] theorem size220 : sizeB Tryz.prog 220 = some 1 := by kernel_rfl
@[go_sem] theorem und220 : Tryz.prog.underlying 220 = some (.pointer 306) := by kernel_rfl
@[go_sem] theorem apb220 : Nat.ble (((Tryz.prog.info? 220).map (·.bytes)).getD 10000000) 1000000 = true := by kernel_rfl
@[go_sem] theorem pz220 : plainZero Tryz.prog 220 = some [.pointer none] := by kernel_rfl
@[go_sem] theorem agg225 : isAggB Tryz.prog 225 = some false := by kernel_rfl
@[go_sem] theorem size225 : sizeB Tryz.prog 225 = some 1 := by kernel_rfl
@[go_sem] theorem und225 : Tryz.prog.underlying 225 = some (.slice 27) := by kernel_rfl
@[go_sem] theorem apb225 : Nat.ble (((Tryz.prog.info? 225).map (·.bytes)).getD 10000000) 1000000 = true := by kernel_rfl
@[go_sem] theorem pz225 : plainZero Tryz.prog 225 = some [.slice none 0 0] := by kernel_rfl
@[go_sem] theorem agg233 : isAggB Tryz.prog 233 = some false := by kernel_rfl
@[go_sem] theorem size233 : sizeB Tryz.prog 233 = some 1 := by kernel_rfl
@[go_sem] theorem und233 : Tryz.prog.underlying 233 = some (.int .u64) := by kernel_rfl
@[go_sem] theorem apb233 : Nat.ble (((Tryz.prog.info? 233).map (·.bytes)).getD 10000000) 1000000 = true := by kernel_rfl
@[go_sem] theorem pz233 : plainZero Tryz.prog 233 = some [.int .u64 0] := by kernel_rfl
@[go_sem] theorem agg236 : isAggB Tryz.prog 236 = some false := by kernel_rfl
@[go_sem] theorem size236 : sizeB Tryz.prog 236 = some 1 := by kernel_rfl
@[go_sem] theorem und236 : Tryz.prog.underlying 236 = some (.pointer 290) := by kernel_rfl
@[go_sem] theorem apb236 : Nat.ble (((Tryz.prog.info? 236).map (·.bytes)).getD 10000000) 1000000 = true := by kernel_rfl
@[go_sem] theorem pz236 : plainZero Tryz.prog 236 = some [.pointer none] := by kernel_rfl
@[go_sem] theorem agg238 : isAggB Tryz.prog 238 = some false := by kernel_rfl
@[go_sem] theorem size238 : sizeB Tryz.prog 238 = some 1 := by kernel_rfl
@[go_sem] theorem und238 : Tryz.prog.underlying 238 = some (.pointer 292) := by kernel_rfl
@[go_sem] theorem apb238 : Nat.ble (((Tryz.prog.info? 238).map (·.bytes)).getD 10000000) 1000000 = true := by kernel_rfl
@[go_sem] theorem pz238 : plainZero Tryz.prog 238 = some [.pointer none] := by kernel_rfl
@[go_sem] theorem agg240 : isAggB Tryz.prog 240 = some false := by kernel_rfl
@[go_sem] theorem size240 : sizeB Tryz.prog 240 = some 1 := by kernel_rfl
@[go_sem] theorem und240 : Tryz.prog.underlying 240 = some (.pointer 297) := by kernel_rfl
@[go_sem] theorem apb240 : Nat.ble (((Tryz.prog.info? 240).map (·.bytes)).getD 10000000) 1000000 = true := by kernel_rfl
@[go_sem] theorem pz240 : plainZero Tryz.prog 240 = some [.pointer none] := by kernel_rfl
@[go_sem] theorem agg242 : isAggB Tryz.prog 242 = some true := by kernel_rfl
@[go_sem] theorem size242 : sizeB Tryz.prog 242 = some 1 := by kernel_rfl
@[go_sem] theorem apb242 : Nat.ble (((Tryz.prog.info? 242).map (·.bytes)).getD 10000000) 1000000 = true := by kernel_rfl
@[go_sem] theorem pz242 : plainZero Tryz.prog 242 = some [.pointer none] := by kernel_rfl
@[go_sem] theorem bld242 (parts : List (Nat × Value)) : buildB Tryz.prog 242 parts = (fillB (fun i => ([(0, 1)] : List (Nat × Nat))[i]?) [.pointer none] parts).map fun l => .agg ⟨l⟩ := by kernel_rfl
@[go_sem] theorem fa242_0 (B o : Nat) : fieldAddrB Tryz.prog 242 0 (.pointer (some ⟨B, o, none⟩)) = some (.pointer (some ⟨B, o, none⟩)) := by kernel_rfl
@[go_sem] theorem fd242_0 (l : List Value) : fieldB Tryz.prog 242 0 (.agg ⟨l⟩) = l[0]? := by kernel_rfl
@[go_sem] theorem agg243 : isAggB Tryz.prog 243 = some true := by kernel_rfl
@[go_sem] theorem size243 : sizeB Tryz.prog 243 = some 1 := by kernel_rfl
@[go_sem] theorem apb243 : Nat.ble (((Tryz.prog.info? 243).map (·.bytes)).getD 10000000) 1000000 = true := by kernel_rfl
@[go_sem] theorem pz243 : plainZero Tryz.prog 243 = some [.pointer none] := by kernel_rfl
@[go_sem] theorem bld243 (parts : List (Nat × Value)) : buildB Tryz.prog 243 parts = (fillB (fun i => ([(0, 1)] : List (Nat × Nat))[i]?) [.pointer none] parts).map fun l => .agg ⟨l⟩ := by kernel_rfl
@[go_sem] theorem fa243_0 (B o : Nat) : fieldAddrB Tryz.prog 243 0 (.pointer (some ⟨B, o, none⟩)) = some (.pointer (some ⟨B, o, none⟩)) := by kernel_rfl
@[go_sem] theorem fd243_0 (l : List Value) : fieldB Tryz.prog 243 0 (.agg ⟨l⟩) = l[0]? := by kernel_rfl
@[go_sem] theorem agg244 : isAggB Tryz.prog 244 = some true := by kernel_rfl
@[go_sem] theorem size244 : sizeB Tryz.prog 244 = some 4 := by kernel_rfl
@[go_sem] theorem apb244 : Nat.ble (((Tryz.prog.info? 244).map (·.bytes)).getD 10000000) 1000000 = true := by kernel_rfl
@[go_sem] theorem pz244 : plainZero Tryz.prog 244 = some [.int .i64 0, .int .i64 0, .slice none 0 0, .slice none 0 0] := by kernel_rfl
@[go_sem] theorem bld244 (parts : List (Nat × Value)) : buildB Tryz.prog 244 parts = (fillB (fun i => ([(0, 1), (1, 1), (2, 1), (3, 1)] : List (Nat × Nat))[i]?) [.int .i64 0, .int .i64 0, .slice none 0 0, .slice none 0 0] parts).map fun l => .agg ⟨l⟩ := by kernel_rfl
@[go_sem] theorem fa244_0 (B o : Nat) : fieldAddrB Tryz.prog 244 0 (.pointer (some ⟨B, o, none⟩)) = some (.pointer (some ⟨B, o, none⟩)) := by kernel_rfl
@[go_sem] theorem fd244_0 (l : List Value) : fieldB Tryz.prog 244 0 (.agg ⟨l⟩) = l[0]? := by kernel_rfl
@[go_sem] theorem fa244_1 (B o : Nat) : fieldAddrB Tryz.prog 244 1 (.pointer (some ⟨B, o, none⟩)) = some (.pointer (some ⟨B, o + 1, none⟩)) := by kernel_rfl
@[go_sem] theorem fd244_1 (l : List Value) : fieldB Tryz.prog 244 1 (.agg ⟨l⟩) = l[1]? := by kernel_rfl
@[go_sem] theorem fa244_2 (B o : Nat) : fieldAddrB Tryz.prog 244 2 (.pointer (some ⟨B, o, none⟩)) = some (.pointer (some ⟨B, o + 2, none⟩)) := by kernel_rfl
@[go_sem] theorem fd244_2 (l : List Value) : fieldB Tryz.prog 244 2 (.agg ⟨l⟩) = l[2]? := by kernel_rfl
@[go_sem] theorem fa244_3 (B o : Nat) : fieldAddrB Tryz.prog 244 3 (.pointer (some ⟨B, o, none⟩)) = some (.pointer (some ⟨B, o + 3, none⟩)) := by kernel_rfl
@[go_sem] theorem fd244_3 (l : List Value) : fieldB Tryz.prog 244 3 (.agg ⟨l⟩) = l[3]? := by kernel_rfl
@[go_sem] theorem agg245 : isAggB Tryz.prog 245 = some true := by kernel_rfl
@[go_sem] theorem size245 : sizeB Tryz.prog 245 = some 4 := by kernel_rfl
@[go_sem] theorem apb245 : Nat.ble (((Tryz.prog.info? 245).map (·.bytes)).getD 10000000) 1000000 = true := by kernel_rfl
@[go_sem] theorem pz245 : plainZero Tryz.prog 245 = some [.int .i64 0, .int .i64 0, .slice none 0 0, .slice none 0 0] := by kernel_rfl
@[go_sem] theorem bld245 (parts : List (Nat × Value)) : buildB Tryz.prog 245 parts = (fillB (fun i => ([(0, 1), (1, 1), (2, 1), (3, 1)] : List (Nat × Nat))[i]?) [.int .i64 0, .int .i64 0, .slice none 0 0, .slice none 0 0] parts).map fun l => .agg ⟨l⟩ := by kernel_rfl
@[go_sem] theorem fa245_0 (B o : Nat) : fieldAddrB Tryz.prog 245 0 (.pointer (some ⟨B, o, none⟩)) = some (.pointer (some ⟨B, o, none⟩)) := by kernel_rfl
@[go_sem] theorem fd245_0 (l : List Value) : fieldB Tryz.prog 245 0 (.agg ⟨l⟩) = l[0]? := by kernel_rfl
@[go_sem] theorem fa245_1 (B o : Nat) : fieldAddrB Tryz.prog 245 1 (.pointer (some ⟨B, o, none⟩)) = some (.pointer (some ⟨B, o + 1, none⟩)) := by kernel_rfl
@[go_sem] theorem fd245_1 (l : List Value) : fieldB Tryz.prog 245 1 (.agg ⟨l⟩) = l[1]? := by kernel_rfl
@[go_sem] theorem fa245_2 (B o : Nat) : fieldAddrB Tryz.prog 245 2 (.pointer (some ⟨B, o, none⟩)) = some (.pointer (some ⟨B, o + 2, none⟩)) := by kernel_rfl
@[go_sem] theorem fd245_2 (l : List Value) : fieldB Tryz.prog 245 2 (.agg ⟨l⟩) = l[2]? := by kernel_rfl
@[go_sem] theorem fa245_3 (B o : Nat) : fieldAddrB Tryz.prog 245 3 (.pointer (some ⟨B, o, none⟩)) = some (.pointer (some ⟨B, o + 3, none⟩)) := by kernel_rfl
@[go_sem] theorem fd245_3 (l : List Value) : fieldB Tryz.prog 245 3 (.agg ⟨l⟩) = l[3]? := by kernel_rfl
@[go_sem] theorem agg264 : isAggB Tryz.prog 264 = some false := by kernel_rfl
@[go_sem] theorem size264 : sizeB Tryz.prog 264 = some 1 := by kernel_rfl
@[go_sem] theorem und264 : Tryz.prog.underlying 264 = some (.pointer 311) := by kernel_rfl
@[go_sem] theorem apb264 : Nat.ble (((Tryz.prog.info? 264).map (·.bytes)).getD 10000000) 1000000 = true := by kernel_rfl
@[go_sem] theorem pz264 : plainZero Tryz.prog 264 = some [.pointer none] := by kernel_rfl
@[go_sem] theorem agg271 : isAggB Tryz.prog 271 = some false := by kernel_rfl
@[go_sem] theorem size271 : sizeB Tryz.prog 271 = some 1 := by kernel_rfl
@[go_sem] theorem und271 : Tryz.prog.underlying 271 = some (.slice 98) := by kernel_rfl
@[go_sem] theorem apb271 : Nat.ble (((Tryz.prog.info? 271).map (·.bytes)).getD 10000000) 1000000 = true := by kernel_rfl
@[go_sem] theorem pz271 : plainZero Tryz.prog 271 = some [.slice none 0 0] := by kernel_rfl
@[go_sem] theorem agg274 : isAggB Tryz.prog 274 = some true := by kernel_rfl
@[go_sem] theorem size274 : sizeB Tryz.prog 274 = some 5 := by kernel_rfl
@[go_sem] theorem apb274 : Nat.ble (((Tryz.prog.info? 274).map (·.bytes)).getD 10000000) 1000000 = true := by kernel_rfl
@[go_sem] theorem pz274 : plainZero Tryz.prog 274 = some [.slice none 0 0, .slice none 0 0, .slice none 0 0, .slice none 0 0, .bool false] := by kernel_rfl
@[go_sem] theorem bld274 (parts : List (Nat × Value)) : buildB Tryz.prog 274 parts = (fillB (fun i => ([(0, 1), (1, 1), (2, 1), (3, 1), (4, 1)] : List (Nat × Nat))[i]?) [.slice none 0 0, .slice none 0 0, .slice none 0 0, .slice none 0 0, .bool false] parts).map fun l => .agg ⟨l⟩ := by kernel_rfl
@[go_sem] theorem fa274_0 (B o : Nat) : fieldAddrB Tryz.prog 274 0 (.pointer (some ⟨B, o, none⟩)) = some (.pointer (some ⟨B, o, none⟩)) := by kernel_rfl
@[go_sem] theorem fd274_0 (l : List Value) : fieldB Tryz.prog 274 0 (.agg ⟨l⟩) = l[0]? := by kernel_rfl
@[go_sem] theorem fa274_1 (B o : Nat) : fieldAddrB Tryz.prog 274 1 (.pointer (some ⟨B, o, none⟩)) = some (.pointer (some ⟨B, o + 1, none⟩)) := by kernel_rfl
@[go_sem] theorem fd274_1 (l : List Value) : fieldB Tryz.prog 274 1 (.agg ⟨l⟩) = l[1]? := by kernel_rfl
@[go_sem] theorem fa274_2 (B o : Nat) : fieldAddrB Tryz.prog 274 2 (.pointer (some ⟨B, o, none⟩)) = some (.pointer (some ⟨B, o + 2, none⟩)) := by kernel_rfl
@[go_sem] theorem fd274_2 (l : List Value) : fieldB Tryz.prog 274 2 (.agg ⟨l⟩) = l[2]? := by kernel_rfl
@[go_sem] theorem fa274_3 (B o : Nat) : fieldAddrB Tryz.prog 274 3 (.pointer (some ⟨B, o, none⟩)) = some (.pointer (some ⟨B, o + 3, none⟩)) := by kernel_rfl
@[go_sem] theorem fd274_3 (l : List Value) : fieldB Tryz.prog 274 3 (.agg ⟨l⟩) = l[3]? := by kernel_rfl
@[go_sem] theorem fa274_4 (B o : Nat) : fieldAddrB Tryz.prog 274 4 (.pointer (some ⟨B, o, none⟩)) = some (.pointer (some ⟨B, o + 4, none⟩)) := by kernel_rfl
@[go_sem] theorem fd274_4 (l : List Value) : fieldB Tryz.prog 274 4 (.agg ⟨l⟩) = l[4]? := by kernel_rfl
@[go_sem] theorem agg275 : isAggB Tryz.prog 275 = some true := by kernel_rfl
@[go_sem] theorem size275 : sizeB Tryz.prog 275 = some 5 := by kernel_rfl
@[go_sem] theorem apb275 : Nat.ble (((Tryz.prog.info? 275).map (·.bytes)).getD 10000000) 1000000 = true := by kernel_rfl
@[go_sem] theorem pz275 : plainZero Tryz.prog 275 = some [.slice none 0 0, .slice none 0 0, .slice none 0 0, .slice none 0 0, .bool false] := by kernel_rfl
@[go_sem] theorem bld275 (parts : List (Nat × Value)) : buildB Tryz.prog 275 parts = (fillB (fun i => ([(0, 1), (1, 1), (2, 1), (3, 1), (4, 1)] : List (Nat × Nat))[i]?) [.slice none 0 0, .slice none 0 0, .slice none 0 0, .slice none 0 0, .bool false] parts).map fun l => .agg ⟨l⟩ := by kernel_rfl
@[go_sem] theorem fa275_0 (B o : Nat) : fieldAddrB Tryz.prog 275 0 (.pointer (some ⟨B, o, none⟩)) = some (.pointer (some ⟨B, o, none⟩)) := by kernel_rfl
@[go_sem] theorem fd275_0 (l : List Value) : fieldB Tryz.prog 275 0 (.agg ⟨l⟩) = l[0]? := by kernel_rfl
@[go_sem] theorem fa275_1 (B o : Nat) : fieldAddrB Tryz.prog 275 1 (.pointer (some ⟨B, o, none⟩)) = some (.pointer (some ⟨B, o + 1, none⟩)) := by kernel_rfl
@[go_sem] theorem fd275_1 (l : List Value) : fieldB Tryz.prog 275 1 (.agg ⟨l⟩) = l[1]? := by kernel_rfl
@[go_sem] theorem fa275_2 (B o : Nat) : fieldAddrB Tryz.prog 275 2 (.pointer (some ⟨B, o, none⟩)) = some (.pointer (some ⟨B, o + 2, none⟩)) := by kernel_rfl
@[go_sem] theorem fd275_2 (l : List Value) : fieldB Tryz.prog 275 2 (.agg ⟨l⟩) = l[2]? := by kernel_rfl
@[go_sem] theorem fa275_3 (B o : Nat) : fieldAddrB Tryz.prog 275 3 (.pointer (some ⟨B, o, none⟩)) = some (.pointer (some ⟨B, o + 3, none⟩)) := by kernel_rfl
@[go_sem] theorem fd275_3 (l : List Value) : fieldB Tryz.prog 275 3 (.agg ⟨l⟩) = l[3]? := by kernel_rfl
@[go_sem] theorem fa275_4 (B o : Nat) : fieldAddrB Tryz.prog 275 4 (.pointer (some ⟨B, o, none⟩)) = some (.pointer (some ⟨B, o + 4, none⟩)) := by kernel_rfl
@[go_sem] theorem fd275_4 (l : List Value) : fieldB Tryz.prog 275 4 (.agg ⟨l⟩) = l[4]? := by kernel_rfl
@[go_sem] theorem agg276 : isAggB Tryz.prog 276 = some false := by kernel_rfl
@[go_sem] theorem size276 : sizeB Tryz.prog 276 = some 1 := by kernel_rfl
@[go_sem] theorem und276 : Tryz.prog.underlying 276 = some (.slice 341) := by kernel_rfl
@[go_sem] theorem apb276 : Nat.ble (((Tryz.prog.info? 276).map (·.bytes)).getD 10000000) 1000000 = true := by kernel_rfl
@[go_sem] theorem pz276 : plainZero Tryz.prog 276 = some [.slice none 0 0] := by kernel_rfl
@[go_sem] theorem agg277 : isAggB Tryz.prog 277 = some true := by kernel_rfl
@[go_sem] theorem size277 : sizeB Tryz.prog 277 = some 8 := by kernel_rfl
@[go_sem] theorem apb277 : Nat.ble (((Tryz.prog.info? 277).map (·.bytes)).getD 10000000) 1000000 = true := by kernel_rfl
@[go_sem] theorem pz277 : plainZero Tryz.prog 277 = some [.slice none 0 0, .slice none 0 0, .slice none 0 0, .slice none 0 0, .bool false, .slice none 0 0, .slice none 0 0, .slice none 0 0] := by kernel_rfl
@[go_sem] theorem bld277 (parts : List (Nat × Value)) : buildB Tryz.prog 277 parts = (fillB (fun i => ([(0, 5), (5, 1), (6, 1), (7, 1)] : List (Nat × Nat))[i]?) [.slice none 0 0, .slice none 0 0, .slice none 0 0, .slice none 0 0, .bool false, .slice none 0 0, .slice none 0 0, .slice none 0 0] parts).map fun l => .agg ⟨l⟩ := by kernel_rfl
@[go_sem] theorem fa277_0 (B o : Nat) : fieldAddrB Tryz.prog 277 0 (.pointer (some ⟨B, o, none⟩)) = some (.pointer (some ⟨B, o, none⟩)) := by kernel_rfl
@[go_sem] theorem fd277_0 (l : List Value) : fieldB Tryz.prog 277 0 (.agg ⟨l⟩) = some (.agg ⟨(l.drop 0).take 5⟩) := by kernel_rfl
@[go_sem] theorem fa277_1 (B o : Nat) : fieldAddrB Tryz.prog 277 1 (.pointer (some ⟨B, o, none⟩)) = some (.pointer (some ⟨B, o + 5, none⟩)) := by kernel_rfl
@[go_sem] theorem fd277_1 (l : List Value) : fieldB Tryz.prog 277 1 (.agg ⟨l⟩) = l[5]? := by kernel_rfl
@[go_sem] theorem fa277_2 (B o : Nat) : fieldAddrB Tryz.prog 277 2 (.pointer (some ⟨B, o, none⟩)) = some (.pointer (some ⟨B, o + 6, none⟩)) := by kernel_rfl
@[go_sem] theorem fd277_2 (l : List Value) : fieldB Tryz.prog 277 2 (.agg ⟨l⟩) = l[6]? := by kernel_rfl
@[go_sem] theorem fa277_3 (B o : Nat) : fieldAddrB Tryz.prog 277 3 (.pointer (some ⟨B, o, none⟩)) = some (.pointer (some ⟨B, o + 7, none⟩)) := by kernel_rfl
@[go_sem] theorem fd277_3 (l : List Value) : fieldB Tryz.prog 277 3 (.agg ⟨l⟩) = l[7]? := by kernel_rfl
@[go_sem] theorem agg278 : isAggB Tryz.prog 278 = some true := by kernel_rfl
@[go_sem] theorem size278 : sizeB Tryz.prog 278 = some 8 := by kernel_rfl
@[go_sem] theorem apb278 : Nat.ble (((Tryz.prog.info? 278).map (·.bytes)).getD 10000000) 1000000 = true := by kernel_rfl
@[go_sem] theorem pz278 : plainZero Tryz.prog 278 = some [.slice none 0 0, .slice none 0 0, .slice none 0 0, .slice none 0 0, .bool false, .slice none 0 0, .slice none 0 0, .slice none 0 0] := by kernel_rfl
@[go_sem] theorem bld278 (parts : List (Nat × Value)) : buildB Tryz.prog 278 parts = (fillB (fun i => ([(0, 5), (5, 1), (6, 1), (7, 1)] : List (Nat × Nat))[i]?) [.slice none 0 0, .slice none 0 0, .slice none 0 0, .slice none 0 0, .bool false, .slice none 0 0, .slice none 0 0, .slice none 0 0] parts).map fun l => .agg ⟨l⟩ := by kernel_rfl
@[go_sem] theorem fa278_0 (B o : Nat) : fieldAddrB Tryz.prog 278 0 (.pointer (some ⟨B, o, none⟩)) = some (.pointer (some ⟨B, o, none⟩)) := by kernel_rfl
@[go_sem] theorem fd278_0 (l : List Value) : fieldB Tryz.prog 278 0 (.agg ⟨l⟩) = some (.agg ⟨(l.drop 0).take 5⟩) := by kernel_rfl
@[go_sem] theorem fa278_1 (B o : Nat) : fieldAddrB Tryz.prog 278 1 (.pointer (some ⟨B, o, none⟩)) = some (.pointer (some ⟨B, o + 5, none⟩)) := by kernel_rfl
@[go_sem] theorem fd278_1 (l : List Value) : fieldB Tryz.prog 278 1 (.agg ⟨l⟩) = l[5]? := by kernel_rfl
@[go_sem] theorem fa278_2 (B o : Nat) : fieldAddrB Tryz.prog 278 2 (.pointer (some ⟨B, o, none⟩)) = some (.pointer (some ⟨B, o + 6, none⟩)) := by kernel_rfl
@[go_sem] theorem fd278_2 (l : List Value) : fieldB Tryz.prog 278 2 (.agg ⟨l⟩) = l[6]? := by kernel_rfl
@[go_sem] theorem fa278_3 (B o : Nat) : fieldAddrB Tryz.prog 278 3 (.pointer (some ⟨B, o, none⟩)) = some (.pointer (some ⟨B, o + 7, none⟩)) := by kernel_rfl
@[go_sem] theorem fd278_3 (l : List Value) : fieldB Tryz.prog 278 3 (.agg ⟨l⟩) = l[7]? := by kernel_rfl
@[go_sem] theorem agg283 : isAggB Tryz.prog 283 = some false := by kernel_rfl
@[go_sem] theorem size283 : sizeB Tryz.prog 283 = some 1 := by kernel_rfl
@[go_sem] theorem und283 : Tryz.prog.underlying 283 = some (.map 3 3) := by kernel_rfl
@[go_sem] theorem apb283 : Nat.ble (((Tryz.prog.info? 283).map (·.bytes)).getD 10000000) 1000000 = true := by kernel_rfl
@[go_sem] theorem pz283 : plainZero Tryz.prog 283 = some [.map none] := by kernel_rfl
@[go_sem] theorem agg284 : isAggB Tryz.prog 284 = some true := by kernel_rfl
@[go_sem] theorem size284 : sizeB Tryz.prog 284 = some 1 := by kernel_rfl
@[go_sem] theorem apb284 : Nat.ble (((Tryz.prog.info? 284).map (·.bytes)).getD 10000000) 1000000 = true := by kernel_rfl
@[go_sem] theorem pz284 : plainZero Tryz.prog 284 = some [.map none] := by kernel_rfl
@[go_sem] theorem bld284 (parts : List (Nat × Value)) : buildB Tryz.prog 284 parts = (fillB (fun i => ([(0, 1)] : List (Nat × Nat))[i]?) [.map none] parts).map fun l => .agg ⟨l⟩ := by kernel_rfl
@[go_sem] theorem fa284_0 (B o : Nat) : fieldAddrB Tryz.prog 284 0 (.pointer (some ⟨B, o, none⟩)) = some (.pointer (some ⟨B, o, none⟩)) := by kernel_rfl
@[go_sem] theorem fd284_0 (l : List Value) : fieldB Tryz.prog 284 0 (.agg ⟨l⟩) = l[0]? := by kernel_rfl
@[go_sem] theorem agg285 : isAggB Tryz.prog 285 = some true := by kernel_rfl
@[go_sem] theorem size285 : sizeB Tryz.prog 285 = some 1 := by kernel_rfl
@[go_sem] theorem apb285 : Nat.ble (((Tryz.prog.info? 285).map (·.bytes)).getD 10000000) 1000000 = true := by kernel_rfl
@[go_sem] theorem pz285 : plainZero Tryz.prog 285 = some [.map none] := by kernel_rfl
@[go_sem] theorem bld285 (parts : List (Nat × Value)) : buildB Tryz.prog 285 parts = (fillB (fun i => ([(0, 1)] : List (Nat × Nat))[i]?) [.map none] parts).map fun l => .agg ⟨l⟩ := by kernel_rfl
@[go_sem] theorem fa285_0 (B o : Nat) : fieldAddrB Tryz.prog 285 0 (.pointer (some ⟨B, o, none⟩)) = some (.pointer (some ⟨B, o, none⟩)) := by kernel_rfl
@[go_sem] theorem fd285_0 (l : List Value) : fieldB Tryz.prog 285 0 (.agg ⟨l⟩) = l[0]? := by kernel_rfl
@[go_sem] theorem agg286 : isAggB Tryz.prog 286 = some false := by kernel_rfl
@[go_sem] theorem size286 : sizeB Tryz.prog 286 = some 1 := by kernel_rfl
@[go_sem] theorem und286 : Tryz.prog.underlying 286 = some (.slice 412) := by kernel_rfl
@[go_sem] theorem apb286 : Nat.ble (((Tryz.prog.info? 286).map (·.bytes)).getD 10000000) 1000000 = true := by kernel_rfl
@[go_sem] theorem pz286 : plainZero Tryz.prog 286 = some [.slice none 0 0] := by kernel_rfl
@[go_sem] theorem agg287 : isAggB Tryz.prog 287 = some true := by kernel_rfl
@[go_sem] theorem size287 : sizeB Tryz.prog 287 = some 1 := by kernel_rfl
@[go_sem] theorem apb287 : Nat.ble (((Tryz.prog.info? 287).map (·.bytes)).getD 10000000) 1000000 = true := by kernel_rfl
@[go_sem] theorem pz287 : plainZero Tryz.prog 287 = some [.slice none 0 0] := by kernel_rfl
@[go_sem] theorem bld287 (parts : List (Nat × Value)) : buildB Tryz.prog 287 parts = (fillB (fun i => ([(0, 1)] : List (Nat × Nat))[i]?) [.slice none 0 0] parts).map fun l => .agg ⟨l⟩ := by kernel_rfl
@[go_sem] theorem fa287_0 (B o : Nat) : fieldAddrB Tryz.prog 287 0 (.pointer (some ⟨B, o, none⟩)) = some (.pointer (some ⟨B, o, none⟩)) := by kernel_rfl
@[go_sem] theorem fd287_0 (l : List Value) : fieldB Tryz.prog 287 0 (.agg ⟨l⟩) = l[0]? := by kernel_rfl
@[go_sem] theorem agg288 : isAggB Tryz.prog 288 = some true := by kernel_rfl
@[go_sem] theorem size288 : sizeB Tryz.prog 288 = some 1 := by kernel_rfl
@[go_sem] theorem apb288 : Nat.ble (((Tryz.prog.info? 288).map (·.bytes)).getD 10000000) 1000000 = true := by kernel_rfl
@[go_sem] theorem pz288 : plainZero Tryz.prog 288 = some [.slice none 0 0] := by kernel_rfl
@[go_sem] theorem bld288 (parts : List (Nat × Value)) : buildB Tryz.prog 288 parts = (fillB (fun i => ([(0, 1)] : List (Nat × Nat))[i]?) [.slice none 0 0] parts).map fun l => .agg ⟨l⟩ := by kernel_rfl
@[go_sem] theorem fa288_0 (B o : Nat) : fieldAddrB Tryz.prog 288 0 (.pointer (some ⟨B, o, none⟩)) = some (.pointer (some ⟨B, o, none⟩)) := by kernel_rfl
@[go_sem] theorem fd288_0 (l : List Value) : fieldB Tryz.prog 288 0 (.agg ⟨l⟩) = l[0]? := by kernel_rfl
@[go_sem] theorem agg289 : isAggB Tryz.prog 289 = some true := by kernel_rfl
@[go_sem] theorem size289 : sizeB Tryz.prog 289 = some 2 := by kernel_rfl
@[go_sem] theorem apb289 : Nat.ble (((Tryz.prog.info? 289).map (·.bytes)).getD 10000000) 1000000 = true := by kernel_rfl
@[go_sem] theorem pz289 : plainZero Tryz.prog 289 = some [.slice none 0 0, .map none] := by kernel_rfl
@[go_sem] theorem bld289 (parts : List (Nat × Value)) : buildB Tryz.prog 289 parts = (fillB (fun i => ([(0, 1), (1, 1)] : List (Nat × Nat))[i]?) [.slice none 0 0, .map none] parts).map fun l => .agg ⟨l⟩ := by kernel_rfl
@[go_sem] theorem fa289_0 (B o : Nat) : fieldAddrB Tryz.prog 289 0 (.pointer (some ⟨B, o, none⟩)) = some (.pointer (some ⟨B, o, none⟩)) := by kernel_rfl
@[go_sem] theorem fd289_0 (l : List Value) : fieldB Tryz.prog 289 0 (.agg ⟨l⟩) = some (.agg ⟨(l.drop 0).take 1⟩) := by kernel_rfl
@[go_sem] theorem fa289_1 (B o : Nat) : fieldAddrB Tryz.prog 289 1 (.pointer (some ⟨B, o, none⟩)) = some (.pointer (some ⟨B, o + 1, none⟩)) := by kernel_rfl
@[go_sem] theorem fd289_1 (l : List Value) : fieldB Tryz.prog 289 1 (.agg ⟨l⟩) = some (.agg ⟨(l.drop 1).take 1⟩) := by kernel_rfl
@[go_sem] theorem agg290 : isAggB Tryz.prog 290 = some true := by kernel_rfl
@[go_sem] theorem size290 : sizeB Tryz.prog 290 = some 2 := by kernel_rfl
@[go_sem] theorem apb290 : Nat.ble (((Tryz.prog.info? 290).map (·.bytes)).getD 10000000) 1000000 = true := by kernel_rfl
@[go_sem] theorem pz290 : plainZero Tryz.prog 290 = some [.slice none 0 0, .map none] := by kernel_rfl
@[go_sem] theorem bld290 (parts : List (Nat × Value)) : buildB Tryz.prog 290 parts = (fillB (fun i => ([(0, 1), (1, 1)] : List (Nat × Nat))[i]?) [.slice none 0 0, .map none] parts).map fun l => .agg ⟨l⟩ := by kernel_rfl
@[go_sem] theorem fa290_0 (B o : Nat) : fieldAddrB Tryz.prog 290 0 (.pointer (some ⟨B, o, none⟩)) = some (.pointer (some ⟨B, o, none⟩)) := by kernel_rfl
@[go_sem] theorem fd290_0 (l : List Value) : fieldB Tryz.prog 290 0 (.agg ⟨l⟩) = some (.agg ⟨(l.drop 0).take 1⟩) := by kernel_rfl
@[go_sem] theorem fa290_1 (B o : Nat) : fieldAddrB Tryz.prog 290 1 (.pointer (some ⟨B, o, none⟩)) = some (.pointer (some ⟨B, o + 1, none⟩)) := by kernel_rfl
@[go_sem] theorem fd290_1 (l : List Value) : fieldB Tryz.prog 290 1 (.agg ⟨l⟩) = some (.agg ⟨(l.drop 1).take 1⟩) := by kernel_rfl
@[go_sem] theorem agg291 : isAggB Tryz.prog 291 = some true := by kernel_rfl
@[go_sem] theorem size291 : sizeB Tryz.prog 291 = some 2 := by kernel_rfl
@[go_sem] theorem apb291 : Nat.ble (((Tryz.prog.info? 291).map (·.bytes)).getD 10000000) 1000000 = true := by kernel_rfl
@[go_sem] theorem pz291 : plainZero Tryz.prog 291 = some [.pointer none, .slice none 0 0] := by kernel_rfl
@[go_sem] theorem bld291 (parts : List (Nat × Value)) : buildB Tryz.prog 291 parts = (fillB (fun i => ([(0, 1), (1, 1)] : List (Nat × Nat))[i]?) [.pointer none, .slice none 0 0] parts).map fun l => .agg ⟨l⟩ := by kernel_rfl
@[go_sem] theorem fa291_0 (B o : Nat) : fieldAddrB Tryz.prog 291 0 (.pointer (some ⟨B, o, none⟩)) = some (.pointer (some ⟨B, o, none⟩)) := by kernel_rfl
@[go_sem] theorem fd291_0 (l : List Value) : fieldB Tryz.prog 291 0 (.agg ⟨l⟩) = l[0]? := by kernel_rfl
@[go_sem] theorem fa291_1 (B o : Nat) : fieldAddrB Tryz.prog 291 1 (.pointer (some ⟨B, o, none⟩)) = some (.pointer (some ⟨B, o + 1, none⟩)) := by kernel_rfl
@[go_sem] theorem fd291_1 (l : List Value) : fieldB Tryz.prog 291 1 (.agg ⟨l⟩) = l[1]? := by kernel_rfl
@[go_sem] theorem agg292 : isAggB Tryz.prog 292 = some true := by kernel_rfl
@[go_sem] theorem size292 : sizeB Tryz.prog 292 = some 2 := by kernel_rfl
@[go_sem] theorem apb292 : Nat.ble (((Tryz.prog.info? 292).map (·.bytes)).getD 10000000) 1000000 = true := by kernel_rfl
@[go_sem] theorem pz292 : plainZero Tryz.prog 292 = some [.pointer none, .slice none 0 0] := by kernel_rfl
@[go_sem] theorem bld292 (parts : List (Nat × Value)) : buildB Tryz.prog 292 parts = (fillB (fun i => ([(0, 1), (1, 1)] : List (Nat × Nat))[i]?) [.pointer none, .slice none 0 0] parts).map fun l => .agg ⟨l⟩ := by kernel_rfl
@[go_sem] theorem fa292_0 (B o : Nat) : fieldAddrB Tryz.prog 292 0 (.pointer (some ⟨B, o, none⟩)) = some (.pointer (some ⟨B, o, none⟩)) := by kernel_rfl
@[go_sem] theorem fd292_0 (l : List Value) : fieldB Tryz.prog 292 0 (.agg ⟨l⟩) = l[0]? := by kernel_rfl
@[go_sem] theorem fa292_1 (B o : Nat) : fieldAddrB Tryz.prog 292 1 (.pointer (some ⟨B, o, none⟩)) = some (.pointer (some ⟨B, o + 1, none⟩)) := by kernel_rfl
@[go_sem] theorem fd292_1 (l : List Value) : fieldB Tryz.prog 292 1 (.agg ⟨l⟩) = l[1]? := by kernel_rfl
@[go_sem] theorem agg293 : isAggB Tryz.prog 293 = some false := by kernel_rfl
@[go_sem] theorem size293 : sizeB Tryz.prog 293 = some 1 := by kernel_rfl
@[go_sem] theorem und293 : Tryz.prog.underlying 293 = some (.slice 416) := by kernel_rfl
@[go_sem] theorem apb293 : Nat.ble (((Tryz.prog.info? 293).map (·.bytes)).getD 10000000) 1000000 = true := by kernel_rfl
@[go_sem] theorem pz293 : plainZero Tryz.prog 293 = some [.slice none 0 0] := by kernel_rfl
@[go_sem] theorem agg294 : isAggB Tryz.prog 294 = some true := by kernel_rfl
@[go_sem] theorem size294 : sizeB Tryz.prog 294 = some 2 := by kernel_rfl
@[go_sem] theorem apb294 : Nat.ble (((Tryz.prog.info? 294).map (·.bytes)).getD 10000000) 1000000 = true := by kernel_rfl
@[go_sem] theorem pz294 : plainZero Tryz.prog 294 = some [.int .i64 0, .int .i64 0] := by kernel_rfl
@[go_sem] theorem flat294 : flatI Tryz.prog 294 = some 2 := by kernel_rfl
@[go_sem] theorem bld294 (parts : List (Nat × Value)) : buildB Tryz.prog 294 parts = (fillB (fun i => ([(0, 1), (1, 1)] : List (Nat × Nat))[i]?) [.int .i64 0, .int .i64 0] parts).map fun l => .agg ⟨l⟩ := by kernel_rfl
@[go_sem] theorem fa294_0 (B o : Nat) : fieldAddrB Tryz.prog 294 0 (.pointer (some ⟨B, o, none⟩)) = some (.pointer (some ⟨B, o, none⟩)) := by kernel_rfl
@[go_sem] theorem fd294_0 (l : List Value) : fieldB Tryz.prog 294 0 (.agg ⟨l⟩) = l[0]? := by kernel_rfl
@[go_sem] theorem fa294_1 (B o : Nat) : fieldAddrB Tryz.prog 294 1 (.pointer (some ⟨B, o, none⟩)) = some (.pointer (some ⟨B, o + 1, none⟩)) := by kernel_rfl
@[go_sem] theorem fd294_1 (l : List Value) : fieldB Tryz.prog 294 1 (.agg ⟨l⟩) = l[1]? := by kernel_rfl
@[go_sem] theorem agg295 : isAggB Tryz.prog 295 = some true := by kernel_rfl
@[go_sem] theorem size295 : sizeB Tryz.prog 295 = some 2 := by kernel_rfl
@[go_sem] theorem apb295 : Nat.ble (((Tryz.prog.info? 295).map (·.bytes)).getD 10000000) 1000000 = true := by kernel_rfl
@[go_sem] theorem pz295 : plainZero Tryz.prog 295 = some [.int .i64 0, .int .i64 0] := by kernel_rfl
@[go_sem] theorem flat295 : flatI Tryz.prog 295 = some 2 := by kernel_rfl
@[go_sem] theorem bld295 (parts : List (Nat × Value)) : buildB Tryz.prog 295 parts = (fillB (fun i => ([(0, 1), (1, 1)] : List (Nat × Nat))[i]?) [.int .i64 0, .int .i64 0] parts).map fun l => .agg ⟨l⟩ := by kernel_rfl
@[go_sem] theorem fa295_0 (B o : Nat) : fieldAddrB Tryz.prog 295 0 (.pointer (some ⟨B, o, none⟩)) = some (.pointer (some ⟨B, o, none⟩)) := by kernel_rfl
@[go_sem] theorem fd295_0 (l : List Value) : fieldB Tryz.prog 295 0 (.agg ⟨l⟩) = l[0]? := by kernel_rfl
@[go_sem] theorem fa295_1 (B o : Nat) : fieldAddrB Tryz.prog 295 1 (.pointer (some ⟨B, o, none⟩)) = some (.pointer (some ⟨B, o + 1, none⟩)) := by kernel_rfl
@[go_sem] theorem fd295_1 (l : List Value) : fieldB Tryz.prog 295 1 (.agg ⟨l⟩) = l[1]? := by kernel_rfl
@[go_sem] theorem agg296 : isAggB Tryz.prog 296 = some true := by kernel_rfl
@[go_sem] theorem size296 : sizeB Tryz.prog 296 = some 3 := by kernel_rfl
@[go_sem] theorem apb296 : Nat.ble (((Tryz.prog.info? 296).map (·.bytes)).getD 10000000) 1000000 = true := by kernel_rfl
@[go_sem] theorem pz296 : plainZero Tryz.prog 296 = some [.int .i64 0, .int .i64 0, .slice none 0 0] := by kernel_rfl
@[go_sem] theorem bld296 (parts : List (Nat × Value)) : buildB Tryz.prog 296 parts = (fillB (fun i => ([(0, 2), (2, 1)] : List (Nat × Nat))[i]?) [.int .i64 0, .int .i64 0, .slice none 0 0] parts).map fun l => .agg ⟨l⟩ := by kernel_rfl
@[go_sem] theorem fa296_0 (B o : Nat) : fieldAddrB Tryz.prog 296 0 (.pointer (some ⟨B, o, none⟩)) = some (.pointer (some ⟨B, o, none⟩)) := by kernel_rfl
@[go_sem] theorem fd296_0 (l : List Value) : fieldB Tryz.prog 296 0 (.agg ⟨l⟩) = some (.agg ⟨(l.drop 0).take 2⟩) := by kernel_rfl
@[go_sem] theorem fa296_1 (B o : Nat) : fieldAddrB Tryz.prog 296 1 (.pointer (some ⟨B, o, none⟩)) = some (.pointer (some ⟨B, o + 2, none⟩)) := by kernel_rfl
@[go_sem] theorem fd296_1 (l : List Value) : fieldB Tryz.prog 296 1 (.agg ⟨l⟩) = l[2]? := by kernel_rfl
@[go_sem] theorem agg297 : isAggB Tryz.prog 297 = some true := by kernel_rfl
@[go_sem] theorem size297 : sizeB Tryz.prog 297 = some 3 := by kernel_rfl
@[go_sem] theorem apb297 : Nat.ble (((Tryz.prog.info? 297).map (·.bytes)).getD 10000000) 1000000 = true := by kernel_rfl
@[go_sem] theorem pz297 : plainZero Tryz.prog 297 = some [.int .i64 0, .int .i64 0, .slice none 0 0] := by kernel_rfl
@[go_sem] theorem bld297 (parts : List (Nat × Value)) : buildB Tryz.prog 297 parts = (fillB (fun i => ([(0, 2), (2, 1)] : List (Nat × Nat))[i]?) [.int .i64 0, .int .i64 0, .slice none 0 0] parts).map fun l => .agg ⟨l⟩ := by kernel_rfl
@[go_sem] theorem fa297_0 (B o : Nat) : fieldAddrB Tryz.prog 297 0 (.pointer (some ⟨B, o, none⟩)) = some (.pointer (some ⟨B, o, none⟩)) := by kernel_rfl
@[go_sem] theorem fd297_0 (l : List Value) : fieldB Tryz.prog 297 0 (.agg ⟨l⟩) = some (.agg ⟨(l.drop 0).take 2⟩) := by kernel_rfl
@[go_sem] theorem fa297_1 (B o : Nat) : fieldAddrB Tryz.prog 297 1 (.pointer (some ⟨B, o, none⟩)) = some (.pointer (some ⟨B, o + 2, none⟩)) := by kernel_rfl
@[go_sem] theorem fd297_1 (l : List Value) : fieldB Tryz.prog 297 1 (.agg ⟨l⟩) = l[2]? := by kernel_rfl
@[go_sem] theorem agg298 : isAggB Tryz.prog 298 = some true := by kernel_rfl
@[go_sem] theorem size298 : sizeB Tryz.prog 298 = some 4 := by kernel_rfl
@[go_sem] theorem und298 : Tryz.prog.underlying 298 = some (.array 4 181) := by kernel_rfl
@[go_sem] theorem apb298 : Nat.ble (((Tryz.prog.info? 298).map (·.bytes)).getD 10000000) 1000000 = true := by kernel_rfl
@[go_sem] theorem pz298 : plainZero Tryz.prog 298 = some [.pointer none, .pointer none, .pointer none, .pointer none] := by kernel_rfl
@[go_sem] theorem agg303 : isAggB Tryz.prog 303 = some false := by kernel_rfl
@[go_sem] theorem size303 : sizeB Tryz.prog 303 = some 1 := by kernel_rfl
@[go_sem] theorem und303 : Tryz.prog.underlying 303 = some (.slice 334) := by kernel_rfl
@[go_sem] theorem apb303 : Nat.ble (((Tryz.prog.info? 303).map (·.bytes)).getD 10000000) 1000000 = true := by kernel_rfl
@[go_sem] theorem pz303 : plainZero Tryz.prog 303 = some [.slice none 0 0] := by kernel_rfl
@[go_sem] theorem agg304 : isAggB Tryz.prog 304 = some false := by kernel_rfl
@[go_sem] theorem size304 : sizeB Tryz.prog 304 = some 1 := by kernel_rfl
@[go_sem] theorem und304 : Tryz.prog.underlying 304 = some (.slice 128) := by kernel_rfl
@[go_sem] theorem apb304 : Nat.ble (((Tryz.prog.info? 304).map (·.bytes)).getD 10000000) 1000000 = true := by kernel_rfl
@[go_sem] theorem pz304 : plainZero Tryz.prog 304 = some [.slice none 0 0] := by kernel_rfl
@[go_sem] theorem agg305 : isAggB Tryz.prog 305 = some true := by kernel_rfl
@[go_sem] theorem size305 : sizeB Tryz.prog 305 = some 2 := by kernel_rfl
@[go_sem] theorem apb305 : Nat.ble (((Tryz.prog.info? 305).map (·.bytes)).getD 10000000) 1000000 = true := by kernel_rfl
@[go_sem] theorem pz305 : plainZero Tryz.prog 305 = some [.slice none 0 0, .slice none 0 0] := by kernel_rfl
@[go_sem] theorem bld305 (parts : List (Nat × Value)) : buildB Tryz.prog 305 parts = (fillB (fun i => ([(0, 1), (1, 1)] : List (Nat × Nat))[i]?) [.slice none 0 0, .slice none 0 0] parts).map fun l => .agg ⟨l⟩ := by kernel_rfl
@[go_sem] theorem fa305_0 (B o : Nat) : fieldAddrB Tryz.prog 305 0 (.pointer (some ⟨B, o, none⟩)) = some (.pointer (some ⟨B, o, none⟩)) := by kernel_rfl
@[go_sem] theorem fd305_0 (l : List Value) : fieldB Tryz.prog 305 0 (.agg ⟨l⟩) = l[0]? := by kernel_rfl
@[go_sem] theorem fa305_1 (B o : Nat) : fieldAddrB Tryz.prog 305 1 (.pointer (some ⟨B, o, none⟩)) = some (.pointer (some ⟨B, o + 1, none⟩)) := by kernel_rfl
@[go_sem] theorem fd305_1 (l : List Value) : fieldB Tryz.prog 305 1 (.agg ⟨l⟩) = l[1]? := by kernel_rfl
@[go_sem] theorem agg306 : isAggB Tryz.prog 306 = some true := by kernel_rfl
@[go_sem] theorem size306 : sizeB Tryz.prog 306 = some 2 := by kernel_rfl
@[go_sem] theorem apb306 : Nat.ble (((Tryz.prog.info? 306).map (·.bytes)).getD 10000000) 1000000 = true := by kernel_rfl
@[go_sem] theorem pz306 : plainZero Tryz.prog 306 = some [.slice none 0 0, .slice none 0 0] := by kernel_rfl
@[go_sem] theorem bld306 (parts : List (Nat × Value)) : buildB Tryz.prog 306 parts = (fillB (fun i => ([(0, 1), (1, 1)] : List (Nat × Nat))[i]?) [.slice none 0 0, .slice none 0 0] parts).map fun l => .agg ⟨l⟩ := by kernel_rfl
@[go_sem] theorem fa306_0 (B o : Nat) : fieldAddrB Tryz.prog 306 0 (.pointer (some ⟨B, o, none⟩)) = some (.pointer (some ⟨B, o, none⟩)) := by kernel_rfl
@[go_sem] theorem fd306_0 (l : List Value) : fieldB Tryz.prog 306 0 (.agg ⟨l⟩) = l[0]? := by kernel_rfl
@[go_sem] theorem fa306_1 (B o : Nat) : fieldAddrB Tryz.prog 306 1 (.pointer (some ⟨B, o, none⟩)) = some (.pointer (some ⟨B, o + 1, none⟩)) := by kernel_rfl
@[go_sem] theorem fd306_1 (l : List Value) : fieldB Tryz.prog 306 1 (.agg ⟨l⟩) = l[1]? := by kernel_rfl
@[go_sem] theorem agg309 : isAggB Tryz.prog 309 = some false := by kernel_rfl
@[go_sem] theorem size309 : sizeB Tryz.prog 309 = some 1 := by kernel_rfl
@[go_sem] theorem und309 : Tryz.prog.underlying 309 = some (.slice 180) := by kernel_rfl
@[go_sem] theorem apb309 : Nat.ble (((Tryz.prog.info? 309).map (·.bytes)).getD 10000000) 1000000 = true := by kernel_rfl
@[go_sem] theorem pz309 : plainZero Tryz.prog 309 = some [.slice none 0 0] := by kernel_rfl
@[go_sem] theorem agg310 : isAggB Tryz.prog 310 = some true := by kernel_rfl
@[go_sem] theorem size310 : sizeB Tryz.prog 310 = some 3 := by kernel_rfl
@[go_sem] theorem apb310 : Nat.ble (((Tryz.prog.info? 310).map (·.bytes)).getD 10000000) 1000000 = true := by kernel_rfl
@[go_sem] theorem pz310 : plainZero Tryz.prog 310 = some [.pointer none, .slice none 0 0, .slice none 0 0] := by kernel_rfl
@[go_sem] theorem bld310 (parts : List (Nat × Value)) : buildB Tryz.prog 310 parts = (fillB (fun i => ([(0, 1), (1, 1), (2, 1)] : List (Nat × Nat))[i]?) [.pointer none, .slice none 0 0, .slice none 0 0] parts).map fun l => .agg ⟨l⟩ := by kernel_rfl
@[go_sem] theorem fa310_0 (B o : Nat) : fieldAddrB Tryz.prog 310 0 (.pointer (some ⟨B, o, none⟩)) = some (.pointer (some ⟨B, o, none⟩)) := by kernel_rfl
@[go_sem] theorem fd310_0 (l : List Value) : fieldB Tryz.prog 310 0 (.agg ⟨l⟩) = l[0]? := by kernel_rfl
@[go_sem] theorem fa310_1 (B o : Nat) : fieldAddrB Tryz.prog 310 1 (.pointer (some ⟨B, o, none⟩)) = some (.pointer (some ⟨B, o + 1, none⟩)) := by kernel_rfl
@[go_sem] theorem fd310_1 (l : List Value) : fieldB Tryz.prog 310 1 (.agg ⟨l⟩) = l[1]? := by kernel_rfl
@[go_sem] theorem fa310_2 (B o : Nat) : fieldAddrB Tryz.prog 310 2 (.pointer (some ⟨B, o, none⟩)) = some (.pointer (some ⟨B, o + 2, none⟩)) := by kernel_rfl
@[go_sem] theorem fd310_2 (l : List Value) : fieldB Tryz.prog 310 2 (.agg ⟨l⟩) = l[2]? := by kernel_rfl
@[go_sem] theorem agg311 : isAggB Tryz.prog 311 = some true := by kernel_rfl
@[go_sem] theorem size311 : sizeB Tryz.prog 311 = some 3 := by kernel_rfl
@[go_sem] theorem apb311 : Nat.ble (((Tryz.prog.info? 311).map (·.bytes)).getD 10000000) 1000000 = true := by kernel_rfl
@[go_sem] theorem pz311 : plainZero Tryz.prog 311 = some [.pointer none, .slice none 0 0, .slice none 0 0] := by kernel_rfl
@[go_sem] theorem bld311 (parts : List (Nat × Value)) : buildB Tryz.prog 311 parts = (fillB (fun i => ([(0, 1), (1, 1), (2, 1)] : List (Nat × Nat))[i]?) [.pointer none, .slice none 0 0, .slice none 0 0] parts).map fun l => .agg ⟨l⟩ := by kernel_rfl
@[go_sem] theorem fa311_0 (B o : Nat) : fieldAddrB Tryz.prog 311 0 (.pointer (some ⟨B, o, none⟩)) = some (.pointer (some ⟨B, o, none⟩)) := by kernel_rfl
@[go_sem] theorem fd311_0 (l : List Value) : fieldB Tryz.prog 311 0 (.agg ⟨l⟩) = l[0]? := by kernel_rfl
@[go_sem] theorem fa311_1 (B o : Nat) : fieldAddrB Tryz.prog 311 1 (.pointer (some ⟨B, o, none⟩)) = some (.pointer (some ⟨B, o + 1, none⟩)) := by kernel_rfl
@[go_sem] theorem fd311_1 (l : List Value) : fieldB Tryz.prog 311 1 (.agg ⟨l⟩) = l[1]? := by kernel_rfl
@[go_sem] theorem fa311_2 (B o : Nat) : fieldAddrB Tryz.prog 311 2 (.pointer (some ⟨B, o, none⟩)) = some (.pointer (some ⟨B, o + 2, none⟩)) := by kernel_rfl
@[go_sem] theorem fd311_2 (l : List Value) : fieldB Tryz.prog 311 2 (.agg ⟨l⟩) = l[2]? := by kernel_rfl
@[go_sem] theorem agg321 : isAggB Tryz.prog 321 = some false := by kernel_rfl
@[go_sem] theorem size321 : sizeB Tryz.prog 321 = some 1 := by kernel_rfl
@[go_sem] theorem und321 : Tryz.prog.underlying 321 = some (.pointer 326) := by kernel_rfl
@[go_sem] theorem apb321 : Nat.ble (((Tryz.prog.info? 321).map (·.bytes)).getD 10000000) 1000000 = true := by kernel_rfl
@[go_sem] theorem pz321 : plainZero Tryz.prog 321 = some [.pointer none] := by kernel_rfl
@[go_sem] theorem agg322 : isAggB Tryz.prog 322 = some true := by kernel_rfl
@[go_sem] theorem size322 : sizeB Tryz.prog 322 = some 4 := by kernel_rfl
@[go_sem] theorem und322 : Tryz.prog.underlying 322 = some (.array 4 2) := by kernel_rfl
@[go_sem] theorem apb322 : Nat.ble (((Tryz.prog.info? 322).map (·.bytes)).getD 10000000) 1000000 = true := by kernel_rfl
@[go_sem] theorem pz322 : plainZero Tryz.prog 322 = some [.int .i64 0, .int .i64 0, .int .i64 0, .int .i64 0] := by kernel_rfl
@[go_sem] theorem agg323 : isAggB Tryz.prog 323 = some true := by kernel_rfl
@[go_sem] theorem size323 : sizeB Tryz.prog 323 = some 4 := by kernel_rfl
@[go_sem] theorem apb323 : Nat.ble (((Tryz.prog.info? 323).map (·.bytes)).getD 10000000) 1000000 = true := by kernel_rfl
@[go_sem] theorem pz323 : plainZero Tryz.prog 323 = some [.int .i64 0, .int .i64 0, .int .i64 0, .int .i64 0] := by kernel_rfl
@[go_sem] theorem bld323 (parts : List (Nat × Value)) : buildB Tryz.prog 323 parts = (fillB (fun i => ([(0, 4)] : List (Nat × Nat))[i]?) [.int .i64 0, .int .i64 0, .int .i64 0, .int .i64 0] parts).map fun l => .agg ⟨l⟩ := by kernel_rfl
@[go_sem] theorem fa323_0 (B o : Nat) : fieldAddrB Tryz.prog 323 0 (.pointer (some ⟨B, o, none⟩)) = some (.pointer (some ⟨B, o, none⟩)) := by kernel_rfl
@[go_sem] theorem fd323_0 (l : List Value) : fieldB Tryz.prog 323 0 (.agg ⟨l⟩) = some (.agg ⟨(l.drop 0).take 4⟩) := by kernel_rfl
@[go_sem] theorem agg324 : isAggB Tryz.prog 324 = some true := by kernel_rfl
@[go_sem] theorem size324 : sizeB Tryz.prog 324 = some 4 := by kernel_rfl
@[go_sem] theorem apb324 : Nat.ble (((Tryz.prog.info? 324).map (·.bytes)).getD 10000000) 1000000 = true := by kernel_rfl
@[go_sem] theorem pz324 : plainZero Tryz.prog 324 = some [.int .i64 0, .int .i64 0, .int .i64 0, .int .i64 0] := by kernel_rfl
@[go_sem] theorem bld324 (parts : List (Nat × Value)) : buildB Tryz.prog 324 parts = (fillB (fun i => ([(0, 4)] : List (Nat × Nat))[i]?) [.int .i64 0, .int .i64 0, .int .i64 0, .int .i64 0] parts).map fun l => .agg ⟨l⟩ := by kernel_rfl
@[go_sem] theorem fa324_0 (B o : Nat) : fieldAddrB Tryz.prog 324 0 (.pointer (some ⟨B, o, none⟩)) = some (.pointer (some ⟨B, o, none⟩)) := by kernel_rfl
@[go_sem] theorem fd324_0 (l : List Value) : fieldB Tryz.prog 324 0 (.agg ⟨l⟩) = some (.agg ⟨(l.drop 0).take 4⟩) := by kernel_rfl
@[go_sem] theorem agg325 : isAggB Tryz.prog 325 = some true := by kernel_rfl
@[go_sem] theorem size325 : sizeB Tryz.prog 325 = some 17 := by kernel_rfl
@[go_sem] theorem apb325 : Nat.ble (((Tryz.prog.info? 325).map (·.bytes)).getD 10000000) 1000000 = true := by kernel_rfl
@[go_sem] theorem pz325 : plainZero Tryz.prog 325 = some [.int .i64 0, .int .i64 0, .int .i64 0, .int .i64 0, .pointer none, .pointer none, .slice none 0 0, .slice none 0 0, .slice none 0 0, .slice none 0 0, .bool false, .slice none 0 0, .slice none 0 0, .slice none 0 0, .pointer none, .int .i64 0, .int .i64 0] := by kernel_rfl
@[go_sem] theorem bld325 (parts : List (Nat × Value)) : buildB Tryz.prog 325 parts = (fillB (fun i => ([(0, 4), (4, 1), (5, 1), (6, 8), (14, 1), (15, 2)] : List (Nat × Nat))[i]?) [.int .i64 0, .int .i64 0, .int .i64 0, .int .i64 0, .pointer none, .pointer none, .slice none 0 0, .slice none 0 0, .slice none 0 0, .slice none 0 0, .bool false, .slice none 0 0, .slice none 0 0, .slice none 0 0, .pointer none, .int .i64 0, .int .i64 0] parts).map fun l => .agg ⟨l⟩ := by kernel_rfl
@[go_sem] theorem fa325_0 (B o : Nat) : fieldAddrB Tryz.prog 325 0 (.pointer (some ⟨B, o, none⟩)) = some (.pointer (some ⟨B, o, none⟩)) := by kernel_rfl
@[go_sem] theorem fd325_0 (l : List Value) : fieldB Tryz.prog 325 0 (.agg ⟨l⟩) = some (.agg ⟨(l.drop 0).take 4⟩) := by kernel_rfl
@[go_sem] theorem fa325_1 (B o : Nat) : fieldAddrB Tryz.prog 325 1 (.pointer (some ⟨B, o, none⟩)) = some (.pointer (some ⟨B, o + 4, none⟩)) := by kernel_rfl
@[go_sem] theorem fd325_1 (l : List Value) : fieldB Tryz.prog 325 1 (.agg ⟨l⟩) = l[4]? := by kernel_rfl
@[go_sem] theorem fa325_2 (B o : Nat) : fieldAddrB Tryz.prog 325 2 (.pointer (some ⟨B, o, none⟩)) = some (.pointer (some ⟨B, o + 5, none⟩)) := by kernel_rfl
@[go_sem] theorem fd325_2 (l : List Value) : fieldB Tryz.prog 325 2 (.agg ⟨l⟩) = l[5]? := by kernel_rfl
@[go_sem] theorem fa325_3 (B o : Nat) : fieldAddrB Tryz.prog 325 3 (.pointer (some ⟨B, o, none⟩)) = some (.pointer (some ⟨B, o + 6, none⟩)) := by kernel_rfl
@[go_sem] theorem fd325_3 (l : List Value) : fieldB Tryz.prog 325 3 (.agg ⟨l⟩) = some (.agg ⟨(l.drop 6).take 8⟩) := by kernel_rfl
@[go_sem] theorem fa325_4 (B o : Nat) : fieldAddrB Tryz.prog 325 4 (.pointer (some ⟨B, o, none⟩)) = some (.pointer (some ⟨B, o + 14, none⟩)) := by kernel_rfl
@[go_sem] theorem fd325_4 (l : List Value) : fieldB Tryz.prog 325 4 (.agg ⟨l⟩) = l[14]? := by kernel_rfl
@[go_sem] theorem fa325_5 (B o : Nat) : fieldAddrB Tryz.prog 325 5 (.pointer (some ⟨B, o, none⟩)) = some (.pointer (some ⟨B, o + 15, none⟩)) := by kernel_rfl
@[go_sem] theorem fd325_5 (l : List Value) : fieldB Tryz.prog 325 5 (.agg ⟨l⟩) = some (.agg ⟨(l.drop 15).take 2⟩) := by kernel_rfl
@[go_sem] theorem agg326 : isAggB Tryz.prog 326 = some true := by kernel_rfl
@[go_sem] theorem size326 : sizeB Tryz.prog 326 = some 17 := by kernel_rfl
@[go_sem] theorem apb326 : Nat.ble (((Tryz.prog.info? 326).map (·.bytes)).getD 10000000) 1000000 = true := by kernel_rfl
@[go_sem] theorem pz326 : plainZero Tryz.prog 326 = some [.int .i64 0, .int .i64 0, .int .i64 0, .int .i64 0, .pointer none, .pointer none, .slice none 0 0, .slice none 0 0, .slice none 0 0, .slice none 0 0, .bool false, .slice none 0 0, .slice none 0 0, .slice none 0 0, .pointer none, .int .i64 0, .int .i64 0] := by kernel_rfl
@[go_sem] theorem bld326 (parts : List (Nat × Value)) : buildB Tryz.prog 326 parts = (fillB (fun i => ([(0, 4), (4, 1), (5, 1), (6, 8), (14, 1), (15, 2)] : List (Nat × Nat))[i]?) [.int .i64 0, .int .i64 0, .int .i64 0, .int .i64 0, .pointer none, .pointer none, .slice none 0 0, .slice none 0 0, .slice none 0 0, .slice none 0 0, .bool false, .slice none 0 0, .slice none 0 0, .slice none 0 0, .pointer none, .int .i64 0, .int .i64 0] parts).map fun l => .agg ⟨l⟩ := by kernel_rfl
@[go_sem] theorem fa326_0 (B o : Nat) : fieldAddrB Tryz.prog 326 0 (.pointer (some ⟨B, o, none⟩)) = some (.pointer (some ⟨B, o, none⟩)) := by kernel_rfl
@[go_sem] theorem fd326_0 (l : List Value) : fieldB Tryz.prog 326 0 (.agg ⟨l⟩) = some (.agg ⟨(l.drop 0).take 4⟩) := by kernel_rfl
@[go_sem] theorem fa326_1 (B o : Nat) : fieldAddrB Tryz.prog 326 1 (.pointer (some ⟨B, o, none⟩)) = some (.pointer (some ⟨B, o + 4, none⟩)) := by kernel_rfl
@[go_sem] theorem fd326_1 (l : List Value) : fieldB Tryz.prog 326 1 (.agg ⟨l⟩) = l[4]? := by kernel_rfl
@[go_sem] theorem fa326_2 (B o : Nat) : fieldAddrB Tryz.prog 326 2 (.pointer (some ⟨B, o, none⟩)) = some (.pointer (some ⟨B, o + 5, none⟩)) := by kernel_rfl
@[go_sem] theorem fd326_2 (l : List Value) : fieldB Tryz.prog 326 2 (.agg ⟨l⟩) = l[5]? := by kernel_rfl
@[go_sem] theorem fa326_3 (B o : Nat) : fieldAddrB Tryz.prog 326 3 (.pointer (some ⟨B, o, none⟩)) = some (.pointer (some ⟨B, o + 6, none⟩)) := by kernel_rfl
@[go_sem] theorem fd326_3 (l : List Value) : fieldB Tryz.prog 326 3 (.agg ⟨l⟩) = some (.agg ⟨(l.drop 6).take 8⟩) := by kernel_rfl
@[go_sem] theorem fa326_4 (B o : Nat) : fieldAddrB Tryz.prog 326 4 (.pointer (some ⟨B, o, none⟩)) = some (.pointer (some ⟨B, o + 14, none⟩)) := by kernel_rfl
@[go_sem] theorem fd326_4 (l : List Value) : fieldB Tryz.prog 326 4 (.agg ⟨l⟩) = l[14]? := by kernel_rfl
@[go_sem] theorem fa326_5 (B o : Nat) : fieldAddrB Tryz.prog 326 5 (.pointer (some ⟨B, o, none⟩)) = some (.pointer (some ⟨B, o + 15, none⟩)) := by kernel_rfl
@[go_sem] theorem fd326_5 (l : List Value) : fieldB Tryz.prog 326 5 (.agg ⟨l⟩) = some (.agg ⟨(l.drop 15).take 2⟩) := by kernel_rfl
@[go_sem] theorem agg333 : isAggB Tryz.prog 333 = some true := by kernel_rfl
@[go_sem] theorem size333 : sizeB Tryz.prog 333 = some 2 := by kernel_rfl
@[go_sem] theorem apb333 : Nat.ble (((Tryz.prog.info? 333).map (·.bytes)).getD 10000000) 1000000 = true := by kernel_rfl
@[go_sem] theorem pz333 : plainZero Tryz.prog 333 = some [.int .i64 0, .slice none 0 0] := by kernel_rfl
@[go_sem] theorem bld333 (parts : List (Nat × Value)) : buildB Tryz.prog 333 parts = (fillB (fun i => ([(0, 1), (1, 1)] : List (Nat × Nat))[i]?) [.int .i64 0, .slice none 0 0] parts).map fun l => .agg ⟨l⟩ := by kernel_rfl
@[go_sem] theorem fa333_0 (B o : Nat) : fieldAddrB Tryz.prog 333 0 (.pointer (some ⟨B, o, none⟩)) = some (.pointer (some ⟨B, o, none⟩)) := by kernel_rfl
@[go_sem] theorem fd333_0 (l : List Value) : fieldB Tryz.prog 333 0 (.agg ⟨l⟩) = l[0]? := by kernel_rfl
@[go_sem] theorem fa333_1 (B o : Nat) : fieldAddrB Tryz.prog 333 1 (.pointer (some ⟨B, o, none⟩)) = some (.pointer (some ⟨B, o + 1, none⟩)) := by kernel_rfl
@[go_sem] theorem fd333_1 (l : List Value) : fieldB Tryz.prog 333 1 (.agg ⟨l⟩) = l[1]? := by kernel_rfl
@[go_sem] theorem agg334 : isAggB Tryz.prog 334 = some true := by kernel_rfl
@[go_sem] theorem size334 : sizeB Tryz.prog 334 = some 2 := by kernel_rfl
@[go_sem] theorem apb334 : Nat.ble (((Tryz.prog.info? 334).map (·.bytes)).getD 10000000) 1000000 = true := by kernel_rfl
@[go_sem] theorem pz334 : plainZero Tryz.prog 334 = some [.int .i64 0, .slice none 0 0] := by kernel_rfl
@[go_sem] theorem bld334 (parts : List (Nat × Value)) : buildB Tryz.prog 334 parts = (fillB (fun i => ([(0, 1), (1, 1)] : List (Nat × Nat))[i]?) [.int .i64 0, .slice none 0 0] parts).map fun l => .agg ⟨l⟩ := by kernel_rfl
@[go_sem] theorem fa334_0 (B o : Nat) : fieldAddrB Tryz.prog 334 0 (.pointer (some ⟨B, o, none⟩)) = some (.pointer (some ⟨B, o, none⟩)) := by kernel_rfl
@[go_sem] theorem fd334_0 (l : List Value) : fieldB Tryz.prog 334 0 (.agg ⟨l⟩) = l[0]? := by kernel_rfl
@[go_sem] theorem fa334_1 (B o : Nat) : fieldAddrB Tryz.prog 334 1 (.pointer (some ⟨B, o, none⟩)) = some (.pointer (some ⟨B, o + 1, none⟩)) := by kernel_rfl
@[go_sem] theorem fd334_1 (l : List Value) : fieldB Tryz.prog 334 1 (.agg ⟨l⟩) = l[1]? := by kernel_rfl
@[go_sem] theorem agg336 : isAggB Tryz.prog 336 = some true := by kernel_rfl
@[go_sem] theorem size336 : sizeB Tryz.prog 336 = some 64 := by kernel_rfl
@[go_sem] theorem und336 : Tryz.prog.underlying 336 = some (.array 64 180) := by kernel_rfl
@[go_sem] theorem apb336 : Nat.ble (((Tryz.prog.info? 336).map (·.bytes)).getD 10000000) 1000000 = true := by kernel_rfl
@[go_sem] theorem pz336 : plainZero Tryz.prog 336 = some [.int .u64 0, .int .u64 0, .int .u64 0, .int .u64 0, .int .u64 0, .int .u64 0, .int .u64 0, .int .u64 0, .int .u64 0, .int .u64 0, .int .u64 0, .int .u64 0, .int .u64 0, .int .u64 0, .int .u64 0, .int .u64 0, .int .u64 0, .int .u64 0, .int .u64 0, .int .u64 0, .int .u64 0, .int .u64 0, .int .u64 0, .int .u64 0, .int .u64 0, .int .u64 0, .int .u64 0, .int .u64 0, .int .u64 0, .int .u64 0, .int .u64 0, .int .u64 0, .int .u64 0, .int .u64 0, .int .u64 0, .int .u64 0, .int .u64 0, .int .u64 0, .int .u64 0, .int .u64 0, .int .u64 0, .int .u64 0, .int .u64 0, .int .u64 0, .int .u64 0, .int .u64 0, .int .u64 0, .int .u64 0, .int .u64 0, .int .u64 0, .int .u64 0, .int .u64 0, .int .u64 0, .int .u64 0, .int .u64 0, .int .u64 0, .int .u64 0, .int .u64 0, .int .u64 0, .int .u64 0, .int .u64 0, .int .u64 0, .int .u64 0, .int .u64 0] := by kernel_rfl
@[go_sem] theorem agg338 : isAggB Tryz.prog 338 = some true := by kernel_rfl
@[go_sem] theorem size338 : sizeB Tryz.prog 338 = some 64 := by kernel_rfl
@[go_sem] theorem und338 : Tryz.prog.underlying 338 = some (.array 64 5) := by kernel_rfl
@[go_sem] theorem apb338 : Nat.ble (((Tryz.prog.info? 338).map (·.bytes)).getD 10000000) 1000000 = true := by kernel_rfl
@[go_sem] theorem pz338 : plainZero Tryz.prog 338 = some [.int .u8 0, .int .u8 0, .int .u8 0, .int .u8 0, .int .u8 0, .int .u8 0, .int .u8 0, .int .u8 0, .int .u8 0, .int .u8 0, .int .u8 0, .int .u8 0, .int .u8 0, .int .u8 0, .int .u8 0, .int .u8 0, .int .u8 0, .int .u8 0, .int .u8 0, .int .u8 0, .int .u8 0, .int .u8 0, .int .u8 0, .int .u8 0, .int .u8 0, .int .u8 0, .int .u8 0, .int .u8 0, .int .u8 0, .int .u8 0, .int .u8 0, .int .u8 0, .int .u8 0, .int .u8 0, .int .u8 0, .int .u8 0, .int .u8 0, .int .u8 0, .int .u8 0, .int .u8 0, .int .u8 0, .int .u8 0, .int .u8 0, .int .u8 0, .int .u8 0, .int .u8 0, .int .u8 0, .int .u8 0, .int .u8 0, .int .u8 0, .int .u8 0, .int .u8 0, .int .u8 0, .int .u8 0, .int .u8 0, .int .u8 0, .int .u8 0, .int .u8 0, .int .u8 0, .int .u8 0, .int .u8 0, .int .u8 0, .int .u8 0, .int .u8 0] := by kernel_rfl
@[go_sem] theorem agg340 : isAggB Tryz.prog 340 = some true := by kernel_rfl
@[go_sem] theorem size340 : sizeB Tryz.prog 340 = some 4 := by kernel_rfl
@[go_sem] theorem apb340 : Nat.ble (((Tryz.prog.info? 340).map (·.bytes)).getD 10000000) 1000000 = true := by kernel_rfl
@[go_sem] theorem pz340 : plainZero Tryz.prog 340 = some [.int .i64 0, .int .i64 0, .int .i64 0, .int .i64 0] := by kernel_rfl
@[go_sem] theorem flat340 : flatI Tryz.prog 340 = some 4 := by kernel_rfl
@[go_sem] theorem bld340 (parts : List (Nat × Value)) : buildB Tryz.prog 340 parts = (fillB (fun i => ([(0, 1), (1, 1), (2, 1), (3, 1)] : List (Nat × Nat))[i]?) [.int .i64 0, .int .i64 0, .int .i64 0, .int .i64 0] parts).map fun l => .agg ⟨l⟩ := by kernel_rfl
@[go_sem] theorem fa340_0 (B o : Nat) : fieldAddrB Tryz.prog 340 0 (.pointer (some ⟨B, o, none⟩)) = some (.pointer (some ⟨B, o, none⟩)) := by kernel_rfl
@[go_sem] theorem fd340_0 (l : List Value) : fieldB Tryz.prog 340 0 (.agg ⟨l⟩) = l[0]? := by kernel_rfl
@[go_sem] theorem fa340_1 (B o : Nat) : fieldAddrB Tryz.prog 340 1 (.pointer (some ⟨B, o, none⟩)) = some (.pointer (some ⟨B, o + 1, none⟩)) := by kernel_rfl
@[go_sem] theorem fd340_1 (l : List Value) : fieldB Tryz.prog 340 1 (.agg ⟨l⟩) = l[1]? := by kernel_rfl
@[go_sem] theorem fa340_2 (B o : Nat) : fieldAddrB Tryz.prog 340 2 (.pointer (some ⟨B, o, none⟩)) = some (.pointer (some ⟨B, o + 2, none⟩)) := by kernel_rfl
@[go_sem] theorem fd340_2 (l : List Value) : fieldB Tryz.prog 340 2 (.agg ⟨l⟩) = l[2]? := by kernel_rfl
@[go_sem] theorem fa340_3 (B o : Nat) : fieldAddrB Tryz.prog 340 3 (.pointer (some ⟨B, o, none⟩)) = some (.pointer (some ⟨B, o + 3, none⟩)) := by kernel_rfl
@[go_sem] theorem fd340_3 (l : List Value) : fieldB Tryz.prog 340 3 (.agg ⟨l⟩) = l[3]? := by kernel_rfl
@[go_sem] theorem agg341 : isAggB Tryz.prog 341 = some true := by kernel_rfl
@[go_sem] theorem size341 : sizeB Tryz.prog 341 = some 4 := by kernel_rfl
@[go_sem] theorem apb341 : Nat.ble (((Tryz.prog.info? 341).map (·.bytes)).getD 10000000) 1000000 = true := by kernel_rfl
@[go_sem] theorem pz341 : plainZero Tryz.prog 341 = some [.int .i64 0, .int .i64 0, .int .i64 0, .int .i64 0] := by kernel_rfl
@[go_sem] theorem flat341 : flatI Tryz.prog 341 = some 4 := by kernel_rfl
@[go_sem] theorem bld341 (parts : List (Nat × Value)) : buildB Tryz.prog 341 parts = (fillB (fun i => ([(0, 1), (1, 1), (2, 1), (3, 1)] : List (Nat × Nat))[i]?) [.int .i64 0, .int .i64 0, .int .i64 0, .int .i64 0] parts).map fun l => .agg ⟨l⟩ := by kernel_rfl
@[go_sem] theorem fa341_0 (B o : Nat) : fieldAddrB Tryz.prog 341 0 (.pointer (some ⟨B, o, none⟩)) = some (.pointer (some ⟨B, o, none⟩)) := by kernel_rfl
@[go_sem] theorem fd341_0 (l : List Value) : fieldB Tryz.prog 341 0 (.agg ⟨l⟩) = l[0]? := by kernel_rfl
@[go_sem] theorem fa341_1 (B o : Nat) : fieldAddrB Tryz.prog 341 1 (.pointer (some ⟨B, o, none⟩)) = some (.pointer (some ⟨B, o + 1, none⟩)) := by kernel_rfl
@[go_sem] theorem fd341_1 (l : List Value) : fieldB Tryz.prog 341 1 (.agg ⟨l⟩) = l[1]? := by kernel_rfl
@[go_sem] theorem fa341_2 (B o : Nat) : fieldAddrB Tryz.prog 341 2 (.pointer (some ⟨B, o, none⟩)) = some (.pointer (some ⟨B, o + 2, none⟩)) := by kernel_rfl
@[go_sem] theorem fd341_2 (l : List Value) : fieldB Tryz.prog 341 2 (.agg ⟨l⟩) = l[2]? := by kernel_rfl
@[go_sem] theorem fa341_3 (B o : Nat) : fieldAddrB Tryz.prog 341 3 (.pointer (some ⟨B, o, none⟩)) = some (.pointer (some ⟨B, o + 3, none⟩)) := by kernel_rfl
@[go_sem] theorem fd341_3 (l : List Value) : fieldB Tryz.prog 341 3 (.agg ⟨l⟩) = l[3]? := by kernel_rfl
@[go_sem] theorem agg348 : isAggB Tryz.prog 348 = some false := by kernel_rfl
@[go_sem] theorem size348 : sizeB Tryz.prog 348 = some 1 := by kernel_rfl
@[go_sem] theorem und348 : Tryz.prog.underlying 348 = some (.slice 28) := by kernel_rfl
@[go_sem] theorem apb348 : Nat.ble (((Tryz.prog.info? 348).map (·.bytes)).getD 10000000) 1000000 = true := by kernel_rfl
@[go_sem] theorem pz348 : plainZero Tryz.prog 348 = some [.slice none 0 0] := by kernel_rfl
@[go_sem] theorem agg365 : isAggB Tryz.prog 365 = some false := by kernel_rfl
@[go_sem] theorem size365 : sizeB Tryz.prog 365 = some 1 := by kernel_rfl
@[go_sem] theorem und365 : Tryz.prog.underlying 365 = some (.int .i64) := by kernel_rfl
@[go_sem] theorem apb365 : Nat.ble (((Tryz.prog.info? 365).map (·.bytes)).getD 10000000) 1000000 = true := by kernel_rfl
@[go_sem] theorem pz365 : plainZero Tryz.prog 365 = some [.int .i64 0] := by kernel_rfl
@[go_sem] theorem agg374 : isAggB Tryz.prog 374 = some false := by kernel_rfl
@[go_sem] theorem size374 : sizeB Tryz.prog 374 = some 1 := by kernel_rfl
@[go_sem] theorem und374 : Tryz.prog.underlying 374 = some (.int .u32) := by kernel_rfl
@[go_sem] theorem apb374 : Nat.ble (((Tryz.prog.info? 374).map (·.bytes)).getD 10000000) 1000000 = true := by kernel_rfl
@[go_sem] theorem pz374 : plainZero Tryz.prog 374 = some [.int .u32 0] := by kernel_rfl
@[go_sem] theorem agg375 : isAggB Tryz.prog 375 = some true := by kernel_rfl
@[go_sem] theorem size375 : sizeB Tryz.prog 375 = some 5 := by kernel_rfl
@[go_sem] theorem apb375 : Nat.ble (((Tryz.prog.info? 375).map (·.bytes)).getD 10000000) 1000000 = true := by kernel_rfl
@[go_sem] theorem pz375 : plainZero Tryz.prog 375 = some [.string ⟨#[]⟩, .bool false, .bool false, .bool false, .bool false] := by kernel_rfl
@[go_sem] theorem bld375 (parts : List (Nat × Value)) : buildB Tryz.prog 375 parts = (fillB (fun i => ([(0, 1), (1, 1), (2, 1), (3, 1), (4, 1)] : List (Nat × Nat))[i]?) [.string ⟨#[]⟩, .bool false, .bool false, .bool false, .bool false] parts).map fun l => .agg ⟨l⟩ := by kernel_rfl
@[go_sem] theorem fa375_0 (B o : Nat) : fieldAddrB Tryz.prog 375 0 (.pointer (some ⟨B, o, none⟩)) = some (.pointer (some ⟨B, o, none⟩)) := by kernel_rfl
@[go_sem] theorem fd375_0 (l : List Value) : fieldB Tryz.prog 375 0 (.agg ⟨l⟩) = l[0]? := by kernel_rfl
@[go_sem] theorem fa375_1 (B o : Nat) : fieldAddrB Tryz.prog 375 1 (.pointer (some ⟨B, o, none⟩)) = some (.pointer (some ⟨B, o + 1, none⟩)) := by kernel_rfl
@[go_sem] theorem fd375_1 (l : List Value) : fieldB Tryz.prog 375 1 (.agg ⟨l⟩) = l[1]? := by kernel_rfl
@[go_sem] theorem fa375_2 (B o : Nat) : fieldAddrB Tryz.prog 375 2 (.pointer (some ⟨B, o, none⟩)) = some (.pointer (some ⟨B, o + 2, none⟩)) := by kernel_rfl
@[go_sem] theorem fd375_2 (l : List Value) : fieldB Tryz.prog 375 2 (.agg ⟨l⟩) = l[2]? := by kernel_rfl
@[go_sem] theorem fa375_3 (B o : Nat) : fieldAddrB Tryz.prog 375 3 (.pointer (some ⟨B, o, none⟩)) = some (.pointer (some ⟨B, o + 3, none⟩)) := by kernel_rfl
@[go_sem] theorem fd375_3 (l : List Value) : fieldB Tryz.prog 375 3 (.agg ⟨l⟩) = l[3]? := by kernel_rfl
@[go_sem] theorem fa375_4 (B o : Nat) : fieldAddrB Tryz.prog 375 4 (.pointer (some ⟨B, o, none⟩)) = some (.pointer (some ⟨B, o + 4, none⟩)) := by kernel_rfl
@[go_sem] theorem fd375_4 (l : List Value) : fieldB Tryz.prog 375 4 (.agg ⟨l⟩) = l[4]? := by kernel_rfl
@[go_sem] theorem agg376 : isAggB Tryz.prog 376 = some true := by kernel_rfl
@[go_sem] theorem size376 : sizeB Tryz.prog 376 = some 5 := by kernel_rfl
@[go_sem] theorem apb376 : Nat.ble (((Tryz.prog.info? 376).map (·.bytes)).getD 10000000) 1000000 = true := by kernel_rfl
@[go_sem] theorem pz376 : plainZero Tryz.prog 376 = some [.string ⟨#[]⟩, .bool false, .bool false, .bool false, .bool false] := by kernel_rfl
@[go_sem] theorem bld376 (parts : List (Nat × Value)) : buildB Tryz.prog 376 parts = (fillB (fun i => ([(0, 1), (1, 1), (2, 1), (3, 1), (4, 1)] : List (Nat × Nat))[i]?) [.string ⟨#[]⟩, .bool false, .bool false, .bool false, .bool false] parts).map fun l => .agg ⟨l⟩ := by kernel_rfl
@[go_sem] theorem fa376_0 (B o : Nat) : fieldAddrB Tryz.prog 376 0 (.pointer (some ⟨B, o, none⟩)) = some (.pointer (some ⟨B, o, none⟩)) := by kernel_rfl
@[go_sem] theorem fd376_0 (l : List Value) : fieldB Tryz.prog 376 0 (.agg ⟨l⟩) = l[0]? := by kernel_rfl
@[go_sem] theorem fa376_1 (B o : Nat) : fieldAddrB Tryz.prog 376 1 (.pointer (some ⟨B, o, none⟩)) = some (.pointer (some ⟨B, o + 1, none⟩)) := by kernel_rfl
@[go_sem] theorem fd376_1 (l : List Value) : fieldB Tryz.prog 376 1 (.agg ⟨l⟩) = l[1]? := by kernel_rfl
@[go_sem] theorem fa376_2 (B o : Nat) : fieldAddrB Tryz.prog 376 2 (.pointer (some ⟨B, o, none⟩)) = some (.pointer (some ⟨B, o + 2, none⟩)) := by kernel_rfl
@[go_sem] theorem fd376_2 (l : List Value) : fieldB Tryz.prog 376 2 (.agg ⟨l⟩) = l[2]? := by kernel_rfl
@[go_sem] theorem fa376_3 (B o : Nat) : fieldAddrB Tryz.prog 376 3 (.pointer (some ⟨B, o, none⟩)) = some (.pointer (some ⟨B, o + 3, none⟩)) := by kernel_rfl
@[go_sem] theorem fd376_3 (l : List Value) : fieldB Tryz.prog 376 3 (.agg ⟨l⟩) = l[3]? := by kernel_rfl
@[go_sem] theorem fa376_4 (B o : Nat) : fieldAddrB Tryz.prog 376 4 (.pointer (some ⟨B, o, none⟩)) = some (.pointer (some ⟨B, o + 4, none⟩)) := by kernel_rfl
@[go_sem] theorem fd376_4 (l : List Value) : fieldB Tryz.prog 376 4 (.agg ⟨l⟩) = l[4]? := by kernel_rfl
@[go_sem] theorem agg383 : isAggB Tryz.prog 383 = some false := by kernel_rfl
@[go_sem] theorem size383 : sizeB Tryz.prog 383 = some 1 := by kernel_rfl
@[go_sem] theorem und383 : Tryz.prog.underlying 383 = some (.int .u64) := by kernel_rfl
@[go_sem] theorem apb383 : Nat.ble (((Tryz.prog.info? 383).map (·.bytes)).getD 10000000) 1000000 = true := by kernel_rfl
@[go_sem] theorem pz383 : plainZero Tryz.prog 383 = some [.int .u64 0] := by kernel_rfl
@[go_sem] theorem agg387 : isAggB Tryz.prog 387 = some false := by kernel_rfl
@[go_sem] theorem size387 : sizeB Tryz.prog 387 = some 1 := by kernel_rfl
@[go_sem] theorem und387 : Tryz.prog.underlying 387 = some (.pointer 3) := by kernel_rfl
@[go_sem] theorem apb387 : Nat.ble (((Tryz.prog.info? 387).map (·.bytes)).getD 10000000) 1000000 = true := by kernel_rfl
@[go_sem] theorem pz387 : plainZero Tryz.prog 387 = some [.pointer none] := by kernel_rfl
@[go_sem] theorem agg389 : isAggB Tryz.prog 389 = some true := by kernel_rfl
@[go_sem] theorem size389 : sizeB Tryz.prog 389 = some 95 := by kernel_rfl
@[go_sem] theorem und389 : Tryz.prog.underlying 389 = some (.array 19 376) := by kernel_rfl
@[go_sem] theorem agg391 : isAggB Tryz.prog 391 = some false := by kernel_rfl
@[go_sem] theorem size391 : sizeB Tryz.prog 391 = some 1 := by kernel_rfl
@[go_sem] theorem und391 : Tryz.prog.underlying 391 = some (.pointer 383) := by kernel_rfl
@[go_sem] theorem apb391 : Nat.ble (((Tryz.prog.info? 391).map (·.bytes)).getD 10000000) 1000000 = true := by kernel_rfl
@[go_sem] theorem pz391 : plainZero Tryz.prog 391 = some [.pointer none] := by kernel_rfl
@[go_sem] theorem agg404 : isAggB Tryz.prog 404 = some false := by kernel_rfl
@[go_sem] theorem size404 : sizeB Tryz.prog 404 = some 1 := by kernel_rfl
@[go_sem] theorem und404 : Tryz.prog.underlying 404 = some (.pointer 5) := by kernel_rfl
@[go_sem] theorem apb404 : Nat.ble (((Tryz.prog.info? 404).map (·.bytes)).getD 10000000) 1000000 = true := by kernel_rfl
@[go_sem] theorem pz404 : plainZero Tryz.prog 404 = some [.pointer none] := by kernel_rfl
@[go_sem] theorem agg411 : isAggB Tryz.prog 411 = some true := by kernel_rfl
@[go_sem] theorem size411 : sizeB Tryz.prog 411 = some 4 := by kernel_rfl
@[go_sem] theorem apb411 : Nat.ble (((Tryz.prog.info? 411).map (·.bytes)).getD 10000000) 1000000 = true := by kernel_rfl
@[go_sem] theorem pz411 : plainZero Tryz.prog 411 = some [.int .i64 0, .int .i64 0, .int .i64 0, .int .i64 0] := by kernel_rfl
@[go_sem] theorem bld411 (parts : List (Nat × Value)) : buildB Tryz.prog 411 parts = (fillB (fun i => ([(0, 1), (1, 3)] : List (Nat × Nat))[i]?) [.int .i64 0, .int .i64 0, .int .i64 0, .int .i64 0] parts).map fun l => .agg ⟨l⟩ := by kernel_rfl
@[go_sem] theorem fa411_0 (B o : Nat) : fieldAddrB Tryz.prog 411 0 (.pointer (some ⟨B, o, none⟩)) = some (.pointer (some ⟨B, o, none⟩)) := by kernel_rfl
@[go_sem] theorem fd411_0 (l : List Value) : fieldB Tryz.prog 411 0 (.agg ⟨l⟩) = l[0]? := by kernel_rfl
@[go_sem] theorem fa411_1 (B o : Nat) : fieldAddrB Tryz.prog 411 1 (.pointer (some ⟨B, o, none⟩)) = some (.pointer (some ⟨B, o + 1, none⟩)) := by kernel_rfl
@[go_sem] theorem fd411_1 (l : List Value) : fieldB Tryz.prog 411 1 (.agg ⟨l⟩) = some (.agg ⟨(l.drop 1).take 3⟩) := by kernel_rfl
@[go_sem] theorem agg412 : isAggB Tryz.prog 412 = some true := by kernel_rfl
@[go_sem] theorem size412 : sizeB Tryz.prog 412 = some 4 := by kernel_rfl
@[go_sem] theorem apb412 : Nat.ble (((Tryz.prog.info? 412).map (·.bytes)).getD 10000000) 1000000 = true := by kernel_rfl
@[go_sem] theorem pz412 : plainZero Tryz.prog 412 = some [.int .i64 0, .int .i64 0, .int .i64 0, .int .i64 0] := by kernel_rfl
@[go_sem] theorem bld412 (parts : List (Nat × Value)) : buildB Tryz.prog 412 parts = (fillB (fun i => ([(0, 1), (1, 3)] : List (Nat × Nat))[i]?) [.int .i64 0, .int .i64 0, .int .i64 0, .int .i64 0] parts).map fun l => .agg ⟨l⟩ := by kernel_rfl
@[go_sem] theorem fa412_0 (B o : Nat) : fieldAddrB Tryz.prog 412 0 (.pointer (some ⟨B, o, none⟩)) = some (.pointer (some ⟨B, o, none⟩)) := by kernel_rfl
@[go_sem] theorem fd412_0 (l : List Value) : fieldB Tryz.prog 412 0 (.agg ⟨l⟩) = l[0]? := by kernel_rfl
@[go_sem] theorem fa412_1 (B o : Nat) : fieldAddrB Tryz.prog 412 1 (.pointer (some ⟨B, o, none⟩)) = some (.pointer (some ⟨B, o + 1, none⟩)) := by kernel_rfl
@[go_sem] theorem fd412_1 (l : List Value) : fieldB Tryz.prog 412 1 (.agg ⟨l⟩) = some (.agg ⟨(l.drop 1).take 3⟩) := by kernel_rfl
@[go_sem] theorem agg415 : isAggB Tryz.prog 415 = some true := by kernel_rfl
@[go_sem] theorem size415 : sizeB Tryz.prog 415 = some 5 := by kernel_rfl
@[go_sem] theorem apb415 : Nat.ble (((Tryz.prog.info? 415).map (·.bytes)).getD 10000000) 1000000 = true := by kernel_rfl
@[go_sem] theorem pz415 : plainZero Tryz.prog 415 = some [.int .i64 0, .int .i64 0, .int .i64 0, .int .i64 0, .int .i64 0] := by kernel_rfl
@[go_sem] theorem bld415 (parts : List (Nat × Value)) : buildB Tryz.prog 415 parts = (fillB (fun i => ([(0, 1), (1, 1), (2, 3)] : List (Nat × Nat))[i]?) [.int .i64 0, .int .i64 0, .int .i64 0, .int .i64 0, .int .i64 0] parts).map fun l => .agg ⟨l⟩ := by kernel_rfl
@[go_sem] theorem fa415_0 (B o : Nat) : fieldAddrB Tryz.prog 415 0 (.pointer (some ⟨B, o, none⟩)) = some (.pointer (some ⟨B, o, none⟩)) := by kernel_rfl
@[go_sem] theorem fd415_0 (l : List Value) : fieldB Tryz.prog 415 0 (.agg ⟨l⟩) = l[0]? := by kernel_rfl
@[go_sem] theorem fa415_1 (B o : Nat) : fieldAddrB Tryz.prog 415 1 (.pointer (some ⟨B, o, none⟩)) = some (.pointer (some ⟨B, o + 1, none⟩)) := by kernel_rfl
@[go_sem] theorem fd415_1 (l : List Value) : fieldB Tryz.prog 415 1 (.agg ⟨l⟩) = l[1]? := by kernel_rfl
@[go_sem] theorem fa415_2 (B o : Nat) : fieldAddrB Tryz.prog 415 2 (.pointer (some ⟨B, o, none⟩)) = some (.pointer (some ⟨B, o + 2, none⟩)) := by kernel_rfl
@[go_sem] theorem fd415_2 (l : List Value) : fieldB Tryz.prog 415 2 (.agg ⟨l⟩) = some (.agg ⟨(l.drop 2).take 3⟩) := by kernel_rfl
@[go_sem] theorem agg416 : isAggB Tryz.prog 416 = some true := by kernel_rfl
@[go_sem] theorem size416 : sizeB Tryz.prog 416 = some 5 := by kernel_rfl
@[go_sem] theorem apb416 : Nat.ble (((Tryz.prog.info? 416).map (·.bytes)).getD 10000000) 1000000 = true := by kernel_rfl
@[go_sem] theorem pz416 : plainZero Tryz.prog 416 = some [.int .i64 0, .int .i64 0, .int .i64 0, .int .i64 0, .int .i64 0] := by kernel_rfl
@[go_sem] theorem bld416 (parts : List (Nat × Value)) : buildB Tryz.prog 416 parts = (fillB (fun i => ([(0, 1), (1, 1), (2, 3)] : List (Nat × Nat))[i]?) [.int .i64 0, .int .i64 0, .int .i64 0, .int .i64 0, .int .i64 0] parts).map fun l => .agg ⟨l⟩ := by kernel_rfl
@[go_sem] theorem fa416_0 (B o : Nat) : fieldAddrB Tryz.prog 416 0 (.pointer (some ⟨B, o, none⟩)) = some (.pointer (some ⟨B, o, none⟩)) := by kernel_rfl
@[go_sem] theorem fd416_0 (l : List Value) : fieldB Tryz.prog 416 0 (.agg ⟨l⟩) = l[0]? := by kernel_rfl
@[go_sem] theorem fa416_1 (B o : Nat) : fieldAddrB Tryz.prog 416 1 (.pointer (some ⟨B, o, none⟩)) = some (.pointer (some ⟨B, o + 1, none⟩)) := by kernel_rfl
@[go_sem] theorem fd416_1 (l : List Value) : fieldB Tryz.prog 416 1 (.agg ⟨l⟩) = l[1]? := by kernel_rfl
@[go_sem] theorem fa416_2 (B o : Nat) : fieldAddrB Tryz.prog 416 2 (.pointer (some ⟨B, o, none⟩)) = some (.pointer (some ⟨B, o + 2, none⟩)) := by kernel_rfl
@[go_sem] theorem fd416_2 (l : List Value) : fieldB Tryz.prog 416 2 (.agg ⟨l⟩) = some (.agg ⟨(l.drop 2).take 3⟩) := by kernel_rfl
@[go_sem] theorem ifc22 (x : Value) : ifaceB Tryz.prog 22 x = some (.iface 22 x) := by kernel_rfl
@[go_sem] theorem rcv22_Error (x : Value) : recvB Tryz.prog 22 "Error" x = some (291, x) := by kernel_rfl
@[go_sem] theorem ifc24 (x : Value) : ifaceB Tryz.prog 24 x = some (.iface 24 x) := by kernel_rfl
@[go_sem] theorem ifc26 (x : Value) : ifaceB Tryz.prog 26 x = some (.iface 26 x) := by kernel_rfl
@[go_sem] theorem ifc32 (x : Value) : ifaceB Tryz.prog 32 x = some (.iface 32 x) := by kernel_rfl
@[go_sem] theorem ifc34 (x : Value) : ifaceB Tryz.prog 34 x = some (.iface 34 x) := by kernel_rfl
@[go_sem] theorem ifc37 (x : Value) : ifaceB Tryz.prog 37 x = some (.iface 37 x) := by kernel_rfl
@[go_sem] theorem ifc39 (x : Value) : ifaceB Tryz.prog 39 x = some (.iface 39 x) := by kernel_rfl
@[go_sem] theorem ifc42 (x : Value) : ifaceB Tryz.prog 42 x = some (.iface 42 x) := by kernel_rfl
@[go_sem] theorem ifc44 (x : Value) : ifaceB Tryz.prog 44 x = some (.iface 44 x) := by kernel_rfl
@[go_sem] theorem ifc50 (x : Value) : ifaceB Tryz.prog 50 x = some (.iface 50 x) := by kernel_rfl
@[go_sem] theorem ifc54 (x : Value) : ifaceB Tryz.prog 54 x = some (.iface 54 x) := by kernel_rfl
@[go_sem] theorem ifc64 (x : Value) : ifaceB Tryz.prog 64 x = some (.iface 64 x) := by kernel_rfl
@[go_sem] theorem ifc77 (x : Value) : ifaceB Tryz.prog 77 x = some (.iface 77 x) := by kernel_rfl
@[go_sem] theorem rcv77_Config (x : Value) : recvB Tryz.prog 77 "Config" x = some (200, x) := by kernel_rfl
@[go_sem] theorem rcv77_Create (x : Value) : recvB Tryz.prog 77 "Create" x = some (63, x) := by kernel_rfl
@[go_sem] theorem rcv77_Defer (x : Value) : recvB Tryz.prog 77 "Defer" x = some (71, x) := by kernel_rfl
@[go_sem] theorem rcv77_Delete (x : Value) : recvB Tryz.prog 77 "Delete" x = some (65, x) := by kernel_rfl
@[go_sem] theorem rcv77_Free (x : Value) : recvB Tryz.prog 77 "Free" x = some (122, x) := by kernel_rfl
@[go_sem] theorem rcv77_Get (x : Value) : recvB Tryz.prog 77 "Get" x = some (69, x) := by kernel_rfl
@[go_sem] theorem rcv77_Held (x : Value) : recvB Tryz.prog 77 "Held" x = some (175, x) := by kernel_rfl
@[go_sem] theorem rcv77_Hold (x : Value) : recvB Tryz.prog 77 "Hold" x = some (118, x) := by kernel_rfl
@[go_sem] theorem rcv77_Insert (x : Value) : recvB Tryz.prog 77 "Insert" x = some (67, x) := by kernel_rfl
@[go_sem] theorem rcv77_Maintain (x : Value) : recvB Tryz.prog 77 "Maintain" x = some (72, x) := by kernel_rfl
@[go_sem] theorem rcv77_Queue (x : Value) : recvB Tryz.prog 77 "Queue" x = some (179, x) := by kernel_rfl
@[go_sem] theorem rcv77_Read (x : Value) : recvB Tryz.prog 77 "Read" x = some (74, x) := by kernel_rfl
@[go_sem] theorem rcv77_Reader (x : Value) : recvB Tryz.prog 77 "Reader" x = some (73, x) := by kernel_rfl
@[go_sem] theorem rcv77_Remove (x : Value) : recvB Tryz.prog 77 "Remove" x = some (68, x) := by kernel_rfl
@[go_sem] theorem rcv77_Res (x : Value) : recvB Tryz.prog 77 "Res" x = some (81, x) := by kernel_rfl
@[go_sem] theorem rcv77_Set (x : Value) : recvB Tryz.prog 77 "Set" x = some (70, x) := by kernel_rfl
@[go_sem] theorem ifc83 (x : Value) : ifaceB Tryz.prog 83 x = some (.iface 83 x) := by kernel_rfl
@[go_sem] theorem rcv83_Do (x : Value) : recvB Tryz.prog 83 "Do" x = some (28, x) := by kernel_rfl
@[go_sem] theorem rcv83_Handle (x : Value) : recvB Tryz.prog 83 "Handle" x = some (99, x) := by kernel_rfl
@[go_sem] theorem rcv83_World (x : Value) : recvB Tryz.prog 83 "World" x = some (292, x) := by kernel_rfl
@[go_sem] theorem ifc89 (x : Value) : ifaceB Tryz.prog 89 x = some (.iface 89 x) := by kernel_rfl
@[go_sem] theorem rcv89_Delete (x : Value) : recvB Tryz.prog 89 "Delete" x = some (98, x) := by kernel_rfl
@[go_sem] theorem rcv89_Get (x : Value) : recvB Tryz.prog 89 "Get" x = some (102, x) := by kernel_rfl
@[go_sem] theorem rcv89_Insert (x : Value) : recvB Tryz.prog 89 "Insert" x = some (100, x) := by kernel_rfl
@[go_sem] theorem rcv89_Parts (x : Value) : recvB Tryz.prog 89 "Parts" x = some (85, x) := by kernel_rfl
@[go_sem] theorem rcv89_Remove (x : Value) : recvB Tryz.prog 89 "Remove" x = some (101, x) := by kernel_rfl
@[go_sem] theorem rcv89_Set (x : Value) : recvB Tryz.prog 89 "Set" x = some (103, x) := by kernel_rfl
@[go_sem] theorem ifc92 (x : Value) : ifaceB Tryz.prog 92 x = some (.iface 92 x) := by kernel_rfl
@[go_sem] theorem ifc93 (x : Value) : ifaceB Tryz.prog 93 x = some (.iface 93 x) := by kernel_rfl
@[go_sem] theorem ifc94 (x : Value) : ifaceB Tryz.prog 94 x = some (.iface 94 x) := by kernel_rfl
@[go_sem] theorem rcv94_All (x : Value) : recvB Tryz.prog 94 "All" x = some (222, x) := by kernel_rfl
@[go_sem] theorem rcv94_Get (x : Value) : recvB Tryz.prog 94 "Get" x = some (82, x) := by kernel_rfl
@[go_sem] theorem rcv94_Len (x : Value) : recvB Tryz.prog 94 "Len" x = some (294, x) := by kernel_rfl
@[go_sem] theorem rcv94_Set (x : Value) : recvB Tryz.prog 94 "Set" x = some (83, x) := by kernel_rfl
@[go_sem] theorem ifc96 (x : Value) : ifaceB Tryz.prog 96 x = some (.iface 96 x) := by kernel_rfl
@[go_sem] theorem ifc97 (x : Value) : ifaceB Tryz.prog 97 x = some (.iface 97 x) := by kernel_rfl
@[go_sem] theorem ifc98 (x : Value) : ifaceB Tryz.prog 98 x = some (.iface 98 x) := by kernel_rfl
@[go_sem] theorem rcv98_Add (x : Value) : recvB Tryz.prog 98 "Add" x = some (110, x) := by kernel_rfl
@[go_sem] theorem rcv98_Drain (x : Value) : recvB Tryz.prog 98 "Drain" x = some (112, x) := by kernel_rfl
@[go_sem] theorem rcv98_Join (x : Value) : recvB Tryz.prog 98 "Join" x = some (180, x) := by kernel_rfl
@[go_sem] theorem rcv98_Len (x : Value) : recvB Tryz.prog 98 "Len" x = some (295, x) := by kernel_rfl
@[go_sem] theorem ifc101 (x : Value) : ifaceB Tryz.prog 101 x = some (.iface 101 x) := by kernel_rfl
@[go_sem] theorem ifc102 (x : Value) : ifaceB Tryz.prog 102 x = some (.iface 102 x) := by kernel_rfl
@[go_sem] theorem ifc103 (x : Value) : ifaceB Tryz.prog 103 x = some (.iface 103 x) := by kernel_rfl
@[go_sem] theorem ifc105 (x : Value) : ifaceB Tryz.prog 105 x = some (.iface 105 x) := by kernel_rfl
@[go_sem] theorem rcv105_Close (x : Value) : recvB Tryz.prog 105 "Close" x = some (79, x) := by kernel_rfl
@[go_sem] theorem rcv105_Get (x : Value) : recvB Tryz.prog 105 "Get" x = some (265, x) := by kernel_rfl
@[go_sem] theorem rcv105_Left (x : Value) : recvB Tryz.prog 105 "Left" x = some (76, x) := by kernel_rfl
@[go_sem] theorem rcv105_Next (x : Value) : recvB Tryz.prog 105 "Next" x = some (77, x) := by kernel_rfl
@[go_sem] theorem rcv105_Set (x : Value) : recvB Tryz.prog 105 "Set" x = some (78, x) := by kernel_rfl
@[go_sem] theorem ifc106 (x : Value) : ifaceB Tryz.prog 106 x = some (.iface 106 x) := by kernel_rfl
@[go_sem] theorem ifc107 (x : Value) : ifaceB Tryz.prog 107 x = some (.iface 107 x) := by kernel_rfl
@[go_sem] theorem ifc111 (x : Value) : ifaceB Tryz.prog 111 x = some (.iface 111 x) := by kernel_rfl
@[go_sem] theorem rcv111_At (x : Value) : recvB Tryz.prog 111 "At" x = some (86, x) := by kernel_rfl
@[go_sem] theorem rcv111_Counts (x : Value) : recvB Tryz.prog 111 "Counts" x = some (296, x) := by kernel_rfl
@[go_sem] theorem rcv111_Create (x : Value) : recvB Tryz.prog 111 "Create" x = some (95, x) := by kernel_rfl
@[go_sem] theorem rcv111_Delete (x : Value) : recvB Tryz.prog 111 "Delete" x = some (144, x) := by kernel_rfl
@[go_sem] theorem rcv111_Mask (x : Value) : recvB Tryz.prog 111 "Mask" x = some (165, x) := by kernel_rfl
@[go_sem] theorem rcv111_Merge (x : Value) : recvB Tryz.prog 111 "Merge" x = some (111, x) := by kernel_rfl
@[go_sem] theorem rcv111_Raise (x : Value) : recvB Tryz.prog 111 "Raise" x = some (64, x) := by kernel_rfl
@[go_sem] theorem rcv111_State (x : Value) : recvB Tryz.prog 111 "State" x = some (109, x) := by kernel_rfl
@[go_sem] theorem ifc114 (x : Value) : ifaceB Tryz.prog 114 x = some (.iface 114 x) := by kernel_rfl
@[go_sem] theorem rcv114_Add (x : Value) : recvB Tryz.prog 114 "Add" x = some (37, x) := by kernel_rfl
@[go_sem] theorem rcv114_Descs (x : Value) : recvB Tryz.prog 114 "Descs" x = some (159, x) := by kernel_rfl
@[go_sem] theorem rcv114_Len (x : Value) : recvB Tryz.prog 114 "Len" x = some (293, x) := by kernel_rfl
@[go_sem] theorem rcv114_Of (x : Value) : recvB Tryz.prog 114 "Of" x = some (131, x) := by kernel_rfl
@[go_sem] theorem rcv114_Slot (x : Value) : recvB Tryz.prog 114 "Slot" x = some (115, x) := by kernel_rfl
@[go_sem] theorem rcv114_Strip (x : Value) : recvB Tryz.prog 114 "Strip" x = some (143, x) := by kernel_rfl
@[go_sem] theorem ifc117 (x : Value) : ifaceB Tryz.prog 117 x = some (.iface 117 x) := by kernel_rfl
@[go_sem] theorem ifc118 (x : Value) : ifaceB Tryz.prog 118 x = some (.iface 118 x) := by kernel_rfl
@[go_sem] theorem ifc120 (x : Value) : ifaceB Tryz.prog 120 x = some (.iface 120 x) := by kernel_rfl
@[go_sem] theorem ifc121 (x : Value) : ifaceB Tryz.prog 121 x = some (.iface 121 x) := by kernel_rfl
@[go_sem] theorem ifc122 (x : Value) : ifaceB Tryz.prog 122 x = some (.iface 122 x) := by kernel_rfl
@[go_sem] theorem ifc123 (x : Value) : ifaceB Tryz.prog 123 x = some (.iface 123 x) := by kernel_rfl
@[go_sem] theorem ifc124 (x : Value) : ifaceB Tryz.prog 124 x = some (.iface 124 x) := by kernel_rfl
@[go_sem] theorem ifc126 (x : Value) : ifaceB Tryz.prog 126 x = some (.iface 126 x) := by kernel_rfl
@[go_sem] theorem ifc127 (x : Value) : ifaceB Tryz.prog 127 x = some (.iface 127 x) := by kernel_rfl
@[go_sem] theorem ifc128 (x : Value) : ifaceB Tryz.prog 128 x = some (.iface 128 x) := by kernel_rfl
@[go_sem] theorem rcv128_Add (x : Value) : recvB Tryz.prog 128 "Add" x = some (60, x) := by kernel_rfl
@[go_sem] theorem rcv128_Clear (x : Value) : recvB Tryz.prog 128 "Clear" x = some (152, x) := by kernel_rfl
@[go_sem] theorem rcv128_Copy (x : Value) : recvB Tryz.prog 128 "Copy" x = some (193, x) := by kernel_rfl
@[go_sem] theorem rcv128_Has (x : Value) : recvB Tryz.prog 128 "Has" x = some (88, x) := by kernel_rfl
@[go_sem] theorem rcv128_Len (x : Value) : recvB Tryz.prog 128 "Len" x = some (141, x) := by kernel_rfl
@[go_sem] theorem rcv128_Next (x : Value) : recvB Tryz.prog 128 "Next" x = some (140, x) := by kernel_rfl
@[go_sem] theorem rcv128_Remove (x : Value) : recvB Tryz.prog 128 "Remove" x = some (142, x) := by kernel_rfl
@[go_sem] theorem rcv128_Word (x : Value) : recvB Tryz.prog 128 "Word" x = some (216, x) := by kernel_rfl
@[go_sem] theorem ifc130 (x : Value) : ifaceB Tryz.prog 130 x = some (.iface 130 x) := by kernel_rfl
@[go_sem] theorem ifc131 (x : Value) : ifaceB Tryz.prog 131 x = some (.iface 131 x) := by kernel_rfl
@[go_sem] theorem ifc132 (x : Value) : ifaceB Tryz.prog 132 x = some (.iface 132 x) := by kernel_rfl
@[go_sem] theorem ifc133 (x : Value) : ifaceB Tryz.prog 133 x = some (.iface 133 x) := by kernel_rfl
@[go_sem] theorem ifc137 (x : Value) : ifaceB Tryz.prog 137 x = some (.iface 137 x) := by kernel_rfl
@[go_sem] theorem ifc138 (x : Value) : ifaceB Tryz.prog 138 x = some (.iface 138 x) := by kernel_rfl
@[go_sem] theorem ifc139 (x : Value) : ifaceB Tryz.prog 139 x = some (.iface 139 x) := by kernel_rfl
@[go_sem] theorem rcv139_Desc (x : Value) : recvB Tryz.prog 139 "Desc" x = some (147, x) := by kernel_rfl
@[go_sem] theorem rcv139_Flag (x : Value) : recvB Tryz.prog 139 "Flag" x = some (153, x) := by kernel_rfl
@[go_sem] theorem rcv139_Mask (x : Value) : recvB Tryz.prog 139 "Mask" x = some (164, x) := by kernel_rfl
@[go_sem] theorem rcv139_Put (x : Value) : recvB Tryz.prog 139 "Put" x = some (145, x) := by kernel_rfl
@[go_sem] theorem rcv139_Set (x : Value) : recvB Tryz.prog 139 "Set" x = some (121, x) := by kernel_rfl
@[go_sem] theorem rcv139_Take (x : Value) : recvB Tryz.prog 139 "Take" x = some (146, x) := by kernel_rfl
@[go_sem] theorem ifc142 (x : Value) : ifaceB Tryz.prog 142 x = some (.iface 142 x) := by kernel_rfl
@[go_sem] theorem ifc143 (x : Value) : ifaceB Tryz.prog 143 x = some (.iface 143 x) := by kernel_rfl
@[go_sem] theorem ifc155 (x : Value) : ifaceB Tryz.prog 155 x = some (.iface 155 x) := by kernel_rfl
@[go_sem] theorem ifc180 (x : Value) : ifaceB Tryz.prog 180 x = some (.iface 180 x) := by kernel_rfl
@[go_sem] theorem rcv180_First (x : Value) : recvB Tryz.prog 180 "First" x = some (172, x) := by kernel_rfl
@[go_sem] theorem rcv180_Has (x : Value) : recvB Tryz.prog 180 "Has" x = some (134, x) := by kernel_rfl
@[go_sem] theorem rcv180_Last (x : Value) : recvB Tryz.prog 180 "Last" x = some (297, x) := by kernel_rfl
@[go_sem] theorem rcv180_Len (x : Value) : recvB Tryz.prog 180 "Len" x = some (322, x) := by kernel_rfl
@[go_sem] theorem rcv180_With (x : Value) : recvB Tryz.prog 180 "With" x = some (90, x) := by kernel_rfl
@[go_sem] theorem rcv180_Without (x : Value) : recvB Tryz.prog 180 "Without" x = some (185, x) := by kernel_rfl
@[go_sem] theorem ifc183 (x : Value) : ifaceB Tryz.prog 183 x = some (.iface 183 x) := by kernel_rfl
@[go_sem] theorem ifc184 (x : Value) : ifaceB Tryz.prog 184 x = some (.iface 184 x) := by kernel_rfl
@[go_sem] theorem ifc185 (x : Value) : ifaceB Tryz.prog 185 x = some (.iface 185 x) := by kernel_rfl
@[go_sem] theorem ifc186 (x : Value) : ifaceB Tryz.prog 186 x = some (.iface 186 x) := by kernel_rfl
@[go_sem] theorem ifc194 (x : Value) : ifaceB Tryz.prog 194 x = some (.iface 194 x) := by kernel_rfl
@[go_sem] theorem rcv194_Behind (x : Value) : recvB Tryz.prog 194 "Behind" x = some (154, x) := by kernel_rfl
@[go_sem] theorem rcv194_Note (x : Value) : recvB Tryz.prog 194 "Note" x = some (186, x) := by kernel_rfl
@[go_sem] theorem rcv194_Read (x : Value) : recvB Tryz.prog 194 "Read" x = some (117, x) := by kernel_rfl
@[go_sem] theorem rcv194_Reader (x : Value) : recvB Tryz.prog 194 "Reader" x = some (116, x) := by kernel_rfl
@[go_sem] theorem rcv194_Readers (x : Value) : recvB Tryz.prog 194 "Readers" x = some (298, x) := by kernel_rfl
@[go_sem] theorem ifc195 (x : Value) : ifaceB Tryz.prog 195 x = some (.iface 195 x) := by kernel_rfl
@[go_sem] theorem ifc196 (x : Value) : ifaceB Tryz.prog 196 x = some (.iface 196 x) := by kernel_rfl
@[go_sem] theorem ifc213 (x : Value) : ifaceB Tryz.prog 213 x = some (.iface 213 x) := by kernel_rfl
@[go_sem] theorem ifc214 (x : Value) : ifaceB Tryz.prog 214 x = some (.iface 214 x) := by kernel_rfl
@[go_sem] theorem ifc216 (x : Value) : ifaceB Tryz.prog 216 x = some (.iface 216 x) := by kernel_rfl
@[go_sem] theorem ifc220 (x : Value) : ifaceB Tryz.prog 220 x = some (.iface 220 x) := by kernel_rfl
@[go_sem] theorem rcv220_And (x : Value) : recvB Tryz.prog 220 "And" x = some (168, x) := by kernel_rfl
@[go_sem] theorem rcv220_Len (x : Value) : recvB Tryz.prog 220 "Len" x = some (299, x) := by kernel_rfl
@[go_sem] theorem rcv220_Needs (x : Value) : recvB Tryz.prog 220 "Needs" x = some (194, x) := by kernel_rfl
@[go_sem] theorem rcv220_Not (x : Value) : recvB Tryz.prog 220 "Not" x = some (166, x) := by kernel_rfl
@[go_sem] theorem rcv220_Or (x : Value) : recvB Tryz.prog 220 "Or" x = some (167, x) := by kernel_rfl
@[go_sem] theorem rcv220_Set (x : Value) : recvB Tryz.prog 220 "Set" x = some (163, x) := by kernel_rfl
@[go_sem] theorem rcv220_Words (x : Value) : recvB Tryz.prog 220 "Words" x = some (196, x) := by kernel_rfl
@[go_sem] theorem ifc236 (x : Value) : ifaceB Tryz.prog 236 x = some (.iface 236 x) := by kernel_rfl
@[go_sem] theorem rcv236_Get (x : Value) : recvB Tryz.prog 236 "Get" x = some (300, x) := by kernel_rfl
@[go_sem] theorem rcv236_Len (x : Value) : recvB Tryz.prog 236 "Len" x = some (301, x) := by kernel_rfl
@[go_sem] theorem rcv236_Put (x : Value) : recvB Tryz.prog 236 "Put" x = some (302, x) := by kernel_rfl
@[go_sem] theorem rcv236_Take (x : Value) : recvB Tryz.prog 236 "Take" x = some (303, x) := by kernel_rfl
@[go_sem] theorem ifc238 (x : Value) : ifaceB Tryz.prog 238 x = some (.iface 238 x) := by kernel_rfl
@[go_sem] theorem rcv238_Get (x : Value) : recvB Tryz.prog 238 "Get" x = some (304, x) := by kernel_rfl
@[go_sem] theorem rcv238_Put (x : Value) : recvB Tryz.prog 238 "Put" x = some (305, x) := by kernel_rfl
@[go_sem] theorem rcv238_Take (x : Value) : recvB Tryz.prog 238 "Take" x = some (306, x) := by kernel_rfl
@[go_sem] theorem ifc240 (x : Value) : ifaceB Tryz.prog 240 x = some (.iface 240 x) := by kernel_rfl
@[go_sem] theorem rcv240_Get (x : Value) : recvB Tryz.prog 240 "Get" x = some (308, x) := by kernel_rfl
@[go_sem] theorem rcv240_Len (x : Value) : recvB Tryz.prog 240 "Len" x = some (309, x) := by kernel_rfl
@[go_sem] theorem rcv240_Put (x : Value) : recvB Tryz.prog 240 "Put" x = some (310, x) := by kernel_rfl
@[go_sem] theorem rcv240_Take (x : Value) : recvB Tryz.prog 240 "Take" x = some (311, x) := by kernel_rfl
@[go_sem] theorem ifc242 (x : Value) : ifaceB Tryz.prog 242 x = some (.iface 242 x) := by kernel_rfl
@[go_sem] theorem ifc243 (x : Value) : ifaceB Tryz.prog 243 x = some (.iface 243 x) := by kernel_rfl
@[go_sem] theorem rcv243_Get (x : Value) : recvB Tryz.prog 243 "Get" x = some (316, x) := by kernel_rfl
@[go_sem] theorem rcv243_Put (x : Value) : recvB Tryz.prog 243 "Put" x = some (317, x) := by kernel_rfl
@[go_sem] theorem rcv243_Take (x : Value) : recvB Tryz.prog 243 "Take" x = some (318, x) := by kernel_rfl
@[go_sem] theorem ifc244 (x : Value) : ifaceB Tryz.prog 244 x = some (.iface 244 x) := by kernel_rfl
@[go_sem] theorem ifc245 (x : Value) : ifaceB Tryz.prog 245 x = some (.iface 245 x) := by kernel_rfl
@[go_sem] theorem ifc275 (x : Value) : ifaceB Tryz.prog 275 x = some (.iface 275 x) := by kernel_rfl
@[go_sem] theorem ifc278 (x : Value) : ifaceB Tryz.prog 278 x = some (.iface 278 x) := by kernel_rfl
@[go_sem] theorem ifc284 (x : Value) : ifaceB Tryz.prog 284 x = some (.iface 284 x) := by kernel_rfl
@[go_sem] theorem ifc285 (x : Value) : ifaceB Tryz.prog 285 x = some (.iface 285 x) := by kernel_rfl
@[go_sem] theorem ifc287 (x : Value) : ifaceB Tryz.prog 287 x = some (.iface 287 x) := by kernel_rfl
@[go_sem] theorem ifc288 (x : Value) : ifaceB Tryz.prog 288 x = some (.iface 288 x) := by kernel_rfl
@[go_sem] theorem ifc289 (x : Value) : ifaceB Tryz.prog 289 x = some (.iface 289 x) := by kernel_rfl
@[go_sem] theorem ifc290 (x : Value) : ifaceB Tryz.prog 290 x = some (.iface 290 x) := by kernel_rfl
@[go_sem] theorem ifc291 (x : Value) : ifaceB Tryz.prog 291 x = some (.iface 291 x) := by kernel_rfl
@[go_sem] theorem ifc292 (x : Value) : ifaceB Tryz.prog 292 x = some (.iface 292 x) := by kernel_rfl
@[go_sem] theorem ifc294 (x : Value) : ifaceB Tryz.prog 294 x = some (.iface 294 x) := by kernel_rfl
@[go_sem] theorem ifc295 (x : Value) : ifaceB Tryz.prog 295 x = some (.iface 295 x) := by kernel_rfl
@[go_sem] theorem ifc296 (x : Value) : ifaceB Tryz.prog 296 x = some (.iface 296 x) := by kernel_rfl
@[go_sem] theorem ifc297 (x : Value) : ifaceB Tryz.prog 297 x = some (.iface 297 x) := by kernel_rfl
@[go_sem] theorem ifc305 (x : Value) : ifaceB Tryz.prog 305 x = some (.iface 305 x) := by kernel_rfl
@[go_sem] theorem ifc306 (x : Value) : ifaceB Tryz.prog 306 x = some (.iface 306 x) := by kernel_rfl
@[go_sem] theorem ifc310 (x : Value) : ifaceB Tryz.prog 310 x = some (.iface 310 x) := by kernel_rfl
@[go_sem] theorem ifc311 (x : Value) : ifaceB Tryz.prog 311 x = some (.iface 311 x) := by kernel_rfl
@[go_sem] theorem ifc323 (x : Value) : ifaceB Tryz.prog 323 x = some (.iface 323 x) := by kernel_rfl
@[go_sem] theorem ifc324 (x : Value) : ifaceB Tryz.prog 324 x = some (.iface 324 x) := by kernel_rfl
@[go_sem] theorem ifc325 (x : Value) : ifaceB Tryz.prog 325 x = some (.iface 325 x) := by kernel_rfl
@[go_sem] theorem ifc326 (x : Value) : ifaceB Tryz.prog 326 x = some (.iface 326 x) := by kernel_rfl
@[go_sem] theorem ifc334 (x : Value) : ifaceB Tryz.prog 334 x = some (.iface 334 x) := by kernel_rfl
@[go_sem] theorem ifc341 (x : Value) : ifaceB Tryz.prog 341 x = some (.iface 341 x) := by kernel_rfl
@[go_sem] theorem ifc375 (x : Value) : ifaceB Tryz.prog 375 x = some (.iface 375 x) := by kernel_rfl
@[go_sem] theorem ifc376 (x : Value) : ifaceB Tryz.prog 376 x = some (.iface 376 x) := by kernel_rfl
@[go_sem] theorem ifc391 (x : Value) : ifaceB Tryz.prog 391 x = some (.iface 391 x) := by kernel_rfl
@[go_sem] theorem rcv391_Next (x : Value) : recvB Tryz.prog 391 "Next" x = some (268, x) := by kernel_rfl
@[go_sem] theorem ifc411 (x : Value) : ifaceB Tryz.prog 411 x = some (.iface 411 x) := by kernel_rfl
@[go_sem] theorem ifc412 (x : Value) : ifaceB Tryz.prog 412 x = some (.iface 412 x) := by kernel_rfl
@[go_sem] theorem ifc416 (x : Value) : ifaceB Tryz.prog 416 x = some (.iface 416 x) := by kernel_rfl
@[go_sem] theorem okf3 : okFn Tryz.prog 3 = true := by kernel_rfl
@[go_sem] theorem okf4 : okFn Tryz.prog 4 = true := by kernel_rfl
@[go_sem] theorem okf5 : okFn Tryz.prog 5 = true := by kernel_rfl
@[go_sem] theorem okf6 : okFn Tryz.prog 6 = true := by kernel_rfl
@[go_sem] theorem okf7 : okFn Tryz.prog 7 = true := by kernel_rfl
@[go_sem] theorem okf8 : okFn Tryz.prog 8 = true := by kernel_rfl
@[go_sem] theorem okf9 : okFn Tryz.prog 9 = true := by kernel_rfl
@[go_sem] theorem okf10 : okFn Tryz.prog 10 = true := by kernel_rfl
@[go_sem] theorem okf11 : okFn Tryz.prog 11 = true := by kernel_rfl
@[go_sem] theorem okf12 : okFn Tryz.prog 12 = true := by kernel_rfl
@[go_sem] theorem okf13 : okFn Tryz.prog 13 = true := by kernel_rfl
@[go_sem] theorem okf14 : okFn Tryz.prog 14 = true := by kernel_rfl
@[go_sem] theorem okf15 : okFn Tryz.prog 15 = true := by kernel_rfl
@[go_sem] theorem okf16 : okFn Tryz.prog 16 = true := by kernel_rfl
@[go_sem] theorem okf17 : okFn Tryz.prog 17 = true := by kernel_rfl
@[go_sem] theorem okf18 : okFn Tryz.prog 18 = true := by kernel_rfl
@[go_sem] theorem okf19 : okFn Tryz.prog 19 = true := by kernel_rfl
@[go_sem] theorem okf20 : okFn Tryz.prog 20 = true := by kernel_rfl
@[go_sem] theorem okf21 : okFn Tryz.prog 21 = true := by kernel_rfl
@[go_sem] theorem okf22 : okFn Tryz.prog 22 = true := by kernel_rfl
@[go_sem] theorem okf23 : okFn Tryz.prog 23 = true := by kernel_rfl
@[go_sem] theorem okf24 : okFn Tryz.prog 24 = true := by kernel_rfl
@[go_sem] theorem okf25 : okFn Tryz.prog 25 = true := by kernel_rfl
@[go_sem] theorem okf26 : okFn Tryz.prog 26 = true := by kernel_rfl
@[go_sem] theorem okf27 : okFn Tryz.prog 27 = true := by kernel_rfl
@[go_sem] theorem okf28 : okFn Tryz.prog 28 = true := by kernel_rfl
@[go_sem] theorem okf29 : okFn Tryz.prog 29 = true := by kernel_rfl
@[go_sem] theorem okf30 : okFn Tryz.prog 30 = true := by kernel_rfl
@[go_sem] theorem okf31 : okFn Tryz.prog 31 = true := by kernel_rfl
@[go_sem] theorem okf32 : okFn Tryz.prog 32 = true := by kernel_rfl
@[go_sem] theorem okf33 : okFn Tryz.prog 33 = true := by kernel_rfl
@[go_sem] theorem okf34 : okFn Tryz.prog 34 = true := by kernel_rfl
@[go_sem] theorem okf35 : okFn Tryz.prog 35 = true := by kernel_rfl
@[go_sem] theorem okf36 : okFn Tryz.prog 36 = true := by kernel_rfl
@[go_sem] theorem okf37 : okFn Tryz.prog 37 = true := by kernel_rfl
@[go_sem] theorem okf38 : okFn Tryz.prog 38 = true := by kernel_rfl
@[go_sem] theorem okf39 : okFn Tryz.prog 39 = true := by kernel_rfl
@[go_sem] theorem okf40 : okFn Tryz.prog 40 = true := by kernel_rfl
@[go_sem] theorem okf41 : okFn Tryz.prog 41 = true := by kernel_rfl
@[go_sem] theorem okf42 : okFn Tryz.prog 42 = true := by kernel_rfl
@[go_sem] theorem okf43 : okFn Tryz.prog 43 = true := by kernel_rfl
@[go_sem] theorem okf44 : okFn Tryz.prog 44 = true := by kernel_rfl
@[go_sem] theorem okf45 : okFn Tryz.prog 45 = true := by kernel_rfl
@[go_sem] theorem okf46 : okFn Tryz.prog 46 = true := by kernel_rfl
@[go_sem] theorem okf47 : okFn Tryz.prog 47 = true := by kernel_rfl
@[go_sem] theorem okf48 : okFn Tryz.prog 48 = true := by kernel_rfl
@[go_sem] theorem okf49 : okFn Tryz.prog 49 = true := by kernel_rfl
@[go_sem] theorem okf50 : okFn Tryz.prog 50 = true := by kernel_rfl
@[go_sem] theorem okf51 : okFn Tryz.prog 51 = true := by kernel_rfl
@[go_sem] theorem okf52 : okFn Tryz.prog 52 = true := by kernel_rfl
@[go_sem] theorem okf53 : okFn Tryz.prog 53 = true := by kernel_rfl
@[go_sem] theorem okf54 : okFn Tryz.prog 54 = true := by kernel_rfl
@[go_sem] theorem okf55 : okFn Tryz.prog 55 = true := by kernel_rfl
@[go_sem] theorem okf56 : okFn Tryz.prog 56 = true := by kernel_rfl
@[go_sem] theorem okf57 : okFn Tryz.prog 57 = true := by kernel_rfl
@[go_sem] theorem okf58 : okFn Tryz.prog 58 = true := by kernel_rfl
@[go_sem] theorem okf59 : okFn Tryz.prog 59 = true := by kernel_rfl
@[go_sem] theorem okf60 : okFn Tryz.prog 60 = true := by kernel_rfl
@[go_sem] theorem okf61 : okFn Tryz.prog 61 = true := by kernel_rfl
@[go_sem] theorem okf62 : okFn Tryz.prog 62 = true := by kernel_rfl
@[go_sem] theorem okf63 : okFn Tryz.prog 63 = true := by kernel_rfl
@[go_sem] theorem okf64 : okFn Tryz.prog 64 = true := by kernel_rfl
@[go_sem] theorem okf65 : okFn Tryz.prog 65 = true := by kernel_rfl
@[go_sem] theorem okf66 : okFn Tryz.prog 66 = true := by kernel_rfl
@[go_sem] theorem okf67 : okFn Tryz.prog 67 = true := by kernel_rfl
@[go_sem] theorem okf68 : okFn Tryz.prog 68 = true := by kernel_rfl
@[go_sem] theorem okf69 : okFn Tryz.prog 69 = true := by kernel_rfl
@[go_sem] theorem okf70 : okFn Tryz.prog 70 = true := by kernel_rfl
@[go_sem] theorem okf71 : okFn Tryz.prog 71 = true := by kernel_rfl
@[go_sem] theorem okf72 : okFn Tryz.prog 72 = true := by kernel_rfl
@[go_sem] theorem okf73 : okFn Tryz.prog 73 = true := by kernel_rfl
@[go_sem] theorem okf74 : okFn Tryz.prog 74 = true := by kernel_rfl
@[go_sem] theorem okf75 : okFn Tryz.prog 75 = true := by kernel_rfl
@[go_sem] theorem okf76 : okFn Tryz.prog 76 = true := by kernel_rfl
@[go_sem] theorem okf77 : okFn Tryz.prog 77 = true := by kernel_rfl
@[go_sem] theorem okf78 : okFn Tryz.prog 78 = true := by kernel_rfl
@[go_sem] theorem okf79 : okFn Tryz.prog 79 = true := by kernel_rfl
@[go_sem] theorem okf80 : okFn Tryz.prog 80 = true := by kernel_rfl
@[go_sem] theorem okf81 : okFn Tryz.prog 81 = true := by kernel_rfl
@[go_sem] theorem okf82 : okFn Tryz.prog 82 = true := by kernel_rfl
@[go_sem] theorem okf83 : okFn Tryz.prog 83 = true := by kernel_rfl
@[go_sem] theorem okf84 : okFn Tryz.prog 84 = true := by kernel_rfl
@[go_sem] theorem okf85 : okFn Tryz.prog 85 = true := by kernel_rfl
@[go_sem] theorem okf86 : okFn Tryz.prog 86 = true := by kernel_rfl
@[go_sem] theorem okf87 : okFn Tryz.prog 87 = true := by kernel_rfl
@[go_sem] theorem okf88 : okFn Tryz.prog 88 = true := by kernel_rfl
@[go_sem] theorem okf89 : okFn Tryz.prog 89 = true := by kernel_rfl
@[go_sem] theorem okf90 : okFn Tryz.prog 90 = true := by kernel_rfl
@[go_sem] theorem okf91 : okFn Tryz.prog 91 = true := by kernel_rfl
@[go_sem] theorem okf92 : okFn Tryz.prog 92 = true := by kernel_rfl
@[go_sem] theorem okf93 : okFn Tryz.prog 93 = true := by kernel_rfl
@[go_sem] theorem okf94 : okFn Tryz.prog 94 = true := by kernel_rfl
@[go_sem] theorem okf95 : okFn Tryz.prog 95 = true := by kernel_rfl
@[go_sem] theorem okf96 : okFn Tryz.prog 96 = true := by kernel_rfl
@[go_sem] theorem okf97 : okFn Tryz.prog 97 = true := by kernel_rfl
@[go_sem] theorem okf98 : okFn Tryz.prog 98 = true := by kernel_rfl
@[go_sem] theorem okf99 : okFn Tryz.prog 99 = true := by kernel_rfl
@[go_sem] theorem okf100 : okFn Tryz.prog 100 = true := by kernel_rfl
@[go_sem] theorem okf101 : okFn Tryz.prog 101 = true := by kernel_rfl
@[go_sem] theorem okf102 : okFn Tryz.prog 102 = true := by kernel_rfl
@[go_sem] theorem okf103 : okFn Tryz.prog 103 = true := by kernel_rfl
@[go_sem] theorem okf104 : okFn Tryz.prog 104 = true := by kernel_rfl
@[go_sem] theorem okf105 : okFn Tryz.prog 105 = true := by kernel_rfl
@[go_sem] theorem okf106 : okFn Tryz.prog 106 = true := by kernel_rfl
@[go_sem] theorem okf107 : okFn Tryz.prog 107 = true := by kernel_rfl
@[go_sem] theorem okf108 : okFn Tryz.prog 108 = true := by kernel_rfl
@[go_sem] theorem okf109 : okFn Tryz.prog 109 = true := by kernel_rfl
@[go_sem] theorem okf110 : okFn Tryz.prog 110 = true := by kernel_rfl
@[go_sem] theorem okf111 : okFn Tryz.prog 111 = true := by kernel_rfl
@[go_sem] theorem okf112 : okFn Tryz.prog 112 = true := by kernel_rfl
@[go_sem] theorem okf113 : okFn Tryz.prog 113 = true := by kernel_rfl
@[go_sem] theorem okf114 : okFn Tryz.prog 114 = true := by kernel_rfl
@[go_sem] theorem okf115 : okFn Tryz.prog 115 = true := by kernel_rfl
@[go_sem] theorem okf116 : okFn Tryz.prog 116 = true := by kernel_rfl
@[go_sem] theorem okf117 : okFn Tryz.prog 117 = true := by kernel_rfl
@[go_sem] theorem okf118 : okFn Tryz.prog 118 = true := by kernel_rfl
@[go_sem] theorem okf119 : okFn Tryz.prog 119 = true := by kernel_rfl
@[go_sem] theorem okf120 : okFn Tryz.prog 120 = true := by kernel_rfl
@[go_sem] theorem okf121 : okFn Tryz.prog 121 = true := by kernel_rfl
@[go_sem] theorem okf122 : okFn Tryz.prog 122 = true := by kernel_rfl
@[go_sem] theorem okf123 : okFn Tryz.prog 123 = true := by kernel_rfl
@[go_sem] theorem okf124 : okFn Tryz.prog 124 = true := by kernel_rfl
@[go_sem] theorem okf125 : okFn Tryz.prog 125 = true := by kernel_rfl
@[go_sem] theorem okf126 : okFn Tryz.prog 126 = true := by kernel_rfl
@[go_sem] theorem okf127 : okFn Tryz.prog 127 = true := by kernel_rfl
@[go_sem] theorem okf128 : okFn Tryz.prog 128 = true := by kernel_rfl
@[go_sem] theorem okf129 : okFn Tryz.prog 129 = true := by kernel_rfl
@[go_sem] theorem okf130 : okFn Tryz.prog 130 = true := by kernel_rfl
@[go_sem] theorem okf131 : okFn Tryz.prog 131 = true := by kernel_rfl
@[go_sem] theorem okf132 : okFn Tryz.prog 132 = true := by kernel_rfl
@[go_sem] theorem okf133 : okFn Tryz.prog 133 = true := by kernel_rfl
@[go_sem] theorem okf134 : okFn Tryz.prog 134 = true := by kernel_rfl
@[go_sem] theorem okf135 : okFn Tryz.prog 135 = true := by kernel_rfl
@[go_sem] theorem okf136 : okFn Tryz.prog 136 = true := by kernel_rfl
@[go_sem] theorem okf137 : okFn Tryz.prog 137 = true := by kernel_rfl
@[go_sem] theorem okf138 : okFn Tryz.prog 138 = true := by kernel_rfl
@[go_sem] theorem okf139 : okFn Tryz.prog 139 = true := by kernel_rfl
@[go_sem] theorem okf140 : okFn Tryz.prog 140 = true := by kernel_rfl
@[go_sem] theorem okf141 : okFn Tryz.prog 141 = true := by kernel_rfl
@[go_sem] theorem okf142 : okFn Tryz.prog 142 = true := by kernel_rfl
@[go_sem] theorem okf143 : okFn Tryz.prog 143 = true := by kernel_rfl
@[go_sem] theorem okf144 : okFn Tryz.prog 144 = true := by kernel_rfl
@[go_sem] theorem okf145 : okFn Tryz.prog 145 = true := by kernel_rfl
@[go_sem] theorem okf146 : okFn Tryz.prog 146 = true := by kernel_rfl
@[go_sem] theorem okf147 : okFn Tryz.prog 147 = true := by kernel_rfl
@[go_sem] theorem okf148 : okFn Tryz.prog 148 = true := by kernel_rfl
@[go_sem] theorem okf149 : okFn Tryz.prog 149 = true := by kernel_rfl
@[go_sem] theorem okf150 : okFn Tryz.prog 150 = true := by kernel_rfl
@[go_sem] theorem okf151 : okFn Tryz.prog 151 = true := by kernel_rfl
@[go_sem] theorem okf152 : okFn Tryz.prog 152 = true := by kernel_rfl
@[go_sem] theorem okf153 : okFn Tryz.prog 153 = true := by kernel_rfl
@[go_sem] theorem okf154 : okFn Tryz.prog 154 = true := by kernel_rfl
@[go_sem] theorem okf155 : okFn Tryz.prog 155 = true := by kernel_rfl
@[go_sem] theorem okf156 : okFn Tryz.prog 156 = true := by kernel_rfl
@[go_sem] theorem okf157 : okFn Tryz.prog 157 = true := by kernel_rfl
@[go_sem] theorem okf158 : okFn Tryz.prog 158 = true := by kernel_rfl
@[go_sem] theorem okf159 : okFn Tryz.prog 159 = true := by kernel_rfl
@[go_sem] theorem okf160 : okFn Tryz.prog 160 = true := by kernel_rfl
@[go_sem] theorem okf161 : okFn Tryz.prog 161 = true := by kernel_rfl
@[go_sem] theorem okf162 : okFn Tryz.prog 162 = true := by kernel_rfl
@[go_sem] theorem okf163 : okFn Tryz.prog 163 = true := by kernel_rfl
@[go_sem] theorem okf164 : okFn Tryz.prog 164 = true := by kernel_rfl
@[go_sem] theorem okf165 : okFn Tryz.prog 165 = true := by kernel_rfl
@[go_sem] theorem okf166 : okFn Tryz.prog 166 = true := by kernel_rfl
@[go_sem] theorem okf167 : okFn Tryz.prog 167 = true := by kernel_rfl
@[go_sem] theorem okf168 : okFn Tryz.prog 168 = true := by kernel_rfl
@[go_sem] theorem okf169 : okFn Tryz.prog 169 = true := by kernel_rfl
@[go_sem] theorem okf170 : okFn Tryz.prog 170 = true := by kernel_rfl
@[go_sem] theorem okf171 : okFn Tryz.prog 171 = true := by kernel_rfl
@[go_sem] theorem okf172 : okFn Tryz.prog 172 = true := by kernel_rfl
@[go_sem] theorem okf173 : okFn Tryz.prog 173 = true := by kernel_rfl
@[go_sem] theorem okf174 : okFn Tryz.prog 174 = true := by kernel_rfl
@[go_sem] theorem okf175 : okFn Tryz.prog 175 = true := by kernel_rfl
@[go_sem] theorem okf176 : okFn Tryz.prog 176 = true := by kernel_rfl
@[go_sem] theorem okf177 : okFn Tryz.prog 177 = true := by kernel_rfl
@[go_sem] theorem okf178 : okFn Tryz.prog 178 = true := by kernel_rfl
@[go_sem] theorem okf179 : okFn Tryz.prog 179 = true := by kernel_rfl
@[go_sem] theorem okf180 : okFn Tryz.prog 180 = true := by kernel_rfl
@[go_sem] theorem okf181 : okFn Tryz.prog 181 = true := by kernel_rfl
@[go_sem] theorem okf182 : okFn Tryz.prog 182 = true := by kernel_rfl
@[go_sem] theorem okf183 : okFn Tryz.prog 183 = true := by kernel_rfl
@[go_sem] theorem okf184 : okFn Tryz.prog 184 = true := by kernel_rfl
@[go_sem] theorem okf185 : okFn Tryz.prog 185 = true := by kernel_rfl
@[go_sem] theorem okf186 : okFn Tryz.prog 186 = true := by kernel_rfl
@[go_sem] theorem okf187 : okFn Tryz.prog 187 = true := by kernel_rfl
@[go_sem] theorem okf188 : okFn Tryz.prog 188 = true := by kernel_rfl
@[go_sem] theorem okf189 : okFn Tryz.prog 189 = true := by kernel_rfl
@[go_sem] theorem okf190 : okFn Tryz.prog 190 = true := by kernel_rfl
@[go_sem] theorem okf191 : okFn Tryz.prog 191 = true := by kernel_rfl
@[go_sem] theorem okf192 : okFn Tryz.prog 192 = true := by kernel_rfl
@[go_sem] theorem okf193 : okFn Tryz.prog 193 = true := by kernel_rfl
@[go_sem] theorem okf194 : okFn Tryz.prog 194 = true := by kernel_rfl
@[go_sem] theorem okf195 : okFn Tryz.prog 195 = true := by kernel_rfl
@[go_sem] theorem okf196 : okFn Tryz.prog 196 = true := by kernel_rfl
@[go_sem] theorem okf198 : okFn Tryz.prog 198 = true := by kernel_rfl
@[go_sem] theorem okf199 : okFn Tryz.prog 199 = true := by kernel_rfl
@[go_sem] theorem okf200 : okFn Tryz.prog 200 = true := by kernel_rfl
@[go_sem] theorem okf201 : okFn Tryz.prog 201 = true := by kernel_rfl
@[go_sem] theorem okf202 : okFn Tryz.prog 202 = true := by kernel_rfl
@[go_sem] theorem okf203 : okFn Tryz.prog 203 = true := by kernel_rfl
@[go_sem] theorem okf204 : okFn Tryz.prog 204 = true := by kernel_rfl
@[go_sem] theorem okf205 : okFn Tryz.prog 205 = true := by kernel_rfl
@[go_sem] theorem okf206 : okFn Tryz.prog 206 = true := by kernel_rfl
@[go_sem] theorem okf207 : okFn Tryz.prog 207 = true := by kernel_rfl
@[go_sem] theorem okf208 : okFn Tryz.prog 208 = true := by kernel_rfl
@[go_sem] theorem okf209 : okFn Tryz.prog 209 = true := by kernel_rfl
@[go_sem] theorem okf210 : okFn Tryz.prog 210 = true := by kernel_rfl
@[go_sem] theorem okf211 : okFn Tryz.prog 211 = true := by kernel_rfl
@[go_sem] theorem okf212 : okFn Tryz.prog 212 = true := by kernel_rfl
@[go_sem] theorem okf213 : okFn Tryz.prog 213 = true := by kernel_rfl
@[go_sem] theorem okf214 : okFn Tryz.prog 214 = true := by kernel_rfl
@[go_sem] theorem okf215 : okFn Tryz.prog 215 = true := by kernel_rfl
@[go_sem] theorem okf216 : okFn Tryz.prog 216 = true := by kernel_rfl
@[go_sem] theorem okf217 : okFn Tryz.prog 217 = true := by kernel_rfl
@[go_sem] theorem okf218 : okFn Tryz.prog 218 = true := by kernel_rfl
@[go_sem] theorem okf219 : okFn Tryz.prog 219 = true := by kernel_rfl
@[go_sem] theorem okf220 : okFn Tryz.prog 220 = true := by kernel_rfl
@[go_sem] theorem okf221 : okFn Tryz.prog 221 = true := by kernel_rfl
@[go_sem] theorem okf222 : okFn Tryz.prog 222 = true := by kernel_rfl
@[go_sem] theorem okf223 : okFn Tryz.prog 223 = true := by kernel_rfl
@[go_sem] theorem okf224 : okFn Tryz.prog 224 = true := by kernel_rfl
@[go_sem] theorem okf225 : okFn Tryz.prog 225 = true := by kernel_rfl
@[go_sem] theorem okf226 : okFn Tryz.prog 226 = true := by kernel_rfl
@[go_sem] theorem okf227 : okFn Tryz.prog 227 = true := by kernel_rfl
@[go_sem] theorem okf228 : okFn Tryz.prog 228 = true := by kernel_rfl
@[go_sem] theorem okf229 : okFn Tryz.prog 229 = true := by kernel_rfl
@[go_sem] theorem okf231 : okFn Tryz.prog 231 = true := by kernel_rfl
@[go_sem] theorem okf232 : okFn Tryz.prog 232 = true := by kernel_rfl
@[go_sem] theorem okf233 : okFn Tryz.prog 233 = true := by kernel_rfl
@[go_sem] theorem okf234 : okFn Tryz.prog 234 = true := by kernel_rfl
@[go_sem] theorem okf235 : okFn Tryz.prog 235 = true := by kernel_rfl
@[go_sem] theorem okf236 : okFn Tryz.prog 236 = true := by kernel_rfl
@[go_sem] theorem okf237 : okFn Tryz.prog 237 = true := by kernel_rfl
@[go_sem] theorem okf238 : okFn Tryz.prog 238 = true := by kernel_rfl
@[go_sem] theorem okf239 : okFn Tryz.prog 239 = true := by kernel_rfl
@[go_sem] theorem okf240 : okFn Tryz.prog 240 = true := by kernel_rfl
@[go_sem] theorem okf241 : okFn Tryz.prog 241 = true := by kernel_rfl
@[go_sem] theorem okf242 : okFn Tryz.prog 242 = true := by kernel_rfl
@[go_sem] theorem okf243 : okFn Tryz.prog 243 = true := by kernel_rfl
@[go_sem] theorem okf244 : okFn Tryz.prog 244 = true := by kernel_rfl
@[go_sem] theorem okf245 : okFn Tryz.prog 245 = true := by kernel_rfl
@[go_sem] theorem okf246 : okFn Tryz.prog 246 = true := by kernel_rfl
@[go_sem] theorem okf247 : okFn Tryz.prog 247 = true := by kernel_rfl
@[go_sem] theorem okf248 : okFn Tryz.prog 248 = true := by kernel_rfl
@[go_sem] theorem okf249 : okFn Tryz.prog 249 = true := by kernel_rfl
@[go_sem] theorem okf250 : okFn Tryz.prog 250 = true := by kernel_rfl
@[go_sem] theorem okf251 : okFn Tryz.prog 251 = true := by kernel_rfl
@[go_sem] theorem okf252 : okFn Tryz.prog 252 = true := by kernel_rfl
@[go_sem] theorem okf253 : okFn Tryz.prog 253 = true := by kernel_rfl
@[go_sem] theorem okf255 : okFn Tryz.prog 255 = true := by kernel_rfl
@[go_sem] theorem okf256 : okFn Tryz.prog 256 = true := by kernel_rfl
@[go_sem] theorem okf259 : okFn Tryz.prog 259 = true := by kernel_rfl
@[go_sem] theorem okf260 : okFn Tryz.prog 260 = true := by kernel_rfl
@[go_sem] theorem okf261 : okFn Tryz.prog 261 = true := by kernel_rfl
@[go_sem] theorem okf262 : okFn Tryz.prog 262 = true := by kernel_rfl
@[go_sem] theorem okf263 : okFn Tryz.prog 263 = true := by kernel_rfl
@[go_sem] theorem okf264 : okFn Tryz.prog 264 = true := by kernel_rfl
@[go_sem] theorem okf265 : okFn Tryz.prog 265 = true := by kernel_rfl
@[go_sem] theorem okf266 : okFn Tryz.prog 266 = true := by kernel_rfl
@[go_sem] theorem okf267 : okFn Tryz.prog 267 = true := by kernel_rfl
@[go_sem] theorem okf268 : okFn Tryz.prog 268 = true := by kernel_rfl
@[go_sem] theorem okf269 : okFn Tryz.prog 269 = true := by kernel_rfl
@[go_sem] theorem okf270 : okFn Tryz.prog 270 = true := by kernel_rfl
@[go_sem] theorem okf272 : okFn Tryz.prog 272 = true := by kernel_rfl
@[go_sem] theorem okf273 : okFn Tryz.prog 273 = true := by kernel_rfl
@[go_sem] theorem okf274 : okFn Tryz.prog 274 = true := by kernel_rfl
@[go_sem] theorem okf275 : okFn Tryz.prog 275 = true := by kernel_rfl
@[go_sem] theorem okf300 : okFn Tryz.prog 300 = true := by kernel_rfl
@[go_sem] theorem okf302 : okFn Tryz.prog 302 = true := by kernel_rfl
@[go_sem] theorem okf303 : okFn Tryz.prog 303 = true := by kernel_rfl
@[go_sem] theorem okf304 : okFn Tryz.prog 304 = true := by kernel_rfl
@[go_sem] theorem okf305 : okFn Tryz.prog 305 = true := by kernel_rfl
@[go_sem] theorem okf306 : okFn Tryz.prog 306 = true := by kernel_rfl
@[go_sem] theorem okf307 : okFn Tryz.prog 307 = true := by kernel_rfl
@[go_sem] theorem okf308 : okFn Tryz.prog 308 = true := by kernel_rfl
@[go_sem] theorem okf310 : okFn Tryz.prog 310 = true := by kernel_rfl
@[go_sem] theorem okf311 : okFn Tryz.prog 311 = true := by kernel_rfl
@[go_sem] theorem okf312 : okFn Tryz.prog 312 = true := by kernel_rfl
@[go_sem] theorem okf313 : okFn Tryz.prog 313 = true := by kernel_rfl
@[go_sem] theorem okf314 : okFn Tryz.prog 314 = true := by kernel_rfl
@[go_sem] theorem okf315 : okFn Tryz.prog 315 = true := by kernel_rfl
@[go_sem] theorem okf316 : okFn Tryz.prog 316 = true := by kernel_rfl
@[go_sem] theorem okf317 : okFn Tryz.prog 317 = true := by kernel_rfl
@[go_sem] theorem okf318 : okFn Tryz.prog 318 = true := by kernel_rfl
@[go_sem] theorem okf319 : okFn Tryz.prog 319 = true := by kernel_rfl
end Go.Proofs.YtclmjcjaebonnaaGreatDoor
