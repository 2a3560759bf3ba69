/-
  NARROWER THAN 'FOR EVERY INPUT', by the rows' own cells (each row's printed sentence says how): InterpRes: laid · InterpSkips: laid · InterpFaults: laid · RunChain: laid · ScriptCursor: laid.
  DERIVED. THE GIVEN ROWS OF THIS SEAT. 5 by the template 'for every input the law returns true; each argument reads behind the call as it read before'; 0 by the template 'total and deterministic' (their statements: YtnlinpocnopibaaGreatDoorTotals.lean).
  GIVEN WITH THE SEED: the statements are not yours to turn. If you find one false, say at which input.
  Laid BY PROGRAM, IN A SANDBOX (cutbox-rows.mjs): the forced cells as the released guide's own fill.sh prints them over the translation 81cca4c3c8b41e58… (all of the seat's roots in one cut). By AI agents, Wed Nov 11 2026. No macro, syntax, notation, axiom, sorry.
-/
import Derived.Test.YtnlinpocnopibaaGreatDoorChecked
import GoSem.Claim
import GoSem.ClaimJoined
import GoSem.ClaimMapViews
import Derived.JoinedTies
import Derived.KernelRfl
namespace Go.Proofs.YtnlinpocnopibaaGreatDoor
/- THE CELL 'sum', in the pinned program and in every row, IS THE sha256 OF THE DUMP (.gsa) THAT YtnlinpocnopibaaGreatDoorProg.lean LOADS. Nothing in Lean hashes anything: it is a label: what it is worth is what the hold of that sum in a sandbox is worth. -/
noncomputable def Tryz.pinned : Pinned := { name := "ytnlinpocnopibaagreatdoor", sum := "81cca4c3c8b41e58d2f28b7b236d68dc7b70fe6f9c98a69b069894f27d4f073c", checked := Tryz.checked }
namespace Rows
def none {H : Type} : Left H := { results := [], args := [] }

/- WHAT THE LISTED PACKAGE-LEVEL VARIABLES READ AS WHEN THE CALL BEGINS. Each datum BY PROGRAM (the guide's laid-datum.mjs) off the statement by which the dump's own 'gosem.cut.vars' lays the variable. In a bare row this is a premise. The card (YtnlinpocnopibaaGreatDoorCards.lean) ties it to the program's text. -/
def laid_math_bits_deBruijn64tab {H : Type} : DataW H := .agg [.lit (.int .u8 0), .lit (.int .u8 1), .lit (.int .u8 56), .lit (.int .u8 2), .lit (.int .u8 57), .lit (.int .u8 49), .lit (.int .u8 28), .lit (.int .u8 3), .lit (.int .u8 61), .lit (.int .u8 58), .lit (.int .u8 42), .lit (.int .u8 50), .lit (.int .u8 38), .lit (.int .u8 29), .lit (.int .u8 17), .lit (.int .u8 4), .lit (.int .u8 62), .lit (.int .u8 47), .lit (.int .u8 59), .lit (.int .u8 36), .lit (.int .u8 45), .lit (.int .u8 43), .lit (.int .u8 51), .lit (.int .u8 22), .lit (.int .u8 53), .lit (.int .u8 39), .lit (.int .u8 33), .lit (.int .u8 30), .lit (.int .u8 24), .lit (.int .u8 18), .lit (.int .u8 12), .lit (.int .u8 5), .lit (.int .u8 63), .lit (.int .u8 55), .lit (.int .u8 48), .lit (.int .u8 27), .lit (.int .u8 60), .lit (.int .u8 41), .lit (.int .u8 37), .lit (.int .u8 16), .lit (.int .u8 46), .lit (.int .u8 35), .lit (.int .u8 44), .lit (.int .u8 21), .lit (.int .u8 52), .lit (.int .u8 32), .lit (.int .u8 23), .lit (.int .u8 11), .lit (.int .u8 54), .lit (.int .u8 26), .lit (.int .u8 40), .lit (.int .u8 15), .lit (.int .u8 34), .lit (.int .u8 20), .lit (.int .u8 31), .lit (.int .u8 10), .lit (.int .u8 25), .lit (.int .u8 14), .lit (.int .u8 19), .lit (.int .u8 9), .lit (.int .u8 13), .lit (.int .u8 8), .lit (.int .u8 7), .lit (.int .u8 6)]

/-- 'vivariumlaw24.InterpRes': WHATEVER THE INPUT: true; the input reads as it did. -/
def interpResSpec : ChangeSpec := { name := "interpRes", fn := fun _ => fun
  | [d] => { results := [.lit (.bool true)], args := [d] }
  | _ => none }
def interpResRow : OpenClaim := { program := "ytnlinpocnopibaagreatdoor", sum := "81cca4c3c8b41e58d2f28b7b236d68dc7b70fe6f9c98a69b069894f27d4f073c", func := "vivarium/vivariumlaw24.InterpRes", spec := "interpRes", unfollowed := true, recurses := true, named := ["math/bits.deBruijn64tab"], apart := false, laid := [("math/bits.deBruijn64tab", laid_math_bits_deBruijn64tab)] }
def InterpResSaid : Prop := interpResRow.holds Tryz.pinned (OpenSpec.ofChange interpResSpec)

/-- ITS FALSE NEIGHBOUR: 'it returns false'. Refute it at one input. -/
def interpResWrong : ChangeSpec := { name := "interpRes", fn := fun _ => fun
  | [d] => { results := [.lit (.bool false)], args := [d] }
  | _ => none }
def InterpResWrongFalsely : Prop := interpResRow.holds Tryz.pinned (OpenSpec.ofChange interpResWrong)

/-- 'vivariumlaw24.InterpSkips': WHATEVER THE INPUT: true; the input reads as it did. -/
def interpSkipsSpec : ChangeSpec := { name := "interpSkips", fn := fun _ => fun
  | [d1, d2] => { results := [.lit (.bool true)], args := [d1, d2] }
  | _ => none }
def interpSkipsRow : OpenClaim := { program := "ytnlinpocnopibaagreatdoor", sum := "81cca4c3c8b41e58d2f28b7b236d68dc7b70fe6f9c98a69b069894f27d4f073c", func := "vivarium/vivariumlaw24.InterpSkips", spec := "interpSkips", unfollowed := true, recurses := true, named := ["math/bits.deBruijn64tab"], apart := false, laid := [("math/bits.deBruijn64tab", laid_math_bits_deBruijn64tab)] }
def InterpSkipsSaid : Prop := interpSkipsRow.holds Tryz.pinned (OpenSpec.ofChange interpSkipsSpec)

/-- ITS FALSE NEIGHBOUR: 'it returns false'. Refute it at one input. -/
def interpSkipsWrong : ChangeSpec := { name := "interpSkips", fn := fun _ => fun
  | [d1, d2] => { results := [.lit (.bool false)], args := [d1, d2] }
  | _ => none }
def InterpSkipsWrongFalsely : Prop := interpSkipsRow.holds Tryz.pinned (OpenSpec.ofChange interpSkipsWrong)

/-- 'vivariumlaw24.InterpFaults': WHATEVER THE INPUT: true; the input reads as it did. -/
def interpFaultsSpec : ChangeSpec := { name := "interpFaults", fn := fun _ => fun
  | [d1, d2] => { results := [.lit (.bool true)], args := [d1, d2] }
  | _ => none }
def interpFaultsRow : OpenClaim := { program := "ytnlinpocnopibaagreatdoor", sum := "81cca4c3c8b41e58d2f28b7b236d68dc7b70fe6f9c98a69b069894f27d4f073c", func := "vivarium/vivariumlaw24.InterpFaults", spec := "interpFaults", unfollowed := true, recurses := true, named := ["math/bits.deBruijn64tab"], apart := false, laid := [("math/bits.deBruijn64tab", laid_math_bits_deBruijn64tab)] }
def InterpFaultsSaid : Prop := interpFaultsRow.holds Tryz.pinned (OpenSpec.ofChange interpFaultsSpec)

/-- ITS FALSE NEIGHBOUR: 'it returns false'. Refute it at one input. -/
def interpFaultsWrong : ChangeSpec := { name := "interpFaults", fn := fun _ => fun
  | [d1, d2] => { results := [.lit (.bool false)], args := [d1, d2] }
  | _ => none }
def InterpFaultsWrongFalsely : Prop := interpFaultsRow.holds Tryz.pinned (OpenSpec.ofChange interpFaultsWrong)

/-- 'vivariumlaw25.RunChain': WHATEVER THE INPUT: true; the input reads as it did. -/
def runChainSpec : ChangeSpec := { name := "runChain", fn := fun _ => fun
  | [d1, d2, d3, d4] => { results := [.lit (.bool true)], args := [d1, d2, d3, d4] }
  | _ => none }
def runChainRow : OpenClaim := { program := "ytnlinpocnopibaagreatdoor", sum := "81cca4c3c8b41e58d2f28b7b236d68dc7b70fe6f9c98a69b069894f27d4f073c", func := "vivarium/vivariumlaw25.RunChain", spec := "runChain", unfollowed := true, recurses := true, named := ["math/bits.deBruijn64tab"], apart := false, laid := [("math/bits.deBruijn64tab", laid_math_bits_deBruijn64tab)] }
def RunChainSaid : Prop := runChainRow.holds Tryz.pinned (OpenSpec.ofChange runChainSpec)

/-- ITS FALSE NEIGHBOUR: 'it returns false'. Refute it at one input. -/
def runChainWrong : ChangeSpec := { name := "runChain", fn := fun _ => fun
  | [d1, d2, d3, d4] => { results := [.lit (.bool false)], args := [d1, d2, d3, d4] }
  | _ => none }
def RunChainWrongFalsely : Prop := runChainRow.holds Tryz.pinned (OpenSpec.ofChange runChainWrong)

/-- 'vivariumlaw26.ScriptCursor': WHATEVER THE INPUT: true; the input reads as it did. -/
def scriptCursorSpec : ChangeSpec := { name := "scriptCursor", fn := fun _ => fun
  | [d1, d2] => { results := [.lit (.bool true)], args := [d1, d2] }
  | _ => none }
def scriptCursorRow : OpenClaim := { program := "ytnlinpocnopibaagreatdoor", sum := "81cca4c3c8b41e58d2f28b7b236d68dc7b70fe6f9c98a69b069894f27d4f073c", func := "vivarium/vivariumlaw26.ScriptCursor", spec := "scriptCursor", unfollowed := true, recurses := true, named := ["math/bits.deBruijn64tab"], apart := false, laid := [("math/bits.deBruijn64tab", laid_math_bits_deBruijn64tab)] }
def ScriptCursorSaid : Prop := scriptCursorRow.holds Tryz.pinned (OpenSpec.ofChange scriptCursorSpec)

/-- ITS FALSE NEIGHBOUR: 'it returns false'. Refute it at one input. -/
def scriptCursorWrong : ChangeSpec := { name := "scriptCursor", fn := fun _ => fun
  | [d1, d2] => { results := [.lit (.bool false)], args := [d1, d2] }
  | _ => none }
def ScriptCursorWrongFalsely : Prop := scriptCursorRow.holds Tryz.pinned (OpenSpec.ofChange scriptCursorWrong)

/- THE SECOND FORM. 'bulk': how many values and letters a reading holds, each counted each time it is reached (what is shared counts as often as it is met; a slice's spare places count too). A statement '..UptoSaid' is the law's where the arguments, and the package variables that the reading takes, are together of bulk at most 1048576: NARROWER than '..Said'. Prove '..Said' where nothing that the law and all that it calls make is longer than what came in: it says more and counts as full. Else prove '..UptoSaid'. A law counts once. -/
mutual
def uptoBulk {H : Type} : DataW H → Nat
  | .lit (.string bytes) => bytes.length + 1
  | .lit _ => 1
  | .nil => 1
  | .ptr d => uptoBulk d + 1
  | .slice elems spare => uptoBulkAll elems + uptoBulkAll spare + 1
  | .agg parts => uptoBulkAll parts + 1
  | .iface _ d => uptoBulk d + 1
  | .map entries => uptoBulkEntries entries + 1
  | .held _ => 1
def uptoBulkAll {H : Type} : List (DataW H) → Nat
  | [] => 0
  | d :: r => uptoBulk d + uptoBulkAll r
def uptoBulkEntries {H : Type} : List (Lit × DataW H) → Nat
  | [] => 0
  | x :: r => uptoBulkEntry x + uptoBulkEntries r
def uptoBulkEntry {H : Type} : Lit × DataW H → Nat
  | (.string bytes, d) => bytes.length + uptoBulk d + 1
  | (_, d) => uptoBulk d + 1
 end
def uptoSmall : (H : Type) → List (DataW H) → Bool := fun _ ds => decide (uptoBulkAll ds ≤ 1048576)
def OpenSpec.upto (s : _root_.Go.ChangeSpec) : _root_.Go.OpenSpec := { _root_.Go.OpenSpec.ofChange s with cond := some uptoSmall }

/-- 'vivariumlaw24.InterpRes', WHERE WHAT IT READS IS OF BULK AT MOST 1048576: true; the input reads as it did. -/
def interpResUptoRow : OpenClaim := { program := "ytnlinpocnopibaagreatdoor", sum := "81cca4c3c8b41e58d2f28b7b236d68dc7b70fe6f9c98a69b069894f27d4f073c", func := "vivarium/vivariumlaw24.InterpRes", spec := "interpRes", unfollowed := true, recurses := true, named := ["math/bits.deBruijn64tab"], apart := false, laid := [("math/bits.deBruijn64tab", laid_math_bits_deBruijn64tab)], narrowed := true }
def InterpResUptoSaid : Prop := interpResUptoRow.holds Tryz.pinned (OpenSpec.upto interpResSpec)

/-- 'vivariumlaw24.InterpSkips', WHERE WHAT IT READS IS OF BULK AT MOST 1048576: true; the input reads as it did. -/
def interpSkipsUptoRow : OpenClaim := { program := "ytnlinpocnopibaagreatdoor", sum := "81cca4c3c8b41e58d2f28b7b236d68dc7b70fe6f9c98a69b069894f27d4f073c", func := "vivarium/vivariumlaw24.InterpSkips", spec := "interpSkips", unfollowed := true, recurses := true, named := ["math/bits.deBruijn64tab"], apart := false, laid := [("math/bits.deBruijn64tab", laid_math_bits_deBruijn64tab)], narrowed := true }
def InterpSkipsUptoSaid : Prop := interpSkipsUptoRow.holds Tryz.pinned (OpenSpec.upto interpSkipsSpec)

/-- 'vivariumlaw24.InterpFaults', WHERE WHAT IT READS IS OF BULK AT MOST 1048576: true; the input reads as it did. -/
def interpFaultsUptoRow : OpenClaim := { program := "ytnlinpocnopibaagreatdoor", sum := "81cca4c3c8b41e58d2f28b7b236d68dc7b70fe6f9c98a69b069894f27d4f073c", func := "vivarium/vivariumlaw24.InterpFaults", spec := "interpFaults", unfollowed := true, recurses := true, named := ["math/bits.deBruijn64tab"], apart := false, laid := [("math/bits.deBruijn64tab", laid_math_bits_deBruijn64tab)], narrowed := true }
def InterpFaultsUptoSaid : Prop := interpFaultsUptoRow.holds Tryz.pinned (OpenSpec.upto interpFaultsSpec)

/-- 'vivariumlaw25.RunChain', WHERE WHAT IT READS IS OF BULK AT MOST 1048576: true; the input reads as it did. -/
def runChainUptoRow : OpenClaim := { program := "ytnlinpocnopibaagreatdoor", sum := "81cca4c3c8b41e58d2f28b7b236d68dc7b70fe6f9c98a69b069894f27d4f073c", func := "vivarium/vivariumlaw25.RunChain", spec := "runChain", unfollowed := true, recurses := true, named := ["math/bits.deBruijn64tab"], apart := false, laid := [("math/bits.deBruijn64tab", laid_math_bits_deBruijn64tab)], narrowed := true }
def RunChainUptoSaid : Prop := runChainUptoRow.holds Tryz.pinned (OpenSpec.upto runChainSpec)

/-- 'vivariumlaw26.ScriptCursor', WHERE WHAT IT READS IS OF BULK AT MOST 1048576: true; the input reads as it did. -/
def scriptCursorUptoRow : OpenClaim := { program := "ytnlinpocnopibaagreatdoor", sum := "81cca4c3c8b41e58d2f28b7b236d68dc7b70fe6f9c98a69b069894f27d4f073c", func := "vivarium/vivariumlaw26.ScriptCursor", spec := "scriptCursor", unfollowed := true, recurses := true, named := ["math/bits.deBruijn64tab"], apart := false, laid := [("math/bits.deBruijn64tab", laid_math_bits_deBruijn64tab)], narrowed := true }
def ScriptCursorUptoSaid : Prop := scriptCursorUptoRow.holds Tryz.pinned (OpenSpec.upto scriptCursorSpec)

end Rows
end Go.Proofs.YtnlinpocnopibaaGreatDoor
