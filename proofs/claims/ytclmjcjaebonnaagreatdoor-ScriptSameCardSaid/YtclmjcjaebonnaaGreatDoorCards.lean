/-
  DERIVED. GIVEN WITH THE SEED: THE CARDS: each row of YtclmjcjaebonnaaGreatDoorRows.lean that lists a variable, with what it lists TIED to the program's text (the seventh form; the later family's looks); each row that meets fmt, with fmt's text TOLD by the authors' own Lean function (tested against real Go, not proved from fmt's source: count such statements apart). THE CARD IS WHAT COUNTS. Prove the row's statement (the work); the ties are given (YtclmjcjaebonnaaGreatDoorTie.lean); close each card by the builder's one call (the guide's Derived/Test/ToyasCard.lean, 'card_holds'). Laid BY PROGRAM, IN A SANDBOX (cutbox-door.mjs). By AI agents, Wed Nov 11 2026. No macro, syntax, notation, axiom, sorry.
-/
import Derived.Test.YtclmjcjaebonnaaGreatDoorRows
import GoSem.ClaimSeven
namespace Go.Proofs.YtclmjcjaebonnaaGreatDoor
namespace Rows

/-- THE TIED CARD OF 'vivariumlaw26.ScriptSame'. -/
def scriptSameCard : Claim7 := { stood := { row := scriptSameRow, standIns := [], harness := (true, "a7a4c436af7bc55f9338f20ebae5b4df1fcd0946e68859255050d7371caeb0ce"), looks := false }, kinds := [], alts := [], laidByText := true, laidKinds := [.data], laidTests := true, laidLooks := .later }
def ScriptSameCardSaid : Prop := Claim7.holds Tryz.pinned (.plain (OpenSpec.ofChange scriptSameSpec)) scriptSameCard

/-- THE TIED CARD OF 'vivariumlaw27.TwinTurns'. -/
def twinTurnsCard : Claim7 := { stood := { row := twinTurnsRow, standIns := [], harness := (true, "a7a4c436af7bc55f9338f20ebae5b4df1fcd0946e68859255050d7371caeb0ce"), looks := false }, kinds := [], alts := [], laidByText := true, laidKinds := [.data], laidTests := true, laidLooks := .later }
def TwinTurnsCardSaid : Prop := Claim7.holds Tryz.pinned (.plain (OpenSpec.ofChange twinTurnsSpec)) twinTurnsCard

/-- THE SECOND FORM's CARD OF 'vivariumlaw26.ScriptSame'. -/
def scriptSameUptoCard : Claim7 := { stood := { row := scriptSameUptoRow, standIns := [], harness := (true, "a7a4c436af7bc55f9338f20ebae5b4df1fcd0946e68859255050d7371caeb0ce"), looks := false }, kinds := [], alts := [], laidByText := true, laidKinds := [.data], laidTests := true, laidLooks := .later }
def ScriptSameUptoCardSaid : Prop := Claim7.holds Tryz.pinned (.plain (OpenSpec.upto scriptSameSpec)) scriptSameUptoCard

/-- THE SECOND FORM's CARD OF 'vivariumlaw27.TwinTurns'. -/
def twinTurnsUptoCard : Claim7 := { stood := { row := twinTurnsUptoRow, standIns := [], harness := (true, "a7a4c436af7bc55f9338f20ebae5b4df1fcd0946e68859255050d7371caeb0ce"), looks := false }, kinds := [], alts := [], laidByText := true, laidKinds := [.data], laidTests := true, laidLooks := .later }
def TwinTurnsUptoCardSaid : Prop := Claim7.holds Tryz.pinned (.plain (OpenSpec.upto twinTurnsSpec)) twinTurnsUptoCard
end Rows
end Go.Proofs.YtclmjcjaebonnaaGreatDoor
