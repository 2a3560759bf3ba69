/-
  DERIVED. GIVEN WITH THE SEED: THE CARDS: each row of YtogmgjcdicnceaaGreatDoorRows.lean that lists a variable, with what it lists TIED to the program's text (the seventh form; the later family's looks); each row that meets fmt, with fmt's text TOLD by the authors' own Lean function (tested against real Go, not proved from fmt's source: count such statements apart). THE CARD IS WHAT COUNTS. Prove the row's statement (the work); the ties are given (YtogmgjcdicnceaaGreatDoorTie.lean); close each card by the builder's one call (the guide's Derived/Test/ToyasCard.lean, 'card_holds'). Laid BY PROGRAM, IN A SANDBOX (cutbox-door.mjs). By AI agents, Wed Nov 11 2026. No macro, syntax, notation, axiom, sorry.
-/
import Derived.Test.YtogmgjcdicnceaaGreatDoorRows
import GoSem.ClaimSeven
namespace Go.Proofs.YtogmgjcdicnceaaGreatDoor
namespace Rows

/-- THE TIED CARD OF 'vivariumlaw25.RunSpawns'. -/
def runSpawnsCard : Claim7 := { stood := { row := runSpawnsRow, standIns := [], harness := (true, "486038b6850197823af6af7b30b8c7d0ff7ff7001d027ae1211037949151774f"), looks := false }, kinds := [], alts := [], laidByText := true, laidKinds := [.data], laidTests := true, laidLooks := .later }
def RunSpawnsCardSaid : Prop := Claim7.holds Tryz.pinned (.plain (OpenSpec.ofChange runSpawnsSpec)) runSpawnsCard

/-- THE TIED CARD OF 'vivariumlaw26.ScriptKinds'. -/
def scriptKindsCard : Claim7 := { stood := { row := scriptKindsRow, standIns := [], harness := (true, "486038b6850197823af6af7b30b8c7d0ff7ff7001d027ae1211037949151774f"), looks := false }, kinds := [], alts := [], laidByText := true, laidKinds := [.data], laidTests := true, laidLooks := .later }
def ScriptKindsCardSaid : Prop := Claim7.holds Tryz.pinned (.plain (OpenSpec.ofChange scriptKindsSpec)) scriptKindsCard

/-- THE TIED CARD OF 'vivariumlaw26.ScriptCursor'. -/
def scriptCursorCard : Claim7 := { stood := { row := scriptCursorRow, standIns := [], harness := (true, "486038b6850197823af6af7b30b8c7d0ff7ff7001d027ae1211037949151774f"), looks := false }, kinds := [], alts := [], laidByText := true, laidKinds := [.data], laidTests := true, laidLooks := .later }
def ScriptCursorCardSaid : Prop := Claim7.holds Tryz.pinned (.plain (OpenSpec.ofChange scriptCursorSpec)) scriptCursorCard

/-- THE TIED CARD OF 'vivariumlaw19.CursorSpawns'. -/
def cursorSpawnsCard : Claim7 := { stood := { row := cursorSpawnsRow, standIns := [], harness := (true, "486038b6850197823af6af7b30b8c7d0ff7ff7001d027ae1211037949151774f"), looks := false }, kinds := [], alts := [], laidByText := true, laidKinds := [.data], laidTests := true, laidLooks := .later }
def CursorSpawnsCardSaid : Prop := Claim7.holds Tryz.pinned (.plain (OpenSpec.ofChange cursorSpawnsSpec)) cursorSpawnsCard

/-- THE SECOND FORM's CARD OF 'vivariumlaw25.RunSpawns'. -/
def runSpawnsUptoCard : Claim7 := { stood := { row := runSpawnsUptoRow, standIns := [], harness := (true, "486038b6850197823af6af7b30b8c7d0ff7ff7001d027ae1211037949151774f"), looks := false }, kinds := [], alts := [], laidByText := true, laidKinds := [.data], laidTests := true, laidLooks := .later }
def RunSpawnsUptoCardSaid : Prop := Claim7.holds Tryz.pinned (.plain (OpenSpec.upto runSpawnsSpec)) runSpawnsUptoCard

/-- THE SECOND FORM's CARD OF 'vivariumlaw26.ScriptKinds'. -/
def scriptKindsUptoCard : Claim7 := { stood := { row := scriptKindsUptoRow, standIns := [], harness := (true, "486038b6850197823af6af7b30b8c7d0ff7ff7001d027ae1211037949151774f"), looks := false }, kinds := [], alts := [], laidByText := true, laidKinds := [.data], laidTests := true, laidLooks := .later }
def ScriptKindsUptoCardSaid : Prop := Claim7.holds Tryz.pinned (.plain (OpenSpec.upto scriptKindsSpec)) scriptKindsUptoCard

/-- THE SECOND FORM's CARD OF 'vivariumlaw26.ScriptCursor'. -/
def scriptCursorUptoCard : Claim7 := { stood := { row := scriptCursorUptoRow, standIns := [], harness := (true, "486038b6850197823af6af7b30b8c7d0ff7ff7001d027ae1211037949151774f"), looks := false }, kinds := [], alts := [], laidByText := true, laidKinds := [.data], laidTests := true, laidLooks := .later }
def ScriptCursorUptoCardSaid : Prop := Claim7.holds Tryz.pinned (.plain (OpenSpec.upto scriptCursorSpec)) scriptCursorUptoCard

/-- THE SECOND FORM's CARD OF 'vivariumlaw19.CursorSpawns'. -/
def cursorSpawnsUptoCard : Claim7 := { stood := { row := cursorSpawnsUptoRow, standIns := [], harness := (true, "486038b6850197823af6af7b30b8c7d0ff7ff7001d027ae1211037949151774f"), looks := false }, kinds := [], alts := [], laidByText := true, laidKinds := [.data], laidTests := true, laidLooks := .later }
def CursorSpawnsUptoCardSaid : Prop := Claim7.holds Tryz.pinned (.plain (OpenSpec.upto cursorSpawnsSpec)) cursorSpawnsUptoCard
end Rows
end Go.Proofs.YtogmgjcdicnceaaGreatDoor
