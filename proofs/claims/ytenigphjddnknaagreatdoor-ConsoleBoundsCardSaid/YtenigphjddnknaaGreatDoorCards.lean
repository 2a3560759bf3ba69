/-
  DERIVED. GIVEN WITH THE SEED: THE CARDS: each row of YtenigphjddnknaaGreatDoorRows.lean that lists a variable, with what it lists TIED to the program's text (the seventh form; the later family's looks); each row that meets fmt, with fmt's text TOLD by the authors' own Lean function (tested against real Go, not proved from fmt's source: count such statements apart). THE CARD IS WHAT COUNTS. Prove the row's statement (the work); the ties are given (YtenigphjddnknaaGreatDoorTie.lean); close each card by the builder's one call (the guide's Derived/Test/ToyasCard.lean, 'card_holds'). Laid BY PROGRAM, IN A SANDBOX (cutbox-door.mjs). By AI agents, Wed Nov 11 2026. No macro, syntax, notation, axiom, sorry.
-/
import Derived.Test.YtenigphjddnknaaGreatDoorRows
import GoSem.ClaimSeven
namespace Go.Proofs.YtenigphjddnknaaGreatDoor
namespace Rows

/-- THE TIED CARD OF 'vivariumlaw28.ConsoleStory'. -/
def consoleStoryCard : Claim7 := { stood := { row := consoleStoryRow, standIns := [], harness := (true, "3d8501daf382258e00c50df50682cd5b58bc29386ed49b922ad6d3911e06d646"), looks := true }, kinds := [], alts := [], laidByText := true, laidKinds := [.data, .data, .data, .data, .sentinel, .sentinel, .pinned], laidTests := true, laidLooks := .later }
def ConsoleStoryCardSaid : Prop := Claim7.holds Tryz.pinned (.plain (OpenSpec.ofChange consoleStorySpec)) consoleStoryCard

/-- THE TIED CARD OF 'vivariumlaw28.ConsoleBounds'. -/
def consoleBoundsCard : Claim7 := { stood := { row := consoleBoundsRow, standIns := [], harness := (true, "3d8501daf382258e00c50df50682cd5b58bc29386ed49b922ad6d3911e06d646"), looks := true }, kinds := [], alts := [], laidByText := true, laidKinds := [.data, .data, .data, .data, .sentinel, .sentinel, .pinned], laidTests := true, laidLooks := .later }
def ConsoleBoundsCardSaid : Prop := Claim7.holds Tryz.pinned (.plain (OpenSpec.ofChange consoleBoundsSpec)) consoleBoundsCard

/-- THE TIED CARD OF 'vivariumlaw28.ConsoleNumbers'. -/
def consoleNumbersCard : Claim7 := { stood := { row := consoleNumbersRow, standIns := [], harness := (true, "3d8501daf382258e00c50df50682cd5b58bc29386ed49b922ad6d3911e06d646"), looks := true }, kinds := [], alts := [], laidByText := true, laidKinds := [.data, .data, .data, .data, .sentinel, .sentinel, .pinned], laidTests := true, laidLooks := .later }
def ConsoleNumbersCardSaid : Prop := Claim7.holds Tryz.pinned (.plain (OpenSpec.ofChange consoleNumbersSpec)) consoleNumbersCard

/-- THE SECOND FORM's CARD OF 'vivariumlaw28.ConsoleStory'. -/
def consoleStoryUptoCard : Claim7 := { stood := { row := consoleStoryUptoRow, standIns := [], harness := (true, "3d8501daf382258e00c50df50682cd5b58bc29386ed49b922ad6d3911e06d646"), looks := true }, kinds := [], alts := [], laidByText := true, laidKinds := [.data, .data, .data, .data, .sentinel, .sentinel, .pinned], laidTests := true, laidLooks := .later }
def ConsoleStoryUptoCardSaid : Prop := Claim7.holds Tryz.pinned (.plain (OpenSpec.upto consoleStorySpec)) consoleStoryUptoCard

/-- THE SECOND FORM's CARD OF 'vivariumlaw28.ConsoleBounds'. -/
def consoleBoundsUptoCard : Claim7 := { stood := { row := consoleBoundsUptoRow, standIns := [], harness := (true, "3d8501daf382258e00c50df50682cd5b58bc29386ed49b922ad6d3911e06d646"), looks := true }, kinds := [], alts := [], laidByText := true, laidKinds := [.data, .data, .data, .data, .sentinel, .sentinel, .pinned], laidTests := true, laidLooks := .later }
def ConsoleBoundsUptoCardSaid : Prop := Claim7.holds Tryz.pinned (.plain (OpenSpec.upto consoleBoundsSpec)) consoleBoundsUptoCard

/-- THE SECOND FORM's CARD OF 'vivariumlaw28.ConsoleNumbers'. -/
def consoleNumbersUptoCard : Claim7 := { stood := { row := consoleNumbersUptoRow, standIns := [], harness := (true, "3d8501daf382258e00c50df50682cd5b58bc29386ed49b922ad6d3911e06d646"), looks := true }, kinds := [], alts := [], laidByText := true, laidKinds := [.data, .data, .data, .data, .sentinel, .sentinel, .pinned], laidTests := true, laidLooks := .later }
def ConsoleNumbersUptoCardSaid : Prop := Claim7.holds Tryz.pinned (.plain (OpenSpec.upto consoleNumbersSpec)) consoleNumbersUptoCard
end Rows
end Go.Proofs.YtenigphjddnknaaGreatDoor
