/-
  DERIVED. GIVEN WITH THE SEED: THE CARDS: each row of YtadojhgfkneioaaGreatDoorRows.lean that lists a variable, with what it lists TIED to the program's text (the seventh form; the later family's looks); each row that meets fmt, with fmt's text TOLD by the authors' own Lean function (tested against real Go, not proved from fmt's source: count such statements apart). THE CARD IS WHAT COUNTS. Prove the row's statement (the work); the ties are given (YtadojhgfkneioaaGreatDoorTie.lean); close each card by the builder's one call (the guide's Derived/Test/ToyasCard.lean, 'card_holds'). Laid BY PROGRAM, IN A SANDBOX (cutbox-door.mjs). By AI agents, Wed Nov 11 2026. No macro, syntax, notation, axiom, sorry.
-/
import Derived.Test.YtadojhgfkneioaaGreatDoorRows
import GoSem.ClaimSeven
namespace Go.Proofs.YtadojhgfkneioaaGreatDoor
namespace Rows

/-- THE TIED CARD OF 'vivariumlaw26.ScriptSame'. -/
def scriptSameCard : Claim7 := { stood := { row := scriptSameRow, standIns := [], harness := (true, "f12a3652c965887488258d9ecd5ed26bab245916b40c0b81b8b18112b2037ad4"), looks := true }, kinds := [], alts := [], laidByText := true, laidKinds := [.data], laidTests := true, laidLooks := .later }
def ScriptSameCardSaid : Prop := Claim7.holds Tryz.pinned (.plain (OpenSpec.ofChange scriptSameSpec)) scriptSameCard

/-- THE TIED CARD OF 'vivariumlaw27.TwinAlikes'. -/
def twinAlikesCard : Claim7 := { stood := { row := twinAlikesRow, standIns := [], harness := (true, "f12a3652c965887488258d9ecd5ed26bab245916b40c0b81b8b18112b2037ad4"), looks := true }, kinds := [], alts := [], laidByText := true, laidKinds := [.data], laidTests := true, laidLooks := .later }
def TwinAlikesCardSaid : Prop := Claim7.holds Tryz.pinned (.plain (OpenSpec.ofChange twinAlikesSpec)) twinAlikesCard

/-- THE TIED CARD OF 'vivariumlaw27.TwinTurns'. -/
def twinTurnsCard : Claim7 := { stood := { row := twinTurnsRow, standIns := [], harness := (true, "f12a3652c965887488258d9ecd5ed26bab245916b40c0b81b8b18112b2037ad4"), looks := true }, kinds := [], alts := [], laidByText := true, laidKinds := [.data], laidTests := true, laidLooks := .later }
def TwinTurnsCardSaid : Prop := Claim7.holds Tryz.pinned (.plain (OpenSpec.ofChange twinTurnsSpec)) twinTurnsCard

/-- THE TIED CARD OF 'vivariumlaw27.TwinPlain'. -/
def twinPlainCard : Claim7 := { stood := { row := twinPlainRow, standIns := [], harness := (true, "f12a3652c965887488258d9ecd5ed26bab245916b40c0b81b8b18112b2037ad4"), looks := true }, kinds := [], alts := [], laidByText := true, laidKinds := [.data], laidTests := true, laidLooks := .later }
def TwinPlainCardSaid : Prop := Claim7.holds Tryz.pinned (.plain (OpenSpec.ofChange twinPlainSpec)) twinPlainCard

/-- THE TIED CARD OF 'vivariumlaw28.ConsoleParses'. -/
def consoleParsesCard : Claim7 := { stood := { row := consoleParsesRow, standIns := [], harness := (true, "f12a3652c965887488258d9ecd5ed26bab245916b40c0b81b8b18112b2037ad4"), looks := true }, kinds := [], alts := [], laidByText := true, laidKinds := [.data, .data, .data, .data, .sentinel, .sentinel, .pinned], laidTests := true, laidLooks := .later }
def ConsoleParsesCardSaid : Prop := Claim7.holds Tryz.pinned (.plain (OpenSpec.ofChange consoleParsesSpec)) consoleParsesCard

/-- THE TIED CARD OF 'vivariumlaw28.ConsoleBounds'. -/
def consoleBoundsCard : Claim7 := { stood := { row := consoleBoundsRow, standIns := [], harness := (true, "f12a3652c965887488258d9ecd5ed26bab245916b40c0b81b8b18112b2037ad4"), looks := true }, kinds := [], alts := [], laidByText := true, laidKinds := [.data, .data, .data, .data, .sentinel, .sentinel, .pinned], laidTests := true, laidLooks := .later }
def ConsoleBoundsCardSaid : Prop := Claim7.holds Tryz.pinned (.plain (OpenSpec.ofChange consoleBoundsSpec)) consoleBoundsCard

/-- THE TIED CARD OF 'vivariumlaw28.ConsoleStory'. -/
def consoleStoryCard : Claim7 := { stood := { row := consoleStoryRow, standIns := [], harness := (true, "f12a3652c965887488258d9ecd5ed26bab245916b40c0b81b8b18112b2037ad4"), looks := true }, kinds := [], alts := [], laidByText := true, laidKinds := [.data, .data, .data, .data, .sentinel, .sentinel, .pinned], laidTests := true, laidLooks := .later }
def ConsoleStoryCardSaid : Prop := Claim7.holds Tryz.pinned (.plain (OpenSpec.ofChange consoleStorySpec)) consoleStoryCard

/-- THE TIED CARD OF 'vivariumlaw28.ConsoleNumbers'. -/
def consoleNumbersCard : Claim7 := { stood := { row := consoleNumbersRow, standIns := [], harness := (true, "f12a3652c965887488258d9ecd5ed26bab245916b40c0b81b8b18112b2037ad4"), looks := true }, kinds := [], alts := [], laidByText := true, laidKinds := [.data, .data, .data, .data, .sentinel, .sentinel, .pinned], laidTests := true, laidLooks := .later }
def ConsoleNumbersCardSaid : Prop := Claim7.holds Tryz.pinned (.plain (OpenSpec.ofChange consoleNumbersSpec)) consoleNumbersCard

/-- THE SECOND FORM's CARD OF 'vivariumlaw26.ScriptSame'. -/
def scriptSameUptoCard : Claim7 := { stood := { row := scriptSameUptoRow, standIns := [], harness := (true, "f12a3652c965887488258d9ecd5ed26bab245916b40c0b81b8b18112b2037ad4"), looks := true }, kinds := [], alts := [], laidByText := true, laidKinds := [.data], laidTests := true, laidLooks := .later }
def ScriptSameUptoCardSaid : Prop := Claim7.holds Tryz.pinned (.plain (OpenSpec.upto scriptSameSpec)) scriptSameUptoCard

/-- THE SECOND FORM's CARD OF 'vivariumlaw27.TwinAlikes'. -/
def twinAlikesUptoCard : Claim7 := { stood := { row := twinAlikesUptoRow, standIns := [], harness := (true, "f12a3652c965887488258d9ecd5ed26bab245916b40c0b81b8b18112b2037ad4"), looks := true }, kinds := [], alts := [], laidByText := true, laidKinds := [.data], laidTests := true, laidLooks := .later }
def TwinAlikesUptoCardSaid : Prop := Claim7.holds Tryz.pinned (.plain (OpenSpec.upto twinAlikesSpec)) twinAlikesUptoCard

/-- THE SECOND FORM's CARD OF 'vivariumlaw27.TwinTurns'. -/
def twinTurnsUptoCard : Claim7 := { stood := { row := twinTurnsUptoRow, standIns := [], harness := (true, "f12a3652c965887488258d9ecd5ed26bab245916b40c0b81b8b18112b2037ad4"), looks := true }, kinds := [], alts := [], laidByText := true, laidKinds := [.data], laidTests := true, laidLooks := .later }
def TwinTurnsUptoCardSaid : Prop := Claim7.holds Tryz.pinned (.plain (OpenSpec.upto twinTurnsSpec)) twinTurnsUptoCard

/-- THE SECOND FORM's CARD OF 'vivariumlaw27.TwinPlain'. -/
def twinPlainUptoCard : Claim7 := { stood := { row := twinPlainUptoRow, standIns := [], harness := (true, "f12a3652c965887488258d9ecd5ed26bab245916b40c0b81b8b18112b2037ad4"), looks := true }, kinds := [], alts := [], laidByText := true, laidKinds := [.data], laidTests := true, laidLooks := .later }
def TwinPlainUptoCardSaid : Prop := Claim7.holds Tryz.pinned (.plain (OpenSpec.upto twinPlainSpec)) twinPlainUptoCard

/-- THE SECOND FORM's CARD OF 'vivariumlaw28.ConsoleParses'. -/
def consoleParsesUptoCard : Claim7 := { stood := { row := consoleParsesUptoRow, standIns := [], harness := (true, "f12a3652c965887488258d9ecd5ed26bab245916b40c0b81b8b18112b2037ad4"), looks := true }, kinds := [], alts := [], laidByText := true, laidKinds := [.data, .data, .data, .data, .sentinel, .sentinel, .pinned], laidTests := true, laidLooks := .later }
def ConsoleParsesUptoCardSaid : Prop := Claim7.holds Tryz.pinned (.plain (OpenSpec.upto consoleParsesSpec)) consoleParsesUptoCard

/-- THE SECOND FORM's CARD OF 'vivariumlaw28.ConsoleBounds'. -/
def consoleBoundsUptoCard : Claim7 := { stood := { row := consoleBoundsUptoRow, standIns := [], harness := (true, "f12a3652c965887488258d9ecd5ed26bab245916b40c0b81b8b18112b2037ad4"), looks := true }, kinds := [], alts := [], laidByText := true, laidKinds := [.data, .data, .data, .data, .sentinel, .sentinel, .pinned], laidTests := true, laidLooks := .later }
def ConsoleBoundsUptoCardSaid : Prop := Claim7.holds Tryz.pinned (.plain (OpenSpec.upto consoleBoundsSpec)) consoleBoundsUptoCard

/-- THE SECOND FORM's CARD OF 'vivariumlaw28.ConsoleStory'. -/
def consoleStoryUptoCard : Claim7 := { stood := { row := consoleStoryUptoRow, standIns := [], harness := (true, "f12a3652c965887488258d9ecd5ed26bab245916b40c0b81b8b18112b2037ad4"), looks := true }, kinds := [], alts := [], laidByText := true, laidKinds := [.data, .data, .data, .data, .sentinel, .sentinel, .pinned], laidTests := true, laidLooks := .later }
def ConsoleStoryUptoCardSaid : Prop := Claim7.holds Tryz.pinned (.plain (OpenSpec.upto consoleStorySpec)) consoleStoryUptoCard

/-- THE SECOND FORM's CARD OF 'vivariumlaw28.ConsoleNumbers'. -/
def consoleNumbersUptoCard : Claim7 := { stood := { row := consoleNumbersUptoRow, standIns := [], harness := (true, "f12a3652c965887488258d9ecd5ed26bab245916b40c0b81b8b18112b2037ad4"), looks := true }, kinds := [], alts := [], laidByText := true, laidKinds := [.data, .data, .data, .data, .sentinel, .sentinel, .pinned], laidTests := true, laidLooks := .later }
def ConsoleNumbersUptoCardSaid : Prop := Claim7.holds Tryz.pinned (.plain (OpenSpec.upto consoleNumbersSpec)) consoleNumbersUptoCard
end Rows
end Go.Proofs.YtadojhgfkneioaaGreatDoor
