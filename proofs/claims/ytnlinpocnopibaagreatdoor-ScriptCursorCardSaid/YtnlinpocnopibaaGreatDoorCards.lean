/-
  DERIVED. GIVEN WITH THE SEED: THE CARDS: each row of YtnlinpocnopibaaGreatDoorRows.lean that lists a variable, with what it lists TIED to the program's text (the seventh form; the later family's looks); each row that meets fmt, with fmt's text TOLD by the authors' own Lean function (tested against real Go, not proved from fmt's source: count such statements apart). THE CARD IS WHAT COUNTS. Prove the row's statement (the work); the ties are given (YtnlinpocnopibaaGreatDoorTie.lean); close each card by the builder's one call (the guide's Derived/Test/ToyasCard.lean, 'card_holds'). Laid BY PROGRAM, IN A SANDBOX (cutbox-door.mjs). By AI agents, Wed Nov 11 2026. No macro, syntax, notation, axiom, sorry.
-/
import Derived.Test.YtnlinpocnopibaaGreatDoorRows
import GoSem.ClaimSeven
namespace Go.Proofs.YtnlinpocnopibaaGreatDoor
namespace Rows

/-- THE TIED CARD OF 'vivariumlaw24.InterpRes'. -/
def interpResCard : Claim7 := { stood := { row := interpResRow, standIns := [], harness := (true, "c4079cfb7271c19bb61d5eba37b74dc48882edc3ea3f38c6c363bdc0a2d4d1c9"), looks := false }, kinds := [], alts := [], laidByText := true, laidKinds := [.data], laidTests := true, laidLooks := .later }
def InterpResCardSaid : Prop := Claim7.holds Tryz.pinned (.plain (OpenSpec.ofChange interpResSpec)) interpResCard

/-- THE TIED CARD OF 'vivariumlaw24.InterpSkips'. -/
def interpSkipsCard : Claim7 := { stood := { row := interpSkipsRow, standIns := [], harness := (true, "c4079cfb7271c19bb61d5eba37b74dc48882edc3ea3f38c6c363bdc0a2d4d1c9"), looks := false }, kinds := [], alts := [], laidByText := true, laidKinds := [.data], laidTests := true, laidLooks := .later }
def InterpSkipsCardSaid : Prop := Claim7.holds Tryz.pinned (.plain (OpenSpec.ofChange interpSkipsSpec)) interpSkipsCard

/-- THE TIED CARD OF 'vivariumlaw24.InterpFaults'. -/
def interpFaultsCard : Claim7 := { stood := { row := interpFaultsRow, standIns := [], harness := (true, "c4079cfb7271c19bb61d5eba37b74dc48882edc3ea3f38c6c363bdc0a2d4d1c9"), looks := false }, kinds := [], alts := [], laidByText := true, laidKinds := [.data], laidTests := true, laidLooks := .later }
def InterpFaultsCardSaid : Prop := Claim7.holds Tryz.pinned (.plain (OpenSpec.ofChange interpFaultsSpec)) interpFaultsCard

/-- THE TIED CARD OF 'vivariumlaw25.RunChain'. -/
def runChainCard : Claim7 := { stood := { row := runChainRow, standIns := [], harness := (true, "c4079cfb7271c19bb61d5eba37b74dc48882edc3ea3f38c6c363bdc0a2d4d1c9"), looks := false }, kinds := [], alts := [], laidByText := true, laidKinds := [.data], laidTests := true, laidLooks := .later }
def RunChainCardSaid : Prop := Claim7.holds Tryz.pinned (.plain (OpenSpec.ofChange runChainSpec)) runChainCard

/-- THE TIED CARD OF 'vivariumlaw26.ScriptCursor'. -/
def scriptCursorCard : Claim7 := { stood := { row := scriptCursorRow, standIns := [], harness := (true, "c4079cfb7271c19bb61d5eba37b74dc48882edc3ea3f38c6c363bdc0a2d4d1c9"), looks := false }, kinds := [], alts := [], laidByText := true, laidKinds := [.data], laidTests := true, laidLooks := .later }
def ScriptCursorCardSaid : Prop := Claim7.holds Tryz.pinned (.plain (OpenSpec.ofChange scriptCursorSpec)) scriptCursorCard

/-- THE SECOND FORM's CARD OF 'vivariumlaw24.InterpRes'. -/
def interpResUptoCard : Claim7 := { stood := { row := interpResUptoRow, standIns := [], harness := (true, "c4079cfb7271c19bb61d5eba37b74dc48882edc3ea3f38c6c363bdc0a2d4d1c9"), looks := false }, kinds := [], alts := [], laidByText := true, laidKinds := [.data], laidTests := true, laidLooks := .later }
def InterpResUptoCardSaid : Prop := Claim7.holds Tryz.pinned (.plain (OpenSpec.upto interpResSpec)) interpResUptoCard

/-- THE SECOND FORM's CARD OF 'vivariumlaw24.InterpSkips'. -/
def interpSkipsUptoCard : Claim7 := { stood := { row := interpSkipsUptoRow, standIns := [], harness := (true, "c4079cfb7271c19bb61d5eba37b74dc48882edc3ea3f38c6c363bdc0a2d4d1c9"), looks := false }, kinds := [], alts := [], laidByText := true, laidKinds := [.data], laidTests := true, laidLooks := .later }
def InterpSkipsUptoCardSaid : Prop := Claim7.holds Tryz.pinned (.plain (OpenSpec.upto interpSkipsSpec)) interpSkipsUptoCard

/-- THE SECOND FORM's CARD OF 'vivariumlaw24.InterpFaults'. -/
def interpFaultsUptoCard : Claim7 := { stood := { row := interpFaultsUptoRow, standIns := [], harness := (true, "c4079cfb7271c19bb61d5eba37b74dc48882edc3ea3f38c6c363bdc0a2d4d1c9"), looks := false }, kinds := [], alts := [], laidByText := true, laidKinds := [.data], laidTests := true, laidLooks := .later }
def InterpFaultsUptoCardSaid : Prop := Claim7.holds Tryz.pinned (.plain (OpenSpec.upto interpFaultsSpec)) interpFaultsUptoCard

/-- THE SECOND FORM's CARD OF 'vivariumlaw25.RunChain'. -/
def runChainUptoCard : Claim7 := { stood := { row := runChainUptoRow, standIns := [], harness := (true, "c4079cfb7271c19bb61d5eba37b74dc48882edc3ea3f38c6c363bdc0a2d4d1c9"), looks := false }, kinds := [], alts := [], laidByText := true, laidKinds := [.data], laidTests := true, laidLooks := .later }
def RunChainUptoCardSaid : Prop := Claim7.holds Tryz.pinned (.plain (OpenSpec.upto runChainSpec)) runChainUptoCard

/-- THE SECOND FORM's CARD OF 'vivariumlaw26.ScriptCursor'. -/
def scriptCursorUptoCard : Claim7 := { stood := { row := scriptCursorUptoRow, standIns := [], harness := (true, "c4079cfb7271c19bb61d5eba37b74dc48882edc3ea3f38c6c363bdc0a2d4d1c9"), looks := false }, kinds := [], alts := [], laidByText := true, laidKinds := [.data], laidTests := true, laidLooks := .later }
def ScriptCursorUptoCardSaid : Prop := Claim7.holds Tryz.pinned (.plain (OpenSpec.upto scriptCursorSpec)) scriptCursorUptoCard
end Rows
end Go.Proofs.YtnlinpocnopibaaGreatDoor
