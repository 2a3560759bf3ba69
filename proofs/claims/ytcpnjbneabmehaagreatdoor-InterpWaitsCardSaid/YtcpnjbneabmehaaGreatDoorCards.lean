/-
  DERIVED. GIVEN WITH THE SEED: THE CARDS: each row of YtcpnjbneabmehaaGreatDoorRows.lean that lists a variable, with what it lists TIED to the program's text (the seventh form; the later family's looks); each row that meets fmt, with fmt's text TOLD by the authors' own Lean function (tested against real Go, not proved from fmt's source: count such statements apart). THE CARD IS WHAT COUNTS. Prove the row's statement (the work); the ties are given (YtcpnjbneabmehaaGreatDoorTie.lean); close each card by the builder's one call (the guide's Derived/Test/ToyasCard.lean, 'card_holds'). Laid BY PROGRAM, IN A SANDBOX (cutbox-door.mjs). By AI agents, Wed Nov 11 2026. No macro, syntax, notation, axiom, sorry.
-/
import Derived.Test.YtcpnjbneabmehaaGreatDoorRows
import GoSem.ClaimSeven
namespace Go.Proofs.YtcpnjbneabmehaaGreatDoor
namespace Rows

/-- THE TIED CARD OF 'vivariumlaw24.InterpReckons'. -/
def interpReckonsCard : Claim7 := { stood := { row := interpReckonsRow, standIns := [], harness := (true, "0c8fa94ed718c3e861ce835a1116784432544925ad39fc48b49fa15d31349275"), looks := false }, kinds := [], alts := [], laidByText := true, laidKinds := [.data], laidTests := true, laidLooks := .later }
def InterpReckonsCardSaid : Prop := Claim7.holds Tryz.pinned (.plain (OpenSpec.ofChange interpReckonsSpec)) interpReckonsCard

/-- THE TIED CARD OF 'vivariumlaw24.InterpFull'. -/
def interpFullCard : Claim7 := { stood := { row := interpFullRow, standIns := [], harness := (true, "0c8fa94ed718c3e861ce835a1116784432544925ad39fc48b49fa15d31349275"), looks := false }, kinds := [], alts := [], laidByText := true, laidKinds := [.data], laidTests := true, laidLooks := .later }
def InterpFullCardSaid : Prop := Claim7.holds Tryz.pinned (.plain (OpenSpec.ofChange interpFullSpec)) interpFullCard

/-- THE TIED CARD OF 'vivariumlaw24.InterpRes'. -/
def interpResCard : Claim7 := { stood := { row := interpResRow, standIns := [], harness := (true, "0c8fa94ed718c3e861ce835a1116784432544925ad39fc48b49fa15d31349275"), looks := false }, kinds := [], alts := [], laidByText := true, laidKinds := [.data], laidTests := true, laidLooks := .later }
def InterpResCardSaid : Prop := Claim7.holds Tryz.pinned (.plain (OpenSpec.ofChange interpResSpec)) interpResCard

/-- THE TIED CARD OF 'vivariumlaw24.InterpSkips'. -/
def interpSkipsCard : Claim7 := { stood := { row := interpSkipsRow, standIns := [], harness := (true, "0c8fa94ed718c3e861ce835a1116784432544925ad39fc48b49fa15d31349275"), looks := false }, kinds := [], alts := [], laidByText := true, laidKinds := [.data], laidTests := true, laidLooks := .later }
def InterpSkipsCardSaid : Prop := Claim7.holds Tryz.pinned (.plain (OpenSpec.ofChange interpSkipsSpec)) interpSkipsCard

/-- THE TIED CARD OF 'vivariumlaw24.InterpFaults'. -/
def interpFaultsCard : Claim7 := { stood := { row := interpFaultsRow, standIns := [], harness := (true, "0c8fa94ed718c3e861ce835a1116784432544925ad39fc48b49fa15d31349275"), looks := false }, kinds := [], alts := [], laidByText := true, laidKinds := [.data], laidTests := true, laidLooks := .later }
def InterpFaultsCardSaid : Prop := Claim7.holds Tryz.pinned (.plain (OpenSpec.ofChange interpFaultsSpec)) interpFaultsCard

/-- THE TIED CARD OF 'vivariumlaw24.InterpWaits'. -/
def interpWaitsCard : Claim7 := { stood := { row := interpWaitsRow, standIns := [], harness := (true, "0c8fa94ed718c3e861ce835a1116784432544925ad39fc48b49fa15d31349275"), looks := false }, kinds := [], alts := [], laidByText := true, laidKinds := [.data], laidTests := true, laidLooks := .later }
def InterpWaitsCardSaid : Prop := Claim7.holds Tryz.pinned (.plain (OpenSpec.ofChange interpWaitsSpec)) interpWaitsCard

/-- THE SECOND FORM's CARD OF 'vivariumlaw24.InterpReckons'. -/
def interpReckonsUptoCard : Claim7 := { stood := { row := interpReckonsUptoRow, standIns := [], harness := (true, "0c8fa94ed718c3e861ce835a1116784432544925ad39fc48b49fa15d31349275"), looks := false }, kinds := [], alts := [], laidByText := true, laidKinds := [.data], laidTests := true, laidLooks := .later }
def InterpReckonsUptoCardSaid : Prop := Claim7.holds Tryz.pinned (.plain (OpenSpec.upto interpReckonsSpec)) interpReckonsUptoCard

/-- THE SECOND FORM's CARD OF 'vivariumlaw24.InterpFull'. -/
def interpFullUptoCard : Claim7 := { stood := { row := interpFullUptoRow, standIns := [], harness := (true, "0c8fa94ed718c3e861ce835a1116784432544925ad39fc48b49fa15d31349275"), looks := false }, kinds := [], alts := [], laidByText := true, laidKinds := [.data], laidTests := true, laidLooks := .later }
def InterpFullUptoCardSaid : Prop := Claim7.holds Tryz.pinned (.plain (OpenSpec.upto interpFullSpec)) interpFullUptoCard

/-- THE SECOND FORM's CARD OF 'vivariumlaw24.InterpRes'. -/
def interpResUptoCard : Claim7 := { stood := { row := interpResUptoRow, standIns := [], harness := (true, "0c8fa94ed718c3e861ce835a1116784432544925ad39fc48b49fa15d31349275"), looks := false }, kinds := [], alts := [], laidByText := true, laidKinds := [.data], laidTests := true, laidLooks := .later }
def InterpResUptoCardSaid : Prop := Claim7.holds Tryz.pinned (.plain (OpenSpec.upto interpResSpec)) interpResUptoCard

/-- THE SECOND FORM's CARD OF 'vivariumlaw24.InterpSkips'. -/
def interpSkipsUptoCard : Claim7 := { stood := { row := interpSkipsUptoRow, standIns := [], harness := (true, "0c8fa94ed718c3e861ce835a1116784432544925ad39fc48b49fa15d31349275"), looks := false }, kinds := [], alts := [], laidByText := true, laidKinds := [.data], laidTests := true, laidLooks := .later }
def InterpSkipsUptoCardSaid : Prop := Claim7.holds Tryz.pinned (.plain (OpenSpec.upto interpSkipsSpec)) interpSkipsUptoCard

/-- THE SECOND FORM's CARD OF 'vivariumlaw24.InterpFaults'. -/
def interpFaultsUptoCard : Claim7 := { stood := { row := interpFaultsUptoRow, standIns := [], harness := (true, "0c8fa94ed718c3e861ce835a1116784432544925ad39fc48b49fa15d31349275"), looks := false }, kinds := [], alts := [], laidByText := true, laidKinds := [.data], laidTests := true, laidLooks := .later }
def InterpFaultsUptoCardSaid : Prop := Claim7.holds Tryz.pinned (.plain (OpenSpec.upto interpFaultsSpec)) interpFaultsUptoCard

/-- THE SECOND FORM's CARD OF 'vivariumlaw24.InterpWaits'. -/
def interpWaitsUptoCard : Claim7 := { stood := { row := interpWaitsUptoRow, standIns := [], harness := (true, "0c8fa94ed718c3e861ce835a1116784432544925ad39fc48b49fa15d31349275"), looks := false }, kinds := [], alts := [], laidByText := true, laidKinds := [.data], laidTests := true, laidLooks := .later }
def InterpWaitsUptoCardSaid : Prop := Claim7.holds Tryz.pinned (.plain (OpenSpec.upto interpWaitsSpec)) interpWaitsUptoCard
end Rows
end Go.Proofs.YtcpnjbneabmehaaGreatDoor
