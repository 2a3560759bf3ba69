/-
  DERIVED. GIVEN WITH THE SEED: THE CARDS: each row of YtmcigeebeoobdaaGreatDoorRows.lean that lists a variable, with what it lists TIED to the program's text (the seventh form; the later family's looks); each row that meets fmt, with fmt's text TOLD by the authors' own Lean function (tested against real Go, not proved from fmt's source: count such statements apart). THE CARD IS WHAT COUNTS. Prove the row's statement (the work); the ties are given (YtmcigeebeoobdaaGreatDoorTie.lean); close each card by the builder's one call (the guide's Derived/Test/ToyasCard.lean, 'card_holds'). Laid BY PROGRAM, IN A SANDBOX (cutbox-door.mjs). By AI agents, Wed Nov 11 2026. No macro, syntax, notation, axiom, sorry.
-/
import Derived.Test.YtmcigeebeoobdaaGreatDoorRows
import GoSem.ClaimSeven
namespace Go.Proofs.YtmcigeebeoobdaaGreatDoor
namespace Rows

/-- THE TIED CARD OF 'vivariumlaw18.RowsNarrow'. -/
def rowsNarrowCard : Claim7 := { stood := { row := rowsNarrowRow, standIns := [], harness := (true, "14c1b2908911bd83503e7ce65d9cc98523b56f3b4d2733546ef39ab7698afc90"), looks := true }, kinds := [], alts := [], laidByText := true, laidKinds := [.data], laidTests := true, laidLooks := .later }
def RowsNarrowCardSaid : Prop := Claim7.holds Tryz.pinned (.plain (OpenSpec.ofChange rowsNarrowSpec)) rowsNarrowCard

/-- THE TIED CARD OF 'vivariumlaw18.RowsOrder'. -/
def rowsOrderCard : Claim7 := { stood := { row := rowsOrderRow, standIns := [], harness := (true, "14c1b2908911bd83503e7ce65d9cc98523b56f3b4d2733546ef39ab7698afc90"), looks := true }, kinds := [], alts := [], laidByText := true, laidKinds := [.data], laidTests := true, laidLooks := .later }
def RowsOrderCardSaid : Prop := Claim7.holds Tryz.pinned (.plain (OpenSpec.ofChange rowsOrderSpec)) rowsOrderCard

/-- THE TIED CARD OF 'vivariumlaw18.RowsLive'. -/
def rowsLiveCard : Claim7 := { stood := { row := rowsLiveRow, standIns := [], harness := (true, "14c1b2908911bd83503e7ce65d9cc98523b56f3b4d2733546ef39ab7698afc90"), looks := true }, kinds := [], alts := [], laidByText := true, laidKinds := [.data], laidTests := true, laidLooks := .later }
def RowsLiveCardSaid : Prop := Claim7.holds Tryz.pinned (.plain (OpenSpec.ofChange rowsLiveSpec)) rowsLiveCard

/-- THE TIED CARD OF 'vivariumlaw18.RowsTell'. -/
def rowsTellCard : Claim7 := { stood := { row := rowsTellRow, standIns := [], harness := (true, "14c1b2908911bd83503e7ce65d9cc98523b56f3b4d2733546ef39ab7698afc90"), looks := true }, kinds := [], alts := [], laidByText := true, laidKinds := [.data], laidTests := true, laidLooks := .later }
def RowsTellCardSaid : Prop := Claim7.holds Tryz.pinned (.plain (OpenSpec.ofChange rowsTellSpec)) rowsTellCard

/-- THE TIED CARD OF 'vivariumlaw17.PlanChecks'. -/
def planChecksCard : Claim7 := { stood := { row := planChecksRow, standIns := [], harness := (true, "14c1b2908911bd83503e7ce65d9cc98523b56f3b4d2733546ef39ab7698afc90"), looks := true }, kinds := [], alts := [], laidByText := true, laidKinds := [.data, .data, .data, .data, .sentinel, .sentinel, .pinned], laidTests := true, laidLooks := .later }
def PlanChecksCardSaid : Prop := Claim7.holds Tryz.pinned (.plain (OpenSpec.ofChange planChecksSpec)) planChecksCard

/-- THE SECOND FORM's CARD OF 'vivariumlaw18.RowsNarrow'. -/
def rowsNarrowUptoCard : Claim7 := { stood := { row := rowsNarrowUptoRow, standIns := [], harness := (true, "14c1b2908911bd83503e7ce65d9cc98523b56f3b4d2733546ef39ab7698afc90"), looks := true }, kinds := [], alts := [], laidByText := true, laidKinds := [.data], laidTests := true, laidLooks := .later }
def RowsNarrowUptoCardSaid : Prop := Claim7.holds Tryz.pinned (.plain (OpenSpec.upto rowsNarrowSpec)) rowsNarrowUptoCard

/-- THE SECOND FORM's CARD OF 'vivariumlaw18.RowsOrder'. -/
def rowsOrderUptoCard : Claim7 := { stood := { row := rowsOrderUptoRow, standIns := [], harness := (true, "14c1b2908911bd83503e7ce65d9cc98523b56f3b4d2733546ef39ab7698afc90"), looks := true }, kinds := [], alts := [], laidByText := true, laidKinds := [.data], laidTests := true, laidLooks := .later }
def RowsOrderUptoCardSaid : Prop := Claim7.holds Tryz.pinned (.plain (OpenSpec.upto rowsOrderSpec)) rowsOrderUptoCard

/-- THE SECOND FORM's CARD OF 'vivariumlaw18.RowsLive'. -/
def rowsLiveUptoCard : Claim7 := { stood := { row := rowsLiveUptoRow, standIns := [], harness := (true, "14c1b2908911bd83503e7ce65d9cc98523b56f3b4d2733546ef39ab7698afc90"), looks := true }, kinds := [], alts := [], laidByText := true, laidKinds := [.data], laidTests := true, laidLooks := .later }
def RowsLiveUptoCardSaid : Prop := Claim7.holds Tryz.pinned (.plain (OpenSpec.upto rowsLiveSpec)) rowsLiveUptoCard

/-- THE SECOND FORM's CARD OF 'vivariumlaw18.RowsTell'. -/
def rowsTellUptoCard : Claim7 := { stood := { row := rowsTellUptoRow, standIns := [], harness := (true, "14c1b2908911bd83503e7ce65d9cc98523b56f3b4d2733546ef39ab7698afc90"), looks := true }, kinds := [], alts := [], laidByText := true, laidKinds := [.data], laidTests := true, laidLooks := .later }
def RowsTellUptoCardSaid : Prop := Claim7.holds Tryz.pinned (.plain (OpenSpec.upto rowsTellSpec)) rowsTellUptoCard

/-- THE SECOND FORM's CARD OF 'vivariumlaw17.PlanChecks'. -/
def planChecksUptoCard : Claim7 := { stood := { row := planChecksUptoRow, standIns := [], harness := (true, "14c1b2908911bd83503e7ce65d9cc98523b56f3b4d2733546ef39ab7698afc90"), looks := true }, kinds := [], alts := [], laidByText := true, laidKinds := [.data, .data, .data, .data, .sentinel, .sentinel, .pinned], laidTests := true, laidLooks := .later }
def PlanChecksUptoCardSaid : Prop := Claim7.holds Tryz.pinned (.plain (OpenSpec.upto planChecksSpec)) planChecksUptoCard
end Rows
end Go.Proofs.YtmcigeebeoobdaaGreatDoor
