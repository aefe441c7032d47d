/-
  DERIVED. GIVEN WITH THE SEED: THE CARDS: each row of YtdpcccjkncagoaaGreatDoorRows.lean that lists a variable, with what it lists TIED to the program's text (the seventh form; the later family's looks); each row that meets fmt, with fmt's text TOLD by the authors' own Lean function (tested against real Go, not proved from fmt's source: count such statements apart). THE CARD IS WHAT COUNTS. Prove the row's statement (the work); the ties are given (YtdpcccjkncagoaaGreatDoorTie.lean); close each card by the builder's one call (the guide's Derived/Test/ToyasCard.lean, 'card_holds'). Laid BY PROGRAM, IN A SANDBOX (cutbox-door.mjs). By AI agents, Wed Nov 11 2026. No macro, syntax, notation, axiom, sorry.
-/
import Derived.Test.YtdpcccjkncagoaaGreatDoorRows
import GoSem.ClaimSeven
namespace Go.Proofs.YtdpcccjkncagoaaGreatDoor
namespace Rows

/-- THE TIED CARD OF 'tumbrellaw18.GheapRoom'. -/
def gheapRoomCard : Claim7 := { stood := { row := gheapRoomRow, standIns := [], harness := (true, "cf725d11c7dab9ebd7d41aff6e15e62abf0f3c7e21c4cd27faae58a80f787af8"), looks := false }, kinds := [], alts := [], laidByText := true, laidKinds := [.data], laidTests := true, laidLooks := .later }
def GheapRoomCardSaid : Prop := Claim7.holds Tryz.pinned (.plain (OpenSpec.ofChange gheapRoomSpec)) gheapRoomCard

/-- THE TIED CARD OF 'tumbrellaw18.GheapApart'. -/
def gheapApartCard : Claim7 := { stood := { row := gheapApartRow, standIns := [], harness := (true, "cf725d11c7dab9ebd7d41aff6e15e62abf0f3c7e21c4cd27faae58a80f787af8"), looks := false }, kinds := [], alts := [], laidByText := true, laidKinds := [.data], laidTests := true, laidLooks := .later }
def GheapApartCardSaid : Prop := Claim7.holds Tryz.pinned (.plain (OpenSpec.ofChange gheapApartSpec)) gheapApartCard

/-- THE TIED CARD OF 'tumbrellaw18.GheapPlays'. -/
def gheapPlaysCard : Claim7 := { stood := { row := gheapPlaysRow, standIns := [], harness := (true, "cf725d11c7dab9ebd7d41aff6e15e62abf0f3c7e21c4cd27faae58a80f787af8"), looks := false }, kinds := [], alts := [], laidByText := true, laidKinds := [.data], laidTests := true, laidLooks := .later }
def GheapPlaysCardSaid : Prop := Claim7.holds Tryz.pinned (.plain (OpenSpec.ofChange gheapPlaysSpec)) gheapPlaysCard

/-- THE TIED CARD OF 'tumbrellaw20.SweepPlays'. -/
def sweepPlaysCard : Claim7 := { stood := { row := sweepPlaysRow, standIns := [], harness := (true, "cf725d11c7dab9ebd7d41aff6e15e62abf0f3c7e21c4cd27faae58a80f787af8"), looks := false }, kinds := [], alts := [], laidByText := true, laidKinds := [.data], laidTests := true, laidLooks := .later }
def SweepPlaysCardSaid : Prop := Claim7.holds Tryz.pinned (.plain (OpenSpec.ofChange sweepPlaysSpec)) sweepPlaysCard

/-- THE TIED CARD OF 'tumbrellaw20.SweepLeaves'. -/
def sweepLeavesCard : Claim7 := { stood := { row := sweepLeavesRow, standIns := [], harness := (true, "cf725d11c7dab9ebd7d41aff6e15e62abf0f3c7e21c4cd27faae58a80f787af8"), looks := false }, kinds := [], alts := [], laidByText := true, laidKinds := [.data], laidTests := true, laidLooks := .later }
def SweepLeavesCardSaid : Prop := Claim7.holds Tryz.pinned (.plain (OpenSpec.ofChange sweepLeavesSpec)) sweepLeavesCard

/-- THE TIED CARD OF 'tumbrellaw20.SweepAll'. -/
def sweepAllCard : Claim7 := { stood := { row := sweepAllRow, standIns := [], harness := (true, "cf725d11c7dab9ebd7d41aff6e15e62abf0f3c7e21c4cd27faae58a80f787af8"), looks := false }, kinds := [], alts := [], laidByText := true, laidKinds := [.data], laidTests := true, laidLooks := .later }
def SweepAllCardSaid : Prop := Claim7.holds Tryz.pinned (.plain (OpenSpec.ofChange sweepAllSpec)) sweepAllCard

/-- THE TIED CARD OF 'tumbrellaw19.MarkReaches'. -/
def markReachesCard : Claim7 := { stood := { row := markReachesRow, standIns := [], harness := (true, "cf725d11c7dab9ebd7d41aff6e15e62abf0f3c7e21c4cd27faae58a80f787af8"), looks := false }, kinds := [], alts := [], laidByText := true, laidKinds := [.data], laidTests := true, laidLooks := .later }
def MarkReachesCardSaid : Prop := Claim7.holds Tryz.pinned (.plain (OpenSpec.ofChange markReachesSpec)) markReachesCard

/-- THE TIED CARD OF 'tumbrellaw19.MarkAgain'. -/
def markAgainCard : Claim7 := { stood := { row := markAgainRow, standIns := [], harness := (true, "cf725d11c7dab9ebd7d41aff6e15e62abf0f3c7e21c4cd27faae58a80f787af8"), looks := false }, kinds := [], alts := [], laidByText := true, laidKinds := [.data], laidTests := true, laidLooks := .later }
def MarkAgainCardSaid : Prop := Claim7.holds Tryz.pinned (.plain (OpenSpec.ofChange markAgainSpec)) markAgainCard

/-- THE TIED CARD OF 'tumbrellaw19.MarkPlays'. -/
def markPlaysCard : Claim7 := { stood := { row := markPlaysRow, standIns := [], harness := (true, "cf725d11c7dab9ebd7d41aff6e15e62abf0f3c7e21c4cd27faae58a80f787af8"), looks := false }, kinds := [], alts := [], laidByText := true, laidKinds := [.data], laidTests := true, laidLooks := .later }
def MarkPlaysCardSaid : Prop := Claim7.holds Tryz.pinned (.plain (OpenSpec.ofChange markPlaysSpec)) markPlaysCard

/-- THE TIED CARD OF 'tumbrellaw22.CycleAgain'. -/
def cycleAgainCard : Claim7 := { stood := { row := cycleAgainRow, standIns := [], harness := (true, "cf725d11c7dab9ebd7d41aff6e15e62abf0f3c7e21c4cd27faae58a80f787af8"), looks := false }, kinds := [], alts := [], laidByText := true, laidKinds := [.data], laidTests := true, laidLooks := .later }
def CycleAgainCardSaid : Prop := Claim7.holds Tryz.pinned (.plain (OpenSpec.ofChange cycleAgainSpec)) cycleAgainCard

/-- THE TIED CARD OF 'tumbrellaw22.CyclePlays'. -/
def cyclePlaysCard : Claim7 := { stood := { row := cyclePlaysRow, standIns := [], harness := (true, "cf725d11c7dab9ebd7d41aff6e15e62abf0f3c7e21c4cd27faae58a80f787af8"), looks := false }, kinds := [], alts := [], laidByText := true, laidKinds := [.data], laidTests := true, laidLooks := .later }
def CyclePlaysCardSaid : Prop := Claim7.holds Tryz.pinned (.plain (OpenSpec.ofChange cyclePlaysSpec)) cyclePlaysCard

/-- THE TIED CARD OF 'tumbrellaw22.CycleExact'. -/
def cycleExactCard : Claim7 := { stood := { row := cycleExactRow, standIns := [], harness := (true, "cf725d11c7dab9ebd7d41aff6e15e62abf0f3c7e21c4cd27faae58a80f787af8"), looks := false }, kinds := [], alts := [], laidByText := true, laidKinds := [.data], laidTests := true, laidLooks := .later }
def CycleExactCardSaid : Prop := Claim7.holds Tryz.pinned (.plain (OpenSpec.ofChange cycleExactSpec)) cycleExactCard

/-- THE SECOND FORM's CARD OF 'tumbrellaw18.GheapRoom'. -/
def gheapRoomUptoCard : Claim7 := { stood := { row := gheapRoomUptoRow, standIns := [], harness := (true, "cf725d11c7dab9ebd7d41aff6e15e62abf0f3c7e21c4cd27faae58a80f787af8"), looks := false }, kinds := [], alts := [], laidByText := true, laidKinds := [.data], laidTests := true, laidLooks := .later }
def GheapRoomUptoCardSaid : Prop := Claim7.holds Tryz.pinned (.plain (OpenSpec.upto gheapRoomSpec)) gheapRoomUptoCard

/-- THE SECOND FORM's CARD OF 'tumbrellaw18.GheapApart'. -/
def gheapApartUptoCard : Claim7 := { stood := { row := gheapApartUptoRow, standIns := [], harness := (true, "cf725d11c7dab9ebd7d41aff6e15e62abf0f3c7e21c4cd27faae58a80f787af8"), looks := false }, kinds := [], alts := [], laidByText := true, laidKinds := [.data], laidTests := true, laidLooks := .later }
def GheapApartUptoCardSaid : Prop := Claim7.holds Tryz.pinned (.plain (OpenSpec.upto gheapApartSpec)) gheapApartUptoCard

/-- THE SECOND FORM's CARD OF 'tumbrellaw18.GheapPlays'. -/
def gheapPlaysUptoCard : Claim7 := { stood := { row := gheapPlaysUptoRow, standIns := [], harness := (true, "cf725d11c7dab9ebd7d41aff6e15e62abf0f3c7e21c4cd27faae58a80f787af8"), looks := false }, kinds := [], alts := [], laidByText := true, laidKinds := [.data], laidTests := true, laidLooks := .later }
def GheapPlaysUptoCardSaid : Prop := Claim7.holds Tryz.pinned (.plain (OpenSpec.upto gheapPlaysSpec)) gheapPlaysUptoCard

/-- THE SECOND FORM's CARD OF 'tumbrellaw20.SweepPlays'. -/
def sweepPlaysUptoCard : Claim7 := { stood := { row := sweepPlaysUptoRow, standIns := [], harness := (true, "cf725d11c7dab9ebd7d41aff6e15e62abf0f3c7e21c4cd27faae58a80f787af8"), looks := false }, kinds := [], alts := [], laidByText := true, laidKinds := [.data], laidTests := true, laidLooks := .later }
def SweepPlaysUptoCardSaid : Prop := Claim7.holds Tryz.pinned (.plain (OpenSpec.upto sweepPlaysSpec)) sweepPlaysUptoCard

/-- THE SECOND FORM's CARD OF 'tumbrellaw20.SweepLeaves'. -/
def sweepLeavesUptoCard : Claim7 := { stood := { row := sweepLeavesUptoRow, standIns := [], harness := (true, "cf725d11c7dab9ebd7d41aff6e15e62abf0f3c7e21c4cd27faae58a80f787af8"), looks := false }, kinds := [], alts := [], laidByText := true, laidKinds := [.data], laidTests := true, laidLooks := .later }
def SweepLeavesUptoCardSaid : Prop := Claim7.holds Tryz.pinned (.plain (OpenSpec.upto sweepLeavesSpec)) sweepLeavesUptoCard

/-- THE SECOND FORM's CARD OF 'tumbrellaw20.SweepAll'. -/
def sweepAllUptoCard : Claim7 := { stood := { row := sweepAllUptoRow, standIns := [], harness := (true, "cf725d11c7dab9ebd7d41aff6e15e62abf0f3c7e21c4cd27faae58a80f787af8"), looks := false }, kinds := [], alts := [], laidByText := true, laidKinds := [.data], laidTests := true, laidLooks := .later }
def SweepAllUptoCardSaid : Prop := Claim7.holds Tryz.pinned (.plain (OpenSpec.upto sweepAllSpec)) sweepAllUptoCard

/-- THE SECOND FORM's CARD OF 'tumbrellaw19.MarkReaches'. -/
def markReachesUptoCard : Claim7 := { stood := { row := markReachesUptoRow, standIns := [], harness := (true, "cf725d11c7dab9ebd7d41aff6e15e62abf0f3c7e21c4cd27faae58a80f787af8"), looks := false }, kinds := [], alts := [], laidByText := true, laidKinds := [.data], laidTests := true, laidLooks := .later }
def MarkReachesUptoCardSaid : Prop := Claim7.holds Tryz.pinned (.plain (OpenSpec.upto markReachesSpec)) markReachesUptoCard

/-- THE SECOND FORM's CARD OF 'tumbrellaw19.MarkAgain'. -/
def markAgainUptoCard : Claim7 := { stood := { row := markAgainUptoRow, standIns := [], harness := (true, "cf725d11c7dab9ebd7d41aff6e15e62abf0f3c7e21c4cd27faae58a80f787af8"), looks := false }, kinds := [], alts := [], laidByText := true, laidKinds := [.data], laidTests := true, laidLooks := .later }
def MarkAgainUptoCardSaid : Prop := Claim7.holds Tryz.pinned (.plain (OpenSpec.upto markAgainSpec)) markAgainUptoCard

/-- THE SECOND FORM's CARD OF 'tumbrellaw19.MarkPlays'. -/
def markPlaysUptoCard : Claim7 := { stood := { row := markPlaysUptoRow, standIns := [], harness := (true, "cf725d11c7dab9ebd7d41aff6e15e62abf0f3c7e21c4cd27faae58a80f787af8"), looks := false }, kinds := [], alts := [], laidByText := true, laidKinds := [.data], laidTests := true, laidLooks := .later }
def MarkPlaysUptoCardSaid : Prop := Claim7.holds Tryz.pinned (.plain (OpenSpec.upto markPlaysSpec)) markPlaysUptoCard

/-- THE SECOND FORM's CARD OF 'tumbrellaw22.CycleAgain'. -/
def cycleAgainUptoCard : Claim7 := { stood := { row := cycleAgainUptoRow, standIns := [], harness := (true, "cf725d11c7dab9ebd7d41aff6e15e62abf0f3c7e21c4cd27faae58a80f787af8"), looks := false }, kinds := [], alts := [], laidByText := true, laidKinds := [.data], laidTests := true, laidLooks := .later }
def CycleAgainUptoCardSaid : Prop := Claim7.holds Tryz.pinned (.plain (OpenSpec.upto cycleAgainSpec)) cycleAgainUptoCard

/-- THE SECOND FORM's CARD OF 'tumbrellaw22.CyclePlays'. -/
def cyclePlaysUptoCard : Claim7 := { stood := { row := cyclePlaysUptoRow, standIns := [], harness := (true, "cf725d11c7dab9ebd7d41aff6e15e62abf0f3c7e21c4cd27faae58a80f787af8"), looks := false }, kinds := [], alts := [], laidByText := true, laidKinds := [.data], laidTests := true, laidLooks := .later }
def CyclePlaysUptoCardSaid : Prop := Claim7.holds Tryz.pinned (.plain (OpenSpec.upto cyclePlaysSpec)) cyclePlaysUptoCard

/-- THE SECOND FORM's CARD OF 'tumbrellaw22.CycleExact'. -/
def cycleExactUptoCard : Claim7 := { stood := { row := cycleExactUptoRow, standIns := [], harness := (true, "cf725d11c7dab9ebd7d41aff6e15e62abf0f3c7e21c4cd27faae58a80f787af8"), looks := false }, kinds := [], alts := [], laidByText := true, laidKinds := [.data], laidTests := true, laidLooks := .later }
def CycleExactUptoCardSaid : Prop := Claim7.holds Tryz.pinned (.plain (OpenSpec.upto cycleExactSpec)) cycleExactUptoCard
end Rows
end Go.Proofs.YtdpcccjkncagoaaGreatDoor
