/-
  DERIVED. GIVEN WITH THE SEED: THE CARDS: each row of YtmajnoeiabhdnaaGreatDoorRows.lean that lists a variable, with what it lists TIED to the program's text (the seventh form; the later family's looks); each row that meets fmt, with fmt's text TOLD by the authors' own Lean function (tested against real Go, not proved from fmt's source: count such statements apart). THE CARD IS WHAT COUNTS. Prove the row's statement (the work); the ties are given (YtmajnoeiabhdnaaGreatDoorTie.lean); close each card by the builder's one call (the guide's Derived/Test/ToyasCard.lean, 'card_holds'). Laid BY PROGRAM, IN A SANDBOX (cutbox-door.mjs). By AI agents, Wed Nov 11 2026. No macro, syntax, notation, axiom, sorry.
-/
import Derived.Test.YtmajnoeiabhdnaaGreatDoorRows
import GoSem.ClaimSeven
namespace Go.Proofs.YtmajnoeiabhdnaaGreatDoor
namespace Rows

/-- THE TIED CARD OF 'tumbrellaw22.CycleNil'. -/
def cycleNilCard : Claim7 := { stood := { row := cycleNilRow, standIns := [], harness := (true, "7c4d1adfdbf9cd7cdfaf703468f67341c1aaea2ab153e70efe05476775fd3c91"), looks := false }, kinds := [], alts := [], laidByText := true, laidKinds := [.data], laidTests := true, laidLooks := .later }
def CycleNilCardSaid : Prop := Claim7.holds Tryz.pinned (.plain (OpenSpec.ofChange cycleNilSpec)) cycleNilCard

/-- THE SECOND FORM's CARD OF 'tumbrellaw22.CycleNil'. -/
def cycleNilUptoCard : Claim7 := { stood := { row := cycleNilUptoRow, standIns := [], harness := (true, "7c4d1adfdbf9cd7cdfaf703468f67341c1aaea2ab153e70efe05476775fd3c91"), looks := false }, kinds := [], alts := [], laidByText := true, laidKinds := [.data], laidTests := true, laidLooks := .later }
def CycleNilUptoCardSaid : Prop := Claim7.holds Tryz.pinned (.plain (OpenSpec.upto cycleNilSpec)) cycleNilUptoCard
end Rows
end Go.Proofs.YtmajnoeiabhdnaaGreatDoor
