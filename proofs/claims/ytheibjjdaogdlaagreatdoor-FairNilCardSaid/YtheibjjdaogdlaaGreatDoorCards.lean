/-
  DERIVED. GIVEN WITH THE SEED: THE CARDS: each row of YtheibjjdaogdlaaGreatDoorRows.lean that lists a variable, with what it lists TIED to the program's text (the seventh form; the later family's looks); each row that meets fmt, with fmt's text TOLD by the authors' own Lean function (tested against real Go, not proved from fmt's source: count such statements apart). THE CARD IS WHAT COUNTS. Prove the row's statement (the work); the ties are given (YtheibjjdaogdlaaGreatDoorTie.lean); close each card by the builder's one call (the guide's Derived/Test/ToyasCard.lean, 'card_holds'). Laid BY PROGRAM, IN A SANDBOX (cutbox-door.mjs). By AI agents, Wed Nov 11 2026. No macro, syntax, notation, axiom, sorry.
-/
import Derived.Test.YtheibjjdaogdlaaGreatDoorRows
import GoSem.ClaimSeven
namespace Go.Proofs.YtheibjjdaogdlaaGreatDoor
namespace Rows

/-- THE TIED CARD OF 'tumbrellaw33.FairNil'. -/
def fairNilCard : Claim7 := { stood := { row := fairNilRow, standIns := [], harness := (true, "f1d619e987210d0232d1f263d761b5949f29c0dbb2bec06157b6af6b0c303047"), looks := true }, kinds := [], alts := [], laidByText := true, laidKinds := [.data], laidTests := true, laidLooks := .later }
def FairNilCardSaid : Prop := Claim7.holds Tryz.pinned (.plain (OpenSpec.ofChange fairNilSpec)) fairNilCard

/-- THE SECOND FORM's CARD OF 'tumbrellaw33.FairNil'. -/
def fairNilUptoCard : Claim7 := { stood := { row := fairNilUptoRow, standIns := [], harness := (true, "f1d619e987210d0232d1f263d761b5949f29c0dbb2bec06157b6af6b0c303047"), looks := true }, kinds := [], alts := [], laidByText := true, laidKinds := [.data], laidTests := true, laidLooks := .later }
def FairNilUptoCardSaid : Prop := Claim7.holds Tryz.pinned (.plain (OpenSpec.upto fairNilSpec)) fairNilUptoCard
end Rows
end Go.Proofs.YtheibjjdaogdlaaGreatDoor
