/-
  DERIVED. GIVEN WITH THE SEED: THE CARDS: each row of YthmdialagibpfaaGreatDoorRows.lean that lists a variable, with what it lists TIED to the program's text (the seventh form; the later family's looks); each row that meets fmt, with fmt's text TOLD by the authors' own Lean function (tested against real Go, not proved from fmt's source: count such statements apart). THE CARD IS WHAT COUNTS. Prove the row's statement (the work); the ties are given (YthmdialagibpfaaGreatDoorTie.lean); close each card by the builder's one call (the guide's Derived/Test/ToyasCard.lean, 'card_holds'). Laid BY PROGRAM, IN A SANDBOX (cutbox-door.mjs). By AI agents, Wed Nov 11 2026. No macro, syntax, notation, axiom, sorry.
-/
import Derived.Test.YthmdialagibpfaaGreatDoorRows
import GoSem.ClaimSeven
namespace Go.Proofs.YthmdialagibpfaaGreatDoor
namespace Rows

/-- THE TIED CARD OF 'tumbrellaw22.CyclePlays'. -/
def cyclePlaysCard : Claim7 := { stood := { row := cyclePlaysRow, standIns := [], harness := (true, "f2e3f391afccf659883e777921f10c5c0cbaade67a8f1dc9231d9dafdd12ccd3"), looks := false }, kinds := [], alts := [], laidByText := true, laidKinds := [.data], laidTests := true, laidLooks := .later }
def CyclePlaysCardSaid : Prop := Claim7.holds Tryz.pinned (.plain (OpenSpec.ofChange cyclePlaysSpec)) cyclePlaysCard

/-- THE TIED CARD OF 'tumbrellaw21.ReachOf'. -/
def reachOfCard : Claim7 := { stood := { row := reachOfRow, standIns := [], harness := (true, "f2e3f391afccf659883e777921f10c5c0cbaade67a8f1dc9231d9dafdd12ccd3"), looks := false }, kinds := [], alts := [], laidByText := true, laidKinds := [.data], laidTests := true, laidLooks := .later }
def ReachOfCardSaid : Prop := Claim7.holds Tryz.pinned (.plain (OpenSpec.ofChange reachOfSpec)) reachOfCard

/-- THE SECOND FORM's CARD OF 'tumbrellaw22.CyclePlays'. -/
def cyclePlaysUptoCard : Claim7 := { stood := { row := cyclePlaysUptoRow, standIns := [], harness := (true, "f2e3f391afccf659883e777921f10c5c0cbaade67a8f1dc9231d9dafdd12ccd3"), looks := false }, kinds := [], alts := [], laidByText := true, laidKinds := [.data], laidTests := true, laidLooks := .later }
def CyclePlaysUptoCardSaid : Prop := Claim7.holds Tryz.pinned (.plain (OpenSpec.upto cyclePlaysSpec)) cyclePlaysUptoCard

/-- THE SECOND FORM's CARD OF 'tumbrellaw21.ReachOf'. -/
def reachOfUptoCard : Claim7 := { stood := { row := reachOfUptoRow, standIns := [], harness := (true, "f2e3f391afccf659883e777921f10c5c0cbaade67a8f1dc9231d9dafdd12ccd3"), looks := false }, kinds := [], alts := [], laidByText := true, laidKinds := [.data], laidTests := true, laidLooks := .later }
def ReachOfUptoCardSaid : Prop := Claim7.holds Tryz.pinned (.plain (OpenSpec.upto reachOfSpec)) reachOfUptoCard
end Rows
end Go.Proofs.YthmdialagibpfaaGreatDoor
