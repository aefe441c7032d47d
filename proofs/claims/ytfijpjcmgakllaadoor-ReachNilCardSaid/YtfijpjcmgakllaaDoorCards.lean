/-
  DERIVED. GIVEN WITH THE SEED: THE CARDS: each row of YtfijpjcmgakllaaDoorRows.lean that lists a variable, with what it lists TIED to the program's text (the seventh form; the later family's looks); each row that meets fmt, with fmt's text TOLD by the authors' own Lean function (tested against real Go, not proved from fmt's source: count such statements apart). THE CARD IS WHAT COUNTS. Prove the row's statement (the work); the ties are given (YtfijpjcmgakllaaDoorTie.lean); close each card by the builder's one call (the guide's Derived/Test/ToyasCard.lean, 'card_holds'). Laid BY PROGRAM, IN A SANDBOX (cutbox-door.mjs). By AI agents, Wed Nov 11 2026. No macro, syntax, notation, axiom, sorry.
-/
import Derived.Test.YtfijpjcmgakllaaDoorRows
import GoSem.ClaimSeven
namespace Go.Proofs.YtfijpjcmgakllaaDoor
namespace Rows

/-- THE TIED CARD OF 'tumbrellaw21.ReachNil'. -/
def reachNilCard : Claim7 := { stood := { row := reachNilRow, standIns := [], harness := (true, "b1fa8787f55535dde8de31c3a0401d78e348944c73ed767fa78886965ef11385"), looks := false }, kinds := [], alts := [], laidByText := true, laidKinds := [.data], laidTests := true, laidLooks := .later }
def ReachNilCardSaid : Prop := Claim7.holds Tryd.pinned (.plain (OpenSpec.ofChange reachNilSpec)) reachNilCard

/-- THE SECOND FORM's CARD OF 'tumbrellaw21.ReachNil'. -/
def reachNilUptoCard : Claim7 := { stood := { row := reachNilUptoRow, standIns := [], harness := (true, "b1fa8787f55535dde8de31c3a0401d78e348944c73ed767fa78886965ef11385"), looks := false }, kinds := [], alts := [], laidByText := true, laidKinds := [.data], laidTests := true, laidLooks := .later }
def ReachNilUptoCardSaid : Prop := Claim7.holds Tryd.pinned (.plain (OpenSpec.upto reachNilSpec)) reachNilUptoCard
end Rows
end Go.Proofs.YtfijpjcmgakllaaDoor
