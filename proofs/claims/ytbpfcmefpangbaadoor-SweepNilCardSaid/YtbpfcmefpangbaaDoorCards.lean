/-
  DERIVED. GIVEN WITH THE SEED: THE CARDS: each row of YtbpfcmefpangbaaDoorRows.lean that lists a variable, with what it lists TIED to the program's text (the seventh form; the later family's looks); each row that meets fmt, with fmt's text TOLD by the authors' own Lean function (tested against real Go, not proved from fmt's source: count such statements apart). THE CARD IS WHAT COUNTS. Prove the row's statement (the work); the ties are given (YtbpfcmefpangbaaDoorTie.lean); close each card by the builder's one call (the guide's Derived/Test/ToyasCard.lean, 'card_holds'). Laid BY PROGRAM, IN A SANDBOX (cutbox-door.mjs). By AI agents, Wed Nov 11 2026. No macro, syntax, notation, axiom, sorry.
-/
import Derived.Test.YtbpfcmefpangbaaDoorRows
import GoSem.ClaimSeven
namespace Go.Proofs.YtbpfcmefpangbaaDoor
namespace Rows

/-- THE TIED CARD OF 'tumbrellaw20.SweepNil'. -/
def sweepNilCard : Claim7 := { stood := { row := sweepNilRow, standIns := [], harness := (true, "ed1b411bf6ab45786a188b2902f1ff003e53552e420b871a749ef0591ef893ee"), looks := false }, kinds := [], alts := [], laidByText := true, laidKinds := [.data], laidTests := true, laidLooks := .later }
def SweepNilCardSaid : Prop := Claim7.holds Tryd.pinned (.plain (OpenSpec.ofChange sweepNilSpec)) sweepNilCard

/-- THE TIED CARD OF 'tumbrellaw18.GheapNil'. -/
def gheapNilCard : Claim7 := { stood := { row := gheapNilRow, standIns := [], harness := (true, "ed1b411bf6ab45786a188b2902f1ff003e53552e420b871a749ef0591ef893ee"), looks := false }, kinds := [], alts := [], laidByText := true, laidKinds := [.data], laidTests := true, laidLooks := .later }
def GheapNilCardSaid : Prop := Claim7.holds Tryd.pinned (.plain (OpenSpec.ofChange gheapNilSpec)) gheapNilCard

/-- THE SECOND FORM's CARD OF 'tumbrellaw20.SweepNil'. -/
def sweepNilUptoCard : Claim7 := { stood := { row := sweepNilUptoRow, standIns := [], harness := (true, "ed1b411bf6ab45786a188b2902f1ff003e53552e420b871a749ef0591ef893ee"), looks := false }, kinds := [], alts := [], laidByText := true, laidKinds := [.data], laidTests := true, laidLooks := .later }
def SweepNilUptoCardSaid : Prop := Claim7.holds Tryd.pinned (.plain (OpenSpec.upto sweepNilSpec)) sweepNilUptoCard

/-- THE SECOND FORM's CARD OF 'tumbrellaw18.GheapNil'. -/
def gheapNilUptoCard : Claim7 := { stood := { row := gheapNilUptoRow, standIns := [], harness := (true, "ed1b411bf6ab45786a188b2902f1ff003e53552e420b871a749ef0591ef893ee"), looks := false }, kinds := [], alts := [], laidByText := true, laidKinds := [.data], laidTests := true, laidLooks := .later }
def GheapNilUptoCardSaid : Prop := Claim7.holds Tryd.pinned (.plain (OpenSpec.upto gheapNilSpec)) gheapNilUptoCard
end Rows
end Go.Proofs.YtbpfcmefpangbaaDoor
