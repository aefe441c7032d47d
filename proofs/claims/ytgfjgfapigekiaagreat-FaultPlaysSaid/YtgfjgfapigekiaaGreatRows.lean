/-
  No cell of these rows narrows 'for every input' (looked for: loops, veiled, ifaces, maps, wideKeys, modest, calm, conditions, laid).
  DERIVED. THE GIVEN ROWS OF THIS SEAT. 5 by the template 'for every input the law returns true; each argument reads behind the call as it read before'; 0 by the template 'total and deterministic' (their statements: YtgfjgfapigekiaaGreatTotals.lean).
  GIVEN WITH THE SEED: the statements are not yours to turn. If you find one false, say at which input.
  Laid BY PROGRAM, IN A SANDBOX (cutbox-rows.mjs): the forced cells as the released guide's own fill.sh prints them over the translation 4ad3a27d135fb876… (all of the seat's roots in one cut). By AI agents, Wed Nov 11 2026. No macro, syntax, notation, axiom, sorry.
-/
import Derived.Test.YtgfjgfapigekiaaGreatChecked
import GoSem.Claim
import GoSem.ClaimJoined
import GoSem.ClaimMapViews
import Derived.JoinedTies
import Derived.KernelRfl
namespace Go.Proofs.YtgfjgfapigekiaaGreat
/- THE CELL 'sum', in the pinned program and in every row, IS THE sha256 OF THE DUMP (.gsa) THAT YtgfjgfapigekiaaGreatProg.lean LOADS. Nothing in Lean hashes anything: it is a label: what it is worth is what the hold of that sum in a sandbox is worth. -/
noncomputable def Tryz.pinned : Pinned := { name := "ytgfjgfapigekiaagreat", sum := "4ad3a27d135fb8768b9aa3dc121db00c230f2b722d174ebdf10036e0dab8a737", checked := Tryz.checked }
namespace Rows
def none {H : Type} : Left H := { results := [], args := [] }

/-- 'tumbrellaw09.RegionPlaces': WHATEVER THE INPUT: true; the input reads as it did. -/
def regionPlacesSpec : ChangeSpec := { name := "regionPlaces", fn := fun _ => fun
  | [d1, d2, d3] => { results := [.lit (.bool true)], args := [d1, d2, d3] }
  | _ => none }
def regionPlacesRow : OpenClaim := { program := "ytgfjgfapigekiaagreat", sum := "4ad3a27d135fb8768b9aa3dc121db00c230f2b722d174ebdf10036e0dab8a737", func := "tumbrel/tumbrellaw09.RegionPlaces", spec := "regionPlaces", apart := false }
def RegionPlacesSaid : Prop := regionPlacesRow.holds Tryz.pinned (OpenSpec.ofChange regionPlacesSpec)

/-- ITS FALSE NEIGHBOUR: 'it returns false'. Refute it at one input. -/
def regionPlacesWrong : ChangeSpec := { name := "regionPlaces", fn := fun _ => fun
  | [d1, d2, d3] => { results := [.lit (.bool false)], args := [d1, d2, d3] }
  | _ => none }
def RegionPlacesWrongFalsely : Prop := regionPlacesRow.holds Tryz.pinned (OpenSpec.ofChange regionPlacesWrong)

/-- 'tumbrellaw09.RegionEmpties': WHATEVER THE INPUT: true; the input reads as it did. -/
def regionEmptiesSpec : ChangeSpec := { name := "regionEmpties", fn := fun _ => fun
  | [d1, d2, d3] => { results := [.lit (.bool true)], args := [d1, d2, d3] }
  | _ => none }
def regionEmptiesRow : OpenClaim := { program := "ytgfjgfapigekiaagreat", sum := "4ad3a27d135fb8768b9aa3dc121db00c230f2b722d174ebdf10036e0dab8a737", func := "tumbrel/tumbrellaw09.RegionEmpties", spec := "regionEmpties", apart := false }
def RegionEmptiesSaid : Prop := regionEmptiesRow.holds Tryz.pinned (OpenSpec.ofChange regionEmptiesSpec)

/-- ITS FALSE NEIGHBOUR: 'it returns false'. Refute it at one input. -/
def regionEmptiesWrong : ChangeSpec := { name := "regionEmpties", fn := fun _ => fun
  | [d1, d2, d3] => { results := [.lit (.bool false)], args := [d1, d2, d3] }
  | _ => none }
def RegionEmptiesWrongFalsely : Prop := regionEmptiesRow.holds Tryz.pinned (OpenSpec.ofChange regionEmptiesWrong)

/-- 'tumbrellaw09.RegionApart': WHATEVER THE INPUT: true; the input reads as it did. -/
def regionApartSpec : ChangeSpec := { name := "regionApart", fn := fun _ => fun
  | [d1, d2, d3, d4] => { results := [.lit (.bool true)], args := [d1, d2, d3, d4] }
  | _ => none }
def regionApartRow : OpenClaim := { program := "ytgfjgfapigekiaagreat", sum := "4ad3a27d135fb8768b9aa3dc121db00c230f2b722d174ebdf10036e0dab8a737", func := "tumbrel/tumbrellaw09.RegionApart", spec := "regionApart", unfollowed := true, recurses := true, apart := false }
def RegionApartSaid : Prop := regionApartRow.holds Tryz.pinned (OpenSpec.ofChange regionApartSpec)

/-- ITS FALSE NEIGHBOUR: 'it returns false'. Refute it at one input. -/
def regionApartWrong : ChangeSpec := { name := "regionApart", fn := fun _ => fun
  | [d1, d2, d3, d4] => { results := [.lit (.bool false)], args := [d1, d2, d3, d4] }
  | _ => none }
def RegionApartWrongFalsely : Prop := regionApartRow.holds Tryz.pinned (OpenSpec.ofChange regionApartWrong)

/-- 'tumbrellaw10.FaultExact': WHATEVER THE INPUT: true; the input reads as it did. -/
def faultExactSpec : ChangeSpec := { name := "faultExact", fn := fun _ => fun
  | [d1, d2] => { results := [.lit (.bool true)], args := [d1, d2] }
  | _ => none }
def faultExactRow : OpenClaim := { program := "ytgfjgfapigekiaagreat", sum := "4ad3a27d135fb8768b9aa3dc121db00c230f2b722d174ebdf10036e0dab8a737", func := "tumbrel/tumbrellaw10.FaultExact", spec := "faultExact", apart := false }
def FaultExactSaid : Prop := faultExactRow.holds Tryz.pinned (OpenSpec.ofChange faultExactSpec)

/-- ITS FALSE NEIGHBOUR: 'it returns false'. Refute it at one input. -/
def faultExactWrong : ChangeSpec := { name := "faultExact", fn := fun _ => fun
  | [d1, d2] => { results := [.lit (.bool false)], args := [d1, d2] }
  | _ => none }
def FaultExactWrongFalsely : Prop := faultExactRow.holds Tryz.pinned (OpenSpec.ofChange faultExactWrong)

/-- 'tumbrellaw10.FaultPlays': WHATEVER THE INPUT: true; the input reads as it did. -/
def faultPlaysSpec : ChangeSpec := { name := "faultPlays", fn := fun _ => fun
  | [d1, d2, d3, d4] => { results := [.lit (.bool true)], args := [d1, d2, d3, d4] }
  | _ => none }
def faultPlaysRow : OpenClaim := { program := "ytgfjgfapigekiaagreat", sum := "4ad3a27d135fb8768b9aa3dc121db00c230f2b722d174ebdf10036e0dab8a737", func := "tumbrel/tumbrellaw10.FaultPlays", spec := "faultPlays", unfollowed := true, recurses := true, apart := false }
def FaultPlaysSaid : Prop := faultPlaysRow.holds Tryz.pinned (OpenSpec.ofChange faultPlaysSpec)

/-- ITS FALSE NEIGHBOUR: 'it returns false'. Refute it at one input. -/
def faultPlaysWrong : ChangeSpec := { name := "faultPlays", fn := fun _ => fun
  | [d1, d2, d3, d4] => { results := [.lit (.bool false)], args := [d1, d2, d3, d4] }
  | _ => none }
def FaultPlaysWrongFalsely : Prop := faultPlaysRow.holds Tryz.pinned (OpenSpec.ofChange faultPlaysWrong)

/- THE SECOND FORM. 'bulk': how many values and letters a reading holds, each counted each time it is reached (what is shared counts as often as it is met; a slice's spare places count too). A statement '..UptoSaid' is the law's where the arguments, and the package variables that the reading takes, are together of bulk at most 1048576: NARROWER than '..Said'. Prove '..Said' where nothing that the law and all that it calls make is longer than what came in: it says more and counts as full. Else prove '..UptoSaid'. A law counts once. -/
mutual
def uptoBulk {H : Type} : DataW H → Nat
  | .lit (.string bytes) => bytes.length + 1
  | .lit _ => 1
  | .nil => 1
  | .ptr d => uptoBulk d + 1
  | .slice elems spare => uptoBulkAll elems + uptoBulkAll spare + 1
  | .agg parts => uptoBulkAll parts + 1
  | .iface _ d => uptoBulk d + 1
  | .map entries => uptoBulkEntries entries + 1
  | .held _ => 1
def uptoBulkAll {H : Type} : List (DataW H) → Nat
  | [] => 0
  | d :: r => uptoBulk d + uptoBulkAll r
def uptoBulkEntries {H : Type} : List (Lit × DataW H) → Nat
  | [] => 0
  | x :: r => uptoBulkEntry x + uptoBulkEntries r
def uptoBulkEntry {H : Type} : Lit × DataW H → Nat
  | (.string bytes, d) => bytes.length + uptoBulk d + 1
  | (_, d) => uptoBulk d + 1
 end
def uptoSmall : (H : Type) → List (DataW H) → Bool := fun _ ds => decide (uptoBulkAll ds ≤ 1048576)
def OpenSpec.upto (s : _root_.Go.ChangeSpec) : _root_.Go.OpenSpec := { _root_.Go.OpenSpec.ofChange s with cond := some uptoSmall }

/-- 'tumbrellaw09.RegionPlaces', WHERE WHAT IT READS IS OF BULK AT MOST 1048576: true; the input reads as it did. -/
def regionPlacesUptoRow : OpenClaim := { program := "ytgfjgfapigekiaagreat", sum := "4ad3a27d135fb8768b9aa3dc121db00c230f2b722d174ebdf10036e0dab8a737", func := "tumbrel/tumbrellaw09.RegionPlaces", spec := "regionPlaces", apart := false, narrowed := true }
def RegionPlacesUptoSaid : Prop := regionPlacesUptoRow.holds Tryz.pinned (OpenSpec.upto regionPlacesSpec)

/-- 'tumbrellaw09.RegionEmpties', WHERE WHAT IT READS IS OF BULK AT MOST 1048576: true; the input reads as it did. -/
def regionEmptiesUptoRow : OpenClaim := { program := "ytgfjgfapigekiaagreat", sum := "4ad3a27d135fb8768b9aa3dc121db00c230f2b722d174ebdf10036e0dab8a737", func := "tumbrel/tumbrellaw09.RegionEmpties", spec := "regionEmpties", apart := false, narrowed := true }
def RegionEmptiesUptoSaid : Prop := regionEmptiesUptoRow.holds Tryz.pinned (OpenSpec.upto regionEmptiesSpec)

/-- 'tumbrellaw09.RegionApart', WHERE WHAT IT READS IS OF BULK AT MOST 1048576: true; the input reads as it did. -/
def regionApartUptoRow : OpenClaim := { program := "ytgfjgfapigekiaagreat", sum := "4ad3a27d135fb8768b9aa3dc121db00c230f2b722d174ebdf10036e0dab8a737", func := "tumbrel/tumbrellaw09.RegionApart", spec := "regionApart", unfollowed := true, recurses := true, apart := false, narrowed := true }
def RegionApartUptoSaid : Prop := regionApartUptoRow.holds Tryz.pinned (OpenSpec.upto regionApartSpec)

/-- 'tumbrellaw10.FaultExact', WHERE WHAT IT READS IS OF BULK AT MOST 1048576: true; the input reads as it did. -/
def faultExactUptoRow : OpenClaim := { program := "ytgfjgfapigekiaagreat", sum := "4ad3a27d135fb8768b9aa3dc121db00c230f2b722d174ebdf10036e0dab8a737", func := "tumbrel/tumbrellaw10.FaultExact", spec := "faultExact", apart := false, narrowed := true }
def FaultExactUptoSaid : Prop := faultExactUptoRow.holds Tryz.pinned (OpenSpec.upto faultExactSpec)

/-- 'tumbrellaw10.FaultPlays', WHERE WHAT IT READS IS OF BULK AT MOST 1048576: true; the input reads as it did. -/
def faultPlaysUptoRow : OpenClaim := { program := "ytgfjgfapigekiaagreat", sum := "4ad3a27d135fb8768b9aa3dc121db00c230f2b722d174ebdf10036e0dab8a737", func := "tumbrel/tumbrellaw10.FaultPlays", spec := "faultPlays", unfollowed := true, recurses := true, apart := false, narrowed := true }
def FaultPlaysUptoSaid : Prop := faultPlaysUptoRow.holds Tryz.pinned (OpenSpec.upto faultPlaysSpec)

end Rows
end Go.Proofs.YtgfjgfapigekiaaGreat
