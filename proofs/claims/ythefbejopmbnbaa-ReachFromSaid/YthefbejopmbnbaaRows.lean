/-
  No cell of these rows narrows 'for every input' (looked for: loops, veiled, ifaces, maps, wideKeys, modest, calm, conditions, laid).
  DERIVED. THE GIVEN ROWS OF THIS SEAT. 4 by the template 'for every input the law returns true; each argument reads behind the call as it read before'; 0 by the template 'total and deterministic' (their statements: YthefbejopmbnbaaTotals.lean).
  GIVEN WITH THE SEED: the statements are not yours to turn. If you find one false, say at which input.
  Laid BY PROGRAM, IN A SANDBOX (cutbox-rows.mjs): the forced cells as the released guide's own fill.sh prints them over the translation 9dddb34920136d7b… (all of the seat's roots in one cut). By AI agents, Wed Nov 11 2026. No macro, syntax, notation, axiom, sorry.
-/
import Derived.Test.YthefbejopmbnbaaChecked
import GoSem.Claim
import GoSem.ClaimJoined
import GoSem.ClaimMapViews
import Derived.JoinedTies
import Derived.KernelRfl
namespace Go.Proofs.Ythefbejopmbnbaa
/- THE CELL 'sum', in the pinned program and in every row, IS THE sha256 OF THE DUMP (.gsa) THAT YthefbejopmbnbaaProg.lean LOADS. Nothing in Lean hashes anything: it is a label: what it is worth is what the hold of that sum in a sandbox is worth. -/
noncomputable def Try.pinned : Pinned := { name := "ythefbejopmbnbaa", sum := "9dddb34920136d7b405f88b7ee59310bca57302a3417eda6bb130a73aa67713c", checked := Try.checked }
namespace Rows
def none {H : Type} : Left H := { results := [], args := [] }

/-- 'tumbrellaw21.ReachSteps': WHATEVER THE INPUT: true; the input reads as it did. -/
def reachStepsSpec : ChangeSpec := { name := "reachSteps", fn := fun _ => fun
  | [d1, d2, d3] => { results := [.lit (.bool true)], args := [d1, d2, d3] }
  | _ => none }
def reachStepsRow : OpenClaim := { program := "ythefbejopmbnbaa", sum := "9dddb34920136d7b405f88b7ee59310bca57302a3417eda6bb130a73aa67713c", func := "tumbrel/tumbrellaw21.ReachSteps", spec := "reachSteps", unfollowed := true, recurses := true, apart := false }
def ReachStepsSaid : Prop := reachStepsRow.holds Try.pinned (OpenSpec.ofChange reachStepsSpec)

/-- ITS FALSE NEIGHBOUR: 'it returns false'. Refute it at one input. -/
def reachStepsWrong : ChangeSpec := { name := "reachSteps", fn := fun _ => fun
  | [d1, d2, d3] => { results := [.lit (.bool false)], args := [d1, d2, d3] }
  | _ => none }
def ReachStepsWrongFalsely : Prop := reachStepsRow.holds Try.pinned (OpenSpec.ofChange reachStepsWrong)

/-- 'tumbrellaw21.ReachGrows': WHATEVER THE INPUT: true; the input reads as it did. -/
def reachGrowsSpec : ChangeSpec := { name := "reachGrows", fn := fun _ => fun
  | [d1, d2, d3] => { results := [.lit (.bool true)], args := [d1, d2, d3] }
  | _ => none }
def reachGrowsRow : OpenClaim := { program := "ythefbejopmbnbaa", sum := "9dddb34920136d7b405f88b7ee59310bca57302a3417eda6bb130a73aa67713c", func := "tumbrel/tumbrellaw21.ReachGrows", spec := "reachGrows", unfollowed := true, recurses := true, apart := false }
def ReachGrowsSaid : Prop := reachGrowsRow.holds Try.pinned (OpenSpec.ofChange reachGrowsSpec)

/-- ITS FALSE NEIGHBOUR: 'it returns false'. Refute it at one input. -/
def reachGrowsWrong : ChangeSpec := { name := "reachGrows", fn := fun _ => fun
  | [d1, d2, d3] => { results := [.lit (.bool false)], args := [d1, d2, d3] }
  | _ => none }
def ReachGrowsWrongFalsely : Prop := reachGrowsRow.holds Try.pinned (OpenSpec.ofChange reachGrowsWrong)

/-- 'tumbrellaw21.ReachUnion': WHATEVER THE INPUT: true; the input reads as it did. -/
def reachUnionSpec : ChangeSpec := { name := "reachUnion", fn := fun _ => fun
  | [d1, d2, d3] => { results := [.lit (.bool true)], args := [d1, d2, d3] }
  | _ => none }
def reachUnionRow : OpenClaim := { program := "ythefbejopmbnbaa", sum := "9dddb34920136d7b405f88b7ee59310bca57302a3417eda6bb130a73aa67713c", func := "tumbrel/tumbrellaw21.ReachUnion", spec := "reachUnion", unfollowed := true, recurses := true, apart := false }
def ReachUnionSaid : Prop := reachUnionRow.holds Try.pinned (OpenSpec.ofChange reachUnionSpec)

/-- ITS FALSE NEIGHBOUR: 'it returns false'. Refute it at one input. -/
def reachUnionWrong : ChangeSpec := { name := "reachUnion", fn := fun _ => fun
  | [d1, d2, d3] => { results := [.lit (.bool false)], args := [d1, d2, d3] }
  | _ => none }
def ReachUnionWrongFalsely : Prop := reachUnionRow.holds Try.pinned (OpenSpec.ofChange reachUnionWrong)

/-- 'tumbrellaw21.ReachFrom': WHATEVER THE INPUT: true; the input reads as it did. -/
def reachFromSpec : ChangeSpec := { name := "reachFrom", fn := fun _ => fun
  | [d1, d2] => { results := [.lit (.bool true)], args := [d1, d2] }
  | _ => none }
def reachFromRow : OpenClaim := { program := "ythefbejopmbnbaa", sum := "9dddb34920136d7b405f88b7ee59310bca57302a3417eda6bb130a73aa67713c", func := "tumbrel/tumbrellaw21.ReachFrom", spec := "reachFrom", unfollowed := true, recurses := true, apart := false }
def ReachFromSaid : Prop := reachFromRow.holds Try.pinned (OpenSpec.ofChange reachFromSpec)

/-- ITS FALSE NEIGHBOUR: 'it returns false'. Refute it at one input. -/
def reachFromWrong : ChangeSpec := { name := "reachFrom", fn := fun _ => fun
  | [d1, d2] => { results := [.lit (.bool false)], args := [d1, d2] }
  | _ => none }
def ReachFromWrongFalsely : Prop := reachFromRow.holds Try.pinned (OpenSpec.ofChange reachFromWrong)

/- THE SECOND FORM. 'bulk': how many values and letters a reading holds, each counted each time it is reached (what is shared counts as often as it is met; a slice's spare places count too). A statement '..UptoSaid' is the law's where the arguments, and the package variables that the reading takes, are together of bulk at most 1048576: NARROWER than '..Said'. Prove '..Said' where nothing that the law and all that it calls make is longer than what came in: it says more and counts as full. Else prove '..UptoSaid'. A law counts once. -/
mutual
def uptoBulk {H : Type} : DataW H → Nat
  | .lit (.string bytes) => bytes.length + 1
  | .lit _ => 1
  | .nil => 1
  | .ptr d => uptoBulk d + 1
  | .slice elems spare => uptoBulkAll elems + uptoBulkAll spare + 1
  | .agg parts => uptoBulkAll parts + 1
  | .iface _ d => uptoBulk d + 1
  | .map entries => uptoBulkEntries entries + 1
  | .held _ => 1
def uptoBulkAll {H : Type} : List (DataW H) → Nat
  | [] => 0
  | d :: r => uptoBulk d + uptoBulkAll r
def uptoBulkEntries {H : Type} : List (Lit × DataW H) → Nat
  | [] => 0
  | x :: r => uptoBulkEntry x + uptoBulkEntries r
def uptoBulkEntry {H : Type} : Lit × DataW H → Nat
  | (.string bytes, d) => bytes.length + uptoBulk d + 1
  | (_, d) => uptoBulk d + 1
 end
def uptoSmall : (H : Type) → List (DataW H) → Bool := fun _ ds => decide (uptoBulkAll ds ≤ 1048576)
def OpenSpec.upto (s : _root_.Go.ChangeSpec) : _root_.Go.OpenSpec := { _root_.Go.OpenSpec.ofChange s with cond := some uptoSmall }

/-- 'tumbrellaw21.ReachSteps', WHERE WHAT IT READS IS OF BULK AT MOST 1048576: true; the input reads as it did. -/
def reachStepsUptoRow : OpenClaim := { program := "ythefbejopmbnbaa", sum := "9dddb34920136d7b405f88b7ee59310bca57302a3417eda6bb130a73aa67713c", func := "tumbrel/tumbrellaw21.ReachSteps", spec := "reachSteps", unfollowed := true, recurses := true, apart := false, narrowed := true }
def ReachStepsUptoSaid : Prop := reachStepsUptoRow.holds Try.pinned (OpenSpec.upto reachStepsSpec)

/-- 'tumbrellaw21.ReachGrows', WHERE WHAT IT READS IS OF BULK AT MOST 1048576: true; the input reads as it did. -/
def reachGrowsUptoRow : OpenClaim := { program := "ythefbejopmbnbaa", sum := "9dddb34920136d7b405f88b7ee59310bca57302a3417eda6bb130a73aa67713c", func := "tumbrel/tumbrellaw21.ReachGrows", spec := "reachGrows", unfollowed := true, recurses := true, apart := false, narrowed := true }
def ReachGrowsUptoSaid : Prop := reachGrowsUptoRow.holds Try.pinned (OpenSpec.upto reachGrowsSpec)

/-- 'tumbrellaw21.ReachUnion', WHERE WHAT IT READS IS OF BULK AT MOST 1048576: true; the input reads as it did. -/
def reachUnionUptoRow : OpenClaim := { program := "ythefbejopmbnbaa", sum := "9dddb34920136d7b405f88b7ee59310bca57302a3417eda6bb130a73aa67713c", func := "tumbrel/tumbrellaw21.ReachUnion", spec := "reachUnion", unfollowed := true, recurses := true, apart := false, narrowed := true }
def ReachUnionUptoSaid : Prop := reachUnionUptoRow.holds Try.pinned (OpenSpec.upto reachUnionSpec)

/-- 'tumbrellaw21.ReachFrom', WHERE WHAT IT READS IS OF BULK AT MOST 1048576: true; the input reads as it did. -/
def reachFromUptoRow : OpenClaim := { program := "ythefbejopmbnbaa", sum := "9dddb34920136d7b405f88b7ee59310bca57302a3417eda6bb130a73aa67713c", func := "tumbrel/tumbrellaw21.ReachFrom", spec := "reachFrom", unfollowed := true, recurses := true, apart := false, narrowed := true }
def ReachFromUptoSaid : Prop := reachFromUptoRow.holds Try.pinned (OpenSpec.upto reachFromSpec)

end Rows
end Go.Proofs.Ythefbejopmbnbaa
