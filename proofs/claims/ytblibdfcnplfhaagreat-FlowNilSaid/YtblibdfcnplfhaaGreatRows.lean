/-
  No cell of these rows narrows 'for every input' (looked for: loops, veiled, ifaces, maps, wideKeys, modest, calm, conditions, laid).
  DERIVED. THE GIVEN ROWS OF THIS SEAT. 8 by the template 'for every input the law returns true; each argument reads behind the call as it read before'; 0 by the template 'total and deterministic' (their statements: YtblibdfcnplfhaaGreatTotals.lean).
  GIVEN WITH THE SEED: the statements are not yours to turn. If you find one false, say at which input.
  Laid BY PROGRAM, IN A SANDBOX (cutbox-rows.mjs): the forced cells as the released guide's own fill.sh prints them over the translation 84149b7fe83c780f… (all of the seat's roots in one cut). By AI agents, Wed Nov 11 2026. No macro, syntax, notation, axiom, sorry.
-/
import Derived.Test.YtblibdfcnplfhaaGreatChecked
import GoSem.Claim
import GoSem.ClaimJoined
import GoSem.ClaimMapViews
import Derived.JoinedTies
import Derived.KernelRfl
namespace Go.Proofs.YtblibdfcnplfhaaGreat
/- THE CELL 'sum', in the pinned program and in every row, IS THE sha256 OF THE DUMP (.gsa) THAT YtblibdfcnplfhaaGreatProg.lean LOADS. Nothing in Lean hashes anything: it is a label: what it is worth is what the hold of that sum in a sandbox is worth. -/
noncomputable def Tryz.pinned : Pinned := { name := "ytblibdfcnplfhaagreat", sum := "84149b7fe83c780fccf863d58e22c316d6d48342899c2c31e026755257471a63", checked := Tryz.checked }
namespace Rows
def none {H : Type} : Left H := { results := [], args := [] }

/-- 'tumbrellaw13.TallocTwice': WHATEVER THE INPUT: true; the input reads as it did. -/
def tallocTwiceSpec : ChangeSpec := { name := "tallocTwice", fn := fun _ => fun
  | [d1, d2, d3, d4, d5, d6] => { results := [.lit (.bool true)], args := [d1, d2, d3, d4, d5, d6] }
  | _ => none }
def tallocTwiceRow : OpenClaim := { program := "ytblibdfcnplfhaagreat", sum := "84149b7fe83c780fccf863d58e22c316d6d48342899c2c31e026755257471a63", func := "tumbrel/tumbrellaw13.TallocTwice", spec := "tallocTwice", unfollowed := true, recurses := true, plainKeys := false, apart := false }
def TallocTwiceSaid : Prop := tallocTwiceRow.holds Tryz.pinned (OpenSpec.ofChange tallocTwiceSpec)

/-- ITS FALSE NEIGHBOUR: 'it returns false'. Refute it at one input. -/
def tallocTwiceWrong : ChangeSpec := { name := "tallocTwice", fn := fun _ => fun
  | [d1, d2, d3, d4, d5, d6] => { results := [.lit (.bool false)], args := [d1, d2, d3, d4, d5, d6] }
  | _ => none }
def TallocTwiceWrongFalsely : Prop := tallocTwiceRow.holds Tryz.pinned (OpenSpec.ofChange tallocTwiceWrong)

/-- 'tumbrellaw13.TallocApart': WHATEVER THE INPUT: true; the input reads as it did. -/
def tallocApartSpec : ChangeSpec := { name := "tallocApart", fn := fun _ => fun
  | [d1, d2] => { results := [.lit (.bool true)], args := [d1, d2] }
  | _ => none }
def tallocApartRow : OpenClaim := { program := "ytblibdfcnplfhaagreat", sum := "84149b7fe83c780fccf863d58e22c316d6d48342899c2c31e026755257471a63", func := "tumbrel/tumbrellaw13.TallocApart", spec := "tallocApart", unfollowed := true, recurses := true, plainKeys := false, apart := false }
def TallocApartSaid : Prop := tallocApartRow.holds Tryz.pinned (OpenSpec.ofChange tallocApartSpec)

/-- ITS FALSE NEIGHBOUR: 'it returns false'. Refute it at one input. -/
def tallocApartWrong : ChangeSpec := { name := "tallocApart", fn := fun _ => fun
  | [d1, d2] => { results := [.lit (.bool false)], args := [d1, d2] }
  | _ => none }
def TallocApartWrongFalsely : Prop := tallocApartRow.holds Tryz.pinned (OpenSpec.ofChange tallocApartWrong)

/-- 'tumbrellaw13.TallocExact': WHATEVER THE INPUT: true; the input reads as it did. -/
def tallocExactSpec : ChangeSpec := { name := "tallocExact", fn := fun _ => fun
  | [d1, d2, d3, d4, d5] => { results := [.lit (.bool true)], args := [d1, d2, d3, d4, d5] }
  | _ => none }
def tallocExactRow : OpenClaim := { program := "ytblibdfcnplfhaagreat", sum := "84149b7fe83c780fccf863d58e22c316d6d48342899c2c31e026755257471a63", func := "tumbrel/tumbrellaw13.TallocExact", spec := "tallocExact", unfollowed := true, recurses := true, plainKeys := false, apart := false }
def TallocExactSaid : Prop := tallocExactRow.holds Tryz.pinned (OpenSpec.ofChange tallocExactSpec)

/-- ITS FALSE NEIGHBOUR: 'it returns false'. Refute it at one input. -/
def tallocExactWrong : ChangeSpec := { name := "tallocExact", fn := fun _ => fun
  | [d1, d2, d3, d4, d5] => { results := [.lit (.bool false)], args := [d1, d2, d3, d4, d5] }
  | _ => none }
def TallocExactWrongFalsely : Prop := tallocExactRow.holds Tryz.pinned (OpenSpec.ofChange tallocExactWrong)

/-- 'tumbrellaw13.TallocWhole': WHATEVER THE INPUT: true; the input reads as it did. -/
def tallocWholeSpec : ChangeSpec := { name := "tallocWhole", fn := fun _ => fun
  | [d1, d2] => { results := [.lit (.bool true)], args := [d1, d2] }
  | _ => none }
def tallocWholeRow : OpenClaim := { program := "ytblibdfcnplfhaagreat", sum := "84149b7fe83c780fccf863d58e22c316d6d48342899c2c31e026755257471a63", func := "tumbrel/tumbrellaw13.TallocWhole", spec := "tallocWhole", unfollowed := true, recurses := true, plainKeys := false, apart := false }
def TallocWholeSaid : Prop := tallocWholeRow.holds Tryz.pinned (OpenSpec.ofChange tallocWholeSpec)

/-- ITS FALSE NEIGHBOUR: 'it returns false'. Refute it at one input. -/
def tallocWholeWrong : ChangeSpec := { name := "tallocWhole", fn := fun _ => fun
  | [d1, d2] => { results := [.lit (.bool false)], args := [d1, d2] }
  | _ => none }
def TallocWholeWrongFalsely : Prop := tallocWholeRow.holds Tryz.pinned (OpenSpec.ofChange tallocWholeWrong)

/-- 'tumbrellaw13.TallocNew': WHATEVER THE INPUT: true; the input reads as it did. -/
def tallocNewSpec : ChangeSpec := { name := "tallocNew", fn := fun _ => fun
  | [d1, d2, d3] => { results := [.lit (.bool true)], args := [d1, d2, d3] }
  | _ => none }
def tallocNewRow : OpenClaim := { program := "ytblibdfcnplfhaagreat", sum := "84149b7fe83c780fccf863d58e22c316d6d48342899c2c31e026755257471a63", func := "tumbrel/tumbrellaw13.TallocNew", spec := "tallocNew", unfollowed := true, recurses := true, plainKeys := false, apart := false }
def TallocNewSaid : Prop := tallocNewRow.holds Tryz.pinned (OpenSpec.ofChange tallocNewSpec)

/-- ITS FALSE NEIGHBOUR: 'it returns false'. Refute it at one input. -/
def tallocNewWrong : ChangeSpec := { name := "tallocNew", fn := fun _ => fun
  | [d1, d2, d3] => { results := [.lit (.bool false)], args := [d1, d2, d3] }
  | _ => none }
def TallocNewWrongFalsely : Prop := tallocNewRow.holds Tryz.pinned (OpenSpec.ofChange tallocNewWrong)

/-- 'tumbrellaw14.FlowPlays': WHATEVER THE INPUT: true; the input reads as it did. -/
def flowPlaysSpec : ChangeSpec := { name := "flowPlays", fn := fun _ => fun
  | [d1, d2] => { results := [.lit (.bool true)], args := [d1, d2] }
  | _ => none }
def flowPlaysRow : OpenClaim := { program := "ytblibdfcnplfhaagreat", sum := "84149b7fe83c780fccf863d58e22c316d6d48342899c2c31e026755257471a63", func := "tumbrel/tumbrellaw14.FlowPlays", spec := "flowPlays", unfollowed := true, recurses := true, plainKeys := false, apart := false }
def FlowPlaysSaid : Prop := flowPlaysRow.holds Tryz.pinned (OpenSpec.ofChange flowPlaysSpec)

/-- ITS FALSE NEIGHBOUR: 'it returns false'. Refute it at one input. -/
def flowPlaysWrong : ChangeSpec := { name := "flowPlays", fn := fun _ => fun
  | [d1, d2] => { results := [.lit (.bool false)], args := [d1, d2] }
  | _ => none }
def FlowPlaysWrongFalsely : Prop := flowPlaysRow.holds Tryz.pinned (OpenSpec.ofChange flowPlaysWrong)

/-- 'tumbrellaw14.FlowTimes': WHATEVER THE INPUT: true; the input reads as it did. -/
def flowTimesSpec : ChangeSpec := { name := "flowTimes", fn := fun _ => fun
  | [d1, d2] => { results := [.lit (.bool true)], args := [d1, d2] }
  | _ => none }
def flowTimesRow : OpenClaim := { program := "ytblibdfcnplfhaagreat", sum := "84149b7fe83c780fccf863d58e22c316d6d48342899c2c31e026755257471a63", func := "tumbrel/tumbrellaw14.FlowTimes", spec := "flowTimes", unfollowed := true, recurses := true, plainKeys := false, apart := false }
def FlowTimesSaid : Prop := flowTimesRow.holds Tryz.pinned (OpenSpec.ofChange flowTimesSpec)

/-- ITS FALSE NEIGHBOUR: 'it returns false'. Refute it at one input. -/
def flowTimesWrong : ChangeSpec := { name := "flowTimes", fn := fun _ => fun
  | [d1, d2] => { results := [.lit (.bool false)], args := [d1, d2] }
  | _ => none }
def FlowTimesWrongFalsely : Prop := flowTimesRow.holds Tryz.pinned (OpenSpec.ofChange flowTimesWrong)

/-- 'tumbrellaw14.FlowNil': WHATEVER THE INPUT: true; the input reads as it did. -/
def flowNilSpec : ChangeSpec := { name := "flowNil", fn := fun _ => fun
  | [d1, d2] => { results := [.lit (.bool true)], args := [d1, d2] }
  | _ => none }
def flowNilRow : OpenClaim := { program := "ytblibdfcnplfhaagreat", sum := "84149b7fe83c780fccf863d58e22c316d6d48342899c2c31e026755257471a63", func := "tumbrel/tumbrellaw14.FlowNil", spec := "flowNil", unfollowed := true, recurses := true, plainKeys := false, apart := false }
def FlowNilSaid : Prop := flowNilRow.holds Tryz.pinned (OpenSpec.ofChange flowNilSpec)

/-- ITS FALSE NEIGHBOUR: 'it returns false'. Refute it at one input. -/
def flowNilWrong : ChangeSpec := { name := "flowNil", fn := fun _ => fun
  | [d1, d2] => { results := [.lit (.bool false)], args := [d1, d2] }
  | _ => none }
def FlowNilWrongFalsely : Prop := flowNilRow.holds Tryz.pinned (OpenSpec.ofChange flowNilWrong)

/- THE SECOND FORM. 'bulk': how many values and letters a reading holds, each counted each time it is reached (what is shared counts as often as it is met; a slice's spare places count too). A statement '..UptoSaid' is the law's where the arguments, and the package variables that the reading takes, are together of bulk at most 1048576: NARROWER than '..Said'. Prove '..Said' where nothing that the law and all that it calls make is longer than what came in: it says more and counts as full. Else prove '..UptoSaid'. A law counts once. -/
mutual
def uptoBulk {H : Type} : DataW H → Nat
  | .lit (.string bytes) => bytes.length + 1
  | .lit _ => 1
  | .nil => 1
  | .ptr d => uptoBulk d + 1
  | .slice elems spare => uptoBulkAll elems + uptoBulkAll spare + 1
  | .agg parts => uptoBulkAll parts + 1
  | .iface _ d => uptoBulk d + 1
  | .map entries => uptoBulkEntries entries + 1
  | .held _ => 1
def uptoBulkAll {H : Type} : List (DataW H) → Nat
  | [] => 0
  | d :: r => uptoBulk d + uptoBulkAll r
def uptoBulkEntries {H : Type} : List (Lit × DataW H) → Nat
  | [] => 0
  | x :: r => uptoBulkEntry x + uptoBulkEntries r
def uptoBulkEntry {H : Type} : Lit × DataW H → Nat
  | (.string bytes, d) => bytes.length + uptoBulk d + 1
  | (_, d) => uptoBulk d + 1
 end
def uptoSmall : (H : Type) → List (DataW H) → Bool := fun _ ds => decide (uptoBulkAll ds ≤ 1048576)
def OpenSpec.upto (s : _root_.Go.ChangeSpec) : _root_.Go.OpenSpec := { _root_.Go.OpenSpec.ofChange s with cond := some uptoSmall }

/-- 'tumbrellaw13.TallocTwice', WHERE WHAT IT READS IS OF BULK AT MOST 1048576: true; the input reads as it did. -/
def tallocTwiceUptoRow : OpenClaim := { program := "ytblibdfcnplfhaagreat", sum := "84149b7fe83c780fccf863d58e22c316d6d48342899c2c31e026755257471a63", func := "tumbrel/tumbrellaw13.TallocTwice", spec := "tallocTwice", unfollowed := true, recurses := true, plainKeys := false, apart := false, narrowed := true }
def TallocTwiceUptoSaid : Prop := tallocTwiceUptoRow.holds Tryz.pinned (OpenSpec.upto tallocTwiceSpec)

/-- 'tumbrellaw13.TallocApart', WHERE WHAT IT READS IS OF BULK AT MOST 1048576: true; the input reads as it did. -/
def tallocApartUptoRow : OpenClaim := { program := "ytblibdfcnplfhaagreat", sum := "84149b7fe83c780fccf863d58e22c316d6d48342899c2c31e026755257471a63", func := "tumbrel/tumbrellaw13.TallocApart", spec := "tallocApart", unfollowed := true, recurses := true, plainKeys := false, apart := false, narrowed := true }
def TallocApartUptoSaid : Prop := tallocApartUptoRow.holds Tryz.pinned (OpenSpec.upto tallocApartSpec)

/-- 'tumbrellaw13.TallocExact', WHERE WHAT IT READS IS OF BULK AT MOST 1048576: true; the input reads as it did. -/
def tallocExactUptoRow : OpenClaim := { program := "ytblibdfcnplfhaagreat", sum := "84149b7fe83c780fccf863d58e22c316d6d48342899c2c31e026755257471a63", func := "tumbrel/tumbrellaw13.TallocExact", spec := "tallocExact", unfollowed := true, recurses := true, plainKeys := false, apart := false, narrowed := true }
def TallocExactUptoSaid : Prop := tallocExactUptoRow.holds Tryz.pinned (OpenSpec.upto tallocExactSpec)

/-- 'tumbrellaw13.TallocWhole', WHERE WHAT IT READS IS OF BULK AT MOST 1048576: true; the input reads as it did. -/
def tallocWholeUptoRow : OpenClaim := { program := "ytblibdfcnplfhaagreat", sum := "84149b7fe83c780fccf863d58e22c316d6d48342899c2c31e026755257471a63", func := "tumbrel/tumbrellaw13.TallocWhole", spec := "tallocWhole", unfollowed := true, recurses := true, plainKeys := false, apart := false, narrowed := true }
def TallocWholeUptoSaid : Prop := tallocWholeUptoRow.holds Tryz.pinned (OpenSpec.upto tallocWholeSpec)

/-- 'tumbrellaw13.TallocNew', WHERE WHAT IT READS IS OF BULK AT MOST 1048576: true; the input reads as it did. -/
def tallocNewUptoRow : OpenClaim := { program := "ytblibdfcnplfhaagreat", sum := "84149b7fe83c780fccf863d58e22c316d6d48342899c2c31e026755257471a63", func := "tumbrel/tumbrellaw13.TallocNew", spec := "tallocNew", unfollowed := true, recurses := true, plainKeys := false, apart := false, narrowed := true }
def TallocNewUptoSaid : Prop := tallocNewUptoRow.holds Tryz.pinned (OpenSpec.upto tallocNewSpec)

/-- 'tumbrellaw14.FlowPlays', WHERE WHAT IT READS IS OF BULK AT MOST 1048576: true; the input reads as it did. -/
def flowPlaysUptoRow : OpenClaim := { program := "ytblibdfcnplfhaagreat", sum := "84149b7fe83c780fccf863d58e22c316d6d48342899c2c31e026755257471a63", func := "tumbrel/tumbrellaw14.FlowPlays", spec := "flowPlays", unfollowed := true, recurses := true, plainKeys := false, apart := false, narrowed := true }
def FlowPlaysUptoSaid : Prop := flowPlaysUptoRow.holds Tryz.pinned (OpenSpec.upto flowPlaysSpec)

/-- 'tumbrellaw14.FlowTimes', WHERE WHAT IT READS IS OF BULK AT MOST 1048576: true; the input reads as it did. -/
def flowTimesUptoRow : OpenClaim := { program := "ytblibdfcnplfhaagreat", sum := "84149b7fe83c780fccf863d58e22c316d6d48342899c2c31e026755257471a63", func := "tumbrel/tumbrellaw14.FlowTimes", spec := "flowTimes", unfollowed := true, recurses := true, plainKeys := false, apart := false, narrowed := true }
def FlowTimesUptoSaid : Prop := flowTimesUptoRow.holds Tryz.pinned (OpenSpec.upto flowTimesSpec)

/-- 'tumbrellaw14.FlowNil', WHERE WHAT IT READS IS OF BULK AT MOST 1048576: true; the input reads as it did. -/
def flowNilUptoRow : OpenClaim := { program := "ytblibdfcnplfhaagreat", sum := "84149b7fe83c780fccf863d58e22c316d6d48342899c2c31e026755257471a63", func := "tumbrel/tumbrellaw14.FlowNil", spec := "flowNil", unfollowed := true, recurses := true, plainKeys := false, apart := false, narrowed := true }
def FlowNilUptoSaid : Prop := flowNilUptoRow.holds Tryz.pinned (OpenSpec.upto flowNilSpec)

end Rows
end Go.Proofs.YtblibdfcnplfhaaGreat
