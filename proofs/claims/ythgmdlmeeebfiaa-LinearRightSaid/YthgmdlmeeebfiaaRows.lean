/-
  No cell of these rows narrows 'for every input' (looked for: loops, veiled, ifaces, maps, wideKeys, modest, calm, conditions, laid).
  DERIVED. THE GIVEN ROWS OF THIS SEAT. 6 by the template 'for every input the law returns true; each argument reads behind the call as it read before'; 0 by the template 'total and deterministic' (their statements: YthgmdlmeeebfiaaTotals.lean).
  GIVEN WITH THE SEED: the statements are not yours to turn. If you find one false, say at which input.
  Laid BY PROGRAM, IN A SANDBOX (cutbox-rows.mjs): the forced cells as the released guide's own fill.sh prints them over the translation e85875686685c5dc… (all of the seat's roots in one cut). By AI agents, Wed Nov 11 2026. No macro, syntax, notation, axiom, sorry.
-/
import Derived.Test.YthgmdlmeeebfiaaChecked
import GoSem.Claim
import GoSem.ClaimJoined
import GoSem.ClaimMapViews
import Derived.JoinedTies
import Derived.KernelRfl
namespace Go.Proofs.Ythgmdlmeeebfiaa
/- THE CELL 'sum', in the pinned program and in every row, IS THE sha256 OF THE DUMP (.gsa) THAT YthgmdlmeeebfiaaProg.lean LOADS. Nothing in Lean hashes anything: it is a label: what it is worth is what the hold of that sum in a sandbox is worth. -/
noncomputable def Try.pinned : Pinned := { name := "ythgmdlmeeebfiaa", sum := "e85875686685c5dccc0c3cae490045bfc23d5961101d99fee188637e03efab62", checked := Try.checked }
namespace Rows
def none {H : Type} : Left H := { results := [], args := [] }

/-- 'tumbrellaw15.SpecApart': WHATEVER THE INPUT: true; the input reads as it did. -/
def specApartSpec : ChangeSpec := { name := "specApart", fn := fun _ => fun
  | [d1, d2, d3] => { results := [.lit (.bool true)], args := [d1, d2, d3] }
  | _ => none }
def specApartRow : OpenClaim := { program := "ythgmdlmeeebfiaa", sum := "e85875686685c5dccc0c3cae490045bfc23d5961101d99fee188637e03efab62", func := "tumbrel/tumbrellaw15.SpecApart", spec := "specApart", inPlace := ["slices.overlaps[int]", "slices.overlaps[tumbrel/spec.block]"], unfollowed := true, recurses := true, plainKeys := false, apart := false }
def SpecApartSaid : Prop := specApartRow.holds Try.pinned (OpenSpec.ofChange specApartSpec)

/-- ITS FALSE NEIGHBOUR: 'it returns false'. Refute it at one input. -/
def specApartWrong : ChangeSpec := { name := "specApart", fn := fun _ => fun
  | [d1, d2, d3] => { results := [.lit (.bool false)], args := [d1, d2, d3] }
  | _ => none }
def SpecApartWrongFalsely : Prop := specApartRow.holds Try.pinned (OpenSpec.ofChange specApartWrong)

/-- 'tumbrellaw15.SpecKeys': WHATEVER THE INPUT: true; the input reads as it did. -/
def specKeysSpec : ChangeSpec := { name := "specKeys", fn := fun _ => fun
  | [d1, d2, d3, d4, d5] => { results := [.lit (.bool true)], args := [d1, d2, d3, d4, d5] }
  | _ => none }
def specKeysRow : OpenClaim := { program := "ythgmdlmeeebfiaa", sum := "e85875686685c5dccc0c3cae490045bfc23d5961101d99fee188637e03efab62", func := "tumbrel/tumbrellaw15.SpecKeys", spec := "specKeys", inPlace := ["slices.overlaps[int]", "slices.overlaps[tumbrel/spec.block]"], unfollowed := true, recurses := true, plainKeys := false, apart := false }
def SpecKeysSaid : Prop := specKeysRow.holds Try.pinned (OpenSpec.ofChange specKeysSpec)

/-- ITS FALSE NEIGHBOUR: 'it returns false'. Refute it at one input. -/
def specKeysWrong : ChangeSpec := { name := "specKeys", fn := fun _ => fun
  | [d1, d2, d3, d4, d5] => { results := [.lit (.bool false)], args := [d1, d2, d3, d4, d5] }
  | _ => none }
def SpecKeysWrongFalsely : Prop := specKeysRow.holds Try.pinned (OpenSpec.ofChange specKeysWrong)

/-- 'tumbrellaw15.SpecAlways': WHATEVER THE INPUT: true; the input reads as it did. -/
def specAlwaysSpec : ChangeSpec := { name := "specAlways", fn := fun _ => fun
  | [d1, d2, d3, d4, d5] => { results := [.lit (.bool true)], args := [d1, d2, d3, d4, d5] }
  | _ => none }
def specAlwaysRow : OpenClaim := { program := "ythgmdlmeeebfiaa", sum := "e85875686685c5dccc0c3cae490045bfc23d5961101d99fee188637e03efab62", func := "tumbrel/tumbrellaw15.SpecAlways", spec := "specAlways", inPlace := ["slices.overlaps[int]", "slices.overlaps[tumbrel/spec.block]"], unfollowed := true, recurses := true, plainKeys := false, apart := false }
def SpecAlwaysSaid : Prop := specAlwaysRow.holds Try.pinned (OpenSpec.ofChange specAlwaysSpec)

/-- ITS FALSE NEIGHBOUR: 'it returns false'. Refute it at one input. -/
def specAlwaysWrong : ChangeSpec := { name := "specAlways", fn := fun _ => fun
  | [d1, d2, d3, d4, d5] => { results := [.lit (.bool false)], args := [d1, d2, d3, d4, d5] }
  | _ => none }
def SpecAlwaysWrongFalsely : Prop := specAlwaysRow.holds Try.pinned (OpenSpec.ofChange specAlwaysWrong)

/-- 'tumbrellaw16.LinearOrder': WHATEVER THE INPUT: true; the input reads as it did. -/
def linearOrderSpec : ChangeSpec := { name := "linearOrder", fn := fun _ => fun
  | [d1, d2, d3] => { results := [.lit (.bool true)], args := [d1, d2, d3] }
  | _ => none }
def linearOrderRow : OpenClaim := { program := "ythgmdlmeeebfiaa", sum := "e85875686685c5dccc0c3cae490045bfc23d5961101d99fee188637e03efab62", func := "tumbrel/tumbrellaw16.LinearOrder", spec := "linearOrder", inPlace := ["slices.overlaps[int]", "slices.overlaps[tumbrel/spec.block]"], unfollowed := true, recurses := true, plainKeys := false, apart := false }
def LinearOrderSaid : Prop := linearOrderRow.holds Try.pinned (OpenSpec.ofChange linearOrderSpec)

/-- ITS FALSE NEIGHBOUR: 'it returns false'. Refute it at one input. -/
def linearOrderWrong : ChangeSpec := { name := "linearOrder", fn := fun _ => fun
  | [d1, d2, d3] => { results := [.lit (.bool false)], args := [d1, d2, d3] }
  | _ => none }
def LinearOrderWrongFalsely : Prop := linearOrderRow.holds Try.pinned (OpenSpec.ofChange linearOrderWrong)

/-- 'tumbrellaw16.LinearAlone': WHATEVER THE INPUT: true; the input reads as it did. -/
def linearAloneSpec : ChangeSpec := { name := "linearAlone", fn := fun _ => fun
  | [d1, d2, d3] => { results := [.lit (.bool true)], args := [d1, d2, d3] }
  | _ => none }
def linearAloneRow : OpenClaim := { program := "ythgmdlmeeebfiaa", sum := "e85875686685c5dccc0c3cae490045bfc23d5961101d99fee188637e03efab62", func := "tumbrel/tumbrellaw16.LinearAlone", spec := "linearAlone", inPlace := ["slices.overlaps[int]", "slices.overlaps[tumbrel/spec.block]"], unfollowed := true, recurses := true, plainKeys := false, apart := false }
def LinearAloneSaid : Prop := linearAloneRow.holds Try.pinned (OpenSpec.ofChange linearAloneSpec)

/-- ITS FALSE NEIGHBOUR: 'it returns false'. Refute it at one input. -/
def linearAloneWrong : ChangeSpec := { name := "linearAlone", fn := fun _ => fun
  | [d1, d2, d3] => { results := [.lit (.bool false)], args := [d1, d2, d3] }
  | _ => none }
def LinearAloneWrongFalsely : Prop := linearAloneRow.holds Try.pinned (OpenSpec.ofChange linearAloneWrong)

/-- 'tumbrellaw16.LinearRight': WHATEVER THE INPUT: true; the input reads as it did. -/
def linearRightSpec : ChangeSpec := { name := "linearRight", fn := fun _ => fun
  | [d1, d2, d3, d4] => { results := [.lit (.bool true)], args := [d1, d2, d3, d4] }
  | _ => none }
def linearRightRow : OpenClaim := { program := "ythgmdlmeeebfiaa", sum := "e85875686685c5dccc0c3cae490045bfc23d5961101d99fee188637e03efab62", func := "tumbrel/tumbrellaw16.LinearRight", spec := "linearRight", inPlace := ["slices.overlaps[int]", "slices.overlaps[tumbrel/spec.block]"], unfollowed := true, recurses := true, plainKeys := false, apart := false }
def LinearRightSaid : Prop := linearRightRow.holds Try.pinned (OpenSpec.ofChange linearRightSpec)

/-- ITS FALSE NEIGHBOUR: 'it returns false'. Refute it at one input. -/
def linearRightWrong : ChangeSpec := { name := "linearRight", fn := fun _ => fun
  | [d1, d2, d3, d4] => { results := [.lit (.bool false)], args := [d1, d2, d3, d4] }
  | _ => none }
def LinearRightWrongFalsely : Prop := linearRightRow.holds Try.pinned (OpenSpec.ofChange linearRightWrong)

/- THE SECOND FORM. 'bulk': how many values and letters a reading holds, each counted each time it is reached (what is shared counts as often as it is met; a slice's spare places count too). A statement '..UptoSaid' is the law's where the arguments, and the package variables that the reading takes, are together of bulk at most 1048576: NARROWER than '..Said'. Prove '..Said' where nothing that the law and all that it calls make is longer than what came in: it says more and counts as full. Else prove '..UptoSaid'. A law counts once. -/
mutual
def uptoBulk {H : Type} : DataW H → Nat
  | .lit (.string bytes) => bytes.length + 1
  | .lit _ => 1
  | .nil => 1
  | .ptr d => uptoBulk d + 1
  | .slice elems spare => uptoBulkAll elems + uptoBulkAll spare + 1
  | .agg parts => uptoBulkAll parts + 1
  | .iface _ d => uptoBulk d + 1
  | .map entries => uptoBulkEntries entries + 1
  | .held _ => 1
def uptoBulkAll {H : Type} : List (DataW H) → Nat
  | [] => 0
  | d :: r => uptoBulk d + uptoBulkAll r
def uptoBulkEntries {H : Type} : List (Lit × DataW H) → Nat
  | [] => 0
  | x :: r => uptoBulkEntry x + uptoBulkEntries r
def uptoBulkEntry {H : Type} : Lit × DataW H → Nat
  | (.string bytes, d) => bytes.length + uptoBulk d + 1
  | (_, d) => uptoBulk d + 1
 end
def uptoSmall : (H : Type) → List (DataW H) → Bool := fun _ ds => decide (uptoBulkAll ds ≤ 1048576)
def OpenSpec.upto (s : _root_.Go.ChangeSpec) : _root_.Go.OpenSpec := { _root_.Go.OpenSpec.ofChange s with cond := some uptoSmall }

/-- 'tumbrellaw15.SpecApart', WHERE WHAT IT READS IS OF BULK AT MOST 1048576: true; the input reads as it did. -/
def specApartUptoRow : OpenClaim := { program := "ythgmdlmeeebfiaa", sum := "e85875686685c5dccc0c3cae490045bfc23d5961101d99fee188637e03efab62", func := "tumbrel/tumbrellaw15.SpecApart", spec := "specApart", inPlace := ["slices.overlaps[int]", "slices.overlaps[tumbrel/spec.block]"], unfollowed := true, recurses := true, plainKeys := false, apart := false, narrowed := true }
def SpecApartUptoSaid : Prop := specApartUptoRow.holds Try.pinned (OpenSpec.upto specApartSpec)

/-- 'tumbrellaw15.SpecKeys', WHERE WHAT IT READS IS OF BULK AT MOST 1048576: true; the input reads as it did. -/
def specKeysUptoRow : OpenClaim := { program := "ythgmdlmeeebfiaa", sum := "e85875686685c5dccc0c3cae490045bfc23d5961101d99fee188637e03efab62", func := "tumbrel/tumbrellaw15.SpecKeys", spec := "specKeys", inPlace := ["slices.overlaps[int]", "slices.overlaps[tumbrel/spec.block]"], unfollowed := true, recurses := true, plainKeys := false, apart := false, narrowed := true }
def SpecKeysUptoSaid : Prop := specKeysUptoRow.holds Try.pinned (OpenSpec.upto specKeysSpec)

/-- 'tumbrellaw15.SpecAlways', WHERE WHAT IT READS IS OF BULK AT MOST 1048576: true; the input reads as it did. -/
def specAlwaysUptoRow : OpenClaim := { program := "ythgmdlmeeebfiaa", sum := "e85875686685c5dccc0c3cae490045bfc23d5961101d99fee188637e03efab62", func := "tumbrel/tumbrellaw15.SpecAlways", spec := "specAlways", inPlace := ["slices.overlaps[int]", "slices.overlaps[tumbrel/spec.block]"], unfollowed := true, recurses := true, plainKeys := false, apart := false, narrowed := true }
def SpecAlwaysUptoSaid : Prop := specAlwaysUptoRow.holds Try.pinned (OpenSpec.upto specAlwaysSpec)

/-- 'tumbrellaw16.LinearOrder', WHERE WHAT IT READS IS OF BULK AT MOST 1048576: true; the input reads as it did. -/
def linearOrderUptoRow : OpenClaim := { program := "ythgmdlmeeebfiaa", sum := "e85875686685c5dccc0c3cae490045bfc23d5961101d99fee188637e03efab62", func := "tumbrel/tumbrellaw16.LinearOrder", spec := "linearOrder", inPlace := ["slices.overlaps[int]", "slices.overlaps[tumbrel/spec.block]"], unfollowed := true, recurses := true, plainKeys := false, apart := false, narrowed := true }
def LinearOrderUptoSaid : Prop := linearOrderUptoRow.holds Try.pinned (OpenSpec.upto linearOrderSpec)

/-- 'tumbrellaw16.LinearAlone', WHERE WHAT IT READS IS OF BULK AT MOST 1048576: true; the input reads as it did. -/
def linearAloneUptoRow : OpenClaim := { program := "ythgmdlmeeebfiaa", sum := "e85875686685c5dccc0c3cae490045bfc23d5961101d99fee188637e03efab62", func := "tumbrel/tumbrellaw16.LinearAlone", spec := "linearAlone", inPlace := ["slices.overlaps[int]", "slices.overlaps[tumbrel/spec.block]"], unfollowed := true, recurses := true, plainKeys := false, apart := false, narrowed := true }
def LinearAloneUptoSaid : Prop := linearAloneUptoRow.holds Try.pinned (OpenSpec.upto linearAloneSpec)

/-- 'tumbrellaw16.LinearRight', WHERE WHAT IT READS IS OF BULK AT MOST 1048576: true; the input reads as it did. -/
def linearRightUptoRow : OpenClaim := { program := "ythgmdlmeeebfiaa", sum := "e85875686685c5dccc0c3cae490045bfc23d5961101d99fee188637e03efab62", func := "tumbrel/tumbrellaw16.LinearRight", spec := "linearRight", inPlace := ["slices.overlaps[int]", "slices.overlaps[tumbrel/spec.block]"], unfollowed := true, recurses := true, plainKeys := false, apart := false, narrowed := true }
def LinearRightUptoSaid : Prop := linearRightUptoRow.holds Try.pinned (OpenSpec.upto linearRightSpec)

end Rows
end Go.Proofs.Ythgmdlmeeebfiaa
