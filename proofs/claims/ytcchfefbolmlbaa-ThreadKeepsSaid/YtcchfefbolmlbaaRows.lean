/-
  No cell of these rows narrows 'for every input' (looked for: loops, veiled, ifaces, maps, wideKeys, modest, calm, conditions, laid).
  DERIVED. THE GIVEN ROWS OF THIS SEAT. 3 by the template 'for every input the law returns true; each argument reads behind the call as it read before'; 0 by the template 'total and deterministic' (their statements: YtcchfefbolmlbaaTotals.lean).
  GIVEN WITH THE SEED: the statements are not yours to turn. If you find one false, say at which input.
  Laid BY PROGRAM, IN A SANDBOX (cutbox-rows.mjs): the forced cells as the released guide's own fill.sh prints them over the translation 29369ca4d3297fbb… (all of the seat's roots in one cut). By AI agents, Wed Nov 11 2026. No macro, syntax, notation, axiom, sorry.
-/
import Derived.Test.YtcchfefbolmlbaaChecked
import GoSem.Claim
import GoSem.ClaimJoined
import GoSem.ClaimMapViews
import Derived.JoinedTies
import Derived.KernelRfl
namespace Go.Proofs.Ytcchfefbolmlbaa
/- THE CELL 'sum', in the pinned program and in every row, IS THE sha256 OF THE DUMP (.gsa) THAT YtcchfefbolmlbaaProg.lean LOADS. Nothing in Lean hashes anything: it is a label: what it is worth is what the hold of that sum in a sandbox is worth. -/
noncomputable def Try.pinned : Pinned := { name := "ytcchfefbolmlbaa", sum := "29369ca4d3297fbb5c919d86d055ff470fc956f181e85fe3fed0b10c9c1ce945", checked := Try.checked }
namespace Rows
def none {H : Type} : Left H := { results := [], args := [] }

/-- 'tumbrellaw29.ThreadKeeps': WHATEVER THE INPUT: true; the input reads as it did. -/
def threadKeepsSpec : ChangeSpec := { name := "threadKeeps", fn := fun _ => fun
  | [d1, d2] => { results := [.lit (.bool true)], args := [d1, d2] }
  | _ => none }
def threadKeepsRow : OpenClaim := { program := "ytcchfefbolmlbaa", sum := "29369ca4d3297fbb5c919d86d055ff470fc956f181e85fe3fed0b10c9c1ce945", func := "tumbrel/tumbrellaw29.ThreadKeeps", spec := "threadKeeps", apart := false }
def ThreadKeepsSaid : Prop := threadKeepsRow.holds Try.pinned (OpenSpec.ofChange threadKeepsSpec)

/-- ITS FALSE NEIGHBOUR: 'it returns false'. Refute it at one input. -/
def threadKeepsWrong : ChangeSpec := { name := "threadKeeps", fn := fun _ => fun
  | [d1, d2] => { results := [.lit (.bool false)], args := [d1, d2] }
  | _ => none }
def ThreadKeepsWrongFalsely : Prop := threadKeepsRow.holds Try.pinned (OpenSpec.ofChange threadKeepsWrong)

/-- 'tumbrellaw29.ThreadPlays': WHATEVER THE INPUT: true; the input reads as it did. -/
def threadPlaysSpec : ChangeSpec := { name := "threadPlays", fn := fun _ => fun
  | [d1, d2, d3] => { results := [.lit (.bool true)], args := [d1, d2, d3] }
  | _ => none }
def threadPlaysRow : OpenClaim := { program := "ytcchfefbolmlbaa", sum := "29369ca4d3297fbb5c919d86d055ff470fc956f181e85fe3fed0b10c9c1ce945", func := "tumbrel/tumbrellaw29.ThreadPlays", spec := "threadPlays", apart := false }
def ThreadPlaysSaid : Prop := threadPlaysRow.holds Try.pinned (OpenSpec.ofChange threadPlaysSpec)

/-- ITS FALSE NEIGHBOUR: 'it returns false'. Refute it at one input. -/
def threadPlaysWrong : ChangeSpec := { name := "threadPlays", fn := fun _ => fun
  | [d1, d2, d3] => { results := [.lit (.bool false)], args := [d1, d2, d3] }
  | _ => none }
def ThreadPlaysWrongFalsely : Prop := threadPlaysRow.holds Try.pinned (OpenSpec.ofChange threadPlaysWrong)

/-- 'tumbrellaw29.ThreadNil': WHATEVER THE INPUT: true; the input reads as it did. -/
def threadNilSpec : ChangeSpec := { name := "threadNil", fn := fun _ => fun
  | [d1, d2] => { results := [.lit (.bool true)], args := [d1, d2] }
  | _ => none }
def threadNilRow : OpenClaim := { program := "ytcchfefbolmlbaa", sum := "29369ca4d3297fbb5c919d86d055ff470fc956f181e85fe3fed0b10c9c1ce945", func := "tumbrel/tumbrellaw29.ThreadNil", spec := "threadNil", apart := false }
def ThreadNilSaid : Prop := threadNilRow.holds Try.pinned (OpenSpec.ofChange threadNilSpec)

/-- ITS FALSE NEIGHBOUR: 'it returns false'. Refute it at one input. -/
def threadNilWrong : ChangeSpec := { name := "threadNil", fn := fun _ => fun
  | [d1, d2] => { results := [.lit (.bool false)], args := [d1, d2] }
  | _ => none }
def ThreadNilWrongFalsely : Prop := threadNilRow.holds Try.pinned (OpenSpec.ofChange threadNilWrong)

/- THE SECOND FORM. 'bulk': how many values and letters a reading holds, each counted each time it is reached (what is shared counts as often as it is met; a slice's spare places count too). A statement '..UptoSaid' is the law's where the arguments, and the package variables that the reading takes, are together of bulk at most 1048576: NARROWER than '..Said'. Prove '..Said' where nothing that the law and all that it calls make is longer than what came in: it says more and counts as full. Else prove '..UptoSaid'. A law counts once. -/
mutual
def uptoBulk {H : Type} : DataW H → Nat
  | .lit (.string bytes) => bytes.length + 1
  | .lit _ => 1
  | .nil => 1
  | .ptr d => uptoBulk d + 1
  | .slice elems spare => uptoBulkAll elems + uptoBulkAll spare + 1
  | .agg parts => uptoBulkAll parts + 1
  | .iface _ d => uptoBulk d + 1
  | .map entries => uptoBulkEntries entries + 1
  | .held _ => 1
def uptoBulkAll {H : Type} : List (DataW H) → Nat
  | [] => 0
  | d :: r => uptoBulk d + uptoBulkAll r
def uptoBulkEntries {H : Type} : List (Lit × DataW H) → Nat
  | [] => 0
  | x :: r => uptoBulkEntry x + uptoBulkEntries r
def uptoBulkEntry {H : Type} : Lit × DataW H → Nat
  | (.string bytes, d) => bytes.length + uptoBulk d + 1
  | (_, d) => uptoBulk d + 1
 end
def uptoSmall : (H : Type) → List (DataW H) → Bool := fun _ ds => decide (uptoBulkAll ds ≤ 1048576)
def OpenSpec.upto (s : _root_.Go.ChangeSpec) : _root_.Go.OpenSpec := { _root_.Go.OpenSpec.ofChange s with cond := some uptoSmall }

/-- 'tumbrellaw29.ThreadKeeps', WHERE WHAT IT READS IS OF BULK AT MOST 1048576: true; the input reads as it did. -/
def threadKeepsUptoRow : OpenClaim := { program := "ytcchfefbolmlbaa", sum := "29369ca4d3297fbb5c919d86d055ff470fc956f181e85fe3fed0b10c9c1ce945", func := "tumbrel/tumbrellaw29.ThreadKeeps", spec := "threadKeeps", apart := false, narrowed := true }
def ThreadKeepsUptoSaid : Prop := threadKeepsUptoRow.holds Try.pinned (OpenSpec.upto threadKeepsSpec)

/-- 'tumbrellaw29.ThreadPlays', WHERE WHAT IT READS IS OF BULK AT MOST 1048576: true; the input reads as it did. -/
def threadPlaysUptoRow : OpenClaim := { program := "ytcchfefbolmlbaa", sum := "29369ca4d3297fbb5c919d86d055ff470fc956f181e85fe3fed0b10c9c1ce945", func := "tumbrel/tumbrellaw29.ThreadPlays", spec := "threadPlays", apart := false, narrowed := true }
def ThreadPlaysUptoSaid : Prop := threadPlaysUptoRow.holds Try.pinned (OpenSpec.upto threadPlaysSpec)

/-- 'tumbrellaw29.ThreadNil', WHERE WHAT IT READS IS OF BULK AT MOST 1048576: true; the input reads as it did. -/
def threadNilUptoRow : OpenClaim := { program := "ytcchfefbolmlbaa", sum := "29369ca4d3297fbb5c919d86d055ff470fc956f181e85fe3fed0b10c9c1ce945", func := "tumbrel/tumbrellaw29.ThreadNil", spec := "threadNil", apart := false, narrowed := true }
def ThreadNilUptoSaid : Prop := threadNilUptoRow.holds Try.pinned (OpenSpec.upto threadNilSpec)

end Rows
end Go.Proofs.Ytcchfefbolmlbaa
