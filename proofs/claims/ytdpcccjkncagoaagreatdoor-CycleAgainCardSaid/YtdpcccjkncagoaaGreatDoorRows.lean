/-
  NARROWER THAN 'FOR EVERY INPUT', by the rows' own cells (each row's printed sentence says how): GheapRoom: laid · GheapApart: laid · GheapPlays: laid · SweepPlays: laid · SweepLeaves: laid · SweepAll: laid · MarkReaches: laid · MarkAgain: laid · MarkPlays: laid · CycleAgain: laid · CyclePlays: laid · CycleExact: laid.
  DERIVED. THE GIVEN ROWS OF THIS SEAT. 12 by the template 'for every input the law returns true; each argument reads behind the call as it read before'; 0 by the template 'total and deterministic' (their statements: YtdpcccjkncagoaaGreatDoorTotals.lean).
  GIVEN WITH THE SEED: the statements are not yours to turn. If you find one false, say at which input.
  Laid BY PROGRAM, IN A SANDBOX (cutbox-rows.mjs): the forced cells as the released guide's own fill.sh prints them over the translation 334ac31b36dec481… (all of the seat's roots in one cut). By AI agents, Wed Nov 11 2026. No macro, syntax, notation, axiom, sorry.
-/
import Derived.Test.YtdpcccjkncagoaaGreatDoorChecked
import GoSem.Claim
import GoSem.ClaimJoined
import GoSem.ClaimMapViews
import Derived.JoinedTies
import Derived.KernelRfl
namespace Go.Proofs.YtdpcccjkncagoaaGreatDoor
/- THE CELL 'sum', in the pinned program and in every row, IS THE sha256 OF THE DUMP (.gsa) THAT YtdpcccjkncagoaaGreatDoorProg.lean LOADS. Nothing in Lean hashes anything: it is a label: what it is worth is what the hold of that sum in a sandbox is worth. -/
noncomputable def Tryz.pinned : Pinned := { name := "ytdpcccjkncagoaagreatdoor", sum := "334ac31b36dec48170465ba803436354e10f61138c8e13e2d55310e074560671", checked := Tryz.checked }
namespace Rows
def none {H : Type} : Left H := { results := [], args := [] }

/- WHAT THE LISTED PACKAGE-LEVEL VARIABLES READ AS WHEN THE CALL BEGINS. Each datum BY PROGRAM (the guide's laid-datum.mjs) off the statement by which the dump's own 'gosem.cut.vars' lays the variable. In a bare row this is a premise. The card (YtdpcccjkncagoaaGreatDoorCards.lean) ties it to the program's text. -/
def laid_math_bits_deBruijn64tab {H : Type} : DataW H := .agg [.lit (.int .u8 0), .lit (.int .u8 1), .lit (.int .u8 56), .lit (.int .u8 2), .lit (.int .u8 57), .lit (.int .u8 49), .lit (.int .u8 28), .lit (.int .u8 3), .lit (.int .u8 61), .lit (.int .u8 58), .lit (.int .u8 42), .lit (.int .u8 50), .lit (.int .u8 38), .lit (.int .u8 29), .lit (.int .u8 17), .lit (.int .u8 4), .lit (.int .u8 62), .lit (.int .u8 47), .lit (.int .u8 59), .lit (.int .u8 36), .lit (.int .u8 45), .lit (.int .u8 43), .lit (.int .u8 51), .lit (.int .u8 22), .lit (.int .u8 53), .lit (.int .u8 39), .lit (.int .u8 33), .lit (.int .u8 30), .lit (.int .u8 24), .lit (.int .u8 18), .lit (.int .u8 12), .lit (.int .u8 5), .lit (.int .u8 63), .lit (.int .u8 55), .lit (.int .u8 48), .lit (.int .u8 27), .lit (.int .u8 60), .lit (.int .u8 41), .lit (.int .u8 37), .lit (.int .u8 16), .lit (.int .u8 46), .lit (.int .u8 35), .lit (.int .u8 44), .lit (.int .u8 21), .lit (.int .u8 52), .lit (.int .u8 32), .lit (.int .u8 23), .lit (.int .u8 11), .lit (.int .u8 54), .lit (.int .u8 26), .lit (.int .u8 40), .lit (.int .u8 15), .lit (.int .u8 34), .lit (.int .u8 20), .lit (.int .u8 31), .lit (.int .u8 10), .lit (.int .u8 25), .lit (.int .u8 14), .lit (.int .u8 19), .lit (.int .u8 9), .lit (.int .u8 13), .lit (.int .u8 8), .lit (.int .u8 7), .lit (.int .u8 6)]

/-- 'tumbrellaw18.GheapRoom': WHATEVER THE INPUT: true; the input reads as it did. -/
def gheapRoomSpec : ChangeSpec := { name := "gheapRoom", fn := fun _ => fun
  | [d1, d2, d3, d4] => { results := [.lit (.bool true)], args := [d1, d2, d3, d4] }
  | _ => none }
def gheapRoomRow : OpenClaim := { program := "ytdpcccjkncagoaagreatdoor", sum := "334ac31b36dec48170465ba803436354e10f61138c8e13e2d55310e074560671", func := "tumbrel/tumbrellaw18.GheapRoom", spec := "gheapRoom", named := ["math/bits.deBruijn64tab"], apart := false, laid := [("math/bits.deBruijn64tab", laid_math_bits_deBruijn64tab)] }
def GheapRoomSaid : Prop := gheapRoomRow.holds Tryz.pinned (OpenSpec.ofChange gheapRoomSpec)

/-- ITS FALSE NEIGHBOUR: 'it returns false'. Refute it at one input. -/
def gheapRoomWrong : ChangeSpec := { name := "gheapRoom", fn := fun _ => fun
  | [d1, d2, d3, d4] => { results := [.lit (.bool false)], args := [d1, d2, d3, d4] }
  | _ => none }
def GheapRoomWrongFalsely : Prop := gheapRoomRow.holds Tryz.pinned (OpenSpec.ofChange gheapRoomWrong)

/-- 'tumbrellaw18.GheapApart': WHATEVER THE INPUT: true; the input reads as it did. -/
def gheapApartSpec : ChangeSpec := { name := "gheapApart", fn := fun _ => fun
  | [d1, d2, d3] => { results := [.lit (.bool true)], args := [d1, d2, d3] }
  | _ => none }
def gheapApartRow : OpenClaim := { program := "ytdpcccjkncagoaagreatdoor", sum := "334ac31b36dec48170465ba803436354e10f61138c8e13e2d55310e074560671", func := "tumbrel/tumbrellaw18.GheapApart", spec := "gheapApart", named := ["math/bits.deBruijn64tab"], apart := false, laid := [("math/bits.deBruijn64tab", laid_math_bits_deBruijn64tab)] }
def GheapApartSaid : Prop := gheapApartRow.holds Tryz.pinned (OpenSpec.ofChange gheapApartSpec)

/-- ITS FALSE NEIGHBOUR: 'it returns false'. Refute it at one input. -/
def gheapApartWrong : ChangeSpec := { name := "gheapApart", fn := fun _ => fun
  | [d1, d2, d3] => { results := [.lit (.bool false)], args := [d1, d2, d3] }
  | _ => none }
def GheapApartWrongFalsely : Prop := gheapApartRow.holds Tryz.pinned (OpenSpec.ofChange gheapApartWrong)

/-- 'tumbrellaw18.GheapPlays': WHATEVER THE INPUT: true; the input reads as it did. -/
def gheapPlaysSpec : ChangeSpec := { name := "gheapPlays", fn := fun _ => fun
  | [d1, d2, d3] => { results := [.lit (.bool true)], args := [d1, d2, d3] }
  | _ => none }
def gheapPlaysRow : OpenClaim := { program := "ytdpcccjkncagoaagreatdoor", sum := "334ac31b36dec48170465ba803436354e10f61138c8e13e2d55310e074560671", func := "tumbrel/tumbrellaw18.GheapPlays", spec := "gheapPlays", named := ["math/bits.deBruijn64tab"], apart := false, laid := [("math/bits.deBruijn64tab", laid_math_bits_deBruijn64tab)] }
def GheapPlaysSaid : Prop := gheapPlaysRow.holds Tryz.pinned (OpenSpec.ofChange gheapPlaysSpec)

/-- ITS FALSE NEIGHBOUR: 'it returns false'. Refute it at one input. -/
def gheapPlaysWrong : ChangeSpec := { name := "gheapPlays", fn := fun _ => fun
  | [d1, d2, d3] => { results := [.lit (.bool false)], args := [d1, d2, d3] }
  | _ => none }
def GheapPlaysWrongFalsely : Prop := gheapPlaysRow.holds Tryz.pinned (OpenSpec.ofChange gheapPlaysWrong)

/-- 'tumbrellaw20.SweepPlays': WHATEVER THE INPUT: true; the input reads as it did. -/
def sweepPlaysSpec : ChangeSpec := { name := "sweepPlays", fn := fun _ => fun
  | [d1, d2] => { results := [.lit (.bool true)], args := [d1, d2] }
  | _ => none }
def sweepPlaysRow : OpenClaim := { program := "ytdpcccjkncagoaagreatdoor", sum := "334ac31b36dec48170465ba803436354e10f61138c8e13e2d55310e074560671", func := "tumbrel/tumbrellaw20.SweepPlays", spec := "sweepPlays", named := ["math/bits.deBruijn64tab"], apart := false, laid := [("math/bits.deBruijn64tab", laid_math_bits_deBruijn64tab)] }
def SweepPlaysSaid : Prop := sweepPlaysRow.holds Tryz.pinned (OpenSpec.ofChange sweepPlaysSpec)

/-- ITS FALSE NEIGHBOUR: 'it returns false'. Refute it at one input. -/
def sweepPlaysWrong : ChangeSpec := { name := "sweepPlays", fn := fun _ => fun
  | [d1, d2] => { results := [.lit (.bool false)], args := [d1, d2] }
  | _ => none }
def SweepPlaysWrongFalsely : Prop := sweepPlaysRow.holds Tryz.pinned (OpenSpec.ofChange sweepPlaysWrong)

/-- 'tumbrellaw20.SweepLeaves': WHATEVER THE INPUT: true; the input reads as it did. -/
def sweepLeavesSpec : ChangeSpec := { name := "sweepLeaves", fn := fun _ => fun
  | [d1, d2] => { results := [.lit (.bool true)], args := [d1, d2] }
  | _ => none }
def sweepLeavesRow : OpenClaim := { program := "ytdpcccjkncagoaagreatdoor", sum := "334ac31b36dec48170465ba803436354e10f61138c8e13e2d55310e074560671", func := "tumbrel/tumbrellaw20.SweepLeaves", spec := "sweepLeaves", named := ["math/bits.deBruijn64tab"], apart := false, laid := [("math/bits.deBruijn64tab", laid_math_bits_deBruijn64tab)] }
def SweepLeavesSaid : Prop := sweepLeavesRow.holds Tryz.pinned (OpenSpec.ofChange sweepLeavesSpec)

/-- ITS FALSE NEIGHBOUR: 'it returns false'. Refute it at one input. -/
def sweepLeavesWrong : ChangeSpec := { name := "sweepLeaves", fn := fun _ => fun
  | [d1, d2] => { results := [.lit (.bool false)], args := [d1, d2] }
  | _ => none }
def SweepLeavesWrongFalsely : Prop := sweepLeavesRow.holds Tryz.pinned (OpenSpec.ofChange sweepLeavesWrong)

/-- 'tumbrellaw20.SweepAll': WHATEVER THE INPUT: true; the input reads as it did. -/
def sweepAllSpec : ChangeSpec := { name := "sweepAll", fn := fun _ => fun
  | [d1, d2] => { results := [.lit (.bool true)], args := [d1, d2] }
  | _ => none }
def sweepAllRow : OpenClaim := { program := "ytdpcccjkncagoaagreatdoor", sum := "334ac31b36dec48170465ba803436354e10f61138c8e13e2d55310e074560671", func := "tumbrel/tumbrellaw20.SweepAll", spec := "sweepAll", named := ["math/bits.deBruijn64tab"], apart := false, laid := [("math/bits.deBruijn64tab", laid_math_bits_deBruijn64tab)] }
def SweepAllSaid : Prop := sweepAllRow.holds Tryz.pinned (OpenSpec.ofChange sweepAllSpec)

/-- ITS FALSE NEIGHBOUR: 'it returns false'. Refute it at one input. -/
def sweepAllWrong : ChangeSpec := { name := "sweepAll", fn := fun _ => fun
  | [d1, d2] => { results := [.lit (.bool false)], args := [d1, d2] }
  | _ => none }
def SweepAllWrongFalsely : Prop := sweepAllRow.holds Tryz.pinned (OpenSpec.ofChange sweepAllWrong)

/-- 'tumbrellaw19.MarkReaches': WHATEVER THE INPUT: true; the input reads as it did. -/
def markReachesSpec : ChangeSpec := { name := "markReaches", fn := fun _ => fun
  | [d1, d2, d3] => { results := [.lit (.bool true)], args := [d1, d2, d3] }
  | _ => none }
def markReachesRow : OpenClaim := { program := "ytdpcccjkncagoaagreatdoor", sum := "334ac31b36dec48170465ba803436354e10f61138c8e13e2d55310e074560671", func := "tumbrel/tumbrellaw19.MarkReaches", spec := "markReaches", named := ["math/bits.deBruijn64tab"], apart := false, laid := [("math/bits.deBruijn64tab", laid_math_bits_deBruijn64tab)] }
def MarkReachesSaid : Prop := markReachesRow.holds Tryz.pinned (OpenSpec.ofChange markReachesSpec)

/-- ITS FALSE NEIGHBOUR: 'it returns false'. Refute it at one input. -/
def markReachesWrong : ChangeSpec := { name := "markReaches", fn := fun _ => fun
  | [d1, d2, d3] => { results := [.lit (.bool false)], args := [d1, d2, d3] }
  | _ => none }
def MarkReachesWrongFalsely : Prop := markReachesRow.holds Tryz.pinned (OpenSpec.ofChange markReachesWrong)

/-- 'tumbrellaw19.MarkAgain': WHATEVER THE INPUT: true; the input reads as it did. -/
def markAgainSpec : ChangeSpec := { name := "markAgain", fn := fun _ => fun
  | [d1, d2, d3] => { results := [.lit (.bool true)], args := [d1, d2, d3] }
  | _ => none }
def markAgainRow : OpenClaim := { program := "ytdpcccjkncagoaagreatdoor", sum := "334ac31b36dec48170465ba803436354e10f61138c8e13e2d55310e074560671", func := "tumbrel/tumbrellaw19.MarkAgain", spec := "markAgain", named := ["math/bits.deBruijn64tab"], apart := false, laid := [("math/bits.deBruijn64tab", laid_math_bits_deBruijn64tab)] }
def MarkAgainSaid : Prop := markAgainRow.holds Tryz.pinned (OpenSpec.ofChange markAgainSpec)

/-- ITS FALSE NEIGHBOUR: 'it returns false'. Refute it at one input. -/
def markAgainWrong : ChangeSpec := { name := "markAgain", fn := fun _ => fun
  | [d1, d2, d3] => { results := [.lit (.bool false)], args := [d1, d2, d3] }
  | _ => none }
def MarkAgainWrongFalsely : Prop := markAgainRow.holds Tryz.pinned (OpenSpec.ofChange markAgainWrong)

/-- 'tumbrellaw19.MarkPlays': WHATEVER THE INPUT: true; the input reads as it did. -/
def markPlaysSpec : ChangeSpec := { name := "markPlays", fn := fun _ => fun
  | [d1, d2] => { results := [.lit (.bool true)], args := [d1, d2] }
  | _ => none }
def markPlaysRow : OpenClaim := { program := "ytdpcccjkncagoaagreatdoor", sum := "334ac31b36dec48170465ba803436354e10f61138c8e13e2d55310e074560671", func := "tumbrel/tumbrellaw19.MarkPlays", spec := "markPlays", named := ["math/bits.deBruijn64tab"], apart := false, laid := [("math/bits.deBruijn64tab", laid_math_bits_deBruijn64tab)] }
def MarkPlaysSaid : Prop := markPlaysRow.holds Tryz.pinned (OpenSpec.ofChange markPlaysSpec)

/-- ITS FALSE NEIGHBOUR: 'it returns false'. Refute it at one input. -/
def markPlaysWrong : ChangeSpec := { name := "markPlays", fn := fun _ => fun
  | [d1, d2] => { results := [.lit (.bool false)], args := [d1, d2] }
  | _ => none }
def MarkPlaysWrongFalsely : Prop := markPlaysRow.holds Tryz.pinned (OpenSpec.ofChange markPlaysWrong)

/-- 'tumbrellaw22.CycleAgain': WHATEVER THE INPUT: true; the input reads as it did. -/
def cycleAgainSpec : ChangeSpec := { name := "cycleAgain", fn := fun _ => fun
  | [d1, d2, d3] => { results := [.lit (.bool true)], args := [d1, d2, d3] }
  | _ => none }
def cycleAgainRow : OpenClaim := { program := "ytdpcccjkncagoaagreatdoor", sum := "334ac31b36dec48170465ba803436354e10f61138c8e13e2d55310e074560671", func := "tumbrel/tumbrellaw22.CycleAgain", spec := "cycleAgain", unfollowed := true, recurses := true, named := ["math/bits.deBruijn64tab"], apart := false, laid := [("math/bits.deBruijn64tab", laid_math_bits_deBruijn64tab)] }
def CycleAgainSaid : Prop := cycleAgainRow.holds Tryz.pinned (OpenSpec.ofChange cycleAgainSpec)

/-- ITS FALSE NEIGHBOUR: 'it returns false'. Refute it at one input. -/
def cycleAgainWrong : ChangeSpec := { name := "cycleAgain", fn := fun _ => fun
  | [d1, d2, d3] => { results := [.lit (.bool false)], args := [d1, d2, d3] }
  | _ => none }
def CycleAgainWrongFalsely : Prop := cycleAgainRow.holds Tryz.pinned (OpenSpec.ofChange cycleAgainWrong)

/-- 'tumbrellaw22.CyclePlays': WHATEVER THE INPUT: true; the input reads as it did. -/
def cyclePlaysSpec : ChangeSpec := { name := "cyclePlays", fn := fun _ => fun
  | [d1, d2, d3] => { results := [.lit (.bool true)], args := [d1, d2, d3] }
  | _ => none }
def cyclePlaysRow : OpenClaim := { program := "ytdpcccjkncagoaagreatdoor", sum := "334ac31b36dec48170465ba803436354e10f61138c8e13e2d55310e074560671", func := "tumbrel/tumbrellaw22.CyclePlays", spec := "cyclePlays", unfollowed := true, recurses := true, named := ["math/bits.deBruijn64tab"], apart := false, laid := [("math/bits.deBruijn64tab", laid_math_bits_deBruijn64tab)] }
def CyclePlaysSaid : Prop := cyclePlaysRow.holds Tryz.pinned (OpenSpec.ofChange cyclePlaysSpec)

/-- ITS FALSE NEIGHBOUR: 'it returns false'. Refute it at one input. -/
def cyclePlaysWrong : ChangeSpec := { name := "cyclePlays", fn := fun _ => fun
  | [d1, d2, d3] => { results := [.lit (.bool false)], args := [d1, d2, d3] }
  | _ => none }
def CyclePlaysWrongFalsely : Prop := cyclePlaysRow.holds Tryz.pinned (OpenSpec.ofChange cyclePlaysWrong)

/-- 'tumbrellaw22.CycleExact': WHATEVER THE INPUT: true; the input reads as it did. -/
def cycleExactSpec : ChangeSpec := { name := "cycleExact", fn := fun _ => fun
  | [d1, d2, d3, d4] => { results := [.lit (.bool true)], args := [d1, d2, d3, d4] }
  | _ => none }
def cycleExactRow : OpenClaim := { program := "ytdpcccjkncagoaagreatdoor", sum := "334ac31b36dec48170465ba803436354e10f61138c8e13e2d55310e074560671", func := "tumbrel/tumbrellaw22.CycleExact", spec := "cycleExact", unfollowed := true, recurses := true, named := ["math/bits.deBruijn64tab"], apart := false, laid := [("math/bits.deBruijn64tab", laid_math_bits_deBruijn64tab)] }
def CycleExactSaid : Prop := cycleExactRow.holds Tryz.pinned (OpenSpec.ofChange cycleExactSpec)

/-- ITS FALSE NEIGHBOUR: 'it returns false'. Refute it at one input. -/
def cycleExactWrong : ChangeSpec := { name := "cycleExact", fn := fun _ => fun
  | [d1, d2, d3, d4] => { results := [.lit (.bool false)], args := [d1, d2, d3, d4] }
  | _ => none }
def CycleExactWrongFalsely : Prop := cycleExactRow.holds Tryz.pinned (OpenSpec.ofChange cycleExactWrong)

/- THE SECOND FORM. 'bulk': how many values and letters a reading holds, each counted each time it is reached (what is shared counts as often as it is met; a slice's spare places count too). A statement '..UptoSaid' is the law's where the arguments, and the package variables that the reading takes, are together of bulk at most 1048576: NARROWER than '..Said'. Prove '..Said' where nothing that the law and all that it calls make is longer than what came in: it says more and counts as full. Else prove '..UptoSaid'. A law counts once. -/
mutual
def uptoBulk {H : Type} : DataW H → Nat
  | .lit (.string bytes) => bytes.length + 1
  | .lit _ => 1
  | .nil => 1
  | .ptr d => uptoBulk d + 1
  | .slice elems spare => uptoBulkAll elems + uptoBulkAll spare + 1
  | .agg parts => uptoBulkAll parts + 1
  | .iface _ d => uptoBulk d + 1
  | .map entries => uptoBulkEntries entries + 1
  | .held _ => 1
def uptoBulkAll {H : Type} : List (DataW H) → Nat
  | [] => 0
  | d :: r => uptoBulk d + uptoBulkAll r
def uptoBulkEntries {H : Type} : List (Lit × DataW H) → Nat
  | [] => 0
  | x :: r => uptoBulkEntry x + uptoBulkEntries r
def uptoBulkEntry {H : Type} : Lit × DataW H → Nat
  | (.string bytes, d) => bytes.length + uptoBulk d + 1
  | (_, d) => uptoBulk d + 1
 end
def uptoSmall : (H : Type) → List (DataW H) → Bool := fun _ ds => decide (uptoBulkAll ds ≤ 1048576)
def OpenSpec.upto (s : _root_.Go.ChangeSpec) : _root_.Go.OpenSpec := { _root_.Go.OpenSpec.ofChange s with cond := some uptoSmall }

/-- 'tumbrellaw18.GheapRoom', WHERE WHAT IT READS IS OF BULK AT MOST 1048576: true; the input reads as it did. -/
def gheapRoomUptoRow : OpenClaim := { program := "ytdpcccjkncagoaagreatdoor", sum := "334ac31b36dec48170465ba803436354e10f61138c8e13e2d55310e074560671", func := "tumbrel/tumbrellaw18.GheapRoom", spec := "gheapRoom", named := ["math/bits.deBruijn64tab"], apart := false, laid := [("math/bits.deBruijn64tab", laid_math_bits_deBruijn64tab)], narrowed := true }
def GheapRoomUptoSaid : Prop := gheapRoomUptoRow.holds Tryz.pinned (OpenSpec.upto gheapRoomSpec)

/-- 'tumbrellaw18.GheapApart', WHERE WHAT IT READS IS OF BULK AT MOST 1048576: true; the input reads as it did. -/
def gheapApartUptoRow : OpenClaim := { program := "ytdpcccjkncagoaagreatdoor", sum := "334ac31b36dec48170465ba803436354e10f61138c8e13e2d55310e074560671", func := "tumbrel/tumbrellaw18.GheapApart", spec := "gheapApart", named := ["math/bits.deBruijn64tab"], apart := false, laid := [("math/bits.deBruijn64tab", laid_math_bits_deBruijn64tab)], narrowed := true }
def GheapApartUptoSaid : Prop := gheapApartUptoRow.holds Tryz.pinned (OpenSpec.upto gheapApartSpec)

/-- 'tumbrellaw18.GheapPlays', WHERE WHAT IT READS IS OF BULK AT MOST 1048576: true; the input reads as it did. -/
def gheapPlaysUptoRow : OpenClaim := { program := "ytdpcccjkncagoaagreatdoor", sum := "334ac31b36dec48170465ba803436354e10f61138c8e13e2d55310e074560671", func := "tumbrel/tumbrellaw18.GheapPlays", spec := "gheapPlays", named := ["math/bits.deBruijn64tab"], apart := false, laid := [("math/bits.deBruijn64tab", laid_math_bits_deBruijn64tab)], narrowed := true }
def GheapPlaysUptoSaid : Prop := gheapPlaysUptoRow.holds Tryz.pinned (OpenSpec.upto gheapPlaysSpec)

/-- 'tumbrellaw20.SweepPlays', WHERE WHAT IT READS IS OF BULK AT MOST 1048576: true; the input reads as it did. -/
def sweepPlaysUptoRow : OpenClaim := { program := "ytdpcccjkncagoaagreatdoor", sum := "334ac31b36dec48170465ba803436354e10f61138c8e13e2d55310e074560671", func := "tumbrel/tumbrellaw20.SweepPlays", spec := "sweepPlays", named := ["math/bits.deBruijn64tab"], apart := false, laid := [("math/bits.deBruijn64tab", laid_math_bits_deBruijn64tab)], narrowed := true }
def SweepPlaysUptoSaid : Prop := sweepPlaysUptoRow.holds Tryz.pinned (OpenSpec.upto sweepPlaysSpec)

/-- 'tumbrellaw20.SweepLeaves', WHERE WHAT IT READS IS OF BULK AT MOST 1048576: true; the input reads as it did. -/
def sweepLeavesUptoRow : OpenClaim := { program := "ytdpcccjkncagoaagreatdoor", sum := "334ac31b36dec48170465ba803436354e10f61138c8e13e2d55310e074560671", func := "tumbrel/tumbrellaw20.SweepLeaves", spec := "sweepLeaves", named := ["math/bits.deBruijn64tab"], apart := false, laid := [("math/bits.deBruijn64tab", laid_math_bits_deBruijn64tab)], narrowed := true }
def SweepLeavesUptoSaid : Prop := sweepLeavesUptoRow.holds Tryz.pinned (OpenSpec.upto sweepLeavesSpec)

/-- 'tumbrellaw20.SweepAll', WHERE WHAT IT READS IS OF BULK AT MOST 1048576: true; the input reads as it did. -/
def sweepAllUptoRow : OpenClaim := { program := "ytdpcccjkncagoaagreatdoor", sum := "334ac31b36dec48170465ba803436354e10f61138c8e13e2d55310e074560671", func := "tumbrel/tumbrellaw20.SweepAll", spec := "sweepAll", named := ["math/bits.deBruijn64tab"], apart := false, laid := [("math/bits.deBruijn64tab", laid_math_bits_deBruijn64tab)], narrowed := true }
def SweepAllUptoSaid : Prop := sweepAllUptoRow.holds Tryz.pinned (OpenSpec.upto sweepAllSpec)

/-- 'tumbrellaw19.MarkReaches', WHERE WHAT IT READS IS OF BULK AT MOST 1048576: true; the input reads as it did. -/
def markReachesUptoRow : OpenClaim := { program := "ytdpcccjkncagoaagreatdoor", sum := "334ac31b36dec48170465ba803436354e10f61138c8e13e2d55310e074560671", func := "tumbrel/tumbrellaw19.MarkReaches", spec := "markReaches", named := ["math/bits.deBruijn64tab"], apart := false, laid := [("math/bits.deBruijn64tab", laid_math_bits_deBruijn64tab)], narrowed := true }
def MarkReachesUptoSaid : Prop := markReachesUptoRow.holds Tryz.pinned (OpenSpec.upto markReachesSpec)

/-- 'tumbrellaw19.MarkAgain', WHERE WHAT IT READS IS OF BULK AT MOST 1048576: true; the input reads as it did. -/
def markAgainUptoRow : OpenClaim := { program := "ytdpcccjkncagoaagreatdoor", sum := "334ac31b36dec48170465ba803436354e10f61138c8e13e2d55310e074560671", func := "tumbrel/tumbrellaw19.MarkAgain", spec := "markAgain", named := ["math/bits.deBruijn64tab"], apart := false, laid := [("math/bits.deBruijn64tab", laid_math_bits_deBruijn64tab)], narrowed := true }
def MarkAgainUptoSaid : Prop := markAgainUptoRow.holds Tryz.pinned (OpenSpec.upto markAgainSpec)

/-- 'tumbrellaw19.MarkPlays', WHERE WHAT IT READS IS OF BULK AT MOST 1048576: true; the input reads as it did. -/
def markPlaysUptoRow : OpenClaim := { program := "ytdpcccjkncagoaagreatdoor", sum := "334ac31b36dec48170465ba803436354e10f61138c8e13e2d55310e074560671", func := "tumbrel/tumbrellaw19.MarkPlays", spec := "markPlays", named := ["math/bits.deBruijn64tab"], apart := false, laid := [("math/bits.deBruijn64tab", laid_math_bits_deBruijn64tab)], narrowed := true }
def MarkPlaysUptoSaid : Prop := markPlaysUptoRow.holds Tryz.pinned (OpenSpec.upto markPlaysSpec)

/-- 'tumbrellaw22.CycleAgain', WHERE WHAT IT READS IS OF BULK AT MOST 1048576: true; the input reads as it did. -/
def cycleAgainUptoRow : OpenClaim := { program := "ytdpcccjkncagoaagreatdoor", sum := "334ac31b36dec48170465ba803436354e10f61138c8e13e2d55310e074560671", func := "tumbrel/tumbrellaw22.CycleAgain", spec := "cycleAgain", unfollowed := true, recurses := true, named := ["math/bits.deBruijn64tab"], apart := false, laid := [("math/bits.deBruijn64tab", laid_math_bits_deBruijn64tab)], narrowed := true }
def CycleAgainUptoSaid : Prop := cycleAgainUptoRow.holds Tryz.pinned (OpenSpec.upto cycleAgainSpec)

/-- 'tumbrellaw22.CyclePlays', WHERE WHAT IT READS IS OF BULK AT MOST 1048576: true; the input reads as it did. -/
def cyclePlaysUptoRow : OpenClaim := { program := "ytdpcccjkncagoaagreatdoor", sum := "334ac31b36dec48170465ba803436354e10f61138c8e13e2d55310e074560671", func := "tumbrel/tumbrellaw22.CyclePlays", spec := "cyclePlays", unfollowed := true, recurses := true, named := ["math/bits.deBruijn64tab"], apart := false, laid := [("math/bits.deBruijn64tab", laid_math_bits_deBruijn64tab)], narrowed := true }
def CyclePlaysUptoSaid : Prop := cyclePlaysUptoRow.holds Tryz.pinned (OpenSpec.upto cyclePlaysSpec)

/-- 'tumbrellaw22.CycleExact', WHERE WHAT IT READS IS OF BULK AT MOST 1048576: true; the input reads as it did. -/
def cycleExactUptoRow : OpenClaim := { program := "ytdpcccjkncagoaagreatdoor", sum := "334ac31b36dec48170465ba803436354e10f61138c8e13e2d55310e074560671", func := "tumbrel/tumbrellaw22.CycleExact", spec := "cycleExact", unfollowed := true, recurses := true, named := ["math/bits.deBruijn64tab"], apart := false, laid := [("math/bits.deBruijn64tab", laid_math_bits_deBruijn64tab)], narrowed := true }
def CycleExactUptoSaid : Prop := cycleExactUptoRow.holds Tryz.pinned (OpenSpec.upto cycleExactSpec)

end Rows
end Go.Proofs.YtdpcccjkncagoaaGreatDoor
