/-
  What the row's condition on the laid variable gives: the table's cells.
-/
import Derived.Test.YtheibjjdaogdlaaGreatDoorRows
import Derived.Test.YtheibjjdaogdlaaGreatDoorDoor
import Derived.ProofKit
import Derived.LaidMore
import Derived.OpenShut
import Derived.Stop.Joined
namespace Go.Proofs.YtheibjjdaogdlaaGreatDoor
open Go.ChangeShapes Go.WideShapes Go.ChangeAt Go.WideMaps Go.WideElems Go.RowKit

def theLaid : List (String × DataW Unit) := [("math/bits.deBruijn64tab", Rows.laid_math_bits_deBruijn64tab)]
theorem gTab : Tryz.prog.globalNamed "math/bits.deBruijn64tab" = some 1 := by kernel_rfl
theorem tTab : (Tryz.prog.globals[1]?).map (·.type) = some 296 := by kernel_rfl
theorem cTab : Tryz.prog.cellsOf 5 = 1 := by kernel_rfl

theorem door_met (os : Os) (args : Array Value) : laidMetH Tryz.prog theLaid ((World.doorLaid Tryz.prog 400 os).forCall (fun _ _ => 0) ⟨#[], args, []⟩).memory :=
  laidMetH_of_parts3 (fuel := 8) (laidMet_of_run' 8 (by kernel_rfl) (by kernel_rfl)) (by kernel_rfl) (by kernel_rfl)

theorem of_laid {W : World} (h : laidMetH Tryz.prog theLaid W) : DoorH (fun _ => False) W := by
  rw [MakeChecks.laidMetH_plain _ _ _ (by kernel_rfl)] at h
  obtain ⟨ps, ⟨g0, t0, cs0, f0, p0, q0, hg0, ht0, hv0, hd0, _, _⟩, _, _⟩ := h
  obtain rfl := Option.some.inj (gTab.symm.trans hg0)
  obtain rfl := Option.some.inj (tTab.symm.trans ht0)
  obtain ⟨xs, m1, rfl, hx1, hlen, hn, hel⟩ := DataW.trod_array Tryz.underlying296 hd0
  rw [cTab] at hel
  simp only [Prod.mk.injEq] at hx1
  have e0 : (Rows.laid_math_bits_deBruijn64tab : DataW Unit) = .agg (tab64.map fun x => .lit (.int .u8 x)) := rfl
  have e1 : tab64.map (fun x => (DataW.lit (.int .u8 x) : DataW Unit)) = xs.map (·.1) := by
    have := e0.symm.trans hx1.1
    exact DataW.agg.inj this
  have key : TabIn W := by
    intro i x hx
    have hi : i < 64 := (List.getElem?_eq_some_iff.1 hx).1
    have h0 := hel i hi
    obtain ⟨y, hy⟩ : ∃ y, xs[i]? = some y := ⟨_, List.getElem?_eq_getElem (by omega)⟩
    rw [hy] at h0
    obtain ⟨n, h1, h2, _⟩ := DataW.trod_int Tryz.underlying5 h0
    have e2 := congrArg (fun l => l[i]?) e1
    simp only [List.getElem?_map, hx, hy, Option.map_some, h2, Option.some.injEq, DataW.lit.injEq, Lit.int.injEq, true_and] at e2
    subst e2
    rw [World.var?_cell hg0 hv0 i]
    have h3 := congrArg (fun l => l[0]?) h1
    simp only [List.getElem?_take, List.getElem?_drop, Nat.mul_one, Nat.add_zero, List.getElem?_cons_zero] at h3
    simpa using h3
  refine ⟨key, fun h => h, ?_⟩
  have h0 := key 0 0 rfl
  unfold World.cell? at h0
  cases hb : W.heap[1]? with
  | none => rw [hb] at h0; cases h0
  | some o => exact (Array.getElem?_eq_some_iff.1 hb).1
end Go.Proofs.YtheibjjdaogdlaaGreatDoor
