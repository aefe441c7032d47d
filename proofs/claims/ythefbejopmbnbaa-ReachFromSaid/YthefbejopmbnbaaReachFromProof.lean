/-
  ReachFrom: for every input the law returns true, and the input reads as it did. No condition.
-/
import Derived.Test.YthefbejopmbnbaaPkE
import Derived.Test.YthefbejopmbnbaaRows
namespace Go.Proofs.Ythefbejopmbnbaa
open Go.ChangeShapes Go.WideShapes Go.ChangeAt Go.RowKit

theorem reachFrom_knob : ownKnob Try.prog.godebug = none := by kernel_rfl
theorem reachFrom_laid : laidOutB Try.prog = true := by kernel_rfl

set_option maxRecDepth 100000 in
theorem reachFrom_lifted (os : Os) (started : os.Started) (H : Type) (enc : TypeId × Value → H) :
    ReturnsInHanded {} Try.checked os 6 .any (Rows.reachFromSpec.pre6 enc Try.prog Try.f6 Rows.reachFromRow.domain false) (Rows.reachFromSpec.post enc Try.prog Try.f6 false true false false) := by
  refine returnsInHanded_of_change (C := Try.checked) reachFrom_knob started (by kernel_rfl) Try.func6
    (ChangeSpec.witness6 (enc := enc) (C := Try.checked) false ⟨#[], #[.slice none 0 0, .slice none 0 0], []⟩ 8 (by kernel_rfl) (by kernel_rfl) (by kernel_rfl) (by kernel_rfl)) ?_
  intro W base args ds gs before hval0 hW hcnd _
  have hval : ∀ (j : Nat) t v, Try.f6.params[j]? = some t → args[j]? = some v → Value.okWide Try.prog W .any base t v := hval0
  have hW' := hW
  obtain ⟨p, q, hA0, hV, rfl, hfz, hnd⟩ := hW
  have hA : DataW.TrodAll enc Try.prog W 0 (fun _ => true) true Try.f6.params.toList args.toList ds p := hA0
  have hAk := hA
  rw [Try.params6] at hA hval
  obtain ⟨v0, vs0, d0, ds0, p0, q0, hargs, rfl, rfl, h0, r0x⟩ := trodAll_cons hA
  obtain ⟨v1, vs1, d1, ds1, p1, q1, rfl, rfl, rfl, h1, r1x⟩ := trodAll_cons r0x
  obtain ⟨rfl, rfl, rfl⟩ := trodAll_nil r1x
  obtain rfl : args = #[v0, v1] := by cases args; simp_all
  obtain ⟨rfl, rfl⟩ := trodVars_none hV
  have hlt := hW'.lt
  obtain ⟨n0, get0, r0, f0⟩ := Tum.open_inN (d := 6) (ks := [.c (some .i64), .s [.c (some .i64)]]) Try.underlying22 (by kernel_rfl) (by kernel_rfl) (by decide) (okWide_slice Try.underlying22 (hval 0 22 v0 rfl rfl)) h0
  obtain ⟨n1, get1, r1, f1⟩ := Tum.open_in (d := 6) (ks := [some .i64]) Try.underlying31 (by kernel_rfl) (by kernel_rfl) (by decide) (okWide_slice Try.underlying31 (hval 1 31 v1 rfl rfl)) h1
  clear hA0 hval0
  refine (Tum.Does.law (ReachFrom_does W r0 f0 r1 f1)).mono fun e W' ⟨he, hb⟩ => ?_
  subst he
  exact ⟨_, rfl, Tum.post_of_below (pv := []) hW' (fun _ _ _ => (trodAll_cons_mk (shut_bool Try.underlying4 _) trodAll_mk0))
    (fun sp hsp => Tum.trodAll_stays' reachFrom_laid (by kernel_rfl) hb (fun x hx => hlt x (List.mem_append_left _ hx)) hAk sp (fun x hx => hsp x (List.mem_append_left _ hx))) (fun _ _ => rfl) rfl
    hb (ok_one (by kernel_rfl) rfl (okWide_bool_mk Try.underlying4 _))⟩

theorem reachFrom_over : Rows.reachFromRow.holds Try.pinned (OpenSpec.ofChange Rows.reachFromSpec) :=
  OpenClaim.holds_of_wide 6 Try.f6 rfl rfl rfl rfl rfl rfl rfl ⟨rfl, rfl, rfl, rfl, rfl⟩ rfl rfl rfl rfl rfl (by kernel_rfl) Try.func6 (by kernel_rfl)
    (of_decide_eq_true (by kernel_rfl)) (by unfold Func.isWrapper; first | (rw [if_pos (by decide +kernel)]; kernel_rfl) | (rw [if_neg (by decide +kernel)]; exact ⟨rfl, rfl⟩))
    (fun os started H enc _ => reachFrom_lifted os started H enc)

theorem reachFrom_proved : Rows.ReachFromSaid :=
  reachFrom_over
end Go.Proofs.Ythefbejopmbnbaa
