/-
  LinearRight: for every input the law returns true, and the input reads as it did. No condition.
-/
import Derived.Test.YthgmdlmeeebfiaaPkG
import Derived.Test.YthgmdlmeeebfiaaRows
namespace Go.Proofs.Ythgmdlmeeebfiaa
open Go.ChangeShapes Go.WideShapes Go.ChangeAt Go.RowKit

theorem linearRight_knob : ownKnob Try.prog.godebug = none := by kernel_rfl
theorem linearRight_laid : laidOutB Try.prog = true := by kernel_rfl

set_option maxRecDepth 100000 in
theorem linearRight_lifted (os : Os) (started : os.Started) (H : Type) (enc : TypeId × Value → H) :
    ReturnsInHanded {} Try.checked os 8 .any (Rows.linearRightSpec.pre6 enc Try.prog Try.f8 Rows.linearRightRow.domain false) (Rows.linearRightSpec.post enc Try.prog Try.f8 false true false false) := by
  refine returnsInHanded_of_change (C := Try.checked) linearRight_knob started (by kernel_rfl) Try.func8
    (ChangeSpec.witness6 (enc := enc) (C := Try.checked) false ⟨#[], #[.int .i64 0, .int .i64 0, .slice none 0 0, .slice none 0 0], []⟩ 8 (by kernel_rfl) (by kernel_rfl) (by kernel_rfl) (by kernel_rfl)) ?_
  intro W base args ds gs before hval0 hW hcnd _
  have hval : ∀ (j : Nat) t v, Try.f8.params[j]? = some t → args[j]? = some v → Value.okWide Try.prog W .any base t v := hval0
  have hW' := hW
  obtain ⟨p, q, hA0, hV, rfl, hfz, hnd⟩ := hW
  have hA : DataW.TrodAll enc Try.prog W 0 (fun _ => true) true Try.f8.params.toList args.toList ds p := hA0
  have hAk := hA
  rw [Try.params8] at hA hval
  obtain ⟨v0, vs0, d0, ds0, p0, q0, hargs, rfl, rfl, h0, r0x⟩ := trodAll_cons hA
  obtain ⟨v1, vs1, d1, ds1, p1, q1, rfl, rfl, rfl, h1, r1x⟩ := trodAll_cons r0x
  obtain ⟨v2, vs2, d2, ds2, p2, q2, rfl, rfl, rfl, h2, r2x⟩ := trodAll_cons r1x
  obtain ⟨v3, vs3, d3, ds3, p3, q3, rfl, rfl, rfl, h3, r3x⟩ := trodAll_cons r2x
  obtain ⟨rfl, rfl, rfl⟩ := trodAll_nil r3x
  obtain rfl : args = #[v0, v1, v2, v3] := by cases args; simp_all
  obtain ⟨rfl, rfl⟩ := trodVars_none hV
  have hlt := hW'.lt
  obtain ⟨a0, rfl, rfl, rfl, w0⟩ := open_int Try.underlying3 (hval 0 3 v0 rfl rfl) h0
  have b0 := bounds_i64 w0
  obtain ⟨a1, rfl, rfl, rfl, w1⟩ := open_int Try.underlying3 (hval 1 3 v1 rfl rfl) h1
  have b1 := bounds_i64 w1
  obtain ⟨n2, get2, r2, f2⟩ := Tum.open_in (d := 6) (ks := [some .i64, none, some .i64, some .i64, some .i64, some .i64, some .i64, some .i64]) Try.underlying56 (by kernel_rfl) (by kernel_rfl) (by decide) (okWide_slice Try.underlying56 (hval 2 56 v2 rfl rfl)) h2
  obtain ⟨n3, get3, r3, f3⟩ := Tum.open_in (d := 6) (ks := [some .i64]) Try.underlying26 (by kernel_rfl) (by kernel_rfl) (by decide) (okWide_slice Try.underlying26 (hval 3 26 v3 rfl rfl)) h3
  clear hA0 hval0
  refine (Tum.Does.law (LinearRight_does W a0 a1 r2 f2 r3 f3)).mono fun e W' ⟨he, hb⟩ => ?_
  subst he
  exact ⟨_, rfl, Tum.post_of_below (pv := []) hW' (fun _ _ _ => (trodAll_cons_mk (shut_bool Try.underlying4 _) trodAll_mk0))
    (fun sp hsp => Tum.trodAll_stays' linearRight_laid (by kernel_rfl) hb (fun x hx => hlt x (List.mem_append_left _ hx)) hAk sp (fun x hx => hsp x (List.mem_append_left _ hx))) (fun _ _ => rfl) rfl
    hb (ok_one (by kernel_rfl) rfl (okWide_bool_mk Try.underlying4 _))⟩

theorem linearRight_over : Rows.linearRightRow.holds Try.pinned (OpenSpec.ofChange Rows.linearRightSpec) :=
  OpenClaim.holds_of_wide 8 Try.f8 rfl rfl rfl rfl rfl rfl rfl ⟨rfl, rfl, rfl, rfl, rfl⟩ rfl rfl rfl rfl rfl (by kernel_rfl) Try.func8 (by kernel_rfl)
    (of_decide_eq_true (by kernel_rfl)) (by unfold Func.isWrapper; first | (rw [if_pos (by decide +kernel)]; kernel_rfl) | (rw [if_neg (by decide +kernel)]; exact ⟨rfl, rfl⟩))
    (fun os started H enc _ => linearRight_lifted os started H enc)

theorem linearRight_proved : Rows.LinearRightSaid :=
  linearRight_over
end Go.Proofs.Ythgmdlmeeebfiaa
