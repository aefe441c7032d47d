/-
  MarkNil: the law's call, by reckoning.
-/
import Derived.Test.YtbpfcmefpangbaaBits
namespace Go.Proofs.Ytbpfcmefpangbaa
open Go Go.Tum
theorem awake19 (w : World) : Does Try.prog 12 #[] w fun v' w' => v' = .bool true ∧ Fr (fun _ => False) w w' :=
  closed_call (vs := []) (fuel := 5000) rows_ok (rawQ1_ok _) (rawE2_ok _) rfl rfl rfl (by kernel_rfl) w
def ovAwake19 : CallF := ovPure 12 fun vs => match vs with
  | [] => some (.bool true)
  | _ => none
theorem ovAwake19_ok (H : HypW) : CallOk H Try.prog ovAwake19 := by
  refine ovPure_ok (by kernel_rfl) fun vs v h => ?_
  split at h <;> first | (cases h; done) | skip
  cases h
  exact ⟨rfl, fun E => rfl, fun _ _ w _ _ => awake19 w⟩
theorem MarkNil_does (w : World) (a : Int) : Does Try.prog 3 #[.int .i64 a] w fun v' w' => v' = .bool true ∧ Fr (fun _ => False) w w' := by
  match a with
  | .ofNat k => exact closed_callH (H := fun _ _ => True) (vs := [.int .i64 (.ofNat k)]) (fuel := 5000) (orOv_ok (ovHas0_ok _) (ovAwake19_ok _)) rows_ok (rawQ1_ok _) (rawE2_ok _) rfl rfl rfl (by kernel_rfl) w trivial
  | .negSucc 0 => exact closed_callH (H := fun _ _ => True) (vs := [.int .i64 (.negSucc 0)]) (fuel := 5000) (ovAwake19_ok _) rows_ok (rawQ1_ok _) (rawE2_ok _) rfl rfl rfl (by kernel_rfl) w trivial
  | .negSucc (k + 1) => exact closed_callH (H := fun _ _ => True) (vs := [.int .i64 (.negSucc (k + 1))]) (fuel := 5000) (ovAwake19_ok _) rows_ok (rawQ1_ok _) (rawE2_ok _) rfl rfl rfl (by kernel_rfl) w trivial
end Go.Proofs.Ytbpfcmefpangbaa
