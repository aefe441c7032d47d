/-
  FaultNil: the law's call, by reckoning.
-/
import Derived.Test.YtmajnoeiabhdnaaGreatTab
import Derived.Test.YtmajnoeiabhdnaaGreatOv
namespace Go.Proofs.YtmajnoeiabhdnaaGreat
open Go Go.Tum
theorem awake10 (w : World) : Does Tryz.prog 11 #[] w fun v' w' => v' = .bool true ∧ Fr (fun _ => False) w w' :=
  closed_call (vs := []) (fuel := 5000) rows_ok (rawQ1_ok _) (rawE2_ok _) rfl rfl rfl (by kernel_rfl) w
def ovAwake : CallF := ovPure 11 fun vs => match vs with
  | [] => some (.bool true)
  | _ => none
theorem ovAwake_ok (H : HypW) : CallOk H Tryz.prog ovAwake := by
  refine ovPure_ok (by kernel_rfl) fun vs v h => ?_
  split at h <;> first | (cases h; done) | skip
  cases h
  exact ⟨rfl, fun E => rfl, fun _ _ w _ _ => awake10 w⟩
theorem FaultNil_does (w : World) (a f : Int) : Does Tryz.prog 3 #[.int .i64 a, .int .i64 f] w fun v' w' => v' = .bool true ∧ Fr (fun _ => False) w w' :=
  closed_callH (H := fun _ _ => True) (vs := [.int .i64 a, .int .i64 f]) (fuel := 5000) (ovAwake_ok _) rows_ok (rawQ1_ok _) (rawE2_ok _) rfl rfl rfl (by kernel_rfl) w trivial
end Go.Proofs.YtmajnoeiabhdnaaGreat
