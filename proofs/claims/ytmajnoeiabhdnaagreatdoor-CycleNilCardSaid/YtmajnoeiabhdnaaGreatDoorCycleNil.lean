/-
  CycleNil: the law's call, by reckoning.
-/
import Derived.Test.YtmajnoeiabhdnaaGreatDoorDoor
namespace Go.Proofs.YtmajnoeiabhdnaaGreatDoor
open Go Go.Tum
theorem awake22 (w : World) (hw : DoorH (fun _ => False) w) : Does Tryz.prog 14 #[] w fun v' w' => v' = .bool true ∧ Fr (fun _ => False) w w' :=
  closed_callH (vs := []) (fuel := 5000) ovTZ_ok rows_ok (rawQ1_ok _) (rawE2_ok _) rfl rfl rfl (by kernel_rfl) w hw
def ov22 : CallF := orOv (ovPure 14 fun vs => match vs with
  | [] => some (.bool true)
  | _ => none) ovTZ
theorem ov22_ok : CallOk DoorH Tryz.prog ov22 := by
  refine orOv_ok (ovPure_ok (by kernel_rfl) fun vs v h => ?_) ovTZ_ok
  split at h <;> first | (cases h; done) | skip
  cases h
  exact ⟨rfl, fun E => rfl, fun X w0 w hH hf => awake22 w ⟨fun i x hx => by rw [hf.cell hH.2.2 hH.2.1]; exact hH.1 i x hx, fun h => h, Nat.lt_of_lt_of_le hH.2.2 hf.size⟩⟩
theorem CycleNil_does (w : World) (hw : DoorH (fun _ => False) w) (t n : Int) : Does Tryz.prog 3 #[.int .i64 t, .int .i64 n] w fun v' w' => v' = .bool true ∧ Fr (fun _ => False) w w' :=
  closed_callH (vs := [.int .i64 t, .int .i64 n]) (fuel := 5000) ov22_ok rows_ok (rawQ1_ok _) (rawE2_ok _) rfl rfl rfl (by kernel_rfl) w hw
end Go.Proofs.YtmajnoeiabhdnaaGreatDoor
