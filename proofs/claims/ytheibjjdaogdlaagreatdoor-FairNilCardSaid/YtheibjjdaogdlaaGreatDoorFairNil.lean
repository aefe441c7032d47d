/-
  FairNil: the law's call, by reckoning.
-/
import Derived.Test.YtheibjjdaogdlaaGreatDoorTab
import Derived.Test.YtheibjjdaogdlaaGreatDoorOv
namespace Go.Proofs.YtheibjjdaogdlaaGreatDoor
open Go Go.Tum
theorem FairNil_does (w : World) (a : Int) : Does Tryz.prog 3 #[.int .i64 a] w fun v' w' => v' = .bool true ∧ Fr (fun _ => False) w w' :=
  closed_call (vs := [.int .i64 a]) (fuel := 500) rows_ok (rawQ1_ok _) (rawE2_ok _) rfl rfl rfl (by kernel_rfl) w
end Go.Proofs.YtheibjjdaogdlaaGreatDoor
