/-
  GheapNil: the law's call, by reckoning.
-/
import Derived.Test.YtbpfcmefpangbaaDoorDoor
namespace Go.Proofs.YtbpfcmefpangbaaDoor
open Go Go.Tum
theorem GheapNil_does (w : World) (hw : DoorH (fun _ => False) w) (a : Int) : Does Tryd.prog 4 #[.int .i64 a] w fun v' w' => v' = .bool true ∧ Fr (fun _ => False) w w' :=
  closed_callH (vs := [.int .i64 a]) (fuel := 5000) ovTZ_ok rows_ok (rawQ1_ok _) (rawE2_ok _) rfl rfl rfl (by kernel_rfl) w hw
end Go.Proofs.YtbpfcmefpangbaaDoor
