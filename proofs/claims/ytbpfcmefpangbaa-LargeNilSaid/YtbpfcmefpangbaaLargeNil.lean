/-
  LargeNil: the law's call, by reckoning.
-/
import Derived.Test.YtbpfcmefpangbaaClass
namespace Go.Proofs.Ytbpfcmefpangbaa
open Go Go.Tum
theorem LargeNil_does (w : World) (page n : Int) : Does Try.prog 4 #[.int .i64 page, .int .i64 n] w fun v' w' => v' = .bool true ∧ Fr (fun _ => False) w w' :=
  closed_callH (H := fun _ _ => True) (vs := [.int .i64 page, .int .i64 n]) (fuel := 5000) (ovPages_ok _) rows_ok (rawQ1_ok _) (rawE2_ok _) rfl rfl rfl (by kernel_rfl) w trivial
end Go.Proofs.Ytbpfcmefpangbaa
