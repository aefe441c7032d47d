/-
  ThreadNil: the law's call, by reckoning.
-/
import Derived.Test.YtcchfefbolmlbaaTab
namespace Go.Proofs.Ytcchfefbolmlbaa
open Go Go.Tum
theorem ThreadNil_does (w : World) (k m : Int) : Does Try.prog 5 #[.int .i64 k, .int .i64 m] w fun v' w' => v' = .bool true ∧ Fr (fun _ => False) w w' := by
  match k with
  | .ofNat k => exact closed_call (vs := [.int .i64 (.ofNat k), .int .i64 m]) (fuel := 200) rows_ok (rawQ0_ok _) (rawE0_ok _) rfl rfl rfl (by kernel_rfl) w
  | .negSucc 0 => exact closed_call (vs := [.int .i64 (.negSucc 0), .int .i64 m]) (fuel := 200) rows_ok (rawQ0_ok _) (rawE0_ok _) rfl rfl rfl (by kernel_rfl) w
  | .negSucc (k + 1) => exact closed_call (vs := [.int .i64 (.negSucc (k + 1)), .int .i64 m]) (fuel := 200) rows_ok (rawQ0_ok _) (rawE0_ok _) rfl rfl rfl (by kernel_rfl) w
end Go.Proofs.Ytcchfefbolmlbaa
