/- The table of the functions of this set, for runs by reckoning. Printed by a program of this repo (wip/tools/gencode.py). -/
import Derived.Test.YtheibjjdaogdlaaGreatDoorCode
import Derived.Test.YtheibjjdaogdlaaGreatDoorRunIter
namespace Go.Proofs.YtheibjjdaogdlaaGreatDoor
open Go Go.Tum

def row_tumbrellaw33_FairNil : FnRow := ⟨3, 27, [(.tmp 2)], m_tumbrellaw33_FairNil⟩
theorem row_tumbrellaw33_FairNil_ok : row_tumbrellaw33_FairNil.Ok Tryz.prog := ⟨(by kernel_rfl : callable Tryz.prog 3 = true), Tryz.f3, Nat.le_of_ble_eq_true rfl, rfl, fun r hr => (by rcases List.mem_cons.1 hr with rfl | hr; exact trivial; exact (by cases hr)), fun _ _ _ hn h => e_tumbrellaw33_FairNil hn h⟩
def row_fair_New : FnRow := ⟨4, 9, [(.tmp 2)], m_fair_New⟩
theorem row_fair_New_ok : row_fair_New.Ok Tryz.prog := ⟨(by kernel_rfl : callable Tryz.prog 4 = true), Tryz.f4, Nat.le_of_ble_eq_true rfl, rfl, fun r hr => (by rcases List.mem_cons.1 hr with rfl | hr; exact trivial; exact (by cases hr)), fun _ _ _ hn h => e_fair_New hn h⟩
def row_fair_Watch_Pick : FnRow := ⟨5, 74, [(.cell 4 26 5)], m_fair_Watch_Pick⟩
theorem row_fair_Watch_Pick_ok : row_fair_Watch_Pick.Ok Tryz.prog := ⟨(by kernel_rfl : callable Tryz.prog 5 = true), Tryz.f5, Nat.le_of_ble_eq_true rfl, rfl, fun r hr => (by rcases List.mem_cons.1 hr with rfl | hr; exact (by show aggT Tryz.prog 26 = some 5; kernel_rfl); exact (by cases hr)), fun _ _ _ hn h => e_fair_Watch_Pick hn h⟩
def row_fair_Watch_Calls : FnRow := ⟨6, 9, [(.tmp 2)], m_fair_Watch_Calls⟩
theorem row_fair_Watch_Calls_ok : row_fair_Watch_Calls.Ok Tryz.prog := ⟨(by kernel_rfl : callable Tryz.prog 6 = true), Tryz.f6, Nat.le_of_ble_eq_true rfl, rfl, fun r hr => (by rcases List.mem_cons.1 hr with rfl | hr; exact trivial; exact (by cases hr)), fun _ _ _ hn h => e_fair_Watch_Calls hn h⟩
def row_fair_Watch_Rounds : FnRow := ⟨7, 9, [(.tmp 2)], m_fair_Watch_Rounds⟩
theorem row_fair_Watch_Rounds_ok : row_fair_Watch_Rounds.Ok Tryz.prog := ⟨(by kernel_rfl : callable Tryz.prog 7 = true), Tryz.f7, Nat.le_of_ble_eq_true rfl, rfl, fun r hr => (by rcases List.mem_cons.1 hr with rfl | hr; exact trivial; exact (by cases hr)), fun _ _ _ hn h => e_fair_Watch_Rounds hn h⟩
def row_tumbrellaw33_awake : FnRow := ⟨8, 5, [(.tmp 0)], m_tumbrellaw33_awake⟩
theorem row_tumbrellaw33_awake_ok : row_tumbrellaw33_awake.Ok Tryz.prog := ⟨(by kernel_rfl : callable Tryz.prog 8 = true), Tryz.f8, Nat.le_of_ble_eq_true rfl, rfl, fun r hr => (by rcases List.mem_cons.1 hr with rfl | hr; exact trivial; exact (by cases hr)), fun _ _ _ hn h => e_tumbrellaw33_awake hn h⟩
def row_fair_Watch_round : FnRow := ⟨15, 37, [], m_fair_Watch_round⟩
theorem row_fair_Watch_round_ok : row_fair_Watch_round.Ok Tryz.prog := ⟨(by kernel_rfl : callable Tryz.prog 15 = true), Tryz.f15, Nat.le_of_ble_eq_true rfl, rfl, fun r hr => (by cases hr), fun _ _ _ hn h => e_fair_Watch_round hn h⟩
def row_fair_Call : FnRow := ⟨16, 12, [(.tmp 2)], m_fair_Call⟩
theorem row_fair_Call_ok : row_fair_Call.Ok Tryz.prog := ⟨(by kernel_rfl : callable Tryz.prog 16 = true), Tryz.f16, Nat.le_of_ble_eq_true rfl, rfl, fun r hr => (by rcases List.mem_cons.1 hr with rfl | hr; exact trivial; exact (by cases hr)), fun _ _ _ hn h => e_fair_Call hn h⟩
def row_math_bits_TrailingZeros64 : FnRow := ⟨283, 14, [(.tmp 2)], m_math_bits_TrailingZeros64⟩
theorem row_math_bits_TrailingZeros64_ok : row_math_bits_TrailingZeros64.Ok Tryz.prog := ⟨(by kernel_rfl : callable Tryz.prog 283 = true), Tryz.f283, Nat.le_of_ble_eq_true rfl, rfl, fun r hr => (by rcases List.mem_cons.1 hr with rfl | hr; exact trivial; exact (by cases hr)), fun _ _ _ hn h => e_math_bits_TrailingZeros64 hn h⟩
def rows : List FnRow := [row_tumbrellaw33_FairNil, row_fair_New, row_fair_Watch_Pick, row_fair_Watch_Calls, row_fair_Watch_Rounds, row_tumbrellaw33_awake, row_fair_Watch_round, row_fair_Call, row_math_bits_TrailingZeros64]
theorem rows_ok : ∀ x ∈ rows, x.Ok Tryz.prog := by
  refine List.forall_mem_cons.2 ⟨row_tumbrellaw33_FairNil_ok, ?_⟩
  refine List.forall_mem_cons.2 ⟨row_fair_New_ok, ?_⟩
  refine List.forall_mem_cons.2 ⟨row_fair_Watch_Pick_ok, ?_⟩
  refine List.forall_mem_cons.2 ⟨row_fair_Watch_Calls_ok, ?_⟩
  refine List.forall_mem_cons.2 ⟨row_fair_Watch_Rounds_ok, ?_⟩
  refine List.forall_mem_cons.2 ⟨row_tumbrellaw33_awake_ok, ?_⟩
  refine List.forall_mem_cons.2 ⟨row_fair_Watch_round_ok, ?_⟩
  refine List.forall_mem_cons.2 ⟨row_fair_Call_ok, ?_⟩
  refine List.forall_mem_cons.2 ⟨row_math_bits_TrailingZeros64_ok, ?_⟩
  exact fun x hx => by cases hx
end Go.Proofs.YtheibjjdaogdlaaGreatDoor
