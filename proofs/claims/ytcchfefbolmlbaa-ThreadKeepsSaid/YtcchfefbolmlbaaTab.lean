/- The table of the functions of this set, for runs by reckoning. Printed by a program of this repo (wip/tools/gencode.py). -/
import Derived.Test.YtcchfefbolmlbaaCode
import Derived.Test.YtcchfefbolmlbaaRunIter
namespace Go.Proofs.Ytcchfefbolmlbaa
open Go Go.Tum

def row_tumbrellaw29_ThreadKeeps : FnRow := ⟨3, 150, [(.tmp 4)], m_tumbrellaw29_ThreadKeeps⟩
theorem row_tumbrellaw29_ThreadKeeps_ok : row_tumbrellaw29_ThreadKeeps.Ok Try.prog := ⟨(by kernel_rfl : callable Try.prog 3 = true), Try.f3, Nat.le_of_ble_eq_true rfl, rfl, fun r hr => (by rcases List.mem_cons.1 hr with rfl | hr; exact trivial; exact (by cases hr)), fun _ _ _ hn h => e_tumbrellaw29_ThreadKeeps hn h⟩
def row_tumbrellaw29_ThreadPlays : FnRow := ⟨4, 44, [(.tmp 6)], m_tumbrellaw29_ThreadPlays⟩
theorem row_tumbrellaw29_ThreadPlays_ok : row_tumbrellaw29_ThreadPlays.Ok Try.prog := ⟨(by kernel_rfl : callable Try.prog 4 = true), Try.f4, Nat.le_of_ble_eq_true rfl, rfl, fun r hr => (by rcases List.mem_cons.1 hr with rfl | hr; exact trivial; exact (by cases hr)), fun _ _ _ hn h => e_tumbrellaw29_ThreadPlays hn h⟩
def row_tumbrellaw29_ThreadNil : FnRow := ⟨5, 92, [(.tmp 4)], m_tumbrellaw29_ThreadNil⟩
theorem row_tumbrellaw29_ThreadNil_ok : row_tumbrellaw29_ThreadNil.Ok Try.prog := ⟨(by kernel_rfl : callable Try.prog 5 = true), Try.f5, Nat.le_of_ble_eq_true rfl, rfl, fun r hr => (by rcases List.mem_cons.1 hr with rfl | hr; exact trivial; exact (by cases hr)), fun _ _ _ hn h => e_tumbrellaw29_ThreadNil hn h⟩
def row_thread_New : FnRow := ⟨6, 32, [(.tmp 4)], m_thread_New⟩
theorem row_thread_New_ok : row_thread_New.Ok Try.prog := ⟨(by kernel_rfl : callable Try.prog 6 = true), Try.f6, Nat.le_of_ble_eq_true rfl, rfl, fun r hr => (by rcases List.mem_cons.1 hr with rfl | hr; exact trivial; exact (by cases hr)), fun _ _ _ hn h => e_thread_New hn h⟩
def row_tumbrelref29_New : FnRow := ⟨7, 12, [(.tmp 4)], m_tumbrelref29_New⟩
theorem row_tumbrelref29_New_ok : row_tumbrelref29_New.Ok Try.prog := ⟨(by kernel_rfl : callable Try.prog 7 = true), Try.f7, Nat.le_of_ble_eq_true rfl, rfl, fun r hr => (by rcases List.mem_cons.1 hr with rfl | hr; exact trivial; exact (by cases hr)), fun _ _ _ hn h => e_tumbrelref29_New hn h⟩
def row_tumbrellaw29_step : FnRow := ⟨8, 96, [(.tmp 6)], m_tumbrellaw29_step⟩
theorem row_tumbrellaw29_step_ok : row_tumbrellaw29_step.Ok Try.prog := ⟨(by kernel_rfl : callable Try.prog 8 = true), Try.f8, Nat.le_of_ble_eq_true rfl, rfl, fun r hr => (by rcases List.mem_cons.1 hr with rfl | hr; exact trivial; exact (by cases hr)), fun _ _ _ hn h => e_tumbrellaw29_step hn h⟩
def row_thread_Table_Holder : FnRow := ⟨9, 27, [(.tmp 4), (.tmp 5)], m_thread_Table_Holder⟩
theorem row_thread_Table_Holder_ok : row_thread_Table_Holder.Ok Try.prog := ⟨(by kernel_rfl : callable Try.prog 9 = true), Try.f9, Nat.le_of_ble_eq_true rfl, rfl, fun r hr => (by rcases List.mem_cons.1 hr with rfl | hr; exact trivial; exact (by rcases List.mem_cons.1 hr with rfl | hr; exact trivial; exact (by cases hr))), fun _ _ _ hn h => e_thread_Table_Holder hn h⟩
def row_thread_Table_Exit : FnRow := ⟨10, 15, [(.cell 4 42 2), (.tmp 5)], m_thread_Table_Exit⟩
theorem row_thread_Table_Exit_ok : row_thread_Table_Exit.Ok Try.prog := ⟨(by kernel_rfl : callable Try.prog 10 = true), Try.f10, Nat.le_of_ble_eq_true rfl, rfl, fun r hr => (by rcases List.mem_cons.1 hr with rfl | hr; exact (by show aggT Try.prog 42 = some 2; kernel_rfl); exact (by rcases List.mem_cons.1 hr with rfl | hr; exact trivial; exact (by cases hr))), fun _ _ _ hn h => e_thread_Table_Exit hn h⟩
def row_thread_Table_State : FnRow := ⟨11, 9, [(.tmp 4)], m_thread_Table_State⟩
theorem row_thread_Table_State_ok : row_thread_Table_State.Ok Try.prog := ⟨(by kernel_rfl : callable Try.prog 11 = true), Try.f11, Nat.le_of_ble_eq_true rfl, rfl, fun r hr => (by rcases List.mem_cons.1 hr with rfl | hr; exact trivial; exact (by cases hr)), fun _ _ _ hn h => e_thread_Table_State hn h⟩
def row_tumbrellaw28_Plain : FnRow := ⟨12, 8, [(.cell 2 25 2)], m_tumbrellaw28_Plain⟩
theorem row_tumbrellaw28_Plain_ok : row_tumbrellaw28_Plain.Ok Try.prog := ⟨(by kernel_rfl : callable Try.prog 12 = true), Try.f12, Nat.le_of_ble_eq_true rfl, rfl, fun r hr => (by rcases List.mem_cons.1 hr with rfl | hr; exact (by show aggT Try.prog 25 = some 2; kernel_rfl); exact (by cases hr)), fun _ _ _ hn h => e_tumbrellaw28_Plain hn h⟩
def row_thread_Table_Trap : FnRow := ⟨13, 9, [(.tmp 4)], m_thread_Table_Trap⟩
theorem row_thread_Table_Trap_ok : row_thread_Table_Trap.Ok Try.prog := ⟨(by kernel_rfl : callable Try.prog 13 = true), Try.f13, Nat.le_of_ble_eq_true rfl, rfl, fun r hr => (by rcases List.mem_cons.1 hr with rfl | hr; exact trivial; exact (by cases hr)), fun _ _ _ hn h => e_thread_Table_Trap hn h⟩
def row_tumbrellaw29_awake : FnRow := ⟨14, 41, [(.tmp 0)], m_tumbrellaw29_awake⟩
theorem row_tumbrellaw29_awake_ok : row_tumbrellaw29_awake.Ok Try.prog := ⟨(by kernel_rfl : callable Try.prog 14 = true), Try.f14, Nat.le_of_ble_eq_true rfl, rfl, fun r hr => (by rcases List.mem_cons.1 hr with rfl | hr; exact trivial; exact (by cases hr)), fun _ _ _ hn h => e_tumbrellaw29_awake hn h⟩
def row_tumbrellaw29_same : FnRow := ⟨15, 146, [(.tmp 4)], m_tumbrellaw29_same⟩
theorem row_tumbrellaw29_same_ok : row_tumbrellaw29_same.Ok Try.prog := ⟨(by kernel_rfl : callable Try.prog 15 = true), Try.f15, Nat.le_of_ble_eq_true rfl, rfl, fun r hr => (by rcases List.mem_cons.1 hr with rfl | hr; exact trivial; exact (by cases hr)), fun _ _ _ hn h => e_tumbrellaw29_same hn h⟩
def row_thread_Table_Spawn : FnRow := ⟨16, 34, [(.tmp 2), (.tmp 3)], m_thread_Table_Spawn⟩
theorem row_thread_Table_Spawn_ok : row_thread_Table_Spawn.Ok Try.prog := ⟨(by kernel_rfl : callable Try.prog 16 = true), Try.f16, Nat.le_of_ble_eq_true rfl, rfl, fun r hr => (by rcases List.mem_cons.1 hr with rfl | hr; exact trivial; exact (by rcases List.mem_cons.1 hr with rfl | hr; exact trivial; exact (by cases hr))), fun _ _ _ hn h => e_thread_Table_Spawn hn h⟩
def row_thread_Table_End : FnRow := ⟨17, 22, [(.tmp 6)], m_thread_Table_End⟩
theorem row_thread_Table_End_ok : row_thread_Table_End.Ok Try.prog := ⟨(by kernel_rfl : callable Try.prog 17 = true), Try.f17, Nat.le_of_ble_eq_true rfl, rfl, fun r hr => (by rcases List.mem_cons.1 hr with rfl | hr; exact trivial; exact (by cases hr)), fun _ _ _ hn h => e_thread_Table_End hn h⟩
def row_thread_Table_Kill : FnRow := ⟨18, 26, [(.tmp 6)], m_thread_Table_Kill⟩
theorem row_thread_Table_Kill_ok : row_thread_Table_Kill.Ok Try.prog := ⟨(by kernel_rfl : callable Try.prog 18 = true), Try.f18, Nat.le_of_ble_eq_true rfl, rfl, fun r hr => (by rcases List.mem_cons.1 hr with rfl | hr; exact trivial; exact (by cases hr)), fun _ _ _ hn h => e_thread_Table_Kill hn h⟩
def row_thread_Table_Len : FnRow := ⟨19, 10, [(.tmp 2)], m_thread_Table_Len⟩
theorem row_thread_Table_Len_ok : row_thread_Table_Len.Ok Try.prog := ⟨(by kernel_rfl : callable Try.prog 19 = true), Try.f19, Nat.le_of_ble_eq_true rfl, rfl, fun r hr => (by rcases List.mem_cons.1 hr with rfl | hr; exact trivial; exact (by cases hr)), fun _ _ _ hn h => e_thread_Table_Len hn h⟩
def row_thread_Table_Lock : FnRow := ⟨20, 45, [(.tmp 6)], m_thread_Table_Lock⟩
theorem row_thread_Table_Lock_ok : row_thread_Table_Lock.Ok Try.prog := ⟨(by kernel_rfl : callable Try.prog 20 = true), Try.f20, Nat.le_of_ble_eq_true rfl, rfl, fun r hr => (by rcases List.mem_cons.1 hr with rfl | hr; exact trivial; exact (by cases hr)), fun _ _ _ hn h => e_thread_Table_Lock hn h⟩
def row_thread_Table_Unlock : FnRow := ⟨21, 33, [(.tmp 6)], m_thread_Table_Unlock⟩
theorem row_thread_Table_Unlock_ok : row_thread_Table_Unlock.Ok Try.prog := ⟨(by kernel_rfl : callable Try.prog 21 = true), Try.f21, Nat.le_of_ble_eq_true rfl, rfl, fun r hr => (by rcases List.mem_cons.1 hr with rfl | hr; exact trivial; exact (by cases hr)), fun _ _ _ hn h => e_thread_Table_Unlock hn h⟩
def row_thread_Table_Over : FnRow := ⟨22, 10, [(.tmp 4)], m_thread_Table_Over⟩
theorem row_thread_Table_Over_ok : row_thread_Table_Over.Ok Try.prog := ⟨(by kernel_rfl : callable Try.prog 22 = true), Try.f22, Nat.le_of_ble_eq_true rfl, rfl, fun r hr => (by rcases List.mem_cons.1 hr with rfl | hr; exact trivial; exact (by cases hr)), fun _ _ _ hn h => e_thread_Table_Over hn h⟩
def row_tumbrelref29_within : FnRow := ⟨23, 12, [(.tmp 4)], m_tumbrelref29_within⟩
theorem row_tumbrelref29_within_ok : row_tumbrelref29_within.Ok Try.prog := ⟨(by kernel_rfl : callable Try.prog 23 = true), Try.f23, Nat.le_of_ble_eq_true rfl, rfl, fun r hr => (by rcases List.mem_cons.1 hr with rfl | hr; exact trivial; exact (by cases hr)), fun _ _ _ hn h => e_tumbrelref29_within hn h⟩
def row_tumbrelref29_Table_Spawn : FnRow := ⟨24, 32, [(.tmp 2), (.tmp 3)], m_tumbrelref29_Table_Spawn⟩
theorem row_tumbrelref29_Table_Spawn_ok : row_tumbrelref29_Table_Spawn.Ok Try.prog := ⟨(by kernel_rfl : callable Try.prog 24 = true), Try.f24, Nat.le_of_ble_eq_true rfl, rfl, fun r hr => (by rcases List.mem_cons.1 hr with rfl | hr; exact trivial; exact (by rcases List.mem_cons.1 hr with rfl | hr; exact trivial; exact (by cases hr))), fun _ _ _ hn h => e_tumbrelref29_Table_Spawn hn h⟩
def row_tumbrellaw28_Ours : FnRow := ⟨25, 8, [(.cell 2 42 2)], m_tumbrellaw28_Ours⟩
theorem row_tumbrellaw28_Ours_ok : row_tumbrellaw28_Ours.Ok Try.prog := ⟨(by kernel_rfl : callable Try.prog 25 = true), Try.f25, Nat.le_of_ble_eq_true rfl, rfl, fun r hr => (by rcases List.mem_cons.1 hr with rfl | hr; exact (by show aggT Try.prog 42 = some 2; kernel_rfl); exact (by cases hr)), fun _ _ _ hn h => e_tumbrellaw28_Ours hn h⟩
def row_tumbrelref29_Table_End : FnRow := ⟨26, 12, [(.tmp 6)], m_tumbrelref29_Table_End⟩
theorem row_tumbrelref29_Table_End_ok : row_tumbrelref29_Table_End.Ok Try.prog := ⟨(by kernel_rfl : callable Try.prog 26 = true), Try.f26, Nat.le_of_ble_eq_true rfl, rfl, fun r hr => (by rcases List.mem_cons.1 hr with rfl | hr; exact trivial; exact (by cases hr)), fun _ _ _ hn h => e_tumbrelref29_Table_End hn h⟩
def row_tumbrelref29_Table_Kill : FnRow := ⟨27, 12, [(.tmp 6)], m_tumbrelref29_Table_Kill⟩
theorem row_tumbrelref29_Table_Kill_ok : row_tumbrelref29_Table_Kill.Ok Try.prog := ⟨(by kernel_rfl : callable Try.prog 27 = true), Try.f27, Nat.le_of_ble_eq_true rfl, rfl, fun r hr => (by rcases List.mem_cons.1 hr with rfl | hr; exact trivial; exact (by cases hr)), fun _ _ _ hn h => e_tumbrelref29_Table_Kill hn h⟩
def row_tumbrelref29_Table_Lock : FnRow := ⟨28, 45, [(.tmp 6)], m_tumbrelref29_Table_Lock⟩
theorem row_tumbrelref29_Table_Lock_ok : row_tumbrelref29_Table_Lock.Ok Try.prog := ⟨(by kernel_rfl : callable Try.prog 28 = true), Try.f28, Nat.le_of_ble_eq_true rfl, rfl, fun r hr => (by rcases List.mem_cons.1 hr with rfl | hr; exact trivial; exact (by cases hr)), fun _ _ _ hn h => e_tumbrelref29_Table_Lock hn h⟩
def row_tumbrelref29_Table_Unlock : FnRow := ⟨29, 44, [(.tmp 6)], m_tumbrelref29_Table_Unlock⟩
theorem row_tumbrelref29_Table_Unlock_ok : row_tumbrelref29_Table_Unlock.Ok Try.prog := ⟨(by kernel_rfl : callable Try.prog 29 = true), Try.f29, Nat.le_of_ble_eq_true rfl, rfl, fun r hr => (by rcases List.mem_cons.1 hr with rfl | hr; exact trivial; exact (by cases hr)), fun _ _ _ hn h => e_tumbrelref29_Table_Unlock hn h⟩
def row_thread_Table_in : FnRow := ⟨30, 20, [(.tmp 4)], m_thread_Table_in⟩
theorem row_thread_Table_in_ok : row_thread_Table_in.Ok Try.prog := ⟨(by kernel_rfl : callable Try.prog 30 = true), Try.f30, Nat.le_of_ble_eq_true rfl, rfl, fun r hr => (by rcases List.mem_cons.1 hr with rfl | hr; exact trivial; exact (by cases hr)), fun _ _ _ hn h => e_thread_Table_in hn h⟩
def row_thread_Table_of : FnRow := ⟨31, 21, [(.cell 4 67 4)], m_thread_Table_of⟩
theorem row_thread_Table_of_ok : row_thread_Table_of.Ok Try.prog := ⟨(by kernel_rfl : callable Try.prog 31 = true), Try.f31, Nat.le_of_ble_eq_true rfl, rfl, fun r hr => (by rcases List.mem_cons.1 hr with rfl | hr; exact (by show aggT Try.prog 67 = some 4; kernel_rfl); exact (by cases hr)), fun _ _ _ hn h => e_thread_Table_of hn h⟩
def row_thread_Table_runs : FnRow := ⟨32, 14, [(.tmp 4)], m_thread_Table_runs⟩
theorem row_thread_Table_runs_ok : row_thread_Table_runs.Ok Try.prog := ⟨(by kernel_rfl : callable Try.prog 32 = true), Try.f32, Nat.le_of_ble_eq_true rfl, rfl, fun r hr => (by rcases List.mem_cons.1 hr with rfl | hr; exact trivial; exact (by cases hr)), fun _ _ _ hn h => e_thread_Table_runs hn h⟩
def row_tumbrelref29_Table_over : FnRow := ⟨33, 34, [(.tmp 6)], m_tumbrelref29_Table_over⟩
theorem row_tumbrelref29_Table_over_ok : row_tumbrelref29_Table_over.Ok Try.prog := ⟨(by kernel_rfl : callable Try.prog 33 = true), Try.f33, Nat.le_of_ble_eq_true rfl, rfl, fun r hr => (by rcases List.mem_cons.1 hr with rfl | hr; exact trivial; exact (by cases hr)), fun _ _ _ hn h => e_tumbrelref29_Table_over hn h⟩
def row_tumbrelref29_Table_State : FnRow := ⟨34, 24, [(.tmp 4)], m_tumbrelref29_Table_State⟩
theorem row_tumbrelref29_Table_State_ok : row_tumbrelref29_Table_State.Ok Try.prog := ⟨(by kernel_rfl : callable Try.prog 34 = true), Try.f34, Nat.le_of_ble_eq_true rfl, rfl, fun r hr => (by rcases List.mem_cons.1 hr with rfl | hr; exact trivial; exact (by cases hr)), fun _ _ _ hn h => e_tumbrelref29_Table_State hn h⟩
def row_tumbrelref29_Table_set : FnRow := ⟨35, 21, [], m_tumbrelref29_Table_set⟩
theorem row_tumbrelref29_Table_set_ok : row_tumbrelref29_Table_set.Ok Try.prog := ⟨(by kernel_rfl : callable Try.prog 35 = true), Try.f35, Nat.le_of_ble_eq_true rfl, rfl, fun r hr => (by cases hr), fun _ _ _ hn h => e_tumbrelref29_Table_set hn h⟩
def rows : List FnRow := [row_tumbrellaw29_ThreadKeeps, row_tumbrellaw29_ThreadPlays, row_tumbrellaw29_ThreadNil, row_thread_New, row_tumbrelref29_New, row_tumbrellaw29_step, row_thread_Table_Holder, row_thread_Table_Exit, row_thread_Table_State, row_tumbrellaw28_Plain, row_thread_Table_Trap, row_tumbrellaw29_awake, row_tumbrellaw29_same, row_thread_Table_Spawn, row_thread_Table_End, row_thread_Table_Kill, row_thread_Table_Len, row_thread_Table_Lock, row_thread_Table_Unlock, row_thread_Table_Over, row_tumbrelref29_within, row_tumbrelref29_Table_Spawn, row_tumbrellaw28_Ours, row_tumbrelref29_Table_End, row_tumbrelref29_Table_Kill, row_tumbrelref29_Table_Lock, row_tumbrelref29_Table_Unlock, row_thread_Table_in, row_thread_Table_of, row_thread_Table_runs, row_tumbrelref29_Table_over, row_tumbrelref29_Table_State, row_tumbrelref29_Table_set]
theorem rows_ok : ∀ x ∈ rows, x.Ok Try.prog := by
  refine List.forall_mem_cons.2 ⟨row_tumbrellaw29_ThreadKeeps_ok, ?_⟩
  refine List.forall_mem_cons.2 ⟨row_tumbrellaw29_ThreadPlays_ok, ?_⟩
  refine List.forall_mem_cons.2 ⟨row_tumbrellaw29_ThreadNil_ok, ?_⟩
  refine List.forall_mem_cons.2 ⟨row_thread_New_ok, ?_⟩
  refine List.forall_mem_cons.2 ⟨row_tumbrelref29_New_ok, ?_⟩
  refine List.forall_mem_cons.2 ⟨row_tumbrellaw29_step_ok, ?_⟩
  refine List.forall_mem_cons.2 ⟨row_thread_Table_Holder_ok, ?_⟩
  refine List.forall_mem_cons.2 ⟨row_thread_Table_Exit_ok, ?_⟩
  refine List.forall_mem_cons.2 ⟨row_thread_Table_State_ok, ?_⟩
  refine List.forall_mem_cons.2 ⟨row_tumbrellaw28_Plain_ok, ?_⟩
  refine List.forall_mem_cons.2 ⟨row_thread_Table_Trap_ok, ?_⟩
  refine List.forall_mem_cons.2 ⟨row_tumbrellaw29_awake_ok, ?_⟩
  refine List.forall_mem_cons.2 ⟨row_tumbrellaw29_same_ok, ?_⟩
  refine List.forall_mem_cons.2 ⟨row_thread_Table_Spawn_ok, ?_⟩
  refine List.forall_mem_cons.2 ⟨row_thread_Table_End_ok, ?_⟩
  refine List.forall_mem_cons.2 ⟨row_thread_Table_Kill_ok, ?_⟩
  refine List.forall_mem_cons.2 ⟨row_thread_Table_Len_ok, ?_⟩
  refine List.forall_mem_cons.2 ⟨row_thread_Table_Lock_ok, ?_⟩
  refine List.forall_mem_cons.2 ⟨row_thread_Table_Unlock_ok, ?_⟩
  refine List.forall_mem_cons.2 ⟨row_thread_Table_Over_ok, ?_⟩
  refine List.forall_mem_cons.2 ⟨row_tumbrelref29_within_ok, ?_⟩
  refine List.forall_mem_cons.2 ⟨row_tumbrelref29_Table_Spawn_ok, ?_⟩
  refine List.forall_mem_cons.2 ⟨row_tumbrellaw28_Ours_ok, ?_⟩
  refine List.forall_mem_cons.2 ⟨row_tumbrelref29_Table_End_ok, ?_⟩
  refine List.forall_mem_cons.2 ⟨row_tumbrelref29_Table_Kill_ok, ?_⟩
  refine List.forall_mem_cons.2 ⟨row_tumbrelref29_Table_Lock_ok, ?_⟩
  refine List.forall_mem_cons.2 ⟨row_tumbrelref29_Table_Unlock_ok, ?_⟩
  refine List.forall_mem_cons.2 ⟨row_thread_Table_in_ok, ?_⟩
  refine List.forall_mem_cons.2 ⟨row_thread_Table_of_ok, ?_⟩
  refine List.forall_mem_cons.2 ⟨row_thread_Table_runs_ok, ?_⟩
  refine List.forall_mem_cons.2 ⟨row_tumbrelref29_Table_over_ok, ?_⟩
  refine List.forall_mem_cons.2 ⟨row_tumbrelref29_Table_State_ok, ?_⟩
  refine List.forall_mem_cons.2 ⟨row_tumbrelref29_Table_set_ok, ?_⟩
  exact fun x hx => by cases hx
end Go.Proofs.Ytcchfefbolmlbaa
