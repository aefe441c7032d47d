/- The table of the functions of this set, for runs by reckoning. Printed by a program of this repo (wip/tools/gencode.py). -/
import Derived.Test.YtgfkadmpakgmeaaCode
import Derived.Test.YtgfkadmpakgmeaaRunIter
namespace Go.Proofs.Ytgfkadmpakgmeaa
open Go Go.Tum

def row_tumbrellaw12_RemoteOrder : FnRow := ⟨3, 139, [(.tmp 4)], m_tumbrellaw12_RemoteOrder⟩
theorem row_tumbrellaw12_RemoteOrder_ok : row_tumbrellaw12_RemoteOrder.Ok Try.prog := ⟨(by kernel_rfl : callable Try.prog 3 = true), Try.f3, Nat.le_of_ble_eq_true rfl, rfl, fun r hr => (by rcases List.mem_cons.1 hr with rfl | hr; exact trivial; exact (by cases hr)), fun _ _ _ hn h => e_tumbrellaw12_RemoteOrder hn h⟩
def row_tumbrellaw12_RemoteCounts : FnRow := ⟨4, 96, [(.tmp 6)], m_tumbrellaw12_RemoteCounts⟩
theorem row_tumbrellaw12_RemoteCounts_ok : row_tumbrellaw12_RemoteCounts.Ok Try.prog := ⟨(by kernel_rfl : callable Try.prog 4 = true), Try.f4, Nat.le_of_ble_eq_true rfl, rfl, fun r hr => (by rcases List.mem_cons.1 hr with rfl | hr; exact trivial; exact (by cases hr)), fun _ _ _ hn h => e_tumbrellaw12_RemoteCounts hn h⟩
def row_tumbrellaw12_RemotePlays : FnRow := ⟨5, 104, [(.tmp 6)], m_tumbrellaw12_RemotePlays⟩
theorem row_tumbrellaw12_RemotePlays_ok : row_tumbrellaw12_RemotePlays.Ok Try.prog := ⟨(by kernel_rfl : callable Try.prog 5 = true), Try.f5, Nat.le_of_ble_eq_true rfl, rfl, fun r hr => (by rcases List.mem_cons.1 hr with rfl | hr; exact trivial; exact (by cases hr)), fun _ _ _ hn h => e_tumbrellaw12_RemotePlays hn h⟩
def row_tumbrellaw12_RemoteNil : FnRow := ⟨6, 55, [(.tmp 4)], m_tumbrellaw12_RemoteNil⟩
theorem row_tumbrellaw12_RemoteNil_ok : row_tumbrellaw12_RemoteNil.Ok Try.prog := ⟨(by kernel_rfl : callable Try.prog 6 = true), Try.f6, Nat.le_of_ble_eq_true rfl, rfl, fun r hr => (by rcases List.mem_cons.1 hr with rfl | hr; exact trivial; exact (by cases hr)), fun _ _ _ hn h => e_tumbrellaw12_RemoteNil hn h⟩
def row_remote_New : FnRow := ⟨7, 17, [(.tmp 4)], m_remote_New⟩
theorem row_remote_New_ok : row_remote_New.Ok Try.prog := ⟨(by kernel_rfl : callable Try.prog 7 = true), Try.f7, Nat.le_of_ble_eq_true rfl, rfl, fun r hr => (by rcases List.mem_cons.1 hr with rfl | hr; exact trivial; exact (by cases hr)), fun _ _ _ hn h => e_remote_New hn h⟩
def row_remote_Mail_Post : FnRow := ⟨8, 58, [(.tmp 8)], m_remote_Mail_Post⟩
theorem row_remote_Mail_Post_ok : row_remote_Mail_Post.Ok Try.prog := ⟨(by kernel_rfl : callable Try.prog 8 = true), Try.f8, Nat.le_of_ble_eq_true rfl, rfl, fun r hr => (by rcases List.mem_cons.1 hr with rfl | hr; exact trivial; exact (by cases hr)), fun _ _ _ hn h => e_remote_Mail_Post hn h⟩
def row_remote_Mail_Send : FnRow := ⟨9, 28, [(.tmp 4)], m_remote_Mail_Send⟩
theorem row_remote_Mail_Send_ok : row_remote_Mail_Send.Ok Try.prog := ⟨(by kernel_rfl : callable Try.prog 9 = true), Try.f9, Nat.le_of_ble_eq_true rfl, rfl, fun r hr => (by rcases List.mem_cons.1 hr with rfl | hr; exact trivial; exact (by cases hr)), fun _ _ _ hn h => e_remote_Mail_Send hn h⟩
def row_remote_Mail_Next : FnRow := ⟨10, 35, [(.tmp 4), (.tmp 5)], m_remote_Mail_Next⟩
theorem row_remote_Mail_Next_ok : row_remote_Mail_Next.Ok Try.prog := ⟨(by kernel_rfl : callable Try.prog 10 = true), Try.f10, Nat.le_of_ble_eq_true rfl, rfl, fun r hr => (by rcases List.mem_cons.1 hr with rfl | hr; exact trivial; exact (by rcases List.mem_cons.1 hr with rfl | hr; exact trivial; exact (by cases hr))), fun _ _ _ hn h => e_remote_Mail_Next hn h⟩
def row_remote_Mail_All : FnRow := ⟨11, 45, [(.tmp 2)], m_remote_Mail_All⟩
theorem row_remote_Mail_All_ok : row_remote_Mail_All.Ok Try.prog := ⟨(by kernel_rfl : callable Try.prog 11 = true), Try.f11, Nat.le_of_ble_eq_true rfl, rfl, fun r hr => (by rcases List.mem_cons.1 hr with rfl | hr; exact trivial; exact (by cases hr)), fun _ _ _ hn h => e_remote_Mail_All hn h⟩
def row_tumbrellaw12_awake : FnRow := ⟨12, 39, [(.tmp 0)], m_tumbrellaw12_awake⟩
theorem row_tumbrellaw12_awake_ok : row_tumbrellaw12_awake.Ok Try.prog := ⟨(by kernel_rfl : callable Try.prog 12 = true), Try.f12, Nat.le_of_ble_eq_true rfl, rfl, fun r hr => (by rcases List.mem_cons.1 hr with rfl | hr; exact trivial; exact (by cases hr)), fun _ _ _ hn h => e_tumbrellaw12_awake hn h⟩
def row_remote_Mail_Waits : FnRow := ⟨13, 17, [(.tmp 4)], m_remote_Mail_Waits⟩
theorem row_remote_Mail_Waits_ok : row_remote_Mail_Waits.Ok Try.prog := ⟨(by kernel_rfl : callable Try.prog 13 = true), Try.f13, Nat.le_of_ble_eq_true rfl, rfl, fun r hr => (by rcases List.mem_cons.1 hr with rfl | hr; exact trivial; exact (by cases hr)), fun _ _ _ hn h => e_remote_Mail_Waits hn h⟩
def row_remote_Mail_Held : FnRow := ⟨14, 32, [(.tmp 4)], m_remote_Mail_Held⟩
theorem row_remote_Mail_Held_ok : row_remote_Mail_Held.Ok Try.prog := ⟨(by kernel_rfl : callable Try.prog 14 = true), Try.f14, Nat.le_of_ble_eq_true rfl, rfl, fun r hr => (by rcases List.mem_cons.1 hr with rfl | hr; exact trivial; exact (by cases hr)), fun _ _ _ hn h => e_remote_Mail_Held hn h⟩
def row_tumbrelref12_New : FnRow := ⟨15, 17, [(.tmp 4)], m_tumbrelref12_New⟩
theorem row_tumbrelref12_New_ok : row_tumbrelref12_New.Ok Try.prog := ⟨(by kernel_rfl : callable Try.prog 15 = true), Try.f15, Nat.le_of_ble_eq_true rfl, rfl, fun r hr => (by rcases List.mem_cons.1 hr with rfl | hr; exact trivial; exact (by cases hr)), fun _ _ _ hn h => e_tumbrelref12_New hn h⟩
def row_tumbrelref12_Mail_Post : FnRow := ⟨16, 52, [(.tmp 8)], m_tumbrelref12_Mail_Post⟩
theorem row_tumbrelref12_Mail_Post_ok : row_tumbrelref12_Mail_Post.Ok Try.prog := ⟨(by kernel_rfl : callable Try.prog 16 = true), Try.f16, Nat.le_of_ble_eq_true rfl, rfl, fun r hr => (by rcases List.mem_cons.1 hr with rfl | hr; exact trivial; exact (by cases hr)), fun _ _ _ hn h => e_tumbrelref12_Mail_Post hn h⟩
def row_tumbrelref12_Mail_Send : FnRow := ⟨17, 22, [(.tmp 4)], m_tumbrelref12_Mail_Send⟩
theorem row_tumbrelref12_Mail_Send_ok : row_tumbrelref12_Mail_Send.Ok Try.prog := ⟨(by kernel_rfl : callable Try.prog 17 = true), Try.f17, Nat.le_of_ble_eq_true rfl, rfl, fun r hr => (by rcases List.mem_cons.1 hr with rfl | hr; exact trivial; exact (by cases hr)), fun _ _ _ hn h => e_tumbrelref12_Mail_Send hn h⟩
def row_tumbrelref12_Mail_Next : FnRow := ⟨18, 41, [(.tmp 4), (.tmp 5)], m_tumbrelref12_Mail_Next⟩
theorem row_tumbrelref12_Mail_Next_ok : row_tumbrelref12_Mail_Next.Ok Try.prog := ⟨(by kernel_rfl : callable Try.prog 18 = true), Try.f18, Nat.le_of_ble_eq_true rfl, rfl, fun r hr => (by rcases List.mem_cons.1 hr with rfl | hr; exact trivial; exact (by rcases List.mem_cons.1 hr with rfl | hr; exact trivial; exact (by cases hr))), fun _ _ _ hn h => e_tumbrelref12_Mail_Next hn h⟩
def row_tumbrellaw12_Same : FnRow := ⟨19, 64, [(.tmp 4)], m_tumbrellaw12_Same⟩
theorem row_tumbrellaw12_Same_ok : row_tumbrellaw12_Same.Ok Try.prog := ⟨(by kernel_rfl : callable Try.prog 19 = true), Try.f19, Nat.le_of_ble_eq_true rfl, rfl, fun r hr => (by rcases List.mem_cons.1 hr with rfl | hr; exact trivial; exact (by cases hr)), fun _ _ _ hn h => e_tumbrellaw12_Same hn h⟩
def row_remote_Mail_Threads : FnRow := ⟨20, 9, [(.tmp 2)], m_remote_Mail_Threads⟩
theorem row_remote_Mail_Threads_ok : row_remote_Mail_Threads.Ok Try.prog := ⟨(by kernel_rfl : callable Try.prog 20 = true), Try.f20, Nat.le_of_ble_eq_true rfl, rfl, fun r hr => (by rcases List.mem_cons.1 hr with rfl | hr; exact trivial; exact (by cases hr)), fun _ _ _ hn h => e_remote_Mail_Threads hn h⟩
def row_remote_Mail_in : FnRow := ⟨21, 19, [(.tmp 4)], m_remote_Mail_in⟩
theorem row_remote_Mail_in_ok : row_remote_Mail_in.Ok Try.prog := ⟨(by kernel_rfl : callable Try.prog 21 = true), Try.f21, Nat.le_of_ble_eq_true rfl, rfl, fun r hr => (by rcases List.mem_cons.1 hr with rfl | hr; exact trivial; exact (by cases hr)), fun _ _ _ hn h => e_remote_Mail_in hn h⟩
def row_remote_Mail_pass : FnRow := ⟨22, 36, [(.tmp 4)], m_remote_Mail_pass⟩
theorem row_remote_Mail_pass_ok : row_remote_Mail_pass.Ok Try.prog := ⟨(by kernel_rfl : callable Try.prog 22 = true), Try.f22, Nat.le_of_ble_eq_true rfl, rfl, fun r hr => (by rcases List.mem_cons.1 hr with rfl | hr; exact trivial; exact (by cases hr)), fun _ _ _ hn h => e_remote_Mail_pass hn h⟩
def row_tumbrelref12_Mail_In : FnRow := ⟨23, 15, [(.tmp 4)], m_tumbrelref12_Mail_In⟩
theorem row_tumbrelref12_Mail_In_ok : row_tumbrelref12_Mail_In.Ok Try.prog := ⟨(by kernel_rfl : callable Try.prog 23 = true), Try.f23, Nat.le_of_ble_eq_true rfl, rfl, fun r hr => (by rcases List.mem_cons.1 hr with rfl | hr; exact trivial; exact (by cases hr)), fun _ _ _ hn h => e_tumbrelref12_Mail_In hn h⟩
def row_tumbrelref12_Mail_Held : FnRow := ⟨24, 42, [(.tmp 6)], m_tumbrelref12_Mail_Held⟩
theorem row_tumbrelref12_Mail_Held_ok : row_tumbrelref12_Mail_Held.Ok Try.prog := ⟨(by kernel_rfl : callable Try.prog 24 = true), Try.f24, Nat.le_of_ble_eq_true rfl, rfl, fun r hr => (by rcases List.mem_cons.1 hr with rfl | hr; exact trivial; exact (by cases hr)), fun _ _ _ hn h => e_tumbrelref12_Mail_Held hn h⟩
def row_tumbrelref12_Mail_pass : FnRow := ⟨25, 59, [(.tmp 6)], m_tumbrelref12_Mail_pass⟩
theorem row_tumbrelref12_Mail_pass_ok : row_tumbrelref12_Mail_pass.Ok Try.prog := ⟨(by kernel_rfl : callable Try.prog 25 = true), Try.f25, Nat.le_of_ble_eq_true rfl, rfl, fun r hr => (by rcases List.mem_cons.1 hr with rfl | hr; exact trivial; exact (by cases hr)), fun _ _ _ hn h => e_tumbrelref12_Mail_pass hn h⟩
def row_tumbrelref12_Mail_first : FnRow := ⟨26, 47, [(.tmp 4)], m_tumbrelref12_Mail_first⟩
theorem row_tumbrelref12_Mail_first_ok : row_tumbrelref12_Mail_first.Ok Try.prog := ⟨(by kernel_rfl : callable Try.prog 26 = true), Try.f26, Nat.le_of_ble_eq_true rfl, rfl, fun r hr => (by rcases List.mem_cons.1 hr with rfl | hr; exact trivial; exact (by cases hr)), fun _ _ _ hn h => e_tumbrelref12_Mail_first hn h⟩
def row_tumbrelref12_Mail_Waits : FnRow := ⟨27, 30, [(.tmp 4)], m_tumbrelref12_Mail_Waits⟩
theorem row_tumbrelref12_Mail_Waits_ok : row_tumbrelref12_Mail_Waits.Ok Try.prog := ⟨(by kernel_rfl : callable Try.prog 27 = true), Try.f27, Nat.le_of_ble_eq_true rfl, rfl, fun r hr => (by rcases List.mem_cons.1 hr with rfl | hr; exact trivial; exact (by cases hr)), fun _ _ _ hn h => e_tumbrelref12_Mail_Waits hn h⟩
def row_tumbrelref12_Mail_All : FnRow := ⟨28, 91, [(.tmp 2)], m_tumbrelref12_Mail_All⟩
theorem row_tumbrelref12_Mail_All_ok : row_tumbrelref12_Mail_All.Ok Try.prog := ⟨(by kernel_rfl : callable Try.prog 28 = true), Try.f28, Nat.le_of_ble_eq_true rfl, rfl, fun r hr => (by rcases List.mem_cons.1 hr with rfl | hr; exact trivial; exact (by cases hr)), fun _ _ _ hn h => e_tumbrelref12_Mail_All hn h⟩
def rows : List FnRow := [row_tumbrellaw12_RemoteOrder, row_tumbrellaw12_RemoteCounts, row_tumbrellaw12_RemotePlays, row_tumbrellaw12_RemoteNil, row_remote_New, row_remote_Mail_Post, row_remote_Mail_Send, row_remote_Mail_Next, row_remote_Mail_All, row_tumbrellaw12_awake, row_remote_Mail_Waits, row_remote_Mail_Held, row_tumbrelref12_New, row_tumbrelref12_Mail_Post, row_tumbrelref12_Mail_Send, row_tumbrelref12_Mail_Next, row_tumbrellaw12_Same, row_remote_Mail_Threads, row_remote_Mail_in, row_remote_Mail_pass, row_tumbrelref12_Mail_In, row_tumbrelref12_Mail_Held, row_tumbrelref12_Mail_pass, row_tumbrelref12_Mail_first, row_tumbrelref12_Mail_Waits, row_tumbrelref12_Mail_All]
theorem rows_ok : ∀ x ∈ rows, x.Ok Try.prog := by
  refine List.forall_mem_cons.2 ⟨row_tumbrellaw12_RemoteOrder_ok, ?_⟩
  refine List.forall_mem_cons.2 ⟨row_tumbrellaw12_RemoteCounts_ok, ?_⟩
  refine List.forall_mem_cons.2 ⟨row_tumbrellaw12_RemotePlays_ok, ?_⟩
  refine List.forall_mem_cons.2 ⟨row_tumbrellaw12_RemoteNil_ok, ?_⟩
  refine List.forall_mem_cons.2 ⟨row_remote_New_ok, ?_⟩
  refine List.forall_mem_cons.2 ⟨row_remote_Mail_Post_ok, ?_⟩
  refine List.forall_mem_cons.2 ⟨row_remote_Mail_Send_ok, ?_⟩
  refine List.forall_mem_cons.2 ⟨row_remote_Mail_Next_ok, ?_⟩
  refine List.forall_mem_cons.2 ⟨row_remote_Mail_All_ok, ?_⟩
  refine List.forall_mem_cons.2 ⟨row_tumbrellaw12_awake_ok, ?_⟩
  refine List.forall_mem_cons.2 ⟨row_remote_Mail_Waits_ok, ?_⟩
  refine List.forall_mem_cons.2 ⟨row_remote_Mail_Held_ok, ?_⟩
  refine List.forall_mem_cons.2 ⟨row_tumbrelref12_New_ok, ?_⟩
  refine List.forall_mem_cons.2 ⟨row_tumbrelref12_Mail_Post_ok, ?_⟩
  refine List.forall_mem_cons.2 ⟨row_tumbrelref12_Mail_Send_ok, ?_⟩
  refine List.forall_mem_cons.2 ⟨row_tumbrelref12_Mail_Next_ok, ?_⟩
  refine List.forall_mem_cons.2 ⟨row_tumbrellaw12_Same_ok, ?_⟩
  refine List.forall_mem_cons.2 ⟨row_remote_Mail_Threads_ok, ?_⟩
  refine List.forall_mem_cons.2 ⟨row_remote_Mail_in_ok, ?_⟩
  refine List.forall_mem_cons.2 ⟨row_remote_Mail_pass_ok, ?_⟩
  refine List.forall_mem_cons.2 ⟨row_tumbrelref12_Mail_In_ok, ?_⟩
  refine List.forall_mem_cons.2 ⟨row_tumbrelref12_Mail_Held_ok, ?_⟩
  refine List.forall_mem_cons.2 ⟨row_tumbrelref12_Mail_pass_ok, ?_⟩
  refine List.forall_mem_cons.2 ⟨row_tumbrelref12_Mail_first_ok, ?_⟩
  refine List.forall_mem_cons.2 ⟨row_tumbrelref12_Mail_Waits_ok, ?_⟩
  refine List.forall_mem_cons.2 ⟨row_tumbrelref12_Mail_All_ok, ?_⟩
  exact fun x hx => by cases hx
end Go.Proofs.Ytgfkadmpakgmeaa
