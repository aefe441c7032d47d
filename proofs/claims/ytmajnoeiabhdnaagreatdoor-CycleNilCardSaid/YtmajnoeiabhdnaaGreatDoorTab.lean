/- The table of the functions of this set, for runs by reckoning. Printed by a program of this repo (wip/tools/gencode.py). -/
import Derived.Test.YtmajnoeiabhdnaaGreatDoorCode
import Derived.Test.YtmajnoeiabhdnaaGreatDoorRunIter
namespace Go.Proofs.YtmajnoeiabhdnaaGreatDoor
open Go Go.Tum

def row_tumbrellaw22_CycleNil : FnRow := ⟨3, 92, [(.tmp 4)], m_tumbrellaw22_CycleNil⟩
theorem row_tumbrellaw22_CycleNil_ok : row_tumbrellaw22_CycleNil.Ok Tryz.prog := ⟨(by kernel_rfl : callable Tryz.prog 3 = true), Tryz.f3, Nat.le_of_ble_eq_true rfl, rfl, fun r hr => (by rcases List.mem_cons.1 hr with rfl | hr; exact trivial; exact (by cases hr)), fun _ _ _ hn h => e_tumbrellaw22_CycleNil hn h⟩
def row_cycle_New : FnRow := ⟨4, 14, [(.tmp 4)], m_cycle_New⟩
theorem row_cycle_New_ok : row_cycle_New.Ok Tryz.prog := ⟨(by kernel_rfl : callable Tryz.prog 4 = true), Tryz.f4, Nat.le_of_ble_eq_true rfl, rfl, fun r hr => (by rcases List.mem_cons.1 hr with rfl | hr; exact trivial; exact (by cases hr)), fun _ _ _ hn h => e_cycle_New hn h⟩
def row_tumbrellaw18_Make : FnRow := ⟨5, 29, [(.tmp 4)], m_tumbrellaw18_Make⟩
theorem row_tumbrellaw18_Make_ok : row_tumbrellaw18_Make.Ok Tryz.prog := ⟨(by kernel_rfl : callable Tryz.prog 5 = true), Tryz.f5, Nat.le_of_ble_eq_true rfl, rfl, fun r hr => (by rcases List.mem_cons.1 hr with rfl | hr; exact trivial; exact (by cases hr)), fun _ _ _ hn h => e_tumbrellaw18_Make hn h⟩
def row_cycle_Cycle_Step : FnRow := ⟨6, 20, [(.tmp 2)], m_cycle_Cycle_Step⟩
theorem row_cycle_Cycle_Step_ok : row_cycle_Cycle_Step.Ok Tryz.prog := ⟨(by kernel_rfl : callable Tryz.prog 6 = true), Tryz.f6, Nat.le_of_ble_eq_true rfl, rfl, fun r hr => (by rcases List.mem_cons.1 hr with rfl | hr; exact trivial; exact (by cases hr)), fun _ _ _ hn h => e_cycle_Cycle_Step hn h⟩
def row_cycle_Cycle_Request : FnRow := ⟨7, 13, [(.tmp 2)], m_cycle_Cycle_Request⟩
theorem row_cycle_Cycle_Request_ok : row_cycle_Cycle_Request.Ok Tryz.prog := ⟨(by kernel_rfl : callable Tryz.prog 7 = true), Tryz.f7, Nat.le_of_ble_eq_true rfl, rfl, fun r hr => (by rcases List.mem_cons.1 hr with rfl | hr; exact trivial; exact (by cases hr)), fun _ _ _ hn h => e_cycle_Cycle_Request hn h⟩
def row_cycle_Cycle_Stop : FnRow := ⟨8, 39, [(.tmp 6)], m_cycle_Cycle_Stop⟩
theorem row_cycle_Cycle_Stop_ok : row_cycle_Cycle_Stop.Ok Tryz.prog := ⟨(by kernel_rfl : callable Tryz.prog 8 = true), Tryz.f8, Nat.le_of_ble_eq_true rfl, rfl, fun r hr => (by rcases List.mem_cons.1 hr with rfl | hr; exact trivial; exact (by cases hr)), fun _ _ _ hn h => e_cycle_Cycle_Stop hn h⟩
def row_cycle_Cycle_Stopped : FnRow := ⟨9, 18, [(.tmp 4)], m_cycle_Cycle_Stopped⟩
theorem row_cycle_Cycle_Stopped_ok : row_cycle_Cycle_Stopped.Ok Tryz.prog := ⟨(by kernel_rfl : callable Tryz.prog 9 = true), Tryz.f9, Nat.le_of_ble_eq_true rfl, rfl, fun r hr => (by rcases List.mem_cons.1 hr with rfl | hr; exact trivial; exact (by cases hr)), fun _ _ _ hn h => e_cycle_Cycle_Stopped hn h⟩
def row_cycle_Cycle_All : FnRow := ⟨10, 13, [(.tmp 2)], m_cycle_Cycle_All⟩
theorem row_cycle_Cycle_All_ok : row_cycle_Cycle_All.Ok Tryz.prog := ⟨(by kernel_rfl : callable Tryz.prog 10 = true), Tryz.f10, Nat.le_of_ble_eq_true rfl, rfl, fun r hr => (by rcases List.mem_cons.1 hr with rfl | hr; exact trivial; exact (by cases hr)), fun _ _ _ hn h => e_cycle_Cycle_All hn h⟩
def row_cycle_Cycle_Phase : FnRow := ⟨11, 9, [(.tmp 2)], m_cycle_Cycle_Phase⟩
theorem row_cycle_Cycle_Phase_ok : row_cycle_Cycle_Phase.Ok Tryz.prog := ⟨(by kernel_rfl : callable Tryz.prog 11 = true), Tryz.f11, Nat.le_of_ble_eq_true rfl, rfl, fun r hr => (by rcases List.mem_cons.1 hr with rfl | hr; exact trivial; exact (by cases hr)), fun _ _ _ hn h => e_cycle_Cycle_Phase hn h⟩
def row_cycle_Cycle_Count : FnRow := ⟨12, 9, [(.tmp 2)], m_cycle_Cycle_Count⟩
theorem row_cycle_Cycle_Count_ok : row_cycle_Cycle_Count.Ok Tryz.prog := ⟨(by kernel_rfl : callable Tryz.prog 12 = true), Tryz.f12, Nat.le_of_ble_eq_true rfl, rfl, fun r hr => (by rcases List.mem_cons.1 hr with rfl | hr; exact trivial; exact (by cases hr)), fun _ _ _ hn h => e_cycle_Cycle_Count hn h⟩
def row_cycle_Cycle_Gone : FnRow := ⟨13, 9, [(.tmp 2)], m_cycle_Cycle_Gone⟩
theorem row_cycle_Cycle_Gone_ok : row_cycle_Cycle_Gone.Ok Tryz.prog := ⟨(by kernel_rfl : callable Tryz.prog 13 = true), Tryz.f13, Nat.le_of_ble_eq_true rfl, rfl, fun r hr => (by rcases List.mem_cons.1 hr with rfl | hr; exact trivial; exact (by cases hr)), fun _ _ _ hn h => e_cycle_Cycle_Gone hn h⟩
def row_tumbrellaw22_awake : FnRow := ⟨14, 60, [(.tmp 0)], m_tumbrellaw22_awake⟩
theorem row_tumbrellaw22_awake_ok : row_tumbrellaw22_awake.Ok Tryz.prog := ⟨(by kernel_rfl : callable Tryz.prog 14 = true), Tryz.f14, Nat.le_of_ble_eq_true rfl, rfl, fun r hr => (by rcases List.mem_cons.1 hr with rfl | hr; exact trivial; exact (by cases hr)), fun _ _ _ hn h => e_tumbrellaw22_awake hn h⟩
def row_region_New : FnRow := ⟨15, 59, [(.tmp 2), (.tmp 3)], m_region_New⟩
theorem row_region_New_ok : row_region_New.Ok Tryz.prog := ⟨(by kernel_rfl : callable Tryz.prog 15 = true), Tryz.f15, Nat.le_of_ble_eq_true rfl, rfl, fun r hr => (by rcases List.mem_cons.1 hr with rfl | hr; exact trivial; exact (by rcases List.mem_cons.1 hr with rfl | hr; exact trivial; exact (by cases hr))), fun _ _ _ hn h => e_region_New hn h⟩
def row_gheap_New : FnRow := ⟨16, 27, [(.tmp 2)], m_gheap_New⟩
theorem row_gheap_New_ok : row_gheap_New.Ok Tryz.prog := ⟨(by kernel_rfl : callable Tryz.prog 16 = true), Tryz.f16, Nat.le_of_ble_eq_true rfl, rfl, fun r hr => (by rcases List.mem_cons.1 hr with rfl | hr; exact trivial; exact (by cases hr)), fun _ _ _ hn h => e_gheap_New hn h⟩
def row_tumbrelref09_New : FnRow := ⟨17, 38, [(.tmp 6)], m_tumbrelref09_New⟩
theorem row_tumbrelref09_New_ok : row_tumbrelref09_New.Ok Tryz.prog := ⟨(by kernel_rfl : callable Tryz.prog 17 = true), Tryz.f17, Nat.le_of_ble_eq_true rfl, rfl, fun r hr => (by rcases List.mem_cons.1 hr with rfl | hr; exact trivial; exact (by cases hr)), fun _ _ _ hn h => e_tumbrelref09_New hn h⟩
def row_cycle_Cycle_begin : FnRow := ⟨18, 30, [], m_cycle_Cycle_begin⟩
theorem row_cycle_Cycle_begin_ok : row_cycle_Cycle_begin.Ok Tryz.prog := ⟨(by kernel_rfl : callable Tryz.prog 18 = true), Tryz.f18, Nat.le_of_ble_eq_true rfl, rfl, fun r hr => (by cases hr), fun _ _ _ hn h => e_cycle_Cycle_begin hn h⟩
def row_cycle_Cycle_root : FnRow := ⟨19, 47, [], m_cycle_Cycle_root⟩
theorem row_cycle_Cycle_root_ok : row_cycle_Cycle_root.Ok Tryz.prog := ⟨(by kernel_rfl : callable Tryz.prog 19 = true), Tryz.f19, Nat.le_of_ble_eq_true rfl, rfl, fun r hr => (by cases hr), fun _ _ _ hn h => e_cycle_Cycle_root hn h⟩
def row_cycle_Cycle_look : FnRow := ⟨20, 24, [], m_cycle_Cycle_look⟩
theorem row_cycle_Cycle_look_ok : row_cycle_Cycle_look.Ok Tryz.prog := ⟨(by kernel_rfl : callable Tryz.prog 20 = true), Tryz.f20, Nat.le_of_ble_eq_true rfl, rfl, fun r hr => (by cases hr), fun _ _ _ hn h => e_cycle_Cycle_look hn h⟩
def row_cycle_Cycle_clean : FnRow := ⟨21, 35, [], m_cycle_Cycle_clean⟩
theorem row_cycle_Cycle_clean_ok : row_cycle_Cycle_clean.Ok Tryz.prog := ⟨(by kernel_rfl : callable Tryz.prog 21 = true), Tryz.f21, Nat.le_of_ble_eq_true rfl, rfl, fun r hr => (by cases hr), fun _ _ _ hn h => e_cycle_Cycle_clean hn h⟩
def row_cycle_Cycle_in : FnRow := ⟨22, 20, [(.tmp 4)], m_cycle_Cycle_in⟩
theorem row_cycle_Cycle_in_ok : row_cycle_Cycle_in.Ok Tryz.prog := ⟨(by kernel_rfl : callable Tryz.prog 22 = true), Tryz.f22, Nat.le_of_ble_eq_true rfl, rfl, fun r hr => (by rcases List.mem_cons.1 hr with rfl | hr; exact trivial; exact (by cases hr)), fun _ _ _ hn h => e_cycle_Cycle_in hn h⟩
def row_slices_Clone_int_int_ : FnRow := ⟨23, 8, [(.tmp 2)], m_slices_Clone_int_int_⟩
theorem row_slices_Clone_int_int__ok : row_slices_Clone_int_int_.Ok Tryz.prog := ⟨(by kernel_rfl : callable Tryz.prog 23 = true), Tryz.f23, Nat.le_of_ble_eq_true rfl, rfl, fun r hr => (by rcases List.mem_cons.1 hr with rfl | hr; exact trivial; exact (by cases hr)), fun _ _ _ hn h => e_slices_Clone_int_int_ hn h⟩
def row_slices_ContainsFunc_cycle_thread_cycle_thread_ : FnRow := ⟨24, 9, [(.tmp 4)], m_slices_ContainsFunc_cycle_thread_cycle_thread_⟩
theorem row_slices_ContainsFunc_cycle_thread_cycle_thread__ok : row_slices_ContainsFunc_cycle_thread_cycle_thread_.Ok Tryz.prog := ⟨(by kernel_rfl : callable Tryz.prog 24 = true), Tryz.f24, Nat.le_of_ble_eq_true rfl, rfl, fun r hr => (by rcases List.mem_cons.1 hr with rfl | hr; exact trivial; exact (by cases hr)), fun _ _ _ hn h => e_slices_ContainsFunc_cycle_thread_cycle_thread_ hn h⟩
def row_cycle_Cycle_All_c1 : FnRow := ⟨25, 6, [(.tmp 2)], m_cycle_Cycle_All_c1⟩
theorem row_cycle_Cycle_All_c1_ok : row_cycle_Cycle_All_c1.Ok Tryz.prog := ⟨(by kernel_rfl : callable Tryz.prog 25 = true), Tryz.f25, Nat.le_of_ble_eq_true rfl, rfl, fun r hr => (by rcases List.mem_cons.1 hr with rfl | hr; exact trivial; exact (by cases hr)), fun _ _ _ hn h => e_cycle_Cycle_All_c1 hn h⟩
def row_gheap_Heap_Alloc : FnRow := ⟨26, 76, [(.tmp 4), (.tmp 5)], m_gheap_Heap_Alloc⟩
theorem row_gheap_Heap_Alloc_ok : row_gheap_Heap_Alloc.Ok Tryz.prog := ⟨(by kernel_rfl : callable Tryz.prog 26 = true), Tryz.f26, Nat.le_of_ble_eq_true rfl, rfl, fun r hr => (by rcases List.mem_cons.1 hr with rfl | hr; exact trivial; exact (by rcases List.mem_cons.1 hr with rfl | hr; exact trivial; exact (by cases hr))), fun _ _ _ hn h => e_gheap_Heap_Alloc hn h⟩
def row_arena_New : FnRow := ⟨27, 10, [(.tmp 2)], m_arena_New⟩
theorem row_arena_New_ok : row_arena_New.Ok Tryz.prog := ⟨(by kernel_rfl : callable Tryz.prog 27 = true), Tryz.f27, Nat.le_of_ble_eq_true rfl, rfl, fun r hr => (by rcases List.mem_cons.1 hr with rfl | hr; exact trivial; exact (by cases hr)), fun _ _ _ hn h => e_arena_New hn h⟩
def row_link_New : FnRow := ⟨28, 7, [(.cell 2 68 1)], m_link_New⟩
theorem row_link_New_ok : row_link_New.Ok Tryz.prog := ⟨(by kernel_rfl : callable Tryz.prog 28 = true), Tryz.f28, Nat.le_of_ble_eq_true rfl, rfl, fun r hr => (by rcases List.mem_cons.1 hr with rfl | hr; exact (by show aggT Tryz.prog 68 = some 1; kernel_rfl); exact (by cases hr)), fun _ _ _ hn h => e_link_New hn h⟩
def row_pages_New : FnRow := ⟨29, 9, [(.tmp 2)], m_pages_New⟩
theorem row_pages_New_ok : row_pages_New.Ok Tryz.prog := ⟨(by kernel_rfl : callable Tryz.prog 29 = true), Tryz.f29, Nat.le_of_ble_eq_true rfl, rfl, fun r hr => (by rcases List.mem_cons.1 hr with rfl | hr; exact trivial; exact (by cases hr)), fun _ _ _ hn h => e_pages_New hn h⟩
def row_large_New : FnRow := ⟨30, 12, [(.tmp 4)], m_large_New⟩
theorem row_large_New_ok : row_large_New.Ok Tryz.prog := ⟨(by kernel_rfl : callable Tryz.prog 30 = true), Tryz.f30, Nat.le_of_ble_eq_true rfl, rfl, fun r hr => (by rcases List.mem_cons.1 hr with rfl | hr; exact trivial; exact (by cases hr)), fun _ _ _ hn h => e_large_New hn h⟩
def row_region_Region_Config : FnRow := ⟨31, 10, [(.cell 2 47 3)], m_region_Region_Config⟩
theorem row_region_Region_Config_ok : row_region_Region_Config.Ok Tryz.prog := ⟨(by kernel_rfl : callable Tryz.prog 31 = true), Tryz.f31, Nat.le_of_ble_eq_true rfl, rfl, fun r hr => (by rcases List.mem_cons.1 hr with rfl | hr; exact (by show aggT Tryz.prog 47 = some 3; kernel_rfl); exact (by cases hr)), fun _ _ _ hn h => e_region_Region_Config hn h⟩
def row_region_Region_Arena : FnRow := ⟨32, 9, [(.tmp 2)], m_region_Region_Arena⟩
theorem row_region_Region_Arena_ok : row_region_Region_Arena.Ok Tryz.prog := ⟨(by kernel_rfl : callable Tryz.prog 32 = true), Tryz.f32, Nat.le_of_ble_eq_true rfl, rfl, fun r hr => (by rcases List.mem_cons.1 hr with rfl | hr; exact trivial; exact (by cases hr)), fun _ _ _ hn h => e_region_Region_Arena hn h⟩
def row_arena_Arena_Len : FnRow := ⟨33, 10, [(.tmp 2)], m_arena_Arena_Len⟩
theorem row_arena_Arena_Len_ok : row_arena_Arena_Len.Ok Tryz.prog := ⟨(by kernel_rfl : callable Tryz.prog 33 = true), Tryz.f33, Nat.le_of_ble_eq_true rfl, rfl, fun r hr => (by rcases List.mem_cons.1 hr with rfl | hr; exact trivial; exact (by cases hr)), fun _ _ _ hn h => e_arena_Arena_Len hn h⟩
def row_bitset_New : FnRow := ⟨34, 14, [(.tmp 2)], m_bitset_New⟩
theorem row_bitset_New_ok : row_bitset_New.Ok Tryz.prog := ⟨(by kernel_rfl : callable Tryz.prog 34 = true), Tryz.f34, Nat.le_of_ble_eq_true rfl, rfl, fun r hr => (by rcases List.mem_cons.1 hr with rfl | hr; exact trivial; exact (by cases hr)), fun _ _ _ hn h => e_bitset_New hn h⟩
def row_tumbrelref06_Key : FnRow := ⟨35, 6, [(.tmp 2)], m_tumbrelref06_Key⟩
theorem row_tumbrelref06_Key_ok : row_tumbrelref06_Key.Ok Tryz.prog := ⟨(by kernel_rfl : callable Tryz.prog 35 = true), Tryz.f35, Nat.le_of_ble_eq_true rfl, rfl, fun r hr => (by rcases List.mem_cons.1 hr with rfl | hr; exact trivial; exact (by cases hr)), fun _ _ _ hn h => e_tumbrelref06_Key hn h⟩
def row_tumbrelref04_New : FnRow := ⟨36, 9, [(.tmp 2)], m_tumbrelref04_New⟩
theorem row_tumbrelref04_New_ok : row_tumbrelref04_New.Ok Tryz.prog := ⟨(by kernel_rfl : callable Tryz.prog 36 = true), Tryz.f36, Nat.le_of_ble_eq_true rfl, rfl, fun r hr => (by rcases List.mem_cons.1 hr with rfl | hr; exact trivial; exact (by cases hr)), fun _ _ _ hn h => e_tumbrelref04_New hn h⟩
def row_gheap_Heap_Unmark : FnRow := ⟨37, 21, [(.tmp 2)], m_gheap_Heap_Unmark⟩
theorem row_gheap_Heap_Unmark_ok : row_gheap_Heap_Unmark.Ok Tryz.prog := ⟨(by kernel_rfl : callable Tryz.prog 37 = true), Tryz.f37, Nat.le_of_ble_eq_true rfl, rfl, fun r hr => (by rcases List.mem_cons.1 hr with rfl | hr; exact trivial; exact (by cases hr)), fun _ _ _ hn h => e_gheap_Heap_Unmark hn h⟩
def row_mark_New : FnRow := ⟨38, 8, [(.tmp 2)], m_mark_New⟩
theorem row_mark_New_ok : row_mark_New.Ok Tryz.prog := ⟨(by kernel_rfl : callable Tryz.prog 38 = true), Tryz.f38, Nat.le_of_ble_eq_true rfl, rfl, fun r hr => (by rcases List.mem_cons.1 hr with rfl | hr; exact trivial; exact (by cases hr)), fun _ _ _ hn h => e_mark_New hn h⟩
def row_mark_Marker_Root : FnRow := ⟨39, 22, [(.tmp 4)], m_mark_Marker_Root⟩
theorem row_mark_Marker_Root_ok : row_mark_Marker_Root.Ok Tryz.prog := ⟨(by kernel_rfl : callable Tryz.prog 39 = true), Tryz.f39, Nat.le_of_ble_eq_true rfl, rfl, fun r hr => (by rcases List.mem_cons.1 hr with rfl | hr; exact trivial; exact (by cases hr)), fun _ _ _ hn h => e_mark_Marker_Root hn h⟩
def row_mark_Marker_Left : FnRow := ⟨40, 10, [(.tmp 2)], m_mark_Marker_Left⟩
theorem row_mark_Marker_Left_ok : row_mark_Marker_Left.Ok Tryz.prog := ⟨(by kernel_rfl : callable Tryz.prog 40 = true), Tryz.f40, Nat.le_of_ble_eq_true rfl, rfl, fun r hr => (by rcases List.mem_cons.1 hr with rfl | hr; exact trivial; exact (by cases hr)), fun _ _ _ hn h => e_mark_Marker_Left hn h⟩
def row_mark_Marker_Step : FnRow := ⟨41, 61, [(.tmp 2)], m_mark_Marker_Step⟩
theorem row_mark_Marker_Step_ok : row_mark_Marker_Step.Ok Tryz.prog := ⟨(by kernel_rfl : callable Tryz.prog 41 = true), Tryz.f41, Nat.le_of_ble_eq_true rfl, rfl, fun r hr => (by rcases List.mem_cons.1 hr with rfl | hr; exact trivial; exact (by cases hr)), fun _ _ _ hn h => e_mark_Marker_Step hn h⟩
def row_sweep_New : FnRow := ⟨42, 10, [(.tmp 2)], m_sweep_New⟩
theorem row_sweep_New_ok : row_sweep_New.Ok Tryz.prog := ⟨(by kernel_rfl : callable Tryz.prog 42 = true), Tryz.f42, Nat.le_of_ble_eq_true rfl, rfl, fun r hr => (by rcases List.mem_cons.1 hr with rfl | hr; exact trivial; exact (by cases hr)), fun _ _ _ hn h => e_sweep_New hn h⟩
def row_sweep_Sweeper_Left : FnRow := ⟨43, 10, [(.tmp 2)], m_sweep_Sweeper_Left⟩
theorem row_sweep_Sweeper_Left_ok : row_sweep_Sweeper_Left.Ok Tryz.prog := ⟨(by kernel_rfl : callable Tryz.prog 43 = true), Tryz.f43, Nat.le_of_ble_eq_true rfl, rfl, fun r hr => (by rcases List.mem_cons.1 hr with rfl | hr; exact trivial; exact (by cases hr)), fun _ _ _ hn h => e_sweep_Sweeper_Left hn h⟩
def row_sweep_Sweeper_Step : FnRow := ⟨44, 50, [(.tmp 2), (.tmp 3)], m_sweep_Sweeper_Step⟩
theorem row_sweep_Sweeper_Step_ok : row_sweep_Sweeper_Step.Ok Tryz.prog := ⟨(by kernel_rfl : callable Tryz.prog 44 = true), Tryz.f44, Nat.le_of_ble_eq_true rfl, rfl, fun r hr => (by rcases List.mem_cons.1 hr with rfl | hr; exact trivial; exact (by rcases List.mem_cons.1 hr with rfl | hr; exact trivial; exact (by cases hr))), fun _ _ _ hn h => e_sweep_Sweeper_Step hn h⟩
def row_sweep_Sweeper_Gone : FnRow := ⟨45, 9, [(.tmp 2)], m_sweep_Sweeper_Gone⟩
theorem row_sweep_Sweeper_Gone_ok : row_sweep_Sweeper_Gone.Ok Tryz.prog := ⟨(by kernel_rfl : callable Tryz.prog 45 = true), Tryz.f45, Nat.le_of_ble_eq_true rfl, rfl, fun r hr => (by rcases List.mem_cons.1 hr with rfl | hr; exact trivial; exact (by cases hr)), fun _ _ _ hn h => e_sweep_Sweeper_Gone hn h⟩
def row_slices_IndexFunc_cycle_thread_cycle_thread_ : FnRow := ⟨46, 19, [(.tmp 4)], m_slices_IndexFunc_cycle_thread_cycle_thread_⟩
theorem row_slices_IndexFunc_cycle_thread_cycle_thread__ok : row_slices_IndexFunc_cycle_thread_cycle_thread_.Ok Tryz.prog := ⟨(by kernel_rfl : callable Tryz.prog 46 = true), Tryz.f46, Nat.le_of_ble_eq_true rfl, rfl, fun r hr => (by rcases List.mem_cons.1 hr with rfl | hr; exact trivial; exact (by cases hr)), fun _ _ _ hn h => e_slices_IndexFunc_cycle_thread_cycle_thread_ hn h⟩
def row_object_Shape_Class : FnRow := ⟨47, 23, [(.tmp 2), (.tmp 3)], m_object_Shape_Class⟩
theorem row_object_Shape_Class_ok : row_object_Shape_Class.Ok Tryz.prog := ⟨(by kernel_rfl : callable Tryz.prog 47 = true), Tryz.f47, Nat.le_of_ble_eq_true rfl, rfl, fun r hr => (by rcases List.mem_cons.1 hr with rfl | hr; exact trivial; exact (by rcases List.mem_cons.1 hr with rfl | hr; exact trivial; exact (by cases hr))), fun _ _ _ hn h => e_object_Shape_Class hn h⟩
def row_gheap_Heap_place : FnRow := ⟨48, 40, [(.tmp 4), (.tmp 5)], m_gheap_Heap_place⟩
theorem row_gheap_Heap_place_ok : row_gheap_Heap_place.Ok Tryz.prog := ⟨(by kernel_rfl : callable Tryz.prog 48 = true), Tryz.f48, Nat.le_of_ble_eq_true rfl, rfl, fun r hr => (by rcases List.mem_cons.1 hr with rfl | hr; exact trivial; exact (by rcases List.mem_cons.1 hr with rfl | hr; exact trivial; exact (by cases hr))), fun _ _ _ hn h => e_gheap_Heap_place hn h⟩
def row_region_Region_Pages : FnRow := ⟨49, 9, [(.tmp 2)], m_region_Region_Pages⟩
theorem row_region_Region_Pages_ok : row_region_Region_Pages.Ok Tryz.prog := ⟨(by kernel_rfl : callable Tryz.prog 49 = true), Tryz.f49, Nat.le_of_ble_eq_true rfl, rfl, fun r hr => (by rcases List.mem_cons.1 hr with rfl | hr; exact trivial; exact (by cases hr)), fun _ _ _ hn h => e_region_Region_Pages hn h⟩
def row_pages_Table_Map : FnRow := ⟨50, 73, [(.tmp 8), (.tmp 9)], m_pages_Table_Map⟩
theorem row_pages_Table_Map_ok : row_pages_Table_Map.Ok Tryz.prog := ⟨(by kernel_rfl : callable Tryz.prog 50 = true), Tryz.f50, Nat.le_of_ble_eq_true rfl, rfl, fun r hr => (by rcases List.mem_cons.1 hr with rfl | hr; exact trivial; exact (by rcases List.mem_cons.1 hr with rfl | hr; exact trivial; exact (by cases hr))), fun _ _ _ hn h => e_pages_Table_Map hn h⟩
def row_class_Base : FnRow := ⟨51, 30, [(.tmp 6)], m_class_Base⟩
theorem row_class_Base_ok : row_class_Base.Ok Tryz.prog := ⟨(by kernel_rfl : callable Tryz.prog 51 = true), Tryz.f51, Nat.le_of_ble_eq_true rfl, rfl, fun r hr => (by rcases List.mem_cons.1 hr with rfl | hr; exact trivial; exact (by cases hr)), fun _ _ _ hn h => e_class_Base hn h⟩
def row_object_Make : FnRow := ⟨52, 42, [(.tmp 6)], m_object_Make⟩
theorem row_object_Make_ok : row_object_Make.Ok Tryz.prog := ⟨(by kernel_rfl : callable Tryz.prog 52 = true), Tryz.f52, Nat.le_of_ble_eq_true rfl, rfl, fun r hr => (by rcases List.mem_cons.1 hr with rfl | hr; exact trivial; exact (by cases hr)), fun _ _ _ hn h => e_object_Make hn h⟩
def row_bitset_Set_Put : FnRow := ⟨53, 43, [(.tmp 6)], m_bitset_Set_Put⟩
theorem row_bitset_Set_Put_ok : row_bitset_Set_Put.Ok Tryz.prog := ⟨(by kernel_rfl : callable Tryz.prog 53 = true), Tryz.f53, Nat.le_of_ble_eq_true rfl, rfl, fun r hr => (by rcases List.mem_cons.1 hr with rfl | hr; exact trivial; exact (by cases hr)), fun _ _ _ hn h => e_bitset_Set_Put hn h⟩
def row_link_mix : FnRow := ⟨54, 17, [(.tmp 2)], m_link_mix⟩
theorem row_link_mix_ok : row_link_mix.Ok Tryz.prog := ⟨(by kernel_rfl : callable Tryz.prog 54 = true), Tryz.f54, Nat.le_of_ble_eq_true rfl, rfl, fun r hr => (by rcases List.mem_cons.1 hr with rfl | hr; exact trivial; exact (by cases hr)), fun _ _ _ hn h => e_link_mix hn h⟩
def row_tumbrelref06_Mix : FnRow := ⟨55, 19, [(.tmp 2)], m_tumbrelref06_Mix⟩
theorem row_tumbrelref06_Mix_ok : row_tumbrelref06_Mix.Ok Tryz.prog := ⟨(by kernel_rfl : callable Tryz.prog 55 = true), Tryz.f55, Nat.le_of_ble_eq_true rfl, rfl, fun r hr => (by rcases List.mem_cons.1 hr with rfl | hr; exact trivial; exact (by cases hr)), fun _ _ _ hn h => e_tumbrelref06_Mix hn h⟩
def row_bitset_Set_Count : FnRow := ⟨56, 24, [(.tmp 2)], m_bitset_Set_Count⟩
theorem row_bitset_Set_Count_ok : row_bitset_Set_Count.Ok Tryz.prog := ⟨(by kernel_rfl : callable Tryz.prog 56 = true), Tryz.f56, Nat.le_of_ble_eq_true rfl, rfl, fun r hr => (by rcases List.mem_cons.1 hr with rfl | hr; exact trivial; exact (by cases hr)), fun _ _ _ hn h => e_bitset_Set_Count hn h⟩
def row_bitset_Set_Len : FnRow := ⟨57, 9, [(.tmp 2)], m_bitset_Set_Len⟩
theorem row_bitset_Set_Len_ok : row_bitset_Set_Len.Ok Tryz.prog := ⟨(by kernel_rfl : callable Tryz.prog 57 = true), Tryz.f57, Nat.le_of_ble_eq_true rfl, rfl, fun r hr => (by rcases List.mem_cons.1 hr with rfl | hr; exact trivial; exact (by cases hr)), fun _ _ _ hn h => e_bitset_Set_Len hn h⟩
def row_gheap_Heap_Has : FnRow := ⟨58, 25, [(.tmp 4)], m_gheap_Heap_Has⟩
theorem row_gheap_Heap_Has_ok : row_gheap_Heap_Has.Ok Tryz.prog := ⟨(by kernel_rfl : callable Tryz.prog 58 = true), Tryz.f58, Nat.le_of_ble_eq_true rfl, rfl, fun r hr => (by rcases List.mem_cons.1 hr with rfl | hr; exact trivial; exact (by cases hr)), fun _ _ _ hn h => e_gheap_Heap_Has hn h⟩
def row_mark_Marker_note : FnRow := ⟨59, 20, [], m_mark_Marker_note⟩
theorem row_mark_Marker_note_ok : row_mark_Marker_note.Ok Tryz.prog := ⟨(by kernel_rfl : callable Tryz.prog 59 = true), Tryz.f59, Nat.le_of_ble_eq_true rfl, rfl, fun r hr => (by cases hr), fun _ _ _ hn h => e_mark_Marker_note hn h⟩
def row_object_Refs : FnRow := ⟨60, 39, [(.tmp 4), (.tmp 5)], m_object_Refs⟩
theorem row_object_Refs_ok : row_object_Refs.Ok Tryz.prog := ⟨(by kernel_rfl : callable Tryz.prog 60 = true), Tryz.f60, Nat.le_of_ble_eq_true rfl, rfl, fun r hr => (by rcases List.mem_cons.1 hr with rfl | hr; exact trivial; exact (by rcases List.mem_cons.1 hr with rfl | hr; exact trivial; exact (by cases hr))), fun _ _ _ hn h => e_object_Refs hn h⟩
def row_gheap_Heap_Region : FnRow := ⟨61, 9, [(.tmp 2)], m_gheap_Heap_Region⟩
theorem row_gheap_Heap_Region_ok : row_gheap_Heap_Region.Ok Tryz.prog := ⟨(by kernel_rfl : callable Tryz.prog 61 = true), Tryz.f61, Nat.le_of_ble_eq_true rfl, rfl, fun r hr => (by rcases List.mem_cons.1 hr with rfl | hr; exact trivial; exact (by cases hr)), fun _ _ _ hn h => e_gheap_Heap_Region hn h⟩
def row_gheap_Heap_Pages : FnRow := ⟨62, 28, [(.tmp 2)], m_gheap_Heap_Pages⟩
theorem row_gheap_Heap_Pages_ok : row_gheap_Heap_Pages.Ok Tryz.prog := ⟨(by kernel_rfl : callable Tryz.prog 62 = true), Tryz.f62, Nat.le_of_ble_eq_true rfl, rfl, fun r hr => (by rcases List.mem_cons.1 hr with rfl | hr; exact trivial; exact (by cases hr)), fun _ _ _ hn h => e_gheap_Heap_Pages hn h⟩
def row_sweep_Sweeper_page : FnRow := ⟨63, 42, [(.tmp 4)], m_sweep_Sweeper_page⟩
theorem row_sweep_Sweeper_page_ok : row_sweep_Sweeper_page.Ok Tryz.prog := ⟨(by kernel_rfl : callable Tryz.prog 63 = true), Tryz.f63, Nat.le_of_ble_eq_true rfl, rfl, fun r hr => (by rcases List.mem_cons.1 hr with rfl | hr; exact trivial; exact (by cases hr)), fun _ _ _ hn h => e_sweep_Sweeper_page hn h⟩
def row_object_Shape_Bytes : FnRow := ⟨64, 14, [(.tmp 2), (.tmp 3)], m_object_Shape_Bytes⟩
theorem row_object_Shape_Bytes_ok : row_object_Shape_Bytes.Ok Tryz.prog := ⟨(by kernel_rfl : callable Tryz.prog 64 = true), Tryz.f64, Nat.le_of_ble_eq_true rfl, rfl, fun r hr => (by rcases List.mem_cons.1 hr with rfl | hr; exact trivial; exact (by rcases List.mem_cons.1 hr with rfl | hr; exact trivial; exact (by cases hr))), fun _ _ _ hn h => e_object_Shape_Bytes hn h⟩
def row_class_Size : FnRow := ⟨65, 8, [(.tmp 2)], m_class_Size⟩
theorem row_class_Size_ok : row_class_Size.Ok Tryz.prog := ⟨(by kernel_rfl : callable Tryz.prog 65 = true), Tryz.f65, Nat.le_of_ble_eq_true rfl, rfl, fun r hr => (by rcases List.mem_cons.1 hr with rfl | hr; exact trivial; exact (by cases hr)), fun _ _ _ hn h => e_class_Size hn h⟩
def row_gheap_Heap_managed : FnRow := ⟨66, 14, [(.tmp 4)], m_gheap_Heap_managed⟩
theorem row_gheap_Heap_managed_ok : row_gheap_Heap_managed.Ok Tryz.prog := ⟨(by kernel_rfl : callable Tryz.prog 66 = true), Tryz.f66, Nat.le_of_ble_eq_true rfl, rfl, fun r hr => (by rcases List.mem_cons.1 hr with rfl | hr; exact trivial; exact (by cases hr)), fun _ _ _ hn h => e_gheap_Heap_managed hn h⟩
def row_gheap_Heap_row : FnRow := ⟨67, 12, [(.cell 4 104 4)], m_gheap_Heap_row⟩
theorem row_gheap_Heap_row_ok : row_gheap_Heap_row.Ok Tryz.prog := ⟨(by kernel_rfl : callable Tryz.prog 67 = true), Tryz.f67, Nat.le_of_ble_eq_true rfl, rfl, fun r hr => (by rcases List.mem_cons.1 hr with rfl | hr; exact (by show aggT Tryz.prog 104 = some 4; kernel_rfl); exact (by cases hr)), fun _ _ _ hn h => e_gheap_Heap_row hn h⟩
def row_gheap_Heap_slot : FnRow := ⟨68, 32, [(.tmp 4), (.tmp 5)], m_gheap_Heap_slot⟩
theorem row_gheap_Heap_slot_ok : row_gheap_Heap_slot.Ok Tryz.prog := ⟨(by kernel_rfl : callable Tryz.prog 68 = true), Tryz.f68, Nat.le_of_ble_eq_true rfl, rfl, fun r hr => (by rcases List.mem_cons.1 hr with rfl | hr; exact trivial; exact (by rcases List.mem_cons.1 hr with rfl | hr; exact trivial; exact (by cases hr))), fun _ _ _ hn h => e_gheap_Heap_slot hn h⟩
def row_pages_Row_first : FnRow := ⟨69, 16, [(.tmp 2)], m_pages_Row_first⟩
theorem row_pages_Row_first_ok : row_pages_Row_first.Ok Tryz.prog := ⟨(by kernel_rfl : callable Tryz.prog 69 = true), Tryz.f69, Nat.le_of_ble_eq_true rfl, rfl, fun r hr => (by rcases List.mem_cons.1 hr with rfl | hr; exact trivial; exact (by cases hr)), fun _ _ _ hn h => e_pages_Row_first hn h⟩
def row_pages_Table_cut : FnRow := ⟨70, 18, [(.tmp 6), (.tmp 7)], m_pages_Table_cut⟩
theorem row_pages_Table_cut_ok : row_pages_Table_cut.Ok Tryz.prog := ⟨(by kernel_rfl : callable Tryz.prog 70 = true), Tryz.f70, Nat.le_of_ble_eq_true rfl, rfl, fun r hr => (by rcases List.mem_cons.1 hr with rfl | hr; exact trivial; exact (by rcases List.mem_cons.1 hr with rfl | hr; exact trivial; exact (by cases hr))), fun _ _ _ hn h => e_pages_Table_cut hn h⟩
def row_pages_Table_place : FnRow := ⟨71, 36, [(.tmp 8), (.tmp 9)], m_pages_Table_place⟩
theorem row_pages_Table_place_ok : row_pages_Table_place.Ok Tryz.prog := ⟨(by kernel_rfl : callable Tryz.prog 71 = true), Tryz.f71, Nat.le_of_ble_eq_true rfl, rfl, fun r hr => (by rcases List.mem_cons.1 hr with rfl | hr; exact trivial; exact (by rcases List.mem_cons.1 hr with rfl | hr; exact trivial; exact (by cases hr))), fun _ _ _ hn h => e_pages_Table_place hn h⟩
def row_class_Slots : FnRow := ⟨72, 9, [(.tmp 2)], m_class_Slots⟩
theorem row_class_Slots_ok : row_class_Slots.Ok Tryz.prog := ⟨(by kernel_rfl : callable Tryz.prog 72 = true), Tryz.f72, Nat.le_of_ble_eq_true rfl, rfl, fun r hr => (by rcases List.mem_cons.1 hr with rfl | hr; exact trivial; exact (by cases hr)), fun _ _ _ hn h => e_class_Slots hn h⟩
def row_arena_Arena_Word : FnRow := ⟨73, 22, [(.tmp 4), (.tmp 5)], m_arena_Arena_Word⟩
theorem row_arena_Arena_Word_ok : row_arena_Arena_Word.Ok Tryz.prog := ⟨(by kernel_rfl : callable Tryz.prog 73 = true), Tryz.f73, Nat.le_of_ble_eq_true rfl, rfl, fun r hr => (by rcases List.mem_cons.1 hr with rfl | hr; exact trivial; exact (by rcases List.mem_cons.1 hr with rfl | hr; exact trivial; exact (by cases hr))), fun _ _ _ hn h => e_arena_Arena_Word hn h⟩
def row_arena_Arena_Fill : FnRow := ⟨74, 33, [(.tmp 8)], m_arena_Arena_Fill⟩
theorem row_arena_Arena_Fill_ok : row_arena_Arena_Fill.Ok Tryz.prog := ⟨(by kernel_rfl : callable Tryz.prog 74 = true), Tryz.f74, Nat.le_of_ble_eq_true rfl, rfl, fun r hr => (by rcases List.mem_cons.1 hr with rfl | hr; exact trivial; exact (by cases hr)), fun _ _ _ hn h => e_arena_Arena_Fill hn h⟩
def row_arena_Arena_SetWord : FnRow := ⟨75, 23, [(.tmp 6)], m_arena_Arena_SetWord⟩
theorem row_arena_Arena_SetWord_ok : row_arena_Arena_SetWord.Ok Tryz.prog := ⟨(by kernel_rfl : callable Tryz.prog 75 = true), Tryz.f75, Nat.le_of_ble_eq_true rfl, rfl, fun r hr => (by rcases List.mem_cons.1 hr with rfl | hr; exact trivial; exact (by cases hr)), fun _ _ _ hn h => e_arena_Arena_SetWord hn h⟩
def row_object_Shape_word : FnRow := ⟨76, 12, [(.tmp 2)], m_object_Shape_word⟩
theorem row_object_Shape_word_ok : row_object_Shape_word.Ok Tryz.prog := ⟨(by kernel_rfl : callable Tryz.prog 76 = true), Tryz.f76, Nat.le_of_ble_eq_true rfl, rfl, fun r hr => (by rcases List.mem_cons.1 hr with rfl | hr; exact trivial; exact (by cases hr)), fun _ _ _ hn h => e_object_Shape_word hn h⟩
def row_bitset_Set_in : FnRow := ⟨77, 13, [(.tmp 4)], m_bitset_Set_in⟩
theorem row_bitset_Set_in_ok : row_bitset_Set_in.Ok Tryz.prog := ⟨(by kernel_rfl : callable Tryz.prog 77 = true), Tryz.f77, Nat.le_of_ble_eq_true rfl, rfl, fun r hr => (by rcases List.mem_cons.1 hr with rfl | hr; exact trivial; exact (by cases hr)), fun _ _ _ hn h => e_bitset_Set_in hn h⟩
def row_math_bits_OnesCount64 : FnRow := ⟨78, 35, [(.tmp 2)], m_math_bits_OnesCount64⟩
theorem row_math_bits_OnesCount64_ok : row_math_bits_OnesCount64.Ok Tryz.prog := ⟨(by kernel_rfl : callable Tryz.prog 78 = true), Tryz.f78, Nat.le_of_ble_eq_true rfl, rfl, fun r hr => (by rcases List.mem_cons.1 hr with rfl | hr; exact trivial; exact (by cases hr)), fun _ _ _ hn h => e_math_bits_OnesCount64 hn h⟩
def row_bitset_Set_Has : FnRow := ⟨79, 23, [(.tmp 4)], m_bitset_Set_Has⟩
theorem row_bitset_Set_Has_ok : row_bitset_Set_Has.Ok Tryz.prog := ⟨(by kernel_rfl : callable Tryz.prog 79 = true), Tryz.f79, Nat.le_of_ble_eq_true rfl, rfl, fun r hr => (by rcases List.mem_cons.1 hr with rfl | hr; exact trivial; exact (by cases hr)), fun _ _ _ hn h => e_bitset_Set_Has hn h⟩
def row_gheap_Heap_Mark : FnRow := ⟨80, 21, [(.tmp 4)], m_gheap_Heap_Mark⟩
theorem row_gheap_Heap_Mark_ok : row_gheap_Heap_Mark.Ok Tryz.prog := ⟨(by kernel_rfl : callable Tryz.prog 80 = true), Tryz.f80, Nat.le_of_ble_eq_true rfl, rfl, fun r hr => (by rcases List.mem_cons.1 hr with rfl | hr; exact trivial; exact (by cases hr)), fun _ _ _ hn h => e_gheap_Heap_Mark hn h⟩
def row_object_Head : FnRow := ⟨81, 52, [(.cell 4 64 2), (.tmp 5)], m_object_Head⟩
theorem row_object_Head_ok : row_object_Head.Ok Tryz.prog := ⟨(by kernel_rfl : callable Tryz.prog 81 = true), Tryz.f81, Nat.le_of_ble_eq_true rfl, rfl, fun r hr => (by rcases List.mem_cons.1 hr with rfl | hr; exact (by show aggT Tryz.prog 64 = some 2; kernel_rfl); exact (by rcases List.mem_cons.1 hr with rfl | hr; exact trivial; exact (by cases hr))), fun _ _ _ hn h => e_object_Head hn h⟩
def row_object_Ref : FnRow := ⟨82, 31, [(.tmp 6), (.tmp 7)], m_object_Ref⟩
theorem row_object_Ref_ok : row_object_Ref.Ok Tryz.prog := ⟨(by kernel_rfl : callable Tryz.prog 82 = true), Tryz.f82, Nat.le_of_ble_eq_true rfl, rfl, fun r hr => (by rcases List.mem_cons.1 hr with rfl | hr; exact trivial; exact (by rcases List.mem_cons.1 hr with rfl | hr; exact trivial; exact (by cases hr))), fun _ _ _ hn h => e_object_Ref hn h⟩
def row_gheap_Heap_In : FnRow := ⟨83, 25, [(.tmp 4)], m_gheap_Heap_In⟩
theorem row_gheap_Heap_In_ok : row_gheap_Heap_In.Ok Tryz.prog := ⟨(by kernel_rfl : callable Tryz.prog 83 = true), Tryz.f83, Nat.le_of_ble_eq_true rfl, rfl, fun r hr => (by rcases List.mem_cons.1 hr with rfl | hr; exact trivial; exact (by cases hr)), fun _ _ _ hn h => e_gheap_Heap_In hn h⟩
def row_gheap_Heap_Marked : FnRow := ⟨84, 17, [(.tmp 4)], m_gheap_Heap_Marked⟩
theorem row_gheap_Heap_Marked_ok : row_gheap_Heap_Marked.Ok Tryz.prog := ⟨(by kernel_rfl : callable Tryz.prog 84 = true), Tryz.f84, Nat.le_of_ble_eq_true rfl, rfl, fun r hr => (by rcases List.mem_cons.1 hr with rfl | hr; exact trivial; exact (by cases hr)), fun _ _ _ hn h => e_gheap_Heap_Marked hn h⟩
def row_gheap_Heap_Free : FnRow := ⟨85, 40, [(.tmp 4)], m_gheap_Heap_Free⟩
theorem row_gheap_Heap_Free_ok : row_gheap_Heap_Free.Ok Tryz.prog := ⟨(by kernel_rfl : callable Tryz.prog 85 = true), Tryz.f85, Nat.le_of_ble_eq_true rfl, rfl, fun r hr => (by rcases List.mem_cons.1 hr with rfl | hr; exact trivial; exact (by cases hr)), fun _ _ _ hn h => e_gheap_Heap_Free hn h⟩
def row_gheap_Heap_Tidy : FnRow := ⟨86, 26, [(.tmp 4)], m_gheap_Heap_Tidy⟩
theorem row_gheap_Heap_Tidy_ok : row_gheap_Heap_Tidy.Ok Tryz.prog := ⟨(by kernel_rfl : callable Tryz.prog 86 = true), Tryz.f86, Nat.le_of_ble_eq_true rfl, rfl, fun r hr => (by rcases List.mem_cons.1 hr with rfl | hr; exact trivial; exact (by cases hr)), fun _ _ _ hn h => e_gheap_Heap_Tidy hn h⟩
def row_object_Shape_may : FnRow := ⟨87, 24, [(.tmp 2)], m_object_Shape_may⟩
theorem row_object_Shape_may_ok : row_object_Shape_may.Ok Tryz.prog := ⟨(by kernel_rfl : callable Tryz.prog 87 = true), Tryz.f87, Nat.le_of_ble_eq_true rfl, rfl, fun r hr => (by rcases List.mem_cons.1 hr with rfl | hr; exact trivial; exact (by cases hr)), fun _ _ _ hn h => e_object_Shape_may hn h⟩
def row_class_may : FnRow := ⟨88, 9, [(.tmp 2)], m_class_may⟩
theorem row_class_may_ok : row_class_may.Ok Tryz.prog := ⟨(by kernel_rfl : callable Tryz.prog 88 = true), Tryz.f88, Nat.le_of_ble_eq_true rfl, rfl, fun r hr => (by rcases List.mem_cons.1 hr with rfl | hr; exact trivial; exact (by cases hr)), fun _ _ _ hn h => e_class_may hn h⟩
def row_pages_Table_Row : FnRow := ⟨89, 21, [(.cell 4 104 4)], m_pages_Table_Row⟩
theorem row_pages_Table_Row_ok : row_pages_Table_Row.Ok Tryz.prog := ⟨(by kernel_rfl : callable Tryz.prog 89 = true), Tryz.f89, Nat.le_of_ble_eq_true rfl, rfl, fun r hr => (by rcases List.mem_cons.1 hr with rfl | hr; exact (by show aggT Tryz.prog 104 = some 4; kernel_rfl); exact (by cases hr)), fun _ _ _ hn h => e_pages_Table_Row hn h⟩
def row_pages_Table_Len : FnRow := ⟨90, 10, [(.tmp 2)], m_pages_Table_Len⟩
theorem row_pages_Table_Len_ok : row_pages_Table_Len.Ok Tryz.prog := ⟨(by kernel_rfl : callable Tryz.prog 90 = true), Tryz.f90, Nat.le_of_ble_eq_true rfl, rfl, fun r hr => (by rcases List.mem_cons.1 hr with rfl | hr; exact trivial; exact (by cases hr)), fun _ _ _ hn h => e_pages_Table_Len hn h⟩
def row_pages_Row_free : FnRow := ⟨91, 6, [(.tmp 2)], m_pages_Row_free⟩
theorem row_pages_Row_free_ok : row_pages_Row_free.Ok Tryz.prog := ⟨(by kernel_rfl : callable Tryz.prog 91 = true), Tryz.f91, Nat.le_of_ble_eq_true rfl, rfl, fun r hr => (by rcases List.mem_cons.1 hr with rfl | hr; exact trivial; exact (by cases hr)), fun _ _ _ hn h => e_pages_Row_free hn h⟩
def row_arena_Arena_word : FnRow := ⟨92, 15, [(.tmp 4)], m_arena_Arena_word⟩
theorem row_arena_Arena_word_ok : row_arena_Arena_word.Ok Tryz.prog := ⟨(by kernel_rfl : callable Tryz.prog 92 = true), Tryz.f92, Nat.le_of_ble_eq_true rfl, rfl, fun r hr => (by rcases List.mem_cons.1 hr with rfl | hr; exact trivial; exact (by cases hr)), fun _ _ _ hn h => e_arena_Arena_word hn h⟩
def row_num_Get : FnRow := ⟨93, 23, [(.tmp 2)], m_num_Get⟩
theorem row_num_Get_ok : row_num_Get.Ok Tryz.prog := ⟨(by kernel_rfl : callable Tryz.prog 93 = true), Tryz.f93, Nat.le_of_ble_eq_true rfl, rfl, fun r hr => (by rcases List.mem_cons.1 hr with rfl | hr; exact trivial; exact (by cases hr)), fun _ _ _ hn h => e_num_Get hn h⟩
def row_arena_Arena_in : FnRow := ⟨94, 37, [(.tmp 6)], m_arena_Arena_in⟩
theorem row_arena_Arena_in_ok : row_arena_Arena_in.Ok Tryz.prog := ⟨(by kernel_rfl : callable Tryz.prog 94 = true), Tryz.f94, Nat.le_of_ble_eq_true rfl, rfl, fun r hr => (by rcases List.mem_cons.1 hr with rfl | hr; exact trivial; exact (by cases hr)), fun _ _ _ hn h => e_arena_Arena_in hn h⟩
def row_num_Put : FnRow := ⟨95, 30, [(.tmp 4)], m_num_Put⟩
theorem row_num_Put_ok : row_num_Put.Ok Tryz.prog := ⟨(by kernel_rfl : callable Tryz.prog 95 = true), Tryz.f95, Nat.le_of_ble_eq_true rfl, rfl, fun r hr => (by rcases List.mem_cons.1 hr with rfl | hr; exact trivial; exact (by cases hr)), fun _ _ _ hn h => e_num_Put hn h⟩
def row_object_ref : FnRow := ⟨96, 26, [(.tmp 6), (.tmp 7)], m_object_ref⟩
theorem row_object_ref_ok : row_object_ref.Ok Tryz.prog := ⟨(by kernel_rfl : callable Tryz.prog 96 = true), Tryz.f96, Nat.le_of_ble_eq_true rfl, rfl, fun r hr => (by rcases List.mem_cons.1 hr with rfl | hr; exact trivial; exact (by rcases List.mem_cons.1 hr with rfl | hr; exact trivial; exact (by cases hr))), fun _ _ _ hn h => e_object_ref hn h⟩
def row_gheap_Heap_All : FnRow := ⟨97, 10, [(.tmp 2)], m_gheap_Heap_All⟩
theorem row_gheap_Heap_All_ok : row_gheap_Heap_All.Ok Tryz.prog := ⟨(by kernel_rfl : callable Tryz.prog 97 = true), Tryz.f97, Nat.le_of_ble_eq_true rfl, rfl, fun r hr => (by rcases List.mem_cons.1 hr with rfl | hr; exact trivial; exact (by cases hr)), fun _ _ _ hn h => e_gheap_Heap_All hn h⟩
def row_pages_Table_Unmap : FnRow := ⟨98, 26, [(.tmp 4)], m_pages_Table_Unmap⟩
theorem row_pages_Table_Unmap_ok : row_pages_Table_Unmap.Ok Tryz.prog := ⟨(by kernel_rfl : callable Tryz.prog 98 = true), Tryz.f98, Nat.le_of_ble_eq_true rfl, rfl, fun r hr => (by rcases List.mem_cons.1 hr with rfl | hr; exact trivial; exact (by cases hr)), fun _ _ _ hn h => e_pages_Table_Unmap hn h⟩
def row_object_field : FnRow := ⟨99, 24, [(.tmp 8), (.tmp 9)], m_object_field⟩
theorem row_object_field_ok : row_object_field.Ok Tryz.prog := ⟨(by kernel_rfl : callable Tryz.prog 99 = true), Tryz.f99, Nat.le_of_ble_eq_true rfl, rfl, fun r hr => (by rcases List.mem_cons.1 hr with rfl | hr; exact trivial; exact (by rcases List.mem_cons.1 hr with rfl | hr; exact trivial; exact (by cases hr))), fun _ _ _ hn h => e_object_field hn h⟩
def row_gheap_places : FnRow := ⟨100, 20, [(.tmp 2)], m_gheap_places⟩
theorem row_gheap_places_ok : row_gheap_places.Ok Tryz.prog := ⟨(by kernel_rfl : callable Tryz.prog 100 = true), Tryz.f100, Nat.le_of_ble_eq_true rfl, rfl, fun r hr => (by rcases List.mem_cons.1 hr with rfl | hr; exact trivial; exact (by cases hr)), fun _ _ _ hn h => e_gheap_places hn h⟩
def row_bitset_Set_All : FnRow := ⟨101, 24, [(.tmp 2)], m_bitset_Set_All⟩
theorem row_bitset_Set_All_ok : row_bitset_Set_All.Ok Tryz.prog := ⟨(by kernel_rfl : callable Tryz.prog 101 = true), Tryz.f101, Nat.le_of_ble_eq_true rfl, rfl, fun r hr => (by rcases List.mem_cons.1 hr with rfl | hr; exact trivial; exact (by cases hr)), fun _ _ _ hn h => e_bitset_Set_All hn h⟩
def row_bitset_Set_Next : FnRow := ⟨102, 57, [(.tmp 6), (.tmp 7)], m_bitset_Set_Next⟩
theorem row_bitset_Set_Next_ok : row_bitset_Set_Next.Ok Tryz.prog := ⟨(by kernel_rfl : callable Tryz.prog 102 = true), Tryz.f102, Nat.le_of_ble_eq_true rfl, rfl, fun r hr => (by rcases List.mem_cons.1 hr with rfl | hr; exact trivial; exact (by rcases List.mem_cons.1 hr with rfl | hr; exact trivial; exact (by cases hr))), fun _ _ _ hn h => e_bitset_Set_Next hn h⟩
def row_math_bits_TrailingZeros64 : FnRow := ⟨103, 14, [(.tmp 2)], m_math_bits_TrailingZeros64⟩
theorem row_math_bits_TrailingZeros64_ok : row_math_bits_TrailingZeros64.Ok Tryz.prog := ⟨(by kernel_rfl : callable Tryz.prog 103 = true), Tryz.f103, Nat.le_of_ble_eq_true rfl, rfl, fun r hr => (by rcases List.mem_cons.1 hr with rfl | hr; exact trivial; exact (by cases hr)), fun _ _ _ hn h => e_math_bits_TrailingZeros64 hn h⟩
def row_bitset_bit : FnRow := ⟨104, 4, [(.tmp 2)], m_bitset_bit⟩
theorem row_bitset_bit_ok : row_bitset_bit.Ok Tryz.prog := ⟨(by kernel_rfl : callable Tryz.prog 104 = true), Tryz.f104, Nat.le_of_ble_eq_true rfl, rfl, fun r hr => (by rcases List.mem_cons.1 hr with rfl | hr; exact trivial; exact (by cases hr)), fun _ _ _ hn h => e_bitset_bit hn h⟩
def rows : List FnRow := [row_tumbrellaw22_CycleNil, row_cycle_New, row_tumbrellaw18_Make, row_cycle_Cycle_Step, row_cycle_Cycle_Request, row_cycle_Cycle_Stop, row_cycle_Cycle_Stopped, row_cycle_Cycle_All, row_cycle_Cycle_Phase, row_cycle_Cycle_Count, row_cycle_Cycle_Gone, row_tumbrellaw22_awake, row_region_New, row_gheap_New, row_tumbrelref09_New, row_cycle_Cycle_begin, row_cycle_Cycle_root, row_cycle_Cycle_look, row_cycle_Cycle_clean, row_cycle_Cycle_in, row_slices_Clone_int_int_, row_slices_ContainsFunc_cycle_thread_cycle_thread_, row_cycle_Cycle_All_c1, row_gheap_Heap_Alloc, row_arena_New, row_link_New, row_pages_New, row_large_New, row_region_Region_Config, row_region_Region_Arena, row_arena_Arena_Len, row_bitset_New, row_tumbrelref06_Key, row_tumbrelref04_New, row_gheap_Heap_Unmark, row_mark_New, row_mark_Marker_Root, row_mark_Marker_Left, row_mark_Marker_Step, row_sweep_New, row_sweep_Sweeper_Left, row_sweep_Sweeper_Step, row_sweep_Sweeper_Gone, row_slices_IndexFunc_cycle_thread_cycle_thread_, row_object_Shape_Class, row_gheap_Heap_place, row_region_Region_Pages, row_pages_Table_Map, row_class_Base, row_object_Make, row_bitset_Set_Put, row_link_mix, row_tumbrelref06_Mix, row_bitset_Set_Count, row_bitset_Set_Len, row_gheap_Heap_Has, row_mark_Marker_note, row_object_Refs, row_gheap_Heap_Region, row_gheap_Heap_Pages, row_sweep_Sweeper_page, row_object_Shape_Bytes, row_class_Size, row_gheap_Heap_managed, row_gheap_Heap_row, row_gheap_Heap_slot, row_pages_Row_first, row_pages_Table_cut, row_pages_Table_place, row_class_Slots, row_arena_Arena_Word, row_arena_Arena_Fill, row_arena_Arena_SetWord, row_object_Shape_word, row_bitset_Set_in, row_math_bits_OnesCount64, row_bitset_Set_Has, row_gheap_Heap_Mark, row_object_Head, row_object_Ref, row_gheap_Heap_In, row_gheap_Heap_Marked, row_gheap_Heap_Free, row_gheap_Heap_Tidy, row_object_Shape_may, row_class_may, row_pages_Table_Row, row_pages_Table_Len, row_pages_Row_free, row_arena_Arena_word, row_num_Get, row_arena_Arena_in, row_num_Put, row_object_ref, row_gheap_Heap_All, row_pages_Table_Unmap, row_object_field, row_gheap_places, row_bitset_Set_All, row_bitset_Set_Next, row_math_bits_TrailingZeros64, row_bitset_bit]
theorem rows_ok : ∀ x ∈ rows, x.Ok Tryz.prog := by
  refine List.forall_mem_cons.2 ⟨row_tumbrellaw22_CycleNil_ok, ?_⟩
  refine List.forall_mem_cons.2 ⟨row_cycle_New_ok, ?_⟩
  refine List.forall_mem_cons.2 ⟨row_tumbrellaw18_Make_ok, ?_⟩
  refine List.forall_mem_cons.2 ⟨row_cycle_Cycle_Step_ok, ?_⟩
  refine List.forall_mem_cons.2 ⟨row_cycle_Cycle_Request_ok, ?_⟩
  refine List.forall_mem_cons.2 ⟨row_cycle_Cycle_Stop_ok, ?_⟩
  refine List.forall_mem_cons.2 ⟨row_cycle_Cycle_Stopped_ok, ?_⟩
  refine List.forall_mem_cons.2 ⟨row_cycle_Cycle_All_ok, ?_⟩
  refine List.forall_mem_cons.2 ⟨row_cycle_Cycle_Phase_ok, ?_⟩
  refine List.forall_mem_cons.2 ⟨row_cycle_Cycle_Count_ok, ?_⟩
  refine List.forall_mem_cons.2 ⟨row_cycle_Cycle_Gone_ok, ?_⟩
  refine List.forall_mem_cons.2 ⟨row_tumbrellaw22_awake_ok, ?_⟩
  refine List.forall_mem_cons.2 ⟨row_region_New_ok, ?_⟩
  refine List.forall_mem_cons.2 ⟨row_gheap_New_ok, ?_⟩
  refine List.forall_mem_cons.2 ⟨row_tumbrelref09_New_ok, ?_⟩
  refine List.forall_mem_cons.2 ⟨row_cycle_Cycle_begin_ok, ?_⟩
  refine List.forall_mem_cons.2 ⟨row_cycle_Cycle_root_ok, ?_⟩
  refine List.forall_mem_cons.2 ⟨row_cycle_Cycle_look_ok, ?_⟩
  refine List.forall_mem_cons.2 ⟨row_cycle_Cycle_clean_ok, ?_⟩
  refine List.forall_mem_cons.2 ⟨row_cycle_Cycle_in_ok, ?_⟩
  refine List.forall_mem_cons.2 ⟨row_slices_Clone_int_int__ok, ?_⟩
  refine List.forall_mem_cons.2 ⟨row_slices_ContainsFunc_cycle_thread_cycle_thread__ok, ?_⟩
  refine List.forall_mem_cons.2 ⟨row_cycle_Cycle_All_c1_ok, ?_⟩
  refine List.forall_mem_cons.2 ⟨row_gheap_Heap_Alloc_ok, ?_⟩
  refine List.forall_mem_cons.2 ⟨row_arena_New_ok, ?_⟩
  refine List.forall_mem_cons.2 ⟨row_link_New_ok, ?_⟩
  refine List.forall_mem_cons.2 ⟨row_pages_New_ok, ?_⟩
  refine List.forall_mem_cons.2 ⟨row_large_New_ok, ?_⟩
  refine List.forall_mem_cons.2 ⟨row_region_Region_Config_ok, ?_⟩
  refine List.forall_mem_cons.2 ⟨row_region_Region_Arena_ok, ?_⟩
  refine List.forall_mem_cons.2 ⟨row_arena_Arena_Len_ok, ?_⟩
  refine List.forall_mem_cons.2 ⟨row_bitset_New_ok, ?_⟩
  refine List.forall_mem_cons.2 ⟨row_tumbrelref06_Key_ok, ?_⟩
  refine List.forall_mem_cons.2 ⟨row_tumbrelref04_New_ok, ?_⟩
  refine List.forall_mem_cons.2 ⟨row_gheap_Heap_Unmark_ok, ?_⟩
  refine List.forall_mem_cons.2 ⟨row_mark_New_ok, ?_⟩
  refine List.forall_mem_cons.2 ⟨row_mark_Marker_Root_ok, ?_⟩
  refine List.forall_mem_cons.2 ⟨row_mark_Marker_Left_ok, ?_⟩
  refine List.forall_mem_cons.2 ⟨row_mark_Marker_Step_ok, ?_⟩
  refine List.forall_mem_cons.2 ⟨row_sweep_New_ok, ?_⟩
  refine List.forall_mem_cons.2 ⟨row_sweep_Sweeper_Left_ok, ?_⟩
  refine List.forall_mem_cons.2 ⟨row_sweep_Sweeper_Step_ok, ?_⟩
  refine List.forall_mem_cons.2 ⟨row_sweep_Sweeper_Gone_ok, ?_⟩
  refine List.forall_mem_cons.2 ⟨row_slices_IndexFunc_cycle_thread_cycle_thread__ok, ?_⟩
  refine List.forall_mem_cons.2 ⟨row_object_Shape_Class_ok, ?_⟩
  refine List.forall_mem_cons.2 ⟨row_gheap_Heap_place_ok, ?_⟩
  refine List.forall_mem_cons.2 ⟨row_region_Region_Pages_ok, ?_⟩
  refine List.forall_mem_cons.2 ⟨row_pages_Table_Map_ok, ?_⟩
  refine List.forall_mem_cons.2 ⟨row_class_Base_ok, ?_⟩
  refine List.forall_mem_cons.2 ⟨row_object_Make_ok, ?_⟩
  refine List.forall_mem_cons.2 ⟨row_bitset_Set_Put_ok, ?_⟩
  refine List.forall_mem_cons.2 ⟨row_link_mix_ok, ?_⟩
  refine List.forall_mem_cons.2 ⟨row_tumbrelref06_Mix_ok, ?_⟩
  refine List.forall_mem_cons.2 ⟨row_bitset_Set_Count_ok, ?_⟩
  refine List.forall_mem_cons.2 ⟨row_bitset_Set_Len_ok, ?_⟩
  refine List.forall_mem_cons.2 ⟨row_gheap_Heap_Has_ok, ?_⟩
  refine List.forall_mem_cons.2 ⟨row_mark_Marker_note_ok, ?_⟩
  refine List.forall_mem_cons.2 ⟨row_object_Refs_ok, ?_⟩
  refine List.forall_mem_cons.2 ⟨row_gheap_Heap_Region_ok, ?_⟩
  refine List.forall_mem_cons.2 ⟨row_gheap_Heap_Pages_ok, ?_⟩
  refine List.forall_mem_cons.2 ⟨row_sweep_Sweeper_page_ok, ?_⟩
  refine List.forall_mem_cons.2 ⟨row_object_Shape_Bytes_ok, ?_⟩
  refine List.forall_mem_cons.2 ⟨row_class_Size_ok, ?_⟩
  refine List.forall_mem_cons.2 ⟨row_gheap_Heap_managed_ok, ?_⟩
  refine List.forall_mem_cons.2 ⟨row_gheap_Heap_row_ok, ?_⟩
  refine List.forall_mem_cons.2 ⟨row_gheap_Heap_slot_ok, ?_⟩
  refine List.forall_mem_cons.2 ⟨row_pages_Row_first_ok, ?_⟩
  refine List.forall_mem_cons.2 ⟨row_pages_Table_cut_ok, ?_⟩
  refine List.forall_mem_cons.2 ⟨row_pages_Table_place_ok, ?_⟩
  refine List.forall_mem_cons.2 ⟨row_class_Slots_ok, ?_⟩
  refine List.forall_mem_cons.2 ⟨row_arena_Arena_Word_ok, ?_⟩
  refine List.forall_mem_cons.2 ⟨row_arena_Arena_Fill_ok, ?_⟩
  refine List.forall_mem_cons.2 ⟨row_arena_Arena_SetWord_ok, ?_⟩
  refine List.forall_mem_cons.2 ⟨row_object_Shape_word_ok, ?_⟩
  refine List.forall_mem_cons.2 ⟨row_bitset_Set_in_ok, ?_⟩
  refine List.forall_mem_cons.2 ⟨row_math_bits_OnesCount64_ok, ?_⟩
  refine List.forall_mem_cons.2 ⟨row_bitset_Set_Has_ok, ?_⟩
  refine List.forall_mem_cons.2 ⟨row_gheap_Heap_Mark_ok, ?_⟩
  refine List.forall_mem_cons.2 ⟨row_object_Head_ok, ?_⟩
  refine List.forall_mem_cons.2 ⟨row_object_Ref_ok, ?_⟩
  refine List.forall_mem_cons.2 ⟨row_gheap_Heap_In_ok, ?_⟩
  refine List.forall_mem_cons.2 ⟨row_gheap_Heap_Marked_ok, ?_⟩
  refine List.forall_mem_cons.2 ⟨row_gheap_Heap_Free_ok, ?_⟩
  refine List.forall_mem_cons.2 ⟨row_gheap_Heap_Tidy_ok, ?_⟩
  refine List.forall_mem_cons.2 ⟨row_object_Shape_may_ok, ?_⟩
  refine List.forall_mem_cons.2 ⟨row_class_may_ok, ?_⟩
  refine List.forall_mem_cons.2 ⟨row_pages_Table_Row_ok, ?_⟩
  refine List.forall_mem_cons.2 ⟨row_pages_Table_Len_ok, ?_⟩
  refine List.forall_mem_cons.2 ⟨row_pages_Row_free_ok, ?_⟩
  refine List.forall_mem_cons.2 ⟨row_arena_Arena_word_ok, ?_⟩
  refine List.forall_mem_cons.2 ⟨row_num_Get_ok, ?_⟩
  refine List.forall_mem_cons.2 ⟨row_arena_Arena_in_ok, ?_⟩
  refine List.forall_mem_cons.2 ⟨row_num_Put_ok, ?_⟩
  refine List.forall_mem_cons.2 ⟨row_object_ref_ok, ?_⟩
  refine List.forall_mem_cons.2 ⟨row_gheap_Heap_All_ok, ?_⟩
  refine List.forall_mem_cons.2 ⟨row_pages_Table_Unmap_ok, ?_⟩
  refine List.forall_mem_cons.2 ⟨row_object_field_ok, ?_⟩
  refine List.forall_mem_cons.2 ⟨row_gheap_places_ok, ?_⟩
  refine List.forall_mem_cons.2 ⟨row_bitset_Set_All_ok, ?_⟩
  refine List.forall_mem_cons.2 ⟨row_bitset_Set_Next_ok, ?_⟩
  refine List.forall_mem_cons.2 ⟨row_math_bits_TrailingZeros64_ok, ?_⟩
  refine List.forall_mem_cons.2 ⟨row_bitset_bit_ok, ?_⟩
  exact fun x hx => by cases hx
end Go.Proofs.YtmajnoeiabhdnaaGreatDoor
