/- The table of the functions of this set, for runs by reckoning. Printed by a program of this repo (wip/tools/gencode.py). -/
import Derived.Test.YtbpfcmefpangbaaDoorCode
import Derived.Test.YtbpfcmefpangbaaDoorRunIter
namespace Go.Proofs.YtbpfcmefpangbaaDoor
open Go Go.Tum

def row_tumbrellaw20_SweepNil : FnRow := ⟨3, 68, [(.tmp 2)], m_tumbrellaw20_SweepNil⟩
theorem row_tumbrellaw20_SweepNil_ok : row_tumbrellaw20_SweepNil.Ok Tryd.prog := ⟨(by kernel_rfl : callable Tryd.prog 3 = true), Tryd.f3, Nat.le_of_ble_eq_true rfl, rfl, fun r hr => (by rcases List.mem_cons.1 hr with rfl | hr; exact trivial; exact (by cases hr)), fun _ _ _ hn h => e_tumbrellaw20_SweepNil hn h⟩
def row_tumbrellaw18_GheapNil : FnRow := ⟨4, 92, [(.tmp 2)], m_tumbrellaw18_GheapNil⟩
theorem row_tumbrellaw18_GheapNil_ok : row_tumbrellaw18_GheapNil.Ok Tryd.prog := ⟨(by kernel_rfl : callable Tryd.prog 4 = true), Tryd.f4, Nat.le_of_ble_eq_true rfl, rfl, fun r hr => (by rcases List.mem_cons.1 hr with rfl | hr; exact trivial; exact (by cases hr)), fun _ _ _ hn h => e_tumbrellaw18_GheapNil hn h⟩
def row_sweep_New : FnRow := ⟨5, 10, [(.tmp 2)], m_sweep_New⟩
theorem row_sweep_New_ok : row_sweep_New.Ok Tryd.prog := ⟨(by kernel_rfl : callable Tryd.prog 5 = true), Tryd.f5, Nat.le_of_ble_eq_true rfl, rfl, fun r hr => (by rcases List.mem_cons.1 hr with rfl | hr; exact trivial; exact (by cases hr)), fun _ _ _ hn h => e_sweep_New hn h⟩
def row_sweep_Sweeper_Step : FnRow := ⟨6, 50, [(.tmp 2), (.tmp 3)], m_sweep_Sweeper_Step⟩
theorem row_sweep_Sweeper_Step_ok : row_sweep_Sweeper_Step.Ok Tryd.prog := ⟨(by kernel_rfl : callable Tryd.prog 6 = true), Tryd.f6, Nat.le_of_ble_eq_true rfl, rfl, fun r hr => (by rcases List.mem_cons.1 hr with rfl | hr; exact trivial; exact (by rcases List.mem_cons.1 hr with rfl | hr; exact trivial; exact (by cases hr))), fun _ _ _ hn h => e_sweep_Sweeper_Step hn h⟩
def row_tumbrellaw18_Make : FnRow := ⟨7, 29, [(.tmp 4)], m_tumbrellaw18_Make⟩
theorem row_tumbrellaw18_Make_ok : row_tumbrellaw18_Make.Ok Tryd.prog := ⟨(by kernel_rfl : callable Tryd.prog 7 = true), Tryd.f7, Nat.le_of_ble_eq_true rfl, rfl, fun r hr => (by rcases List.mem_cons.1 hr with rfl | hr; exact trivial; exact (by cases hr)), fun _ _ _ hn h => e_tumbrellaw18_Make hn h⟩
def row_sweep_Sweeper_Left : FnRow := ⟨8, 10, [(.tmp 2)], m_sweep_Sweeper_Left⟩
theorem row_sweep_Sweeper_Left_ok : row_sweep_Sweeper_Left.Ok Tryd.prog := ⟨(by kernel_rfl : callable Tryd.prog 8 = true), Tryd.f8, Nat.le_of_ble_eq_true rfl, rfl, fun r hr => (by rcases List.mem_cons.1 hr with rfl | hr; exact trivial; exact (by cases hr)), fun _ _ _ hn h => e_sweep_Sweeper_Left hn h⟩
def row_sweep_Sweeper_Gone : FnRow := ⟨9, 9, [(.tmp 2)], m_sweep_Sweeper_Gone⟩
theorem row_sweep_Sweeper_Gone_ok : row_sweep_Sweeper_Gone.Ok Tryd.prog := ⟨(by kernel_rfl : callable Tryd.prog 9 = true), Tryd.f9, Nat.le_of_ble_eq_true rfl, rfl, fun r hr => (by rcases List.mem_cons.1 hr with rfl | hr; exact trivial; exact (by cases hr)), fun _ _ _ hn h => e_sweep_Sweeper_Gone hn h⟩
def row_tumbrellaw20_awake : FnRow := ⟨10, 57, [(.tmp 0)], m_tumbrellaw20_awake⟩
theorem row_tumbrellaw20_awake_ok : row_tumbrellaw20_awake.Ok Tryd.prog := ⟨(by kernel_rfl : callable Tryd.prog 10 = true), Tryd.f10, Nat.le_of_ble_eq_true rfl, rfl, fun r hr => (by rcases List.mem_cons.1 hr with rfl | hr; exact trivial; exact (by cases hr)), fun _ _ _ hn h => e_tumbrellaw20_awake hn h⟩
def row_gheap_New : FnRow := ⟨11, 27, [(.tmp 2)], m_gheap_New⟩
theorem row_gheap_New_ok : row_gheap_New.Ok Tryd.prog := ⟨(by kernel_rfl : callable Tryd.prog 11 = true), Tryd.f11, Nat.le_of_ble_eq_true rfl, rfl, fun r hr => (by rcases List.mem_cons.1 hr with rfl | hr; exact trivial; exact (by cases hr)), fun _ _ _ hn h => e_gheap_New hn h⟩
def row_gheap_Heap_Alloc : FnRow := ⟨12, 76, [(.tmp 4), (.tmp 5)], m_gheap_Heap_Alloc⟩
theorem row_gheap_Heap_Alloc_ok : row_gheap_Heap_Alloc.Ok Tryd.prog := ⟨(by kernel_rfl : callable Tryd.prog 12 = true), Tryd.f12, Nat.le_of_ble_eq_true rfl, rfl, fun r hr => (by rcases List.mem_cons.1 hr with rfl | hr; exact trivial; exact (by rcases List.mem_cons.1 hr with rfl | hr; exact trivial; exact (by cases hr))), fun _ _ _ hn h => e_gheap_Heap_Alloc hn h⟩
def row_gheap_Heap_Room : FnRow := ⟨13, 44, [(.tmp 4)], m_gheap_Heap_Room⟩
theorem row_gheap_Heap_Room_ok : row_gheap_Heap_Room.Ok Tryd.prog := ⟨(by kernel_rfl : callable Tryd.prog 13 = true), Tryd.f13, Nat.le_of_ble_eq_true rfl, rfl, fun r hr => (by rcases List.mem_cons.1 hr with rfl | hr; exact trivial; exact (by cases hr)), fun _ _ _ hn h => e_gheap_Heap_Room hn h⟩
def row_gheap_Heap_Has : FnRow := ⟨14, 25, [(.tmp 4)], m_gheap_Heap_Has⟩
theorem row_gheap_Heap_Has_ok : row_gheap_Heap_Has.Ok Tryd.prog := ⟨(by kernel_rfl : callable Tryd.prog 14 = true), Tryd.f14, Nat.le_of_ble_eq_true rfl, rfl, fun r hr => (by rcases List.mem_cons.1 hr with rfl | hr; exact trivial; exact (by cases hr)), fun _ _ _ hn h => e_gheap_Heap_Has hn h⟩
def row_gheap_Heap_All : FnRow := ⟨15, 10, [(.tmp 2)], m_gheap_Heap_All⟩
theorem row_gheap_Heap_All_ok : row_gheap_Heap_All.Ok Tryd.prog := ⟨(by kernel_rfl : callable Tryd.prog 15 = true), Tryd.f15, Nat.le_of_ble_eq_true rfl, rfl, fun r hr => (by rcases List.mem_cons.1 hr with rfl | hr; exact trivial; exact (by cases hr)), fun _ _ _ hn h => e_gheap_Heap_All hn h⟩
def row_gheap_Heap_Free : FnRow := ⟨16, 40, [(.tmp 4)], m_gheap_Heap_Free⟩
theorem row_gheap_Heap_Free_ok : row_gheap_Heap_Free.Ok Tryd.prog := ⟨(by kernel_rfl : callable Tryd.prog 16 = true), Tryd.f16, Nat.le_of_ble_eq_true rfl, rfl, fun r hr => (by rcases List.mem_cons.1 hr with rfl | hr; exact trivial; exact (by cases hr)), fun _ _ _ hn h => e_gheap_Heap_Free hn h⟩
def row_gheap_Heap_Mark : FnRow := ⟨17, 21, [(.tmp 4)], m_gheap_Heap_Mark⟩
theorem row_gheap_Heap_Mark_ok : row_gheap_Heap_Mark.Ok Tryd.prog := ⟨(by kernel_rfl : callable Tryd.prog 17 = true), Tryd.f17, Nat.le_of_ble_eq_true rfl, rfl, fun r hr => (by rcases List.mem_cons.1 hr with rfl | hr; exact trivial; exact (by cases hr)), fun _ _ _ hn h => e_gheap_Heap_Mark hn h⟩
def row_gheap_Heap_Marked : FnRow := ⟨18, 17, [(.tmp 4)], m_gheap_Heap_Marked⟩
theorem row_gheap_Heap_Marked_ok : row_gheap_Heap_Marked.Ok Tryd.prog := ⟨(by kernel_rfl : callable Tryd.prog 18 = true), Tryd.f18, Nat.le_of_ble_eq_true rfl, rfl, fun r hr => (by rcases List.mem_cons.1 hr with rfl | hr; exact trivial; exact (by cases hr)), fun _ _ _ hn h => e_gheap_Heap_Marked hn h⟩
def row_gheap_Heap_Unmark : FnRow := ⟨19, 21, [(.tmp 2)], m_gheap_Heap_Unmark⟩
theorem row_gheap_Heap_Unmark_ok : row_gheap_Heap_Unmark.Ok Tryd.prog := ⟨(by kernel_rfl : callable Tryd.prog 19 = true), Tryd.f19, Nat.le_of_ble_eq_true rfl, rfl, fun r hr => (by rcases List.mem_cons.1 hr with rfl | hr; exact trivial; exact (by cases hr)), fun _ _ _ hn h => e_gheap_Heap_Unmark hn h⟩
def row_gheap_Heap_Pages : FnRow := ⟨20, 28, [(.tmp 2)], m_gheap_Heap_Pages⟩
theorem row_gheap_Heap_Pages_ok : row_gheap_Heap_Pages.Ok Tryd.prog := ⟨(by kernel_rfl : callable Tryd.prog 20 = true), Tryd.f20, Nat.le_of_ble_eq_true rfl, rfl, fun r hr => (by rcases List.mem_cons.1 hr with rfl | hr; exact trivial; exact (by cases hr)), fun _ _ _ hn h => e_gheap_Heap_Pages hn h⟩
def row_gheap_Heap_In : FnRow := ⟨21, 25, [(.tmp 4)], m_gheap_Heap_In⟩
theorem row_gheap_Heap_In_ok : row_gheap_Heap_In.Ok Tryd.prog := ⟨(by kernel_rfl : callable Tryd.prog 21 = true), Tryd.f21, Nat.le_of_ble_eq_true rfl, rfl, fun r hr => (by rcases List.mem_cons.1 hr with rfl | hr; exact trivial; exact (by cases hr)), fun _ _ _ hn h => e_gheap_Heap_In hn h⟩
def row_gheap_Heap_Tidy : FnRow := ⟨22, 26, [(.tmp 4)], m_gheap_Heap_Tidy⟩
theorem row_gheap_Heap_Tidy_ok : row_gheap_Heap_Tidy.Ok Tryd.prog := ⟨(by kernel_rfl : callable Tryd.prog 22 = true), Tryd.f22, Nat.le_of_ble_eq_true rfl, rfl, fun r hr => (by rcases List.mem_cons.1 hr with rfl | hr; exact trivial; exact (by cases hr)), fun _ _ _ hn h => e_gheap_Heap_Tidy hn h⟩
def row_gheap_Heap_Region : FnRow := ⟨23, 9, [(.tmp 2)], m_gheap_Heap_Region⟩
theorem row_gheap_Heap_Region_ok : row_gheap_Heap_Region.Ok Tryd.prog := ⟨(by kernel_rfl : callable Tryd.prog 23 = true), Tryd.f23, Nat.le_of_ble_eq_true rfl, rfl, fun r hr => (by rcases List.mem_cons.1 hr with rfl | hr; exact trivial; exact (by cases hr)), fun _ _ _ hn h => e_gheap_Heap_Region hn h⟩
def row_gheap_Heap_Check : FnRow := ⟨24, 49, [(.tmp 2)], m_gheap_Heap_Check⟩
theorem row_gheap_Heap_Check_ok : row_gheap_Heap_Check.Ok Tryd.prog := ⟨(by kernel_rfl : callable Tryd.prog 24 = true), Tryd.f24, Nat.le_of_ble_eq_true rfl, rfl, fun r hr => (by rcases List.mem_cons.1 hr with rfl | hr; exact trivial; exact (by cases hr)), fun _ _ _ hn h => e_gheap_Heap_Check hn h⟩
def row_tumbrellaw18_awake : FnRow := ⟨25, 45, [(.tmp 0)], m_tumbrellaw18_awake⟩
theorem row_tumbrellaw18_awake_ok : row_tumbrellaw18_awake.Ok Tryd.prog := ⟨(by kernel_rfl : callable Tryd.prog 25 = true), Tryd.f25, Nat.le_of_ble_eq_true rfl, rfl, fun r hr => (by rcases List.mem_cons.1 hr with rfl | hr; exact trivial; exact (by cases hr)), fun _ _ _ hn h => e_tumbrellaw18_awake hn h⟩
def row_sweep_Sweeper_page : FnRow := ⟨26, 42, [(.tmp 4)], m_sweep_Sweeper_page⟩
theorem row_sweep_Sweeper_page_ok : row_sweep_Sweeper_page.Ok Tryd.prog := ⟨(by kernel_rfl : callable Tryd.prog 26 = true), Tryd.f26, Nat.le_of_ble_eq_true rfl, rfl, fun r hr => (by rcases List.mem_cons.1 hr with rfl | hr; exact trivial; exact (by cases hr)), fun _ _ _ hn h => e_sweep_Sweeper_page hn h⟩
def row_region_New : FnRow := ⟨27, 59, [(.tmp 2), (.tmp 3)], m_region_New⟩
theorem row_region_New_ok : row_region_New.Ok Tryd.prog := ⟨(by kernel_rfl : callable Tryd.prog 27 = true), Tryd.f27, Nat.le_of_ble_eq_true rfl, rfl, fun r hr => (by rcases List.mem_cons.1 hr with rfl | hr; exact trivial; exact (by rcases List.mem_cons.1 hr with rfl | hr; exact trivial; exact (by cases hr))), fun _ _ _ hn h => e_region_New hn h⟩
def row_tumbrelref09_New : FnRow := ⟨28, 38, [(.tmp 6)], m_tumbrelref09_New⟩
theorem row_tumbrelref09_New_ok : row_tumbrelref09_New.Ok Tryd.prog := ⟨(by kernel_rfl : callable Tryd.prog 28 = true), Tryd.f28, Nat.le_of_ble_eq_true rfl, rfl, fun r hr => (by rcases List.mem_cons.1 hr with rfl | hr; exact trivial; exact (by cases hr)), fun _ _ _ hn h => e_tumbrelref09_New hn h⟩
def row_region_Region_Config : FnRow := ⟨29, 10, [(.cell 2 57 3)], m_region_Region_Config⟩
theorem row_region_Region_Config_ok : row_region_Region_Config.Ok Tryd.prog := ⟨(by kernel_rfl : callable Tryd.prog 29 = true), Tryd.f29, Nat.le_of_ble_eq_true rfl, rfl, fun r hr => (by rcases List.mem_cons.1 hr with rfl | hr; exact (by show aggT Tryd.prog 57 = some 3; kernel_rfl); exact (by cases hr)), fun _ _ _ hn h => e_region_Region_Config hn h⟩
def row_region_Region_Arena : FnRow := ⟨30, 9, [(.tmp 2)], m_region_Region_Arena⟩
theorem row_region_Region_Arena_ok : row_region_Region_Arena.Ok Tryd.prog := ⟨(by kernel_rfl : callable Tryd.prog 30 = true), Tryd.f30, Nat.le_of_ble_eq_true rfl, rfl, fun r hr => (by rcases List.mem_cons.1 hr with rfl | hr; exact trivial; exact (by cases hr)), fun _ _ _ hn h => e_region_Region_Arena hn h⟩
def row_arena_Arena_Len : FnRow := ⟨31, 10, [(.tmp 2)], m_arena_Arena_Len⟩
theorem row_arena_Arena_Len_ok : row_arena_Arena_Len.Ok Tryd.prog := ⟨(by kernel_rfl : callable Tryd.prog 31 = true), Tryd.f31, Nat.le_of_ble_eq_true rfl, rfl, fun r hr => (by rcases List.mem_cons.1 hr with rfl | hr; exact trivial; exact (by cases hr)), fun _ _ _ hn h => e_arena_Arena_Len hn h⟩
def row_bitset_New : FnRow := ⟨32, 14, [(.tmp 2)], m_bitset_New⟩
theorem row_bitset_New_ok : row_bitset_New.Ok Tryd.prog := ⟨(by kernel_rfl : callable Tryd.prog 32 = true), Tryd.f32, Nat.le_of_ble_eq_true rfl, rfl, fun r hr => (by rcases List.mem_cons.1 hr with rfl | hr; exact trivial; exact (by cases hr)), fun _ _ _ hn h => e_bitset_New hn h⟩
def row_object_Shape_Class : FnRow := ⟨33, 23, [(.tmp 2), (.tmp 3)], m_object_Shape_Class⟩
theorem row_object_Shape_Class_ok : row_object_Shape_Class.Ok Tryd.prog := ⟨(by kernel_rfl : callable Tryd.prog 33 = true), Tryd.f33, Nat.le_of_ble_eq_true rfl, rfl, fun r hr => (by rcases List.mem_cons.1 hr with rfl | hr; exact trivial; exact (by rcases List.mem_cons.1 hr with rfl | hr; exact trivial; exact (by cases hr))), fun _ _ _ hn h => e_object_Shape_Class hn h⟩
def row_gheap_Heap_place : FnRow := ⟨34, 40, [(.tmp 4), (.tmp 5)], m_gheap_Heap_place⟩
theorem row_gheap_Heap_place_ok : row_gheap_Heap_place.Ok Tryd.prog := ⟨(by kernel_rfl : callable Tryd.prog 34 = true), Tryd.f34, Nat.le_of_ble_eq_true rfl, rfl, fun r hr => (by rcases List.mem_cons.1 hr with rfl | hr; exact trivial; exact (by rcases List.mem_cons.1 hr with rfl | hr; exact trivial; exact (by cases hr))), fun _ _ _ hn h => e_gheap_Heap_place hn h⟩
def row_region_Region_Pages : FnRow := ⟨35, 9, [(.tmp 2)], m_region_Region_Pages⟩
theorem row_region_Region_Pages_ok : row_region_Region_Pages.Ok Tryd.prog := ⟨(by kernel_rfl : callable Tryd.prog 35 = true), Tryd.f35, Nat.le_of_ble_eq_true rfl, rfl, fun r hr => (by rcases List.mem_cons.1 hr with rfl | hr; exact trivial; exact (by cases hr)), fun _ _ _ hn h => e_region_Region_Pages hn h⟩
def row_pages_Table_Map : FnRow := ⟨36, 73, [(.tmp 8), (.tmp 9)], m_pages_Table_Map⟩
theorem row_pages_Table_Map_ok : row_pages_Table_Map.Ok Tryd.prog := ⟨(by kernel_rfl : callable Tryd.prog 36 = true), Tryd.f36, Nat.le_of_ble_eq_true rfl, rfl, fun r hr => (by rcases List.mem_cons.1 hr with rfl | hr; exact trivial; exact (by rcases List.mem_cons.1 hr with rfl | hr; exact trivial; exact (by cases hr))), fun _ _ _ hn h => e_pages_Table_Map hn h⟩
def row_class_Base : FnRow := ⟨37, 30, [(.tmp 6)], m_class_Base⟩
theorem row_class_Base_ok : row_class_Base.Ok Tryd.prog := ⟨(by kernel_rfl : callable Tryd.prog 37 = true), Tryd.f37, Nat.le_of_ble_eq_true rfl, rfl, fun r hr => (by rcases List.mem_cons.1 hr with rfl | hr; exact trivial; exact (by cases hr)), fun _ _ _ hn h => e_class_Base hn h⟩
def row_object_Make : FnRow := ⟨38, 42, [(.tmp 6)], m_object_Make⟩
theorem row_object_Make_ok : row_object_Make.Ok Tryd.prog := ⟨(by kernel_rfl : callable Tryd.prog 38 = true), Tryd.f38, Nat.le_of_ble_eq_true rfl, rfl, fun r hr => (by rcases List.mem_cons.1 hr with rfl | hr; exact trivial; exact (by cases hr)), fun _ _ _ hn h => e_object_Make hn h⟩
def row_bitset_Set_Put : FnRow := ⟨39, 43, [(.tmp 6)], m_bitset_Set_Put⟩
theorem row_bitset_Set_Put_ok : row_bitset_Set_Put.Ok Tryd.prog := ⟨(by kernel_rfl : callable Tryd.prog 39 = true), Tryd.f39, Nat.le_of_ble_eq_true rfl, rfl, fun r hr => (by rcases List.mem_cons.1 hr with rfl | hr; exact trivial; exact (by cases hr)), fun _ _ _ hn h => e_bitset_Set_Put hn h⟩
def row_pages_Table_Longest : FnRow := ⟨40, 38, [(.tmp 6)], m_pages_Table_Longest⟩
theorem row_pages_Table_Longest_ok : row_pages_Table_Longest.Ok Tryd.prog := ⟨(by kernel_rfl : callable Tryd.prog 40 = true), Tryd.f40, Nat.le_of_ble_eq_true rfl, rfl, fun r hr => (by rcases List.mem_cons.1 hr with rfl | hr; exact trivial; exact (by cases hr)), fun _ _ _ hn h => e_pages_Table_Longest hn h⟩
def row_bitset_Set_Has : FnRow := ⟨41, 23, [(.tmp 4)], m_bitset_Set_Has⟩
theorem row_bitset_Set_Has_ok : row_bitset_Set_Has.Ok Tryd.prog := ⟨(by kernel_rfl : callable Tryd.prog 41 = true), Tryd.f41, Nat.le_of_ble_eq_true rfl, rfl, fun r hr => (by rcases List.mem_cons.1 hr with rfl | hr; exact trivial; exact (by cases hr)), fun _ _ _ hn h => e_bitset_Set_Has hn h⟩
def row_gheap_places : FnRow := ⟨42, 20, [(.tmp 2)], m_gheap_places⟩
theorem row_gheap_places_ok : row_gheap_places.Ok Tryd.prog := ⟨(by kernel_rfl : callable Tryd.prog 42 = true), Tryd.f42, Nat.le_of_ble_eq_true rfl, rfl, fun r hr => (by rcases List.mem_cons.1 hr with rfl | hr; exact trivial; exact (by cases hr)), fun _ _ _ hn h => e_gheap_places hn h⟩
def row_arena_Arena_Fill : FnRow := ⟨43, 33, [(.tmp 8)], m_arena_Arena_Fill⟩
theorem row_arena_Arena_Fill_ok : row_arena_Arena_Fill.Ok Tryd.prog := ⟨(by kernel_rfl : callable Tryd.prog 43 = true), Tryd.f43, Nat.le_of_ble_eq_true rfl, rfl, fun r hr => (by rcases List.mem_cons.1 hr with rfl | hr; exact trivial; exact (by cases hr)), fun _ _ _ hn h => e_arena_Arena_Fill hn h⟩
def row_class_Size : FnRow := ⟨44, 8, [(.tmp 2)], m_class_Size⟩
theorem row_class_Size_ok : row_class_Size.Ok Tryd.prog := ⟨(by kernel_rfl : callable Tryd.prog 44 = true), Tryd.f44, Nat.le_of_ble_eq_true rfl, rfl, fun r hr => (by rcases List.mem_cons.1 hr with rfl | hr; exact trivial; exact (by cases hr)), fun _ _ _ hn h => e_class_Size hn h⟩
def row_gheap_Heap_row : FnRow := ⟨45, 12, [(.cell 4 75 4)], m_gheap_Heap_row⟩
theorem row_gheap_Heap_row_ok : row_gheap_Heap_row.Ok Tryd.prog := ⟨(by kernel_rfl : callable Tryd.prog 45 = true), Tryd.f45, Nat.le_of_ble_eq_true rfl, rfl, fun r hr => (by rcases List.mem_cons.1 hr with rfl | hr; exact (by show aggT Tryd.prog 75 = some 4; kernel_rfl); exact (by cases hr)), fun _ _ _ hn h => e_gheap_Heap_row hn h⟩
def row_bitset_Set_Count : FnRow := ⟨46, 24, [(.tmp 2)], m_bitset_Set_Count⟩
theorem row_bitset_Set_Count_ok : row_bitset_Set_Count.Ok Tryd.prog := ⟨(by kernel_rfl : callable Tryd.prog 46 = true), Tryd.f46, Nat.le_of_ble_eq_true rfl, rfl, fun r hr => (by rcases List.mem_cons.1 hr with rfl | hr; exact trivial; exact (by cases hr)), fun _ _ _ hn h => e_bitset_Set_Count hn h⟩
def row_bitset_Set_Len : FnRow := ⟨47, 9, [(.tmp 2)], m_bitset_Set_Len⟩
theorem row_bitset_Set_Len_ok : row_bitset_Set_Len.Ok Tryd.prog := ⟨(by kernel_rfl : callable Tryd.prog 47 = true), Tryd.f47, Nat.le_of_ble_eq_true rfl, rfl, fun r hr => (by rcases List.mem_cons.1 hr with rfl | hr; exact trivial; exact (by cases hr)), fun _ _ _ hn h => e_bitset_Set_Len hn h⟩
def row_gheap_Heap_managed : FnRow := ⟨48, 14, [(.tmp 4)], m_gheap_Heap_managed⟩
theorem row_gheap_Heap_managed_ok : row_gheap_Heap_managed.Ok Tryd.prog := ⟨(by kernel_rfl : callable Tryd.prog 48 = true), Tryd.f48, Nat.le_of_ble_eq_true rfl, rfl, fun r hr => (by rcases List.mem_cons.1 hr with rfl | hr; exact trivial; exact (by cases hr)), fun _ _ _ hn h => e_gheap_Heap_managed hn h⟩
def row_pages_Table_Unmap : FnRow := ⟨49, 26, [(.tmp 4)], m_pages_Table_Unmap⟩
theorem row_pages_Table_Unmap_ok : row_pages_Table_Unmap.Ok Tryd.prog := ⟨(by kernel_rfl : callable Tryd.prog 49 = true), Tryd.f49, Nat.le_of_ble_eq_true rfl, rfl, fun r hr => (by rcases List.mem_cons.1 hr with rfl | hr; exact trivial; exact (by cases hr)), fun _ _ _ hn h => e_pages_Table_Unmap hn h⟩
def row_object_Head : FnRow := ⟨50, 52, [(.cell 4 40 2), (.tmp 5)], m_object_Head⟩
theorem row_object_Head_ok : row_object_Head.Ok Tryd.prog := ⟨(by kernel_rfl : callable Tryd.prog 50 = true), Tryd.f50, Nat.le_of_ble_eq_true rfl, rfl, fun r hr => (by rcases List.mem_cons.1 hr with rfl | hr; exact (by show aggT Tryd.prog 40 = some 2; kernel_rfl); exact (by rcases List.mem_cons.1 hr with rfl | hr; exact trivial; exact (by cases hr))), fun _ _ _ hn h => e_object_Head hn h⟩
def row_arena_New : FnRow := ⟨51, 10, [(.tmp 2)], m_arena_New⟩
theorem row_arena_New_ok : row_arena_New.Ok Tryd.prog := ⟨(by kernel_rfl : callable Tryd.prog 51 = true), Tryd.f51, Nat.le_of_ble_eq_true rfl, rfl, fun r hr => (by rcases List.mem_cons.1 hr with rfl | hr; exact trivial; exact (by cases hr)), fun _ _ _ hn h => e_arena_New hn h⟩
def row_link_New : FnRow := ⟨52, 7, [(.cell 2 87 1)], m_link_New⟩
theorem row_link_New_ok : row_link_New.Ok Tryd.prog := ⟨(by kernel_rfl : callable Tryd.prog 52 = true), Tryd.f52, Nat.le_of_ble_eq_true rfl, rfl, fun r hr => (by rcases List.mem_cons.1 hr with rfl | hr; exact (by show aggT Tryd.prog 87 = some 1; kernel_rfl); exact (by cases hr)), fun _ _ _ hn h => e_link_New hn h⟩
def row_pages_New : FnRow := ⟨53, 9, [(.tmp 2)], m_pages_New⟩
theorem row_pages_New_ok : row_pages_New.Ok Tryd.prog := ⟨(by kernel_rfl : callable Tryd.prog 53 = true), Tryd.f53, Nat.le_of_ble_eq_true rfl, rfl, fun r hr => (by rcases List.mem_cons.1 hr with rfl | hr; exact trivial; exact (by cases hr)), fun _ _ _ hn h => e_pages_New hn h⟩
def row_large_New : FnRow := ⟨54, 12, [(.tmp 4)], m_large_New⟩
theorem row_large_New_ok : row_large_New.Ok Tryd.prog := ⟨(by kernel_rfl : callable Tryd.prog 54 = true), Tryd.f54, Nat.le_of_ble_eq_true rfl, rfl, fun r hr => (by rcases List.mem_cons.1 hr with rfl | hr; exact trivial; exact (by cases hr)), fun _ _ _ hn h => e_large_New hn h⟩
def row_tumbrelref06_Key : FnRow := ⟨55, 6, [(.tmp 2)], m_tumbrelref06_Key⟩
theorem row_tumbrelref06_Key_ok : row_tumbrelref06_Key.Ok Tryd.prog := ⟨(by kernel_rfl : callable Tryd.prog 55 = true), Tryd.f55, Nat.le_of_ble_eq_true rfl, rfl, fun r hr => (by rcases List.mem_cons.1 hr with rfl | hr; exact trivial; exact (by cases hr)), fun _ _ _ hn h => e_tumbrelref06_Key hn h⟩
def row_tumbrelref04_New : FnRow := ⟨56, 9, [(.tmp 2)], m_tumbrelref04_New⟩
theorem row_tumbrelref04_New_ok : row_tumbrelref04_New.Ok Tryd.prog := ⟨(by kernel_rfl : callable Tryd.prog 56 = true), Tryd.f56, Nat.le_of_ble_eq_true rfl, rfl, fun r hr => (by rcases List.mem_cons.1 hr with rfl | hr; exact trivial; exact (by cases hr)), fun _ _ _ hn h => e_tumbrelref04_New hn h⟩
def row_object_Shape_Bytes : FnRow := ⟨57, 14, [(.tmp 2), (.tmp 3)], m_object_Shape_Bytes⟩
theorem row_object_Shape_Bytes_ok : row_object_Shape_Bytes.Ok Tryd.prog := ⟨(by kernel_rfl : callable Tryd.prog 57 = true), Tryd.f57, Nat.le_of_ble_eq_true rfl, rfl, fun r hr => (by rcases List.mem_cons.1 hr with rfl | hr; exact trivial; exact (by rcases List.mem_cons.1 hr with rfl | hr; exact trivial; exact (by cases hr))), fun _ _ _ hn h => e_object_Shape_Bytes hn h⟩
def row_gheap_Heap_slot : FnRow := ⟨58, 32, [(.tmp 4), (.tmp 5)], m_gheap_Heap_slot⟩
theorem row_gheap_Heap_slot_ok : row_gheap_Heap_slot.Ok Tryd.prog := ⟨(by kernel_rfl : callable Tryd.prog 58 = true), Tryd.f58, Nat.le_of_ble_eq_true rfl, rfl, fun r hr => (by rcases List.mem_cons.1 hr with rfl | hr; exact trivial; exact (by rcases List.mem_cons.1 hr with rfl | hr; exact trivial; exact (by cases hr))), fun _ _ _ hn h => e_gheap_Heap_slot hn h⟩
def row_pages_Row_first : FnRow := ⟨59, 16, [(.tmp 2)], m_pages_Row_first⟩
theorem row_pages_Row_first_ok : row_pages_Row_first.Ok Tryd.prog := ⟨(by kernel_rfl : callable Tryd.prog 59 = true), Tryd.f59, Nat.le_of_ble_eq_true rfl, rfl, fun r hr => (by rcases List.mem_cons.1 hr with rfl | hr; exact trivial; exact (by cases hr)), fun _ _ _ hn h => e_pages_Row_first hn h⟩
def row_pages_Table_cut : FnRow := ⟨60, 18, [(.tmp 6), (.tmp 7)], m_pages_Table_cut⟩
theorem row_pages_Table_cut_ok : row_pages_Table_cut.Ok Tryd.prog := ⟨(by kernel_rfl : callable Tryd.prog 60 = true), Tryd.f60, Nat.le_of_ble_eq_true rfl, rfl, fun r hr => (by rcases List.mem_cons.1 hr with rfl | hr; exact trivial; exact (by rcases List.mem_cons.1 hr with rfl | hr; exact trivial; exact (by cases hr))), fun _ _ _ hn h => e_pages_Table_cut hn h⟩
def row_pages_Table_place : FnRow := ⟨61, 36, [(.tmp 8), (.tmp 9)], m_pages_Table_place⟩
theorem row_pages_Table_place_ok : row_pages_Table_place.Ok Tryd.prog := ⟨(by kernel_rfl : callable Tryd.prog 61 = true), Tryd.f61, Nat.le_of_ble_eq_true rfl, rfl, fun r hr => (by rcases List.mem_cons.1 hr with rfl | hr; exact trivial; exact (by rcases List.mem_cons.1 hr with rfl | hr; exact trivial; exact (by cases hr))), fun _ _ _ hn h => e_pages_Table_place hn h⟩
def row_class_Slots : FnRow := ⟨62, 9, [(.tmp 2)], m_class_Slots⟩
theorem row_class_Slots_ok : row_class_Slots.Ok Tryd.prog := ⟨(by kernel_rfl : callable Tryd.prog 62 = true), Tryd.f62, Nat.le_of_ble_eq_true rfl, rfl, fun r hr => (by rcases List.mem_cons.1 hr with rfl | hr; exact trivial; exact (by cases hr)), fun _ _ _ hn h => e_class_Slots hn h⟩
def row_arena_Arena_Word : FnRow := ⟨63, 22, [(.tmp 4), (.tmp 5)], m_arena_Arena_Word⟩
theorem row_arena_Arena_Word_ok : row_arena_Arena_Word.Ok Tryd.prog := ⟨(by kernel_rfl : callable Tryd.prog 63 = true), Tryd.f63, Nat.le_of_ble_eq_true rfl, rfl, fun r hr => (by rcases List.mem_cons.1 hr with rfl | hr; exact trivial; exact (by rcases List.mem_cons.1 hr with rfl | hr; exact trivial; exact (by cases hr))), fun _ _ _ hn h => e_arena_Arena_Word hn h⟩
def row_arena_Arena_SetWord : FnRow := ⟨64, 23, [(.tmp 6)], m_arena_Arena_SetWord⟩
theorem row_arena_Arena_SetWord_ok : row_arena_Arena_SetWord.Ok Tryd.prog := ⟨(by kernel_rfl : callable Tryd.prog 64 = true), Tryd.f64, Nat.le_of_ble_eq_true rfl, rfl, fun r hr => (by rcases List.mem_cons.1 hr with rfl | hr; exact trivial; exact (by cases hr)), fun _ _ _ hn h => e_arena_Arena_SetWord hn h⟩
def row_object_Shape_word : FnRow := ⟨65, 12, [(.tmp 2)], m_object_Shape_word⟩
theorem row_object_Shape_word_ok : row_object_Shape_word.Ok Tryd.prog := ⟨(by kernel_rfl : callable Tryd.prog 65 = true), Tryd.f65, Nat.le_of_ble_eq_true rfl, rfl, fun r hr => (by rcases List.mem_cons.1 hr with rfl | hr; exact trivial; exact (by cases hr)), fun _ _ _ hn h => e_object_Shape_word hn h⟩
def row_bitset_Set_in : FnRow := ⟨66, 13, [(.tmp 4)], m_bitset_Set_in⟩
theorem row_bitset_Set_in_ok : row_bitset_Set_in.Ok Tryd.prog := ⟨(by kernel_rfl : callable Tryd.prog 66 = true), Tryd.f66, Nat.le_of_ble_eq_true rfl, rfl, fun r hr => (by rcases List.mem_cons.1 hr with rfl | hr; exact trivial; exact (by cases hr)), fun _ _ _ hn h => e_bitset_Set_in hn h⟩
def row_pages_Row_free : FnRow := ⟨67, 6, [(.tmp 2)], m_pages_Row_free⟩
theorem row_pages_Row_free_ok : row_pages_Row_free.Ok Tryd.prog := ⟨(by kernel_rfl : callable Tryd.prog 67 = true), Tryd.f67, Nat.le_of_ble_eq_true rfl, rfl, fun r hr => (by rcases List.mem_cons.1 hr with rfl | hr; exact trivial; exact (by cases hr)), fun _ _ _ hn h => e_pages_Row_free hn h⟩
def row_bitset_Set_All : FnRow := ⟨68, 24, [(.tmp 2)], m_bitset_Set_All⟩
theorem row_bitset_Set_All_ok : row_bitset_Set_All.Ok Tryd.prog := ⟨(by kernel_rfl : callable Tryd.prog 68 = true), Tryd.f68, Nat.le_of_ble_eq_true rfl, rfl, fun r hr => (by rcases List.mem_cons.1 hr with rfl | hr; exact trivial; exact (by cases hr)), fun _ _ _ hn h => e_bitset_Set_All hn h⟩
def row_arena_Arena_in : FnRow := ⟨69, 37, [(.tmp 6)], m_arena_Arena_in⟩
theorem row_arena_Arena_in_ok : row_arena_Arena_in.Ok Tryd.prog := ⟨(by kernel_rfl : callable Tryd.prog 69 = true), Tryd.f69, Nat.le_of_ble_eq_true rfl, rfl, fun r hr => (by rcases List.mem_cons.1 hr with rfl | hr; exact trivial; exact (by cases hr)), fun _ _ _ hn h => e_arena_Arena_in hn h⟩
def row_class_may : FnRow := ⟨70, 9, [(.tmp 2)], m_class_may⟩
theorem row_class_may_ok : row_class_may.Ok Tryd.prog := ⟨(by kernel_rfl : callable Tryd.prog 70 = true), Tryd.f70, Nat.le_of_ble_eq_true rfl, rfl, fun r hr => (by rcases List.mem_cons.1 hr with rfl | hr; exact trivial; exact (by cases hr)), fun _ _ _ hn h => e_class_may hn h⟩
def row_pages_Table_Row : FnRow := ⟨71, 21, [(.cell 4 75 4)], m_pages_Table_Row⟩
theorem row_pages_Table_Row_ok : row_pages_Table_Row.Ok Tryd.prog := ⟨(by kernel_rfl : callable Tryd.prog 71 = true), Tryd.f71, Nat.le_of_ble_eq_true rfl, rfl, fun r hr => (by rcases List.mem_cons.1 hr with rfl | hr; exact (by show aggT Tryd.prog 75 = some 4; kernel_rfl); exact (by cases hr)), fun _ _ _ hn h => e_pages_Table_Row hn h⟩
def row_math_bits_OnesCount64 : FnRow := ⟨72, 35, [(.tmp 2)], m_math_bits_OnesCount64⟩
theorem row_math_bits_OnesCount64_ok : row_math_bits_OnesCount64.Ok Tryd.prog := ⟨(by kernel_rfl : callable Tryd.prog 72 = true), Tryd.f72, Nat.le_of_ble_eq_true rfl, rfl, fun r hr => (by rcases List.mem_cons.1 hr with rfl | hr; exact trivial; exact (by cases hr)), fun _ _ _ hn h => e_math_bits_OnesCount64 hn h⟩
def row_link_mix : FnRow := ⟨73, 17, [(.tmp 2)], m_link_mix⟩
theorem row_link_mix_ok : row_link_mix.Ok Tryd.prog := ⟨(by kernel_rfl : callable Tryd.prog 73 = true), Tryd.f73, Nat.le_of_ble_eq_true rfl, rfl, fun r hr => (by rcases List.mem_cons.1 hr with rfl | hr; exact trivial; exact (by cases hr)), fun _ _ _ hn h => e_link_mix hn h⟩
def row_tumbrelref06_Mix : FnRow := ⟨74, 19, [(.tmp 2)], m_tumbrelref06_Mix⟩
theorem row_tumbrelref06_Mix_ok : row_tumbrelref06_Mix.Ok Tryd.prog := ⟨(by kernel_rfl : callable Tryd.prog 74 = true), Tryd.f74, Nat.le_of_ble_eq_true rfl, rfl, fun r hr => (by rcases List.mem_cons.1 hr with rfl | hr; exact trivial; exact (by cases hr)), fun _ _ _ hn h => e_tumbrelref06_Mix hn h⟩
def row_object_Shape_may : FnRow := ⟨75, 24, [(.tmp 2)], m_object_Shape_may⟩
theorem row_object_Shape_may_ok : row_object_Shape_may.Ok Tryd.prog := ⟨(by kernel_rfl : callable Tryd.prog 75 = true), Tryd.f75, Nat.le_of_ble_eq_true rfl, rfl, fun r hr => (by rcases List.mem_cons.1 hr with rfl | hr; exact trivial; exact (by cases hr)), fun _ _ _ hn h => e_object_Shape_may hn h⟩
def row_pages_Table_Len : FnRow := ⟨76, 10, [(.tmp 2)], m_pages_Table_Len⟩
theorem row_pages_Table_Len_ok : row_pages_Table_Len.Ok Tryd.prog := ⟨(by kernel_rfl : callable Tryd.prog 76 = true), Tryd.f76, Nat.le_of_ble_eq_true rfl, rfl, fun r hr => (by rcases List.mem_cons.1 hr with rfl | hr; exact trivial; exact (by cases hr)), fun _ _ _ hn h => e_pages_Table_Len hn h⟩
def row_arena_Arena_word : FnRow := ⟨77, 15, [(.tmp 4)], m_arena_Arena_word⟩
theorem row_arena_Arena_word_ok : row_arena_Arena_word.Ok Tryd.prog := ⟨(by kernel_rfl : callable Tryd.prog 77 = true), Tryd.f77, Nat.le_of_ble_eq_true rfl, rfl, fun r hr => (by rcases List.mem_cons.1 hr with rfl | hr; exact trivial; exact (by cases hr)), fun _ _ _ hn h => e_arena_Arena_word hn h⟩
def row_num_Get : FnRow := ⟨78, 23, [(.tmp 2)], m_num_Get⟩
theorem row_num_Get_ok : row_num_Get.Ok Tryd.prog := ⟨(by kernel_rfl : callable Tryd.prog 78 = true), Tryd.f78, Nat.le_of_ble_eq_true rfl, rfl, fun r hr => (by rcases List.mem_cons.1 hr with rfl | hr; exact trivial; exact (by cases hr)), fun _ _ _ hn h => e_num_Get hn h⟩
def row_num_Put : FnRow := ⟨79, 30, [(.tmp 4)], m_num_Put⟩
theorem row_num_Put_ok : row_num_Put.Ok Tryd.prog := ⟨(by kernel_rfl : callable Tryd.prog 79 = true), Tryd.f79, Nat.le_of_ble_eq_true rfl, rfl, fun r hr => (by rcases List.mem_cons.1 hr with rfl | hr; exact trivial; exact (by cases hr)), fun _ _ _ hn h => e_num_Put hn h⟩
def row_bitset_Set_Next : FnRow := ⟨80, 57, [(.tmp 6), (.tmp 7)], m_bitset_Set_Next⟩
theorem row_bitset_Set_Next_ok : row_bitset_Set_Next.Ok Tryd.prog := ⟨(by kernel_rfl : callable Tryd.prog 80 = true), Tryd.f80, Nat.le_of_ble_eq_true rfl, rfl, fun r hr => (by rcases List.mem_cons.1 hr with rfl | hr; exact trivial; exact (by rcases List.mem_cons.1 hr with rfl | hr; exact trivial; exact (by cases hr))), fun _ _ _ hn h => e_bitset_Set_Next hn h⟩
def row_math_bits_TrailingZeros64 : FnRow := ⟨81, 14, [(.tmp 2)], m_math_bits_TrailingZeros64⟩
theorem row_math_bits_TrailingZeros64_ok : row_math_bits_TrailingZeros64.Ok Tryd.prog := ⟨(by kernel_rfl : callable Tryd.prog 81 = true), Tryd.f81, Nat.le_of_ble_eq_true rfl, rfl, fun r hr => (by rcases List.mem_cons.1 hr with rfl | hr; exact trivial; exact (by cases hr)), fun _ _ _ hn h => e_math_bits_TrailingZeros64 hn h⟩
def row_bitset_bit : FnRow := ⟨82, 4, [(.tmp 2)], m_bitset_bit⟩
theorem row_bitset_bit_ok : row_bitset_bit.Ok Tryd.prog := ⟨(by kernel_rfl : callable Tryd.prog 82 = true), Tryd.f82, Nat.le_of_ble_eq_true rfl, rfl, fun r hr => (by rcases List.mem_cons.1 hr with rfl | hr; exact trivial; exact (by cases hr)), fun _ _ _ hn h => e_bitset_bit hn h⟩
def rows : List FnRow := [row_tumbrellaw20_SweepNil, row_tumbrellaw18_GheapNil, row_sweep_New, row_sweep_Sweeper_Step, row_tumbrellaw18_Make, row_sweep_Sweeper_Left, row_sweep_Sweeper_Gone, row_tumbrellaw20_awake, row_gheap_New, row_gheap_Heap_Alloc, row_gheap_Heap_Room, row_gheap_Heap_Has, row_gheap_Heap_All, row_gheap_Heap_Free, row_gheap_Heap_Mark, row_gheap_Heap_Marked, row_gheap_Heap_Unmark, row_gheap_Heap_Pages, row_gheap_Heap_In, row_gheap_Heap_Tidy, row_gheap_Heap_Region, row_gheap_Heap_Check, row_tumbrellaw18_awake, row_sweep_Sweeper_page, row_region_New, row_tumbrelref09_New, row_region_Region_Config, row_region_Region_Arena, row_arena_Arena_Len, row_bitset_New, row_object_Shape_Class, row_gheap_Heap_place, row_region_Region_Pages, row_pages_Table_Map, row_class_Base, row_object_Make, row_bitset_Set_Put, row_pages_Table_Longest, row_bitset_Set_Has, row_gheap_places, row_arena_Arena_Fill, row_class_Size, row_gheap_Heap_row, row_bitset_Set_Count, row_bitset_Set_Len, row_gheap_Heap_managed, row_pages_Table_Unmap, row_object_Head, row_arena_New, row_link_New, row_pages_New, row_large_New, row_tumbrelref06_Key, row_tumbrelref04_New, row_object_Shape_Bytes, row_gheap_Heap_slot, row_pages_Row_first, row_pages_Table_cut, row_pages_Table_place, row_class_Slots, row_arena_Arena_Word, row_arena_Arena_SetWord, row_object_Shape_word, row_bitset_Set_in, row_pages_Row_free, row_bitset_Set_All, row_arena_Arena_in, row_class_may, row_pages_Table_Row, row_math_bits_OnesCount64, row_link_mix, row_tumbrelref06_Mix, row_object_Shape_may, row_pages_Table_Len, row_arena_Arena_word, row_num_Get, row_num_Put, row_bitset_Set_Next, row_math_bits_TrailingZeros64, row_bitset_bit]
theorem rows_ok : ∀ x ∈ rows, x.Ok Tryd.prog := by
  refine List.forall_mem_cons.2 ⟨row_tumbrellaw20_SweepNil_ok, ?_⟩
  refine List.forall_mem_cons.2 ⟨row_tumbrellaw18_GheapNil_ok, ?_⟩
  refine List.forall_mem_cons.2 ⟨row_sweep_New_ok, ?_⟩
  refine List.forall_mem_cons.2 ⟨row_sweep_Sweeper_Step_ok, ?_⟩
  refine List.forall_mem_cons.2 ⟨row_tumbrellaw18_Make_ok, ?_⟩
  refine List.forall_mem_cons.2 ⟨row_sweep_Sweeper_Left_ok, ?_⟩
  refine List.forall_mem_cons.2 ⟨row_sweep_Sweeper_Gone_ok, ?_⟩
  refine List.forall_mem_cons.2 ⟨row_tumbrellaw20_awake_ok, ?_⟩
  refine List.forall_mem_cons.2 ⟨row_gheap_New_ok, ?_⟩
  refine List.forall_mem_cons.2 ⟨row_gheap_Heap_Alloc_ok, ?_⟩
  refine List.forall_mem_cons.2 ⟨row_gheap_Heap_Room_ok, ?_⟩
  refine List.forall_mem_cons.2 ⟨row_gheap_Heap_Has_ok, ?_⟩
  refine List.forall_mem_cons.2 ⟨row_gheap_Heap_All_ok, ?_⟩
  refine List.forall_mem_cons.2 ⟨row_gheap_Heap_Free_ok, ?_⟩
  refine List.forall_mem_cons.2 ⟨row_gheap_Heap_Mark_ok, ?_⟩
  refine List.forall_mem_cons.2 ⟨row_gheap_Heap_Marked_ok, ?_⟩
  refine List.forall_mem_cons.2 ⟨row_gheap_Heap_Unmark_ok, ?_⟩
  refine List.forall_mem_cons.2 ⟨row_gheap_Heap_Pages_ok, ?_⟩
  refine List.forall_mem_cons.2 ⟨row_gheap_Heap_In_ok, ?_⟩
  refine List.forall_mem_cons.2 ⟨row_gheap_Heap_Tidy_ok, ?_⟩
  refine List.forall_mem_cons.2 ⟨row_gheap_Heap_Region_ok, ?_⟩
  refine List.forall_mem_cons.2 ⟨row_gheap_Heap_Check_ok, ?_⟩
  refine List.forall_mem_cons.2 ⟨row_tumbrellaw18_awake_ok, ?_⟩
  refine List.forall_mem_cons.2 ⟨row_sweep_Sweeper_page_ok, ?_⟩
  refine List.forall_mem_cons.2 ⟨row_region_New_ok, ?_⟩
  refine List.forall_mem_cons.2 ⟨row_tumbrelref09_New_ok, ?_⟩
  refine List.forall_mem_cons.2 ⟨row_region_Region_Config_ok, ?_⟩
  refine List.forall_mem_cons.2 ⟨row_region_Region_Arena_ok, ?_⟩
  refine List.forall_mem_cons.2 ⟨row_arena_Arena_Len_ok, ?_⟩
  refine List.forall_mem_cons.2 ⟨row_bitset_New_ok, ?_⟩
  refine List.forall_mem_cons.2 ⟨row_object_Shape_Class_ok, ?_⟩
  refine List.forall_mem_cons.2 ⟨row_gheap_Heap_place_ok, ?_⟩
  refine List.forall_mem_cons.2 ⟨row_region_Region_Pages_ok, ?_⟩
  refine List.forall_mem_cons.2 ⟨row_pages_Table_Map_ok, ?_⟩
  refine List.forall_mem_cons.2 ⟨row_class_Base_ok, ?_⟩
  refine List.forall_mem_cons.2 ⟨row_object_Make_ok, ?_⟩
  refine List.forall_mem_cons.2 ⟨row_bitset_Set_Put_ok, ?_⟩
  refine List.forall_mem_cons.2 ⟨row_pages_Table_Longest_ok, ?_⟩
  refine List.forall_mem_cons.2 ⟨row_bitset_Set_Has_ok, ?_⟩
  refine List.forall_mem_cons.2 ⟨row_gheap_places_ok, ?_⟩
  refine List.forall_mem_cons.2 ⟨row_arena_Arena_Fill_ok, ?_⟩
  refine List.forall_mem_cons.2 ⟨row_class_Size_ok, ?_⟩
  refine List.forall_mem_cons.2 ⟨row_gheap_Heap_row_ok, ?_⟩
  refine List.forall_mem_cons.2 ⟨row_bitset_Set_Count_ok, ?_⟩
  refine List.forall_mem_cons.2 ⟨row_bitset_Set_Len_ok, ?_⟩
  refine List.forall_mem_cons.2 ⟨row_gheap_Heap_managed_ok, ?_⟩
  refine List.forall_mem_cons.2 ⟨row_pages_Table_Unmap_ok, ?_⟩
  refine List.forall_mem_cons.2 ⟨row_object_Head_ok, ?_⟩
  refine List.forall_mem_cons.2 ⟨row_arena_New_ok, ?_⟩
  refine List.forall_mem_cons.2 ⟨row_link_New_ok, ?_⟩
  refine List.forall_mem_cons.2 ⟨row_pages_New_ok, ?_⟩
  refine List.forall_mem_cons.2 ⟨row_large_New_ok, ?_⟩
  refine List.forall_mem_cons.2 ⟨row_tumbrelref06_Key_ok, ?_⟩
  refine List.forall_mem_cons.2 ⟨row_tumbrelref04_New_ok, ?_⟩
  refine List.forall_mem_cons.2 ⟨row_object_Shape_Bytes_ok, ?_⟩
  refine List.forall_mem_cons.2 ⟨row_gheap_Heap_slot_ok, ?_⟩
  refine List.forall_mem_cons.2 ⟨row_pages_Row_first_ok, ?_⟩
  refine List.forall_mem_cons.2 ⟨row_pages_Table_cut_ok, ?_⟩
  refine List.forall_mem_cons.2 ⟨row_pages_Table_place_ok, ?_⟩
  refine List.forall_mem_cons.2 ⟨row_class_Slots_ok, ?_⟩
  refine List.forall_mem_cons.2 ⟨row_arena_Arena_Word_ok, ?_⟩
  refine List.forall_mem_cons.2 ⟨row_arena_Arena_SetWord_ok, ?_⟩
  refine List.forall_mem_cons.2 ⟨row_object_Shape_word_ok, ?_⟩
  refine List.forall_mem_cons.2 ⟨row_bitset_Set_in_ok, ?_⟩
  refine List.forall_mem_cons.2 ⟨row_pages_Row_free_ok, ?_⟩
  refine List.forall_mem_cons.2 ⟨row_bitset_Set_All_ok, ?_⟩
  refine List.forall_mem_cons.2 ⟨row_arena_Arena_in_ok, ?_⟩
  refine List.forall_mem_cons.2 ⟨row_class_may_ok, ?_⟩
  refine List.forall_mem_cons.2 ⟨row_pages_Table_Row_ok, ?_⟩
  refine List.forall_mem_cons.2 ⟨row_math_bits_OnesCount64_ok, ?_⟩
  refine List.forall_mem_cons.2 ⟨row_link_mix_ok, ?_⟩
  refine List.forall_mem_cons.2 ⟨row_tumbrelref06_Mix_ok, ?_⟩
  refine List.forall_mem_cons.2 ⟨row_object_Shape_may_ok, ?_⟩
  refine List.forall_mem_cons.2 ⟨row_pages_Table_Len_ok, ?_⟩
  refine List.forall_mem_cons.2 ⟨row_arena_Arena_word_ok, ?_⟩
  refine List.forall_mem_cons.2 ⟨row_num_Get_ok, ?_⟩
  refine List.forall_mem_cons.2 ⟨row_num_Put_ok, ?_⟩
  refine List.forall_mem_cons.2 ⟨row_bitset_Set_Next_ok, ?_⟩
  refine List.forall_mem_cons.2 ⟨row_math_bits_TrailingZeros64_ok, ?_⟩
  refine List.forall_mem_cons.2 ⟨row_bitset_bit_ok, ?_⟩
  exact fun x hx => by cases hx
end Go.Proofs.YtbpfcmefpangbaaDoor
