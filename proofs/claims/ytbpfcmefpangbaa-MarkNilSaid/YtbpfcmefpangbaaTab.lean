/- The table of the functions of this set, for runs by reckoning. Printed by a program of this repo (wip/tools/gencode.py). -/
import Derived.Test.YtbpfcmefpangbaaCode
import Derived.Test.YtbpfcmefpangbaaRunIter
namespace Go.Proofs.Ytbpfcmefpangbaa
open Go Go.Tum

def row_tumbrellaw19_MarkNil : FnRow := ⟨3, 63, [(.tmp 2)], m_tumbrellaw19_MarkNil⟩
theorem row_tumbrellaw19_MarkNil_ok : row_tumbrellaw19_MarkNil.Ok Try.prog := ⟨(by kernel_rfl : callable Try.prog 3 = true), Try.f3, Nat.le_of_ble_eq_true rfl, rfl, fun r hr => (by rcases List.mem_cons.1 hr with rfl | hr; exact trivial; exact (by cases hr)), fun _ _ _ hn h => e_tumbrellaw19_MarkNil hn h⟩
def row_tumbrellaw08_LargeNil : FnRow := ⟨4, 49, [(.tmp 4)], m_tumbrellaw08_LargeNil⟩
theorem row_tumbrellaw08_LargeNil_ok : row_tumbrellaw08_LargeNil.Ok Try.prog := ⟨(by kernel_rfl : callable Try.prog 4 = true), Try.f4, Nat.le_of_ble_eq_true rfl, rfl, fun r hr => (by rcases List.mem_cons.1 hr with rfl | hr; exact trivial; exact (by cases hr)), fun _ _ _ hn h => e_tumbrellaw08_LargeNil hn h⟩
def row_mark_New : FnRow := ⟨5, 8, [(.tmp 2)], m_mark_New⟩
theorem row_mark_New_ok : row_mark_New.Ok Try.prog := ⟨(by kernel_rfl : callable Try.prog 5 = true), Try.f5, Nat.le_of_ble_eq_true rfl, rfl, fun r hr => (by rcases List.mem_cons.1 hr with rfl | hr; exact trivial; exact (by cases hr)), fun _ _ _ hn h => e_mark_New hn h⟩
def row_tumbrellaw18_Make : FnRow := ⟨6, 29, [(.tmp 4)], m_tumbrellaw18_Make⟩
theorem row_tumbrellaw18_Make_ok : row_tumbrellaw18_Make.Ok Try.prog := ⟨(by kernel_rfl : callable Try.prog 6 = true), Try.f6, Nat.le_of_ble_eq_true rfl, rfl, fun r hr => (by rcases List.mem_cons.1 hr with rfl | hr; exact trivial; exact (by cases hr)), fun _ _ _ hn h => e_tumbrellaw18_Make hn h⟩
def row_mark_Marker_Root : FnRow := ⟨7, 22, [(.tmp 4)], m_mark_Marker_Root⟩
theorem row_mark_Marker_Root_ok : row_mark_Marker_Root.Ok Try.prog := ⟨(by kernel_rfl : callable Try.prog 7 = true), Try.f7, Nat.le_of_ble_eq_true rfl, rfl, fun r hr => (by rcases List.mem_cons.1 hr with rfl | hr; exact trivial; exact (by cases hr)), fun _ _ _ hn h => e_mark_Marker_Root hn h⟩
def row_mark_Marker_Step : FnRow := ⟨8, 61, [(.tmp 2)], m_mark_Marker_Step⟩
theorem row_mark_Marker_Step_ok : row_mark_Marker_Step.Ok Try.prog := ⟨(by kernel_rfl : callable Try.prog 8 = true), Try.f8, Nat.le_of_ble_eq_true rfl, rfl, fun r hr => (by rcases List.mem_cons.1 hr with rfl | hr; exact trivial; exact (by cases hr)), fun _ _ _ hn h => e_mark_Marker_Step hn h⟩
def row_mark_Marker_Left : FnRow := ⟨9, 10, [(.tmp 2)], m_mark_Marker_Left⟩
theorem row_mark_Marker_Left_ok : row_mark_Marker_Left.Ok Try.prog := ⟨(by kernel_rfl : callable Try.prog 9 = true), Try.f9, Nat.le_of_ble_eq_true rfl, rfl, fun r hr => (by rcases List.mem_cons.1 hr with rfl | hr; exact trivial; exact (by cases hr)), fun _ _ _ hn h => e_mark_Marker_Left hn h⟩
def row_mark_Marker_Looked : FnRow := ⟨10, 9, [(.tmp 2)], m_mark_Marker_Looked⟩
theorem row_mark_Marker_Looked_ok : row_mark_Marker_Looked.Ok Try.prog := ⟨(by kernel_rfl : callable Try.prog 10 = true), Try.f10, Nat.le_of_ble_eq_true rfl, rfl, fun r hr => (by rcases List.mem_cons.1 hr with rfl | hr; exact trivial; exact (by cases hr)), fun _ _ _ hn h => e_mark_Marker_Looked hn h⟩
def row_mark_Marker_Stack : FnRow := ⟨11, 10, [(.tmp 2)], m_mark_Marker_Stack⟩
theorem row_mark_Marker_Stack_ok : row_mark_Marker_Stack.Ok Try.prog := ⟨(by kernel_rfl : callable Try.prog 11 = true), Try.f11, Nat.le_of_ble_eq_true rfl, rfl, fun r hr => (by rcases List.mem_cons.1 hr with rfl | hr; exact trivial; exact (by cases hr)), fun _ _ _ hn h => e_mark_Marker_Stack hn h⟩
def row_tumbrellaw19_awake : FnRow := ⟨12, 82, [(.tmp 0)], m_tumbrellaw19_awake⟩
theorem row_tumbrellaw19_awake_ok : row_tumbrellaw19_awake.Ok Try.prog := ⟨(by kernel_rfl : callable Try.prog 12 = true), Try.f12, Nat.le_of_ble_eq_true rfl, rfl, fun r hr => (by rcases List.mem_cons.1 hr with rfl | hr; exact trivial; exact (by cases hr)), fun _ _ _ hn h => e_tumbrellaw19_awake hn h⟩
def row_large_New : FnRow := ⟨13, 12, [(.tmp 4)], m_large_New⟩
theorem row_large_New_ok : row_large_New.Ok Try.prog := ⟨(by kernel_rfl : callable Try.prog 13 = true), Try.f13, Nat.le_of_ble_eq_true rfl, rfl, fun r hr => (by rcases List.mem_cons.1 hr with rfl | hr; exact trivial; exact (by cases hr)), fun _ _ _ hn h => e_large_New hn h⟩
def row_link_New : FnRow := ⟨14, 7, [(.cell 2 41 1)], m_link_New⟩
theorem row_link_New_ok : row_link_New.Ok Try.prog := ⟨(by kernel_rfl : callable Try.prog 14 = true), Try.f14, Nat.le_of_ble_eq_true rfl, rfl, fun r hr => (by rcases List.mem_cons.1 hr with rfl | hr; exact (by show aggT Try.prog 41 = some 1; kernel_rfl); exact (by cases hr)), fun _ _ _ hn h => e_link_New hn h⟩
def row_large_Set_Drop : FnRow := ⟨15, 41, [(.tmp 4), (.tmp 5)], m_large_Set_Drop⟩
theorem row_large_Set_Drop_ok : row_large_Set_Drop.Ok Try.prog := ⟨(by kernel_rfl : callable Try.prog 15 = true), Try.f15, Nat.le_of_ble_eq_true rfl, rfl, fun r hr => (by rcases List.mem_cons.1 hr with rfl | hr; exact trivial; exact (by rcases List.mem_cons.1 hr with rfl | hr; exact trivial; exact (by cases hr))), fun _ _ _ hn h => e_large_Set_Drop hn h⟩
def row_large_Set_Make : FnRow := ⟨16, 71, [(.tmp 6)], m_large_Set_Make⟩
theorem row_large_Set_Make_ok : row_large_Set_Make.Ok Try.prog := ⟨(by kernel_rfl : callable Try.prog 16 = true), Try.f16, Nat.le_of_ble_eq_true rfl, rfl, fun r hr => (by rcases List.mem_cons.1 hr with rfl | hr; exact trivial; exact (by cases hr)), fun _ _ _ hn h => e_large_Set_Make hn h⟩
def row_large_Set_Size : FnRow := ⟨17, 13, [(.tmp 4)], m_large_Set_Size⟩
theorem row_large_Set_Size_ok : row_large_Set_Size.Ok Try.prog := ⟨(by kernel_rfl : callable Try.prog 17 = true), Try.f17, Nat.le_of_ble_eq_true rfl, rfl, fun r hr => (by rcases List.mem_cons.1 hr with rfl | hr; exact trivial; exact (by cases hr)), fun _ _ _ hn h => e_large_Set_Size hn h⟩
def row_large_Set_All : FnRow := ⟨18, 11, [(.tmp 2)], m_large_Set_All⟩
theorem row_large_Set_All_ok : row_large_Set_All.Ok Try.prog := ⟨(by kernel_rfl : callable Try.prog 18 = true), Try.f18, Nat.le_of_ble_eq_true rfl, rfl, fun r hr => (by rcases List.mem_cons.1 hr with rfl | hr; exact trivial; exact (by cases hr)), fun _ _ _ hn h => e_large_Set_All hn h⟩
def row_large_Set_Check : FnRow := ⟨19, 19, [(.tmp 2)], m_large_Set_Check⟩
theorem row_large_Set_Check_ok : row_large_Set_Check.Ok Try.prog := ⟨(by kernel_rfl : callable Try.prog 19 = true), Try.f19, Nat.le_of_ble_eq_true rfl, rfl, fun r hr => (by rcases List.mem_cons.1 hr with rfl | hr; exact trivial; exact (by cases hr)), fun _ _ _ hn h => e_large_Set_Check hn h⟩
def row_tumbrellaw08_awake : FnRow := ⟨20, 18, [(.tmp 0)], m_tumbrellaw08_awake⟩
theorem row_tumbrellaw08_awake_ok : row_tumbrellaw08_awake.Ok Try.prog := ⟨(by kernel_rfl : callable Try.prog 20 = true), Try.f20, Nat.le_of_ble_eq_true rfl, rfl, fun r hr => (by rcases List.mem_cons.1 hr with rfl | hr; exact trivial; exact (by cases hr)), fun _ _ _ hn h => e_tumbrellaw08_awake hn h⟩
def row_region_New : FnRow := ⟨21, 59, [(.tmp 2), (.tmp 3)], m_region_New⟩
theorem row_region_New_ok : row_region_New.Ok Try.prog := ⟨(by kernel_rfl : callable Try.prog 21 = true), Try.f21, Nat.le_of_ble_eq_true rfl, rfl, fun r hr => (by rcases List.mem_cons.1 hr with rfl | hr; exact trivial; exact (by rcases List.mem_cons.1 hr with rfl | hr; exact trivial; exact (by cases hr))), fun _ _ _ hn h => e_region_New hn h⟩
def row_gheap_New : FnRow := ⟨22, 27, [(.tmp 2)], m_gheap_New⟩
theorem row_gheap_New_ok : row_gheap_New.Ok Try.prog := ⟨(by kernel_rfl : callable Try.prog 22 = true), Try.f22, Nat.le_of_ble_eq_true rfl, rfl, fun r hr => (by rcases List.mem_cons.1 hr with rfl | hr; exact trivial; exact (by cases hr)), fun _ _ _ hn h => e_gheap_New hn h⟩
def row_tumbrelref09_New : FnRow := ⟨23, 38, [(.tmp 6)], m_tumbrelref09_New⟩
theorem row_tumbrelref09_New_ok : row_tumbrelref09_New.Ok Try.prog := ⟨(by kernel_rfl : callable Try.prog 23 = true), Try.f23, Nat.le_of_ble_eq_true rfl, rfl, fun r hr => (by rcases List.mem_cons.1 hr with rfl | hr; exact trivial; exact (by cases hr)), fun _ _ _ hn h => e_tumbrelref09_New hn h⟩
def row_gheap_Heap_Has : FnRow := ⟨24, 25, [(.tmp 4)], m_gheap_Heap_Has⟩
theorem row_gheap_Heap_Has_ok : row_gheap_Heap_Has.Ok Try.prog := ⟨(by kernel_rfl : callable Try.prog 24 = true), Try.f24, Nat.le_of_ble_eq_true rfl, rfl, fun r hr => (by rcases List.mem_cons.1 hr with rfl | hr; exact trivial; exact (by cases hr)), fun _ _ _ hn h => e_gheap_Heap_Has hn h⟩
def row_mark_Marker_note : FnRow := ⟨25, 20, [], m_mark_Marker_note⟩
theorem row_mark_Marker_note_ok : row_mark_Marker_note.Ok Try.prog := ⟨(by kernel_rfl : callable Try.prog 25 = true), Try.f25, Nat.le_of_ble_eq_true rfl, rfl, fun r hr => (by cases hr), fun _ _ _ hn h => e_mark_Marker_note hn h⟩
def row_object_Refs : FnRow := ⟨26, 39, [(.tmp 4), (.tmp 5)], m_object_Refs⟩
theorem row_object_Refs_ok : row_object_Refs.Ok Try.prog := ⟨(by kernel_rfl : callable Try.prog 26 = true), Try.f26, Nat.le_of_ble_eq_true rfl, rfl, fun r hr => (by rcases List.mem_cons.1 hr with rfl | hr; exact trivial; exact (by rcases List.mem_cons.1 hr with rfl | hr; exact trivial; exact (by cases hr))), fun _ _ _ hn h => e_object_Refs hn h⟩
def row_gheap_Heap_Region : FnRow := ⟨27, 9, [(.tmp 2)], m_gheap_Heap_Region⟩
theorem row_gheap_Heap_Region_ok : row_gheap_Heap_Region.Ok Try.prog := ⟨(by kernel_rfl : callable Try.prog 27 = true), Try.f27, Nat.le_of_ble_eq_true rfl, rfl, fun r hr => (by rcases List.mem_cons.1 hr with rfl | hr; exact trivial; exact (by cases hr)), fun _ _ _ hn h => e_gheap_Heap_Region hn h⟩
def row_region_Region_Arena : FnRow := ⟨28, 9, [(.tmp 2)], m_region_Region_Arena⟩
theorem row_region_Region_Arena_ok : row_region_Region_Arena.Ok Try.prog := ⟨(by kernel_rfl : callable Try.prog 28 = true), Try.f28, Nat.le_of_ble_eq_true rfl, rfl, fun r hr => (by rcases List.mem_cons.1 hr with rfl | hr; exact trivial; exact (by cases hr)), fun _ _ _ hn h => e_region_Region_Arena hn h⟩
def row_slices_Clone_int_int_ : FnRow := ⟨29, 8, [(.tmp 2)], m_slices_Clone_int_int_⟩
theorem row_slices_Clone_int_int__ok : row_slices_Clone_int_int_.Ok Try.prog := ⟨(by kernel_rfl : callable Try.prog 29 = true), Try.f29, Nat.le_of_ble_eq_true rfl, rfl, fun r hr => (by rcases List.mem_cons.1 hr with rfl | hr; exact trivial; exact (by cases hr)), fun _ _ _ hn h => e_slices_Clone_int_int_ hn h⟩
def row_gheap_Heap_Alloc : FnRow := ⟨30, 76, [(.tmp 4), (.tmp 5)], m_gheap_Heap_Alloc⟩
theorem row_gheap_Heap_Alloc_ok : row_gheap_Heap_Alloc.Ok Try.prog := ⟨(by kernel_rfl : callable Try.prog 30 = true), Try.f30, Nat.le_of_ble_eq_true rfl, rfl, fun r hr => (by rcases List.mem_cons.1 hr with rfl | hr; exact trivial; exact (by rcases List.mem_cons.1 hr with rfl | hr; exact trivial; exact (by cases hr))), fun _ _ _ hn h => e_gheap_Heap_Alloc hn h⟩
def row_object_SetRef : FnRow := ⟨31, 35, [(.tmp 8)], m_object_SetRef⟩
theorem row_object_SetRef_ok : row_object_SetRef.Ok Try.prog := ⟨(by kernel_rfl : callable Try.prog 31 = true), Try.f31, Nat.le_of_ble_eq_true rfl, rfl, fun r hr => (by rcases List.mem_cons.1 hr with rfl | hr; exact trivial; exact (by cases hr)), fun _ _ _ hn h => e_object_SetRef hn h⟩
def row_gheap_Heap_Marked : FnRow := ⟨32, 17, [(.tmp 4)], m_gheap_Heap_Marked⟩
theorem row_gheap_Heap_Marked_ok : row_gheap_Heap_Marked.Ok Try.prog := ⟨(by kernel_rfl : callable Try.prog 32 = true), Try.f32, Nat.le_of_ble_eq_true rfl, rfl, fun r hr => (by rcases List.mem_cons.1 hr with rfl | hr; exact trivial; exact (by cases hr)), fun _ _ _ hn h => e_gheap_Heap_Marked hn h⟩
def row_link_mix : FnRow := ⟨33, 17, [(.tmp 2)], m_link_mix⟩
theorem row_link_mix_ok : row_link_mix.Ok Try.prog := ⟨(by kernel_rfl : callable Try.prog 33 = true), Try.f33, Nat.le_of_ble_eq_true rfl, rfl, fun r hr => (by rcases List.mem_cons.1 hr with rfl | hr; exact trivial; exact (by cases hr)), fun _ _ _ hn h => e_link_mix hn h⟩
def row_large_Set_stands : FnRow := ⟨34, 37, [(.tmp 4)], m_large_Set_stands⟩
theorem row_large_Set_stands_ok : row_large_Set_stands.Ok Try.prog := ⟨(by kernel_rfl : callable Try.prog 34 = true), Try.f34, Nat.le_of_ble_eq_true rfl, rfl, fun r hr => (by rcases List.mem_cons.1 hr with rfl | hr; exact trivial; exact (by cases hr)), fun _ _ _ hn h => e_large_Set_stands hn h⟩
def row_arena_Arena_Fill : FnRow := ⟨35, 33, [(.tmp 8)], m_arena_Arena_Fill⟩
theorem row_arena_Arena_Fill_ok : row_arena_Arena_Fill.Ok Try.prog := ⟨(by kernel_rfl : callable Try.prog 35 = true), Try.f35, Nat.le_of_ble_eq_true rfl, rfl, fun r hr => (by rcases List.mem_cons.1 hr with rfl | hr; exact trivial; exact (by cases hr)), fun _ _ _ hn h => e_arena_Arena_Fill hn h⟩
def row_large_run : FnRow := ⟨36, 11, [(.tmp 2)], m_large_run⟩
theorem row_large_run_ok : row_large_run.Ok Try.prog := ⟨(by kernel_rfl : callable Try.prog 36 = true), Try.f36, Nat.le_of_ble_eq_true rfl, rfl, fun r hr => (by rcases List.mem_cons.1 hr with rfl | hr; exact trivial; exact (by cases hr)), fun _ _ _ hn h => e_large_run hn h⟩
def row_class_Pages : FnRow := ⟨37, 16, [(.tmp 2), (.tmp 3)], m_class_Pages⟩
theorem row_class_Pages_ok : row_class_Pages.Ok Try.prog := ⟨(by kernel_rfl : callable Try.prog 37 = true), Try.f37, Nat.le_of_ble_eq_true rfl, rfl, fun r hr => (by rcases List.mem_cons.1 hr with rfl | hr; exact trivial; exact (by rcases List.mem_cons.1 hr with rfl | hr; exact trivial; exact (by cases hr))), fun _ _ _ hn h => e_class_Pages hn h⟩
def row_arena_Arena_Len : FnRow := ⟨38, 10, [(.tmp 2)], m_arena_Arena_Len⟩
theorem row_arena_Arena_Len_ok : row_arena_Arena_Len.Ok Try.prog := ⟨(by kernel_rfl : callable Try.prog 38 = true), Try.f38, Nat.le_of_ble_eq_true rfl, rfl, fun r hr => (by rcases List.mem_cons.1 hr with rfl | hr; exact trivial; exact (by cases hr)), fun _ _ _ hn h => e_arena_Arena_Len hn h⟩
def row_large_Set_meets : FnRow := ⟨39, 32, [(.tmp 6)], m_large_Set_meets⟩
theorem row_large_Set_meets_ok : row_large_Set_meets.Ok Try.prog := ⟨(by kernel_rfl : callable Try.prog 39 = true), Try.f39, Nat.le_of_ble_eq_true rfl, rfl, fun r hr => (by rcases List.mem_cons.1 hr with rfl | hr; exact trivial; exact (by cases hr)), fun _ _ _ hn h => e_large_Set_meets hn h⟩
def row_large_Set_canary : FnRow := ⟨40, 21, [(.tmp 6), (.tmp 7)], m_large_Set_canary⟩
theorem row_large_Set_canary_ok : row_large_Set_canary.Ok Try.prog := ⟨(by kernel_rfl : callable Try.prog 40 = true), Try.f40, Nat.le_of_ble_eq_true rfl, rfl, fun r hr => (by rcases List.mem_cons.1 hr with rfl | hr; exact trivial; exact (by rcases List.mem_cons.1 hr with rfl | hr; exact trivial; exact (by cases hr))), fun _ _ _ hn h => e_large_Set_canary hn h⟩
def row_arena_Arena_SetWord : FnRow := ⟨41, 23, [(.tmp 6)], m_arena_Arena_SetWord⟩
theorem row_arena_Arena_SetWord_ok : row_arena_Arena_SetWord.Ok Try.prog := ⟨(by kernel_rfl : callable Try.prog 41 = true), Try.f41, Nat.le_of_ble_eq_true rfl, rfl, fun r hr => (by rcases List.mem_cons.1 hr with rfl | hr; exact trivial; exact (by cases hr)), fun _ _ _ hn h => e_arena_Arena_SetWord hn h⟩
def row_slices_Sorted_int_ : FnRow := ⟨42, 9, [(.tmp 2)], m_slices_Sorted_int_⟩
theorem row_slices_Sorted_int__ok : row_slices_Sorted_int_.Ok Try.prog := ⟨(by kernel_rfl : callable Try.prog 42 = true), Try.f42, Nat.le_of_ble_eq_true rfl, rfl, fun r hr => (by rcases List.mem_cons.1 hr with rfl | hr; exact trivial; exact (by cases hr)), fun _ _ _ hn h => e_slices_Sorted_int_ hn h⟩
def row_maps_Keys_map_int_int_int_int_ : FnRow := ⟨43, 4, [(.tmp 2)], m_maps_Keys_map_int_int_int_int_⟩
theorem row_maps_Keys_map_int_int_int_int__ok : row_maps_Keys_map_int_int_int_int_.Ok Try.prog := ⟨(by kernel_rfl : callable Try.prog 43 = true), Try.f43, Nat.le_of_ble_eq_true rfl, rfl, fun r hr => (by rcases List.mem_cons.1 hr with rfl | hr; exact trivial; exact (by cases hr)), fun _ _ _ hn h => e_maps_Keys_map_int_int_int_int_ hn h⟩
def row_arena_New : FnRow := ⟨44, 10, [(.tmp 2)], m_arena_New⟩
theorem row_arena_New_ok : row_arena_New.Ok Try.prog := ⟨(by kernel_rfl : callable Try.prog 44 = true), Try.f44, Nat.le_of_ble_eq_true rfl, rfl, fun r hr => (by rcases List.mem_cons.1 hr with rfl | hr; exact trivial; exact (by cases hr)), fun _ _ _ hn h => e_arena_New hn h⟩
def row_pages_New : FnRow := ⟨45, 9, [(.tmp 2)], m_pages_New⟩
theorem row_pages_New_ok : row_pages_New.Ok Try.prog := ⟨(by kernel_rfl : callable Try.prog 45 = true), Try.f45, Nat.le_of_ble_eq_true rfl, rfl, fun r hr => (by rcases List.mem_cons.1 hr with rfl | hr; exact trivial; exact (by cases hr)), fun _ _ _ hn h => e_pages_New hn h⟩
def row_region_Region_Config : FnRow := ⟨46, 10, [(.cell 2 55 3)], m_region_Region_Config⟩
theorem row_region_Region_Config_ok : row_region_Region_Config.Ok Try.prog := ⟨(by kernel_rfl : callable Try.prog 46 = true), Try.f46, Nat.le_of_ble_eq_true rfl, rfl, fun r hr => (by rcases List.mem_cons.1 hr with rfl | hr; exact (by show aggT Try.prog 55 = some 3; kernel_rfl); exact (by cases hr)), fun _ _ _ hn h => e_region_Region_Config hn h⟩
def row_bitset_New : FnRow := ⟨47, 14, [(.tmp 2)], m_bitset_New⟩
theorem row_bitset_New_ok : row_bitset_New.Ok Try.prog := ⟨(by kernel_rfl : callable Try.prog 47 = true), Try.f47, Nat.le_of_ble_eq_true rfl, rfl, fun r hr => (by rcases List.mem_cons.1 hr with rfl | hr; exact trivial; exact (by cases hr)), fun _ _ _ hn h => e_bitset_New hn h⟩
def row_tumbrelref06_Key : FnRow := ⟨48, 6, [(.tmp 2)], m_tumbrelref06_Key⟩
theorem row_tumbrelref06_Key_ok : row_tumbrelref06_Key.Ok Try.prog := ⟨(by kernel_rfl : callable Try.prog 48 = true), Try.f48, Nat.le_of_ble_eq_true rfl, rfl, fun r hr => (by rcases List.mem_cons.1 hr with rfl | hr; exact trivial; exact (by cases hr)), fun _ _ _ hn h => e_tumbrelref06_Key hn h⟩
def row_tumbrelref04_New : FnRow := ⟨49, 9, [(.tmp 2)], m_tumbrelref04_New⟩
theorem row_tumbrelref04_New_ok : row_tumbrelref04_New.Ok Try.prog := ⟨(by kernel_rfl : callable Try.prog 49 = true), Try.f49, Nat.le_of_ble_eq_true rfl, rfl, fun r hr => (by rcases List.mem_cons.1 hr with rfl | hr; exact trivial; exact (by cases hr)), fun _ _ _ hn h => e_tumbrelref04_New hn h⟩
def row_bitset_Set_Has : FnRow := ⟨50, 23, [(.tmp 4)], m_bitset_Set_Has⟩
theorem row_bitset_Set_Has_ok : row_bitset_Set_Has.Ok Try.prog := ⟨(by kernel_rfl : callable Try.prog 50 = true), Try.f50, Nat.le_of_ble_eq_true rfl, rfl, fun r hr => (by rcases List.mem_cons.1 hr with rfl | hr; exact trivial; exact (by cases hr)), fun _ _ _ hn h => e_bitset_Set_Has hn h⟩
def row_gheap_Heap_Mark : FnRow := ⟨51, 21, [(.tmp 4)], m_gheap_Heap_Mark⟩
theorem row_gheap_Heap_Mark_ok : row_gheap_Heap_Mark.Ok Try.prog := ⟨(by kernel_rfl : callable Try.prog 51 = true), Try.f51, Nat.le_of_ble_eq_true rfl, rfl, fun r hr => (by rcases List.mem_cons.1 hr with rfl | hr; exact trivial; exact (by cases hr)), fun _ _ _ hn h => e_gheap_Heap_Mark hn h⟩
def row_object_Head : FnRow := ⟨52, 52, [(.cell 4 72 2), (.tmp 5)], m_object_Head⟩
theorem row_object_Head_ok : row_object_Head.Ok Try.prog := ⟨(by kernel_rfl : callable Try.prog 52 = true), Try.f52, Nat.le_of_ble_eq_true rfl, rfl, fun r hr => (by rcases List.mem_cons.1 hr with rfl | hr; exact (by show aggT Try.prog 72 = some 2; kernel_rfl); exact (by rcases List.mem_cons.1 hr with rfl | hr; exact trivial; exact (by cases hr))), fun _ _ _ hn h => e_object_Head hn h⟩
def row_object_Ref : FnRow := ⟨53, 31, [(.tmp 6), (.tmp 7)], m_object_Ref⟩
theorem row_object_Ref_ok : row_object_Ref.Ok Try.prog := ⟨(by kernel_rfl : callable Try.prog 53 = true), Try.f53, Nat.le_of_ble_eq_true rfl, rfl, fun r hr => (by rcases List.mem_cons.1 hr with rfl | hr; exact trivial; exact (by rcases List.mem_cons.1 hr with rfl | hr; exact trivial; exact (by cases hr))), fun _ _ _ hn h => e_object_Ref hn h⟩
def row_object_Shape_Class : FnRow := ⟨54, 23, [(.tmp 2), (.tmp 3)], m_object_Shape_Class⟩
theorem row_object_Shape_Class_ok : row_object_Shape_Class.Ok Try.prog := ⟨(by kernel_rfl : callable Try.prog 54 = true), Try.f54, Nat.le_of_ble_eq_true rfl, rfl, fun r hr => (by rcases List.mem_cons.1 hr with rfl | hr; exact trivial; exact (by rcases List.mem_cons.1 hr with rfl | hr; exact trivial; exact (by cases hr))), fun _ _ _ hn h => e_object_Shape_Class hn h⟩
def row_gheap_Heap_place : FnRow := ⟨55, 40, [(.tmp 4), (.tmp 5)], m_gheap_Heap_place⟩
theorem row_gheap_Heap_place_ok : row_gheap_Heap_place.Ok Try.prog := ⟨(by kernel_rfl : callable Try.prog 55 = true), Try.f55, Nat.le_of_ble_eq_true rfl, rfl, fun r hr => (by rcases List.mem_cons.1 hr with rfl | hr; exact trivial; exact (by rcases List.mem_cons.1 hr with rfl | hr; exact trivial; exact (by cases hr))), fun _ _ _ hn h => e_gheap_Heap_place hn h⟩
def row_region_Region_Pages : FnRow := ⟨56, 9, [(.tmp 2)], m_region_Region_Pages⟩
theorem row_region_Region_Pages_ok : row_region_Region_Pages.Ok Try.prog := ⟨(by kernel_rfl : callable Try.prog 56 = true), Try.f56, Nat.le_of_ble_eq_true rfl, rfl, fun r hr => (by rcases List.mem_cons.1 hr with rfl | hr; exact trivial; exact (by cases hr)), fun _ _ _ hn h => e_region_Region_Pages hn h⟩
def row_pages_Table_Map : FnRow := ⟨57, 73, [(.tmp 8), (.tmp 9)], m_pages_Table_Map⟩
theorem row_pages_Table_Map_ok : row_pages_Table_Map.Ok Try.prog := ⟨(by kernel_rfl : callable Try.prog 57 = true), Try.f57, Nat.le_of_ble_eq_true rfl, rfl, fun r hr => (by rcases List.mem_cons.1 hr with rfl | hr; exact trivial; exact (by rcases List.mem_cons.1 hr with rfl | hr; exact trivial; exact (by cases hr))), fun _ _ _ hn h => e_pages_Table_Map hn h⟩
def row_class_Base : FnRow := ⟨58, 30, [(.tmp 6)], m_class_Base⟩
theorem row_class_Base_ok : row_class_Base.Ok Try.prog := ⟨(by kernel_rfl : callable Try.prog 58 = true), Try.f58, Nat.le_of_ble_eq_true rfl, rfl, fun r hr => (by rcases List.mem_cons.1 hr with rfl | hr; exact trivial; exact (by cases hr)), fun _ _ _ hn h => e_class_Base hn h⟩
def row_object_Make : FnRow := ⟨59, 42, [(.tmp 6)], m_object_Make⟩
theorem row_object_Make_ok : row_object_Make.Ok Try.prog := ⟨(by kernel_rfl : callable Try.prog 59 = true), Try.f59, Nat.le_of_ble_eq_true rfl, rfl, fun r hr => (by rcases List.mem_cons.1 hr with rfl | hr; exact trivial; exact (by cases hr)), fun _ _ _ hn h => e_object_Make hn h⟩
def row_bitset_Set_Put : FnRow := ⟨60, 43, [(.tmp 6)], m_bitset_Set_Put⟩
theorem row_bitset_Set_Put_ok : row_bitset_Set_Put.Ok Try.prog := ⟨(by kernel_rfl : callable Try.prog 60 = true), Try.f60, Nat.le_of_ble_eq_true rfl, rfl, fun r hr => (by rcases List.mem_cons.1 hr with rfl | hr; exact trivial; exact (by cases hr)), fun _ _ _ hn h => e_bitset_Set_Put hn h⟩
def row_object_ref : FnRow := ⟨61, 26, [(.tmp 6), (.tmp 7)], m_object_ref⟩
theorem row_object_ref_ok : row_object_ref.Ok Try.prog := ⟨(by kernel_rfl : callable Try.prog 61 = true), Try.f61, Nat.le_of_ble_eq_true rfl, rfl, fun r hr => (by rcases List.mem_cons.1 hr with rfl | hr; exact trivial; exact (by rcases List.mem_cons.1 hr with rfl | hr; exact trivial; exact (by cases hr))), fun _ _ _ hn h => e_object_ref hn h⟩
def row_arena_Arena_Word : FnRow := ⟨62, 22, [(.tmp 4), (.tmp 5)], m_arena_Arena_Word⟩
theorem row_arena_Arena_Word_ok : row_arena_Arena_Word.Ok Try.prog := ⟨(by kernel_rfl : callable Try.prog 62 = true), Try.f62, Nat.le_of_ble_eq_true rfl, rfl, fun r hr => (by rcases List.mem_cons.1 hr with rfl | hr; exact trivial; exact (by rcases List.mem_cons.1 hr with rfl | hr; exact trivial; exact (by cases hr))), fun _ _ _ hn h => e_arena_Arena_Word hn h⟩
def row_arena_Arena_in : FnRow := ⟨63, 37, [(.tmp 6)], m_arena_Arena_in⟩
theorem row_arena_Arena_in_ok : row_arena_Arena_in.Ok Try.prog := ⟨(by kernel_rfl : callable Try.prog 63 = true), Try.f63, Nat.le_of_ble_eq_true rfl, rfl, fun r hr => (by rcases List.mem_cons.1 hr with rfl | hr; exact trivial; exact (by cases hr)), fun _ _ _ hn h => e_arena_Arena_in hn h⟩
def row_class_Room : FnRow := ⟨64, 7, [(.tmp 2)], m_class_Room⟩
theorem row_class_Room_ok : row_class_Room.Ok Try.prog := ⟨(by kernel_rfl : callable Try.prog 64 = true), Try.f64, Nat.le_of_ble_eq_true rfl, rfl, fun r hr => (by rcases List.mem_cons.1 hr with rfl | hr; exact trivial; exact (by cases hr)), fun _ _ _ hn h => e_class_Room hn h⟩
def row_link_Code_Canary : FnRow := ⟨65, 11, [(.tmp 4)], m_link_Code_Canary⟩
theorem row_link_Code_Canary_ok : row_link_Code_Canary.Ok Try.prog := ⟨(by kernel_rfl : callable Try.prog 65 = true), Try.f65, Nat.le_of_ble_eq_true rfl, rfl, fun r hr => (by rcases List.mem_cons.1 hr with rfl | hr; exact trivial; exact (by cases hr)), fun _ _ _ hn h => e_link_Code_Canary hn h⟩
def row_arena_Arena_word : FnRow := ⟨66, 15, [(.tmp 4)], m_arena_Arena_word⟩
theorem row_arena_Arena_word_ok : row_arena_Arena_word.Ok Try.prog := ⟨(by kernel_rfl : callable Try.prog 66 = true), Try.f66, Nat.le_of_ble_eq_true rfl, rfl, fun r hr => (by rcases List.mem_cons.1 hr with rfl | hr; exact trivial; exact (by cases hr)), fun _ _ _ hn h => e_arena_Arena_word hn h⟩
def row_num_Put : FnRow := ⟨67, 30, [(.tmp 4)], m_num_Put⟩
theorem row_num_Put_ok : row_num_Put.Ok Try.prog := ⟨(by kernel_rfl : callable Try.prog 67 = true), Try.f67, Nat.le_of_ble_eq_true rfl, rfl, fun r hr => (by rcases List.mem_cons.1 hr with rfl | hr; exact trivial; exact (by cases hr)), fun _ _ _ hn h => e_num_Put hn h⟩
def row_slices_Collect_int_ : FnRow := ⟨68, 5, [(.tmp 2)], m_slices_Collect_int_⟩
theorem row_slices_Collect_int__ok : row_slices_Collect_int_.Ok Try.prog := ⟨(by kernel_rfl : callable Try.prog 68 = true), Try.f68, Nat.le_of_ble_eq_true rfl, rfl, fun r hr => (by rcases List.mem_cons.1 hr with rfl | hr; exact trivial; exact (by cases hr)), fun _ _ _ hn h => e_slices_Collect_int_ hn h⟩
def row_slices_Sort_int_int_ : FnRow := ⟨69, 11, [], m_slices_Sort_int_int_⟩
theorem row_slices_Sort_int_int__ok : row_slices_Sort_int_int_.Ok Try.prog := ⟨(by kernel_rfl : callable Try.prog 69 = true), Try.f69, Nat.le_of_ble_eq_true rfl, rfl, fun r hr => (by cases hr), fun _ _ _ hn h => e_slices_Sort_int_int_ hn h⟩
def row_maps_Keys_map_int_int_int_int__c1 : FnRow := ⟨70, 14, [], m_maps_Keys_map_int_int_int_int__c1⟩
theorem row_maps_Keys_map_int_int_int_int__c1_ok : row_maps_Keys_map_int_int_int_int__c1.Ok Try.prog := ⟨(by kernel_rfl : callable Try.prog 70 = true), Try.f70, Nat.le_of_ble_eq_true rfl, rfl, fun r hr => (by cases hr), fun _ _ _ hn h => e_maps_Keys_map_int_int_int_int__c1 hn h⟩
def row_tumbrelref06_Mix : FnRow := ⟨71, 19, [(.tmp 2)], m_tumbrelref06_Mix⟩
theorem row_tumbrelref06_Mix_ok : row_tumbrelref06_Mix.Ok Try.prog := ⟨(by kernel_rfl : callable Try.prog 71 = true), Try.f71, Nat.le_of_ble_eq_true rfl, rfl, fun r hr => (by rcases List.mem_cons.1 hr with rfl | hr; exact trivial; exact (by cases hr)), fun _ _ _ hn h => e_tumbrelref06_Mix hn h⟩
def row_bitset_Set_in : FnRow := ⟨72, 13, [(.tmp 4)], m_bitset_Set_in⟩
theorem row_bitset_Set_in_ok : row_bitset_Set_in.Ok Try.prog := ⟨(by kernel_rfl : callable Try.prog 72 = true), Try.f72, Nat.le_of_ble_eq_true rfl, rfl, fun r hr => (by rcases List.mem_cons.1 hr with rfl | hr; exact trivial; exact (by cases hr)), fun _ _ _ hn h => e_bitset_Set_in hn h⟩
def row_object_Shape_Bytes : FnRow := ⟨73, 14, [(.tmp 2), (.tmp 3)], m_object_Shape_Bytes⟩
theorem row_object_Shape_Bytes_ok : row_object_Shape_Bytes.Ok Try.prog := ⟨(by kernel_rfl : callable Try.prog 73 = true), Try.f73, Nat.le_of_ble_eq_true rfl, rfl, fun r hr => (by rcases List.mem_cons.1 hr with rfl | hr; exact trivial; exact (by rcases List.mem_cons.1 hr with rfl | hr; exact trivial; exact (by cases hr))), fun _ _ _ hn h => e_object_Shape_Bytes hn h⟩
def row_object_Shape_word : FnRow := ⟨74, 12, [(.tmp 2)], m_object_Shape_word⟩
theorem row_object_Shape_word_ok : row_object_Shape_word.Ok Try.prog := ⟨(by kernel_rfl : callable Try.prog 74 = true), Try.f74, Nat.le_of_ble_eq_true rfl, rfl, fun r hr => (by rcases List.mem_cons.1 hr with rfl | hr; exact trivial; exact (by cases hr)), fun _ _ _ hn h => e_object_Shape_word hn h⟩
def row_class_Size : FnRow := ⟨75, 8, [(.tmp 2)], m_class_Size⟩
theorem row_class_Size_ok : row_class_Size.Ok Try.prog := ⟨(by kernel_rfl : callable Try.prog 75 = true), Try.f75, Nat.le_of_ble_eq_true rfl, rfl, fun r hr => (by rcases List.mem_cons.1 hr with rfl | hr; exact trivial; exact (by cases hr)), fun _ _ _ hn h => e_class_Size hn h⟩
def row_gheap_Heap_managed : FnRow := ⟨76, 14, [(.tmp 4)], m_gheap_Heap_managed⟩
theorem row_gheap_Heap_managed_ok : row_gheap_Heap_managed.Ok Try.prog := ⟨(by kernel_rfl : callable Try.prog 76 = true), Try.f76, Nat.le_of_ble_eq_true rfl, rfl, fun r hr => (by rcases List.mem_cons.1 hr with rfl | hr; exact trivial; exact (by cases hr)), fun _ _ _ hn h => e_gheap_Heap_managed hn h⟩
def row_gheap_Heap_row : FnRow := ⟨77, 12, [(.cell 4 116 4)], m_gheap_Heap_row⟩
theorem row_gheap_Heap_row_ok : row_gheap_Heap_row.Ok Try.prog := ⟨(by kernel_rfl : callable Try.prog 77 = true), Try.f77, Nat.le_of_ble_eq_true rfl, rfl, fun r hr => (by rcases List.mem_cons.1 hr with rfl | hr; exact (by show aggT Try.prog 116 = some 4; kernel_rfl); exact (by cases hr)), fun _ _ _ hn h => e_gheap_Heap_row hn h⟩
def row_gheap_Heap_slot : FnRow := ⟨78, 32, [(.tmp 4), (.tmp 5)], m_gheap_Heap_slot⟩
theorem row_gheap_Heap_slot_ok : row_gheap_Heap_slot.Ok Try.prog := ⟨(by kernel_rfl : callable Try.prog 78 = true), Try.f78, Nat.le_of_ble_eq_true rfl, rfl, fun r hr => (by rcases List.mem_cons.1 hr with rfl | hr; exact trivial; exact (by rcases List.mem_cons.1 hr with rfl | hr; exact trivial; exact (by cases hr))), fun _ _ _ hn h => e_gheap_Heap_slot hn h⟩
def row_pages_Row_first : FnRow := ⟨79, 16, [(.tmp 2)], m_pages_Row_first⟩
theorem row_pages_Row_first_ok : row_pages_Row_first.Ok Try.prog := ⟨(by kernel_rfl : callable Try.prog 79 = true), Try.f79, Nat.le_of_ble_eq_true rfl, rfl, fun r hr => (by rcases List.mem_cons.1 hr with rfl | hr; exact trivial; exact (by cases hr)), fun _ _ _ hn h => e_pages_Row_first hn h⟩
def row_pages_Table_cut : FnRow := ⟨80, 18, [(.tmp 6), (.tmp 7)], m_pages_Table_cut⟩
theorem row_pages_Table_cut_ok : row_pages_Table_cut.Ok Try.prog := ⟨(by kernel_rfl : callable Try.prog 80 = true), Try.f80, Nat.le_of_ble_eq_true rfl, rfl, fun r hr => (by rcases List.mem_cons.1 hr with rfl | hr; exact trivial; exact (by rcases List.mem_cons.1 hr with rfl | hr; exact trivial; exact (by cases hr))), fun _ _ _ hn h => e_pages_Table_cut hn h⟩
def row_pages_Table_place : FnRow := ⟨81, 36, [(.tmp 8), (.tmp 9)], m_pages_Table_place⟩
theorem row_pages_Table_place_ok : row_pages_Table_place.Ok Try.prog := ⟨(by kernel_rfl : callable Try.prog 81 = true), Try.f81, Nat.le_of_ble_eq_true rfl, rfl, fun r hr => (by rcases List.mem_cons.1 hr with rfl | hr; exact trivial; exact (by rcases List.mem_cons.1 hr with rfl | hr; exact trivial; exact (by cases hr))), fun _ _ _ hn h => e_pages_Table_place hn h⟩
def row_class_Slots : FnRow := ⟨82, 9, [(.tmp 2)], m_class_Slots⟩
theorem row_class_Slots_ok : row_class_Slots.Ok Try.prog := ⟨(by kernel_rfl : callable Try.prog 82 = true), Try.f82, Nat.le_of_ble_eq_true rfl, rfl, fun r hr => (by rcases List.mem_cons.1 hr with rfl | hr; exact trivial; exact (by cases hr)), fun _ _ _ hn h => e_class_Slots hn h⟩
def row_object_field : FnRow := ⟨83, 24, [(.tmp 8), (.tmp 9)], m_object_field⟩
theorem row_object_field_ok : row_object_field.Ok Try.prog := ⟨(by kernel_rfl : callable Try.prog 83 = true), Try.f83, Nat.le_of_ble_eq_true rfl, rfl, fun r hr => (by rcases List.mem_cons.1 hr with rfl | hr; exact trivial; exact (by rcases List.mem_cons.1 hr with rfl | hr; exact trivial; exact (by cases hr))), fun _ _ _ hn h => e_object_field hn h⟩
def row_num_Get : FnRow := ⟨84, 23, [(.tmp 2)], m_num_Get⟩
theorem row_num_Get_ok : row_num_Get.Ok Try.prog := ⟨(by kernel_rfl : callable Try.prog 84 = true), Try.f84, Nat.le_of_ble_eq_true rfl, rfl, fun r hr => (by rcases List.mem_cons.1 hr with rfl | hr; exact trivial; exact (by cases hr)), fun _ _ _ hn h => e_num_Get hn h⟩
def row_slices_pdqsortOrdered_int_ : FnRow := ⟨86, 134, [], m_slices_pdqsortOrdered_int_⟩
theorem row_slices_pdqsortOrdered_int__ok : row_slices_pdqsortOrdered_int_.Ok Try.prog := ⟨(by kernel_rfl : callable Try.prog 86 = true), Try.f86, Nat.le_of_ble_eq_true rfl, rfl, fun r hr => (by cases hr), fun _ _ _ hn h => e_slices_pdqsortOrdered_int_ hn h⟩
def row_math_bits_Len : FnRow := ⟨87, 8, [(.tmp 2)], m_math_bits_Len⟩
theorem row_math_bits_Len_ok : row_math_bits_Len.Ok Try.prog := ⟨(by kernel_rfl : callable Try.prog 87 = true), Try.f87, Nat.le_of_ble_eq_true rfl, rfl, fun r hr => (by rcases List.mem_cons.1 hr with rfl | hr; exact trivial; exact (by cases hr)), fun _ _ _ hn h => e_math_bits_Len hn h⟩
def row_bitset_Set_Len : FnRow := ⟨88, 9, [(.tmp 2)], m_bitset_Set_Len⟩
theorem row_bitset_Set_Len_ok : row_bitset_Set_Len.Ok Try.prog := ⟨(by kernel_rfl : callable Try.prog 88 = true), Try.f88, Nat.le_of_ble_eq_true rfl, rfl, fun r hr => (by rcases List.mem_cons.1 hr with rfl | hr; exact trivial; exact (by cases hr)), fun _ _ _ hn h => e_bitset_Set_Len hn h⟩
def row_object_Shape_may : FnRow := ⟨89, 24, [(.tmp 2)], m_object_Shape_may⟩
theorem row_object_Shape_may_ok : row_object_Shape_may.Ok Try.prog := ⟨(by kernel_rfl : callable Try.prog 89 = true), Try.f89, Nat.le_of_ble_eq_true rfl, rfl, fun r hr => (by rcases List.mem_cons.1 hr with rfl | hr; exact trivial; exact (by cases hr)), fun _ _ _ hn h => e_object_Shape_may hn h⟩
def row_class_may : FnRow := ⟨90, 9, [(.tmp 2)], m_class_may⟩
theorem row_class_may_ok : row_class_may.Ok Try.prog := ⟨(by kernel_rfl : callable Try.prog 90 = true), Try.f90, Nat.le_of_ble_eq_true rfl, rfl, fun r hr => (by rcases List.mem_cons.1 hr with rfl | hr; exact trivial; exact (by cases hr)), fun _ _ _ hn h => e_class_may hn h⟩
def row_pages_Table_Row : FnRow := ⟨91, 21, [(.cell 4 116 4)], m_pages_Table_Row⟩
theorem row_pages_Table_Row_ok : row_pages_Table_Row.Ok Try.prog := ⟨(by kernel_rfl : callable Try.prog 91 = true), Try.f91, Nat.le_of_ble_eq_true rfl, rfl, fun r hr => (by rcases List.mem_cons.1 hr with rfl | hr; exact (by show aggT Try.prog 116 = some 4; kernel_rfl); exact (by cases hr)), fun _ _ _ hn h => e_pages_Table_Row hn h⟩
def row_pages_Table_Len : FnRow := ⟨92, 10, [(.tmp 2)], m_pages_Table_Len⟩
theorem row_pages_Table_Len_ok : row_pages_Table_Len.Ok Try.prog := ⟨(by kernel_rfl : callable Try.prog 92 = true), Try.f92, Nat.le_of_ble_eq_true rfl, rfl, fun r hr => (by rcases List.mem_cons.1 hr with rfl | hr; exact trivial; exact (by cases hr)), fun _ _ _ hn h => e_pages_Table_Len hn h⟩
def row_pages_Row_free : FnRow := ⟨93, 6, [(.tmp 2)], m_pages_Row_free⟩
theorem row_pages_Row_free_ok : row_pages_Row_free.Ok Try.prog := ⟨(by kernel_rfl : callable Try.prog 93 = true), Try.f93, Nat.le_of_ble_eq_true rfl, rfl, fun r hr => (by rcases List.mem_cons.1 hr with rfl | hr; exact trivial; exact (by cases hr)), fun _ _ _ hn h => e_pages_Row_free hn h⟩
def row_slices_insertionSortOrdered_int_ : FnRow := ⟨94, 49, [], m_slices_insertionSortOrdered_int_⟩
theorem row_slices_insertionSortOrdered_int__ok : row_slices_insertionSortOrdered_int_.Ok Try.prog := ⟨(by kernel_rfl : callable Try.prog 94 = true), Try.f94, Nat.le_of_ble_eq_true rfl, rfl, fun r hr => (by cases hr), fun _ _ _ hn h => e_slices_insertionSortOrdered_int_ hn h⟩
def row_slices_heapSortOrdered_int_ : FnRow := ⟨95, 56, [], m_slices_heapSortOrdered_int_⟩
theorem row_slices_heapSortOrdered_int__ok : row_slices_heapSortOrdered_int_.Ok Try.prog := ⟨(by kernel_rfl : callable Try.prog 95 = true), Try.f95, Nat.le_of_ble_eq_true rfl, rfl, fun r hr => (by cases hr), fun _ _ _ hn h => e_slices_heapSortOrdered_int_ hn h⟩
def row_slices_breakPatternsOrdered_int_ : FnRow := ⟨96, 65, [], m_slices_breakPatternsOrdered_int_⟩
theorem row_slices_breakPatternsOrdered_int__ok : row_slices_breakPatternsOrdered_int_.Ok Try.prog := ⟨(by kernel_rfl : callable Try.prog 96 = true), Try.f96, Nat.le_of_ble_eq_true rfl, rfl, fun r hr => (by cases hr), fun _ _ _ hn h => e_slices_breakPatternsOrdered_int_ hn h⟩
def row_slices_choosePivotOrdered_int_ : FnRow := ⟨97, 57, [(.tmp 6), (.tmp 7)], m_slices_choosePivotOrdered_int_⟩
theorem row_slices_choosePivotOrdered_int__ok : row_slices_choosePivotOrdered_int_.Ok Try.prog := ⟨(by kernel_rfl : callable Try.prog 97 = true), Try.f97, Nat.le_of_ble_eq_true rfl, rfl, fun r hr => (by rcases List.mem_cons.1 hr with rfl | hr; exact trivial; exact (by rcases List.mem_cons.1 hr with rfl | hr; exact trivial; exact (by cases hr))), fun _ _ _ hn h => e_slices_choosePivotOrdered_int_ hn h⟩
def row_slices_reverseRangeOrdered_int_ : FnRow := ⟨98, 32, [], m_slices_reverseRangeOrdered_int_⟩
theorem row_slices_reverseRangeOrdered_int__ok : row_slices_reverseRangeOrdered_int_.Ok Try.prog := ⟨(by kernel_rfl : callable Try.prog 98 = true), Try.f98, Nat.le_of_ble_eq_true rfl, rfl, fun r hr => (by cases hr), fun _ _ _ hn h => e_slices_reverseRangeOrdered_int_ hn h⟩
def row_slices_partialInsertionSortOrdered_int_ : FnRow := ⟨99, 133, [(.tmp 6)], m_slices_partialInsertionSortOrdered_int_⟩
theorem row_slices_partialInsertionSortOrdered_int__ok : row_slices_partialInsertionSortOrdered_int_.Ok Try.prog := ⟨(by kernel_rfl : callable Try.prog 99 = true), Try.f99, Nat.le_of_ble_eq_true rfl, rfl, fun r hr => (by rcases List.mem_cons.1 hr with rfl | hr; exact trivial; exact (by cases hr)), fun _ _ _ hn h => e_slices_partialInsertionSortOrdered_int_ hn h⟩
def row_cmp_Less_int_ : FnRow := ⟨100, 17, [(.tmp 4)], m_cmp_Less_int_⟩
theorem row_cmp_Less_int__ok : row_cmp_Less_int_.Ok Try.prog := ⟨(by kernel_rfl : callable Try.prog 100 = true), Try.f100, Nat.le_of_ble_eq_true rfl, rfl, fun r hr => (by rcases List.mem_cons.1 hr with rfl | hr; exact trivial; exact (by cases hr)), fun _ _ _ hn h => e_cmp_Less_int_ hn h⟩
def row_slices_partitionEqualOrdered_int_ : FnRow := ⟨101, 84, [(.tmp 8)], m_slices_partitionEqualOrdered_int_⟩
theorem row_slices_partitionEqualOrdered_int__ok : row_slices_partitionEqualOrdered_int_.Ok Try.prog := ⟨(by kernel_rfl : callable Try.prog 101 = true), Try.f101, Nat.le_of_ble_eq_true rfl, rfl, fun r hr => (by rcases List.mem_cons.1 hr with rfl | hr; exact trivial; exact (by cases hr)), fun _ _ _ hn h => e_slices_partitionEqualOrdered_int_ hn h⟩
def row_slices_partitionOrdered_int_ : FnRow := ⟨102, 168, [(.tmp 8), (.tmp 9)], m_slices_partitionOrdered_int_⟩
theorem row_slices_partitionOrdered_int__ok : row_slices_partitionOrdered_int_.Ok Try.prog := ⟨(by kernel_rfl : callable Try.prog 102 = true), Try.f102, Nat.le_of_ble_eq_true rfl, rfl, fun r hr => (by rcases List.mem_cons.1 hr with rfl | hr; exact trivial; exact (by rcases List.mem_cons.1 hr with rfl | hr; exact trivial; exact (by cases hr))), fun _ _ _ hn h => e_slices_partitionOrdered_int_ hn h⟩
def row_math_bits_Len32 : FnRow := ⟨103, 19, [(.tmp 2)], m_math_bits_Len32⟩
theorem row_math_bits_Len32_ok : row_math_bits_Len32.Ok Try.prog := ⟨(by kernel_rfl : callable Try.prog 103 = true), Try.f103, Nat.le_of_ble_eq_true rfl, rfl, fun r hr => (by rcases List.mem_cons.1 hr with rfl | hr; exact trivial; exact (by cases hr)), fun _ _ _ hn h => e_math_bits_Len32 hn h⟩
def row_math_bits_Len64 : FnRow := ⟨104, 25, [(.tmp 2)], m_math_bits_Len64⟩
theorem row_math_bits_Len64_ok : row_math_bits_Len64.Ok Try.prog := ⟨(by kernel_rfl : callable Try.prog 104 = true), Try.f104, Nat.le_of_ble_eq_true rfl, rfl, fun r hr => (by rcases List.mem_cons.1 hr with rfl | hr; exact trivial; exact (by cases hr)), fun _ _ _ hn h => e_math_bits_Len64 hn h⟩
def row_slices_siftDownOrdered_int_ : FnRow := ⟨105, 76, [], m_slices_siftDownOrdered_int_⟩
theorem row_slices_siftDownOrdered_int__ok : row_slices_siftDownOrdered_int_.Ok Try.prog := ⟨(by kernel_rfl : callable Try.prog 105 = true), Try.f105, Nat.le_of_ble_eq_true rfl, rfl, fun r hr => (by cases hr), fun _ _ _ hn h => e_slices_siftDownOrdered_int_ hn h⟩
def row_slices_nextPowerOfTwo : FnRow := ⟨106, 7, [(.tmp 2)], m_slices_nextPowerOfTwo⟩
theorem row_slices_nextPowerOfTwo_ok : row_slices_nextPowerOfTwo.Ok Try.prog := ⟨(by kernel_rfl : callable Try.prog 106 = true), Try.f106, Nat.le_of_ble_eq_true rfl, rfl, fun r hr => (by rcases List.mem_cons.1 hr with rfl | hr; exact trivial; exact (by cases hr)), fun _ _ _ hn h => e_slices_nextPowerOfTwo hn h⟩
def row_slices_xorshift_Next : FnRow := ⟨107, 33, [(.tmp 2)], m_slices_xorshift_Next⟩
theorem row_slices_xorshift_Next_ok : row_slices_xorshift_Next.Ok Try.prog := ⟨(by kernel_rfl : callable Try.prog 107 = true), Try.f107, Nat.le_of_ble_eq_true rfl, rfl, fun r hr => (by rcases List.mem_cons.1 hr with rfl | hr; exact trivial; exact (by cases hr)), fun _ _ _ hn h => e_slices_xorshift_Next hn h⟩
def row_slices_medianAdjacentOrdered_int_ : FnRow := ⟨108, 15, [(.tmp 6)], m_slices_medianAdjacentOrdered_int_⟩
theorem row_slices_medianAdjacentOrdered_int__ok : row_slices_medianAdjacentOrdered_int_.Ok Try.prog := ⟨(by kernel_rfl : callable Try.prog 108 = true), Try.f108, Nat.le_of_ble_eq_true rfl, rfl, fun r hr => (by rcases List.mem_cons.1 hr with rfl | hr; exact trivial; exact (by cases hr)), fun _ _ _ hn h => e_slices_medianAdjacentOrdered_int_ hn h⟩
def row_slices_medianOrdered_int_ : FnRow := ⟨109, 36, [(.tmp 10)], m_slices_medianOrdered_int_⟩
theorem row_slices_medianOrdered_int__ok : row_slices_medianOrdered_int_.Ok Try.prog := ⟨(by kernel_rfl : callable Try.prog 109 = true), Try.f109, Nat.le_of_ble_eq_true rfl, rfl, fun r hr => (by rcases List.mem_cons.1 hr with rfl | hr; exact trivial; exact (by cases hr)), fun _ _ _ hn h => e_slices_medianOrdered_int_ hn h⟩
def row_cmp_isNaN_int_ : FnRow := ⟨110, 6, [(.tmp 2)], m_cmp_isNaN_int_⟩
theorem row_cmp_isNaN_int__ok : row_cmp_isNaN_int_.Ok Try.prog := ⟨(by kernel_rfl : callable Try.prog 110 = true), Try.f110, Nat.le_of_ble_eq_true rfl, rfl, fun r hr => (by rcases List.mem_cons.1 hr with rfl | hr; exact trivial; exact (by cases hr)), fun _ _ _ hn h => e_cmp_isNaN_int_ hn h⟩
def row_slices_order2Ordered_int_ : FnRow := ⟨111, 28, [(.tmp 8), (.tmp 9)], m_slices_order2Ordered_int_⟩
theorem row_slices_order2Ordered_int__ok : row_slices_order2Ordered_int_.Ok Try.prog := ⟨(by kernel_rfl : callable Try.prog 111 = true), Try.f111, Nat.le_of_ble_eq_true rfl, rfl, fun r hr => (by rcases List.mem_cons.1 hr with rfl | hr; exact trivial; exact (by rcases List.mem_cons.1 hr with rfl | hr; exact trivial; exact (by cases hr))), fun _ _ _ hn h => e_slices_order2Ordered_int_ hn h⟩
def rows : List FnRow := [row_tumbrellaw19_MarkNil, row_tumbrellaw08_LargeNil, row_mark_New, row_tumbrellaw18_Make, row_mark_Marker_Root, row_mark_Marker_Step, row_mark_Marker_Left, row_mark_Marker_Looked, row_mark_Marker_Stack, row_tumbrellaw19_awake, row_large_New, row_link_New, row_large_Set_Drop, row_large_Set_Make, row_large_Set_Size, row_large_Set_All, row_large_Set_Check, row_tumbrellaw08_awake, row_region_New, row_gheap_New, row_tumbrelref09_New, row_gheap_Heap_Has, row_mark_Marker_note, row_object_Refs, row_gheap_Heap_Region, row_region_Region_Arena, row_slices_Clone_int_int_, row_gheap_Heap_Alloc, row_object_SetRef, row_gheap_Heap_Marked, row_link_mix, row_large_Set_stands, row_arena_Arena_Fill, row_large_run, row_class_Pages, row_arena_Arena_Len, row_large_Set_meets, row_large_Set_canary, row_arena_Arena_SetWord, row_slices_Sorted_int_, row_maps_Keys_map_int_int_int_int_, row_arena_New, row_pages_New, row_region_Region_Config, row_bitset_New, row_tumbrelref06_Key, row_tumbrelref04_New, row_bitset_Set_Has, row_gheap_Heap_Mark, row_object_Head, row_object_Ref, row_object_Shape_Class, row_gheap_Heap_place, row_region_Region_Pages, row_pages_Table_Map, row_class_Base, row_object_Make, row_bitset_Set_Put, row_object_ref, row_arena_Arena_Word, row_arena_Arena_in, row_class_Room, row_link_Code_Canary, row_arena_Arena_word, row_num_Put, row_slices_Collect_int_, row_slices_Sort_int_int_, row_maps_Keys_map_int_int_int_int__c1, row_tumbrelref06_Mix, row_bitset_Set_in, row_object_Shape_Bytes, row_object_Shape_word, row_class_Size, row_gheap_Heap_managed, row_gheap_Heap_row, row_gheap_Heap_slot, row_pages_Row_first, row_pages_Table_cut, row_pages_Table_place, row_class_Slots, row_object_field, row_num_Get, row_slices_pdqsortOrdered_int_, row_math_bits_Len, row_bitset_Set_Len, row_object_Shape_may, row_class_may, row_pages_Table_Row, row_pages_Table_Len, row_pages_Row_free, row_slices_insertionSortOrdered_int_, row_slices_heapSortOrdered_int_, row_slices_breakPatternsOrdered_int_, row_slices_choosePivotOrdered_int_, row_slices_reverseRangeOrdered_int_, row_slices_partialInsertionSortOrdered_int_, row_cmp_Less_int_, row_slices_partitionEqualOrdered_int_, row_slices_partitionOrdered_int_, row_math_bits_Len32, row_math_bits_Len64, row_slices_siftDownOrdered_int_, row_slices_nextPowerOfTwo, row_slices_xorshift_Next, row_slices_medianAdjacentOrdered_int_, row_slices_medianOrdered_int_, row_cmp_isNaN_int_, row_slices_order2Ordered_int_]
theorem rows_ok : ∀ x ∈ rows, x.Ok Try.prog := by
  refine List.forall_mem_cons.2 ⟨row_tumbrellaw19_MarkNil_ok, ?_⟩
  refine List.forall_mem_cons.2 ⟨row_tumbrellaw08_LargeNil_ok, ?_⟩
  refine List.forall_mem_cons.2 ⟨row_mark_New_ok, ?_⟩
  refine List.forall_mem_cons.2 ⟨row_tumbrellaw18_Make_ok, ?_⟩
  refine List.forall_mem_cons.2 ⟨row_mark_Marker_Root_ok, ?_⟩
  refine List.forall_mem_cons.2 ⟨row_mark_Marker_Step_ok, ?_⟩
  refine List.forall_mem_cons.2 ⟨row_mark_Marker_Left_ok, ?_⟩
  refine List.forall_mem_cons.2 ⟨row_mark_Marker_Looked_ok, ?_⟩
  refine List.forall_mem_cons.2 ⟨row_mark_Marker_Stack_ok, ?_⟩
  refine List.forall_mem_cons.2 ⟨row_tumbrellaw19_awake_ok, ?_⟩
  refine List.forall_mem_cons.2 ⟨row_large_New_ok, ?_⟩
  refine List.forall_mem_cons.2 ⟨row_link_New_ok, ?_⟩
  refine List.forall_mem_cons.2 ⟨row_large_Set_Drop_ok, ?_⟩
  refine List.forall_mem_cons.2 ⟨row_large_Set_Make_ok, ?_⟩
  refine List.forall_mem_cons.2 ⟨row_large_Set_Size_ok, ?_⟩
  refine List.forall_mem_cons.2 ⟨row_large_Set_All_ok, ?_⟩
  refine List.forall_mem_cons.2 ⟨row_large_Set_Check_ok, ?_⟩
  refine List.forall_mem_cons.2 ⟨row_tumbrellaw08_awake_ok, ?_⟩
  refine List.forall_mem_cons.2 ⟨row_region_New_ok, ?_⟩
  refine List.forall_mem_cons.2 ⟨row_gheap_New_ok, ?_⟩
  refine List.forall_mem_cons.2 ⟨row_tumbrelref09_New_ok, ?_⟩
  refine List.forall_mem_cons.2 ⟨row_gheap_Heap_Has_ok, ?_⟩
  refine List.forall_mem_cons.2 ⟨row_mark_Marker_note_ok, ?_⟩
  refine List.forall_mem_cons.2 ⟨row_object_Refs_ok, ?_⟩
  refine List.forall_mem_cons.2 ⟨row_gheap_Heap_Region_ok, ?_⟩
  refine List.forall_mem_cons.2 ⟨row_region_Region_Arena_ok, ?_⟩
  refine List.forall_mem_cons.2 ⟨row_slices_Clone_int_int__ok, ?_⟩
  refine List.forall_mem_cons.2 ⟨row_gheap_Heap_Alloc_ok, ?_⟩
  refine List.forall_mem_cons.2 ⟨row_object_SetRef_ok, ?_⟩
  refine List.forall_mem_cons.2 ⟨row_gheap_Heap_Marked_ok, ?_⟩
  refine List.forall_mem_cons.2 ⟨row_link_mix_ok, ?_⟩
  refine List.forall_mem_cons.2 ⟨row_large_Set_stands_ok, ?_⟩
  refine List.forall_mem_cons.2 ⟨row_arena_Arena_Fill_ok, ?_⟩
  refine List.forall_mem_cons.2 ⟨row_large_run_ok, ?_⟩
  refine List.forall_mem_cons.2 ⟨row_class_Pages_ok, ?_⟩
  refine List.forall_mem_cons.2 ⟨row_arena_Arena_Len_ok, ?_⟩
  refine List.forall_mem_cons.2 ⟨row_large_Set_meets_ok, ?_⟩
  refine List.forall_mem_cons.2 ⟨row_large_Set_canary_ok, ?_⟩
  refine List.forall_mem_cons.2 ⟨row_arena_Arena_SetWord_ok, ?_⟩
  refine List.forall_mem_cons.2 ⟨row_slices_Sorted_int__ok, ?_⟩
  refine List.forall_mem_cons.2 ⟨row_maps_Keys_map_int_int_int_int__ok, ?_⟩
  refine List.forall_mem_cons.2 ⟨row_arena_New_ok, ?_⟩
  refine List.forall_mem_cons.2 ⟨row_pages_New_ok, ?_⟩
  refine List.forall_mem_cons.2 ⟨row_region_Region_Config_ok, ?_⟩
  refine List.forall_mem_cons.2 ⟨row_bitset_New_ok, ?_⟩
  refine List.forall_mem_cons.2 ⟨row_tumbrelref06_Key_ok, ?_⟩
  refine List.forall_mem_cons.2 ⟨row_tumbrelref04_New_ok, ?_⟩
  refine List.forall_mem_cons.2 ⟨row_bitset_Set_Has_ok, ?_⟩
  refine List.forall_mem_cons.2 ⟨row_gheap_Heap_Mark_ok, ?_⟩
  refine List.forall_mem_cons.2 ⟨row_object_Head_ok, ?_⟩
  refine List.forall_mem_cons.2 ⟨row_object_Ref_ok, ?_⟩
  refine List.forall_mem_cons.2 ⟨row_object_Shape_Class_ok, ?_⟩
  refine List.forall_mem_cons.2 ⟨row_gheap_Heap_place_ok, ?_⟩
  refine List.forall_mem_cons.2 ⟨row_region_Region_Pages_ok, ?_⟩
  refine List.forall_mem_cons.2 ⟨row_pages_Table_Map_ok, ?_⟩
  refine List.forall_mem_cons.2 ⟨row_class_Base_ok, ?_⟩
  refine List.forall_mem_cons.2 ⟨row_object_Make_ok, ?_⟩
  refine List.forall_mem_cons.2 ⟨row_bitset_Set_Put_ok, ?_⟩
  refine List.forall_mem_cons.2 ⟨row_object_ref_ok, ?_⟩
  refine List.forall_mem_cons.2 ⟨row_arena_Arena_Word_ok, ?_⟩
  refine List.forall_mem_cons.2 ⟨row_arena_Arena_in_ok, ?_⟩
  refine List.forall_mem_cons.2 ⟨row_class_Room_ok, ?_⟩
  refine List.forall_mem_cons.2 ⟨row_link_Code_Canary_ok, ?_⟩
  refine List.forall_mem_cons.2 ⟨row_arena_Arena_word_ok, ?_⟩
  refine List.forall_mem_cons.2 ⟨row_num_Put_ok, ?_⟩
  refine List.forall_mem_cons.2 ⟨row_slices_Collect_int__ok, ?_⟩
  refine List.forall_mem_cons.2 ⟨row_slices_Sort_int_int__ok, ?_⟩
  refine List.forall_mem_cons.2 ⟨row_maps_Keys_map_int_int_int_int__c1_ok, ?_⟩
  refine List.forall_mem_cons.2 ⟨row_tumbrelref06_Mix_ok, ?_⟩
  refine List.forall_mem_cons.2 ⟨row_bitset_Set_in_ok, ?_⟩
  refine List.forall_mem_cons.2 ⟨row_object_Shape_Bytes_ok, ?_⟩
  refine List.forall_mem_cons.2 ⟨row_object_Shape_word_ok, ?_⟩
  refine List.forall_mem_cons.2 ⟨row_class_Size_ok, ?_⟩
  refine List.forall_mem_cons.2 ⟨row_gheap_Heap_managed_ok, ?_⟩
  refine List.forall_mem_cons.2 ⟨row_gheap_Heap_row_ok, ?_⟩
  refine List.forall_mem_cons.2 ⟨row_gheap_Heap_slot_ok, ?_⟩
  refine List.forall_mem_cons.2 ⟨row_pages_Row_first_ok, ?_⟩
  refine List.forall_mem_cons.2 ⟨row_pages_Table_cut_ok, ?_⟩
  refine List.forall_mem_cons.2 ⟨row_pages_Table_place_ok, ?_⟩
  refine List.forall_mem_cons.2 ⟨row_class_Slots_ok, ?_⟩
  refine List.forall_mem_cons.2 ⟨row_object_field_ok, ?_⟩
  refine List.forall_mem_cons.2 ⟨row_num_Get_ok, ?_⟩
  refine List.forall_mem_cons.2 ⟨row_slices_pdqsortOrdered_int__ok, ?_⟩
  refine List.forall_mem_cons.2 ⟨row_math_bits_Len_ok, ?_⟩
  refine List.forall_mem_cons.2 ⟨row_bitset_Set_Len_ok, ?_⟩
  refine List.forall_mem_cons.2 ⟨row_object_Shape_may_ok, ?_⟩
  refine List.forall_mem_cons.2 ⟨row_class_may_ok, ?_⟩
  refine List.forall_mem_cons.2 ⟨row_pages_Table_Row_ok, ?_⟩
  refine List.forall_mem_cons.2 ⟨row_pages_Table_Len_ok, ?_⟩
  refine List.forall_mem_cons.2 ⟨row_pages_Row_free_ok, ?_⟩
  refine List.forall_mem_cons.2 ⟨row_slices_insertionSortOrdered_int__ok, ?_⟩
  refine List.forall_mem_cons.2 ⟨row_slices_heapSortOrdered_int__ok, ?_⟩
  refine List.forall_mem_cons.2 ⟨row_slices_breakPatternsOrdered_int__ok, ?_⟩
  refine List.forall_mem_cons.2 ⟨row_slices_choosePivotOrdered_int__ok, ?_⟩
  refine List.forall_mem_cons.2 ⟨row_slices_reverseRangeOrdered_int__ok, ?_⟩
  refine List.forall_mem_cons.2 ⟨row_slices_partialInsertionSortOrdered_int__ok, ?_⟩
  refine List.forall_mem_cons.2 ⟨row_cmp_Less_int__ok, ?_⟩
  refine List.forall_mem_cons.2 ⟨row_slices_partitionEqualOrdered_int__ok, ?_⟩
  refine List.forall_mem_cons.2 ⟨row_slices_partitionOrdered_int__ok, ?_⟩
  refine List.forall_mem_cons.2 ⟨row_math_bits_Len32_ok, ?_⟩
  refine List.forall_mem_cons.2 ⟨row_math_bits_Len64_ok, ?_⟩
  refine List.forall_mem_cons.2 ⟨row_slices_siftDownOrdered_int__ok, ?_⟩
  refine List.forall_mem_cons.2 ⟨row_slices_nextPowerOfTwo_ok, ?_⟩
  refine List.forall_mem_cons.2 ⟨row_slices_xorshift_Next_ok, ?_⟩
  refine List.forall_mem_cons.2 ⟨row_slices_medianAdjacentOrdered_int__ok, ?_⟩
  refine List.forall_mem_cons.2 ⟨row_slices_medianOrdered_int__ok, ?_⟩
  refine List.forall_mem_cons.2 ⟨row_cmp_isNaN_int__ok, ?_⟩
  refine List.forall_mem_cons.2 ⟨row_slices_order2Ordered_int__ok, ?_⟩
  exact fun x hx => by cases hx
end Go.Proofs.Ytbpfcmefpangbaa
