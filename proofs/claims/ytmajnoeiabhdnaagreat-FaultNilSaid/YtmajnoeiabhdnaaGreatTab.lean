/- The table of the functions of this set, for runs by reckoning. Printed by a program of this repo (wip/tools/gencode.py). -/
import Derived.Test.YtmajnoeiabhdnaaGreatCode
import Derived.Test.YtmajnoeiabhdnaaGreatRunIter
namespace Go.Proofs.YtmajnoeiabhdnaaGreat
open Go Go.Tum

def row_tumbrellaw10_FaultNil : FnRow := ⟨3, 46, [(.tmp 4)], m_tumbrellaw10_FaultNil⟩
theorem row_tumbrellaw10_FaultNil_ok : row_tumbrellaw10_FaultNil.Ok Tryz.prog := ⟨(by kernel_rfl : callable Tryz.prog 3 = true), Tryz.f3, Nat.le_of_ble_eq_true rfl, rfl, fun r hr => (by rcases List.mem_cons.1 hr with rfl | hr; exact trivial; exact (by cases hr)), fun _ _ _ hn h => e_tumbrellaw10_FaultNil hn h⟩
def row_fault_New : FnRow := ⟨4, 9, [(.tmp 2)], m_fault_New⟩
theorem row_fault_New_ok : row_fault_New.Ok Tryz.prog := ⟨(by kernel_rfl : callable Tryz.prog 4 = true), Tryz.f4, Nat.le_of_ble_eq_true rfl, rfl, fun r hr => (by rcases List.mem_cons.1 hr with rfl | hr; exact trivial; exact (by cases hr)), fun _ _ _ hn h => e_fault_New hn h⟩
def row_fault_Ledger_Note : FnRow := ⟨5, 35, [], m_fault_Ledger_Note⟩
theorem row_fault_Ledger_Note_ok : row_fault_Ledger_Note.Ok Tryz.prog := ⟨(by kernel_rfl : callable Tryz.prog 5 = true), Tryz.f5, Nat.le_of_ble_eq_true rfl, rfl, fun r hr => (by cases hr), fun _ _ _ hn h => e_fault_Ledger_Note hn h⟩
def row_fault_Ledger_Took : FnRow := ⟨6, 48, [(.tmp 4)], m_fault_Ledger_Took⟩
theorem row_fault_Ledger_Took_ok : row_fault_Ledger_Took.Ok Tryz.prog := ⟨(by kernel_rfl : callable Tryz.prog 6 = true), Tryz.f6, Nat.le_of_ble_eq_true rfl, rfl, fun r hr => (by rcases List.mem_cons.1 hr with rfl | hr; exact trivial; exact (by cases hr)), fun _ _ _ hn h => e_fault_Ledger_Took hn h⟩
def row_fault_Ledger_Dropped : FnRow := ⟨7, 23, [(.tmp 4)], m_fault_Ledger_Dropped⟩
theorem row_fault_Ledger_Dropped_ok : row_fault_Ledger_Dropped.Ok Tryz.prog := ⟨(by kernel_rfl : callable Tryz.prog 7 = true), Tryz.f7, Nat.le_of_ble_eq_true rfl, rfl, fun r hr => (by rcases List.mem_cons.1 hr with rfl | hr; exact trivial; exact (by cases hr)), fun _ _ _ hn h => e_fault_Ledger_Dropped hn h⟩
def row_fault_Ledger_Fault : FnRow := ⟨8, 50, [(.tmp 4)], m_fault_Ledger_Fault⟩
theorem row_fault_Ledger_Fault_ok : row_fault_Ledger_Fault.Ok Tryz.prog := ⟨(by kernel_rfl : callable Tryz.prog 8 = true), Tryz.f8, Nat.le_of_ble_eq_true rfl, rfl, fun r hr => (by rcases List.mem_cons.1 hr with rfl | hr; exact trivial; exact (by cases hr)), fun _ _ _ hn h => e_fault_Ledger_Fault hn h⟩
def row_fault_Ledger_Reports : FnRow := ⟨9, 10, [(.tmp 2)], m_fault_Ledger_Reports⟩
theorem row_fault_Ledger_Reports_ok : row_fault_Ledger_Reports.Ok Tryz.prog := ⟨(by kernel_rfl : callable Tryz.prog 9 = true), Tryz.f9, Nat.le_of_ble_eq_true rfl, rfl, fun r hr => (by rcases List.mem_cons.1 hr with rfl | hr; exact trivial; exact (by cases hr)), fun _ _ _ hn h => e_fault_Ledger_Reports hn h⟩
def row_fault_Ledger_Gone : FnRow := ⟨10, 11, [(.tmp 2)], m_fault_Ledger_Gone⟩
theorem row_fault_Ledger_Gone_ok : row_fault_Ledger_Gone.Ok Tryz.prog := ⟨(by kernel_rfl : callable Tryz.prog 10 = true), Tryz.f10, Nat.le_of_ble_eq_true rfl, rfl, fun r hr => (by rcases List.mem_cons.1 hr with rfl | hr; exact trivial; exact (by cases hr)), fun _ _ _ hn h => e_fault_Ledger_Gone hn h⟩
def row_tumbrellaw10_awake : FnRow := ⟨11, 108, [(.tmp 0)], m_tumbrellaw10_awake⟩
theorem row_tumbrellaw10_awake_ok : row_tumbrellaw10_awake.Ok Tryz.prog := ⟨(by kernel_rfl : callable Tryz.prog 11 = true), Tryz.f11, Nat.le_of_ble_eq_true rfl, rfl, fun r hr => (by rcases List.mem_cons.1 hr with rfl | hr; exact trivial; exact (by cases hr)), fun _ _ _ hn h => e_tumbrellaw10_awake hn h⟩
def row_fault_Ledger_live : FnRow := ⟨12, 24, [(.cell 4 42 6), (.tmp 5)], m_fault_Ledger_live⟩
theorem row_fault_Ledger_live_ok : row_fault_Ledger_live.Ok Tryz.prog := ⟨(by kernel_rfl : callable Tryz.prog 12 = true), Tryz.f12, Nat.le_of_ble_eq_true rfl, rfl, fun r hr => (by rcases List.mem_cons.1 hr with rfl | hr; exact (by show aggT Tryz.prog 42 = some 6; kernel_rfl); exact (by rcases List.mem_cons.1 hr with rfl | hr; exact trivial; exact (by cases hr))), fun _ _ _ hn h => e_fault_Ledger_live hn h⟩
def row_fault_end : FnRow := ⟨13, 18, [(.tmp 2)], m_fault_end⟩
theorem row_fault_end_ok : row_fault_end.Ok Tryz.prog := ⟨(by kernel_rfl : callable Tryz.prog 13 = true), Tryz.f13, Nat.le_of_ble_eq_true rfl, rfl, fun r hr => (by rcases List.mem_cons.1 hr with rfl | hr; exact trivial; exact (by cases hr)), fun _ _ _ hn h => e_fault_end hn h⟩
def row_fault_Ledger_manual : FnRow := ⟨14, 18, [(.tmp 4)], m_fault_Ledger_manual⟩
theorem row_fault_Ledger_manual_ok : row_fault_Ledger_manual.Ok Tryz.prog := ⟨(by kernel_rfl : callable Tryz.prog 14 = true), Tryz.f14, Nat.le_of_ble_eq_true rfl, rfl, fun r hr => (by rcases List.mem_cons.1 hr with rfl | hr; exact trivial; exact (by cases hr)), fun _ _ _ hn h => e_fault_Ledger_manual hn h⟩
def row_region_Region_Arena : FnRow := ⟨15, 9, [(.tmp 2)], m_region_Region_Arena⟩
theorem row_region_Region_Arena_ok : row_region_Region_Arena.Ok Tryz.prog := ⟨(by kernel_rfl : callable Tryz.prog 15 = true), Tryz.f15, Nat.le_of_ble_eq_true rfl, rfl, fun r hr => (by rcases List.mem_cons.1 hr with rfl | hr; exact trivial; exact (by cases hr)), fun _ _ _ hn h => e_region_Region_Arena hn h⟩
def row_arena_Arena_Len : FnRow := ⟨16, 10, [(.tmp 2)], m_arena_Arena_Len⟩
theorem row_arena_Arena_Len_ok : row_arena_Arena_Len.Ok Tryz.prog := ⟨(by kernel_rfl : callable Tryz.prog 16 = true), Tryz.f16, Nat.le_of_ble_eq_true rfl, rfl, fun r hr => (by rcases List.mem_cons.1 hr with rfl | hr; exact trivial; exact (by cases hr)), fun _ _ _ hn h => e_arena_Arena_Len hn h⟩
def row_slices_Clone_fault_Report_fault_Report_ : FnRow := ⟨17, 8, [(.tmp 2)], m_slices_Clone_fault_Report_fault_Report_⟩
theorem row_slices_Clone_fault_Report_fault_Report__ok : row_slices_Clone_fault_Report_fault_Report_.Ok Tryz.prog := ⟨(by kernel_rfl : callable Tryz.prog 17 = true), Tryz.f17, Nat.le_of_ble_eq_true rfl, rfl, fun r hr => (by rcases List.mem_cons.1 hr with rfl | hr; exact trivial; exact (by cases hr)), fun _ _ _ hn h => e_slices_Clone_fault_Report_fault_Report_ hn h⟩
def row_slices_Sorted_int_ : FnRow := ⟨18, 9, [(.tmp 2)], m_slices_Sorted_int_⟩
theorem row_slices_Sorted_int__ok : row_slices_Sorted_int_.Ok Tryz.prog := ⟨(by kernel_rfl : callable Tryz.prog 18 = true), Tryz.f18, Nat.le_of_ble_eq_true rfl, rfl, fun r hr => (by rcases List.mem_cons.1 hr with rfl | hr; exact trivial; exact (by cases hr)), fun _ _ _ hn h => e_slices_Sorted_int_ hn h⟩
def row_maps_Keys_map_int_bool_int_bool_ : FnRow := ⟨19, 4, [(.tmp 2)], m_maps_Keys_map_int_bool_int_bool_⟩
theorem row_maps_Keys_map_int_bool_int_bool__ok : row_maps_Keys_map_int_bool_int_bool_.Ok Tryz.prog := ⟨(by kernel_rfl : callable Tryz.prog 19 = true), Tryz.f19, Nat.le_of_ble_eq_true rfl, rfl, fun r hr => (by rcases List.mem_cons.1 hr with rfl | hr; exact trivial; exact (by cases hr)), fun _ _ _ hn h => e_maps_Keys_map_int_bool_int_bool_ hn h⟩
def row_region_New : FnRow := ⟨20, 59, [(.tmp 2), (.tmp 3)], m_region_New⟩
theorem row_region_New_ok : row_region_New.Ok Tryz.prog := ⟨(by kernel_rfl : callable Tryz.prog 20 = true), Tryz.f20, Nat.le_of_ble_eq_true rfl, rfl, fun r hr => (by rcases List.mem_cons.1 hr with rfl | hr; exact trivial; exact (by rcases List.mem_cons.1 hr with rfl | hr; exact trivial; exact (by cases hr))), fun _ _ _ hn h => e_region_New hn h⟩
def row_region_Region_Open : FnRow := ⟨21, 70, [(.tmp 6), (.tmp 7)], m_region_Region_Open⟩
theorem row_region_Region_Open_ok : row_region_Region_Open.Ok Tryz.prog := ⟨(by kernel_rfl : callable Tryz.prog 21 = true), Tryz.f21, Nat.le_of_ble_eq_true rfl, rfl, fun r hr => (by rcases List.mem_cons.1 hr with rfl | hr; exact trivial; exact (by rcases List.mem_cons.1 hr with rfl | hr; exact trivial; exact (by cases hr))), fun _ _ _ hn h => e_region_Region_Open hn h⟩
def row_region_Region_Take : FnRow := ⟨22, 29, [(.tmp 4), (.tmp 5)], m_region_Region_Take⟩
theorem row_region_Region_Take_ok : row_region_Region_Take.Ok Tryz.prog := ⟨(by kernel_rfl : callable Tryz.prog 22 = true), Tryz.f22, Nat.le_of_ble_eq_true rfl, rfl, fun r hr => (by rcases List.mem_cons.1 hr with rfl | hr; exact trivial; exact (by rcases List.mem_cons.1 hr with rfl | hr; exact trivial; exact (by cases hr))), fun _ _ _ hn h => e_region_Region_Take hn h⟩
def row_region_Region_Drop : FnRow := ⟨23, 51, [(.tmp 4), (.tmp 5)], m_region_Region_Drop⟩
theorem row_region_Region_Drop_ok : row_region_Region_Drop.Ok Tryz.prog := ⟨(by kernel_rfl : callable Tryz.prog 23 = true), Tryz.f23, Nat.le_of_ble_eq_true rfl, rfl, fun r hr => (by rcases List.mem_cons.1 hr with rfl | hr; exact trivial; exact (by rcases List.mem_cons.1 hr with rfl | hr; exact trivial; exact (by cases hr))), fun _ _ _ hn h => e_region_Region_Drop hn h⟩
def row_region_Region_Give : FnRow := ⟨24, 27, [(.tmp 4)], m_region_Region_Give⟩
theorem row_region_Region_Give_ok : row_region_Region_Give.Ok Tryz.prog := ⟨(by kernel_rfl : callable Tryz.prog 24 = true), Tryz.f24, Nat.le_of_ble_eq_true rfl, rfl, fun r hr => (by rcases List.mem_cons.1 hr with rfl | hr; exact trivial; exact (by cases hr)), fun _ _ _ hn h => e_region_Region_Give hn h⟩
def row_region_Region_Find : FnRow := ⟨25, 73, [(.cell 4 42 6), (.tmp 5)], m_region_Region_Find⟩
theorem row_region_Region_Find_ok : row_region_Region_Find.Ok Tryz.prog := ⟨(by kernel_rfl : callable Tryz.prog 25 = true), Tryz.f25, Nat.le_of_ble_eq_true rfl, rfl, fun r hr => (by rcases List.mem_cons.1 hr with rfl | hr; exact (by show aggT Tryz.prog 42 = some 6; kernel_rfl); exact (by rcases List.mem_cons.1 hr with rfl | hr; exact trivial; exact (by cases hr))), fun _ _ _ hn h => e_region_Region_Find hn h⟩
def row_region_Region_Config : FnRow := ⟨26, 10, [(.cell 2 59 3)], m_region_Region_Config⟩
theorem row_region_Region_Config_ok : row_region_Region_Config.Ok Tryz.prog := ⟨(by kernel_rfl : callable Tryz.prog 26 = true), Tryz.f26, Nat.le_of_ble_eq_true rfl, rfl, fun r hr => (by rcases List.mem_cons.1 hr with rfl | hr; exact (by show aggT Tryz.prog 59 = some 3; kernel_rfl); exact (by cases hr)), fun _ _ _ hn h => e_region_Region_Config hn h⟩
def row_slices_Collect_int_ : FnRow := ⟨27, 5, [(.tmp 2)], m_slices_Collect_int_⟩
theorem row_slices_Collect_int__ok : row_slices_Collect_int_.Ok Tryz.prog := ⟨(by kernel_rfl : callable Tryz.prog 27 = true), Tryz.f27, Nat.le_of_ble_eq_true rfl, rfl, fun r hr => (by rcases List.mem_cons.1 hr with rfl | hr; exact trivial; exact (by cases hr)), fun _ _ _ hn h => e_slices_Collect_int_ hn h⟩
def row_slices_Sort_int_int_ : FnRow := ⟨28, 11, [], m_slices_Sort_int_int_⟩
theorem row_slices_Sort_int_int__ok : row_slices_Sort_int_int_.Ok Tryz.prog := ⟨(by kernel_rfl : callable Tryz.prog 28 = true), Tryz.f28, Nat.le_of_ble_eq_true rfl, rfl, fun r hr => (by cases hr), fun _ _ _ hn h => e_slices_Sort_int_int_ hn h⟩
def row_maps_Keys_map_int_bool_int_bool__c1 : FnRow := ⟨29, 14, [], m_maps_Keys_map_int_bool_int_bool__c1⟩
theorem row_maps_Keys_map_int_bool_int_bool__c1_ok : row_maps_Keys_map_int_bool_int_bool__c1.Ok Tryz.prog := ⟨(by kernel_rfl : callable Tryz.prog 29 = true), Tryz.f29, Nat.le_of_ble_eq_true rfl, rfl, fun r hr => (by cases hr), fun _ _ _ hn h => e_maps_Keys_map_int_bool_int_bool__c1 hn h⟩
def row_arena_New : FnRow := ⟨30, 10, [(.tmp 2)], m_arena_New⟩
theorem row_arena_New_ok : row_arena_New.Ok Tryz.prog := ⟨(by kernel_rfl : callable Tryz.prog 30 = true), Tryz.f30, Nat.le_of_ble_eq_true rfl, rfl, fun r hr => (by rcases List.mem_cons.1 hr with rfl | hr; exact trivial; exact (by cases hr)), fun _ _ _ hn h => e_arena_New hn h⟩
def row_link_New : FnRow := ⟨31, 7, [(.cell 2 68 1)], m_link_New⟩
theorem row_link_New_ok : row_link_New.Ok Tryz.prog := ⟨(by kernel_rfl : callable Tryz.prog 31 = true), Tryz.f31, Nat.le_of_ble_eq_true rfl, rfl, fun r hr => (by rcases List.mem_cons.1 hr with rfl | hr; exact (by show aggT Tryz.prog 68 = some 1; kernel_rfl); exact (by cases hr)), fun _ _ _ hn h => e_link_New hn h⟩
def row_pages_New : FnRow := ⟨32, 9, [(.tmp 2)], m_pages_New⟩
theorem row_pages_New_ok : row_pages_New.Ok Tryz.prog := ⟨(by kernel_rfl : callable Tryz.prog 32 = true), Tryz.f32, Nat.le_of_ble_eq_true rfl, rfl, fun r hr => (by rcases List.mem_cons.1 hr with rfl | hr; exact trivial; exact (by cases hr)), fun _ _ _ hn h => e_pages_New hn h⟩
def row_large_New : FnRow := ⟨33, 12, [(.tmp 4)], m_large_New⟩
theorem row_large_New_ok : row_large_New.Ok Tryz.prog := ⟨(by kernel_rfl : callable Tryz.prog 33 = true), Tryz.f33, Nat.le_of_ble_eq_true rfl, rfl, fun r hr => (by rcases List.mem_cons.1 hr with rfl | hr; exact trivial; exact (by cases hr)), fun _ _ _ hn h => e_large_New hn h⟩
def row_class_Size : FnRow := ⟨34, 8, [(.tmp 2)], m_class_Size⟩
theorem row_class_Size_ok : row_class_Size.Ok Tryz.prog := ⟨(by kernel_rfl : callable Tryz.prog 34 = true), Tryz.f34, Nat.le_of_ble_eq_true rfl, rfl, fun r hr => (by rcases List.mem_cons.1 hr with rfl | hr; exact trivial; exact (by cases hr)), fun _ _ _ hn h => e_class_Size hn h⟩
def row_pages_Table_Map : FnRow := ⟨35, 73, [(.tmp 8), (.tmp 9)], m_pages_Table_Map⟩
theorem row_pages_Table_Map_ok : row_pages_Table_Map.Ok Tryz.prog := ⟨(by kernel_rfl : callable Tryz.prog 35 = true), Tryz.f35, Nat.le_of_ble_eq_true rfl, rfl, fun r hr => (by rcases List.mem_cons.1 hr with rfl | hr; exact trivial; exact (by rcases List.mem_cons.1 hr with rfl | hr; exact trivial; exact (by cases hr))), fun _ _ _ hn h => e_pages_Table_Map hn h⟩
def row_slab_Make : FnRow := ⟨36, 55, [(.tmp 10), (.tmp 11)], m_slab_Make⟩
theorem row_slab_Make_ok : row_slab_Make.Ok Tryz.prog := ⟨(by kernel_rfl : callable Tryz.prog 36 = true), Tryz.f36, Nat.le_of_ble_eq_true rfl, rfl, fun r hr => (by rcases List.mem_cons.1 hr with rfl | hr; exact trivial; exact (by rcases List.mem_cons.1 hr with rfl | hr; exact trivial; exact (by cases hr))), fun _ _ _ hn h => e_slab_Make hn h⟩
def row_region_Region_slab : FnRow := ⟨37, 13, [(.tmp 4)], m_region_Region_slab⟩
theorem row_region_Region_slab_ok : row_region_Region_slab.Ok Tryz.prog := ⟨(by kernel_rfl : callable Tryz.prog 37 = true), Tryz.f37, Nat.le_of_ble_eq_true rfl, rfl, fun r hr => (by rcases List.mem_cons.1 hr with rfl | hr; exact trivial; exact (by cases hr)), fun _ _ _ hn h => e_region_Region_slab hn h⟩
def row_slab_Slab_Take : FnRow := ⟨38, 80, [(.tmp 2), (.tmp 3)], m_slab_Slab_Take⟩
theorem row_slab_Slab_Take_ok : row_slab_Slab_Take.Ok Tryz.prog := ⟨(by kernel_rfl : callable Tryz.prog 38 = true), Tryz.f38, Nat.le_of_ble_eq_true rfl, rfl, fun r hr => (by rcases List.mem_cons.1 hr with rfl | hr; exact trivial; exact (by rcases List.mem_cons.1 hr with rfl | hr; exact trivial; exact (by cases hr))), fun _ _ _ hn h => e_slab_Slab_Take hn h⟩
def row_class_Base : FnRow := ⟨39, 30, [(.tmp 6)], m_class_Base⟩
theorem row_class_Base_ok : row_class_Base.Ok Tryz.prog := ⟨(by kernel_rfl : callable Tryz.prog 39 = true), Tryz.f39, Nat.le_of_ble_eq_true rfl, rfl, fun r hr => (by rcases List.mem_cons.1 hr with rfl | hr; exact trivial; exact (by cases hr)), fun _ _ _ hn h => e_class_Base hn h⟩
def row_slab_Slab_Class : FnRow := ⟨40, 9, [(.tmp 2)], m_slab_Slab_Class⟩
theorem row_slab_Slab_Class_ok : row_slab_Slab_Class.Ok Tryz.prog := ⟨(by kernel_rfl : callable Tryz.prog 40 = true), Tryz.f40, Nat.le_of_ble_eq_true rfl, rfl, fun r hr => (by rcases List.mem_cons.1 hr with rfl | hr; exact trivial; exact (by cases hr)), fun _ _ _ hn h => e_slab_Slab_Class hn h⟩
def row_region_Region_base : FnRow := ⟨41, 27, [(.cell 4 42 6), (.tmp 5)], m_region_Region_base⟩
theorem row_region_Region_base_ok : row_region_Region_base.Ok Tryz.prog := ⟨(by kernel_rfl : callable Tryz.prog 41 = true), Tryz.f41, Nat.le_of_ble_eq_true rfl, rfl, fun r hr => (by rcases List.mem_cons.1 hr with rfl | hr; exact (by show aggT Tryz.prog 42 = some 6; kernel_rfl); exact (by rcases List.mem_cons.1 hr with rfl | hr; exact trivial; exact (by cases hr))), fun _ _ _ hn h => e_region_Region_base hn h⟩
def row_slab_Slab_Drop : FnRow := ⟨42, 43, [(.tmp 4), (.tmp 5)], m_slab_Slab_Drop⟩
theorem row_slab_Slab_Drop_ok : row_slab_Slab_Drop.Ok Tryz.prog := ⟨(by kernel_rfl : callable Tryz.prog 42 = true), Tryz.f42, Nat.le_of_ble_eq_true rfl, rfl, fun r hr => (by rcases List.mem_cons.1 hr with rfl | hr; exact trivial; exact (by rcases List.mem_cons.1 hr with rfl | hr; exact trivial; exact (by cases hr))), fun _ _ _ hn h => e_slab_Slab_Drop hn h⟩
def row_large_Set_Drop : FnRow := ⟨43, 41, [(.tmp 4), (.tmp 5)], m_large_Set_Drop⟩
theorem row_large_Set_Drop_ok : row_large_Set_Drop.Ok Tryz.prog := ⟨(by kernel_rfl : callable Tryz.prog 43 = true), Tryz.f43, Nat.le_of_ble_eq_true rfl, rfl, fun r hr => (by rcases List.mem_cons.1 hr with rfl | hr; exact trivial; exact (by rcases List.mem_cons.1 hr with rfl | hr; exact trivial; exact (by cases hr))), fun _ _ _ hn h => e_large_Set_Drop hn h⟩
def row_pages_Table_Unmap : FnRow := ⟨44, 26, [(.tmp 4)], m_pages_Table_Unmap⟩
theorem row_pages_Table_Unmap_ok : row_pages_Table_Unmap.Ok Tryz.prog := ⟨(by kernel_rfl : callable Tryz.prog 44 = true), Tryz.f44, Nat.le_of_ble_eq_true rfl, rfl, fun r hr => (by rcases List.mem_cons.1 hr with rfl | hr; exact trivial; exact (by cases hr)), fun _ _ _ hn h => e_pages_Table_Unmap hn h⟩
def row_slab_Slab_Give : FnRow := ⟨45, 21, [(.tmp 4)], m_slab_Slab_Give⟩
theorem row_slab_Slab_Give_ok : row_slab_Slab_Give.Ok Tryz.prog := ⟨(by kernel_rfl : callable Tryz.prog 45 = true), Tryz.f45, Nat.le_of_ble_eq_true rfl, rfl, fun r hr => (by rcases List.mem_cons.1 hr with rfl | hr; exact trivial; exact (by cases hr)), fun _ _ _ hn h => e_slab_Slab_Give hn h⟩
def row_class_Slot : FnRow := ⟨46, 24, [(.tmp 4), (.tmp 5)], m_class_Slot⟩
theorem row_class_Slot_ok : row_class_Slot.Ok Tryz.prog := ⟨(by kernel_rfl : callable Tryz.prog 46 = true), Tryz.f46, Nat.le_of_ble_eq_true rfl, rfl, fun r hr => (by rcases List.mem_cons.1 hr with rfl | hr; exact trivial; exact (by rcases List.mem_cons.1 hr with rfl | hr; exact trivial; exact (by cases hr))), fun _ _ _ hn h => e_class_Slot hn h⟩
def row_region_Region_place : FnRow := ⟨47, 23, [(.cell 6 42 6)], m_region_Region_place⟩
theorem row_region_Region_place_ok : row_region_Region_place.Ok Tryz.prog := ⟨(by kernel_rfl : callable Tryz.prog 47 = true), Tryz.f47, Nat.le_of_ble_eq_true rfl, rfl, fun r hr => (by rcases List.mem_cons.1 hr with rfl | hr; exact (by show aggT Tryz.prog 42 = some 6; kernel_rfl); exact (by cases hr)), fun _ _ _ hn h => e_region_Region_place hn h⟩
def row_pages_Table_Head : FnRow := ⟨48, 19, [(.tmp 4), (.tmp 5)], m_pages_Table_Head⟩
theorem row_pages_Table_Head_ok : row_pages_Table_Head.Ok Tryz.prog := ⟨(by kernel_rfl : callable Tryz.prog 48 = true), Tryz.f48, Nat.le_of_ble_eq_true rfl, rfl, fun r hr => (by rcases List.mem_cons.1 hr with rfl | hr; exact trivial; exact (by rcases List.mem_cons.1 hr with rfl | hr; exact trivial; exact (by cases hr))), fun _ _ _ hn h => e_pages_Table_Head hn h⟩
def row_large_Set_Size : FnRow := ⟨49, 13, [(.tmp 4)], m_large_Set_Size⟩
theorem row_large_Set_Size_ok : row_large_Set_Size.Ok Tryz.prog := ⟨(by kernel_rfl : callable Tryz.prog 49 = true), Tryz.f49, Nat.le_of_ble_eq_true rfl, rfl, fun r hr => (by rcases List.mem_cons.1 hr with rfl | hr; exact trivial; exact (by cases hr)), fun _ _ _ hn h => e_large_Set_Size hn h⟩
def row_slices_pdqsortOrdered_int_ : FnRow := ⟨51, 134, [], m_slices_pdqsortOrdered_int_⟩
theorem row_slices_pdqsortOrdered_int__ok : row_slices_pdqsortOrdered_int_.Ok Tryz.prog := ⟨(by kernel_rfl : callable Tryz.prog 51 = true), Tryz.f51, Nat.le_of_ble_eq_true rfl, rfl, fun r hr => (by cases hr), fun _ _ _ hn h => e_slices_pdqsortOrdered_int_ hn h⟩
def row_math_bits_Len : FnRow := ⟨52, 8, [(.tmp 2)], m_math_bits_Len⟩
theorem row_math_bits_Len_ok : row_math_bits_Len.Ok Tryz.prog := ⟨(by kernel_rfl : callable Tryz.prog 52 = true), Tryz.f52, Nat.le_of_ble_eq_true rfl, rfl, fun r hr => (by rcases List.mem_cons.1 hr with rfl | hr; exact trivial; exact (by cases hr)), fun _ _ _ hn h => e_math_bits_Len hn h⟩
def row_link_mix : FnRow := ⟨53, 17, [(.tmp 2)], m_link_mix⟩
theorem row_link_mix_ok : row_link_mix.Ok Tryz.prog := ⟨(by kernel_rfl : callable Tryz.prog 53 = true), Tryz.f53, Nat.le_of_ble_eq_true rfl, rfl, fun r hr => (by rcases List.mem_cons.1 hr with rfl | hr; exact trivial; exact (by cases hr)), fun _ _ _ hn h => e_link_mix hn h⟩
def row_class_may : FnRow := ⟨54, 9, [(.tmp 2)], m_class_may⟩
theorem row_class_may_ok : row_class_may.Ok Tryz.prog := ⟨(by kernel_rfl : callable Tryz.prog 54 = true), Tryz.f54, Nat.le_of_ble_eq_true rfl, rfl, fun r hr => (by rcases List.mem_cons.1 hr with rfl | hr; exact trivial; exact (by cases hr)), fun _ _ _ hn h => e_class_may hn h⟩
def row_pages_Row_first : FnRow := ⟨55, 16, [(.tmp 2)], m_pages_Row_first⟩
theorem row_pages_Row_first_ok : row_pages_Row_first.Ok Tryz.prog := ⟨(by kernel_rfl : callable Tryz.prog 55 = true), Tryz.f55, Nat.le_of_ble_eq_true rfl, rfl, fun r hr => (by rcases List.mem_cons.1 hr with rfl | hr; exact trivial; exact (by cases hr)), fun _ _ _ hn h => e_pages_Row_first hn h⟩
def row_pages_Table_cut : FnRow := ⟨56, 18, [(.tmp 6), (.tmp 7)], m_pages_Table_cut⟩
theorem row_pages_Table_cut_ok : row_pages_Table_cut.Ok Tryz.prog := ⟨(by kernel_rfl : callable Tryz.prog 56 = true), Tryz.f56, Nat.le_of_ble_eq_true rfl, rfl, fun r hr => (by rcases List.mem_cons.1 hr with rfl | hr; exact trivial; exact (by rcases List.mem_cons.1 hr with rfl | hr; exact trivial; exact (by cases hr))), fun _ _ _ hn h => e_pages_Table_cut hn h⟩
def row_pages_Table_place : FnRow := ⟨57, 36, [(.tmp 8), (.tmp 9)], m_pages_Table_place⟩
theorem row_pages_Table_place_ok : row_pages_Table_place.Ok Tryz.prog := ⟨(by kernel_rfl : callable Tryz.prog 57 = true), Tryz.f57, Nat.le_of_ble_eq_true rfl, rfl, fun r hr => (by rcases List.mem_cons.1 hr with rfl | hr; exact trivial; exact (by rcases List.mem_cons.1 hr with rfl | hr; exact trivial; exact (by cases hr))), fun _ _ _ hn h => e_pages_Table_place hn h⟩
def row_class_Slots : FnRow := ⟨58, 9, [(.tmp 2)], m_class_Slots⟩
theorem row_class_Slots_ok : row_class_Slots.Ok Tryz.prog := ⟨(by kernel_rfl : callable Tryz.prog 58 = true), Tryz.f58, Nat.le_of_ble_eq_true rfl, rfl, fun r hr => (by rcases List.mem_cons.1 hr with rfl | hr; exact trivial; exact (by cases hr)), fun _ _ _ hn h => e_class_Slots hn h⟩
def row_bitset_New : FnRow := ⟨59, 14, [(.tmp 2)], m_bitset_New⟩
theorem row_bitset_New_ok : row_bitset_New.Ok Tryz.prog := ⟨(by kernel_rfl : callable Tryz.prog 59 = true), Tryz.f59, Nat.le_of_ble_eq_true rfl, rfl, fun r hr => (by rcases List.mem_cons.1 hr with rfl | hr; exact trivial; exact (by cases hr)), fun _ _ _ hn h => e_bitset_New hn h⟩
def row_slab_Slab_join : FnRow := ⟨60, 28, [], m_slab_Slab_join⟩
theorem row_slab_Slab_join_ok : row_slab_Slab_join.Ok Tryz.prog := ⟨(by kernel_rfl : callable Tryz.prog 60 = true), Tryz.f60, Nat.le_of_ble_eq_true rfl, rfl, fun r hr => (by cases hr), fun _ _ _ hn h => e_slab_Slab_join hn h⟩
def row_slab_Slab_follow : FnRow := ⟨61, 73, [(.tmp 4), (.tmp 5)], m_slab_Slab_follow⟩
theorem row_slab_Slab_follow_ok : row_slab_Slab_follow.Ok Tryz.prog := ⟨(by kernel_rfl : callable Tryz.prog 61 = true), Tryz.f61, Nat.le_of_ble_eq_true rfl, rfl, fun r hr => (by rcases List.mem_cons.1 hr with rfl | hr; exact trivial; exact (by rcases List.mem_cons.1 hr with rfl | hr; exact trivial; exact (by cases hr))), fun _ _ _ hn h => e_slab_Slab_follow hn h⟩
def row_arena_Arena_Fill : FnRow := ⟨62, 33, [(.tmp 8)], m_arena_Arena_Fill⟩
theorem row_arena_Arena_Fill_ok : row_arena_Arena_Fill.Ok Tryz.prog := ⟨(by kernel_rfl : callable Tryz.prog 62 = true), Tryz.f62, Nat.le_of_ble_eq_true rfl, rfl, fun r hr => (by rcases List.mem_cons.1 hr with rfl | hr; exact trivial; exact (by cases hr)), fun _ _ _ hn h => e_arena_Arena_Fill hn h⟩
def row_class_Room : FnRow := ⟨63, 7, [(.tmp 2)], m_class_Room⟩
theorem row_class_Room_ok : row_class_Room.Ok Tryz.prog := ⟨(by kernel_rfl : callable Tryz.prog 63 = true), Tryz.f63, Nat.le_of_ble_eq_true rfl, rfl, fun r hr => (by rcases List.mem_cons.1 hr with rfl | hr; exact trivial; exact (by cases hr)), fun _ _ _ hn h => e_class_Room hn h⟩
def row_slab_Slab_canary : FnRow := ⟨64, 23, [(.tmp 4), (.tmp 5)], m_slab_Slab_canary⟩
theorem row_slab_Slab_canary_ok : row_slab_Slab_canary.Ok Tryz.prog := ⟨(by kernel_rfl : callable Tryz.prog 64 = true), Tryz.f64, Nat.le_of_ble_eq_true rfl, rfl, fun r hr => (by rcases List.mem_cons.1 hr with rfl | hr; exact trivial; exact (by rcases List.mem_cons.1 hr with rfl | hr; exact trivial; exact (by cases hr))), fun _ _ _ hn h => e_slab_Slab_canary hn h⟩
def row_arena_Arena_SetWord : FnRow := ⟨65, 23, [(.tmp 6)], m_arena_Arena_SetWord⟩
theorem row_arena_Arena_SetWord_ok : row_arena_Arena_SetWord.Ok Tryz.prog := ⟨(by kernel_rfl : callable Tryz.prog 65 = true), Tryz.f65, Nat.le_of_ble_eq_true rfl, rfl, fun r hr => (by rcases List.mem_cons.1 hr with rfl | hr; exact trivial; exact (by cases hr)), fun _ _ _ hn h => e_arena_Arena_SetWord hn h⟩
def row_bitset_Set_Put : FnRow := ⟨66, 43, [(.tmp 6)], m_bitset_Set_Put⟩
theorem row_bitset_Set_Put_ok : row_bitset_Set_Put.Ok Tryz.prog := ⟨(by kernel_rfl : callable Tryz.prog 66 = true), Tryz.f66, Nat.le_of_ble_eq_true rfl, rfl, fun r hr => (by rcases List.mem_cons.1 hr with rfl | hr; exact trivial; exact (by cases hr)), fun _ _ _ hn h => e_bitset_Set_Put hn h⟩
def row_slab_Slab_must : FnRow := ⟨67, 21, [(.tmp 6)], m_slab_Slab_must⟩
theorem row_slab_Slab_must_ok : row_slab_Slab_must.Ok Tryz.prog := ⟨(by kernel_rfl : callable Tryz.prog 67 = true), Tryz.f67, Nat.le_of_ble_eq_true rfl, rfl, fun r hr => (by rcases List.mem_cons.1 hr with rfl | hr; exact trivial; exact (by cases hr)), fun _ _ _ hn h => e_slab_Slab_must hn h⟩
def row_slab_Slab_stands : FnRow := ⟨68, 31, [(.tmp 4)], m_slab_Slab_stands⟩
theorem row_slab_Slab_stands_ok : row_slab_Slab_stands.Ok Tryz.prog := ⟨(by kernel_rfl : callable Tryz.prog 68 = true), Tryz.f68, Nat.le_of_ble_eq_true rfl, rfl, fun r hr => (by rcases List.mem_cons.1 hr with rfl | hr; exact trivial; exact (by cases hr)), fun _ _ _ hn h => e_slab_Slab_stands hn h⟩
def row_slab_Slab_base : FnRow := ⟨69, 15, [(.tmp 4)], m_slab_Slab_base⟩
theorem row_slab_Slab_base_ok : row_slab_Slab_base.Ok Tryz.prog := ⟨(by kernel_rfl : callable Tryz.prog 69 = true), Tryz.f69, Nat.le_of_ble_eq_true rfl, rfl, fun r hr => (by rcases List.mem_cons.1 hr with rfl | hr; exact trivial; exact (by cases hr)), fun _ _ _ hn h => e_slab_Slab_base hn h⟩
def row_large_Set_stands : FnRow := ⟨70, 37, [(.tmp 4)], m_large_Set_stands⟩
theorem row_large_Set_stands_ok : row_large_Set_stands.Ok Tryz.prog := ⟨(by kernel_rfl : callable Tryz.prog 70 = true), Tryz.f70, Nat.le_of_ble_eq_true rfl, rfl, fun r hr => (by rcases List.mem_cons.1 hr with rfl | hr; exact trivial; exact (by cases hr)), fun _ _ _ hn h => e_large_Set_stands hn h⟩
def row_large_run : FnRow := ⟨71, 11, [(.tmp 2)], m_large_run⟩
theorem row_large_run_ok : row_large_run.Ok Tryz.prog := ⟨(by kernel_rfl : callable Tryz.prog 71 = true), Tryz.f71, Nat.le_of_ble_eq_true rfl, rfl, fun r hr => (by rcases List.mem_cons.1 hr with rfl | hr; exact trivial; exact (by cases hr)), fun _ _ _ hn h => e_large_run hn h⟩
def row_pages_Table_Row : FnRow := ⟨72, 21, [(.cell 4 84 4)], m_pages_Table_Row⟩
theorem row_pages_Table_Row_ok : row_pages_Table_Row.Ok Tryz.prog := ⟨(by kernel_rfl : callable Tryz.prog 72 = true), Tryz.f72, Nat.le_of_ble_eq_true rfl, rfl, fun r hr => (by rcases List.mem_cons.1 hr with rfl | hr; exact (by show aggT Tryz.prog 84 = some 4; kernel_rfl); exact (by cases hr)), fun _ _ _ hn h => e_pages_Table_Row hn h⟩
def row_slab_Slab_Page : FnRow := ⟨73, 9, [(.tmp 2)], m_slab_Slab_Page⟩
theorem row_slab_Slab_Page_ok : row_slab_Slab_Page.Ok Tryz.prog := ⟨(by kernel_rfl : callable Tryz.prog 73 = true), Tryz.f73, Nat.le_of_ble_eq_true rfl, rfl, fun r hr => (by rcases List.mem_cons.1 hr with rfl | hr; exact trivial; exact (by cases hr)), fun _ _ _ hn h => e_slab_Slab_Page hn h⟩
def row_slab_Slab_State : FnRow := ⟨74, 35, [(.tmp 4)], m_slab_Slab_State⟩
theorem row_slab_Slab_State_ok : row_slab_Slab_State.Ok Tryz.prog := ⟨(by kernel_rfl : callable Tryz.prog 74 = true), Tryz.f74, Nat.le_of_ble_eq_true rfl, rfl, fun r hr => (by rcases List.mem_cons.1 hr with rfl | hr; exact trivial; exact (by cases hr)), fun _ _ _ hn h => e_slab_Slab_State hn h⟩
def row_slices_insertionSortOrdered_int_ : FnRow := ⟨75, 49, [], m_slices_insertionSortOrdered_int_⟩
theorem row_slices_insertionSortOrdered_int__ok : row_slices_insertionSortOrdered_int_.Ok Tryz.prog := ⟨(by kernel_rfl : callable Tryz.prog 75 = true), Tryz.f75, Nat.le_of_ble_eq_true rfl, rfl, fun r hr => (by cases hr), fun _ _ _ hn h => e_slices_insertionSortOrdered_int_ hn h⟩
def row_slices_heapSortOrdered_int_ : FnRow := ⟨76, 56, [], m_slices_heapSortOrdered_int_⟩
theorem row_slices_heapSortOrdered_int__ok : row_slices_heapSortOrdered_int_.Ok Tryz.prog := ⟨(by kernel_rfl : callable Tryz.prog 76 = true), Tryz.f76, Nat.le_of_ble_eq_true rfl, rfl, fun r hr => (by cases hr), fun _ _ _ hn h => e_slices_heapSortOrdered_int_ hn h⟩
def row_slices_breakPatternsOrdered_int_ : FnRow := ⟨77, 65, [], m_slices_breakPatternsOrdered_int_⟩
theorem row_slices_breakPatternsOrdered_int__ok : row_slices_breakPatternsOrdered_int_.Ok Tryz.prog := ⟨(by kernel_rfl : callable Tryz.prog 77 = true), Tryz.f77, Nat.le_of_ble_eq_true rfl, rfl, fun r hr => (by cases hr), fun _ _ _ hn h => e_slices_breakPatternsOrdered_int_ hn h⟩
def row_slices_choosePivotOrdered_int_ : FnRow := ⟨78, 57, [(.tmp 6), (.tmp 7)], m_slices_choosePivotOrdered_int_⟩
theorem row_slices_choosePivotOrdered_int__ok : row_slices_choosePivotOrdered_int_.Ok Tryz.prog := ⟨(by kernel_rfl : callable Tryz.prog 78 = true), Tryz.f78, Nat.le_of_ble_eq_true rfl, rfl, fun r hr => (by rcases List.mem_cons.1 hr with rfl | hr; exact trivial; exact (by rcases List.mem_cons.1 hr with rfl | hr; exact trivial; exact (by cases hr))), fun _ _ _ hn h => e_slices_choosePivotOrdered_int_ hn h⟩
def row_slices_reverseRangeOrdered_int_ : FnRow := ⟨79, 32, [], m_slices_reverseRangeOrdered_int_⟩
theorem row_slices_reverseRangeOrdered_int__ok : row_slices_reverseRangeOrdered_int_.Ok Tryz.prog := ⟨(by kernel_rfl : callable Tryz.prog 79 = true), Tryz.f79, Nat.le_of_ble_eq_true rfl, rfl, fun r hr => (by cases hr), fun _ _ _ hn h => e_slices_reverseRangeOrdered_int_ hn h⟩
def row_slices_partialInsertionSortOrdered_int_ : FnRow := ⟨80, 133, [(.tmp 6)], m_slices_partialInsertionSortOrdered_int_⟩
theorem row_slices_partialInsertionSortOrdered_int__ok : row_slices_partialInsertionSortOrdered_int_.Ok Tryz.prog := ⟨(by kernel_rfl : callable Tryz.prog 80 = true), Tryz.f80, Nat.le_of_ble_eq_true rfl, rfl, fun r hr => (by rcases List.mem_cons.1 hr with rfl | hr; exact trivial; exact (by cases hr)), fun _ _ _ hn h => e_slices_partialInsertionSortOrdered_int_ hn h⟩
def row_cmp_Less_int_ : FnRow := ⟨81, 17, [(.tmp 4)], m_cmp_Less_int_⟩
theorem row_cmp_Less_int__ok : row_cmp_Less_int_.Ok Tryz.prog := ⟨(by kernel_rfl : callable Tryz.prog 81 = true), Tryz.f81, Nat.le_of_ble_eq_true rfl, rfl, fun r hr => (by rcases List.mem_cons.1 hr with rfl | hr; exact trivial; exact (by cases hr)), fun _ _ _ hn h => e_cmp_Less_int_ hn h⟩
def row_slices_partitionEqualOrdered_int_ : FnRow := ⟨82, 84, [(.tmp 8)], m_slices_partitionEqualOrdered_int_⟩
theorem row_slices_partitionEqualOrdered_int__ok : row_slices_partitionEqualOrdered_int_.Ok Tryz.prog := ⟨(by kernel_rfl : callable Tryz.prog 82 = true), Tryz.f82, Nat.le_of_ble_eq_true rfl, rfl, fun r hr => (by rcases List.mem_cons.1 hr with rfl | hr; exact trivial; exact (by cases hr)), fun _ _ _ hn h => e_slices_partitionEqualOrdered_int_ hn h⟩
def row_slices_partitionOrdered_int_ : FnRow := ⟨83, 168, [(.tmp 8), (.tmp 9)], m_slices_partitionOrdered_int_⟩
theorem row_slices_partitionOrdered_int__ok : row_slices_partitionOrdered_int_.Ok Tryz.prog := ⟨(by kernel_rfl : callable Tryz.prog 83 = true), Tryz.f83, Nat.le_of_ble_eq_true rfl, rfl, fun r hr => (by rcases List.mem_cons.1 hr with rfl | hr; exact trivial; exact (by rcases List.mem_cons.1 hr with rfl | hr; exact trivial; exact (by cases hr))), fun _ _ _ hn h => e_slices_partitionOrdered_int_ hn h⟩
def row_math_bits_Len32 : FnRow := ⟨84, 19, [(.tmp 2)], m_math_bits_Len32⟩
theorem row_math_bits_Len32_ok : row_math_bits_Len32.Ok Tryz.prog := ⟨(by kernel_rfl : callable Tryz.prog 84 = true), Tryz.f84, Nat.le_of_ble_eq_true rfl, rfl, fun r hr => (by rcases List.mem_cons.1 hr with rfl | hr; exact trivial; exact (by cases hr)), fun _ _ _ hn h => e_math_bits_Len32 hn h⟩
def row_math_bits_Len64 : FnRow := ⟨85, 25, [(.tmp 2)], m_math_bits_Len64⟩
theorem row_math_bits_Len64_ok : row_math_bits_Len64.Ok Tryz.prog := ⟨(by kernel_rfl : callable Tryz.prog 85 = true), Tryz.f85, Nat.le_of_ble_eq_true rfl, rfl, fun r hr => (by rcases List.mem_cons.1 hr with rfl | hr; exact trivial; exact (by cases hr)), fun _ _ _ hn h => e_math_bits_Len64 hn h⟩
def row_pages_Table_Len : FnRow := ⟨86, 10, [(.tmp 2)], m_pages_Table_Len⟩
theorem row_pages_Table_Len_ok : row_pages_Table_Len.Ok Tryz.prog := ⟨(by kernel_rfl : callable Tryz.prog 86 = true), Tryz.f86, Nat.le_of_ble_eq_true rfl, rfl, fun r hr => (by rcases List.mem_cons.1 hr with rfl | hr; exact trivial; exact (by cases hr)), fun _ _ _ hn h => e_pages_Table_Len hn h⟩
def row_pages_Row_free : FnRow := ⟨87, 6, [(.tmp 2)], m_pages_Row_free⟩
theorem row_pages_Row_free_ok : row_pages_Row_free.Ok Tryz.prog := ⟨(by kernel_rfl : callable Tryz.prog 87 = true), Tryz.f87, Nat.le_of_ble_eq_true rfl, rfl, fun r hr => (by rcases List.mem_cons.1 hr with rfl | hr; exact trivial; exact (by cases hr)), fun _ _ _ hn h => e_pages_Row_free hn h⟩
def row_link_Code_Put : FnRow := ⟨88, 25, [(.tmp 6)], m_link_Code_Put⟩
theorem row_link_Code_Put_ok : row_link_Code_Put.Ok Tryz.prog := ⟨(by kernel_rfl : callable Tryz.prog 88 = true), Tryz.f88, Nat.le_of_ble_eq_true rfl, rfl, fun r hr => (by rcases List.mem_cons.1 hr with rfl | hr; exact trivial; exact (by cases hr)), fun _ _ _ hn h => e_link_Code_Put hn h⟩
def row_arena_Arena_Word : FnRow := ⟨89, 22, [(.tmp 4), (.tmp 5)], m_arena_Arena_Word⟩
theorem row_arena_Arena_Word_ok : row_arena_Arena_Word.Ok Tryz.prog := ⟨(by kernel_rfl : callable Tryz.prog 89 = true), Tryz.f89, Nat.le_of_ble_eq_true rfl, rfl, fun r hr => (by rcases List.mem_cons.1 hr with rfl | hr; exact trivial; exact (by rcases List.mem_cons.1 hr with rfl | hr; exact trivial; exact (by cases hr))), fun _ _ _ hn h => e_arena_Arena_Word hn h⟩
def row_link_Code_Get : FnRow := ⟨90, 28, [(.tmp 6), (.tmp 7)], m_link_Code_Get⟩
theorem row_link_Code_Get_ok : row_link_Code_Get.Ok Tryz.prog := ⟨(by kernel_rfl : callable Tryz.prog 90 = true), Tryz.f90, Nat.le_of_ble_eq_true rfl, rfl, fun r hr => (by rcases List.mem_cons.1 hr with rfl | hr; exact trivial; exact (by rcases List.mem_cons.1 hr with rfl | hr; exact trivial; exact (by cases hr))), fun _ _ _ hn h => e_link_Code_Get hn h⟩
def row_arena_Arena_in : FnRow := ⟨91, 37, [(.tmp 6)], m_arena_Arena_in⟩
theorem row_arena_Arena_in_ok : row_arena_Arena_in.Ok Tryz.prog := ⟨(by kernel_rfl : callable Tryz.prog 91 = true), Tryz.f91, Nat.le_of_ble_eq_true rfl, rfl, fun r hr => (by rcases List.mem_cons.1 hr with rfl | hr; exact trivial; exact (by cases hr)), fun _ _ _ hn h => e_arena_Arena_in hn h⟩
def row_link_Code_Canary : FnRow := ⟨92, 11, [(.tmp 4)], m_link_Code_Canary⟩
theorem row_link_Code_Canary_ok : row_link_Code_Canary.Ok Tryz.prog := ⟨(by kernel_rfl : callable Tryz.prog 92 = true), Tryz.f92, Nat.le_of_ble_eq_true rfl, rfl, fun r hr => (by rcases List.mem_cons.1 hr with rfl | hr; exact trivial; exact (by cases hr)), fun _ _ _ hn h => e_link_Code_Canary hn h⟩
def row_arena_Arena_word : FnRow := ⟨93, 15, [(.tmp 4)], m_arena_Arena_word⟩
theorem row_arena_Arena_word_ok : row_arena_Arena_word.Ok Tryz.prog := ⟨(by kernel_rfl : callable Tryz.prog 93 = true), Tryz.f93, Nat.le_of_ble_eq_true rfl, rfl, fun r hr => (by rcases List.mem_cons.1 hr with rfl | hr; exact trivial; exact (by cases hr)), fun _ _ _ hn h => e_arena_Arena_word hn h⟩
def row_num_Put : FnRow := ⟨94, 30, [(.tmp 4)], m_num_Put⟩
theorem row_num_Put_ok : row_num_Put.Ok Tryz.prog := ⟨(by kernel_rfl : callable Tryz.prog 94 = true), Tryz.f94, Nat.le_of_ble_eq_true rfl, rfl, fun r hr => (by rcases List.mem_cons.1 hr with rfl | hr; exact trivial; exact (by cases hr)), fun _ _ _ hn h => e_num_Put hn h⟩
def row_bitset_Set_in : FnRow := ⟨95, 13, [(.tmp 4)], m_bitset_Set_in⟩
theorem row_bitset_Set_in_ok : row_bitset_Set_in.Ok Tryz.prog := ⟨(by kernel_rfl : callable Tryz.prog 95 = true), Tryz.f95, Nat.le_of_ble_eq_true rfl, rfl, fun r hr => (by rcases List.mem_cons.1 hr with rfl | hr; exact trivial; exact (by cases hr)), fun _ _ _ hn h => e_bitset_Set_in hn h⟩
def row_large_Set_canary : FnRow := ⟨96, 21, [(.tmp 6), (.tmp 7)], m_large_Set_canary⟩
theorem row_large_Set_canary_ok : row_large_Set_canary.Ok Tryz.prog := ⟨(by kernel_rfl : callable Tryz.prog 96 = true), Tryz.f96, Nat.le_of_ble_eq_true rfl, rfl, fun r hr => (by rcases List.mem_cons.1 hr with rfl | hr; exact trivial; exact (by rcases List.mem_cons.1 hr with rfl | hr; exact trivial; exact (by cases hr))), fun _ _ _ hn h => e_large_Set_canary hn h⟩
def row_class_Pages : FnRow := ⟨97, 16, [(.tmp 2), (.tmp 3)], m_class_Pages⟩
theorem row_class_Pages_ok : row_class_Pages.Ok Tryz.prog := ⟨(by kernel_rfl : callable Tryz.prog 97 = true), Tryz.f97, Nat.le_of_ble_eq_true rfl, rfl, fun r hr => (by rcases List.mem_cons.1 hr with rfl | hr; exact trivial; exact (by rcases List.mem_cons.1 hr with rfl | hr; exact trivial; exact (by cases hr))), fun _ _ _ hn h => e_class_Pages hn h⟩
def row_bitset_Set_Len : FnRow := ⟨98, 9, [(.tmp 2)], m_bitset_Set_Len⟩
theorem row_bitset_Set_Len_ok : row_bitset_Set_Len.Ok Tryz.prog := ⟨(by kernel_rfl : callable Tryz.prog 98 = true), Tryz.f98, Nat.le_of_ble_eq_true rfl, rfl, fun r hr => (by rcases List.mem_cons.1 hr with rfl | hr; exact trivial; exact (by cases hr)), fun _ _ _ hn h => e_bitset_Set_Len hn h⟩
def row_bitset_Set_Has : FnRow := ⟨99, 23, [(.tmp 4)], m_bitset_Set_Has⟩
theorem row_bitset_Set_Has_ok : row_bitset_Set_Has.Ok Tryz.prog := ⟨(by kernel_rfl : callable Tryz.prog 99 = true), Tryz.f99, Nat.le_of_ble_eq_true rfl, rfl, fun r hr => (by rcases List.mem_cons.1 hr with rfl | hr; exact trivial; exact (by cases hr)), fun _ _ _ hn h => e_bitset_Set_Has hn h⟩
def row_slices_siftDownOrdered_int_ : FnRow := ⟨100, 76, [], m_slices_siftDownOrdered_int_⟩
theorem row_slices_siftDownOrdered_int__ok : row_slices_siftDownOrdered_int_.Ok Tryz.prog := ⟨(by kernel_rfl : callable Tryz.prog 100 = true), Tryz.f100, Nat.le_of_ble_eq_true rfl, rfl, fun r hr => (by cases hr), fun _ _ _ hn h => e_slices_siftDownOrdered_int_ hn h⟩
def row_slices_nextPowerOfTwo : FnRow := ⟨101, 7, [(.tmp 2)], m_slices_nextPowerOfTwo⟩
theorem row_slices_nextPowerOfTwo_ok : row_slices_nextPowerOfTwo.Ok Tryz.prog := ⟨(by kernel_rfl : callable Tryz.prog 101 = true), Tryz.f101, Nat.le_of_ble_eq_true rfl, rfl, fun r hr => (by rcases List.mem_cons.1 hr with rfl | hr; exact trivial; exact (by cases hr)), fun _ _ _ hn h => e_slices_nextPowerOfTwo hn h⟩
def row_slices_xorshift_Next : FnRow := ⟨102, 33, [(.tmp 2)], m_slices_xorshift_Next⟩
theorem row_slices_xorshift_Next_ok : row_slices_xorshift_Next.Ok Tryz.prog := ⟨(by kernel_rfl : callable Tryz.prog 102 = true), Tryz.f102, Nat.le_of_ble_eq_true rfl, rfl, fun r hr => (by rcases List.mem_cons.1 hr with rfl | hr; exact trivial; exact (by cases hr)), fun _ _ _ hn h => e_slices_xorshift_Next hn h⟩
def row_slices_medianAdjacentOrdered_int_ : FnRow := ⟨103, 15, [(.tmp 6)], m_slices_medianAdjacentOrdered_int_⟩
theorem row_slices_medianAdjacentOrdered_int__ok : row_slices_medianAdjacentOrdered_int_.Ok Tryz.prog := ⟨(by kernel_rfl : callable Tryz.prog 103 = true), Tryz.f103, Nat.le_of_ble_eq_true rfl, rfl, fun r hr => (by rcases List.mem_cons.1 hr with rfl | hr; exact trivial; exact (by cases hr)), fun _ _ _ hn h => e_slices_medianAdjacentOrdered_int_ hn h⟩
def row_slices_medianOrdered_int_ : FnRow := ⟨104, 36, [(.tmp 10)], m_slices_medianOrdered_int_⟩
theorem row_slices_medianOrdered_int__ok : row_slices_medianOrdered_int_.Ok Tryz.prog := ⟨(by kernel_rfl : callable Tryz.prog 104 = true), Tryz.f104, Nat.le_of_ble_eq_true rfl, rfl, fun r hr => (by rcases List.mem_cons.1 hr with rfl | hr; exact trivial; exact (by cases hr)), fun _ _ _ hn h => e_slices_medianOrdered_int_ hn h⟩
def row_cmp_isNaN_int_ : FnRow := ⟨105, 6, [(.tmp 2)], m_cmp_isNaN_int_⟩
theorem row_cmp_isNaN_int__ok : row_cmp_isNaN_int_.Ok Tryz.prog := ⟨(by kernel_rfl : callable Tryz.prog 105 = true), Tryz.f105, Nat.le_of_ble_eq_true rfl, rfl, fun r hr => (by rcases List.mem_cons.1 hr with rfl | hr; exact trivial; exact (by cases hr)), fun _ _ _ hn h => e_cmp_isNaN_int_ hn h⟩
def row_link_Code_mask : FnRow := ⟨106, 11, [(.tmp 4)], m_link_Code_mask⟩
theorem row_link_Code_mask_ok : row_link_Code_mask.Ok Tryz.prog := ⟨(by kernel_rfl : callable Tryz.prog 106 = true), Tryz.f106, Nat.le_of_ble_eq_true rfl, rfl, fun r hr => (by rcases List.mem_cons.1 hr with rfl | hr; exact trivial; exact (by cases hr)), fun _ _ _ hn h => e_link_Code_mask hn h⟩
def row_num_Get : FnRow := ⟨107, 23, [(.tmp 2)], m_num_Get⟩
theorem row_num_Get_ok : row_num_Get.Ok Tryz.prog := ⟨(by kernel_rfl : callable Tryz.prog 107 = true), Tryz.f107, Nat.le_of_ble_eq_true rfl, rfl, fun r hr => (by rcases List.mem_cons.1 hr with rfl | hr; exact trivial; exact (by cases hr)), fun _ _ _ hn h => e_num_Get hn h⟩
def row_slices_order2Ordered_int_ : FnRow := ⟨108, 28, [(.tmp 8), (.tmp 9)], m_slices_order2Ordered_int_⟩
theorem row_slices_order2Ordered_int__ok : row_slices_order2Ordered_int_.Ok Tryz.prog := ⟨(by kernel_rfl : callable Tryz.prog 108 = true), Tryz.f108, Nat.le_of_ble_eq_true rfl, rfl, fun r hr => (by rcases List.mem_cons.1 hr with rfl | hr; exact trivial; exact (by rcases List.mem_cons.1 hr with rfl | hr; exact trivial; exact (by cases hr))), fun _ _ _ hn h => e_slices_order2Ordered_int_ hn h⟩
def rows : List FnRow := [row_tumbrellaw10_FaultNil, row_fault_New, row_fault_Ledger_Note, row_fault_Ledger_Took, row_fault_Ledger_Dropped, row_fault_Ledger_Fault, row_fault_Ledger_Reports, row_fault_Ledger_Gone, row_tumbrellaw10_awake, row_fault_Ledger_live, row_fault_end, row_fault_Ledger_manual, row_region_Region_Arena, row_arena_Arena_Len, row_slices_Clone_fault_Report_fault_Report_, row_slices_Sorted_int_, row_maps_Keys_map_int_bool_int_bool_, row_region_New, row_region_Region_Open, row_region_Region_Take, row_region_Region_Drop, row_region_Region_Give, row_region_Region_Find, row_region_Region_Config, row_slices_Collect_int_, row_slices_Sort_int_int_, row_maps_Keys_map_int_bool_int_bool__c1, row_arena_New, row_link_New, row_pages_New, row_large_New, row_class_Size, row_pages_Table_Map, row_slab_Make, row_region_Region_slab, row_slab_Slab_Take, row_class_Base, row_slab_Slab_Class, row_region_Region_base, row_slab_Slab_Drop, row_large_Set_Drop, row_pages_Table_Unmap, row_slab_Slab_Give, row_class_Slot, row_region_Region_place, row_pages_Table_Head, row_large_Set_Size, row_slices_pdqsortOrdered_int_, row_math_bits_Len, row_link_mix, row_class_may, row_pages_Row_first, row_pages_Table_cut, row_pages_Table_place, row_class_Slots, row_bitset_New, row_slab_Slab_join, row_slab_Slab_follow, row_arena_Arena_Fill, row_class_Room, row_slab_Slab_canary, row_arena_Arena_SetWord, row_bitset_Set_Put, row_slab_Slab_must, row_slab_Slab_stands, row_slab_Slab_base, row_large_Set_stands, row_large_run, row_pages_Table_Row, row_slab_Slab_Page, row_slab_Slab_State, row_slices_insertionSortOrdered_int_, row_slices_heapSortOrdered_int_, row_slices_breakPatternsOrdered_int_, row_slices_choosePivotOrdered_int_, row_slices_reverseRangeOrdered_int_, row_slices_partialInsertionSortOrdered_int_, row_cmp_Less_int_, row_slices_partitionEqualOrdered_int_, row_slices_partitionOrdered_int_, row_math_bits_Len32, row_math_bits_Len64, row_pages_Table_Len, row_pages_Row_free, row_link_Code_Put, row_arena_Arena_Word, row_link_Code_Get, row_arena_Arena_in, row_link_Code_Canary, row_arena_Arena_word, row_num_Put, row_bitset_Set_in, row_large_Set_canary, row_class_Pages, row_bitset_Set_Len, row_bitset_Set_Has, row_slices_siftDownOrdered_int_, row_slices_nextPowerOfTwo, row_slices_xorshift_Next, row_slices_medianAdjacentOrdered_int_, row_slices_medianOrdered_int_, row_cmp_isNaN_int_, row_link_Code_mask, row_num_Get, row_slices_order2Ordered_int_]
theorem rows_ok : ∀ x ∈ rows, x.Ok Tryz.prog := by
  refine List.forall_mem_cons.2 ⟨row_tumbrellaw10_FaultNil_ok, ?_⟩
  refine List.forall_mem_cons.2 ⟨row_fault_New_ok, ?_⟩
  refine List.forall_mem_cons.2 ⟨row_fault_Ledger_Note_ok, ?_⟩
  refine List.forall_mem_cons.2 ⟨row_fault_Ledger_Took_ok, ?_⟩
  refine List.forall_mem_cons.2 ⟨row_fault_Ledger_Dropped_ok, ?_⟩
  refine List.forall_mem_cons.2 ⟨row_fault_Ledger_Fault_ok, ?_⟩
  refine List.forall_mem_cons.2 ⟨row_fault_Ledger_Reports_ok, ?_⟩
  refine List.forall_mem_cons.2 ⟨row_fault_Ledger_Gone_ok, ?_⟩
  refine List.forall_mem_cons.2 ⟨row_tumbrellaw10_awake_ok, ?_⟩
  refine List.forall_mem_cons.2 ⟨row_fault_Ledger_live_ok, ?_⟩
  refine List.forall_mem_cons.2 ⟨row_fault_end_ok, ?_⟩
  refine List.forall_mem_cons.2 ⟨row_fault_Ledger_manual_ok, ?_⟩
  refine List.forall_mem_cons.2 ⟨row_region_Region_Arena_ok, ?_⟩
  refine List.forall_mem_cons.2 ⟨row_arena_Arena_Len_ok, ?_⟩
  refine List.forall_mem_cons.2 ⟨row_slices_Clone_fault_Report_fault_Report__ok, ?_⟩
  refine List.forall_mem_cons.2 ⟨row_slices_Sorted_int__ok, ?_⟩
  refine List.forall_mem_cons.2 ⟨row_maps_Keys_map_int_bool_int_bool__ok, ?_⟩
  refine List.forall_mem_cons.2 ⟨row_region_New_ok, ?_⟩
  refine List.forall_mem_cons.2 ⟨row_region_Region_Open_ok, ?_⟩
  refine List.forall_mem_cons.2 ⟨row_region_Region_Take_ok, ?_⟩
  refine List.forall_mem_cons.2 ⟨row_region_Region_Drop_ok, ?_⟩
  refine List.forall_mem_cons.2 ⟨row_region_Region_Give_ok, ?_⟩
  refine List.forall_mem_cons.2 ⟨row_region_Region_Find_ok, ?_⟩
  refine List.forall_mem_cons.2 ⟨row_region_Region_Config_ok, ?_⟩
  refine List.forall_mem_cons.2 ⟨row_slices_Collect_int__ok, ?_⟩
  refine List.forall_mem_cons.2 ⟨row_slices_Sort_int_int__ok, ?_⟩
  refine List.forall_mem_cons.2 ⟨row_maps_Keys_map_int_bool_int_bool__c1_ok, ?_⟩
  refine List.forall_mem_cons.2 ⟨row_arena_New_ok, ?_⟩
  refine List.forall_mem_cons.2 ⟨row_link_New_ok, ?_⟩
  refine List.forall_mem_cons.2 ⟨row_pages_New_ok, ?_⟩
  refine List.forall_mem_cons.2 ⟨row_large_New_ok, ?_⟩
  refine List.forall_mem_cons.2 ⟨row_class_Size_ok, ?_⟩
  refine List.forall_mem_cons.2 ⟨row_pages_Table_Map_ok, ?_⟩
  refine List.forall_mem_cons.2 ⟨row_slab_Make_ok, ?_⟩
  refine List.forall_mem_cons.2 ⟨row_region_Region_slab_ok, ?_⟩
  refine List.forall_mem_cons.2 ⟨row_slab_Slab_Take_ok, ?_⟩
  refine List.forall_mem_cons.2 ⟨row_class_Base_ok, ?_⟩
  refine List.forall_mem_cons.2 ⟨row_slab_Slab_Class_ok, ?_⟩
  refine List.forall_mem_cons.2 ⟨row_region_Region_base_ok, ?_⟩
  refine List.forall_mem_cons.2 ⟨row_slab_Slab_Drop_ok, ?_⟩
  refine List.forall_mem_cons.2 ⟨row_large_Set_Drop_ok, ?_⟩
  refine List.forall_mem_cons.2 ⟨row_pages_Table_Unmap_ok, ?_⟩
  refine List.forall_mem_cons.2 ⟨row_slab_Slab_Give_ok, ?_⟩
  refine List.forall_mem_cons.2 ⟨row_class_Slot_ok, ?_⟩
  refine List.forall_mem_cons.2 ⟨row_region_Region_place_ok, ?_⟩
  refine List.forall_mem_cons.2 ⟨row_pages_Table_Head_ok, ?_⟩
  refine List.forall_mem_cons.2 ⟨row_large_Set_Size_ok, ?_⟩
  refine List.forall_mem_cons.2 ⟨row_slices_pdqsortOrdered_int__ok, ?_⟩
  refine List.forall_mem_cons.2 ⟨row_math_bits_Len_ok, ?_⟩
  refine List.forall_mem_cons.2 ⟨row_link_mix_ok, ?_⟩
  refine List.forall_mem_cons.2 ⟨row_class_may_ok, ?_⟩
  refine List.forall_mem_cons.2 ⟨row_pages_Row_first_ok, ?_⟩
  refine List.forall_mem_cons.2 ⟨row_pages_Table_cut_ok, ?_⟩
  refine List.forall_mem_cons.2 ⟨row_pages_Table_place_ok, ?_⟩
  refine List.forall_mem_cons.2 ⟨row_class_Slots_ok, ?_⟩
  refine List.forall_mem_cons.2 ⟨row_bitset_New_ok, ?_⟩
  refine List.forall_mem_cons.2 ⟨row_slab_Slab_join_ok, ?_⟩
  refine List.forall_mem_cons.2 ⟨row_slab_Slab_follow_ok, ?_⟩
  refine List.forall_mem_cons.2 ⟨row_arena_Arena_Fill_ok, ?_⟩
  refine List.forall_mem_cons.2 ⟨row_class_Room_ok, ?_⟩
  refine List.forall_mem_cons.2 ⟨row_slab_Slab_canary_ok, ?_⟩
  refine List.forall_mem_cons.2 ⟨row_arena_Arena_SetWord_ok, ?_⟩
  refine List.forall_mem_cons.2 ⟨row_bitset_Set_Put_ok, ?_⟩
  refine List.forall_mem_cons.2 ⟨row_slab_Slab_must_ok, ?_⟩
  refine List.forall_mem_cons.2 ⟨row_slab_Slab_stands_ok, ?_⟩
  refine List.forall_mem_cons.2 ⟨row_slab_Slab_base_ok, ?_⟩
  refine List.forall_mem_cons.2 ⟨row_large_Set_stands_ok, ?_⟩
  refine List.forall_mem_cons.2 ⟨row_large_run_ok, ?_⟩
  refine List.forall_mem_cons.2 ⟨row_pages_Table_Row_ok, ?_⟩
  refine List.forall_mem_cons.2 ⟨row_slab_Slab_Page_ok, ?_⟩
  refine List.forall_mem_cons.2 ⟨row_slab_Slab_State_ok, ?_⟩
  refine List.forall_mem_cons.2 ⟨row_slices_insertionSortOrdered_int__ok, ?_⟩
  refine List.forall_mem_cons.2 ⟨row_slices_heapSortOrdered_int__ok, ?_⟩
  refine List.forall_mem_cons.2 ⟨row_slices_breakPatternsOrdered_int__ok, ?_⟩
  refine List.forall_mem_cons.2 ⟨row_slices_choosePivotOrdered_int__ok, ?_⟩
  refine List.forall_mem_cons.2 ⟨row_slices_reverseRangeOrdered_int__ok, ?_⟩
  refine List.forall_mem_cons.2 ⟨row_slices_partialInsertionSortOrdered_int__ok, ?_⟩
  refine List.forall_mem_cons.2 ⟨row_cmp_Less_int__ok, ?_⟩
  refine List.forall_mem_cons.2 ⟨row_slices_partitionEqualOrdered_int__ok, ?_⟩
  refine List.forall_mem_cons.2 ⟨row_slices_partitionOrdered_int__ok, ?_⟩
  refine List.forall_mem_cons.2 ⟨row_math_bits_Len32_ok, ?_⟩
  refine List.forall_mem_cons.2 ⟨row_math_bits_Len64_ok, ?_⟩
  refine List.forall_mem_cons.2 ⟨row_pages_Table_Len_ok, ?_⟩
  refine List.forall_mem_cons.2 ⟨row_pages_Row_free_ok, ?_⟩
  refine List.forall_mem_cons.2 ⟨row_link_Code_Put_ok, ?_⟩
  refine List.forall_mem_cons.2 ⟨row_arena_Arena_Word_ok, ?_⟩
  refine List.forall_mem_cons.2 ⟨row_link_Code_Get_ok, ?_⟩
  refine List.forall_mem_cons.2 ⟨row_arena_Arena_in_ok, ?_⟩
  refine List.forall_mem_cons.2 ⟨row_link_Code_Canary_ok, ?_⟩
  refine List.forall_mem_cons.2 ⟨row_arena_Arena_word_ok, ?_⟩
  refine List.forall_mem_cons.2 ⟨row_num_Put_ok, ?_⟩
  refine List.forall_mem_cons.2 ⟨row_bitset_Set_in_ok, ?_⟩
  refine List.forall_mem_cons.2 ⟨row_large_Set_canary_ok, ?_⟩
  refine List.forall_mem_cons.2 ⟨row_class_Pages_ok, ?_⟩
  refine List.forall_mem_cons.2 ⟨row_bitset_Set_Len_ok, ?_⟩
  refine List.forall_mem_cons.2 ⟨row_bitset_Set_Has_ok, ?_⟩
  refine List.forall_mem_cons.2 ⟨row_slices_siftDownOrdered_int__ok, ?_⟩
  refine List.forall_mem_cons.2 ⟨row_slices_nextPowerOfTwo_ok, ?_⟩
  refine List.forall_mem_cons.2 ⟨row_slices_xorshift_Next_ok, ?_⟩
  refine List.forall_mem_cons.2 ⟨row_slices_medianAdjacentOrdered_int__ok, ?_⟩
  refine List.forall_mem_cons.2 ⟨row_slices_medianOrdered_int__ok, ?_⟩
  refine List.forall_mem_cons.2 ⟨row_cmp_isNaN_int__ok, ?_⟩
  refine List.forall_mem_cons.2 ⟨row_link_Code_mask_ok, ?_⟩
  refine List.forall_mem_cons.2 ⟨row_num_Get_ok, ?_⟩
  refine List.forall_mem_cons.2 ⟨row_slices_order2Ordered_int__ok, ?_⟩
  exact fun x hx => by cases hx
end Go.Proofs.YtmajnoeiabhdnaaGreat
