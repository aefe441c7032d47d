/- The table of the functions of this set, for runs by reckoning. Printed by a program of this repo (wip/tools/gencode.py). -/
import Derived.Test.YtnleiiniajinbaaCode
import Derived.Test.YtnleiiniajinbaaRunIter
namespace Go.Proofs.Ytnleiiniajinbaa
open Go Go.Tum

def row_tumbrellaw08_LargeApart : FnRow := ⟨3, 112, [(.tmp 10)], m_tumbrellaw08_LargeApart⟩
theorem row_tumbrellaw08_LargeApart_ok : row_tumbrellaw08_LargeApart.Ok Try.prog := ⟨(by kernel_rfl : callable Try.prog 3 = true), Try.f3, Nat.le_of_ble_eq_true rfl, rfl, fun r hr => (by rcases List.mem_cons.1 hr with rfl | hr; exact trivial; exact (by cases hr)), fun _ _ _ hn h => e_tumbrellaw08_LargeApart hn h⟩
def row_tumbrellaw08_LargePlays : FnRow := ⟨4, 205, [(.tmp 6)], m_tumbrellaw08_LargePlays⟩
theorem row_tumbrellaw08_LargePlays_ok : row_tumbrellaw08_LargePlays.Ok Try.prog := ⟨(by kernel_rfl : callable Try.prog 4 = true), Try.f4, Nat.le_of_ble_eq_true rfl, rfl, fun r hr => (by rcases List.mem_cons.1 hr with rfl | hr; exact trivial; exact (by cases hr)), fun _ _ _ hn h => e_tumbrellaw08_LargePlays hn h⟩
def row_arena_New : FnRow := ⟨5, 10, [(.tmp 2)], m_arena_New⟩
theorem row_arena_New_ok : row_arena_New.Ok Try.prog := ⟨(by kernel_rfl : callable Try.prog 5 = true), Try.f5, Nat.le_of_ble_eq_true rfl, rfl, fun r hr => (by rcases List.mem_cons.1 hr with rfl | hr; exact trivial; exact (by cases hr)), fun _ _ _ hn h => e_arena_New hn h⟩
def row_large_New : FnRow := ⟨6, 12, [(.tmp 4)], m_large_New⟩
theorem row_large_New_ok : row_large_New.Ok Try.prog := ⟨(by kernel_rfl : callable Try.prog 6 = true), Try.f6, Nat.le_of_ble_eq_true rfl, rfl, fun r hr => (by rcases List.mem_cons.1 hr with rfl | hr; exact trivial; exact (by cases hr)), fun _ _ _ hn h => e_large_New hn h⟩
def row_link_New : FnRow := ⟨7, 7, [(.cell 2 29 1)], m_link_New⟩
theorem row_link_New_ok : row_link_New.Ok Try.prog := ⟨(by kernel_rfl : callable Try.prog 7 = true), Try.f7, Nat.le_of_ble_eq_true rfl, rfl, fun r hr => (by rcases List.mem_cons.1 hr with rfl | hr; exact (by show aggT Try.prog 29 = some 1; kernel_rfl); exact (by cases hr)), fun _ _ _ hn h => e_link_New hn h⟩
def row_large_Set_Make : FnRow := ⟨8, 71, [(.tmp 6)], m_large_Set_Make⟩
theorem row_large_Set_Make_ok : row_large_Set_Make.Ok Try.prog := ⟨(by kernel_rfl : callable Try.prog 8 = true), Try.f8, Nat.le_of_ble_eq_true rfl, rfl, fun r hr => (by rcases List.mem_cons.1 hr with rfl | hr; exact trivial; exact (by cases hr)), fun _ _ _ hn h => e_large_Set_Make hn h⟩
def row_arena_Arena_Load : FnRow := ⟨9, 26, [(.tmp 6), (.tmp 7)], m_arena_Arena_Load⟩
theorem row_arena_Arena_Load_ok : row_arena_Arena_Load.Ok Try.prog := ⟨(by kernel_rfl : callable Try.prog 9 = true), Try.f9, Nat.le_of_ble_eq_true rfl, rfl, fun r hr => (by rcases List.mem_cons.1 hr with rfl | hr; exact trivial; exact (by rcases List.mem_cons.1 hr with rfl | hr; exact trivial; exact (by cases hr))), fun _ _ _ hn h => e_arena_Arena_Load hn h⟩
def row_arena_Arena_Store : FnRow := ⟨10, 24, [(.tmp 6)], m_arena_Arena_Store⟩
theorem row_arena_Arena_Store_ok : row_arena_Arena_Store.Ok Try.prog := ⟨(by kernel_rfl : callable Try.prog 10 = true), Try.f10, Nat.le_of_ble_eq_true rfl, rfl, fun r hr => (by rcases List.mem_cons.1 hr with rfl | hr; exact trivial; exact (by cases hr)), fun _ _ _ hn h => e_arena_Arena_Store hn h⟩
def row_large_Set_Drop : FnRow := ⟨11, 41, [(.tmp 4), (.tmp 5)], m_large_Set_Drop⟩
theorem row_large_Set_Drop_ok : row_large_Set_Drop.Ok Try.prog := ⟨(by kernel_rfl : callable Try.prog 11 = true), Try.f11, Nat.le_of_ble_eq_true rfl, rfl, fun r hr => (by rcases List.mem_cons.1 hr with rfl | hr; exact trivial; exact (by rcases List.mem_cons.1 hr with rfl | hr; exact trivial; exact (by cases hr))), fun _ _ _ hn h => e_large_Set_Drop hn h⟩
def row_large_Set_Check : FnRow := ⟨12, 19, [(.tmp 2)], m_large_Set_Check⟩
theorem row_large_Set_Check_ok : row_large_Set_Check.Ok Try.prog := ⟨(by kernel_rfl : callable Try.prog 12 = true), Try.f12, Nat.le_of_ble_eq_true rfl, rfl, fun r hr => (by rcases List.mem_cons.1 hr with rfl | hr; exact trivial; exact (by cases hr)), fun _ _ _ hn h => e_large_Set_Check hn h⟩
def row_tumbrellaw08_awake : FnRow := ⟨13, 18, [(.tmp 0)], m_tumbrellaw08_awake⟩
theorem row_tumbrellaw08_awake_ok : row_tumbrellaw08_awake.Ok Try.prog := ⟨(by kernel_rfl : callable Try.prog 13 = true), Try.f13, Nat.le_of_ble_eq_true rfl, rfl, fun r hr => (by rcases List.mem_cons.1 hr with rfl | hr; exact trivial; exact (by cases hr)), fun _ _ _ hn h => e_tumbrellaw08_awake hn h⟩
def row_tumbrelref08_Set_Make : FnRow := ⟨14, 136, [(.tmp 6)], m_tumbrelref08_Set_Make⟩
theorem row_tumbrelref08_Set_Make_ok : row_tumbrelref08_Set_Make.Ok Try.prog := ⟨(by kernel_rfl : callable Try.prog 14 = true), Try.f14, Nat.le_of_ble_eq_true rfl, rfl, fun r hr => (by rcases List.mem_cons.1 hr with rfl | hr; exact trivial; exact (by cases hr)), fun _ _ _ hn h => e_tumbrelref08_Set_Make hn h⟩
def row_tumbrelref08_Set_Drop : FnRow := ⟨15, 51, [(.tmp 4), (.tmp 5)], m_tumbrelref08_Set_Drop⟩
theorem row_tumbrelref08_Set_Drop_ok : row_tumbrelref08_Set_Drop.Ok Try.prog := ⟨(by kernel_rfl : callable Try.prog 15 = true), Try.f15, Nat.le_of_ble_eq_true rfl, rfl, fun r hr => (by rcases List.mem_cons.1 hr with rfl | hr; exact trivial; exact (by rcases List.mem_cons.1 hr with rfl | hr; exact trivial; exact (by cases hr))), fun _ _ _ hn h => e_tumbrelref08_Set_Drop hn h⟩
def row_large_Set_All : FnRow := ⟨16, 11, [(.tmp 2)], m_large_Set_All⟩
theorem row_large_Set_All_ok : row_large_Set_All.Ok Try.prog := ⟨(by kernel_rfl : callable Try.prog 16 = true), Try.f16, Nat.le_of_ble_eq_true rfl, rfl, fun r hr => (by rcases List.mem_cons.1 hr with rfl | hr; exact trivial; exact (by cases hr)), fun _ _ _ hn h => e_large_Set_All hn h⟩
def row_tumbrelref08_Set_Stands : FnRow := ⟨17, 34, [(.tmp 4)], m_tumbrelref08_Set_Stands⟩
theorem row_tumbrelref08_Set_Stands_ok : row_tumbrelref08_Set_Stands.Ok Try.prog := ⟨(by kernel_rfl : callable Try.prog 17 = true), Try.f17, Nat.le_of_ble_eq_true rfl, rfl, fun r hr => (by rcases List.mem_cons.1 hr with rfl | hr; exact trivial; exact (by cases hr)), fun _ _ _ hn h => e_tumbrelref08_Set_Stands hn h⟩
def row_large_Set_Size : FnRow := ⟨18, 13, [(.tmp 4)], m_large_Set_Size⟩
theorem row_large_Set_Size_ok : row_large_Set_Size.Ok Try.prog := ⟨(by kernel_rfl : callable Try.prog 18 = true), Try.f18, Nat.le_of_ble_eq_true rfl, rfl, fun r hr => (by rcases List.mem_cons.1 hr with rfl | hr; exact trivial; exact (by cases hr)), fun _ _ _ hn h => e_large_Set_Size hn h⟩
def row_link_mix : FnRow := ⟨19, 17, [(.tmp 2)], m_link_mix⟩
theorem row_link_mix_ok : row_link_mix.Ok Try.prog := ⟨(by kernel_rfl : callable Try.prog 19 = true), Try.f19, Nat.le_of_ble_eq_true rfl, rfl, fun r hr => (by rcases List.mem_cons.1 hr with rfl | hr; exact trivial; exact (by cases hr)), fun _ _ _ hn h => e_link_mix hn h⟩
def row_class_Pages : FnRow := ⟨20, 16, [(.tmp 2), (.tmp 3)], m_class_Pages⟩
theorem row_class_Pages_ok : row_class_Pages.Ok Try.prog := ⟨(by kernel_rfl : callable Try.prog 20 = true), Try.f20, Nat.le_of_ble_eq_true rfl, rfl, fun r hr => (by rcases List.mem_cons.1 hr with rfl | hr; exact trivial; exact (by rcases List.mem_cons.1 hr with rfl | hr; exact trivial; exact (by cases hr))), fun _ _ _ hn h => e_class_Pages hn h⟩
def row_arena_Arena_Len : FnRow := ⟨21, 10, [(.tmp 2)], m_arena_Arena_Len⟩
theorem row_arena_Arena_Len_ok : row_arena_Arena_Len.Ok Try.prog := ⟨(by kernel_rfl : callable Try.prog 21 = true), Try.f21, Nat.le_of_ble_eq_true rfl, rfl, fun r hr => (by rcases List.mem_cons.1 hr with rfl | hr; exact trivial; exact (by cases hr)), fun _ _ _ hn h => e_arena_Arena_Len hn h⟩
def row_large_Set_meets : FnRow := ⟨22, 32, [(.tmp 6)], m_large_Set_meets⟩
theorem row_large_Set_meets_ok : row_large_Set_meets.Ok Try.prog := ⟨(by kernel_rfl : callable Try.prog 22 = true), Try.f22, Nat.le_of_ble_eq_true rfl, rfl, fun r hr => (by rcases List.mem_cons.1 hr with rfl | hr; exact trivial; exact (by cases hr)), fun _ _ _ hn h => e_large_Set_meets hn h⟩
def row_arena_Arena_Fill : FnRow := ⟨23, 33, [(.tmp 8)], m_arena_Arena_Fill⟩
theorem row_arena_Arena_Fill_ok : row_arena_Arena_Fill.Ok Try.prog := ⟨(by kernel_rfl : callable Try.prog 23 = true), Try.f23, Nat.le_of_ble_eq_true rfl, rfl, fun r hr => (by rcases List.mem_cons.1 hr with rfl | hr; exact trivial; exact (by cases hr)), fun _ _ _ hn h => e_arena_Arena_Fill hn h⟩
def row_large_Set_canary : FnRow := ⟨24, 21, [(.tmp 6), (.tmp 7)], m_large_Set_canary⟩
theorem row_large_Set_canary_ok : row_large_Set_canary.Ok Try.prog := ⟨(by kernel_rfl : callable Try.prog 24 = true), Try.f24, Nat.le_of_ble_eq_true rfl, rfl, fun r hr => (by rcases List.mem_cons.1 hr with rfl | hr; exact trivial; exact (by rcases List.mem_cons.1 hr with rfl | hr; exact trivial; exact (by cases hr))), fun _ _ _ hn h => e_large_Set_canary hn h⟩
def row_arena_Arena_SetWord : FnRow := ⟨25, 23, [(.tmp 6)], m_arena_Arena_SetWord⟩
theorem row_arena_Arena_SetWord_ok : row_arena_Arena_SetWord.Ok Try.prog := ⟨(by kernel_rfl : callable Try.prog 25 = true), Try.f25, Nat.le_of_ble_eq_true rfl, rfl, fun r hr => (by rcases List.mem_cons.1 hr with rfl | hr; exact trivial; exact (by cases hr)), fun _ _ _ hn h => e_arena_Arena_SetWord hn h⟩
def row_arena_Arena_in : FnRow := ⟨26, 37, [(.tmp 6)], m_arena_Arena_in⟩
theorem row_arena_Arena_in_ok : row_arena_Arena_in.Ok Try.prog := ⟨(by kernel_rfl : callable Try.prog 26 = true), Try.f26, Nat.le_of_ble_eq_true rfl, rfl, fun r hr => (by rcases List.mem_cons.1 hr with rfl | hr; exact trivial; exact (by cases hr)), fun _ _ _ hn h => e_arena_Arena_in hn h⟩
def row_bytes_Clone : FnRow := ⟨27, 8, [(.tmp 2)], m_bytes_Clone⟩
theorem row_bytes_Clone_ok : row_bytes_Clone.Ok Try.prog := ⟨(by kernel_rfl : callable Try.prog 27 = true), Try.f27, Nat.le_of_ble_eq_true rfl, rfl, fun r hr => (by rcases List.mem_cons.1 hr with rfl | hr; exact trivial; exact (by cases hr)), fun _ _ _ hn h => e_bytes_Clone hn h⟩
def row_large_Set_stands : FnRow := ⟨28, 37, [(.tmp 4)], m_large_Set_stands⟩
theorem row_large_Set_stands_ok : row_large_Set_stands.Ok Try.prog := ⟨(by kernel_rfl : callable Try.prog 28 = true), Try.f28, Nat.le_of_ble_eq_true rfl, rfl, fun r hr => (by rcases List.mem_cons.1 hr with rfl | hr; exact trivial; exact (by cases hr)), fun _ _ _ hn h => e_large_Set_stands hn h⟩
def row_large_run : FnRow := ⟨29, 11, [(.tmp 2)], m_large_run⟩
theorem row_large_run_ok : row_large_run.Ok Try.prog := ⟨(by kernel_rfl : callable Try.prog 29 = true), Try.f29, Nat.le_of_ble_eq_true rfl, rfl, fun r hr => (by rcases List.mem_cons.1 hr with rfl | hr; exact trivial; exact (by cases hr)), fun _ _ _ hn h => e_large_run hn h⟩
def row_tumbrelref05_Pages : FnRow := ⟨30, 18, [(.tmp 2)], m_tumbrelref05_Pages⟩
theorem row_tumbrelref05_Pages_ok : row_tumbrelref05_Pages.Ok Try.prog := ⟨(by kernel_rfl : callable Try.prog 30 = true), Try.f30, Nat.le_of_ble_eq_true rfl, rfl, fun r hr => (by rcases List.mem_cons.1 hr with rfl | hr; exact trivial; exact (by cases hr)), fun _ _ _ hn h => e_tumbrelref05_Pages hn h⟩
def row_tumbrelref08_Set_fill : FnRow := ⟨31, 34, [], m_tumbrelref08_Set_fill⟩
theorem row_tumbrelref08_Set_fill_ok : row_tumbrelref08_Set_fill.Ok Try.prog := ⟨(by kernel_rfl : callable Try.prog 31 = true), Try.f31, Nat.le_of_ble_eq_true rfl, rfl, fun r hr => (by cases hr), fun _ _ _ hn h => e_tumbrelref08_Set_fill hn h⟩
def row_tumbrelref01_Put : FnRow := ⟨32, 25, [(.tmp 4)], m_tumbrelref01_Put⟩
theorem row_tumbrelref01_Put_ok : row_tumbrelref01_Put.Ok Try.prog := ⟨(by kernel_rfl : callable Try.prog 32 = true), Try.f32, Nat.le_of_ble_eq_true rfl, rfl, fun r hr => (by rcases List.mem_cons.1 hr with rfl | hr; exact trivial; exact (by cases hr)), fun _ _ _ hn h => e_tumbrelref01_Put hn h⟩
def row_tumbrelref06_Mix : FnRow := ⟨33, 19, [(.tmp 2)], m_tumbrelref06_Mix⟩
theorem row_tumbrelref06_Mix_ok : row_tumbrelref06_Mix.Ok Try.prog := ⟨(by kernel_rfl : callable Try.prog 33 = true), Try.f33, Nat.le_of_ble_eq_true rfl, rfl, fun r hr => (by rcases List.mem_cons.1 hr with rfl | hr; exact trivial; exact (by cases hr)), fun _ _ _ hn h => e_tumbrelref06_Mix hn h⟩
def row_tumbrelref08_Set_At : FnRow := ⟨34, 23, [(.tmp 4)], m_tumbrelref08_Set_At⟩
theorem row_tumbrelref08_Set_At_ok : row_tumbrelref08_Set_At.Ok Try.prog := ⟨(by kernel_rfl : callable Try.prog 34 = true), Try.f34, Nat.le_of_ble_eq_true rfl, rfl, fun r hr => (by rcases List.mem_cons.1 hr with rfl | hr; exact trivial; exact (by cases hr)), fun _ _ _ hn h => e_tumbrelref08_Set_At hn h⟩
def row_slices_Sorted_int_ : FnRow := ⟨35, 9, [(.tmp 2)], m_slices_Sorted_int_⟩
theorem row_slices_Sorted_int__ok : row_slices_Sorted_int_.Ok Try.prog := ⟨(by kernel_rfl : callable Try.prog 35 = true), Try.f35, Nat.le_of_ble_eq_true rfl, rfl, fun r hr => (by rcases List.mem_cons.1 hr with rfl | hr; exact trivial; exact (by cases hr)), fun _ _ _ hn h => e_slices_Sorted_int_ hn h⟩
def row_maps_Keys_map_int_int_int_int_ : FnRow := ⟨36, 4, [(.tmp 2)], m_maps_Keys_map_int_int_int_int_⟩
theorem row_maps_Keys_map_int_int_int_int__ok : row_maps_Keys_map_int_int_int_int_.Ok Try.prog := ⟨(by kernel_rfl : callable Try.prog 36 = true), Try.f36, Nat.le_of_ble_eq_true rfl, rfl, fun r hr => (by rcases List.mem_cons.1 hr with rfl | hr; exact trivial; exact (by cases hr)), fun _ _ _ hn h => e_maps_Keys_map_int_int_int_int_ hn h⟩
def row_tumbrelref01_Get : FnRow := ⟨37, 26, [(.tmp 2)], m_tumbrelref01_Get⟩
theorem row_tumbrelref01_Get_ok : row_tumbrelref01_Get.Ok Try.prog := ⟨(by kernel_rfl : callable Try.prog 37 = true), Try.f37, Nat.le_of_ble_eq_true rfl, rfl, fun r hr => (by rcases List.mem_cons.1 hr with rfl | hr; exact trivial; exact (by cases hr)), fun _ _ _ hn h => e_tumbrelref01_Get hn h⟩
def row_class_Room : FnRow := ⟨38, 7, [(.tmp 2)], m_class_Room⟩
theorem row_class_Room_ok : row_class_Room.Ok Try.prog := ⟨(by kernel_rfl : callable Try.prog 38 = true), Try.f38, Nat.le_of_ble_eq_true rfl, rfl, fun r hr => (by rcases List.mem_cons.1 hr with rfl | hr; exact trivial; exact (by cases hr)), fun _ _ _ hn h => e_class_Room hn h⟩
def row_link_Code_Canary : FnRow := ⟨39, 11, [(.tmp 4)], m_link_Code_Canary⟩
theorem row_link_Code_Canary_ok : row_link_Code_Canary.Ok Try.prog := ⟨(by kernel_rfl : callable Try.prog 39 = true), Try.f39, Nat.le_of_ble_eq_true rfl, rfl, fun r hr => (by rcases List.mem_cons.1 hr with rfl | hr; exact trivial; exact (by cases hr)), fun _ _ _ hn h => e_link_Code_Canary hn h⟩
def row_arena_Arena_word : FnRow := ⟨40, 15, [(.tmp 4)], m_arena_Arena_word⟩
theorem row_arena_Arena_word_ok : row_arena_Arena_word.Ok Try.prog := ⟨(by kernel_rfl : callable Try.prog 40 = true), Try.f40, Nat.le_of_ble_eq_true rfl, rfl, fun r hr => (by rcases List.mem_cons.1 hr with rfl | hr; exact trivial; exact (by cases hr)), fun _ _ _ hn h => e_arena_Arena_word hn h⟩
def row_num_Put : FnRow := ⟨41, 30, [(.tmp 4)], m_num_Put⟩
theorem row_num_Put_ok : row_num_Put.Ok Try.prog := ⟨(by kernel_rfl : callable Try.prog 41 = true), Try.f41, Nat.le_of_ble_eq_true rfl, rfl, fun r hr => (by rcases List.mem_cons.1 hr with rfl | hr; exact trivial; exact (by cases hr)), fun _ _ _ hn h => e_num_Put hn h⟩
def row_arena_Arena_Word : FnRow := ⟨42, 22, [(.tmp 4), (.tmp 5)], m_arena_Arena_Word⟩
theorem row_arena_Arena_Word_ok : row_arena_Arena_Word.Ok Try.prog := ⟨(by kernel_rfl : callable Try.prog 42 = true), Try.f42, Nat.le_of_ble_eq_true rfl, rfl, fun r hr => (by rcases List.mem_cons.1 hr with rfl | hr; exact trivial; exact (by rcases List.mem_cons.1 hr with rfl | hr; exact trivial; exact (by cases hr))), fun _ _ _ hn h => e_arena_Arena_Word hn h⟩
def row_slices_Collect_int_ : FnRow := ⟨43, 5, [(.tmp 2)], m_slices_Collect_int_⟩
theorem row_slices_Collect_int__ok : row_slices_Collect_int_.Ok Try.prog := ⟨(by kernel_rfl : callable Try.prog 43 = true), Try.f43, Nat.le_of_ble_eq_true rfl, rfl, fun r hr => (by rcases List.mem_cons.1 hr with rfl | hr; exact trivial; exact (by cases hr)), fun _ _ _ hn h => e_slices_Collect_int_ hn h⟩
def row_slices_Sort_int_int_ : FnRow := ⟨44, 11, [], m_slices_Sort_int_int_⟩
theorem row_slices_Sort_int_int__ok : row_slices_Sort_int_int_.Ok Try.prog := ⟨(by kernel_rfl : callable Try.prog 44 = true), Try.f44, Nat.le_of_ble_eq_true rfl, rfl, fun r hr => (by cases hr), fun _ _ _ hn h => e_slices_Sort_int_int_ hn h⟩
def row_maps_Keys_map_int_int_int_int__c1 : FnRow := ⟨45, 14, [], m_maps_Keys_map_int_int_int_int__c1⟩
theorem row_maps_Keys_map_int_int_int_int__c1_ok : row_maps_Keys_map_int_int_int_int__c1.Ok Try.prog := ⟨(by kernel_rfl : callable Try.prog 45 = true), Try.f45, Nat.le_of_ble_eq_true rfl, rfl, fun r hr => (by cases hr), fun _ _ _ hn h => e_maps_Keys_map_int_int_int_int__c1 hn h⟩
def row_class_Size : FnRow := ⟨46, 8, [(.tmp 2)], m_class_Size⟩
theorem row_class_Size_ok : row_class_Size.Ok Try.prog := ⟨(by kernel_rfl : callable Try.prog 46 = true), Try.f46, Nat.le_of_ble_eq_true rfl, rfl, fun r hr => (by rcases List.mem_cons.1 hr with rfl | hr; exact trivial; exact (by cases hr)), fun _ _ _ hn h => e_class_Size hn h⟩
def row_num_Get : FnRow := ⟨47, 23, [(.tmp 2)], m_num_Get⟩
theorem row_num_Get_ok : row_num_Get.Ok Try.prog := ⟨(by kernel_rfl : callable Try.prog 47 = true), Try.f47, Nat.le_of_ble_eq_true rfl, rfl, fun r hr => (by rcases List.mem_cons.1 hr with rfl | hr; exact trivial; exact (by cases hr)), fun _ _ _ hn h => e_num_Get hn h⟩
def row_slices_pdqsortOrdered_int_ : FnRow := ⟨49, 134, [], m_slices_pdqsortOrdered_int_⟩
theorem row_slices_pdqsortOrdered_int__ok : row_slices_pdqsortOrdered_int_.Ok Try.prog := ⟨(by kernel_rfl : callable Try.prog 49 = true), Try.f49, Nat.le_of_ble_eq_true rfl, rfl, fun r hr => (by cases hr), fun _ _ _ hn h => e_slices_pdqsortOrdered_int_ hn h⟩
def row_math_bits_Len : FnRow := ⟨50, 8, [(.tmp 2)], m_math_bits_Len⟩
theorem row_math_bits_Len_ok : row_math_bits_Len.Ok Try.prog := ⟨(by kernel_rfl : callable Try.prog 50 = true), Try.f50, Nat.le_of_ble_eq_true rfl, rfl, fun r hr => (by rcases List.mem_cons.1 hr with rfl | hr; exact trivial; exact (by cases hr)), fun _ _ _ hn h => e_math_bits_Len hn h⟩
def row_class_may : FnRow := ⟨51, 9, [(.tmp 2)], m_class_may⟩
theorem row_class_may_ok : row_class_may.Ok Try.prog := ⟨(by kernel_rfl : callable Try.prog 51 = true), Try.f51, Nat.le_of_ble_eq_true rfl, rfl, fun r hr => (by rcases List.mem_cons.1 hr with rfl | hr; exact trivial; exact (by cases hr)), fun _ _ _ hn h => e_class_may hn h⟩
def row_slices_insertionSortOrdered_int_ : FnRow := ⟨52, 49, [], m_slices_insertionSortOrdered_int_⟩
theorem row_slices_insertionSortOrdered_int__ok : row_slices_insertionSortOrdered_int_.Ok Try.prog := ⟨(by kernel_rfl : callable Try.prog 52 = true), Try.f52, Nat.le_of_ble_eq_true rfl, rfl, fun r hr => (by cases hr), fun _ _ _ hn h => e_slices_insertionSortOrdered_int_ hn h⟩
def row_slices_heapSortOrdered_int_ : FnRow := ⟨53, 56, [], m_slices_heapSortOrdered_int_⟩
theorem row_slices_heapSortOrdered_int__ok : row_slices_heapSortOrdered_int_.Ok Try.prog := ⟨(by kernel_rfl : callable Try.prog 53 = true), Try.f53, Nat.le_of_ble_eq_true rfl, rfl, fun r hr => (by cases hr), fun _ _ _ hn h => e_slices_heapSortOrdered_int_ hn h⟩
def row_slices_breakPatternsOrdered_int_ : FnRow := ⟨54, 65, [], m_slices_breakPatternsOrdered_int_⟩
theorem row_slices_breakPatternsOrdered_int__ok : row_slices_breakPatternsOrdered_int_.Ok Try.prog := ⟨(by kernel_rfl : callable Try.prog 54 = true), Try.f54, Nat.le_of_ble_eq_true rfl, rfl, fun r hr => (by cases hr), fun _ _ _ hn h => e_slices_breakPatternsOrdered_int_ hn h⟩
def row_slices_choosePivotOrdered_int_ : FnRow := ⟨55, 57, [(.tmp 6), (.tmp 7)], m_slices_choosePivotOrdered_int_⟩
theorem row_slices_choosePivotOrdered_int__ok : row_slices_choosePivotOrdered_int_.Ok Try.prog := ⟨(by kernel_rfl : callable Try.prog 55 = true), Try.f55, Nat.le_of_ble_eq_true rfl, rfl, fun r hr => (by rcases List.mem_cons.1 hr with rfl | hr; exact trivial; exact (by rcases List.mem_cons.1 hr with rfl | hr; exact trivial; exact (by cases hr))), fun _ _ _ hn h => e_slices_choosePivotOrdered_int_ hn h⟩
def row_slices_reverseRangeOrdered_int_ : FnRow := ⟨56, 32, [], m_slices_reverseRangeOrdered_int_⟩
theorem row_slices_reverseRangeOrdered_int__ok : row_slices_reverseRangeOrdered_int_.Ok Try.prog := ⟨(by kernel_rfl : callable Try.prog 56 = true), Try.f56, Nat.le_of_ble_eq_true rfl, rfl, fun r hr => (by cases hr), fun _ _ _ hn h => e_slices_reverseRangeOrdered_int_ hn h⟩
def row_slices_partialInsertionSortOrdered_int_ : FnRow := ⟨57, 133, [(.tmp 6)], m_slices_partialInsertionSortOrdered_int_⟩
theorem row_slices_partialInsertionSortOrdered_int__ok : row_slices_partialInsertionSortOrdered_int_.Ok Try.prog := ⟨(by kernel_rfl : callable Try.prog 57 = true), Try.f57, Nat.le_of_ble_eq_true rfl, rfl, fun r hr => (by rcases List.mem_cons.1 hr with rfl | hr; exact trivial; exact (by cases hr)), fun _ _ _ hn h => e_slices_partialInsertionSortOrdered_int_ hn h⟩
def row_cmp_Less_int_ : FnRow := ⟨58, 17, [(.tmp 4)], m_cmp_Less_int_⟩
theorem row_cmp_Less_int__ok : row_cmp_Less_int_.Ok Try.prog := ⟨(by kernel_rfl : callable Try.prog 58 = true), Try.f58, Nat.le_of_ble_eq_true rfl, rfl, fun r hr => (by rcases List.mem_cons.1 hr with rfl | hr; exact trivial; exact (by cases hr)), fun _ _ _ hn h => e_cmp_Less_int_ hn h⟩
def row_slices_partitionEqualOrdered_int_ : FnRow := ⟨59, 84, [(.tmp 8)], m_slices_partitionEqualOrdered_int_⟩
theorem row_slices_partitionEqualOrdered_int__ok : row_slices_partitionEqualOrdered_int_.Ok Try.prog := ⟨(by kernel_rfl : callable Try.prog 59 = true), Try.f59, Nat.le_of_ble_eq_true rfl, rfl, fun r hr => (by rcases List.mem_cons.1 hr with rfl | hr; exact trivial; exact (by cases hr)), fun _ _ _ hn h => e_slices_partitionEqualOrdered_int_ hn h⟩
def row_slices_partitionOrdered_int_ : FnRow := ⟨60, 168, [(.tmp 8), (.tmp 9)], m_slices_partitionOrdered_int_⟩
theorem row_slices_partitionOrdered_int__ok : row_slices_partitionOrdered_int_.Ok Try.prog := ⟨(by kernel_rfl : callable Try.prog 60 = true), Try.f60, Nat.le_of_ble_eq_true rfl, rfl, fun r hr => (by rcases List.mem_cons.1 hr with rfl | hr; exact trivial; exact (by rcases List.mem_cons.1 hr with rfl | hr; exact trivial; exact (by cases hr))), fun _ _ _ hn h => e_slices_partitionOrdered_int_ hn h⟩
def row_math_bits_Len32 : FnRow := ⟨61, 19, [(.tmp 2)], m_math_bits_Len32⟩
theorem row_math_bits_Len32_ok : row_math_bits_Len32.Ok Try.prog := ⟨(by kernel_rfl : callable Try.prog 61 = true), Try.f61, Nat.le_of_ble_eq_true rfl, rfl, fun r hr => (by rcases List.mem_cons.1 hr with rfl | hr; exact trivial; exact (by cases hr)), fun _ _ _ hn h => e_math_bits_Len32 hn h⟩
def row_math_bits_Len64 : FnRow := ⟨62, 25, [(.tmp 2)], m_math_bits_Len64⟩
theorem row_math_bits_Len64_ok : row_math_bits_Len64.Ok Try.prog := ⟨(by kernel_rfl : callable Try.prog 62 = true), Try.f62, Nat.le_of_ble_eq_true rfl, rfl, fun r hr => (by rcases List.mem_cons.1 hr with rfl | hr; exact trivial; exact (by cases hr)), fun _ _ _ hn h => e_math_bits_Len64 hn h⟩
def row_slices_siftDownOrdered_int_ : FnRow := ⟨63, 76, [], m_slices_siftDownOrdered_int_⟩
theorem row_slices_siftDownOrdered_int__ok : row_slices_siftDownOrdered_int_.Ok Try.prog := ⟨(by kernel_rfl : callable Try.prog 63 = true), Try.f63, Nat.le_of_ble_eq_true rfl, rfl, fun r hr => (by cases hr), fun _ _ _ hn h => e_slices_siftDownOrdered_int_ hn h⟩
def row_slices_nextPowerOfTwo : FnRow := ⟨64, 7, [(.tmp 2)], m_slices_nextPowerOfTwo⟩
theorem row_slices_nextPowerOfTwo_ok : row_slices_nextPowerOfTwo.Ok Try.prog := ⟨(by kernel_rfl : callable Try.prog 64 = true), Try.f64, Nat.le_of_ble_eq_true rfl, rfl, fun r hr => (by rcases List.mem_cons.1 hr with rfl | hr; exact trivial; exact (by cases hr)), fun _ _ _ hn h => e_slices_nextPowerOfTwo hn h⟩
def row_slices_xorshift_Next : FnRow := ⟨65, 33, [(.tmp 2)], m_slices_xorshift_Next⟩
theorem row_slices_xorshift_Next_ok : row_slices_xorshift_Next.Ok Try.prog := ⟨(by kernel_rfl : callable Try.prog 65 = true), Try.f65, Nat.le_of_ble_eq_true rfl, rfl, fun r hr => (by rcases List.mem_cons.1 hr with rfl | hr; exact trivial; exact (by cases hr)), fun _ _ _ hn h => e_slices_xorshift_Next hn h⟩
def row_slices_medianAdjacentOrdered_int_ : FnRow := ⟨66, 15, [(.tmp 6)], m_slices_medianAdjacentOrdered_int_⟩
theorem row_slices_medianAdjacentOrdered_int__ok : row_slices_medianAdjacentOrdered_int_.Ok Try.prog := ⟨(by kernel_rfl : callable Try.prog 66 = true), Try.f66, Nat.le_of_ble_eq_true rfl, rfl, fun r hr => (by rcases List.mem_cons.1 hr with rfl | hr; exact trivial; exact (by cases hr)), fun _ _ _ hn h => e_slices_medianAdjacentOrdered_int_ hn h⟩
def row_slices_medianOrdered_int_ : FnRow := ⟨67, 36, [(.tmp 10)], m_slices_medianOrdered_int_⟩
theorem row_slices_medianOrdered_int__ok : row_slices_medianOrdered_int_.Ok Try.prog := ⟨(by kernel_rfl : callable Try.prog 67 = true), Try.f67, Nat.le_of_ble_eq_true rfl, rfl, fun r hr => (by rcases List.mem_cons.1 hr with rfl | hr; exact trivial; exact (by cases hr)), fun _ _ _ hn h => e_slices_medianOrdered_int_ hn h⟩
def row_cmp_isNaN_int_ : FnRow := ⟨68, 6, [(.tmp 2)], m_cmp_isNaN_int_⟩
theorem row_cmp_isNaN_int__ok : row_cmp_isNaN_int_.Ok Try.prog := ⟨(by kernel_rfl : callable Try.prog 68 = true), Try.f68, Nat.le_of_ble_eq_true rfl, rfl, fun r hr => (by rcases List.mem_cons.1 hr with rfl | hr; exact trivial; exact (by cases hr)), fun _ _ _ hn h => e_cmp_isNaN_int_ hn h⟩
def row_slices_order2Ordered_int_ : FnRow := ⟨69, 28, [(.tmp 8), (.tmp 9)], m_slices_order2Ordered_int_⟩
theorem row_slices_order2Ordered_int__ok : row_slices_order2Ordered_int_.Ok Try.prog := ⟨(by kernel_rfl : callable Try.prog 69 = true), Try.f69, Nat.le_of_ble_eq_true rfl, rfl, fun r hr => (by rcases List.mem_cons.1 hr with rfl | hr; exact trivial; exact (by rcases List.mem_cons.1 hr with rfl | hr; exact trivial; exact (by cases hr))), fun _ _ _ hn h => e_slices_order2Ordered_int_ hn h⟩
def rows : List FnRow := [row_tumbrellaw08_LargeApart, row_tumbrellaw08_LargePlays, row_arena_New, row_large_New, row_link_New, row_large_Set_Make, row_arena_Arena_Load, row_arena_Arena_Store, row_large_Set_Drop, row_large_Set_Check, row_tumbrellaw08_awake, row_tumbrelref08_Set_Make, row_tumbrelref08_Set_Drop, row_large_Set_All, row_tumbrelref08_Set_Stands, row_large_Set_Size, row_link_mix, row_class_Pages, row_arena_Arena_Len, row_large_Set_meets, row_arena_Arena_Fill, row_large_Set_canary, row_arena_Arena_SetWord, row_arena_Arena_in, row_bytes_Clone, row_large_Set_stands, row_large_run, row_tumbrelref05_Pages, row_tumbrelref08_Set_fill, row_tumbrelref01_Put, row_tumbrelref06_Mix, row_tumbrelref08_Set_At, row_slices_Sorted_int_, row_maps_Keys_map_int_int_int_int_, row_tumbrelref01_Get, row_class_Room, row_link_Code_Canary, row_arena_Arena_word, row_num_Put, row_arena_Arena_Word, row_slices_Collect_int_, row_slices_Sort_int_int_, row_maps_Keys_map_int_int_int_int__c1, row_class_Size, row_num_Get, row_slices_pdqsortOrdered_int_, row_math_bits_Len, row_class_may, row_slices_insertionSortOrdered_int_, row_slices_heapSortOrdered_int_, row_slices_breakPatternsOrdered_int_, row_slices_choosePivotOrdered_int_, row_slices_reverseRangeOrdered_int_, row_slices_partialInsertionSortOrdered_int_, row_cmp_Less_int_, row_slices_partitionEqualOrdered_int_, row_slices_partitionOrdered_int_, row_math_bits_Len32, row_math_bits_Len64, row_slices_siftDownOrdered_int_, row_slices_nextPowerOfTwo, row_slices_xorshift_Next, row_slices_medianAdjacentOrdered_int_, row_slices_medianOrdered_int_, row_cmp_isNaN_int_, row_slices_order2Ordered_int_]
theorem rows_ok : ∀ x ∈ rows, x.Ok Try.prog := by
  refine List.forall_mem_cons.2 ⟨row_tumbrellaw08_LargeApart_ok, ?_⟩
  refine List.forall_mem_cons.2 ⟨row_tumbrellaw08_LargePlays_ok, ?_⟩
  refine List.forall_mem_cons.2 ⟨row_arena_New_ok, ?_⟩
  refine List.forall_mem_cons.2 ⟨row_large_New_ok, ?_⟩
  refine List.forall_mem_cons.2 ⟨row_link_New_ok, ?_⟩
  refine List.forall_mem_cons.2 ⟨row_large_Set_Make_ok, ?_⟩
  refine List.forall_mem_cons.2 ⟨row_arena_Arena_Load_ok, ?_⟩
  refine List.forall_mem_cons.2 ⟨row_arena_Arena_Store_ok, ?_⟩
  refine List.forall_mem_cons.2 ⟨row_large_Set_Drop_ok, ?_⟩
  refine List.forall_mem_cons.2 ⟨row_large_Set_Check_ok, ?_⟩
  refine List.forall_mem_cons.2 ⟨row_tumbrellaw08_awake_ok, ?_⟩
  refine List.forall_mem_cons.2 ⟨row_tumbrelref08_Set_Make_ok, ?_⟩
  refine List.forall_mem_cons.2 ⟨row_tumbrelref08_Set_Drop_ok, ?_⟩
  refine List.forall_mem_cons.2 ⟨row_large_Set_All_ok, ?_⟩
  refine List.forall_mem_cons.2 ⟨row_tumbrelref08_Set_Stands_ok, ?_⟩
  refine List.forall_mem_cons.2 ⟨row_large_Set_Size_ok, ?_⟩
  refine List.forall_mem_cons.2 ⟨row_link_mix_ok, ?_⟩
  refine List.forall_mem_cons.2 ⟨row_class_Pages_ok, ?_⟩
  refine List.forall_mem_cons.2 ⟨row_arena_Arena_Len_ok, ?_⟩
  refine List.forall_mem_cons.2 ⟨row_large_Set_meets_ok, ?_⟩
  refine List.forall_mem_cons.2 ⟨row_arena_Arena_Fill_ok, ?_⟩
  refine List.forall_mem_cons.2 ⟨row_large_Set_canary_ok, ?_⟩
  refine List.forall_mem_cons.2 ⟨row_arena_Arena_SetWord_ok, ?_⟩
  refine List.forall_mem_cons.2 ⟨row_arena_Arena_in_ok, ?_⟩
  refine List.forall_mem_cons.2 ⟨row_bytes_Clone_ok, ?_⟩
  refine List.forall_mem_cons.2 ⟨row_large_Set_stands_ok, ?_⟩
  refine List.forall_mem_cons.2 ⟨row_large_run_ok, ?_⟩
  refine List.forall_mem_cons.2 ⟨row_tumbrelref05_Pages_ok, ?_⟩
  refine List.forall_mem_cons.2 ⟨row_tumbrelref08_Set_fill_ok, ?_⟩
  refine List.forall_mem_cons.2 ⟨row_tumbrelref01_Put_ok, ?_⟩
  refine List.forall_mem_cons.2 ⟨row_tumbrelref06_Mix_ok, ?_⟩
  refine List.forall_mem_cons.2 ⟨row_tumbrelref08_Set_At_ok, ?_⟩
  refine List.forall_mem_cons.2 ⟨row_slices_Sorted_int__ok, ?_⟩
  refine List.forall_mem_cons.2 ⟨row_maps_Keys_map_int_int_int_int__ok, ?_⟩
  refine List.forall_mem_cons.2 ⟨row_tumbrelref01_Get_ok, ?_⟩
  refine List.forall_mem_cons.2 ⟨row_class_Room_ok, ?_⟩
  refine List.forall_mem_cons.2 ⟨row_link_Code_Canary_ok, ?_⟩
  refine List.forall_mem_cons.2 ⟨row_arena_Arena_word_ok, ?_⟩
  refine List.forall_mem_cons.2 ⟨row_num_Put_ok, ?_⟩
  refine List.forall_mem_cons.2 ⟨row_arena_Arena_Word_ok, ?_⟩
  refine List.forall_mem_cons.2 ⟨row_slices_Collect_int__ok, ?_⟩
  refine List.forall_mem_cons.2 ⟨row_slices_Sort_int_int__ok, ?_⟩
  refine List.forall_mem_cons.2 ⟨row_maps_Keys_map_int_int_int_int__c1_ok, ?_⟩
  refine List.forall_mem_cons.2 ⟨row_class_Size_ok, ?_⟩
  refine List.forall_mem_cons.2 ⟨row_num_Get_ok, ?_⟩
  refine List.forall_mem_cons.2 ⟨row_slices_pdqsortOrdered_int__ok, ?_⟩
  refine List.forall_mem_cons.2 ⟨row_math_bits_Len_ok, ?_⟩
  refine List.forall_mem_cons.2 ⟨row_class_may_ok, ?_⟩
  refine List.forall_mem_cons.2 ⟨row_slices_insertionSortOrdered_int__ok, ?_⟩
  refine List.forall_mem_cons.2 ⟨row_slices_heapSortOrdered_int__ok, ?_⟩
  refine List.forall_mem_cons.2 ⟨row_slices_breakPatternsOrdered_int__ok, ?_⟩
  refine List.forall_mem_cons.2 ⟨row_slices_choosePivotOrdered_int__ok, ?_⟩
  refine List.forall_mem_cons.2 ⟨row_slices_reverseRangeOrdered_int__ok, ?_⟩
  refine List.forall_mem_cons.2 ⟨row_slices_partialInsertionSortOrdered_int__ok, ?_⟩
  refine List.forall_mem_cons.2 ⟨row_cmp_Less_int__ok, ?_⟩
  refine List.forall_mem_cons.2 ⟨row_slices_partitionEqualOrdered_int__ok, ?_⟩
  refine List.forall_mem_cons.2 ⟨row_slices_partitionOrdered_int__ok, ?_⟩
  refine List.forall_mem_cons.2 ⟨row_math_bits_Len32_ok, ?_⟩
  refine List.forall_mem_cons.2 ⟨row_math_bits_Len64_ok, ?_⟩
  refine List.forall_mem_cons.2 ⟨row_slices_siftDownOrdered_int__ok, ?_⟩
  refine List.forall_mem_cons.2 ⟨row_slices_nextPowerOfTwo_ok, ?_⟩
  refine List.forall_mem_cons.2 ⟨row_slices_xorshift_Next_ok, ?_⟩
  refine List.forall_mem_cons.2 ⟨row_slices_medianAdjacentOrdered_int__ok, ?_⟩
  refine List.forall_mem_cons.2 ⟨row_slices_medianOrdered_int__ok, ?_⟩
  refine List.forall_mem_cons.2 ⟨row_cmp_isNaN_int__ok, ?_⟩
  refine List.forall_mem_cons.2 ⟨row_slices_order2Ordered_int__ok, ?_⟩
  exact fun x hx => by cases hx
end Go.Proofs.Ytnleiiniajinbaa
