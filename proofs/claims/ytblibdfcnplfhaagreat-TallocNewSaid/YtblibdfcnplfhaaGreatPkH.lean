/-
  What the proof leans on, part 8: of the texts TallocNew.
-/
import Derived.Test.YtblibdfcnplfhaaGreatPkG
set_option linter.unusedVariables false
set_option linter.unusedSimpArgs false
set_option linter.unusedSectionVars false
section
namespace Go.Proofs.YtblibdfcnplfhaaGreat
open Go Go.Tum Go.Tum.Base
set_option maxRecDepth 4000
def rowsTN:List FnRow:=[row_talloc_Pool_Malloc,row_talloc_Pool_Free,row_talloc_Pool_Region,row_talloc_Pool_Ledger,row_talloc_Pool_Mail,row_talloc_Pool_Quar,row_talloc_Pool_Now,row_talloc_Pool_Check,row_talloc_Task_Step,row_talloc_Task_Done,row_talloc_Task_At,row_talloc_Task_Fault,row_talloc_Task_Moment,row_talloc_Pool_in,row_remote_Mail_All,row_quar_Quar_All,row_slices_Sort_int_int_,row_region_Region_Check,row_talloc_Pool_held,row_slices_Equal_int_int_,row_quar_Quar_Len,row_math_bits_Len,row_slices_pdqsortOrdered_int_,row_pages_Table_Len,row_region_Region_slab,row_slab_Slab_Check,row_large_Set_Check,row_region_Region_Arena,row_arena_Arena_Len,row_region_Region_Find,row_math_bits_Len32,row_math_bits_Len64,row_slices_insertionSortOrdered_int_,row_slices_heapSortOrdered_int_,row_slices_breakPatternsOrdered_int_,row_slices_choosePivotOrdered_int_,row_slices_reverseRangeOrdered_int_,row_slices_partialInsertionSortOrdered_int_,row_cmp_Less_int_,row_slices_partitionEqualOrdered_int_,row_slices_partitionOrdered_int_,row_slab_Slab_linked,row_bitset_Set_Len,row_slab_Slab_State,row_slab_Slab_stands,row_slab_Slab_gone,row_large_Set_stands,row_slab_Slab_Class,row_class_Slot,row_region_Region_place,row_pages_Table_Head,row_large_Set_Size,row_slices_siftDownOrdered_int_,row_slices_nextPowerOfTwo,row_slices_xorshift_Next,row_slices_medianAdjacentOrdered_int_,row_slices_medianOrdered_int_,row_cmp_isNaN_int_,row_slab_Slab_follow,row_slab_Slab_Count,row_bitset_Set_Has,row_slab_Slab_canary,row_arena_Arena_Word,row_slab_Slab_base,row_class_Size,row_arena_Arena_Load,row_slices_ContainsFunc_byte_byte_,row_large_Set_canary,row_class_may,row_slab_Slab_Page,row_class_Base,row_class_Room,row_pages_Table_Row,row_pages_Row_first,row_slices_order2Ordered_int_,row_link_Code_Get,row_bitset_Set_in,row_link_Code_Canary,row_arena_Arena_word,row_num_Get,row_arena_Arena_in,row_bytes_Clone,row_slices_IndexFunc_byte_byte_,row_large_run,row_class_Slots,row_link_Code_mask,row_link_mix,row_class_Pages]
theorem rowsTN_ok:∀ x∈rowsTN,x.Ok Tryz.prog:=by
 refine List.forall_mem_cons.2 ⟨row_talloc_Pool_Malloc_ok,?_⟩
 refine List.forall_mem_cons.2 ⟨row_talloc_Pool_Free_ok,?_⟩
 refine List.forall_mem_cons.2 ⟨row_talloc_Pool_Region_ok,?_⟩
 refine List.forall_mem_cons.2 ⟨row_talloc_Pool_Ledger_ok,?_⟩
 refine List.forall_mem_cons.2 ⟨row_talloc_Pool_Mail_ok,?_⟩
 refine List.forall_mem_cons.2 ⟨row_talloc_Pool_Quar_ok,?_⟩
 refine List.forall_mem_cons.2 ⟨row_talloc_Pool_Now_ok,?_⟩
 refine List.forall_mem_cons.2 ⟨row_talloc_Pool_Check_ok,?_⟩
 refine List.forall_mem_cons.2 ⟨row_talloc_Task_Step_ok,?_⟩
 refine List.forall_mem_cons.2 ⟨row_talloc_Task_Done_ok,?_⟩
 refine List.forall_mem_cons.2 ⟨row_talloc_Task_At_ok,?_⟩
 refine List.forall_mem_cons.2 ⟨row_talloc_Task_Fault_ok,?_⟩
 refine List.forall_mem_cons.2 ⟨row_talloc_Task_Moment_ok,?_⟩
 refine List.forall_mem_cons.2 ⟨row_talloc_Pool_in_ok,?_⟩
 refine List.forall_mem_cons.2 ⟨row_remote_Mail_All_ok,?_⟩
 refine List.forall_mem_cons.2 ⟨row_quar_Quar_All_ok,?_⟩
 refine List.forall_mem_cons.2 ⟨row_slices_Sort_int_int__ok,?_⟩
 refine List.forall_mem_cons.2 ⟨row_region_Region_Check_ok,?_⟩
 refine List.forall_mem_cons.2 ⟨row_talloc_Pool_held_ok,?_⟩
 refine List.forall_mem_cons.2 ⟨row_slices_Equal_int_int__ok,?_⟩
 refine List.forall_mem_cons.2 ⟨row_quar_Quar_Len_ok,?_⟩
 refine List.forall_mem_cons.2 ⟨row_math_bits_Len_ok,?_⟩
 refine List.forall_mem_cons.2 ⟨row_slices_pdqsortOrdered_int__ok,?_⟩
 refine List.forall_mem_cons.2 ⟨row_pages_Table_Len_ok,?_⟩
 refine List.forall_mem_cons.2 ⟨row_region_Region_slab_ok,?_⟩
 refine List.forall_mem_cons.2 ⟨row_slab_Slab_Check_ok,?_⟩
 refine List.forall_mem_cons.2 ⟨row_large_Set_Check_ok,?_⟩
 refine List.forall_mem_cons.2 ⟨row_region_Region_Arena_ok,?_⟩
 refine List.forall_mem_cons.2 ⟨row_arena_Arena_Len_ok,?_⟩
 refine List.forall_mem_cons.2 ⟨row_region_Region_Find_ok,?_⟩
 refine List.forall_mem_cons.2 ⟨row_math_bits_Len32_ok,?_⟩
 refine List.forall_mem_cons.2 ⟨row_math_bits_Len64_ok,?_⟩
 refine List.forall_mem_cons.2 ⟨row_slices_insertionSortOrdered_int__ok,?_⟩
 refine List.forall_mem_cons.2 ⟨row_slices_heapSortOrdered_int__ok,?_⟩
 refine List.forall_mem_cons.2 ⟨row_slices_breakPatternsOrdered_int__ok,?_⟩
 refine List.forall_mem_cons.2 ⟨row_slices_choosePivotOrdered_int__ok,?_⟩
 refine List.forall_mem_cons.2 ⟨row_slices_reverseRangeOrdered_int__ok,?_⟩
 refine List.forall_mem_cons.2 ⟨row_slices_partialInsertionSortOrdered_int__ok,?_⟩
 refine List.forall_mem_cons.2 ⟨row_cmp_Less_int__ok,?_⟩
 refine List.forall_mem_cons.2 ⟨row_slices_partitionEqualOrdered_int__ok,?_⟩
 refine List.forall_mem_cons.2 ⟨row_slices_partitionOrdered_int__ok,?_⟩
 refine List.forall_mem_cons.2 ⟨row_slab_Slab_linked_ok,?_⟩
 refine List.forall_mem_cons.2 ⟨row_bitset_Set_Len_ok,?_⟩
 refine List.forall_mem_cons.2 ⟨row_slab_Slab_State_ok,?_⟩
 refine List.forall_mem_cons.2 ⟨row_slab_Slab_stands_ok,?_⟩
 refine List.forall_mem_cons.2 ⟨row_slab_Slab_gone_ok,?_⟩
 refine List.forall_mem_cons.2 ⟨row_large_Set_stands_ok,?_⟩
 refine List.forall_mem_cons.2 ⟨row_slab_Slab_Class_ok,?_⟩
 refine List.forall_mem_cons.2 ⟨row_class_Slot_ok,?_⟩
 refine List.forall_mem_cons.2 ⟨row_region_Region_place_ok,?_⟩
 refine List.forall_mem_cons.2 ⟨row_pages_Table_Head_ok,?_⟩
 refine List.forall_mem_cons.2 ⟨row_large_Set_Size_ok,?_⟩
 refine List.forall_mem_cons.2 ⟨row_slices_siftDownOrdered_int__ok,?_⟩
 refine List.forall_mem_cons.2 ⟨row_slices_nextPowerOfTwo_ok,?_⟩
 refine List.forall_mem_cons.2 ⟨row_slices_xorshift_Next_ok,?_⟩
 refine List.forall_mem_cons.2 ⟨row_slices_medianAdjacentOrdered_int__ok,?_⟩
 refine List.forall_mem_cons.2 ⟨row_slices_medianOrdered_int__ok,?_⟩
 refine List.forall_mem_cons.2 ⟨row_cmp_isNaN_int__ok,?_⟩
 refine List.forall_mem_cons.2 ⟨row_slab_Slab_follow_ok,?_⟩
 refine List.forall_mem_cons.2 ⟨row_slab_Slab_Count_ok,?_⟩
 refine List.forall_mem_cons.2 ⟨row_bitset_Set_Has_ok,?_⟩
 refine List.forall_mem_cons.2 ⟨row_slab_Slab_canary_ok,?_⟩
 refine List.forall_mem_cons.2 ⟨row_arena_Arena_Word_ok,?_⟩
 refine List.forall_mem_cons.2 ⟨row_slab_Slab_base_ok,?_⟩
 refine List.forall_mem_cons.2 ⟨row_class_Size_ok,?_⟩
 refine List.forall_mem_cons.2 ⟨row_arena_Arena_Load_ok,?_⟩
 refine List.forall_mem_cons.2 ⟨row_slices_ContainsFunc_byte_byte__ok,?_⟩
 refine List.forall_mem_cons.2 ⟨row_large_Set_canary_ok,?_⟩
 refine List.forall_mem_cons.2 ⟨row_class_may_ok,?_⟩
 refine List.forall_mem_cons.2 ⟨row_slab_Slab_Page_ok,?_⟩
 refine List.forall_mem_cons.2 ⟨row_class_Base_ok,?_⟩
 refine List.forall_mem_cons.2 ⟨row_class_Room_ok,?_⟩
 refine List.forall_mem_cons.2 ⟨row_pages_Table_Row_ok,?_⟩
 refine List.forall_mem_cons.2 ⟨row_pages_Row_first_ok,?_⟩
 refine List.forall_mem_cons.2 ⟨row_slices_order2Ordered_int__ok,?_⟩
 refine List.forall_mem_cons.2 ⟨row_link_Code_Get_ok,?_⟩
 refine List.forall_mem_cons.2 ⟨row_bitset_Set_in_ok,?_⟩
 refine List.forall_mem_cons.2 ⟨row_link_Code_Canary_ok,?_⟩
 refine List.forall_mem_cons.2 ⟨row_arena_Arena_word_ok,?_⟩
 refine List.forall_mem_cons.2 ⟨row_num_Get_ok,?_⟩
 refine List.forall_mem_cons.2 ⟨row_arena_Arena_in_ok,?_⟩
 refine List.forall_mem_cons.2 ⟨row_bytes_Clone_ok,?_⟩
 refine List.forall_mem_cons.2 ⟨row_slices_IndexFunc_byte_byte__ok,?_⟩
 refine List.forall_mem_cons.2 ⟨row_large_run_ok,?_⟩
 refine List.forall_mem_cons.2 ⟨row_class_Slots_ok,?_⟩
 refine List.forall_mem_cons.2 ⟨row_link_Code_mask_ok,?_⟩
 refine List.forall_mem_cons.2 ⟨row_link_mix_ok,?_⟩
 refine List.forall_mem_cons.2 ⟨row_class_Pages_ok,?_⟩
 exact fun x hx=>by cases hx
theorem nMalloc_tr (t n:Int):Tr Tryz.prog 31 [nilP,.int .i64 t,.int .i64 n] [] (fun v K=>v=.tuple ⟨[nilP,.int .i64 2]⟩∧K=[]) :=
 Tr.runK [] (fuel:=500) rowsTN_ok (rawQ2_ok _) (rawE2_ok _) (by kernel_rfl) (by kernel_rfl) (by kernel_rfl) (by kernel_rfl)
theorem nFree_tr (t n:Int):Tr Tryz.prog 15 [nilP,.int .i64 t,.int .i64 n] [] (fun v K=>v=.tuple ⟨[nilP,.int .i64 2]⟩∧K=[]) :=
 Tr.runK [] (fuel:=500) rowsTN_ok (rawQ2_ok _) (rawE2_ok _) (by kernel_rfl) (by kernel_rfl) (by kernel_rfl) (by kernel_rfl)
theorem nRegion_tr (_c:Int):Tr Tryz.prog 19 [nilP] [] (fun v K=>v=nilP∧K=[]) :=
 Tr.runK [] (fuel:=500) rowsTN_ok (rawQ2_ok _) (rawE2_ok _) (by kernel_rfl) (by kernel_rfl) (by kernel_rfl) (by kernel_rfl)
theorem nLedger_tr (_c:Int):Tr Tryz.prog 33 [nilP] [] (fun v K=>v=nilP∧K=[]) :=
 Tr.runK [] (fuel:=500) rowsTN_ok (rawQ2_ok _) (rawE2_ok _) (by kernel_rfl) (by kernel_rfl) (by kernel_rfl) (by kernel_rfl)
theorem nMail_tr (_c:Int):Tr Tryz.prog 34 [nilP] [] (fun v K=>v=nilP∧K=[]) :=
 Tr.runK [] (fuel:=500) rowsTN_ok (rawQ2_ok _) (rawE2_ok _) (by kernel_rfl) (by kernel_rfl) (by kernel_rfl) (by kernel_rfl)
theorem nQuar_tr (t:Int):Tr Tryz.prog 32 [nilP,.int .i64 t] [] (fun v K=>v=nilP∧K=[]) :=
 Tr.runK [] (fuel:=500) rowsTN_ok (rawQ2_ok _) (rawE2_ok _) (by kernel_rfl) (by kernel_rfl) (by kernel_rfl) (by kernel_rfl)
theorem nNow_tr (_c:Int):Tr Tryz.prog 25 [nilP] [] (fun v K=>v=.int .i64 0∧K=[]) :=
 Tr.runK [] (fuel:=500) rowsTN_ok (rawQ2_ok _) (rawE2_ok _) (by kernel_rfl) (by kernel_rfl) (by kernel_rfl) (by kernel_rfl)
theorem nPCheck_tr (_c:Int):Tr Tryz.prog 27 [nilP] [] (fun v K=>v=.int .i64 2∧K=[]) :=
 Tr.runK [] (fuel:=500) rowsTN_ok (rawQ2_ok _) (rawE2_ok _) (by kernel_rfl) (by kernel_rfl) (by kernel_rfl) (by kernel_rfl)
theorem nStep_tr (_c:Int):Tr Tryz.prog 16 [nilP] [] (fun v K=>v=.bool true∧K=[]) :=
 Tr.runK [] (fuel:=500) rowsTN_ok (rawQ2_ok _) (rawE2_ok _) (by kernel_rfl) (by kernel_rfl) (by kernel_rfl) (by kernel_rfl)
theorem nDone_tr (_c:Int):Tr Tryz.prog 18 [nilP] [] (fun v K=>v=.bool true∧K=[]) :=
 Tr.runK [] (fuel:=500) rowsTN_ok (rawQ2_ok _) (rawE2_ok _) (by kernel_rfl) (by kernel_rfl) (by kernel_rfl) (by kernel_rfl)
theorem nAt_tr (_c:Int):Tr Tryz.prog 35 [nilP] [] (fun v K=>v=.int .i64 0∧K=[]) :=
 Tr.runK [] (fuel:=500) rowsTN_ok (rawQ2_ok _) (rawE2_ok _) (by kernel_rfl) (by kernel_rfl) (by kernel_rfl) (by kernel_rfl)
theorem nFault_tr (_c:Int):Tr Tryz.prog 17 [nilP] [] (fun v K=>v=.int .i64 0∧K=[]) :=
 Tr.runK [] (fuel:=500) rowsTN_ok (rawQ2_ok _) (rawE2_ok _) (by kernel_rfl) (by kernel_rfl) (by kernel_rfl) (by kernel_rfl)
theorem nMoment_tr (_c:Int):Tr Tryz.prog 24 [nilP] [] (fun v K=>v=.int .i64 0∧K=[]) :=
 Tr.runK [] (fuel:=500) rowsTN_ok (rawQ2_ok _) (rawE2_ok _) (by kernel_rfl) (by kernel_rfl) (by kernel_rfl) (by kernel_rfl)
abbrev CfgOk (a b n:Int):Prop:=(0≤a∧0≤b∧1≤a+b∧a+b≤256)∧1≤n∧n≤64
theorem may9_tr (a b:Int):Tr Tryz.prog 80 [.int .i64 a,.int .i64 b] [] (fun v K=>v=.bool (decide (0≤a∧0≤b∧1≤a+b∧a+b≤256))∧K=[]):=by
 by_cases h:0≤a∧0≤b∧1≤a+b∧a+b≤256
 ·rw [decide_eq_true h]
  refine Tr.of row_tumbrelref09_May_ok rfl ?_
  repeat' (first|refine qN ?_|refine dN ?_|refine dR ?_|refine d0 ?_|refine rT ?_|refine aA ?_|refine aI (hn:=?_)|refine sP 7 (fun h=>?_) (fun h=>?_)|refine sP 11 (fun h=>?_) (fun h=>?_)|refine sP 15 (fun h=>?_) (fun h=>?_)|refine sP 19 (fun h=>?_) (fun h=>?_)|refine sP 25 (fun h=>?_) (fun h=>?_)|refine qR ?_|refine qS ?_|exact ⟨rfl,rfl⟩|fail)
  all_goals first | (exfalso; omega)|(refine ⟨?_,rfl⟩; exact congrArg Value.bool (by simp; omega))
 ·rw [decide_eq_false h]
  refine Tr.of row_tumbrelref09_May_ok rfl ?_
  repeat' (first|refine qN ?_|refine dN ?_|refine dR ?_|refine d0 ?_|refine rT ?_|refine aA ?_|refine aI (hn:=?_)|refine sP 7 (fun h=>?_) (fun h=>?_)|refine sP 11 (fun h=>?_) (fun h=>?_)|refine sP 15 (fun h=>?_) (fun h=>?_)|refine sP 19 (fun h=>?_) (fun h=>?_)|refine sP 25 (fun h=>?_) (fun h=>?_)|refine qR ?_|refine qS ?_|exact ⟨rfl,rfl⟩|fail)
  all_goals first | (exfalso; omega)|(refine ⟨?_,rfl⟩; exact congrArg Value.bool (by simp; omega))
theorem may13_tr (a b n:Int):Tr Tryz.prog 30 [.int .i64 a,.int .i64 b,.int .i64 n] [] (fun v K=>v=.bool (decide (CfgOk a b n))∧K=[]):=by
 have hM:=may9_tr a b
 by_cases h9:0≤a∧0≤b∧1≤a+b∧a+b≤256
 ·rw [decide_eq_true h9] at hM
  by_cases h:1≤n∧n≤64
  ·rw [decide_eq_true ⟨h9,h⟩]
   refine Tr.of row_tumbrelref13_May_ok rfl ?_
   repeat' (first|refine qN ?_|refine dN ?_|refine dR ?_|refine d0 ?_|refine rT ?_|refine cP [] (hM) ?_|refine aI (hn:=?_)|refine sP 10 (fun h=>?_) (fun h=>?_)|refine sP 14 (fun h=>?_) (fun h=>?_)|refine qR ?_|refine qS ?_|exact ⟨rfl,rfl⟩|fail)
   all_goals first | (exfalso; omega)|(refine ⟨?_,rfl⟩; exact congrArg Value.bool (by simp; omega))
  ·rw [decide_eq_false (fun k=>h k.2)]
   refine Tr.of row_tumbrelref13_May_ok rfl ?_
   repeat' (first|refine qN ?_|refine dN ?_|refine dR ?_|refine d0 ?_|refine rT ?_|refine cP [] (hM) ?_|refine aI (hn:=?_)|refine sP 10 (fun h=>?_) (fun h=>?_)|refine sP 14 (fun h=>?_) (fun h=>?_)|refine qR ?_|refine qS ?_|exact ⟨rfl,rfl⟩|fail)
   all_goals first | (exfalso; omega)|(refine ⟨?_,rfl⟩; exact congrArg Value.bool (by simp; omega))
 ·rw [decide_eq_false h9] at hM
  rw [decide_eq_false (fun k=>h9 k.1)]
  refine Tr.of row_tumbrelref13_May_ok rfl ?_
  repeat' (first|refine qN ?_|refine dN ?_|refine dR ?_|refine d0 ?_|refine rT ?_|refine cP [] (hM) ?_|refine aI (hn:=?_)|refine sP 10 (fun h=>?_) (fun h=>?_)|refine sP 14 (fun h=>?_) (fun h=>?_)|refine qR ?_|refine qS ?_|exact ⟨rfl,rfl⟩|fail)
  all_goals first | (exfalso; omega)|(refine ⟨?_,rfl⟩; exact congrArg Value.bool (by simp; omega))
theorem ours_tr (a b n ba wa sd:Int):Tr Tryz.prog 29 [.agg ⟨[.int .i64 a,.int .i64 b,.int .i64 n,.int .i64 ba,.int .i64 wa,.int .u64 sd]⟩] [] (fun v K=>v=.agg ⟨[.int .i64 a,.int .i64 b,.int .u64 sd,.int .i64 n,.int .i64 ba,.int .i64 wa]⟩∧K=[]):=by
 refine Tr.of row_tumbrellaw13_Ours_ok rfl ?_
 repeat' (first|refine qN ?_|refine dN ?_|refine d0 ?_|refine aI (hn:=?_)|refine qR ?_|refine qS ?_|exact ⟨rfl,rfl⟩|fail)
 exact L_ret (RetQ.pick [] rfl rfl rfl rfl ⟨rfl,rfl⟩)
set_option maxHeartbeats 4000000 in
theorem TallocNew_no (a b n ba wa t m:Int) (sd:BitVec 64) (ha : -9223372036854775808≤a∧a≤9223372036854775807) (hb : -9223372036854775808≤b∧b≤9223372036854775807) (h:¬ CfgOk a b n):Tr Tryz.prog 7 [.agg ⟨[.int .i64 a,.int .i64 b,.int .i64 n,.int .i64 ba,.int .i64 wa,.int .u64 (sd.toNat:Int)]⟩,.int .i64 t,.int .i64 m] [] (fun v _=>v=.bool true):=by
 have hM:=may13_tr a b n
 rw [decide_eq_false h] at hM
 have hN:=poolNew_no a b sd n ba wa ha hb h
 have hO:=ours_tr a b n ba wa sd.toNat
 have hMa:=nMalloc_tr t m
 have hFr:=nFree_tr t m
 have hRe:=nRegion_tr 0
 have hLe:=nLedger_tr 0
 have hMl:=nMail_tr 0
 have hQu:=nQuar_tr t
 have hNo:=nNow_tr 0
 have hCh:=nPCheck_tr 0
 have hSt:=nStep_tr 0
 have hDo:=nDone_tr 0
 have hAt:=nAt_tr 0
 have hFa:=nFault_tr 0
 have hMo:=nMoment_tr 0
 have hAw:=awake13_tr
 refine Tr.of row_tumbrellaw13_TallocNew_ok rfl ?_
 repeat' (first|refine qN ?_|refine dN ?_|refine dR ?_|refine d0 ?_|refine rT ?_|refine qT ?_|refine qU ?_|refine qL ?_|refine qK ?_|refine iF (fun h=>?_) (fun h=>?_)|refine S_Q [] rfl rfl (QY.neqB rfl (by kernel_rfl) rfl rfl) ?_|refine cP [] (hO) ?_|(refine cF [] (hN) ?_; conv=>whnf)|refine cP [] (hM) ?_|(refine cF [] (hMa) ?_; conv=>whnf)|(refine cF [] (hFr) ?_; conv=>whnf)|(refine cF [] (hRe) ?_; conv=>whnf)|(refine cF [] (hLe) ?_; conv=>whnf)|(refine cF [] (hMl) ?_; conv=>whnf)|(refine cF [] (hQu) ?_; conv=>whnf)|refine cP [] (hNo) ?_|refine cP [] (hCh) ?_|refine cP [] (hSt) ?_|refine cP [] (hDo) ?_|refine cP [] (hAt) ?_|refine cP [] (hFa) ?_|refine cP [] (hMo) ?_|refine cP [] (hAw) ?_|refine aI (hn:=?_)|refine sP 38 (fun h=>?_) (fun h=>?_)|refine sP 44 (fun h=>?_) (fun h=>?_)|refine sP 47 (fun h=>?_) (fun h=>?_)|refine sP 55 (fun h=>?_) (fun h=>?_)|refine sP 78 (fun h=>?_) (fun h=>?_)|refine sP 82 (fun h=>?_) (fun h=>?_)|refine sP 87 (fun h=>?_) (fun h=>?_)|refine sP 93 (fun h=>?_) (fun h=>?_)|refine sP 117 (fun h=>?_) (fun h=>?_)|refine sP 121 (fun h=>?_) (fun h=>?_)|refine sP 126 (fun h=>?_) (fun h=>?_)|refine sP 131 (fun h=>?_) (fun h=>?_)|refine sP 136 (fun h=>?_) (fun h=>?_)|refine sP 142 (fun h=>?_) (fun h=>?_)|refine sP 147 (fun h=>?_) (fun h=>?_)|refine sP 152 (fun h=>?_) (fun h=>?_)|refine sP 156 (fun h=>?_) (fun h=>?_)|refine sP 160 (fun h=>?_) (fun h=>?_)|refine sP 165 (fun h=>?_) (fun h=>?_)|refine sP 170 (fun h=>?_) (fun h=>?_)|refine sP 175 (fun h=>?_) (fun h=>?_)|refine qR ?_|refine qS ?_|exact ⟨rfl,rfl⟩|fail)
 all_goals first|exact rfl | (exfalso; omega)
set_option maxHeartbeats 8000000 in
theorem TallocNew_yes (m g:Nat) (h1:m+g≤256) (h2:1≤m+g) (n:Nat) (hn:1≤n∧n≤64) (ba wa t k:Int) (sd:BitVec 64):Tr Tryz.prog 7 [.agg ⟨[.int .i64 m,.int .i64 g,.int .i64 n,.int .i64 ba,.int .i64 wa,.int .u64 (sd.toNat:Int)]⟩,.int .i64 t,.int .i64 k] [] (fun v _=>v=.bool true):=by
 have hM:=may13_tr m g n
 rw [decide_eq_true (by unfold CfgOk; omega)] at hM
 have hN:=poolNew_tr m g sd h1 h2 n hn ba wa
 have hO:=ours_tr m g n ba wa sd.toNat
 have hMa:=nMalloc_tr t k
 have hFr:=nFree_tr t k
 have hRe:=nRegion_tr 0
 have hLe:=nLedger_tr 0
 have hMl:=nMail_tr 0
 have hQu:=nQuar_tr t
 have hNo:=nNow_tr 0
 have hCh:=nPCheck_tr 0
 have hSt:=nStep_tr 0
 have hDo:=nDone_tr 0
 have hAt:=nAt_tr 0
 have hFa:=nFault_tr 0
 have hMo:=nMoment_tr 0
 have hAw:=awake13_tr
 refine Tr.of row_tumbrellaw13_TallocNew_ok rfl ?_
 repeat' (first|refine qN ?_|refine dN ?_|refine dR ?_|refine d0 ?_|refine rT ?_|refine qT ?_|refine qU ?_|refine qL ?_|refine qK ?_|refine iF (fun h=>?_) (fun h=>?_)|refine cP [] (hO) ?_|refine aI (hn:=?_)|refine sP 38 (fun h=>?_) (fun h=>?_)|refine sP 44 (fun h=>?_) (fun h=>?_)|refine sP 47 (fun h=>?_) (fun h=>?_)|refine sP 55 (fun h=>?_) (fun h=>?_)|refine sP 78 (fun h=>?_) (fun h=>?_)|refine sP 82 (fun h=>?_) (fun h=>?_)|refine sP 87 (fun h=>?_) (fun h=>?_)|refine sP 93 (fun h=>?_) (fun h=>?_)|refine sP 117 (fun h=>?_) (fun h=>?_)|refine sP 121 (fun h=>?_) (fun h=>?_)|refine sP 126 (fun h=>?_) (fun h=>?_)|refine sP 131 (fun h=>?_) (fun h=>?_)|refine sP 136 (fun h=>?_) (fun h=>?_)|refine sP 142 (fun h=>?_) (fun h=>?_)|refine sP 147 (fun h=>?_) (fun h=>?_)|refine sP 152 (fun h=>?_) (fun h=>?_)|refine sP 156 (fun h=>?_) (fun h=>?_)|refine sP 160 (fun h=>?_) (fun h=>?_)|refine sP 165 (fun h=>?_) (fun h=>?_)|refine sP 170 (fun h=>?_) (fun h=>?_)|refine sP 175 (fun h=>?_) (fun h=>?_)|refine qR ?_|refine qS ?_|exact ⟨rfl,rfl⟩|fail)
 refine cX (ι:=PS) (C:=NewP m g sd n ba wa) (V:=fun _=>.tuple ⟨[ptr 0,.int .i64 0]⟩) (B:=PPL) [] hN (fun p hp=>?_)
 conv=>whnf
 have hl:=hp.qn
 by_cases hin:0≤t∧t<n
 ·obtain ⟨t,rfl⟩:=Int.eq_ofNat_of_zero_le hin.1
  obtain ⟨x,hx⟩:∃ x,p.qs[t]?=some x:=⟨_,List.getElem?_eq_getElem (by omega)⟩
  have pF:=pFree_ok p t (by omega) (by omega) k
  have pQ:=pQuar_ok p t (by omega) hx
  by_cases hk:1≤k∧k≤4096
  ·have pM:=pMalloc_ok p t (by omega) (by omega) k hk
   repeat' (first|refine qN ?_|refine dN ?_|refine dR ?_|refine d0 ?_|refine rT ?_|refine qT ?_|refine qU ?_|refine qL ?_|refine qK ?_|refine iF (fun h=>?_) (fun h=>?_)|refine S_Q [] rfl rfl (QY.neqB rfl (by kernel_rfl) rfl rfl) ?_|refine cP [] (hM) ?_|(refine cF [1,2,3,4,5,6,7,8,9,10,11,12,13,14] (pM) ?_; conv=>whnf)|(refine cF [1,2,3,4,5,6,7,8,9,10,11,12,13,14] (pF) ?_; conv=>whnf)|(refine cF [1,2,3,4,5,6,7,8,9,10,11,12,13,14] (pQ) ?_; conv=>whnf)|(refine cF [] (hMa) ?_; conv=>whnf)|(refine cF [] (hFr) ?_; conv=>whnf)|(refine cF [] (hRe) ?_; conv=>whnf)|(refine cF [] (hLe) ?_; conv=>whnf)|(refine cF [] (hMl) ?_; conv=>whnf)|(refine cF [] (hQu) ?_; conv=>whnf)|refine cP [] (hNo) ?_|refine cP [] (hCh) ?_|refine cP [] (hSt) ?_|refine cP [] (hDo) ?_|refine cP [] (hAt) ?_|refine cP [] (hFa) ?_|refine cP [] (hMo) ?_|refine cP [] (hAw) ?_|refine aI (hn:=?_)|refine sP 38 (fun h=>?_) (fun h=>?_)|refine sP 44 (fun h=>?_) (fun h=>?_)|refine sP 47 (fun h=>?_) (fun h=>?_)|refine sP 55 (fun h=>?_) (fun h=>?_)|refine sP 78 (fun h=>?_) (fun h=>?_)|refine sP 82 (fun h=>?_) (fun h=>?_)|refine sP 87 (fun h=>?_) (fun h=>?_)|refine sP 93 (fun h=>?_) (fun h=>?_)|refine sP 117 (fun h=>?_) (fun h=>?_)|refine sP 121 (fun h=>?_) (fun h=>?_)|refine sP 126 (fun h=>?_) (fun h=>?_)|refine sP 131 (fun h=>?_) (fun h=>?_)|refine sP 136 (fun h=>?_) (fun h=>?_)|refine sP 142 (fun h=>?_) (fun h=>?_)|refine sP 147 (fun h=>?_) (fun h=>?_)|refine sP 152 (fun h=>?_) (fun h=>?_)|refine sP 156 (fun h=>?_) (fun h=>?_)|refine sP 160 (fun h=>?_) (fun h=>?_)|refine sP 165 (fun h=>?_) (fun h=>?_)|refine sP 170 (fun h=>?_) (fun h=>?_)|refine sP 175 (fun h=>?_) (fun h=>?_)|refine qR ?_|refine qS ?_|exact ⟨rfl,rfl⟩|fail)
   all_goals first|exact rfl | (exfalso; omega) | (exfalso; rename_i h; apply h; simp; omega) | (exfalso; rename_i h; apply h; simp) | (exfalso; rename_i h; simp at h; omega)
  ·have pM:=pMalloc_no p t (by omega) k (fun h=>hk h.2)
   repeat' (first|refine qN ?_|refine dN ?_|refine dR ?_|refine d0 ?_|refine rT ?_|refine qT ?_|refine qU ?_|refine qL ?_|refine qK ?_|refine iF (fun h=>?_) (fun h=>?_)|refine S_Q [] rfl rfl (QY.neqB rfl (by kernel_rfl) rfl rfl) ?_|refine cP [] (hM) ?_|(refine cF [1,2,3,4,5,6,7,8,9,10,11,12,13,14] (pM) ?_; conv=>whnf)|(refine cF [1,2,3,4,5,6,7,8,9,10,11,12,13,14] (pF) ?_; conv=>whnf)|(refine cF [1,2,3,4,5,6,7,8,9,10,11,12,13,14] (pQ) ?_; conv=>whnf)|(refine cF [] (hMa) ?_; conv=>whnf)|(refine cF [] (hFr) ?_; conv=>whnf)|(refine cF [] (hRe) ?_; conv=>whnf)|(refine cF [] (hLe) ?_; conv=>whnf)|(refine cF [] (hMl) ?_; conv=>whnf)|(refine cF [] (hQu) ?_; conv=>whnf)|refine cP [] (hNo) ?_|refine cP [] (hCh) ?_|refine cP [] (hSt) ?_|refine cP [] (hDo) ?_|refine cP [] (hAt) ?_|refine cP [] (hFa) ?_|refine cP [] (hMo) ?_|refine cP [] (hAw) ?_|refine aI (hn:=?_)|refine sP 38 (fun h=>?_) (fun h=>?_)|refine sP 44 (fun h=>?_) (fun h=>?_)|refine sP 47 (fun h=>?_) (fun h=>?_)|refine sP 55 (fun h=>?_) (fun h=>?_)|refine sP 78 (fun h=>?_) (fun h=>?_)|refine sP 82 (fun h=>?_) (fun h=>?_)|refine sP 87 (fun h=>?_) (fun h=>?_)|refine sP 93 (fun h=>?_) (fun h=>?_)|refine sP 117 (fun h=>?_) (fun h=>?_)|refine sP 121 (fun h=>?_) (fun h=>?_)|refine sP 126 (fun h=>?_) (fun h=>?_)|refine sP 131 (fun h=>?_) (fun h=>?_)|refine sP 136 (fun h=>?_) (fun h=>?_)|refine sP 142 (fun h=>?_) (fun h=>?_)|refine sP 147 (fun h=>?_) (fun h=>?_)|refine sP 152 (fun h=>?_) (fun h=>?_)|refine sP 156 (fun h=>?_) (fun h=>?_)|refine sP 160 (fun h=>?_) (fun h=>?_)|refine sP 165 (fun h=>?_) (fun h=>?_)|refine sP 170 (fun h=>?_) (fun h=>?_)|refine sP 175 (fun h=>?_) (fun h=>?_)|refine qR ?_|refine qS ?_|exact ⟨rfl,rfl⟩|fail)
   all_goals first|exact rfl | (exfalso; omega) | (exfalso; rename_i h; apply h; simp; omega) | (exfalso; rename_i h; apply h; simp) | (exfalso; rename_i h; simp at h; omega)
 ·have pF:=pFree_no p t (by omega) k (by rw [hl]; exact hin)
  have pQ:=pQuar_no p t (by omega) (by rw [hl]; exact hin)
  have pM:=pMalloc_no p t (by omega) k (fun h=>hin (by rw [← hl]; exact h.1))
  repeat' (first|refine qN ?_|refine dN ?_|refine dR ?_|refine d0 ?_|refine rT ?_|refine qT ?_|refine qU ?_|refine qL ?_|refine qK ?_|refine iF (fun h=>?_) (fun h=>?_)|refine S_Q [] rfl rfl (QY.neqB rfl (by kernel_rfl) rfl rfl) ?_|refine cP [] (hM) ?_|(refine cF [1,2,3,4,5,6,7,8,9,10,11,12,13,14] (pM) ?_; conv=>whnf)|(refine cF [1,2,3,4,5,6,7,8,9,10,11,12,13,14] (pF) ?_; conv=>whnf)|(refine cF [1,2,3,4,5,6,7,8,9,10,11,12,13,14] (pQ) ?_; conv=>whnf)|(refine cF [] (hMa) ?_; conv=>whnf)|(refine cF [] (hFr) ?_; conv=>whnf)|(refine cF [] (hRe) ?_; conv=>whnf)|(refine cF [] (hLe) ?_; conv=>whnf)|(refine cF [] (hMl) ?_; conv=>whnf)|(refine cF [] (hQu) ?_; conv=>whnf)|refine cP [] (hNo) ?_|refine cP [] (hCh) ?_|refine cP [] (hSt) ?_|refine cP [] (hDo) ?_|refine cP [] (hAt) ?_|refine cP [] (hFa) ?_|refine cP [] (hMo) ?_|refine cP [] (hAw) ?_|refine aI (hn:=?_)|refine sP 38 (fun h=>?_) (fun h=>?_)|refine sP 44 (fun h=>?_) (fun h=>?_)|refine sP 47 (fun h=>?_) (fun h=>?_)|refine sP 55 (fun h=>?_) (fun h=>?_)|refine sP 78 (fun h=>?_) (fun h=>?_)|refine sP 82 (fun h=>?_) (fun h=>?_)|refine sP 87 (fun h=>?_) (fun h=>?_)|refine sP 93 (fun h=>?_) (fun h=>?_)|refine sP 117 (fun h=>?_) (fun h=>?_)|refine sP 121 (fun h=>?_) (fun h=>?_)|refine sP 126 (fun h=>?_) (fun h=>?_)|refine sP 131 (fun h=>?_) (fun h=>?_)|refine sP 136 (fun h=>?_) (fun h=>?_)|refine sP 142 (fun h=>?_) (fun h=>?_)|refine sP 147 (fun h=>?_) (fun h=>?_)|refine sP 152 (fun h=>?_) (fun h=>?_)|refine sP 156 (fun h=>?_) (fun h=>?_)|refine sP 160 (fun h=>?_) (fun h=>?_)|refine sP 165 (fun h=>?_) (fun h=>?_)|refine sP 170 (fun h=>?_) (fun h=>?_)|refine sP 175 (fun h=>?_) (fun h=>?_)|refine qR ?_|refine qS ?_|exact ⟨rfl,rfl⟩|fail)
  all_goals first|exact rfl | (exfalso; omega) | (exfalso; rename_i h; apply h; simp; omega) | (exfalso; rename_i h; apply h; simp) | (exfalso; rename_i h; simp at h; omega)
theorem TallocNew_does (w:World) {cs:List Value} (hc:Fits [some .i64,some .i64,some .i64,some .i64,some .i64,some .u64] cs) (t k:Int):Does Tryz.prog 7 #[.agg ⟨cs⟩,.int .i64 t,.int .i64 k] w fun v w'=>v=.bool true∧Fr (fun _=>False) w w':=by
 obtain ⟨a,_,rfl,ha,hc⟩:=hc.int
 obtain ⟨b,_,rfl,hb,hc⟩:=hc.int
 obtain ⟨n,_,rfl,_,hc⟩:=hc.int
 obtain ⟨ba,_,rfl,_,hc⟩:=hc.int
 obtain ⟨wa,_,rfl,_,hc⟩:=hc.int
 obtain ⟨s,_,rfl,hs,hc⟩:=hc.int
 obtain rfl:=hc.nil
 have ha:=bounds_i64 ha
 have hb:=bounds_i64 hb
 have hs:=bounds_u64 hs
 obtain ⟨sd,rfl⟩:∃ sd:BitVec 64,s=sd.toNat:=⟨BitVec.ofNat 64 s.toNat,by rw [BitVec.toNat_ofNat,Nat.mod_eq_of_lt (by omega)]; omega⟩
 have hT:Tr Tryz.prog 7 [.agg ⟨[.int .i64 a,.int .i64 b,.int .i64 n,.int .i64 ba,.int .i64 wa,.int .u64 (sd.toNat:Int)]⟩,.int .i64 t,.int .i64 k] [] (fun v _=>v=.bool true):=by
  by_cases h:CfgOk a b n
  ·unfold CfgOk at h
   obtain ⟨m,rfl⟩:=Int.eq_ofNat_of_zero_le h.1.1
   obtain ⟨g,rfl⟩:=Int.eq_ofNat_of_zero_le h.1.2.1
   obtain ⟨n,rfl⟩:=Int.eq_ofNat_of_zero_le (show 0≤n by omega)
   exact TallocNew_yes m g (by omega) (by omega) n (by omega) ba wa t k sd
  ·exact TallocNew_no a b n ba wa t k sd ha hb h
 exact TrK.law (vs':=[.agg ⟨[.int .i64 a,.int .i64 b,.int .i64 n,.int .i64 ba,.int .i64 wa,.int .u64 (sd.toNat:Int)]⟩,.int .i64 t,.int .i64 k]) hT [] w rfl (fun x hx=>by cases hx) ⟨VR.still (v:=.agg ⟨[.int .i64 a,.int .i64 b,.int .i64 n,.int .i64 ba,.int .i64 wa,.int .u64 (sd.toNat:Int)]⟩) rfl,rfl,rfl,trivial⟩
end Go.Proofs.YtblibdfcnplfhaaGreat
end
