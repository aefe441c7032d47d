/-
  What the proof leans on, part 9: of the texts Awake22, CyclePlays, CyclePlaysD.
-/
import Derived.Test.YthmdialagibpfaaGreatDoorPkH
set_option linter.unusedVariables false
set_option linter.unusedSimpArgs false
set_option linter.unusedSectionVars false
section
namespace Go.Proofs.YthmdialagibpfaaGreatDoor
open Go Go.Tum
def rowsCw:List FnRow:=[row_tumbrellaw22_awake,row_cycle_Cycle_begin,row_cycle_Cycle_root,row_cycle_Cycle_look,row_cycle_Cycle_clean,row_cycle_Cycle_All_c1,row_region_New,row_gheap_New,row_gheap_Heap_Alloc,row_cycle_New,row_cycle_Cycle_Request,row_cycle_Cycle_Stop,row_cycle_Cycle_Step,row_cycle_Cycle_Phase,row_cycle_Cycle_Gone,row_cycle_Cycle_Count,row_gheap_Heap_Unmark,row_mark_New,row_mark_Marker_Root,row_mark_Marker_Left,row_mark_Marker_Step,row_sweep_New,row_sweep_Sweeper_Left,row_sweep_Sweeper_Step,row_sweep_Sweeper_Gone,row_arena_New,row_link_New,row_pages_New,row_large_New,row_region_Region_Config,row_region_Region_Arena,row_arena_Arena_Len,row_bitset_New,row_object_Shape_Class,row_gheap_Heap_place,row_region_Region_Pages,row_pages_Table_Map,row_class_Base,row_object_Make,row_bitset_Set_Put,row_cycle_Cycle_in,row_slices_Clone_int_int_,row_cycle_Cycle_All,row_bitset_Set_Count,row_bitset_Set_Len,row_gheap_Heap_Has,row_mark_Marker_note,row_gheap_Heap_Region,row_object_Refs,row_gheap_Heap_Pages,row_sweep_Sweeper_page,row_link_mix,row_object_Shape_Bytes,row_class_Size,row_gheap_Heap_managed,row_gheap_Heap_row,row_gheap_Heap_slot,row_pages_Row_first,row_pages_Table_cut,row_pages_Table_place,row_class_Slots,row_arena_Arena_Word,row_arena_Arena_Fill,row_object_Shape_word,row_arena_Arena_SetWord,row_bitset_Set_in,row_slices_ContainsFunc_cycle_thread_cycle_thread_,row_math_bits_OnesCount64,row_bitset_Set_Has,row_gheap_Heap_Mark,row_object_Head,row_object_Ref,row_gheap_Heap_In,row_gheap_Heap_Marked,row_gheap_Heap_Free,row_gheap_Heap_Tidy,row_object_Shape_may,row_class_may,row_pages_Table_Row,row_pages_Table_Len,row_pages_Row_free,row_arena_Arena_word,row_num_Get,row_arena_Arena_in,row_num_Put,row_slices_IndexFunc_cycle_thread_cycle_thread_,row_object_ref,row_gheap_Heap_All,row_pages_Table_Unmap,row_object_field,row_gheap_places,row_bitset_Set_All,row_bitset_Set_Next,row_bitset_bit]
theorem rowsCw_ok:∀ x∈rowsCw,x.Ok Tryz.prog:=by
 refine List.forall_mem_cons.2 ⟨row_tumbrellaw22_awake_ok,?_⟩
 refine List.forall_mem_cons.2 ⟨row_cycle_Cycle_begin_ok,?_⟩
 refine List.forall_mem_cons.2 ⟨row_cycle_Cycle_root_ok,?_⟩
 refine List.forall_mem_cons.2 ⟨row_cycle_Cycle_look_ok,?_⟩
 refine List.forall_mem_cons.2 ⟨row_cycle_Cycle_clean_ok,?_⟩
 refine List.forall_mem_cons.2 ⟨row_cycle_Cycle_All_c1_ok,?_⟩
 refine List.forall_mem_cons.2 ⟨row_region_New_ok,?_⟩
 refine List.forall_mem_cons.2 ⟨row_gheap_New_ok,?_⟩
 refine List.forall_mem_cons.2 ⟨row_gheap_Heap_Alloc_ok,?_⟩
 refine List.forall_mem_cons.2 ⟨row_cycle_New_ok,?_⟩
 refine List.forall_mem_cons.2 ⟨row_cycle_Cycle_Request_ok,?_⟩
 refine List.forall_mem_cons.2 ⟨row_cycle_Cycle_Stop_ok,?_⟩
 refine List.forall_mem_cons.2 ⟨row_cycle_Cycle_Step_ok,?_⟩
 refine List.forall_mem_cons.2 ⟨row_cycle_Cycle_Phase_ok,?_⟩
 refine List.forall_mem_cons.2 ⟨row_cycle_Cycle_Gone_ok,?_⟩
 refine List.forall_mem_cons.2 ⟨row_cycle_Cycle_Count_ok,?_⟩
 refine List.forall_mem_cons.2 ⟨row_gheap_Heap_Unmark_ok,?_⟩
 refine List.forall_mem_cons.2 ⟨row_mark_New_ok,?_⟩
 refine List.forall_mem_cons.2 ⟨row_mark_Marker_Root_ok,?_⟩
 refine List.forall_mem_cons.2 ⟨row_mark_Marker_Left_ok,?_⟩
 refine List.forall_mem_cons.2 ⟨row_mark_Marker_Step_ok,?_⟩
 refine List.forall_mem_cons.2 ⟨row_sweep_New_ok,?_⟩
 refine List.forall_mem_cons.2 ⟨row_sweep_Sweeper_Left_ok,?_⟩
 refine List.forall_mem_cons.2 ⟨row_sweep_Sweeper_Step_ok,?_⟩
 refine List.forall_mem_cons.2 ⟨row_sweep_Sweeper_Gone_ok,?_⟩
 refine List.forall_mem_cons.2 ⟨row_arena_New_ok,?_⟩
 refine List.forall_mem_cons.2 ⟨row_link_New_ok,?_⟩
 refine List.forall_mem_cons.2 ⟨row_pages_New_ok,?_⟩
 refine List.forall_mem_cons.2 ⟨row_large_New_ok,?_⟩
 refine List.forall_mem_cons.2 ⟨row_region_Region_Config_ok,?_⟩
 refine List.forall_mem_cons.2 ⟨row_region_Region_Arena_ok,?_⟩
 refine List.forall_mem_cons.2 ⟨row_arena_Arena_Len_ok,?_⟩
 refine List.forall_mem_cons.2 ⟨row_bitset_New_ok,?_⟩
 refine List.forall_mem_cons.2 ⟨row_object_Shape_Class_ok,?_⟩
 refine List.forall_mem_cons.2 ⟨row_gheap_Heap_place_ok,?_⟩
 refine List.forall_mem_cons.2 ⟨row_region_Region_Pages_ok,?_⟩
 refine List.forall_mem_cons.2 ⟨row_pages_Table_Map_ok,?_⟩
 refine List.forall_mem_cons.2 ⟨row_class_Base_ok,?_⟩
 refine List.forall_mem_cons.2 ⟨row_object_Make_ok,?_⟩
 refine List.forall_mem_cons.2 ⟨row_bitset_Set_Put_ok,?_⟩
 refine List.forall_mem_cons.2 ⟨row_cycle_Cycle_in_ok,?_⟩
 refine List.forall_mem_cons.2 ⟨row_slices_Clone_int_int__ok,?_⟩
 refine List.forall_mem_cons.2 ⟨row_cycle_Cycle_All_ok,?_⟩
 refine List.forall_mem_cons.2 ⟨row_bitset_Set_Count_ok,?_⟩
 refine List.forall_mem_cons.2 ⟨row_bitset_Set_Len_ok,?_⟩
 refine List.forall_mem_cons.2 ⟨row_gheap_Heap_Has_ok,?_⟩
 refine List.forall_mem_cons.2 ⟨row_mark_Marker_note_ok,?_⟩
 refine List.forall_mem_cons.2 ⟨row_gheap_Heap_Region_ok,?_⟩
 refine List.forall_mem_cons.2 ⟨row_object_Refs_ok,?_⟩
 refine List.forall_mem_cons.2 ⟨row_gheap_Heap_Pages_ok,?_⟩
 refine List.forall_mem_cons.2 ⟨row_sweep_Sweeper_page_ok,?_⟩
 refine List.forall_mem_cons.2 ⟨row_link_mix_ok,?_⟩
 refine List.forall_mem_cons.2 ⟨row_object_Shape_Bytes_ok,?_⟩
 refine List.forall_mem_cons.2 ⟨row_class_Size_ok,?_⟩
 refine List.forall_mem_cons.2 ⟨row_gheap_Heap_managed_ok,?_⟩
 refine List.forall_mem_cons.2 ⟨row_gheap_Heap_row_ok,?_⟩
 refine List.forall_mem_cons.2 ⟨row_gheap_Heap_slot_ok,?_⟩
 refine List.forall_mem_cons.2 ⟨row_pages_Row_first_ok,?_⟩
 refine List.forall_mem_cons.2 ⟨row_pages_Table_cut_ok,?_⟩
 refine List.forall_mem_cons.2 ⟨row_pages_Table_place_ok,?_⟩
 refine List.forall_mem_cons.2 ⟨row_class_Slots_ok,?_⟩
 refine List.forall_mem_cons.2 ⟨row_arena_Arena_Word_ok,?_⟩
 refine List.forall_mem_cons.2 ⟨row_arena_Arena_Fill_ok,?_⟩
 refine List.forall_mem_cons.2 ⟨row_object_Shape_word_ok,?_⟩
 refine List.forall_mem_cons.2 ⟨row_arena_Arena_SetWord_ok,?_⟩
 refine List.forall_mem_cons.2 ⟨row_bitset_Set_in_ok,?_⟩
 refine List.forall_mem_cons.2 ⟨row_slices_ContainsFunc_cycle_thread_cycle_thread__ok,?_⟩
 refine List.forall_mem_cons.2 ⟨row_math_bits_OnesCount64_ok,?_⟩
 refine List.forall_mem_cons.2 ⟨row_bitset_Set_Has_ok,?_⟩
 refine List.forall_mem_cons.2 ⟨row_gheap_Heap_Mark_ok,?_⟩
 refine List.forall_mem_cons.2 ⟨row_object_Head_ok,?_⟩
 refine List.forall_mem_cons.2 ⟨row_object_Ref_ok,?_⟩
 refine List.forall_mem_cons.2 ⟨row_gheap_Heap_In_ok,?_⟩
 refine List.forall_mem_cons.2 ⟨row_gheap_Heap_Marked_ok,?_⟩
 refine List.forall_mem_cons.2 ⟨row_gheap_Heap_Free_ok,?_⟩
 refine List.forall_mem_cons.2 ⟨row_gheap_Heap_Tidy_ok,?_⟩
 refine List.forall_mem_cons.2 ⟨row_object_Shape_may_ok,?_⟩
 refine List.forall_mem_cons.2 ⟨row_class_may_ok,?_⟩
 refine List.forall_mem_cons.2 ⟨row_pages_Table_Row_ok,?_⟩
 refine List.forall_mem_cons.2 ⟨row_pages_Table_Len_ok,?_⟩
 refine List.forall_mem_cons.2 ⟨row_pages_Row_free_ok,?_⟩
 refine List.forall_mem_cons.2 ⟨row_arena_Arena_word_ok,?_⟩
 refine List.forall_mem_cons.2 ⟨row_num_Get_ok,?_⟩
 refine List.forall_mem_cons.2 ⟨row_arena_Arena_in_ok,?_⟩
 refine List.forall_mem_cons.2 ⟨row_num_Put_ok,?_⟩
 refine List.forall_mem_cons.2 ⟨row_slices_IndexFunc_cycle_thread_cycle_thread__ok,?_⟩
 refine List.forall_mem_cons.2 ⟨row_object_ref_ok,?_⟩
 refine List.forall_mem_cons.2 ⟨row_gheap_Heap_All_ok,?_⟩
 refine List.forall_mem_cons.2 ⟨row_pages_Table_Unmap_ok,?_⟩
 refine List.forall_mem_cons.2 ⟨row_object_field_ok,?_⟩
 refine List.forall_mem_cons.2 ⟨row_gheap_places_ok,?_⟩
 refine List.forall_mem_cons.2 ⟨row_bitset_Set_All_ok,?_⟩
 refine List.forall_mem_cons.2 ⟨row_bitset_Set_Next_ok,?_⟩
 refine List.forall_mem_cons.2 ⟨row_bitset_bit_ok,?_⟩
 exact fun x hx=>by cases hx
theorem awake22_tr:Tr Tryz.prog 23 [] [] (fun v K=>v=.bool true∧K=[]) :=
 Tr.closedT (by kernel_rfl) rfl rfl fun w hw=>closed_callH (vs:=[]) (fuel:=5000) ovTZ_ok rowsCw_ok (rawQ1_ok _) (rawE2_ok _) rfl rfl rfl (by kernel_rfl) w (DoorH.of hw)
end Go.Proofs.YthmdialagibpfaaGreatDoor
end
section
namespace Go.Proofs.YthmdialagibpfaaGreatDoor
open Go Go.Tum Go.Tum.Base
set_option maxRecDepth 4000
theorem stl_b (b:Bool):Stl (.bool b):=fun _ _=>rfl
theorem stl_i (i:Int):Stl (.int .i64 i):=fun _ _=>rfl
theorem stl_u:Stl undef:=fun _ _=>rfl
structure O22 where
 o:Op18
 own:Int
 t:Int
 q:IN
 wh:Nat→Int
instance : Inhabited Op18:=⟨⟨0,0,0,0,0,0,0,0,0,0⟩⟩
instance : Inhabited O22:=⟨⟨default,0,0,default,fun _=>0⟩⟩
structure O22.Ok (N:Nat) (F:Nat→List AV) (i:Nat) (r:O22):Prop where
 f:∃ G:Nat→AV,F i=r.o.cells.map .v++[.v (.int .i64 r.own),.v (.int .i64 r.t),.s ⟨r.q.b,r.q.o,none⟩ r.q.n r.q.c (r.q.n*1) G]
 o:r.o.In
 q:RtIn N F r.q
 n:r.q.n≤9223372036854775807
 x:∀ j,j<r.q.n→r.q.xs[j]?=some (r.wh j)∧inI (r.wh j)
theorem ldO22 {n0:NA} {L:LH} {l:Env} {x:Operand} {i N:Nat} {F:Nat→List AV} {o:Op18} {own tt:Int} {q:IN} {G:Nat→AV} (hx:lv l x=some (.pointer (some ⟨0,i*13,none⟩))) (hA:n0.A=AC N F) (hi:i<N) (e:F i=o.cells.map .v++[.v (.int .i64 own),.v (.int .i64 tt),.s ⟨q.b,q.o,none⟩ q.n q.c (q.n*1) G]) :
  QY Tryz.prog n0 L l (.ldn x 13) (.agg ⟨o.cells++[.int .i64 own,.int .i64 tt,.slice (some ⟨q.b,q.o,some 0⟩) q.n q.c]⟩):=by
 have:=QY.rowF (P:=Tryz.prog) (n0:=n0) (L:=L) (l:=l) (sz:=13) (n:=N) (j:=0) (F:=F) i hx (by rw [hA]; rfl) rfl hi (by rw [e]; rfl) (by rw [e]; rfl)
 rw [e] at this; exact this
set_option maxHeartbeats 16000000 in
theorem CyclePlays_tr (b th:Int) (hb:0≤b∧b<256) (hth:0≤th∧th<256) (nb:Nat) (hnb:nb≤9223372036854775807) (F:Nat→List AV) (op:Nat→O22) (hop:∀ i,i<nb→(op i).Ok nb F i) :
  TrK Tryz.prog (AC nb F) [0] 3 [.int .u8 b,.int .u8 th,slB 0 nb] [.dead] (fun v _=>v=.bool true):=by
 obtain ⟨N,hN⟩:∃ N:Nat,1+b % 4=N:=⟨(1+b % 4).toNat,by omega⟩
 obtain ⟨n,hn⟩:∃ n:Nat,th % 4=n:=⟨(th % 4).toNat,by omega⟩
 have hn3:n≤3:=by omega
 have hMk:=make18_tr 1 N (by omega) (by omega)
 have hI0:=HI.init (man:=1) (mgd:=N) (by omega) (by omega)
 have hAw:=awake22_tr
 generalize initM 1 N=m0 at *
 have hP0:=newP m0 [] n hn3
 have hD0:=newD m0 [] n hn3
 have h0:COk n (C0 m0 []) 0:=COk.w (old:=false) hI0 (.inl rfl) TOk.t0 (Nat.le_refl _)
 refine Tr.of row_tumbrellaw22_CyclePlays_ok rfl ?_
 repeat' (first|refine qN ?_|refine dN ?_|refine dR ?_|refine d0 ?_|refine qB ?_|refine rT ?_|refine qT ?_|refine qU ?_|refine qL ?_|refine qK ?_|refine qF ?_|refine qE ?_|refine iF (fun h=>?_) (fun h=>?_)|refine aX ?_|refine S_Q [] rfl rfl (QY.cvi rfl (wrap64_id (by omega) (by omega))) ?_|refine S_Q [] rfl rfl (QY.remN (c:=((N-1:Nat):Int)) rfl rfl (by omega) (by omega) (by omega)) ?_|refine S_Q [] rfl rfl (QY.remN rfl rfl hn (by omega) (by omega)) ?_|refine S_Q [] rfl rfl (QY.add (c:=(N:Int)) rfl rfl (by omega) (by omega) (by omega)) ?_|(refine cF [] (hMk) ?_; conv=>whnf)|refine cWhU hP0 ?_|refine cWhU hD0 ?_|refine aA ?_|refine aI (hn:=?_)|refine aR ?_|refine sP 92 (fun h=>?_) (fun h=>?_)|refine sP 101 (fun h=>?_) (fun h=>?_)|refine sP 110 (fun h=>?_) (fun h=>?_)|refine sP 127 (fun h=>?_) (fun h=>?_)|refine sP 132 (fun h=>?_) (fun h=>?_)|refine sP 145 (fun h=>?_) (fun h=>?_)|refine qR ?_|refine qS ?_|exact ⟨rfl,rfl⟩|fail)
 clear hMk hP0 hD0
 refine LWp.pick [7,8,9,10,37,38,39] T41 rfl rfl (lg0 hn3 (C0 m0 [])) (L_loop (fun q l K=>∃ (i z:Nat) (c:CS),q=nb-i∧i≤nb∧i≤60∧(z=0∨z=1)∧COk n c i∧l=[(7,ptr 1),(8,.int .i64 n),(9,ptr 24),(10,ptr 32),(37,slB 0 nb),(38,.int .i64 nb),(39,.int .i64 i)]∧K=CL z n c c) nb ⟨0,0,C0 m0 [],rfl,by omega,by omega,.inl rfl,h0,rfl,rfl⟩ ?_)
 clear h0 hI0
 rintro q _ _ ⟨i,z,c,rfl,hi,hi60,hz,hc,rfl,rfl⟩
 first|refine L_seq (L_rs (S_done [] rfl (Nx.goL (iF (fun h=>L_skip (Nx.goL ?_)) (fun h=>L_exit ?_)))))|refine L_rs (S_done [] rfl (Nx.goL (L_seq (iF (fun h=>L_skip (Nx.goL ?_)) (fun h=>L_exit ?_)))))
 ·refine L_seq (L_block ?_)
  have hin:i<nb:=by omega
  obtain ⟨⟨G,e⟩,ho,hq,hqn,hqx⟩:=hop i hin
  generalize op i=r at *
  obtain ⟨o,own,tt,q,wh⟩:=r
  simp only at e ho hq hqn hqx
  clear hop
  refine L_cut (fun l L=>l=[(7,ptr 1),(8,.int .i64 n),(9,ptr 24),(10,ptr 32),(11,.int .i64 i),(12,ptr 41),(37,slB 0 nb),(38,.int .i64 nb),(39,.int .i64 i)]∧L=CL z n c c++[opB o own tt q q.n]) ?_ ?_
  ·repeat' (first|refine qN ?_|refine dN ?_|refine d0 ?_|refine qB ?_|refine qT ?_|refine qU ?_|refine qL ?_|refine qK ?_|refine qF ?_|refine qE ?_|refine iF (fun h=>?_) (fun h=>?_)|refine aX ?_|refine S_Q [] rfl rfl (ldO22 rfl rfl hin e) ?_|refine aA ?_|refine aI (hn:=?_)|refine aR ?_|refine sP 92 (fun h=>?_) (fun h=>?_)|refine sP 101 (fun h=>?_) (fun h=>?_)|refine sP 110 (fun h=>?_) (fun h=>?_)|refine sP 127 (fun h=>?_) (fun h=>?_)|refine sP 132 (fun h=>?_) (fun h=>?_)|refine sP 145 (fun h=>?_) (fun h=>?_)|refine qR ?_|refine qS ?_|exact ⟨rfl,rfl⟩|fail)
   show Nx _ _ _ _
   exact Nx.pick [7,8,9,10,11,12,37,38,39] (T41++[41]) rfl rfl (lg3 hn3 c o own tt q q.n) ⟨rfl,rfl⟩
  clear e
  rintro _ _ ⟨rfl,rfl⟩
  have hSm:=pSame_tr c.m c.gl hc.hi
  refine L_cut (fun l L=>i<60∧l=[(7,ptr 1),(8,.int .i64 n),(9,ptr 24),(10,ptr 32),(11,.int .i64 i),(12,ptr 41),(37,slB 0 nb),(38,.int .i64 nb),(39,.int .i64 i)]∧L=CL z n c c++[opB o own tt q q.n]) ?_ ?_
  ·repeat' (first|refine qN ?_|refine dN ?_|refine d0 ?_|refine qB ?_|refine qT ?_|refine qU ?_|refine qL ?_|refine qK ?_|refine qF ?_|refine qE ?_|refine iF (fun h=>?_) (fun h=>?_)|refine aX ?_|refine cP Q23 (hSm) ?_|refine cP [] (hAw) ?_|refine aA ?_|refine aI (hn:=?_)|refine aR ?_|refine sP 92 (fun h=>?_) (fun h=>?_)|refine sP 101 (fun h=>?_) (fun h=>?_)|refine sP 110 (fun h=>?_) (fun h=>?_)|refine sP 127 (fun h=>?_) (fun h=>?_)|refine sP 132 (fun h=>?_) (fun h=>?_)|refine sP 145 (fun h=>?_) (fun h=>?_)|refine qR ?_|refine qS ?_|exact ⟨rfl,rfl⟩|fail)
   ·exact L_ret (RetQ.pick [0] rfl rfl rfl rfl rfl)
   ·exact Nx.pick [7,8,9,10,11,12,37,38,39] (T41++[41]) rfl rfl (lg3 hn3 c o own tt q q.n) ⟨by omega,rfl,rfl⟩
  clear hSm
  rintro _ _ ⟨hi60',rfl,rfl⟩
  refine L_cut (fun l L=>∃ (z:Nat) (c:CS),(z=0∨z=1)∧COk n c (i+1)∧l=[(7,ptr 1),(8,.int .i64 n),(9,ptr 24),(10,ptr 32),(37,slB 0 nb),(38,.int .i64 nb),(39,.int .i64 i)]∧L=CL z n c c) ?_ ?_
  ·by_cases h1:own=1
   ·obtain ⟨c',hc',hPc,hDc⟩:=request_both hn3 hc
    obtain ⟨z',hz',hDc⟩:=hDc z hz
    have hP:=liftP (z:=z) hn3 hPc (vs:=[ptr 24]) rfl (stl_i 0)
    have hD:=liftD (z':=z') hn3 hDc (vs:=[ptr 32]) rfl stl_u
    repeat' (first|refine qN ?_|refine dN ?_|refine dR ?_|refine d0 ?_|refine rT ?_|refine qT ?_|refine qU ?_|refine qL ?_|refine qK ?_|refine qF ?_|refine qE ?_|refine iF (fun h=>?_) (fun h=>?_)|refine aX ?_|refine aA ?_|refine aI (hn:=?_)|refine aR ?_|refine sP 92 (fun h=>?_) (fun h=>?_)|refine sP 101 (fun h=>?_) (fun h=>?_)|refine sP 110 (fun h=>?_) (fun h=>?_)|refine sP 127 (fun h=>?_) (fun h=>?_)|refine sP 132 (fun h=>?_) (fun h=>?_)|refine sP 145 (fun h=>?_) (fun h=>?_)|refine qR ?_|refine qS ?_|exact ⟨rfl,rfl⟩|fail)
    refine LWp.pick [7,8,9,10,37,38,39,47] T41 rfl rfl (lg1 hn3 c o own tt q q.n) (L_block ?_)
    repeat' (first|refine qN ?_|refine dN ?_|refine d0 ?_|refine qB ?_|refine qT ?_|refine qU ?_|refine qL ?_|refine qK ?_|refine qF ?_|refine qE ?_|refine iF (fun h=>?_) (fun h=>?_)|refine aX ?_|refine cWhU hP ?_|refine cWhU hD ?_|refine aA ?_|refine aI (hn:=?_)|refine aR ?_|refine sP 92 (fun h=>?_) (fun h=>?_)|refine sP 101 (fun h=>?_) (fun h=>?_)|refine sP 110 (fun h=>?_) (fun h=>?_)|refine sP 127 (fun h=>?_) (fun h=>?_)|refine sP 132 (fun h=>?_) (fun h=>?_)|refine sP 145 (fun h=>?_) (fun h=>?_)|refine qR ?_|refine qS ?_|exact ⟨rfl,rfl⟩|fail)
    all_goals first | (exfalso; omega)|exact Nx.pick [7,8,9,10,37,38,39] T41 rfl rfl (lg0 hn3 c') ⟨z',c',hz',hc',rfl,rfl⟩
   by_cases h2:own=2
   ·have hRt:=rootsN_tr c.m c.gl hc.hi nb F q hq q.n rfl hqn wh (fun j hj=>(hqx j hj).1)
    have hx6:=rt6_le (fun i=>atP c.m (wh i) (wh i)) q.n
    have hxi:∀ a∈rt6 (fun i=>atP c.m (wh i) (wh i)) q.n,inI a:=fun a ha=>by
     obtain ⟨j,hj,rfl⟩:=List.mem_map.1 ha
     have:=List.mem_range.1 hj
     exact (atP_in hc.hi.toHOk (wh j) (hqx j (by omega)).2)
    generalize rt6 (fun i=>atP c.m (wh i) (wh i)) q.n=x at *
    obtain ⟨e,c',hc',hPs,hDs⟩:=stop_both hn3 hc tt x hx6 hxi
    obtain ⟨z',b,hz',hb,hDs⟩:=hDs z hz
    have hP:=liftPx (z:=z) (o:=o) (own:=own) (tt:=tt) (q:=q) (nr:=q.n) hn3 hPs (vs:=[ptr 24,.int .i64 tt,slB 42 x.length]) rfl (stl_i e)
    have hD:=liftDx (z:=z) (z':=z') (o:=o) (own:=own) (tt:=tt) (q:=q) (nr:=q.n) hn3 hb hDs (vs:=[ptr 32,.int .i64 tt,slB 42 x.length]) rfl (stl_i e)
    repeat' (first|refine qN ?_|refine dN ?_|refine d0 ?_|refine qB ?_|refine qT ?_|refine qU ?_|refine qL ?_|refine qK ?_|refine qF ?_|refine qE ?_|refine iF (fun h=>?_) (fun h=>?_)|refine aX ?_|refine cArU (K2:=CL z n c c++[opB o own tt q q.n,gX x]) S24 hRt (fun y hy=>by cases List.mem_singleton.1 hy; exact ⟨rfl,0,rfl,List.mem_singleton.2 rfl⟩) rfl ?_|refine cWhU hP ?_|refine LSt.thin (cWhKU [7,8,9,10,37,38,39,70] hD ?_)|refine aA ?_|refine aI (hn:=?_)|refine aR ?_|refine sP 92 (fun h=>?_) (fun h=>?_)|refine sP 101 (fun h=>?_) (fun h=>?_)|refine sP 110 (fun h=>?_) (fun h=>?_)|refine sP 127 (fun h=>?_) (fun h=>?_)|refine sP 132 (fun h=>?_) (fun h=>?_)|refine sP 145 (fun h=>?_) (fun h=>?_)|refine qR ?_|refine qS ?_|exact ⟨rfl,rfl⟩|fail)
    all_goals first | (exfalso; omega) | (exfalso; exact h rfl)|exact Nx.pick [7,8,9,10,37,38,39] T41 rfl rfl (lg2 hn3 c' o own tt q q.n b) ⟨z',c',hz',hc',rfl,rfl⟩
   by_cases h3:own=3∨own=4
   ·obtain ⟨b,c',hc',hPc,hDc⟩:=step_both hn3 hi60 hc
    obtain ⟨z',hz',hDc⟩:=hDc z hz
    have hP:=liftP (z:=z) hn3 hPc (vs:=[ptr 24]) rfl (stl_b b)
    have hD:=liftD (z':=z') hn3 hDc (vs:=[ptr 32]) rfl (stl_b b)
    repeat' (first|refine qN ?_|refine dN ?_|refine dR ?_|refine d0 ?_|refine rT ?_|refine qT ?_|refine qU ?_|refine qL ?_|refine qK ?_|refine qF ?_|refine qE ?_|refine iF (fun h=>?_) (fun h=>?_)|refine aX ?_|refine aA ?_|refine aI (hn:=?_)|refine aR ?_|refine sP 92 (fun h=>?_) (fun h=>?_)|refine sP 101 (fun h=>?_) (fun h=>?_)|refine sP 110 (fun h=>?_) (fun h=>?_)|refine sP 127 (fun h=>?_) (fun h=>?_)|refine sP 132 (fun h=>?_) (fun h=>?_)|refine sP 145 (fun h=>?_) (fun h=>?_)|refine qR ?_|refine qS ?_|exact ⟨rfl,rfl⟩|fail)
    refine LWp.pick [7,8,9,10,37,38,39,47] T41 rfl rfl (lg1 hn3 c o own tt q q.n) (L_block ?_)
    repeat' (first|refine qN ?_|refine dN ?_|refine d0 ?_|refine qB ?_|refine qT ?_|refine qU ?_|refine qL ?_|refine qK ?_|refine qF ?_|refine qE ?_|refine iF (fun h=>?_) (fun h=>?_)|refine aX ?_|refine cWhU hP ?_|refine cWhU hD ?_|refine S_Q [] rfl rfl (QY.neqB rfl (by kernel_rfl) rfl rfl) ?_|refine aA ?_|refine aI (hn:=?_)|refine aR ?_|refine sP 92 (fun h=>?_) (fun h=>?_)|refine sP 101 (fun h=>?_) (fun h=>?_)|refine sP 110 (fun h=>?_) (fun h=>?_)|refine sP 127 (fun h=>?_) (fun h=>?_)|refine sP 132 (fun h=>?_) (fun h=>?_)|refine sP 145 (fun h=>?_) (fun h=>?_)|refine qR ?_|refine qS ?_|exact ⟨rfl,rfl⟩|fail)
    all_goals first | (exfalso; omega) | (exfalso; exact h rfl)|exact Nx.pick [7,8,9,10,37,38,39] T41 rfl rfl (lg0 hn3 c') ⟨z',c',hz',hc',rfl,rfl⟩
   ·have hH:=liftH (z:=z) hn3 hc.hi ho own tt q q.n
    have hc':=hc.step o true
    repeat' (first|refine qN ?_|refine dN ?_|refine d0 ?_|refine qB ?_|refine qT ?_|refine qU ?_|refine qL ?_|refine qK ?_|refine qF ?_|refine qE ?_|refine iF (fun h=>?_) (fun h=>?_)|refine aX ?_|refine cWhU hH ?_|refine aA ?_|refine aI (hn:=?_)|refine aR ?_|refine sP 92 (fun h=>?_) (fun h=>?_)|refine sP 101 (fun h=>?_) (fun h=>?_)|refine sP 110 (fun h=>?_) (fun h=>?_)|refine sP 127 (fun h=>?_) (fun h=>?_)|refine sP 132 (fun h=>?_) (fun h=>?_)|refine sP 145 (fun h=>?_) (fun h=>?_)|refine qR ?_|refine qS ?_|exact ⟨rfl,rfl⟩|fail)
    all_goals first | (exfalso; omega)|exact Nx.pick [7,8,9,10,37,38,39] T41 rfl rfl (lg1 hn3 _ o own tt q q.n) ⟨z,_,hz,hc',rfl,rfl⟩
  clear hc
  rintro _ _ ⟨z,c,hz,hc,rfl,rfl⟩
  have hPh:=liftR (z:=z) hn3 (cPhase_tr n hn3 c.kd c.m c.t c.ph c.a c.ct c.gn c.xs c.j c.k c.w) (vs:=[ptr 24]) rfl (stl_i _)
  have hCt:=liftR (z:=z) hn3 (cCount_tr n hn3 c.kd c.m c.t c.ph c.a c.ct c.gn c.xs c.j c.k c.w) (vs:=[ptr 24]) rfl (stl_i _)
  have hGn:=liftR (z:=z) hn3 (cGone_tr n hn3 c.kd c.m c.t c.ph c.a c.ct c.gn c.xs c.j c.k c.w) (vs:=[ptr 24]) rfl (stl_i _)
  have hAl:=liftR (z:=z) hn3 (qAll_tr n hn3 c.kd c.m c.t c.ph c.a c.ct c.gn c.xs c.j c.k c.w) (vs:=[ptr 24]) rfl (stl_b _)
  have hDA:=liftRd (z:=z) hn3 (qdAll_tr z n hn3 c.kd c.m c.gl c.t c.ph c.a c.ct c.gn c.st c.j c.dk c.w) (vs:=[ptr 32]) rfl (stl_b _)
  have hSp:=fun T:Int=>liftR (z:=z) hn3 (qStopped_tr n hn3 c.kd c.m c.t T c.ph c.a c.ct c.gn c.xs c.j c.k c.w) (vs:=[ptr 24,.int .i64 T]) rfl (stl_b _)
  repeat' (first|refine qN ?_|refine dN ?_|refine d0 ?_|refine qB ?_|refine qT ?_|refine qU ?_|refine qL ?_|refine qK ?_|refine qF ?_|refine qE ?_|refine iF (fun h=>?_) (fun h=>?_)|refine aX ?_|refine cWhU hPh ?_|refine cWhU hCt ?_|refine cWhU hGn ?_|refine cWhU hAl ?_|refine cWhU hDA ?_|refine S_Q [] rfl rfl (QY.neqB rfl (by kernel_rfl) rfl rfl) ?_|refine aA ?_|refine aI (hn:=?_)|refine aR ?_|refine sP 92 (fun h=>?_) (fun h=>?_)|refine sP 101 (fun h=>?_) (fun h=>?_)|refine sP 110 (fun h=>?_) (fun h=>?_)|refine sP 127 (fun h=>?_) (fun h=>?_)|refine sP 132 (fun h=>?_) (fun h=>?_)|refine sP 145 (fun h=>?_) (fun h=>?_)|refine qR ?_|refine qS ?_|exact ⟨rfl,rfl⟩|fail)
  all_goals try (exfalso; exact h rfl)
  refine LWp.pick [7,8,9,10,37,38,39,14] T41 rfl rfl (lg0 hn3 c) (L_loop (fun q l K=>∃ (s:Nat) (T:Int),q=n+2-s∧T=(s:Int)-1∧s≤n+2∧l=[(7,ptr 1),(8,.int .i64 n),(9,ptr 24),(10,ptr 32),(37,slB 0 nb),(38,.int .i64 nb),(39,.int .i64 i),(14,.int .i64 T)]∧K=CL z n c c) (n+2) ⟨0,-1,rfl,by omega,by omega,rfl,rfl⟩ ?_)
  clear hPh hCt hGn hAl hDA
  rintro q' _ _ ⟨s,T,rfl,hT,hs,rfl,rfl⟩
  have hST:=hSp T
  clear hSp
  by_cases hle:T≤n
  ·by_cases hT0:T<0
   ·obtain rfl:T = -1:=by omega
    repeat' (first|refine qN ?_|refine dN ?_|refine d0 ?_|refine qB ?_|refine qT ?_|refine qU ?_|refine qL ?_|refine qK ?_|refine qF ?_|refine qE ?_|refine iF (fun h=>?_) (fun h=>?_)|refine aX ?_|refine cWhU hST ?_|refine S_Q [] rfl rfl (QY.neqB rfl (by kernel_rfl) rfl rfl) ?_|refine aA ?_|refine aI (hn:=?_)|refine aR ?_|refine sP 92 (fun h=>?_) (fun h=>?_)|refine sP 101 (fun h=>?_) (fun h=>?_)|refine sP 110 (fun h=>?_) (fun h=>?_)|refine sP 127 (fun h=>?_) (fun h=>?_)|refine sP 132 (fun h=>?_) (fun h=>?_)|refine sP 145 (fun h=>?_) (fun h=>?_)|refine qR ?_|refine qS ?_|exact ⟨rfl,rfl⟩|fail)
    all_goals first | (exfalso; omega) | (exfalso; exact h rfl)|exact Nx.pick [7,8,9,10,37,38,39,14] T41 rfl rfl (lg0 hn3 c) ⟨_,by omega,s+1,_,rfl,by omega,by omega,rfl,rfl⟩
   ·obtain ⟨k,rfl⟩:=Int.eq_ofNat_of_zero_le (show 0≤T by omega)
    by_cases hk:k<n
    ·obtain ⟨rfl,rfl⟩ | ⟨rfl,rfl⟩ | ⟨rfl,rfl⟩ | ⟨rfl,rfl⟩ | ⟨rfl,rfl⟩ | ⟨rfl,rfl⟩:(n=1∧k=0)∨(n=2∧k=0)∨(n=2∧k=1)∨(n=3∧k=0)∨(n=3∧k=1)∨(n=3∧k=2):=by omega
     all_goals
      repeat' (first|refine qN ?_|refine dN ?_|refine d0 ?_|refine qB ?_|refine qT ?_|refine qU ?_|refine qL ?_|refine qK ?_|refine qF ?_|refine qE ?_|refine iF (fun h=>?_) (fun h=>?_)|refine aX ?_|refine cWhU hST ?_|refine S_Q [] rfl rfl (QY.neqB rfl (by kernel_rfl) rfl rfl) ?_|refine aA ?_|refine aI (hn:=?_)|refine aR ?_|refine sP 92 (fun h=>?_) (fun h=>?_)|refine sP 101 (fun h=>?_) (fun h=>?_)|refine sP 110 (fun h=>?_) (fun h=>?_)|refine sP 127 (fun h=>?_) (fun h=>?_)|refine sP 132 (fun h=>?_) (fun h=>?_)|refine sP 145 (fun h=>?_) (fun h=>?_)|refine qR ?_|refine qS ?_|exact ⟨rfl,rfl⟩|fail)
      all_goals first | (exfalso; omega) | (exfalso; exact h rfl)|exact Nx.pick [7,8,9,10,37,38,39,14] T41 rfl rfl (lg0 hn3 c) ⟨_,by omega,s+1,_,rfl,by omega,by omega,rfl,rfl⟩
    ·obtain rfl:k=n:=by omega
     rw [show stAt k c.t k=false by unfold stAt; rw [decide_eq_false (by omega),Bool.false_and]] at hST
     repeat' (first|refine qN ?_|refine dN ?_|refine d0 ?_|refine qB ?_|refine qT ?_|refine qU ?_|refine qL ?_|refine qK ?_|refine qF ?_|refine qE ?_|refine iF (fun h=>?_) (fun h=>?_)|refine aX ?_|refine cWhU hST ?_|refine S_Q [] rfl rfl (QY.neqB rfl (by kernel_rfl) rfl rfl) ?_|refine aA ?_|refine aI (hn:=?_)|refine aR ?_|refine sP 92 (fun h=>?_) (fun h=>?_)|refine sP 101 (fun h=>?_) (fun h=>?_)|refine sP 110 (fun h=>?_) (fun h=>?_)|refine sP 127 (fun h=>?_) (fun h=>?_)|refine sP 132 (fun h=>?_) (fun h=>?_)|refine sP 145 (fun h=>?_) (fun h=>?_)|refine qR ?_|refine qS ?_|exact ⟨rfl,rfl⟩|fail)
     all_goals first | (exfalso; omega) | (exfalso; exact h rfl)|exact Nx.pick [7,8,9,10,37,38,39,14] T41 rfl rfl (lg0 hn3 c) ⟨_,by omega,s+1,_,rfl,by omega,by omega,rfl,rfl⟩
  ·repeat' (first|refine qN ?_|refine dN ?_|refine d0 ?_|refine qB ?_|refine qT ?_|refine qU ?_|refine qL ?_|refine qK ?_|refine qF ?_|refine qE ?_|refine iF (fun h=>?_) (fun h=>?_)|refine aX ?_|refine aA ?_|refine aI (hn:=?_)|refine aR ?_|refine sP 92 (fun h=>?_) (fun h=>?_)|refine sP 101 (fun h=>?_) (fun h=>?_)|refine sP 110 (fun h=>?_) (fun h=>?_)|refine sP 127 (fun h=>?_) (fun h=>?_)|refine sP 132 (fun h=>?_) (fun h=>?_)|refine sP 145 (fun h=>?_) (fun h=>?_)|refine qR ?_|refine qS ?_|exact ⟨rfl,rfl⟩|fail)
   all_goals first | (exfalso; omega)|exact Nx.pick [7,8,9,10,37,38,39] T41 rfl rfl (lg0 hn3 c) ⟨nb-(i+1),by omega,i+1,z,c,rfl,by omega,by omega,hz,hc,rfl,rfl⟩
 ·refine Nx.goL ?_
  have hSm:=pSame_tr c.m c.gl hc.hi
  repeat' (first|refine qN ?_|refine dN ?_|refine dR ?_|refine d0 ?_|refine qB ?_|refine rT ?_|refine qT ?_|refine qU ?_|refine qL ?_|refine qK ?_|refine qF ?_|refine qE ?_|refine iF (fun h=>?_) (fun h=>?_)|refine aX ?_|refine cP Q23 (hSm) ?_|refine cP [] (hAw) ?_|refine aA ?_|refine aI (hn:=?_)|refine aR ?_|refine sP 92 (fun h=>?_) (fun h=>?_)|refine sP 101 (fun h=>?_) (fun h=>?_)|refine sP 110 (fun h=>?_) (fun h=>?_)|refine sP 127 (fun h=>?_) (fun h=>?_)|refine sP 132 (fun h=>?_) (fun h=>?_)|refine sP 145 (fun h=>?_) (fun h=>?_)|refine qR ?_|refine qS ?_|exact ⟨rfl,rfl⟩|fail)
  exact rfl
end Go.Proofs.YthmdialagibpfaaGreatDoor
end
section
namespace Go.Proofs.YthmdialagibpfaaGreatDoor
open Go Go.Tum Go.Tum.Base Go.Deep
abbrev opK:List CN:=[.c (some .i64),.c (some .i64),.c (some .i64),.c (some .i64),.c (some .i64),.c (some .i64),.c (some .i64),.c (some .u64),.c (some .i64),.c (some .i64),.c (some .i64),.c (some .i64),.s [.c (some .i64)]]
theorem op22_in {N:Nat} {F:Nat→List AV} {i:Nat} (hi:i<N) (hl:(F i).length=13) (h:∀ (j:Nat) (k:CN),opK[j]?=some k→∃ a,(F i)[j]?=some a∧CnOk 6 k a):∃ r:O22,r.Ok N F i:=by
 obtain ⟨a0,h0,v0,rfl,x0,rfl,w0⟩:=h 0 _ rfl
 obtain ⟨a1,h1,v1,rfl,x1,rfl,w1⟩:=h 1 _ rfl
 obtain ⟨a2,h2,v2,rfl,x2,rfl,w2⟩:=h 2 _ rfl
 obtain ⟨a3,h3,v3,rfl,x3,rfl,w3⟩:=h 3 _ rfl
 obtain ⟨a4,h4,v4,rfl,x4,rfl,w4⟩:=h 4 _ rfl
 obtain ⟨a5,h5,v5,rfl,x5,rfl,w5⟩:=h 5 _ rfl
 obtain ⟨a6,h6,v6,rfl,x6,rfl,w6⟩:=h 6 _ rfl
 obtain ⟨a7,h7,v7,rfl,x7,rfl,w7⟩:=h 7 _ rfl
 obtain ⟨a8,h8,v8,rfl,x8,rfl,w8⟩:=h 8 _ rfl
 obtain ⟨a9,h9,v9,rfl,x9,rfl,w9⟩:=h 9 _ rfl
 obtain ⟨a10,h10,v10,rfl,x10,rfl,w10⟩:=h 10 _ rfl
 obtain ⟨a11,h11,v11,rfl,x11,rfl,w11⟩:=h 11 _ rfl
 obtain ⟨a12,h12,b,o,n,c,G,rfl,hnc,hn9,hG⟩:=h 12 _ rfl
 have hx:∀ i,i<n→∃ x:Int,G i=[.v (.int .i64 x)]∧inI x:=fun i hi=>by
  obtain ⟨g1,g2⟩:=hG i hi
  obtain ⟨a',g3,v',rfl,x,rfl,hw⟩:=g2 0 _ rfl
  refine ⟨x,?_,Go.bounds_i64 hw⟩
  match hq:G i,g1,g3 with
  | [y],_,g3 =>
   simp at g3; rw [g3]
 obtain ⟨xs,hxs⟩:=choose_lt hx
 have b7:=Go.bounds_u64 w7
 have e7:((BitVec.ofNat 64 x7.toNat).toNat:Int)=x7:=by rw [BitVec.toNat_ofNat,Nat.mod_eq_of_lt (by omega)]; omega
 have hF:F i=[.v (.int .i64 x0),.v (.int .i64 x1),.v (.int .i64 x2),.v (.int .i64 x3),.v (.int .i64 x4),.v (.int .i64 x5),.v (.int .i64 x6),.v (.int .u64 x7),.v (.int .i64 x8),.v (.int .i64 x9),.v (.int .i64 x10),.v (.int .i64 x11),.s ⟨b,o,none⟩ n c (n*1) (rowF 1 G)]:=by
  match hq:F i,hl,h0,h1,h2,h3,h4,h5,h6,h7,h8,h9,h10,h11,h12 with
  | [y0,y1,y2,y3,y4,y5,y6,y7,y8,y9,y10,y11,y12],_,h0,h1,h2,h3,h4,h5,h6,h7,h8,h9,h10,h11,h12 =>
   simp at h0 h1 h2 h3 h4 h5 h6 h7 h8 h9 h10 h11 h12
   simp only [h0,h1,h2,h3,h4,h5,h6,h7,h8,h9,h10,h11,h12,Nat.mul_one]
 refine ⟨⟨⟨x0,x1,x2,x3,x4,x5,x6,BitVec.ofNat 64 x7.toNat,x8,x9⟩,x10,x11,⟨0,b,o,n,c,(List.range n).map xs⟩,xs⟩,⟨rowF 1 G,?_⟩,?_,?_,?_,?_⟩
 ·rw [hF]; simp only [Op18.cells,e7]; rfl
 ·have:=Go.bounds_i64 w1
  have:=Go.bounds_i64 w2
  have:=Go.bounds_i64 w3
  have:=Go.bounds_i64 w4
  have:=Go.bounds_i64 w5
  have:=Go.bounds_i64 w6
  simp only [Op18.In,inI]; omega
 ·intro n0 hA
  refine ⟨by simp,n,c,G,Nat.le_refl _,NA.Has.row (j:=12) hA hi (by rw [hF]; rfl) (by rw [hF]; rfl),fun j x hj=>?_⟩
  have hj2:=(List.getElem?_eq_some_iff.1 hj).1
  simp only [List.length_map,List.length_range] at hj2
  rw [(hxs j hj2).1]
  simp only [List.getElem?_map,List.getElem?_range hj2,Option.map_some,Option.some.injEq] at hj
  rw [hj]
 ·show n≤_; omega
 ·intro j hj
  have hj:j<n:=hj
  exact ⟨by simp only [List.getElem?_map,List.getElem?_range hj,Option.map_some],(hxs j hj).2⟩
theorem CyclePlays_does (w:World) (hw:DoorH (fun _=>False) w) (b th:Int) (hb:0≤b∧b<256) (hth:0≤th∧th<256) {v:Value} {n:Nat} {F:Nat→List AV} (hr:SlInN w 13 v n F)
  (hf:∀ i,i<n→(F i).length=13∧∀ (j:Nat) (k:CN),opK[j]?=some k→∃ a,(F i)[j]?=some a∧CnOk 6 k a) :
  Does Tryz.prog 3 #[.int .u8 b,.int .u8 th,v] w fun v w'=>v=.bool true∧Fr (fun _=>False) w w':=by
 obtain ⟨op,hop⟩:=choose_lt (n:=n) (p:=fun i (r:O22)=>r.Ok n F i) fun i hi=>op22_in hi (hf i hi).1 (hf i hi).2
 obtain ⟨hn,x,hr⟩:=hr
 obtain ⟨h1,h2⟩:=hr [x] 0 rfl
 exact (CyclePlays_tr b th hb hth n hn F op hop).law (vs':=[.int .u8 b,.int .u8 th,v]) [x] w rfl (by intro y hy; cases List.mem_singleton.1 hy; exact ⟨rfl,h2⟩) ⟨rfl,rfl,h1,trivial⟩ (DoorH.tab hw)
end Go.Proofs.YthmdialagibpfaaGreatDoor
end
