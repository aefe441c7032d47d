/-
  What the proof leans on, part 6: of the texts Tab, BaseC, LargeC, BitsC, Lw19, Lw20, Lw26, Lw32, Lw33, Lw34, Lw23, Lw28, Lw35, Lw36, Lw37, SlabM.
-/
import Derived.Test.YtgfjgfapigekiaaGreatPkE
import Derived.Lib.AppendZerosOnto
import Derived.Lib.Overlaps
set_option linter.unusedVariables false
set_option linter.unusedSimpArgs false
set_option linter.unusedSectionVars false
section
namespace Go.Proofs.YtgfjgfapigekiaaGreat
open Go Go.Tum
def isTmpR:RV→Bool
 | .tmp _=>true
 | _=>false
theorem rowKit {k np:Nat} {res:List RV} {m:MC} {fn:Func} (e:EOk k np m fn) (h1:callable Tryz.prog k=true:=by kernel_rfl) (h2:Nat.ble res.length 4=true:=by exact rfl) (h3:fn.results=(res.map RV.real).toArray:=by exact rfl) (h4:res.all isTmpR=true:=by exact rfl):FnRow.Ok Tryz.prog ⟨k,np,res,m⟩ :=
 ⟨h1,fn,Nat.le_of_ble_eq_true h2,h3,fun r hr=>(by have:=List.all_eq_true.1 h4 r hr; cases r with | tmp _=>exact trivial | cell _ _ _=>cases this),fun _ _ _ hn h=>e hn h⟩
def row_tumbrellaw09_RegionPlaces:FnRow:=⟨3,105,[(.tmp 6)],m_tumbrellaw09_RegionPlaces⟩
def row_tumbrellaw09_RegionEmpties:FnRow:=⟨4,116,[(.tmp 6)],m_tumbrellaw09_RegionEmpties⟩
def row_tumbrellaw09_RegionApart:FnRow:=⟨5,148,[(.tmp 8)],m_tumbrellaw09_RegionApart⟩
def row_tumbrellaw10_FaultExact:FnRow:=⟨6,174,[(.tmp 4)],m_tumbrellaw10_FaultExact⟩
theorem row_tumbrellaw10_FaultExact_ok:row_tumbrellaw10_FaultExact.Ok Tryz.prog:=rowKit e_tumbrellaw10_FaultExact
def row_tumbrellaw10_FaultPlays:FnRow:=⟨7,206,[(.tmp 8)],m_tumbrellaw10_FaultPlays⟩
def row_tumbrellaw09_Make:FnRow:=⟨8,30,[(.tmp 6)],m_tumbrellaw09_Make⟩
theorem row_tumbrellaw09_Make_ok:row_tumbrellaw09_Make.Ok Tryz.prog:=rowKit e_tumbrellaw09_Make
def row_tumbrellaw09_Pair_Step:FnRow:=⟨9,367,[(.tmp 6)],m_tumbrellaw09_Pair_Step⟩
theorem row_tumbrellaw09_Pair_Step_ok:row_tumbrellaw09_Pair_Step.Ok Tryz.prog:=rowKit e_tumbrellaw09_Pair_Step
def row_region_Region_Find:FnRow:=⟨10,73,[(.cell 4 31 6),(.tmp 5)],m_region_Region_Find⟩
theorem row_region_Region_Find_ok:row_region_Region_Find.Ok Tryz.prog:=⟨(by kernel_rfl:callable Tryz.prog 10=true),Tryz.f10,Nat.le_of_ble_eq_true rfl,rfl,fun r hr=>(by rcases List.mem_cons.1 hr with rfl | hr; exact (by show aggT Tryz.prog 31=some 6; kernel_rfl); exact (by rcases List.mem_cons.1 hr with rfl | hr; exact trivial; exact (by cases hr))),fun _ _ _ hn h=>e_region_Region_Find hn h⟩
def row_region_Region_Pages:FnRow:=⟨11,9,[(.tmp 2)],m_region_Region_Pages⟩
theorem row_region_Region_Pages_ok:row_region_Region_Pages.Ok Tryz.prog:=rowKit e_region_Region_Pages
def row_pages_Table_Row:FnRow:=⟨12,21,[(.cell 4 39 4)],m_pages_Table_Row⟩
theorem row_pages_Table_Row_ok:row_pages_Table_Row.Ok Tryz.prog:=⟨(by kernel_rfl:callable Tryz.prog 12=true),Tryz.f12,Nat.le_of_ble_eq_true rfl,rfl,fun r hr=>(by rcases List.mem_cons.1 hr with rfl | hr; exact (by show aggT Tryz.prog 39=some 4; kernel_rfl); exact (by cases hr)),fun _ _ _ hn h=>e_pages_Table_Row hn h⟩
def row_tumbrellaw09_awake:FnRow:=⟨13,82,[(.tmp 0)],m_tumbrellaw09_awake⟩
def row_region_Region_Live:FnRow:=⟨14,62,[(.tmp 2)],m_region_Region_Live⟩
theorem row_region_Region_Live_ok:row_region_Region_Live.Ok Tryz.prog:=rowKit e_region_Region_Live
def row_region_Region_Drop:FnRow:=⟨15,51,[(.tmp 4),(.tmp 5)],m_region_Region_Drop⟩
theorem row_region_Region_Drop_ok:row_region_Region_Drop.Ok Tryz.prog:=rowKit e_region_Region_Drop
def row_region_Region_Give:FnRow:=⟨16,27,[(.tmp 4)],m_region_Region_Give⟩
theorem row_region_Region_Give_ok:row_region_Region_Give.Ok Tryz.prog:=rowKit e_region_Region_Give
def row_region_Region_Shut:FnRow:=⟨17,32,[(.tmp 4)],m_region_Region_Shut⟩
theorem row_region_Region_Shut_ok:row_region_Region_Shut.Ok Tryz.prog:=rowKit e_region_Region_Shut
def row_pages_Table_Count:FnRow:=⟨18,37,[(.tmp 8)],m_pages_Table_Count⟩
def row_region_Region_Arena:FnRow:=⟨19,9,[(.tmp 2)],m_region_Region_Arena⟩
theorem row_region_Region_Arena_ok:row_region_Region_Arena.Ok Tryz.prog:=rowKit e_region_Region_Arena
def row_arena_Arena_Store:FnRow:=⟨20,24,[(.tmp 6)],m_arena_Arena_Store⟩
def row_region_Region_Check:FnRow:=⟨21,31,[(.tmp 2)],m_region_Region_Check⟩
def row_fault_New:FnRow:=⟨22,9,[(.tmp 2)],m_fault_New⟩
theorem row_fault_New_ok:row_fault_New.Ok Tryz.prog:=rowKit e_fault_New
def row_tumbrellaw10_has:FnRow:=⟨23,18,[(.tmp 4)],m_tumbrellaw10_has⟩
theorem row_tumbrellaw10_has_ok:row_tumbrellaw10_has.Ok Tryz.prog:=rowKit e_tumbrellaw10_has
def row_fault_Ledger_Dropped:FnRow:=⟨24,23,[(.tmp 4)],m_fault_Ledger_Dropped⟩
theorem row_fault_Ledger_Dropped_ok:row_fault_Ledger_Dropped.Ok Tryz.prog:=rowKit e_fault_Ledger_Dropped
def row_fault_Ledger_Took:FnRow:=⟨25,48,[(.tmp 4)],m_fault_Ledger_Took⟩
theorem row_fault_Ledger_Took_ok:row_fault_Ledger_Took.Ok Tryz.prog:=rowKit e_fault_Ledger_Took
def row_fault_Ledger_Fault:FnRow:=⟨26,50,[(.tmp 4)],m_fault_Ledger_Fault⟩
theorem row_fault_Ledger_Fault_ok:row_fault_Ledger_Fault.Ok Tryz.prog:=rowKit e_fault_Ledger_Fault
def row_tumbrellaw10_awake:FnRow:=⟨27,108,[(.tmp 0)],m_tumbrellaw10_awake⟩
theorem row_tumbrellaw10_awake_ok:row_tumbrellaw10_awake.Ok Tryz.prog:=rowKit e_tumbrellaw10_awake
def row_tumbrelref10_New:FnRow:=⟨28,12,[(.tmp 2)],m_tumbrelref10_New⟩
def row_tumbrelref10_Ledger_Took:FnRow:=⟨29,44,[(.tmp 4)],m_tumbrelref10_Ledger_Took⟩
def row_tumbrelref10_Ledger_Dropped:FnRow:=⟨30,29,[(.tmp 4)],m_tumbrelref10_Ledger_Dropped⟩
def row_fault_Ledger_Note:FnRow:=⟨31,35,[],m_fault_Ledger_Note⟩
def row_tumbrelref10_Ledger_Fault:FnRow:=⟨32,65,[(.tmp 4)],m_tumbrelref10_Ledger_Fault⟩
def row_fault_Ledger_Gone:FnRow:=⟨33,11,[(.tmp 2)],m_fault_Ledger_Gone⟩
def row_fault_Ledger_Reports:FnRow:=⟨34,10,[(.tmp 2)],m_fault_Ledger_Reports⟩
def row_region_New:FnRow:=⟨35,59,[(.tmp 2),(.tmp 3)],m_region_New⟩
theorem row_region_New_ok:row_region_New.Ok Tryz.prog:=rowKit e_region_New
def row_tumbrelref09_New:FnRow:=⟨36,38,[(.tmp 6)],m_tumbrelref09_New⟩
theorem row_tumbrelref09_New_ok:row_tumbrelref09_New.Ok Tryz.prog:=rowKit e_tumbrelref09_New
def row_tumbrellaw09_Pair_at:FnRow:=⟨37,58,[(.tmp 4)],m_tumbrellaw09_Pair_at⟩
theorem row_tumbrellaw09_Pair_at_ok:row_tumbrellaw09_Pair_at.Ok Tryz.prog:=rowKit e_tumbrellaw09_Pair_at
def row_region_Region_Open:FnRow:=⟨38,70,[(.tmp 6),(.tmp 7)],m_region_Region_Open⟩
theorem row_region_Region_Open_ok:row_region_Region_Open.Ok Tryz.prog:=rowKit e_region_Region_Open
def row_tumbrelref09_Region_Open:FnRow:=⟨39,70,[(.tmp 6),(.tmp 7)],m_tumbrelref09_Region_Open⟩
theorem row_tumbrelref09_Region_Open_ok:row_tumbrelref09_Region_Open.Ok Tryz.prog:=rowKit e_tumbrelref09_Region_Open
def row_region_Region_Take:FnRow:=⟨40,29,[(.tmp 4),(.tmp 5)],m_region_Region_Take⟩
theorem row_region_Region_Take_ok:row_region_Region_Take.Ok Tryz.prog:=rowKit e_region_Region_Take
def row_tumbrelref09_Region_Take:FnRow:=⟨41,40,[(.tmp 4),(.tmp 5)],m_tumbrelref09_Region_Take⟩
theorem row_tumbrelref09_Region_Take_ok:row_tumbrelref09_Region_Take.Ok Tryz.prog:=rowKit e_tumbrelref09_Region_Take
def row_tumbrelref09_Region_Drop:FnRow:=⟨42,91,[(.tmp 4),(.tmp 5)],m_tumbrelref09_Region_Drop⟩
theorem row_tumbrelref09_Region_Drop_ok:row_tumbrelref09_Region_Drop.Ok Tryz.prog:=rowKit e_tumbrelref09_Region_Drop
def row_tumbrelref09_Region_Give:FnRow:=⟨43,43,[(.tmp 4)],m_tumbrelref09_Region_Give⟩
theorem row_tumbrelref09_Region_Give_ok:row_tumbrelref09_Region_Give.Ok Tryz.prog:=rowKit e_tumbrelref09_Region_Give
def row_tumbrelref09_Region_Shut:FnRow:=⟨44,31,[(.tmp 4)],m_tumbrelref09_Region_Shut⟩
theorem row_tumbrelref09_Region_Shut_ok:row_tumbrelref09_Region_Shut.Ok Tryz.prog:=rowKit e_tumbrelref09_Region_Shut
def row_region_Region_Great:FnRow:=⟨45,46,[(.tmp 4),(.tmp 5)],m_region_Region_Great⟩
theorem row_region_Region_Great_ok:row_region_Region_Great.Ok Tryz.prog:=rowKit e_region_Region_Great
def row_tumbrelref09_Region_Great:FnRow:=⟨46,66,[(.tmp 4),(.tmp 5)],m_tumbrelref09_Region_Great⟩
theorem row_tumbrelref09_Region_Great_ok:row_tumbrelref09_Region_Great.Ok Tryz.prog:=rowKit e_tumbrelref09_Region_Great
def row_tumbrelref09_Region_Find:FnRow:=⟨47,91,[(.cell 4 93 6),(.tmp 5)],m_tumbrelref09_Region_Find⟩
theorem row_tumbrelref09_Region_Find_ok:row_tumbrelref09_Region_Find.Ok Tryz.prog:=⟨(by kernel_rfl:callable Tryz.prog 47=true),Tryz.f47,Nat.le_of_ble_eq_true rfl,rfl,fun r hr=>(by rcases List.mem_cons.1 hr with rfl | hr; exact (by show aggT Tryz.prog 93=some 6; kernel_rfl); exact (by rcases List.mem_cons.1 hr with rfl | hr; exact trivial; exact (by cases hr))),fun _ _ _ hn h=>e_tumbrelref09_Region_Find hn h⟩
def row_tumbrellaw09_like:FnRow:=⟨48,45,[(.tmp 4)],m_tumbrellaw09_like⟩
theorem row_tumbrellaw09_like_ok:row_tumbrellaw09_like.Ok Tryz.prog:=rowKit e_tumbrellaw09_like
def row_region_Region_Home:FnRow:=⟨49,40,[(.tmp 6),(.tmp 7)],m_region_Region_Home⟩
theorem row_region_Region_Home_ok:row_region_Region_Home.Ok Tryz.prog:=rowKit e_region_Region_Home
def row_tumbrelref09_Region_Home:FnRow:=⟨50,50,[(.tmp 6)],m_tumbrelref09_Region_Home⟩
theorem row_tumbrelref09_Region_Home_ok:row_tumbrelref09_Region_Home.Ok Tryz.prog:=rowKit e_tumbrelref09_Region_Home
def row_region_Region_Owner:FnRow:=⟨51,21,[(.tmp 4)],m_region_Region_Owner⟩
theorem row_region_Region_Owner_ok:row_region_Region_Owner.Ok Tryz.prog:=rowKit e_region_Region_Owner
def row_tumbrelref09_Region_Owner:FnRow:=⟨52,38,[(.tmp 4)],m_tumbrelref09_Region_Owner⟩
theorem row_tumbrelref09_Region_Owner_ok:row_tumbrelref09_Region_Owner.Ok Tryz.prog:=rowKit e_tumbrelref09_Region_Owner
def row_arena_Arena_Len:FnRow:=⟨53,10,[(.tmp 2)],m_arena_Arena_Len⟩
theorem row_arena_Arena_Len_ok:row_arena_Arena_Len.Ok Tryz.prog:=rowKit e_arena_Arena_Len
def row_region_Region_slab:FnRow:=⟨54,13,[(.tmp 4)],m_region_Region_slab⟩
theorem row_region_Region_slab_ok:row_region_Region_slab.Ok Tryz.prog:=rowKit e_region_Region_slab
def row_class_Slot:FnRow:=⟨55,24,[(.tmp 4),(.tmp 5)],m_class_Slot⟩
theorem row_class_Slot_ok:row_class_Slot.Ok Tryz.prog:=rowKit e_class_Slot
def row_slab_Slab_Class:FnRow:=⟨56,9,[(.tmp 2)],m_slab_Slab_Class⟩
theorem row_slab_Slab_Class_ok:row_slab_Slab_Class.Ok Tryz.prog:=rowKit e_slab_Slab_Class
def row_region_Region_place:FnRow:=⟨57,23,[(.cell 6 31 6)],m_region_Region_place⟩
theorem row_region_Region_place_ok:row_region_Region_place.Ok Tryz.prog:=⟨(by kernel_rfl:callable Tryz.prog 57=true),Tryz.f57,Nat.le_of_ble_eq_true rfl,rfl,fun r hr=>(by rcases List.mem_cons.1 hr with rfl | hr; exact (by show aggT Tryz.prog 31=some 6; kernel_rfl); exact (by cases hr)),fun _ _ _ hn h=>e_region_Region_place hn h⟩
def row_pages_Table_Head:FnRow:=⟨58,19,[(.tmp 4),(.tmp 5)],m_pages_Table_Head⟩
theorem row_pages_Table_Head_ok:row_pages_Table_Head.Ok Tryz.prog:=rowKit e_pages_Table_Head
def row_large_Set_Size:FnRow:=⟨59,13,[(.tmp 4)],m_large_Set_Size⟩
theorem row_large_Set_Size_ok:row_large_Set_Size.Ok Tryz.prog:=rowKit e_large_Set_Size
def row_pages_Table_Len:FnRow:=⟨60,10,[(.tmp 2)],m_pages_Table_Len⟩
theorem row_pages_Table_Len_ok:row_pages_Table_Len.Ok Tryz.prog:=rowKit e_pages_Table_Len
def row_class_Slots:FnRow:=⟨61,9,[(.tmp 2)],m_class_Slots⟩
theorem row_class_Slots_ok:row_class_Slots.Ok Tryz.prog:=rowKit e_class_Slots
def row_slab_Slab_State:FnRow:=⟨62,35,[(.tmp 4)],m_slab_Slab_State⟩
theorem row_slab_Slab_State_ok:row_slab_Slab_State.Ok Tryz.prog:=rowKit e_slab_Slab_State
def row_region_Region_base:FnRow:=⟨63,27,[(.cell 4 31 6),(.tmp 5)],m_region_Region_base⟩
theorem row_region_Region_base_ok:row_region_Region_base.Ok Tryz.prog:=⟨(by kernel_rfl:callable Tryz.prog 63=true),Tryz.f63,Nat.le_of_ble_eq_true rfl,rfl,fun r hr=>(by rcases List.mem_cons.1 hr with rfl | hr; exact (by show aggT Tryz.prog 31=some 6; kernel_rfl); exact (by rcases List.mem_cons.1 hr with rfl | hr; exact trivial; exact (by cases hr))),fun _ _ _ hn h=>e_region_Region_base hn h⟩
def row_slab_Slab_Drop:FnRow:=⟨64,43,[(.tmp 4),(.tmp 5)],m_slab_Slab_Drop⟩
theorem row_slab_Slab_Drop_ok:row_slab_Slab_Drop.Ok Tryz.prog:=rowKit e_slab_Slab_Drop
def row_large_Set_Drop:FnRow:=⟨65,41,[(.tmp 4),(.tmp 5)],m_large_Set_Drop⟩
theorem row_large_Set_Drop_ok:row_large_Set_Drop.Ok Tryz.prog:=rowKit e_large_Set_Drop
def row_pages_Table_Unmap:FnRow:=⟨66,26,[(.tmp 4)],m_pages_Table_Unmap⟩
theorem row_pages_Table_Unmap_ok:row_pages_Table_Unmap.Ok Tryz.prog:=rowKit e_pages_Table_Unmap
def row_slab_Slab_Give:FnRow:=⟨67,21,[(.tmp 4)],m_slab_Slab_Give⟩
theorem row_slab_Slab_Give_ok:row_slab_Slab_Give.Ok Tryz.prog:=rowKit e_slab_Slab_Give
def row_slab_Slab_Count:FnRow:=⟨68,26,[(.tmp 4)],m_slab_Slab_Count⟩
theorem row_slab_Slab_Count_ok:row_slab_Slab_Count.Ok Tryz.prog:=rowKit e_slab_Slab_Count
def row_pages_Table_cut:FnRow:=⟨69,18,[(.tmp 6),(.tmp 7)],m_pages_Table_cut⟩
theorem row_pages_Table_cut_ok:row_pages_Table_cut.Ok Tryz.prog:=rowKit e_pages_Table_cut
def row_arena_Arena_in:FnRow:=⟨70,37,[(.tmp 6)],m_arena_Arena_in⟩
theorem row_arena_Arena_in_ok:row_arena_Arena_in.Ok Tryz.prog:=rowKit e_arena_Arena_in
def row_slab_Slab_Check:FnRow:=⟨71,39,[(.tmp 2)],m_slab_Slab_Check⟩
def row_large_Set_Check:FnRow:=⟨72,19,[(.tmp 2)],m_large_Set_Check⟩
def row_fault_Ledger_manual:FnRow:=⟨73,18,[(.tmp 4)],m_fault_Ledger_manual⟩
theorem row_fault_Ledger_manual_ok:row_fault_Ledger_manual.Ok Tryz.prog:=rowKit e_fault_Ledger_manual
def row_fault_Ledger_live:FnRow:=⟨74,24,[(.cell 4 31 6),(.tmp 5)],m_fault_Ledger_live⟩
theorem row_fault_Ledger_live_ok:row_fault_Ledger_live.Ok Tryz.prog:=⟨(by kernel_rfl:callable Tryz.prog 74=true),Tryz.f74,Nat.le_of_ble_eq_true rfl,rfl,fun r hr=>(by rcases List.mem_cons.1 hr with rfl | hr; exact (by show aggT Tryz.prog 31=some 6; kernel_rfl); exact (by rcases List.mem_cons.1 hr with rfl | hr; exact trivial; exact (by cases hr))),fun _ _ _ hn h=>e_fault_Ledger_live hn h⟩
def row_fault_end:FnRow:=⟨75,18,[(.tmp 2)],m_fault_end⟩
theorem row_fault_end_ok:row_fault_end.Ok Tryz.prog:=rowKit e_fault_end
def row_tumbrelref10_bytes:FnRow:=⟨76,12,[(.tmp 2)],m_tumbrelref10_bytes⟩
def row_slices_Sorted_int_:FnRow:=⟨77,9,[(.tmp 2)],m_slices_Sorted_int_⟩
def row_maps_Keys_map_int_bool_int_bool_:FnRow:=⟨78,4,[(.tmp 2)],m_maps_Keys_map_int_bool_int_bool_⟩
def row_slices_Clone_fault_Report_fault_Report_:FnRow:=⟨79,8,[(.tmp 2)],m_slices_Clone_fault_Report_fault_Report_⟩
def row_arena_New:FnRow:=⟨80,10,[(.tmp 2)],m_arena_New⟩
theorem row_arena_New_ok:row_arena_New.Ok Tryz.prog:=rowKit e_arena_New
def row_link_New:FnRow:=⟨81,7,[(.cell 2 102 1)],m_link_New⟩
theorem row_link_New_ok:row_link_New.Ok Tryz.prog:=⟨(by kernel_rfl:callable Tryz.prog 81=true),Tryz.f81,Nat.le_of_ble_eq_true rfl,rfl,fun r hr=>(by rcases List.mem_cons.1 hr with rfl | hr; exact (by show aggT Tryz.prog 102=some 1; kernel_rfl); exact (by cases hr)),fun _ _ _ hn h=>e_link_New hn h⟩
def row_pages_New:FnRow:=⟨82,9,[(.tmp 2)],m_pages_New⟩
theorem row_pages_New_ok:row_pages_New.Ok Tryz.prog:=rowKit e_pages_New
def row_large_New:FnRow:=⟨83,12,[(.tmp 4)],m_large_New⟩
theorem row_large_New_ok:row_large_New.Ok Tryz.prog:=rowKit e_large_New
def row_tumbrelref06_Key:FnRow:=⟨84,6,[(.tmp 2)],m_tumbrelref06_Key⟩
theorem row_tumbrelref06_Key_ok:row_tumbrelref06_Key.Ok Tryz.prog:=rowKit e_tumbrelref06_Key
def row_tumbrelref04_New:FnRow:=⟨85,9,[(.tmp 2)],m_tumbrelref04_New⟩
theorem row_tumbrelref04_New_ok:row_tumbrelref04_New.Ok Tryz.prog:=rowKit e_tumbrelref04_New
def row_class_Size:FnRow:=⟨86,8,[(.tmp 2)],m_class_Size⟩
theorem row_class_Size_ok:row_class_Size.Ok Tryz.prog:=rowKit e_class_Size
def row_pages_Table_Map:FnRow:=⟨87,73,[(.tmp 8),(.tmp 9)],m_pages_Table_Map⟩
theorem row_pages_Table_Map_ok:row_pages_Table_Map.Ok Tryz.prog:=rowKit e_pages_Table_Map
def row_slab_Make:FnRow:=⟨88,55,[(.tmp 10),(.tmp 11)],m_slab_Make⟩
theorem row_slab_Make_ok:row_slab_Make.Ok Tryz.prog:=rowKit e_slab_Make
def row_tumbrelref05_Size:FnRow:=⟨89,12,[(.tmp 2)],m_tumbrelref05_Size⟩
theorem row_tumbrelref05_Size_ok:row_tumbrelref05_Size.Ok Tryz.prog:=rowKit e_tumbrelref05_Size
def row_tumbrelref04_Place:FnRow:=⟨90,49,[(.tmp 8)],m_tumbrelref04_Place⟩
theorem row_tumbrelref04_Place_ok:row_tumbrelref04_Place.Ok Tryz.prog:=rowKit e_tumbrelref04_Place
def row_tumbrelref04_Lay:FnRow:=⟨91,30,[(.tmp 6)],m_tumbrelref04_Lay⟩
theorem row_tumbrelref04_Lay_ok:row_tumbrelref04_Lay.Ok Tryz.prog:=rowKit e_tumbrelref04_Lay
def row_tumbrelref07_Make:FnRow:=⟨92,37,[(.tmp 8)],m_tumbrelref07_Make⟩
theorem row_tumbrelref07_Make_ok:row_tumbrelref07_Make.Ok Tryz.prog:=rowKit e_tumbrelref07_Make
def row_tumbrelref09_Region_with:FnRow:=⟨93,21,[],m_tumbrelref09_Region_with⟩
theorem row_tumbrelref09_Region_with_ok:row_tumbrelref09_Region_with.Ok Tryz.prog:=rowKit e_tumbrelref09_Region_with
def row_slab_Slab_Take:FnRow:=⟨94,80,[(.tmp 2),(.tmp 3)],m_slab_Slab_Take⟩
theorem row_slab_Slab_Take_ok:row_slab_Slab_Take.Ok Tryz.prog:=rowKit e_slab_Slab_Take
def row_class_Base:FnRow:=⟨95,30,[(.tmp 6)],m_class_Base⟩
theorem row_class_Base_ok:row_class_Base.Ok Tryz.prog:=rowKit e_class_Base
def row_tumbrelref09_Region_slab:FnRow:=⟨96,52,[(.tmp 4)],m_tumbrelref09_Region_slab⟩
theorem row_tumbrelref09_Region_slab_ok:row_tumbrelref09_Region_slab.Ok Tryz.prog:=rowKit e_tumbrelref09_Region_slab
def row_tumbrelref07_Slab_Take:FnRow:=⟨97,66,[(.tmp 2),(.tmp 3)],m_tumbrelref07_Slab_Take⟩
theorem row_tumbrelref07_Slab_Take_ok:row_tumbrelref07_Slab_Take.Ok Tryz.prog:=rowKit e_tumbrelref07_Slab_Take
def row_tumbrelref08_Set_Drop:FnRow:=⟨98,51,[(.tmp 4),(.tmp 5)],m_tumbrelref08_Set_Drop⟩
theorem row_tumbrelref08_Set_Drop_ok:row_tumbrelref08_Set_Drop.Ok Tryz.prog:=rowKit e_tumbrelref08_Set_Drop
def row_tumbrelref04_Clear:FnRow:=⟨99,29,[(.tmp 4)],m_tumbrelref04_Clear⟩
theorem row_tumbrelref04_Clear_ok:row_tumbrelref04_Clear.Ok Tryz.prog:=rowKit e_tumbrelref04_Clear
def row_tumbrelref07_Slab_Drop:FnRow:=⟨100,47,[(.tmp 4),(.tmp 5)],m_tumbrelref07_Slab_Drop⟩
theorem row_tumbrelref07_Slab_Drop_ok:row_tumbrelref07_Slab_Drop.Ok Tryz.prog:=rowKit e_tumbrelref07_Slab_Drop
def row_tumbrelref07_Slab_Give:FnRow:=⟨101,24,[(.tmp 4)],m_tumbrelref07_Slab_Give⟩
theorem row_tumbrelref07_Slab_Give_ok:row_tumbrelref07_Slab_Give.Ok Tryz.prog:=rowKit e_tumbrelref07_Slab_Give
def row_tumbrelref07_Slab_Count:FnRow:=⟨102,24,[(.tmp 4)],m_tumbrelref07_Slab_Count⟩
theorem row_tumbrelref07_Slab_Count_ok:row_tumbrelref07_Slab_Count.Ok Tryz.prog:=rowKit e_tumbrelref07_Slab_Count
def row_class_Pages:FnRow:=⟨103,16,[(.tmp 2),(.tmp 3)],m_class_Pages⟩
theorem row_class_Pages_ok:row_class_Pages.Ok Tryz.prog:=rowKit e_class_Pages
def row_large_Set_Make:FnRow:=⟨104,71,[(.tmp 6)],m_large_Set_Make⟩
theorem row_large_Set_Make_ok:row_large_Set_Make.Ok Tryz.prog:=rowKit e_large_Set_Make
def row_tumbrelref05_Pages:FnRow:=⟨105,18,[(.tmp 2)],m_tumbrelref05_Pages⟩
theorem row_tumbrelref05_Pages_ok:row_tumbrelref05_Pages.Ok Tryz.prog:=rowKit e_tumbrelref05_Pages
def row_tumbrelref08_Set_Make:FnRow:=⟨106,136,[(.tmp 6)],m_tumbrelref08_Set_Make⟩
theorem row_tumbrelref08_Set_Make_ok:row_tumbrelref08_Set_Make.Ok Tryz.prog:=rowKit e_tumbrelref08_Set_Make
def row_tumbrelref09_Region_place:FnRow:=⟨107,42,[(.cell 6 93 6)],m_tumbrelref09_Region_place⟩
theorem row_tumbrelref09_Region_place_ok:row_tumbrelref09_Region_place.Ok Tryz.prog:=⟨(by kernel_rfl:callable Tryz.prog 107=true),Tryz.f107,Nat.le_of_ble_eq_true rfl,rfl,fun r hr=>(by rcases List.mem_cons.1 hr with rfl | hr; exact (by show aggT Tryz.prog 93=some 6; kernel_rfl); exact (by cases hr)),fun _ _ _ hn h=>e_tumbrelref09_Region_place hn h⟩
def row_slab_Slab_Owner:FnRow:=⟨108,9,[(.tmp 2)],m_slab_Slab_Owner⟩
theorem row_slab_Slab_Owner_ok:row_slab_Slab_Owner.Ok Tryz.prog:=rowKit e_slab_Slab_Owner
def row_class_may:FnRow:=⟨109,9,[(.tmp 2)],m_class_may⟩
theorem row_class_may_ok:row_class_may.Ok Tryz.prog:=rowKit e_class_may
def row_slab_Slab_Page:FnRow:=⟨110,9,[(.tmp 2)],m_slab_Slab_Page⟩
theorem row_slab_Slab_Page_ok:row_slab_Slab_Page.Ok Tryz.prog:=rowKit e_slab_Slab_Page
def row_class_Room:FnRow:=⟨111,7,[(.tmp 2)],m_class_Room⟩
theorem row_class_Room_ok:row_class_Room.Ok Tryz.prog:=rowKit e_class_Room
def row_pages_Row_first:FnRow:=⟨112,16,[(.tmp 2)],m_pages_Row_first⟩
theorem row_pages_Row_first_ok:row_pages_Row_first.Ok Tryz.prog:=rowKit e_pages_Row_first
def row_bitset_Set_Len:FnRow:=⟨113,9,[(.tmp 2)],m_bitset_Set_Len⟩
theorem row_bitset_Set_Len_ok:row_bitset_Set_Len.Ok Tryz.prog:=rowKit e_bitset_Set_Len
def row_bitset_Set_Has:FnRow:=⟨114,23,[(.tmp 4)],m_bitset_Set_Has⟩
theorem row_bitset_Set_Has_ok:row_bitset_Set_Has.Ok Tryz.prog:=rowKit e_bitset_Set_Has
def row_slab_Slab_must:FnRow:=⟨115,21,[(.tmp 6)],m_slab_Slab_must⟩
theorem row_slab_Slab_must_ok:row_slab_Slab_must.Ok Tryz.prog:=rowKit e_slab_Slab_must
def row_slab_Slab_stands:FnRow:=⟨116,31,[(.tmp 4)],m_slab_Slab_stands⟩
theorem row_slab_Slab_stands_ok:row_slab_Slab_stands.Ok Tryz.prog:=rowKit e_slab_Slab_stands
def row_arena_Arena_Fill:FnRow:=⟨117,33,[(.tmp 8)],m_arena_Arena_Fill⟩
theorem row_arena_Arena_Fill_ok:row_arena_Arena_Fill.Ok Tryz.prog:=rowKit e_arena_Arena_Fill
def row_slab_Slab_base:FnRow:=⟨118,15,[(.tmp 4)],m_slab_Slab_base⟩
theorem row_slab_Slab_base_ok:row_slab_Slab_base.Ok Tryz.prog:=rowKit e_slab_Slab_base
def row_bitset_Set_Put:FnRow:=⟨119,43,[(.tmp 6)],m_bitset_Set_Put⟩
theorem row_bitset_Set_Put_ok:row_bitset_Set_Put.Ok Tryz.prog:=rowKit e_bitset_Set_Put
def row_large_Set_stands:FnRow:=⟨120,37,[(.tmp 4)],m_large_Set_stands⟩
theorem row_large_Set_stands_ok:row_large_Set_stands.Ok Tryz.prog:=rowKit e_large_Set_stands
def row_large_run:FnRow:=⟨121,11,[(.tmp 2)],m_large_run⟩
theorem row_large_run_ok:row_large_run.Ok Tryz.prog:=rowKit e_large_run
def row_slab_Slab_join:FnRow:=⟨122,28,[],m_slab_Slab_join⟩
theorem row_slab_Slab_join_ok:row_slab_Slab_join.Ok Tryz.prog:=rowKit e_slab_Slab_join
def row_slab_Slab_linked:FnRow:=⟨123,37,[(.tmp 2)],m_slab_Slab_linked⟩
def row_slab_Slab_gone:FnRow:=⟨124,26,[(.tmp 4)],m_slab_Slab_gone⟩
def row_region_Region_Config:FnRow:=⟨125,10,[(.cell 2 87 3)],m_region_Region_Config⟩
theorem row_region_Region_Config_ok:row_region_Region_Config.Ok Tryz.prog:=⟨(by kernel_rfl:callable Tryz.prog 125=true),Tryz.f125,Nat.le_of_ble_eq_true rfl,rfl,fun r hr=>(by rcases List.mem_cons.1 hr with rfl | hr; exact (by show aggT Tryz.prog 87=some 3; kernel_rfl); exact (by cases hr)),fun _ _ _ hn h=>e_region_Region_Config hn h⟩
def row_slices_Collect_int_:FnRow:=⟨126,5,[(.tmp 2)],m_slices_Collect_int_⟩
def row_slices_Sort_int_int_:FnRow:=⟨127,11,[],m_slices_Sort_int_int_⟩
def row_maps_Keys_map_int_bool_int_bool__c1:FnRow:=⟨128,14,[],m_maps_Keys_map_int_bool_int_bool__c1⟩
def row_link_mix:FnRow:=⟨129,17,[(.tmp 2)],m_link_mix⟩
theorem row_link_mix_ok:row_link_mix.Ok Tryz.prog:=rowKit e_link_mix
def row_tumbrelref06_Mix:FnRow:=⟨130,19,[(.tmp 2)],m_tumbrelref06_Mix⟩
theorem row_tumbrelref06_Mix_ok:row_tumbrelref06_Mix.Ok Tryz.prog:=rowKit e_tumbrelref06_Mix
def row_pages_Table_place:FnRow:=⟨131,36,[(.tmp 8),(.tmp 9)],m_pages_Table_place⟩
theorem row_pages_Table_place_ok:row_pages_Table_place.Ok Tryz.prog:=rowKit e_pages_Table_place
def row_bitset_New:FnRow:=⟨132,14,[(.tmp 2)],m_bitset_New⟩
theorem row_bitset_New_ok:row_bitset_New.Ok Tryz.prog:=rowKit e_bitset_New
def row_tumbrelref04_In:FnRow:=⟨133,15,[(.tmp 6)],m_tumbrelref04_In⟩
theorem row_tumbrelref04_In_ok:row_tumbrelref04_In.Ok Tryz.prog:=rowKit e_tumbrelref04_In
def row_tumbrelref05_Slots:FnRow:=⟨134,18,[(.tmp 2)],m_tumbrelref05_Slots⟩
theorem row_tumbrelref05_Slots_ok:row_tumbrelref05_Slots.Ok Tryz.prog:=rowKit e_tumbrelref05_Slots
def row_tumbrelref07_Slab_join:FnRow:=⟨135,35,[],m_tumbrelref07_Slab_join⟩
theorem row_tumbrelref07_Slab_join_ok:row_tumbrelref07_Slab_join.Ok Tryz.prog:=rowKit e_tumbrelref07_Slab_join
def row_slab_Slab_follow:FnRow:=⟨136,73,[(.tmp 4),(.tmp 5)],m_slab_Slab_follow⟩
theorem row_slab_Slab_follow_ok:row_slab_Slab_follow.Ok Tryz.prog:=rowKit e_slab_Slab_follow
def row_slab_Slab_canary:FnRow:=⟨137,23,[(.tmp 4),(.tmp 5)],m_slab_Slab_canary⟩
theorem row_slab_Slab_canary_ok:row_slab_Slab_canary.Ok Tryz.prog:=rowKit e_slab_Slab_canary
def row_arena_Arena_SetWord:FnRow:=⟨138,23,[(.tmp 6)],m_arena_Arena_SetWord⟩
theorem row_arena_Arena_SetWord_ok:row_arena_Arena_SetWord.Ok Tryz.prog:=rowKit e_arena_Arena_SetWord
def row_tumbrelref07_Slab_link:FnRow:=⟨139,65,[(.tmp 4)],m_tumbrelref07_Slab_link⟩
theorem row_tumbrelref07_Slab_link_ok:row_tumbrelref07_Slab_link.Ok Tryz.prog:=rowKit e_tumbrelref07_Slab_link
def row_tumbrelref07_Slab_put:FnRow:=⟨140,22,[],m_tumbrelref07_Slab_put⟩
theorem row_tumbrelref07_Slab_put_ok:row_tumbrelref07_Slab_put.Ok Tryz.prog:=rowKit e_tumbrelref07_Slab_put
def row_tumbrelref07_Slab_base:FnRow:=⟨141,18,[(.tmp 4)],m_tumbrelref07_Slab_base⟩
theorem row_tumbrelref07_Slab_base_ok:row_tumbrelref07_Slab_base.Ok Tryz.prog:=rowKit e_tumbrelref07_Slab_base
def row_tumbrelref01_Put:FnRow:=⟨142,25,[(.tmp 4)],m_tumbrelref01_Put⟩
theorem row_tumbrelref01_Put_ok:row_tumbrelref01_Put.Ok Tryz.prog:=rowKit e_tumbrelref01_Put
def row_tumbrelref07_with:FnRow:=⟨143,16,[(.tmp 6)],m_tumbrelref07_with⟩
theorem row_tumbrelref07_with_ok:row_tumbrelref07_with.Ok Tryz.prog:=rowKit e_tumbrelref07_with
def row_tumbrelref08_Set_At:FnRow:=⟨144,23,[(.tmp 4)],m_tumbrelref08_Set_At⟩
theorem row_tumbrelref08_Set_At_ok:row_tumbrelref08_Set_At.Ok Tryz.prog:=rowKit e_tumbrelref08_Set_At
def row_tumbrelref08_Set_Stands:FnRow:=⟨145,34,[(.tmp 4)],m_tumbrelref08_Set_Stands⟩
theorem row_tumbrelref08_Set_Stands_ok:row_tumbrelref08_Set_Stands.Ok Tryz.prog:=rowKit e_tumbrelref08_Set_Stands
def row_tumbrelref08_Set_fill:FnRow:=⟨146,34,[],m_tumbrelref08_Set_fill⟩
theorem row_tumbrelref08_Set_fill_ok:row_tumbrelref08_Set_fill.Ok Tryz.prog:=rowKit e_tumbrelref08_Set_fill
def row_tumbrelref07_Slab_must:FnRow:=⟨147,27,[(.tmp 6)],m_tumbrelref07_Slab_must⟩
theorem row_tumbrelref07_Slab_must_ok:row_tumbrelref07_Slab_must.Ok Tryz.prog:=rowKit e_tumbrelref07_Slab_must
def row_tumbrelref07_Slab_stands:FnRow:=⟨148,36,[(.tmp 4)],m_tumbrelref07_Slab_stands⟩
theorem row_tumbrelref07_Slab_stands_ok:row_tumbrelref07_Slab_stands.Ok Tryz.prog:=rowKit e_tumbrelref07_Slab_stands
def row_large_Set_meets:FnRow:=⟨149,32,[(.tmp 6)],m_large_Set_meets⟩
theorem row_large_Set_meets_ok:row_large_Set_meets.Ok Tryz.prog:=rowKit e_large_Set_meets
def row_large_Set_canary:FnRow:=⟨150,21,[(.tmp 6),(.tmp 7)],m_large_Set_canary⟩
theorem row_large_Set_canary_ok:row_large_Set_canary.Ok Tryz.prog:=rowKit e_large_Set_canary
def row_bitset_Set_in:FnRow:=⟨151,13,[(.tmp 4)],m_bitset_Set_in⟩
theorem row_bitset_Set_in_ok:row_bitset_Set_in.Ok Tryz.prog:=rowKit e_bitset_Set_in
def row_arena_Arena_Word:FnRow:=⟨152,22,[(.tmp 4),(.tmp 5)],m_arena_Arena_Word⟩
theorem row_arena_Arena_Word_ok:row_arena_Arena_Word.Ok Tryz.prog:=rowKit e_arena_Arena_Word
def row_link_Code_Put:FnRow:=⟨153,25,[(.tmp 6)],m_link_Code_Put⟩
theorem row_link_Code_Put_ok:row_link_Code_Put.Ok Tryz.prog:=rowKit e_link_Code_Put
def row_arena_Arena_Load:FnRow:=⟨154,26,[(.tmp 6),(.tmp 7)],m_arena_Arena_Load⟩
def row_slices_ContainsFunc_byte_byte_:FnRow:=⟨155,9,[(.tmp 4)],m_slices_ContainsFunc_byte_byte_⟩
def row_slab_Slab_gone_c1:FnRow:=⟨156,5,[(.tmp 2)],m_slab_Slab_gone_c1⟩
def row_slices_pdqsortOrdered_int_:FnRow:=⟨158,134,[],m_slices_pdqsortOrdered_int_⟩
def row_math_bits_Len:FnRow:=⟨159,8,[(.tmp 2)],m_math_bits_Len⟩
def row_pages_Row_free:FnRow:=⟨160,6,[(.tmp 2)],m_pages_Row_free⟩
theorem row_pages_Row_free_ok:row_pages_Row_free.Ok Tryz.prog:=rowKit e_pages_Row_free
def row_tumbrelref06_Put:FnRow:=⟨161,29,[(.tmp 6)],m_tumbrelref06_Put⟩
theorem row_tumbrelref06_Put_ok:row_tumbrelref06_Put.Ok Tryz.prog:=rowKit e_tumbrelref06_Put
def row_link_Code_Get:FnRow:=⟨162,28,[(.tmp 6),(.tmp 7)],m_link_Code_Get⟩
theorem row_link_Code_Get_ok:row_link_Code_Get.Ok Tryz.prog:=rowKit e_link_Code_Get
def row_link_Code_Canary:FnRow:=⟨163,11,[(.tmp 4)],m_link_Code_Canary⟩
theorem row_link_Code_Canary_ok:row_link_Code_Canary.Ok Tryz.prog:=rowKit e_link_Code_Canary
def row_arena_Arena_word:FnRow:=⟨164,15,[(.tmp 4)],m_arena_Arena_word⟩
theorem row_arena_Arena_word_ok:row_arena_Arena_word.Ok Tryz.prog:=rowKit e_arena_Arena_word
def row_num_Put:FnRow:=⟨165,30,[(.tmp 4)],m_num_Put⟩
theorem row_num_Put_ok:row_num_Put.Ok Tryz.prog:=rowKit e_num_Put
def row_tumbrelref01_Get:FnRow:=⟨166,26,[(.tmp 2)],m_tumbrelref01_Get⟩
theorem row_tumbrelref01_Get_ok:row_tumbrelref01_Get.Ok Tryz.prog:=rowKit e_tumbrelref01_Get
def row_num_Get:FnRow:=⟨167,23,[(.tmp 2)],m_num_Get⟩
theorem row_num_Get_ok:row_num_Get.Ok Tryz.prog:=rowKit e_num_Get
def row_link_Code_mask:FnRow:=⟨168,11,[(.tmp 4)],m_link_Code_mask⟩
theorem row_link_Code_mask_ok:row_link_Code_mask.Ok Tryz.prog:=rowKit e_link_Code_mask
def row_bytes_Clone:FnRow:=⟨169,8,[(.tmp 2)],m_bytes_Clone⟩
def row_slices_IndexFunc_byte_byte_:FnRow:=⟨170,19,[(.tmp 4)],m_slices_IndexFunc_byte_byte_⟩
def row_slices_insertionSortOrdered_int_:FnRow:=⟨171,49,[],m_slices_insertionSortOrdered_int_⟩
def row_slices_heapSortOrdered_int_:FnRow:=⟨172,56,[],m_slices_heapSortOrdered_int_⟩
def row_slices_breakPatternsOrdered_int_:FnRow:=⟨173,65,[],m_slices_breakPatternsOrdered_int_⟩
def row_slices_choosePivotOrdered_int_:FnRow:=⟨174,57,[(.tmp 6),(.tmp 7)],m_slices_choosePivotOrdered_int_⟩
def row_slices_reverseRangeOrdered_int_:FnRow:=⟨175,32,[],m_slices_reverseRangeOrdered_int_⟩
def row_slices_partialInsertionSortOrdered_int_:FnRow:=⟨176,133,[(.tmp 6)],m_slices_partialInsertionSortOrdered_int_⟩
def row_cmp_Less_int_:FnRow:=⟨177,17,[(.tmp 4)],m_cmp_Less_int_⟩
def row_slices_partitionEqualOrdered_int_:FnRow:=⟨178,84,[(.tmp 8)],m_slices_partitionEqualOrdered_int_⟩
def row_slices_partitionOrdered_int_:FnRow:=⟨179,168,[(.tmp 8),(.tmp 9)],m_slices_partitionOrdered_int_⟩
def row_math_bits_Len32:FnRow:=⟨180,19,[(.tmp 2)],m_math_bits_Len32⟩
def row_math_bits_Len64:FnRow:=⟨181,25,[(.tmp 2)],m_math_bits_Len64⟩
def row_slices_siftDownOrdered_int_:FnRow:=⟨182,76,[],m_slices_siftDownOrdered_int_⟩
def row_slices_nextPowerOfTwo:FnRow:=⟨183,7,[(.tmp 2)],m_slices_nextPowerOfTwo⟩
def row_slices_xorshift_Next:FnRow:=⟨184,33,[(.tmp 2)],m_slices_xorshift_Next⟩
def row_slices_medianAdjacentOrdered_int_:FnRow:=⟨185,15,[(.tmp 6)],m_slices_medianAdjacentOrdered_int_⟩
def row_slices_medianOrdered_int_:FnRow:=⟨186,36,[(.tmp 10)],m_slices_medianOrdered_int_⟩
def row_cmp_isNaN_int_:FnRow:=⟨187,6,[(.tmp 2)],m_cmp_isNaN_int_⟩
def row_slices_order2Ordered_int_:FnRow:=⟨188,28,[(.tmp 8),(.tmp 9)],m_slices_order2Ordered_int_⟩
def rows:List FnRow:=[row_tumbrellaw09_RegionPlaces,row_tumbrellaw09_RegionEmpties,row_tumbrellaw09_RegionApart,row_tumbrellaw10_FaultExact,row_tumbrellaw10_FaultPlays,row_tumbrellaw09_Make,row_tumbrellaw09_Pair_Step,row_region_Region_Find,row_region_Region_Pages,row_pages_Table_Row,row_tumbrellaw09_awake,row_region_Region_Live,row_region_Region_Drop,row_region_Region_Give,row_region_Region_Shut,row_pages_Table_Count,row_region_Region_Arena,row_arena_Arena_Store,row_region_Region_Check,row_fault_New,row_tumbrellaw10_has,row_fault_Ledger_Dropped,row_fault_Ledger_Took,row_fault_Ledger_Fault,row_tumbrellaw10_awake,row_tumbrelref10_New,row_tumbrelref10_Ledger_Took,row_tumbrelref10_Ledger_Dropped,row_fault_Ledger_Note,row_tumbrelref10_Ledger_Fault,row_fault_Ledger_Gone,row_fault_Ledger_Reports,row_region_New,row_tumbrelref09_New,row_tumbrellaw09_Pair_at,row_region_Region_Open,row_tumbrelref09_Region_Open,row_region_Region_Take,row_tumbrelref09_Region_Take,row_tumbrelref09_Region_Drop,row_tumbrelref09_Region_Give,row_tumbrelref09_Region_Shut,row_region_Region_Great,row_tumbrelref09_Region_Great,row_tumbrelref09_Region_Find,row_tumbrellaw09_like,row_region_Region_Home,row_tumbrelref09_Region_Home,row_region_Region_Owner,row_tumbrelref09_Region_Owner,row_arena_Arena_Len,row_region_Region_slab,row_class_Slot,row_slab_Slab_Class,row_region_Region_place,row_pages_Table_Head,row_large_Set_Size,row_pages_Table_Len,row_class_Slots,row_slab_Slab_State,row_region_Region_base,row_slab_Slab_Drop,row_large_Set_Drop,row_pages_Table_Unmap,row_slab_Slab_Give,row_slab_Slab_Count,row_pages_Table_cut,row_arena_Arena_in,row_slab_Slab_Check,row_large_Set_Check,row_fault_Ledger_manual,row_fault_Ledger_live,row_fault_end,row_tumbrelref10_bytes,row_slices_Sorted_int_,row_maps_Keys_map_int_bool_int_bool_,row_slices_Clone_fault_Report_fault_Report_,row_arena_New,row_link_New,row_pages_New,row_large_New,row_tumbrelref06_Key,row_tumbrelref04_New,row_class_Size,row_pages_Table_Map,row_slab_Make,row_tumbrelref05_Size,row_tumbrelref04_Place,row_tumbrelref04_Lay,row_tumbrelref07_Make,row_tumbrelref09_Region_with,row_slab_Slab_Take,row_class_Base,row_tumbrelref09_Region_slab,row_tumbrelref07_Slab_Take,row_tumbrelref08_Set_Drop,row_tumbrelref04_Clear,row_tumbrelref07_Slab_Drop,row_tumbrelref07_Slab_Give,row_tumbrelref07_Slab_Count,row_class_Pages,row_large_Set_Make,row_tumbrelref05_Pages,row_tumbrelref08_Set_Make,row_tumbrelref09_Region_place,row_slab_Slab_Owner,row_class_may,row_slab_Slab_Page,row_class_Room,row_pages_Row_first,row_bitset_Set_Len,row_bitset_Set_Has,row_slab_Slab_must,row_slab_Slab_stands,row_arena_Arena_Fill,row_slab_Slab_base,row_bitset_Set_Put,row_large_Set_stands,row_large_run,row_slab_Slab_join,row_slab_Slab_linked,row_slab_Slab_gone,row_region_Region_Config,row_slices_Collect_int_,row_slices_Sort_int_int_,row_maps_Keys_map_int_bool_int_bool__c1,row_link_mix,row_tumbrelref06_Mix,row_pages_Table_place,row_bitset_New,row_tumbrelref04_In,row_tumbrelref05_Slots,row_tumbrelref07_Slab_join,row_slab_Slab_follow,row_slab_Slab_canary,row_arena_Arena_SetWord,row_tumbrelref07_Slab_link,row_tumbrelref07_Slab_put,row_tumbrelref07_Slab_base,row_tumbrelref01_Put,row_tumbrelref07_with,row_tumbrelref08_Set_At,row_tumbrelref08_Set_Stands,row_tumbrelref08_Set_fill,row_tumbrelref07_Slab_must,row_tumbrelref07_Slab_stands,row_large_Set_meets,row_large_Set_canary,row_bitset_Set_in,row_arena_Arena_Word,row_link_Code_Put,row_arena_Arena_Load,row_slices_ContainsFunc_byte_byte_,row_slab_Slab_gone_c1,row_slices_pdqsortOrdered_int_,row_math_bits_Len,row_pages_Row_free,row_tumbrelref06_Put,row_link_Code_Get,row_link_Code_Canary,row_arena_Arena_word,row_num_Put,row_tumbrelref01_Get,row_num_Get,row_link_Code_mask,row_bytes_Clone,row_slices_IndexFunc_byte_byte_,row_slices_insertionSortOrdered_int_,row_slices_heapSortOrdered_int_,row_slices_breakPatternsOrdered_int_,row_slices_choosePivotOrdered_int_,row_slices_reverseRangeOrdered_int_,row_slices_partialInsertionSortOrdered_int_,row_cmp_Less_int_,row_slices_partitionEqualOrdered_int_,row_slices_partitionOrdered_int_,row_math_bits_Len32,row_math_bits_Len64,row_slices_siftDownOrdered_int_,row_slices_nextPowerOfTwo,row_slices_xorshift_Next,row_slices_medianAdjacentOrdered_int_,row_slices_medianOrdered_int_,row_cmp_isNaN_int_,row_slices_order2Ordered_int_]
end Go.Proofs.YtgfjgfapigekiaaGreat
end
section
namespace Go.Proofs.YtgfjgfapigekiaaGreat
open Go Go.Tum Go.Tum.Base
set_option maxRecDepth 4000
theorem may_tr (c:Int):Tr Tryz.prog 109 [.int .i64 c] [] (fun v K=>v=.bool (decide (0≤c∧c<4))∧K=[]):=by
 refine Tr.of row_class_may_ok rfl ?_
 repeat' (first|refine qN ?_|refine dN ?_|refine rT ?_|refine sP 5 (fun h=>?_) (fun h=>?_)|fail)
 all_goals (refine ⟨?_,rfl⟩; first | rfl|exact congrArg (Value.int _) (by (repeat' split) <;> omega)|exact congrArg Value.bool (by (repeat' split) <;> (rw [Bool.eq_iff_iff]; simp; try omega))|exact VT2 (by (repeat' split) <;> omega) (by (repeat' split) <;> first | rfl | omega | (rw [Bool.eq_iff_iff]; simp; try omega)))
theorem Size_tr (c:Int):Tr Tryz.prog 86 [.int .i64 c] [] (fun v K=>v=.int .i64 (sizeC c)∧K=[]):=by
 refine Tr.of row_class_Size_ok rfl ?_
 repeat' (first|refine qN ?_|refine dN ?_|refine qS ?_|fail)
 first|refine L_rs ?_|refine L_reg ?_ | skip
 refine cP [] (may_tr c) ?_
 repeat' (first|refine qN ?_|refine dN ?_|refine rT ?_|refine qL ?_|refine iF (fun h=>?_) (fun h=>?_)|fail)
 ·refine ⟨congrArg (Value.int _) ?_,rfl⟩
  unfold sizeC; (repeat' split) <;> omega
 ·have hc:c=0∨c=1∨c=2∨c=3:=by omega
  rcases hc with rfl | rfl | rfl | rfl <;>
  ·first|refine L_rs ?_|refine L_reg ?_ | skip
   refine S_Q [] rfl rfl (QY.shift rfl rfl (by decide) rfl) ?_
   repeat' (first|refine dN ?_|refine rT ?_|exact ⟨rfl,rfl⟩|fail)
theorem Room_tr (c:Int):Tr Tryz.prog 111 [.int .i64 c] [] (fun v K=>v=.int .i64 (max (sizeC c-8) 0)∧K=[]):=by
 have h1:sizeC c≤128∧0≤sizeC c:=by unfold sizeC; (repeat' split) <;> omega
 refine Tr.of row_class_Room_ok rfl ?_
 repeat' (first|refine qN ?_|refine dN ?_|fail)
 first|refine L_rs ?_|refine L_reg ?_ | skip
 refine cP [] (Size_tr c) ?_
 repeat' (first|refine dN ?_|refine rT ?_|refine aS ?_|exact ⟨rfl,rfl⟩|fail)
theorem Room3_tr:Tr Tryz.prog 111 [.int .i64 3] [] (fun v K=>v=.int .i64 120∧K=[]):=Room_tr 3
theorem Pages_tr (n:Int):Tr Tryz.prog 103 [.int .i64 n] [] (fun v K=>v=.tuple ⟨[.int .i64 (pagesC n),.bool (greatC n)]⟩∧K=[]):=by
 refine Tr.of row_class_Pages_ok rfl ?_
 repeat' (first|refine qN ?_|refine dN ?_|refine qS ?_|fail)
 first|refine L_rs ?_|refine L_reg ?_ | skip
 refine cP [] (Room3_tr) ?_
 repeat' (first|refine qN ?_|refine dN ?_|refine rT ?_|refine qT ?_|refine qL ?_|refine iF (fun h=>?_) (fun h=>?_)|refine aA ?_|refine aS ?_|refine aD ?_|refine sP 7 (fun h=>?_) (fun h=>?_)|fail)
 all_goals refine ⟨VT2 ?_ ?_,rfl⟩
 all_goals first | (unfold pagesC; (repeat' split) <;> omega) | (unfold greatC; first | (symm; rw [decide_eq_true_eq]; omega) | (symm; rw [decide_eq_false_iff_not]; omega))
theorem mix_tr (x:BitVec 64):Tr Tryz.prog 129 [.int .u64 (x.toNat:Int)] [] (fun v K=>v=.int .u64 ((mixW x).toNat:Int)∧K=[]):=by
 refine Tr.of row_link_mix_ok rfl ?_
 repeat' (first|refine qN ?_|refine dN ?_|fail)
 first|refine L_rs ?_|refine L_reg ?_ | skip
 refine S_Q [] rfl rfl (QY.shrW (n:=30) rfl rfl) ?_
 first|refine L_rs ?_|refine L_reg ?_ | skip
 refine S_Q [] rfl rfl (QY.xorW rfl rfl) ?_
 first|refine L_rs ?_|refine L_reg ?_ | skip
 refine S_Q [] rfl rfl (QY.mulW (b:=0xBF58476D1CE4E5B9#64) rfl rfl) ?_
 repeat' (first|refine qN ?_|refine dN ?_|fail)
 first|refine L_rs ?_|refine L_reg ?_ | skip
 refine S_Q [] rfl rfl (QY.shrW (n:=27) rfl rfl) ?_
 first|refine L_rs ?_|refine L_reg ?_ | skip
 refine S_Q [] rfl rfl (QY.xorW rfl rfl) ?_
 first|refine L_rs ?_|refine L_reg ?_ | skip
 refine S_Q [] rfl rfl (QY.mulW (b:=0x94D049BB133111EB#64) rfl rfl) ?_
 repeat' (first|refine qN ?_|refine dN ?_|fail)
 first|refine L_rs ?_|refine L_reg ?_ | skip
 refine S_Q [] rfl rfl (QY.shrW (n:=31) rfl rfl) ?_
 first|refine L_rs ?_|refine L_reg ?_ | skip
 refine S_Q [] rfl rfl (QY.xorW rfl rfl) ?_
 repeat' (first|refine dN ?_|refine rT ?_|exact ⟨rfl,rfl⟩|fail)
theorem linkNew_tr (x:BitVec 64):Tr Tryz.prog 81 [.int .u64 (x.toNat:Int)] [] (fun v K=>v=.agg ⟨[.int .u64 ((keyW x).toNat:Int)]⟩∧K=[]):=by
 refine Tr.of row_link_New_ok rfl ?_
 repeat' (first|refine qN ?_|refine dN ?_|fail)
 first|refine L_rs ?_|refine L_reg ?_ | skip
 refine S_Q [] rfl rfl (QY.addW (b:=0x9E3779B97F4A7C15#64) rfl rfl) ?_
 first|refine L_rs ?_|refine L_reg ?_ | skip
 refine cP [] (mix_tr (x+0x9E3779B97F4A7C15#64)) ?_
 repeat' (first|refine dN ?_|refine rT ?_|exact ⟨rfl,rfl⟩|fail)
theorem Canary_tr (k:BitVec 64) (a:Int):Tr Tryz.prog 163 [.agg ⟨[.int .u64 (k.toNat:Int)]⟩,.int .i64 a] [] (fun v K=>v=.int .u64 ((canW k a).toNat:Int)∧K=[]):=by
 refine Tr.of row_link_Code_Canary_ok rfl ?_
 repeat' (first|refine qN ?_|refine dN ?_|fail)
 first|refine L_rs ?_|refine L_reg ?_ | skip
 refine S_Q [] rfl rfl (QY.cvIW rfl) ?_
 first|refine L_rs ?_|refine L_reg ?_ | skip
 refine S_Q [] rfl rfl (QY.xorW rfl rfl) ?_
 first|refine L_rs ?_|refine L_reg ?_ | skip
 refine cP [] (mix_tr (k ^^^ BitVec.ofInt 64 a)) ?_
 repeat' (first|refine dN ?_|refine rT ?_|exact ⟨rfl,rfl⟩|fail)
abbrev slB (b n:Nat):Value:=.slice (some ⟨b,0,none⟩) n n
abbrev ptr (b:Nat):Value:=.pointer (some ⟨b,0,none⟩)
def BL (bs:Bytes):LB:=.gro 1 (rowsC byteC bs)
def AL (bs:Bytes):LH:=[.cells 0 [slB 1 bs.length],BL bs]
set_option maxRecDepth 4000 in
theorem arenaNew_tr (p:Int) (n:Nat) (hn:256*min (max p 0) 256=n):Tr Tryz.prog 80 [.int .i64 p] [] (fun v K=>v=ptr 0∧K=AL (List.replicate n 0)):=by
 refine Tr.of row_arena_New_ok rfl ?_
 repeat' (first|refine qN ?_|refine dN ?_|refine S_Q [] rfl rfl (QY.mul rfl rfl hn (by omega) (by omega)) ?_|fail)
 first|refine L_rs ?_|refine L_reg ?_ | skip
 refine eE rfl rfl (EW.mk (sz:=1) (bytes:=1) (k:=n) (zs:=byteC 0) rfl (by kernel_rfl) rfl rfl (by omega) (by omega)) ?_
 conv=>whnf
 repeat' (first|refine dN ?_|fail)
 refine L_ret (RetQ.pick [1,0] rfl rfl rfl rfl ⟨rfl,?_⟩)
 rw [repC_rows (0:BitVec 8),AL,BL,List.length_replicate]
 rfl
theorem arenaLen_tr (bs:Bytes):Tr Tryz.prog 53 [ptr 0] (AL bs) (fun v K=>v=.int .i64 bs.length∧K=AL bs):=by
 refine Tr.of row_arena_Arena_Len_ok rfl ?_
 repeat' (first|refine qN ?_|refine dN ?_|refine rT ?_|refine qU ?_|refine qL ?_|refine qS ?_|exact ⟨rfl,rfl⟩|fail)
theorem arenaIn_tr (bs:Bytes) (hb:bs.length≤65536) (a k:Int):Tr Tryz.prog 70 [ptr 0,.int .i64 a,.int .i64 k] (AL bs) (fun v K=>v=.int .i64 (errIn bs.length a k)∧K=AL bs):=by
 refine Tr.of row_arena_Arena_in_ok rfl ?_
 repeat' (first|refine qN ?_|refine dN ?_|refine qB ?_|refine rT ?_|refine qT ?_|refine qU ?_|refine qL ?_|refine iF (fun h=>?_) (fun h=>?_)|refine aS ?_|refine sP 13 (fun h=>?_) (fun h=>?_)|refine sP 17 (fun h=>?_) (fun h=>?_)|refine sP 26 (fun h=>?_) (fun h=>?_)|refine qS ?_|fail)
 all_goals (refine ⟨congrArg (Value.int _) ?_,rfl⟩; unfold errIn; (repeat' split) <;> omega)
theorem AL_over {bs:Bytes} {i:Nat} {ys:Bytes} (h:i+ys.length≤bs.length):AL (overB bs i ys)=[.cells 0 [slB 1 bs.length],BL (overB bs i ys)]:=by rw [AL,overB_length h]
theorem arenaFill_ok (bs:Bytes) (hb:bs.length≤65536) (i m:Nat) (c:BitVec 8) (h:i+m≤bs.length):Tr Tryz.prog 117 [ptr 0,.int .i64 i,.int .i64 m,.int .u8 (c.toNat:Int)] (AL bs) (fun v K=>v=.int .i64 0∧K=AL (overB bs i (List.replicate m c))):=by
 have hI:=arenaIn_tr bs hb i m
 rw [errIn_ok h] at hI
 rw [AL_over (by rw [List.length_replicate]; exact h)]
 refine Tr.of row_arena_Arena_Fill_ok rfl ?_
 refine L_rs (S_done [] rfl (Nx.goL (L_seq ?_)))
 first|refine L_rs ?_|refine L_reg ?_ | skip
 refine cP [0,1] (hI) ?_
 refine S_done [] rfl (Nx.goL (L_rs (S_done [] rfl (Nx.goL (L_false rfl (L_skip (Nx.goL ?_)))))))
 refine L_cut (fun l L=>l=[]∧L=[.cells 0 [slB 1 bs.length],BL (overB bs i (List.replicate m c))]) ?_ ?_
 ·refine L_rs (S_done [] rfl (Nx.pick [0,1,2,3,10] [0,1] rfl rfl rfl ?_))
  refine L_block (L_loop (fun r l L=>∃ j:Nat,r=m-j∧j≤m∧l=[(0,ptr 0),(1,.int .i64 i),(2,.int .i64 m),(3,.int .u8 (c.toNat:Int)),(10,.int .i64 ((i+j:Nat):Int))]∧L=[.cells 0 [slB 1 bs.length],BL (overB bs i (List.replicate j c))]) m ⟨0,rfl,by omega,rfl,by rw [List.replicate_zero,overB_nil]; rfl⟩ ?_)
  rintro r _ _ ⟨j,rfl,hj,rfl,rfl⟩
  refine L_seq ?_
  repeat' (first|refine qN ?_|refine dN ?_|refine qB ?_|refine qL ?_|refine qE ?_|refine iF (fun h=>?_) (fun h=>?_)|refine aX ?_|refine aA ?_|refine qR ?_|refine qS ?_|fail)
  ·have hs:=overB_snoc (bs:=bs) (i:=i) (ys:=List.replicate j c) c (by rw [List.length_replicate]; omega)
   rw [List.length_replicate,← List.replicate_succ'] at hs
   first|refine L_rs ?_|refine L_reg ?_ | skip
   refine eE rfl rfl (EW.stY (k:=i+j) rfl rfl rfl (by rw [overB_length (by rw [List.length_replicate]; omega)]; omega)) ?_
   conv=>whnf
   repeat' (first|refine dN ?_|refine d0 ?_|refine aA ?_|refine qR ?_|fail)
   exact Nx.pick [0,1,2,3,10] [0,1] rfl rfl rfl ⟨m-(j+1),by omega,j+1,rfl,by omega,rfl,by rw [← hs]; rfl⟩
  ·obtain rfl:j=m:=by omega
   exact Nx.pick [] [0,1] rfl rfl rfl ⟨rfl,rfl⟩
 rintro _ _ ⟨rfl,rfl⟩
 repeat' (first|refine qN ?_|refine dN ?_|refine rT ?_|exact ⟨rfl,rfl⟩|fail)
theorem arenaword_tr (bs:Bytes) (hb:bs.length≤65536) (a:Int):Tr Tryz.prog 164 [ptr 0,.int .i64 a] (AL bs) (fun v K=>v=.int .i64 (errW bs.length a)∧K=AL bs):=by
 rw [errW_in]
 have hI:=arenaIn_tr bs hb a 8
 by_cases h0:errIn bs.length a 8=0
 ·obtain ⟨i,m,rfl,hm,hle⟩:=errIn_nat h0
  rw [h0] at hI ⊢
  refine Tr.of row_arena_Arena_word_ok rfl ?_
  repeat' (first|refine qN ?_|refine dN ?_|refine qS ?_|fail)
  first|refine L_rs ?_|refine L_reg ?_ | skip
  refine cP [0,1] (hI) ?_
  repeat' (first|refine qN ?_|refine dN ?_|refine rT ?_|refine qU ?_|refine qL ?_|refine iF (fun h=>?_) (fun h=>?_)|refine aR ?_|refine qS ?_|fail)
  ·refine ⟨congrArg (Value.int _) ?_,rfl⟩
   rw [if_neg (by decide),if_pos (by omega)]
  ·refine ⟨congrArg (Value.int _) ?_,rfl⟩
   rw [if_neg (by decide),if_neg (by omega)]
 ·refine Tr.of row_arena_Arena_word_ok rfl ?_
  repeat' (first|refine qN ?_|refine dN ?_|refine qS ?_|fail)
  first|refine L_rs ?_|refine L_reg ?_ | skip
  refine cP [0,1] (hI) ?_
  repeat' (first|refine qN ?_|refine dN ?_|refine rT ?_|refine qL ?_|refine iF (fun h=>?_) (fun h=>?_)|refine aR ?_|refine qS ?_|fail)
  ·refine ⟨congrArg (Value.int _) ?_,rfl⟩
   rw [if_pos h0,errIn] at *
   split at h0
   ·rw [if_pos ‹_›]
   ·exact absurd rfl h0
  all_goals contradiction
theorem numGet_tr (ys:Bytes) (i m c:Nat) (h:i+m≤ys.length) (hb:ys.length≤65536):Tr Tryz.prog 167 [.slice (some ⟨0,i*1,none⟩) m c] [BL ys] (fun v K=>v=.int .u64 ((getW (partB ys i m)).toNat:Int)∧K=[BL ys]):=by
 refine Tr.of row_num_Get_ok rfl ?_
 refine L_rs (S_done [] rfl (Nx.goL (L_rs (S_done [] rfl (Nx.goL ?_)))))
 have hlen:=partB_length h
 refine L_cut (fun l L=>l=[(3,.int .u64 ((getW (partB ys i m)).toNat:Int))]∧L=[BL ys]) ?_ ?_
 ·refine L_rs (S_done [] rfl (Nx.pick [0,3,7,8] [0] rfl rfl rfl ?_))
  refine L_block (L_loop (fun r l L=>∃ k:Nat,r=min m 8-k∧k≤min m 8∧l=[(0,.slice (some ⟨0,i*1,none⟩) m c),(3,.int .u64 ((getF (partB ys i m) k).toNat:Int)),(7,.int .i64 (min m 8:Nat)),(8,.int .i64 k)]∧L=[BL ys]) (min m 8) ⟨0,rfl,by omega,?_,rfl⟩ ?_)
  ·rw [show ((min m 8:Nat):Int)=imm false m 8 by show _=min (m:Int) 8; omega]; rfl
  rintro r _ _ ⟨k,rfl,hk,rfl,rfl⟩
  first|refine L_seq (L_rs (S_done [] rfl (Nx.goL (iF (fun h=>L_skip (Nx.goL ?_)) (fun h=>L_exit ?_)))))|refine L_rs (S_done [] rfl (Nx.goL (L_seq (iF (fun h=>L_skip (Nx.goL ?_)) (fun h=>L_exit ?_)))))
  ·have hk':k<m:=by omega
   obtain ⟨x,hx⟩:∃ x,ys[i+k]?=some x:=⟨_,List.getElem?_eq_getElem (by omega)⟩
   have hg:(partB ys i m).getD k 0=x:=by
    rw [List.getD_eq_getElem?_getD,partB,List.getElem?_take,if_pos hk',List.getElem?_drop,hx]; rfl
   repeat' (first|refine qN ?_|refine dN ?_|refine qB ?_|refine qR ?_|refine qS ?_|fail)
   first|refine L_rs ?_|refine L_reg ?_ | skip
   refine S_Q [] rfl rfl (QY.idxO rfl rfl hk') ?_
   first|refine L_rs ?_|refine L_reg ?_ | skip
   refine S_Q [] rfl rfl (QY.ldYo rfl (by omega) rfl hx) ?_
   first|refine L_rs ?_|refine L_reg ?_ | skip
   refine S_Q [] rfl rfl (QY.cvBW rfl) ?_
   first|refine L_rs ?_|refine L_reg ?_ | skip
   refine S_Q [] rfl rfl (QY.mul (c:=((8*k:Nat):Int)) rfl rfl (by omega) (by omega) (by omega)) ?_
   first|refine L_rs ?_|refine L_reg ?_ | skip
   refine S_Q [] rfl rfl (QY.shlW (n:=8*k) rfl rfl) ?_
   first|refine L_rs ?_|refine L_reg ?_ | skip
   refine S_Q [] rfl rfl (QY.orW rfl rfl) ?_
   repeat' (first|refine dN ?_|refine d0 ?_|refine aA ?_|refine qR ?_|fail)
   exact Nx.pick [0,3,7,8] [0] rfl rfl rfl ⟨min m 8-(k+1),by omega,k+1,rfl,by omega,by rw [getF,hg]; rfl,rfl⟩
  ·obtain rfl:k=min m 8:=by omega
   exact Nx.pick [3] [0] rfl rfl rfl ⟨by rw [getW,hlen]; rfl,rfl⟩
 rintro _ _ ⟨rfl,rfl⟩
 repeat' (first|refine qN ?_|refine dN ?_|refine rT ?_|exact ⟨rfl,rfl⟩|fail)
set_option maxRecDepth 4000 in
theorem numPut_tr (v:BitVec 64):Tr Tryz.prog 165 [.int .i64 8,.int .u64 (v.toNat:Int)] [] (fun u K=>u=slB 0 8∧K=[BL (putB v 8)]):=by
 refine Tr.of row_num_Put_ok rfl ?_
 repeat' (first|refine qN ?_|refine dN ?_|refine qU ?_|refine qL ?_|refine qS ?_|fail)
 first|refine L_rs ?_|refine L_reg ?_ | skip
 refine eE rfl rfl (EW.mk (sz:=1) (bytes:=1) (k:=8) (zs:=byteC 0) rfl (by kernel_rfl) rfl rfl (by omega) (by omega)) ?_
 conv=>whnf
 refine S_done [] rfl (Nx.goL ?_)
 refine L_cut (fun l L=>l=[(5,slB 0 8)]∧L=[BL (putB v 8)]) ?_ ?_
 ·refine L_rs (S_done [] rfl (Nx.pick [1,5,16,17] [0] rfl rfl rfl ?_))
  refine L_block (L_loop (fun r l L=>∃ k:Nat,r=8-k∧k≤8∧l=[(1,.int .u64 (v.toNat:Int)),(5,slB 0 8),(16,.int .i64 8),(17,.int .i64 k)]∧L=[BL (putB v k++List.replicate (8-k) 0)]) 8 ⟨0,rfl,by omega,rfl,by rw [repC_rows (0:BitVec 8)]; rfl⟩ ?_)
  rintro r _ _ ⟨k,rfl,hk,rfl,rfl⟩
  have hl:=putB_length v k
  first|refine L_seq (L_rs (S_done [] rfl (Nx.goL (iF (fun h=>L_skip (Nx.goL ?_)) (fun h=>L_exit ?_)))))|refine L_rs (S_done [] rfl (Nx.goL (L_seq (iF (fun h=>L_skip (Nx.goL ?_)) (fun h=>L_exit ?_)))))
  ·have hk8:k<8:=by omega
   repeat' (first|refine qN ?_|refine dN ?_|refine qB ?_|refine aM ?_|refine qR ?_|refine qS ?_|fail)
   first|refine L_rs ?_|refine L_reg ?_ | skip
   refine S_Q [] rfl rfl (QY.shrW (n:=8*k) rfl rfl) ?_
   first|refine L_rs ?_|refine L_reg ?_ | skip
   refine S_Q [] rfl rfl (QY.cvWB rfl) ?_
   first|refine L_rs ?_|refine L_reg ?_ | skip
   refine S_Q [] rfl rfl (QY.idxN rfl rfl hk8) ?_
   first|refine L_rs ?_|refine L_reg ?_ | skip
   refine eE rfl rfl (EW.stY (k:=k) rfl rfl rfl (by simp; omega)) ?_
   conv=>whnf
   repeat' (first|refine dN ?_|refine d0 ?_|refine aA ?_|refine qR ?_|fail)
   refine Nx.pick [1,5,16,17] [0] rfl rfl rfl ⟨8-(k+1),by omega,k+1,rfl,by omega,rfl,?_⟩
   have e:(putB v k++List.replicate (8-k) 0).set k ((v >>> (8*k)).setWidth 8)=putB v (k+1)++List.replicate (8-(k+1)) 0:=by
    rw [List.set_append_right _ _ (by omega),hl,Nat.sub_self,show 8-k=(8-(k+1))+1 by omega,List.replicate_succ,List.set_cons_zero,putB,List.append_assoc]; rfl
   rw [← e]; rfl
  ·obtain rfl:k=8:=by omega
   exact Nx.pick [5] [0] rfl rfl rfl ⟨rfl,by rw [Nat.sub_self,List.replicate_zero,List.append_nil]; rfl⟩
 rintro _ _ ⟨rfl,rfl⟩
 repeat' (first|refine qN ?_|refine dN ?_|fail)
 exact L_ret (RetQ.pick [0] rfl rfl rfl rfl ⟨rfl,rfl⟩)
theorem arenaWord_ok (bs:Bytes) (hb:bs.length≤65536) (i:Nat) (h:i+8≤bs.length) (h8:i % 8=0):Tr Tryz.prog 152 [ptr 0,.int .i64 i] (AL bs) (fun v K=>v=.tuple ⟨[.int .u64 ((wordB bs i).toNat:Int),.int .i64 0]⟩∧K=AL bs):=by
 have hI:=arenaword_tr bs hb i
 rw [errW_ok h h8] at hI
 have hG:=numGet_tr bs i (i+8-i) (bs.length-i) (by omega) hb
 refine Tr.of row_arena_Arena_Word_ok rfl ?_
 repeat' (first|refine qN ?_|refine dN ?_|refine qS ?_|fail)
 first|refine L_rs ?_|refine L_reg ?_ | skip
 refine cP [0,1] (hI) ?_
 repeat' (first|refine qN ?_|refine dN ?_|refine qU ?_|refine qL ?_|refine aA ?_|fail)
 first|refine L_rs ?_|refine L_reg ?_ | skip
 refine S_Q [] rfl rfl (QY.slc0 (b:=1) (lo':=i) (hi':=i+8) rfl rfl rfl (by omega) (by omega)) ?_
 first|refine L_rs ?_|refine L_reg ?_ | skip
 refine cP [1] (hG) ?_
 repeat' (first|refine dN ?_|refine rT ?_|fail)
 refine ⟨?_,rfl⟩
 rw [show i+8-i=8 by omega]; rfl
theorem arenaSetWord_ok (bs:Bytes) (hb:bs.length≤65536) (i:Nat) (h:i+8≤bs.length) (h8:i % 8=0) (x:BitVec 64):Tr Tryz.prog 138 [ptr 0,.int .i64 i,.int .u64 (x.toNat:Int)] (AL bs) (fun v K=>v=.int .i64 0∧K=AL (overB bs i (putB x 8))):=by
 have hI:=arenaword_tr bs hb i
 rw [errW_ok h h8] at hI
 rw [AL_over (by rw [putB_length]; exact h)]
 refine Tr.of row_arena_Arena_SetWord_ok rfl ?_
 repeat' (first|refine qN ?_|refine dN ?_|refine qS ?_|fail)
 first|refine L_rs ?_|refine L_reg ?_ | skip
 refine cP [0,1] (hI) ?_
 repeat' (first|refine qN ?_|refine dN ?_|refine qU ?_|refine qL ?_|fail)
 first|refine L_rs ?_|refine L_reg ?_ | skip
 refine S_Q [] rfl rfl (QY.slc0 (b:=1) (lo':=i) (hi':=bs.length) rfl rfl rfl (by omega) (by omega)) ?_
 first|refine L_rs ?_|refine L_reg ?_ | skip
 refine cF [] (numPut_tr x) ?_
 conv=>whnf
 first|refine L_rs ?_|refine L_reg ?_ | skip
 refine eE rfl rfl (EW.copyg (i:=i) (j:=0) (xs:=bs) (ys:=putB x 8) byteC_ok rfl (by kernel_rfl) rfl rfl rfl rfl (by omega) (by rw [putB_length]; omega) (by decide)) ?_
 conv=>whnf
 repeat' (first|refine qN ?_|refine dN ?_|refine rT ?_|fail)
 rw [← overB_copy bs i (putB x 8) (sn:=8) (dn:=bs.length-i) (by rw [putB_length]) (by omega)]
 exact ⟨rfl,rfl⟩
end Go.Proofs.YtgfjgfapigekiaaGreat
end
section
namespace Go.Tum.Base
open Go Go.Tum
abbrev Great:=IMap
def meetsG (G:Great) (page many:Int):Bool:=G.any fun x=>decide (page<x.1+pagesC x.2.1∧x.1<page+many)
def Small (G:Great) (N:Nat):Prop:=∀ x∈G,0≤x.1∧greatC x.2.1=true∧x.1+pagesC x.2.1≤N
theorem pagesC_bd (n:Int):0≤pagesC n∧pagesC n≤17:=by unfold pagesC; split <;> omega
end Go.Tum.Base
namespace Go.Proofs.YtgfjgfapigekiaaGreat
open Go Go.Tum Go.Tum.Base
set_option maxRecDepth 4000
def SetL (key:BitVec 64) (bs:Bytes) (G:Great) (c:Nat):LH:=[.cells 0 [ptr 1,.int .u64 (key.toNat:Int),.map (some 3)],.cells 0 [slB 2 bs.length],BL bs,.imap G c]
theorem largeNew_tr (bs:Bytes) (key:BitVec 64):TrK Tryz.prog [] [0,1] 83 [ptr 0,.agg ⟨[.int .u64 (key.toNat:Int)]⟩] (AL bs) (fun v K=>v=ptr 2∧K=AL bs++[.cells 0 [ptr 0,.int .u64 (key.toNat:Int),.map (some 3)],.imap [] 0]):=by
 refine Tr.of row_large_New_ok rfl ?_
 repeat' (first|refine qN ?_|refine dN ?_|refine qU ?_|refine qL ?_|refine qS ?_|fail)
 first|refine L_rs ?_|refine L_reg ?_ | skip
 refine eE rfl rfl (EW.imake rfl) ?_
 conv=>whnf
 repeat' (first|refine dN ?_|fail)
 exact L_ret (RetQ.pick [0,1,4,3] rfl rfl rfl rfl ⟨rfl,rfl⟩)
theorem run_tr (n:Int):Tr Tryz.prog 121 [.int .i64 n] [] (fun v K=>v=.int .i64 (pagesC n)∧K=[]):=by
 refine Tr.of row_large_run_ok rfl ?_
 repeat' (first|refine qN ?_|refine dN ?_|fail)
 first|refine L_rs ?_|refine L_reg ?_ | skip
 refine cP [] (Pages_tr n) ?_
 repeat' (first|refine qN ?_|refine dN ?_|refine rT ?_|exact ⟨rfl,rfl⟩|fail)
theorem canary_tr (key:BitVec 64) (bs:Bytes) (G:Great) (c:Nat) (p n:Int) (hp:0≤p∧p≤256):Tr Tryz.prog 150 [ptr 0,.int .i64 p,.int .i64 n] (SetL key bs G c) (fun v K=>v=.tuple ⟨[.int .i64 (256*(p+pagesC n)-8),.int .u64 ((canW key (256*p)).toNat:Int)]⟩∧K=SetL key bs G c):=by
 have hP:=pagesC_bd n
 refine Tr.of row_large_Set_canary_ok rfl ?_
 repeat' (first|refine qN ?_|refine dN ?_|refine aM ?_|fail)
 first|refine L_rs ?_|refine L_reg ?_ | skip
 refine cP [] (run_tr n) ?_
 repeat' (first|refine aA ?_|refine aS ?_|refine aM ?_|fail)
 first|refine L_rs ?_|refine L_reg ?_ | skip
 refine cP [] (Canary_tr key (256*p)) ?_
 repeat' (first|refine dN ?_|refine rT ?_|exact ⟨rfl,rfl⟩|fail)
set_option maxHeartbeats 1000000 in
theorem meets_tr (key:BitVec 64) (bs:Bytes) (G:Great) (c:Nat) (hG:Small G 256) (hO:GOk G c) (p m:Int) (hp:0≤p∧p≤256) (hm:0≤m∧m≤256):Tr Tryz.prog 149 [ptr 0,.int .i64 p,.int .i64 m] (SetL key bs G c) (fun v K=>v=.bool (meetsG G p m)∧K=SetL key bs G c):=by
 refine Tr.of row_large_Set_meets_ok rfl ?_
 refine L_rs (S_done [] rfl (Nx.goL ?_))
 refine L_cut (fun l L=>meetsG G p m=false∧l=[]∧L=SetL key bs G c) ?_ ?_
 ·repeat' (first|refine qN ?_|fail)
  first|refine L_rs ?_|refine L_reg ?_ | skip
  refine eE rfl rfl (EW.irange rfl (by kernel_rfl) rfl rfl) ?_
  conv=>whnf
  refine S_done [] rfl (Nx.pick [0,1,2,13] [0,1,2,3,4] rfl rfl rfl ?_)
  refine L_block (L_loop (fun r l L=>∃ seen:List Nat,r=unseen G seen∧(∀ x∈G,x.2.2∈seen→¬ (p<x.1+pagesC x.2.1∧x.1<p+m))∧l=[(0,ptr 0),(1,.int .i64 p),(2,.int .i64 m),(13,ptr 4)]∧L=SetL key bs G c++[.iter (some 3) c seen c]) (unseen G []) ⟨[],rfl,by simp,rfl,rfl⟩ ?_)
  rintro r _ _ ⟨seen,rfl,hs,rfl,rfl⟩
  refine L_rs (S_E [] rfl rfl (EW.inext rfl rfl rfl rfl) ?_)
  rintro _ _ (⟨e,he,hns,rfl,rfl⟩ | ⟨hall,rfl,rfl⟩)
  ·refine ⟨trivial,LSt.nf ?_⟩
   conv=>whnf
   refine S_done [] rfl (Nx.goL (L_seq (L_true rfl (L_skip (Nx.goL (L_block ?_))))))
   have hx:=hG e he
   have hP:=pagesC_bd e.2.1
   first|refine L_rs ?_|refine L_reg ?_ | skip
   refine eE rfl rfl (EW.ientry rfl rfl rfl rfl he) ?_
   conv=>whnf
   repeat' (first|refine qN ?_|refine dN ?_|fail)
   first|refine L_rs ?_|refine L_reg ?_ | skip
   refine cP [] (run_tr e.2.1) ?_
   repeat' (first|refine qN ?_|refine dN ?_|refine rT ?_|refine qU ?_|refine qK ?_|refine iF (fun h=>?_) (fun h=>?_)|refine aA ?_|refine sP 25 (fun h=>?_) (fun h=>?_)|fail)
   ·refine ⟨congrArg Value.bool ?_,rfl⟩
    rw [Eq.comm,meetsG,List.any_eq_true]
    exact ⟨e,he,by simp; omega⟩
   all_goals
    refine Nx.pick [0,1,2,13] [0,1,2,3,4] rfl rfl rfl ⟨unseen G (seen++[e.2.2]),unseen_lt he hns,seen++[e.2.2],rfl,fun x hx1 hx2=>?_,rfl,rfl⟩
    rcases List.mem_append.1 hx2 with hx2 | hx2
    ·exact hs x hx1 hx2
    ·rw [List.mem_singleton] at hx2
     rw [hO.born hx1 he hx2]
     omega
  ·refine ⟨trivial,?_⟩
   repeat' (first|refine dN ?_|refine qU ?_|refine qE ?_|refine qS ?_|fail)
   exact Nx.pick [] [0,1,2,3] rfl rfl rfl ⟨by rw [meetsG,List.any_eq_false]; intro x hx; have:=hs x hx (hall x hx); simp; omega,rfl,rfl⟩
 ·rintro _ _ ⟨hq,rfl,rfl⟩
  repeat' (first|refine qN ?_|refine dN ?_|refine rT ?_|fail)
  refine ⟨?_,rfl⟩
  rw [hq]; rfl
theorem no_find {G:Great} {p n:Int} (hG:Small G 256) (hn:greatC n=true) (hm:meetsG G p (pagesC n)=false):gfind G p=none:=by
 cases hf:gfind G p with
 | none=>rfl
 | some x =>
  obtain ⟨h1,h2⟩:=gfind_some hf
  rw [meetsG,List.any_eq_false] at hm
  have h3:=hm x h1
  obtain ⟨_,h5,_⟩:=hG x h1
  have e1:1≤pagesC n:=by unfold pagesC; unfold greatC at hn; simp at hn; rw [if_neg (by omega)]; omega
  have e2:1≤pagesC x.2.1:=by unfold pagesC; unfold greatC at h5; simp at h5; rw [if_neg (by omega)]; omega
  simp only [decide_eq_true_eq] at h3
  omega
def madeB (key:BitVec 64) (bs:Bytes) (p M:Nat):Bytes:=overB (overB bs (256*p) (List.replicate (256*M) 0)) (256*(p+M)-8) (putB (canW key (256*p)) 8)
theorem madeB_length {key:BitVec 64} {bs:Bytes} {p M:Nat} (h:256*(p+M)≤bs.length) (hM:1≤M):(madeB key bs p M).length=bs.length:=by
 unfold madeB
 have h1:(overB bs (256*p) (List.replicate (256*M) 0)).length=bs.length:=overB_length (by rw [List.length_replicate]; omega)
 rw [overB_length (by rw [putB_length,h1]; omega),h1]
theorem greatC_pages {n:Int} (h:greatC n=true):∃ M:Nat,pagesC n=M∧1≤M∧M≤17:=by
 have h1:=pagesC_bd n
 have e1:1≤pagesC n:=by unfold pagesC; unfold greatC at h; simp at h; rw [if_neg (by omega)]; omega
 exact ⟨(pagesC n).toNat,by omega,by omega,by omega⟩
set_option maxHeartbeats 1000000 in
theorem largeMake_ok (key:BitVec 64) (bs:Bytes) (N:Nat) (hN:bs.length=256*N) (hN2:N≤256) (G:Great) (c:Nat) (hG:Small G 256) (hO:GOk G c) (p M:Nat) (n:Int) (hn:greatC n=true) (hM:pagesC n=M) (hpM:p+M≤N) (hm:meetsG G p M=false) :
  Tr Tryz.prog 104 [ptr 0,.int .i64 p,.int .i64 n] (SetL key bs G c) (fun v K=>v=.int .i64 0∧K=SetL key (madeB key bs p M) (gput G p n c) (c+1)):=by
 obtain ⟨M',hM',hM1,hM17⟩:=greatC_pages hn
 obtain rfl:M'=M:=by omega
 have hb:bs.length≤65536:=by omega
 have hP:=Pages_tr n
 rw [hM,hn] at hP
 have hf:gfind G p=none:=no_find hG hn (by rw [hM]; exact hm)
 have hX:=meets_tr key bs G c hG hO p M' (by omega) (by omega)
 rw [hm] at hX
 have hl1:(overB bs (256*p) (List.replicate (256*M') 0)).length=bs.length:=overB_length (by rw [List.length_replicate]; omega)
 have hF:=arenaFill_ok bs hb (256*p) (256*M') 0 (by omega)
 rw [AL_over (by rw [List.length_replicate]; omega)] at hF
 have hC:=canary_tr key (overB bs (256*p) (List.replicate (256*M') 0)) (gput G p n c) (c+1) p n (by omega)
 rw [hM,show 256*((p:Int)+M')-8=((256*(p+M')-8:Nat):Int) by omega] at hC
 have hS:=arenaSetWord_ok (overB bs (256*p) (List.replicate (256*M') 0)) (by omega) (256*(p+M')-8) (by rw [hl1]; omega) (by omega) (canW key (256*p))
 refine Tr.of row_large_Set_Make_ok rfl ?_
 repeat' (first|refine qN ?_|refine dN ?_|fail)
 first|refine L_rs ?_|refine L_reg ?_ | skip
 refine cP [] (hP) ?_
 repeat' (first|refine qN ?_|refine dN ?_|refine qB ?_|refine qU ?_|refine qS ?_|fail)
 first|refine L_rs ?_|refine L_reg ?_ | skip
 refine cP [1,2] (arenaLen_tr bs) ?_
 repeat' (first|refine qN ?_|refine dN ?_|refine rT ?_|refine iF (fun h=>?_) (fun h=>?_)|refine aS ?_|refine aD ?_|fail)
 ·exfalso; omega
 first|refine L_rs ?_|refine L_reg ?_ | skip
 refine cP [0,1,2,3] (hX) ?_
 repeat' (first|refine qN ?_|refine dN ?_|refine qU ?_|refine qL ?_|refine aM ?_|fail)
 first|refine L_rs ?_|refine L_reg ?_ | skip
 refine cF [1,2] (hF) ?_
 conv=>whnf
 repeat' (first|refine qN ?_|refine dN ?_|fail)
 first|refine L_rs ?_|refine L_reg ?_ | skip
 refine eE rfl rfl (EW.iputN rfl (by kernel_rfl) rfl rfl rfl rfl hf) ?_
 conv=>whnf
 simp only [SetL,hl1] at hC
 have hl2:=madeB_length (key:=key) (bs:=bs) (p:=p) (M:=M') (by omega) hM1
 simp only [AL,hl1,overB_length (show 256*(p+M')-8+(putB (canW key (256*p)) 8).length≤(overB bs (256*p) (List.replicate (256*M') 0)).length by rw [hl1,putB_length]; omega)] at hS
 repeat' (first|refine qN ?_|refine dN ?_|fail)
 first|refine L_rs ?_|refine L_reg ?_ | skip
 refine cP [0,1,2,3] (hC) ?_
 repeat' (first|refine qN ?_|refine dN ?_|fail)
 first|refine L_rs ?_|refine L_reg ?_ | skip
 refine cF [1,2] (hS) ?_
 conv=>whnf
 repeat' (first|refine dN ?_|refine rT ?_|fail)
 refine ⟨rfl,?_⟩
 simp only [SetL,hl2]
 rfl
end Go.Proofs.YtgfjgfapigekiaaGreat
end
section
namespace Go.Tum.Base
open Go Go.Tum
abbrev Words:=List (BitVec 64)
def bitAt (ws:Words) (i:Nat):Bool:=(ws.getD (i / 64) 0).getLsbD (i % 64)
def putBit (ws:Words) (i:Nat) (v:Bool):Words:=ws.set (i / 64) (if v then ws.getD (i / 64) 0 ||| (1#64 <<< (i % 64)) else ws.getD (i / 64) 0 &&& ~~~ (1#64 <<< (i % 64)))
theorem putBit_length (ws:Words) (i:Nat) (v:Bool):(putBit ws i v).length=ws.length:=by simp [putBit]
theorem bit_test (w:BitVec 64) (k:Nat):((((w >>> k) &&& 1#64).toNat:Int) == 1)=w.getLsbD k:=by
 have h:(w >>> k &&& 1#64)=if w.getLsbD k then 1#64 else 0#64:=by
  apply BitVec.eq_of_getLsbD_eq
  intro j hj
  rw [BitVec.getLsbD_and,BitVec.getLsbD_ushiftRight]
  by_cases h0:j=0
  ·subst h0; cases w.getLsbD k <;> simp
  ·cases w.getLsbD k <;> simp [h0,BitVec.getLsbD_one]
 rw [h]
 cases w.getLsbD k <;> rfl
theorem bitAt_put {ws:Words} {i:Nat} (v:Bool) (h:i / 64<ws.length) (j:Nat):bitAt (putBit ws i v) j=if j=i then v else bitAt ws j:=by
 unfold bitAt putBit
 rw [List.getD_eq_getElem?_getD,List.getElem?_set]
 by_cases hq:i / 64=j / 64
 ·rw [if_pos hq,if_pos h,Option.getD_some,← hq]
  have hm:j % 64<64:=Nat.mod_lt _ (by decide)
  by_cases e:j=i
  ·subst e
   rw [if_pos rfl]
   cases v
   ·simp [hm]
   ·simp [hm]
  ·rw [if_neg e]
   have hne:j % 64≠i % 64:=by omega
   cases v
   ·simp only [Bool.false_eq_true,if_false,BitVec.getLsbD_and,BitVec.getLsbD_not,BitVec.getLsbD_shiftLeft,BitVec.getLsbD_one]
    by_cases h2:j % 64<i % 64
    ·simp [hm,h2]
    ·have:¬ j % 64-i % 64=0:=by omega
     simp [hm,h2,this]
   ·simp only [if_true,BitVec.getLsbD_or,BitVec.getLsbD_shiftLeft,BitVec.getLsbD_one]
    by_cases h2:j % 64<i % 64
    ·simp [hm,h2]
    ·have:¬ j % 64-i % 64=0:=by omega
     simp [hm,h2,this]
 ·rw [if_neg hq,if_neg (fun e=>hq (by rw [e])),List.getD_eq_getElem?_getD]
end Go.Tum.Base
namespace Go.Proofs.YtgfjgfapigekiaaGreat
open Go Go.Tum Go.Tum.Base
set_option maxRecDepth 4000
def BS (ws:Words) (n:Nat):LH:=[.cells 0 [slB 1 ws.length,.int .i64 n],.gro 1 (rowsC wordC ws)]
theorem bsLen_tr (ws:Words) (n:Nat):Tr Tryz.prog 113 [ptr 0] (BS ws n) (fun v K=>v=.int .i64 n∧K=BS ws n):=by
 refine Tr.of row_bitset_Set_Len_ok rfl ?_
 repeat' (first|refine qN ?_|refine dN ?_|refine rT ?_|refine qU ?_|refine qL ?_|refine qS ?_|exact ⟨rfl,rfl⟩|fail)
theorem bsIn_tr (ws:Words) (n:Nat) (i:Int):Tr Tryz.prog 151 [ptr 0,.int .i64 i] (BS ws n) (fun v K=>v=.bool (decide (0≤i∧i<n))∧K=BS ws n):=by
 refine Tr.of row_bitset_Set_in_ok rfl ?_
 repeat' (first|refine qN ?_|refine dN ?_|refine rT ?_|refine sP 7 (fun h=>?_) (fun h=>?_)|fail)
 ·first|refine L_rs ?_|refine L_reg ?_ | skip
  refine cP [0,1] (bsLen_tr ws n) ?_
  repeat' (first|refine dN ?_|refine rT ?_|fail)
  refine ⟨congrArg Value.bool ?_,rfl⟩
  rw [decide_eq_decide]; omega
 ·refine ⟨congrArg Value.bool ?_,rfl⟩
  symm; rw [decide_eq_false_iff_not]; omega
theorem bsHas_ok (ws:Words) (n:Nat) (hn:n≤65536) (hw:n≤64*ws.length) (i:Nat) (h:i<n):Tr Tryz.prog 114 [ptr 0,.int .i64 i] (BS ws n) (fun v K=>v=.bool (bitAt ws i)∧K=BS ws n):=by
 have hI:=bsIn_tr ws n i
 rw [decide_eq_true (by omega)] at hI
 have hk:i / 64<ws.length:=by omega
 refine Tr.of row_bitset_Set_Has_ok rfl ?_
 repeat' (first|refine qN ?_|refine dN ?_|fail)
 first|refine L_rs ?_|refine L_reg ?_ | skip
 refine cP [0,1] (hI) ?_
 first|refine L_rs ?_|refine L_reg ?_ | skip
 refine S_Q [] rfl rfl (QY.divN (c:=((i / 64:Nat):Int)) rfl rfl (by omega) (by omega) (by omega)) ?_
 first|refine L_rs ?_|refine L_reg ?_ | skip
 refine S_Q [] rfl rfl (QY.idxN rfl rfl hk) ?_
 first|refine L_rs ?_|refine L_reg ?_ | skip
 refine S_Q [] rfl rfl (QY.ldW rfl rfl (List.getElem?_eq_getElem hk)) ?_
 first|refine L_rs ?_|refine L_reg ?_ | skip
 refine S_Q [] rfl rfl (QY.remN (c:=((i % 64:Nat):Int)) rfl rfl (by omega) (by omega) (by omega)) ?_
 first|refine L_rs ?_|refine L_reg ?_ | skip
 refine S_Q [] rfl rfl (QY.shrW (n:=i % 64) rfl rfl) ?_
 first|refine L_rs ?_|refine L_reg ?_ | skip
 refine S_Q [] rfl rfl (QY.andW (b:=1#64) rfl rfl) ?_
 repeat' (first|refine dN ?_|refine rT ?_|fail)
 refine ⟨?_,rfl⟩
 show Value.bool ((((ws[i / 64] >>> (i % 64)) &&& 1#64).toNat:Int) == 1)=_
 rw [bit_test,bitAt,List.getD_eq_getElem?_getD,List.getElem?_eq_getElem hk]
 rfl
theorem bsPut_ok (ws:Words) (n:Nat) (hn:n≤65536) (hw:n≤64*ws.length) (i:Nat) (h:i<n) (v:Bool):Tr Tryz.prog 119 [ptr 0,.int .i64 i,.bool v] (BS ws n) (fun u K=>u=.int .i64 0∧K=BS (putBit ws i v) n):=by
 have hI:=bsIn_tr ws n i
 rw [decide_eq_true (by omega)] at hI
 have hk:i / 64<ws.length:=by omega
 have hg:ws.getD (i / 64) 0=ws[i / 64]:=by rw [List.getD_eq_getElem?_getD,List.getElem?_eq_getElem hk]; rfl
 have hK:∀ v,BS (putBit ws i v) n=[.cells 0 [slB 1 ws.length,.int .i64 n],.gro 1 (rowsC wordC (putBit ws i v))]:=fun v=>by rw [BS,putBit_length]
 rw [hK]
 unfold putBit
 rw [hg]
 refine Tr.of row_bitset_Set_Put_ok rfl ?_
 cases v
 ·repeat' (first|refine qN ?_|refine dN ?_|refine qB ?_|refine qU ?_|refine qS ?_|fail)
  first|refine L_rs ?_|refine L_reg ?_ | skip
  refine cP [0,1] (hI) ?_
  repeat' (first|refine qN ?_|refine dN ?_|refine qU ?_|refine qR ?_|fail)
  first|refine L_rs ?_|refine L_reg ?_ | skip
  refine S_Q [] rfl rfl (QY.divN (c:=((i / 64:Nat):Int)) rfl rfl (by omega) (by omega) (by omega)) ?_
  first|refine L_rs ?_|refine L_reg ?_ | skip
  refine S_Q [] rfl rfl (QY.idxN rfl rfl hk) ?_
  first|refine L_rs ?_|refine L_reg ?_ | skip
  refine S_Q [] rfl rfl (QY.ldW rfl rfl (List.getElem?_eq_getElem hk)) ?_
  first|refine L_rs ?_|refine L_reg ?_ | skip
  refine S_Q [] rfl rfl (QY.remN (c:=((i % 64:Nat):Int)) rfl rfl (by omega) (by omega) (by omega)) ?_
  first|refine L_rs ?_|refine L_reg ?_ | skip
  refine S_Q [] rfl rfl (QY.shlW (a:=1#64) (n:=i % 64) rfl rfl) ?_
  first|refine L_rs ?_|refine L_reg ?_ | skip
  refine S_Q [] rfl rfl (QY.andNotW rfl rfl) ?_
  first|refine L_rs ?_|refine L_reg ?_ | skip
  refine S_Q [] rfl rfl (QY.idxN rfl rfl hk) ?_
  first|refine L_rs ?_|refine L_reg ?_ | skip
  refine eE rfl rfl (EW.stW (k:=i / 64) rfl rfl rfl hk) ?_
  conv=>whnf
  repeat' (first|refine qN ?_|refine dN ?_|refine rT ?_|exact ⟨rfl,rfl⟩|fail)
 ·repeat' (first|refine qN ?_|refine dN ?_|refine qB ?_|refine qU ?_|refine qS ?_|fail)
  first|refine L_rs ?_|refine L_reg ?_ | skip
  refine cP [0,1] (hI) ?_
  repeat' (first|refine qN ?_|refine dN ?_|refine qT ?_|refine qU ?_|refine qR ?_|fail)
  first|refine L_rs ?_|refine L_reg ?_ | skip
  refine S_Q [] rfl rfl (QY.divN (c:=((i / 64:Nat):Int)) rfl rfl (by omega) (by omega) (by omega)) ?_
  first|refine L_rs ?_|refine L_reg ?_ | skip
  refine S_Q [] rfl rfl (QY.idxN rfl rfl hk) ?_
  first|refine L_rs ?_|refine L_reg ?_ | skip
  refine S_Q [] rfl rfl (QY.ldW rfl rfl (List.getElem?_eq_getElem hk)) ?_
  first|refine L_rs ?_|refine L_reg ?_ | skip
  refine S_Q [] rfl rfl (QY.remN (c:=((i % 64:Nat):Int)) rfl rfl (by omega) (by omega) (by omega)) ?_
  first|refine L_rs ?_|refine L_reg ?_ | skip
  refine S_Q [] rfl rfl (QY.shlW (a:=1#64) (n:=i % 64) rfl rfl) ?_
  first|refine L_rs ?_|refine L_reg ?_ | skip
  refine S_Q [] rfl rfl (QY.orW rfl rfl) ?_
  first|refine L_rs ?_|refine L_reg ?_ | skip
  refine S_Q [] rfl rfl (QY.idxN rfl rfl hk) ?_
  first|refine L_rs ?_|refine L_reg ?_ | skip
  refine eE rfl rfl (EW.stW (k:=i / 64) rfl rfl rfl hk) ?_
  conv=>whnf
  repeat' (first|refine qN ?_|refine dN ?_|refine rT ?_|exact ⟨rfl,rfl⟩|fail)
theorem bsNew_tr (p:Int) (n:Nat) (hn:min (max p 0) 65536=n):Tr Tryz.prog 132 [.int .i64 p] [] (fun v K=>v=ptr 0∧K=BS (List.replicate ((n+63) / 64) 0) n):=by
 have hn':(imm false (imm true p 0) 65536)=n:=hn
 refine Tr.of row_bitset_New_ok rfl ?_
 refine L_rs (S_done [] rfl (Nx.goL (L_rs (S_done [] rfl (Nx.goL ?_)))))
 rw [hn']
 have hq:((n:Int)+64-1) / 64=((n+63) / 64:Nat):=by omega
 first|refine L_rs ?_|refine L_reg ?_ | skip
 refine S_Q [] rfl rfl (QY.add rfl rfl rfl (by omega) (by omega)) ?_
 first|refine L_rs ?_|refine L_reg ?_ | skip
 refine S_Q [] rfl rfl (QY.sub rfl rfl rfl (by omega) (by omega)) ?_
 first|refine L_rs ?_|refine L_reg ?_ | skip
 refine S_Q [] rfl rfl (QY.divN rfl rfl hq (by omega) (by omega)) ?_
 first|refine L_rs ?_|refine L_reg ?_ | skip
 refine eE rfl rfl (EW.mk (sz:=1) (bytes:=8) (k:=(n+63) / 64) (zs:=wordC 0) rfl (by kernel_rfl) rfl rfl (by omega) (by omega)) ?_
 conv=>whnf
 repeat' (first|refine dN ?_|fail)
 refine L_ret (RetQ.pick [1,0] rfl rfl rfl rfl ⟨rfl,?_⟩)
 rw [repC_rows (0:BitVec 64),BS,List.length_replicate]
 rfl
end Go.Proofs.YtgfjgfapigekiaaGreat
end
section
namespace Go.Tum
open Go
section
variable {P:Program} {n0:NA} {L:LH} {l:Env}
theorem L2.setL {R:Value→Value→Prop}:∀ {x y:List Value} {j:Nat} {u:Value},L2 R x y→(∀ a c,x[j]?=some a→R a c→R u c)→L2 R (x.set j u) y
 | [],_,_,_,h,_=>h
 | _::_,[],_,_,h,_=>h.elim
 | a::x,c::y,0,u,h,hu=>⟨hu a c rfl h.1,h.2⟩
 | a::x,c::y,j+1,u,h,hu=>⟨h.1,L2.setL h.2 fun a' c' ha=>hu a' c' (by simpa using ha)⟩
theorem rep_nilC {b j sz:Nat} (szg:Nat) {vs:List Value} {X:Nat→Prop} {w0 w:World} {E:Emb} (hb:L[b]?=some (.cells sz vs)) (hv:vs[j]?=some (.slice none 0 0)) (hR:Rep X w0 E L w):Rep X w0 (E++[(0,0,0)]) (L.set b (.cells sz (vs.set j (.slice (some ⟨L.length,0,none⟩) 0 0)))++[.gro szg []]) w:=by
 have h1:Rep X w0 (E++[(0,0,0)]) (L++[.gro szg []]) w:=hR.push (Fr.refl _ w) (fun _ h=>h.elim) (.inl ⟨rfl,rfl⟩)
 have hlast:(E++[(0,0,0)])[L.length]?=some (0,0,0):=by rw [← hR.len]; simp
 have hlt:=(List.getElem?_eq_some_iff.1 hb).1
 have hb1:(L++[LB.gro szg []])[b]?=some (.cells sz vs):=by rw [List.getElem?_append_left hlt]; exact hb
 obtain ⟨r,hr⟩:=h1.ent hb1
 obtain ⟨cs,hB,hl2,hroom,hz⟩:=h1.blk b _ r hb1 hr
 have h2:=h1.upd (x:=.cells sz (vs.set j (.slice (some ⟨L.length,0,none⟩) 0 0))) hb1 hr (Fr.refl _ w) ⟨cs,hB,?_,by rw [List.length_set]; exact hroom,hz⟩ (fun _ h=>.inl h)
 ·rw [List.set_append_left _ _ hlt] at h2; exact h2
 ·rw [List.length_set]
  refine L2.setL hl2 fun a c ha hc=>?_
  rw [hv] at ha; cases ha
  have hc:c=Value.slice none 0 0:=hc
  subst hc
  exact ⟨rfl,_,hlast,.inr ⟨rfl,rfl,_,rfl⟩⟩
theorem LWp.nilC {m:MC} {Q:Exit→Env→LH→Prop} (b j szg:Nat) {sz:Nat} {vs:List Value} (hb:L[b]?=some (.cells sz vs)) (hv:vs[j]?=some (.slice none 0 0)) (h:LWp P n0 m Q l (L.set b (.cells sz (vs.set j (.slice (some ⟨L.length,0,none⟩) 0 0)))++[.gro szg []])):LWp P n0 m Q l L :=
 ⟨fun X w0 E0 w E l' h0 hE hR hl=>h.go X w0 E0 w (E++[(0,0,0)]) l' h0 (hE.trans (Ext.push E _)) (rep_nilC szg hb hv hR) (hl.ext (Ext.push E _))⟩
theorem Tr.nilC {A:Args} {keep:List Nat} {f:FuncId} {us:List Value} {v1:Value} {K1:LH} (b j szg:Nat) {sz:Nat} {vs:List Value} (h:TrK P A keep f us L (fun v K=>v=v1∧K=K1)) (hb:K1[b]?=some (.cells sz vs)) (hv:vs[j]?=some (.slice none 0 0)):TrK P A keep f us L (fun v K=>v=v1∧K=K1.set b (.cells sz (vs.set j (.slice (some ⟨K1.length,0,none⟩) 0 0)))++[.gro szg []]):=by
 intro X w0 w E vs' h0 hR hv'
 obtain ⟨h1,h2⟩:=h X w0 w E vs' h0 hR hv'
 refine ⟨h1,h2.mono ?_⟩
 rintro v' w' ⟨E',v,L',hE,hle,hvr,hR',rfl,rfl⟩
 exact ⟨_,v,_,hE.trans (Ext.push E' _),by simp; omega,hvr.ext (Ext.push E' _),rep_nilC szg hb hv hR',rfl,rfl⟩
end
end Go.Tum
end
section
namespace Go.Tum
open Go Go.RowKit Go.WideShapes Go.ChangeShapes Go.Deep
instance : Inhabited AV:=⟨.v undef⟩
def AV.val:AV→Value
 | .v u=>u
 | .s a n c _ _=>.slice (some ⟨a.block,a.off,some 0⟩) n c
def AV.still:AV→Bool
 | .v u=>stillS u
 | .s _ _ _ _ _=>true
theorem AV.sr {X:Nat→Prop} {w0:World} {E:Emb}:∀ {a:AV} {y:Value},a.is X w0 y→a.still=true→SR E a.val y
 | .v _,_,h,hs=>by
  have h:_=_:=h
  subst h
  exact SR.still hs
 | .s _ _ _ _ _,_,h,_=>h.1
def rowF (sz:Nat) (F:Nat→List AV):Nat→AV:=fun q=>(F (q / sz)).getD (q % sz) (.v undef)
theorem rowF_at {sz i j:Nat} {F:Nat→List AV} {u:AV} (hl:(F i).length=sz) (hu:(F i)[j]?=some u):rowF sz F (i*sz+j)=u:=by
 have hj:j<sz:=by rw [← hl]; exact (List.getElem?_eq_some_iff.1 hu).1
 have h1:(i*sz+j) / sz=i:=by rw [Nat.mul_comm,Nat.mul_add_div (by omega),Nat.div_eq_of_lt hj,Nat.add_zero]
 have h2:(i*sz+j) % sz=j:=by rw [Nat.mul_comm,Nat.mul_add_mod,Nat.mod_eq_of_lt hj]
 simp [rowF,h1,h2,hu]
theorem L2.ofIdx {R:Value→Value→Prop}:∀ {x y:List Value},x.length=y.length→(∀ (i:Nat) (a b:Value),x[i]?=some a→y[i]?=some b→R a b)→L2 R x y
 | [],[],_,_=>trivial
 | a::x,b::y,h,k=>⟨k 0 a b rfl rfl,L2.ofIdx (Nat.succ.inj h) fun i a b ha hb=>k (i+1) a b ha hb⟩
 | [],_::_,h,_=>by cases h
 | _::_,[],h,_=>by cases h
section
variable {P:Program} {n0:NA} {Q:Exit→Env→LH→Prop} {l:Env} {L:LH}
theorem QY.rowF {x:Operand} {k o n sz j:Nat} {F:Nat→List AV} (i:Nat) (hx:lv l x=some (.pointer (some ⟨k,o,none⟩))) (hA:n0.A[j]?=some (k,n*sz,Go.Tum.rowF sz F)) (ho:o=i*sz) (hi:i<n) (hl:(F i).length=sz) (hs:(F i).all AV.still=true):QY P n0 L l (.ldn x sz) (.agg ⟨(F i).map AV.val⟩):=by
 intro X w0 E0 w E l' h0 hE hR hl'
 obtain ⟨_,h1,a',rfl,_,r,hr,rfl⟩:=lv_ev hl' hx
 have hr:E[k]?=some r:=hr
 subst ho
 obtain ⟨ys,hys⟩:=choose_lt (n:=sz) (p:=fun j' (y:Value)=>w.cell? ⟨r.1,r.2.1+(i*sz+j'),none⟩=some y∧(Go.Tum.rowF sz F (i*sz+j')).is X w0 y) fun j' hj'=>by
  have hlt:i*sz+j'<n*sz:=by
   have:(i+1)*sz≤n*sz:=Nat.mul_le_mul_right _ hi
   rw [Nat.add_mul] at this; omega
  obtain ⟨r',y,h2,h3,h4⟩:=arg_cell h0 hE hR (List.mem_of_getElem? hA) hlt
  rw [hr] at h2; cases h2
  exact ⟨y,h3,h4⟩
 refine ⟨.agg ⟨(List.range sz).map ys⟩,⟨_,⟨(List.range sz).map ys⟩,h1,by simp,fun j' hj'=>?_,rfl⟩,⟨_,rfl,L2.ofIdx (by simp [hl]) fun j' a b ha hb=>?_⟩⟩
 ·rw [add_none,List.getElem?_toArray,List.getElem?_map,List.getElem?_range hj']
  show _=some (ys j')
  rw [← (hys j' hj').1]
  congr 2; show i*sz+r.2.1+j'=_; omega
 ·have hj':j'<sz:=by
   have:=(List.getElem?_eq_some_iff.1 hb).1
   rw [List.length_map,List.length_range] at this
   exact this
  rw [List.getElem?_map,List.getElem?_range hj'] at hb
  cases hb
  have hu:(F i)[j']?=some ((F i)[j']'(by omega)):=List.getElem?_eq_getElem (by omega)
  rw [List.getElem?_map,hu] at ha
  cases ha
  have h4:=(hys j' hj').2
  rw [rowF_at hl hu] at h4
  exact AV.sr h4 (List.all_eq_true.1 hs _ (List.getElem_mem _))
theorem QY.idxR {x i:Operand} {b o s n c k sz:Nat} {kd:IntKind} (hx:lv l x=some (.slice (some ⟨b,o,some s⟩) n c)) (hi:lv l i=some (.int kd (k:Int))) (h1:k<n):QY P n0 L l (.idx x i sz) (.pointer (some ⟨b,o+k*sz,some s⟩)):=by
 intro X w0 E0 w E l' h0 hE hR hl
 obtain ⟨_,g1,rfl | ⟨h2,_,_⟩⟩:=lv_ev hl hx
 rotate_left
 ·omega
 obtain ⟨_,g5,rfl⟩:=lv_ev hl hi
 refine ⟨_,⟨_,n,_,kd,(k:Int),g1,g5,by omega,by omega,rfl⟩,?_⟩
 rw [add_none]
 rfl
end
inductive CN where
 | c (k:CK)
 | s (ks:List CN)
def CnOk:Nat→CN→AV→Prop
 | 0,_,_=>False
 | _+1,.c k,a=>∃ v,a=.v v∧CkOk k v
 | d+1,.s ks,a=>∃ b o n c F,a=.s ⟨b,o,none⟩ n c (n*ks.length) (rowF ks.length F)∧n≤c∧c≤9223372036854775807∧∀ i,i<n→(F i).length=ks.length∧∀ (j:Nat) (k:CN),ks[j]?=some k→∃ a',(F i)[j]?=some a'∧CnOk d k a'
def nestF (P:Program) (g:TypeId→Option (List CN)):List Field→Nat→Option (List CN)
 | [],_=>some []
 | f::fs,off=>match g f.type with
  | some ks=>if f.offset=off∧P.cellsOf f.type=ks.length then (match nestF P g fs (off+ks.length) with
   | some r=>some (ks++r)
   | none=>none) else none
  | none=>none
def nest (P:Program):Nat→TypeId→Option (List CN)
 | 0,_=>none
 | d+1,t=>match P.underlying t with
  | some (.int k)=>some [.c (some k)]
  | some .bool=>some [.c none]
  | some (.slice e)=>match nest P d e with
   | some ks=>if P.cellsOf e=ks.length∧0<ks.length then some [.s ks] else none
   | none=>none
  | some (.struct fs)=>match nestF P (nest P d) fs.toList 0 with
   | some ks=>if P.cellsOf t=ks.length then some ks else none
   | none=>none
  | _=>none
theorem CnOk.up:∀ {d:Nat} {k:CN} {a:AV},CnOk d k a→CnOk (d+1) k a
 | 0,_,_,h=>h.elim
 | _+1,.c _,_,h=>h
 | d+1,.s ks,a,h=>by
  obtain ⟨b,o,n,c,F,h1,h2,h3,h4⟩:=h
  exact ⟨b,o,n,c,F,h1,h2,h3,fun i hi=>⟨(h4 i hi).1,fun j k hk=>let ⟨a',g1,g2⟩:=(h4 i hi).2 j k hk; ⟨a',g1,g2.up⟩⟩⟩
section
variable {H:Type} {enc:TypeId × Value→H} {P:Program} {w:World}
def FitN (d:Nat) (w:World) (ks:List CN) (cs:List Value):Prop:=cs.length=ks.length∧∀ (i:Nat) (k:CN),ks[i]?=some k→∃ v a,cs[i]?=some v∧CnOk d k a∧a.is (fun _=>False) w v
theorem nestF_fits {d:Nat} {g:TypeId→Option (List CN)} {fuel:Nat} (hg:∀ t ks,g t=some ks→∀ cs x,DataW.trod enc P w 0 (fun _=>true) true fuel t cs=some x→FitN d w ks cs) :
  ∀ (fs:List Field) (off:Nat) (ks:List CN) (cs:List Value) (xs:List (DataW H × List MemPlace)),nestF P g fs off=some ks→fs.mapM (fun f=>DataW.trod enc P w 0 (fun _=>true) true fuel f.type ((cs.drop f.offset).take (P.cellsOf f.type)))=some xs →
   ∀ (i:Nat) (k:CN),ks[i]?=some k→∃ v a,cs[off+i]?=some v∧CnOk d k a∧a.is (fun _=>False) w v
 | [],off,ks,cs,xs,h,_,i,k,hk=>by simp only [nestF,Option.some.injEq] at h; subst h; simp at hk
 | f::fs,off,ks,cs,xs,h,hm,i,k,hk=>by
  simp only [nestF] at h
  cases h1:g f.type with
  | none=>rw [h1] at h; cases h
  | some k1 =>
   rw [h1] at h
   simp only at h
   split at h
   ·rename_i hc
    cases h2:nestF P g fs (off+k1.length) with
    | none=>rw [h2] at h; cases h
    | some k2 =>
     rw [h2] at h; cases h
     simp only [List.mapM_cons,Option.bind_eq_bind,Option.bind_eq_some_iff] at hm
     obtain ⟨x,hx,ys,hys,_⟩:=hm
     have hfit:=hg f.type k1 h1 _ _ hx
     by_cases hi:i<k1.length
     ·rw [List.getElem?_append_left hi] at hk
      obtain ⟨v,a,hv,hok⟩:=hfit.2 i k hk
      rw [List.getElem?_take] at hv
      split at hv
      ·rw [List.getElem?_drop,hc.1] at hv; exact ⟨v,a,hv,hok⟩
      ·cases hv
     ·rw [List.getElem?_append_right (by omega)] at hk
      obtain ⟨v,a,hv,hok⟩:=nestF_fits hg fs (off+k1.length) k2 cs ys h2 hys (i-k1.length) k hk
      exact ⟨v,a,by rw [show off+i=off+k1.length+(i-k1.length) by omega]; exact hv,hok⟩
   ·cases h
theorem fits_row {d:Nat} {ks:List CN} {cs:List Value} (h:FitN d w ks cs):∃ L:List AV,L.length=ks.length∧∀ (j:Nat) (k:CN),ks[j]?=some k→∃ v a,cs[j]?=some v∧L[j]?=some a∧CnOk d k a∧a.is (fun _=>False) w v:=by
 obtain ⟨f,hf⟩:=choose_lt (n:=ks.length) (p:=fun j (a:AV)=>∀ k,ks[j]?=some k→∃ v,cs[j]?=some v∧CnOk d k a∧a.is (fun _=>False) w v) fun j hj=>by
  obtain ⟨v,a,h1,h2,h3⟩:=h.2 j _ (List.getElem?_eq_getElem hj)
  refine ⟨a,fun k hk=>?_⟩
  rw [List.getElem?_eq_getElem hj] at hk; cases hk
  exact ⟨v,h1,h2,h3⟩
 refine ⟨(List.range ks.length).map f,by simp,fun j k hk=>?_⟩
 have hj:=(List.getElem?_eq_some_iff.1 hk).1
 obtain ⟨v,h1,h2,h3⟩:=hf j hj k hk
 exact ⟨v,f j,h1,by rw [List.getElem?_map,List.getElem?_range hj]; rfl,h2,h3⟩
theorem slice_av {d:Nat} {e:TypeId} {ks:List CN} {a:Addr} {len m nn:Nat} {D:Nat→DataW H} {Pl:Nat→List MemPlace} (hc:P.cellsOf e=ks.length) (hpos:0<ks.length) (hlm:len≤m)
  (hel:∀ i,i<m→∃ cs',w.cells? 0 (a.add (i*P.cellsOf e)) (P.cellsOf e)=some cs'∧DataW.trod enc P w 0 (fun _=>true) true nn e cs'=some (D i,Pl i))
  (hg:∀ cs x,DataW.trod enc P w 0 (fun _=>true) true nn e cs=some x→FitN d w ks cs) :
  ∃ F:Nat→List AV,(0<m→a.spot=none∧a.block<w.heap.size)∧(∀ i,i<m→(F i).length=ks.length∧∀ (j:Nat) (k:CN),ks[j]?=some k→∃ a',(F i)[j]?=some a'∧CnOk d k a') ∧
   ∀ i,i<m*ks.length→∃ y,w.cell? ⟨a.block,a.off+i,none⟩=some y∧(rowF ks.length F i).is (fun _=>False) w y:=by
 obtain ⟨get,hget⟩:=choose_lt (n:=m) (p:=fun i cs'=>w.cells? 0 (a.add (i*P.cellsOf e)) (P.cellsOf e)=some cs'∧DataW.trod enc P w 0 (fun _=>true) true nn e cs'=some (D i,Pl i)) hel
 obtain ⟨F,hF⟩:=choose_lt (n:=m) (p:=fun i (L:List AV)=>L.length=ks.length∧∀ (j:Nat) (k:CN),ks[j]?=some k→∃ v a,(get i)[j]?=some v∧L[j]?=some a∧CnOk d k a∧a.is (fun _=>False) w v) fun i hi=>fits_row (hg _ _ (hget i hi).2)
 obtain ⟨b,o,sp⟩:=a
 have hcell:∀ i,i<m→∀ (j:Nat) (u:Value),(get i)[j]?=some u→w.cell? ((⟨b,o,sp⟩:Addr).add (i*ks.length+j))=some u:=by
  intro i hi j u hu
  have:=(cells_cell (hget i hi).1).2 j u hu
  rw [add_add,hc] at this
  exact this
 have h00:0<m→sp=none∧b<w.heap.size:=by
  intro hm
  obtain ⟨v,_,hv,_⟩:=(hF 0 hm).2 0 _ (List.getElem?_eq_getElem hpos)
  have:=hcell 0 hm 0 v hv
  simp only [Nat.zero_mul,Nat.add_zero,Addr.add,if_true] at this
  have hsp:sp=none:=by
   cases sp with
   | none=>rfl
   | some x =>
    unfold World.cell? at this
    split at this
    ·simp at this
    ·cases this
  subst hsp
  refine ⟨rfl,?_⟩
  unfold World.cell? at this
  split at this
  ·rename_i hq; exact (Array.getElem?_eq_some_iff.1 hq).1
  ·cases this
 refine ⟨F,h00,fun i hi=>⟨(hF i hi).1,fun j k hk=>let ⟨v,a,_,h2,h3,_⟩:=(hF i hi).2 j k hk; ⟨a,h2,h3⟩⟩,fun i hi=>?_⟩
 have hdiv:i / ks.length<m:=Nat.div_lt_of_lt_mul (by rw [Nat.mul_comm]; exact hi)
 have hmod:i % ks.length<ks.length:=Nat.mod_lt _ hpos
 have hm:0<m:=Nat.lt_of_le_of_lt (Nat.zero_le _) hdiv
 obtain ⟨rfl,_⟩:=h00 hm
 obtain ⟨v,a,h1,h2,h3,h4⟩:=(hF _ hdiv).2 (i % ks.length) _ (List.getElem?_eq_getElem hmod)
 refine ⟨v,?_,?_⟩
 ·have:=hcell _ hdiv _ v h1
  rw [add_none,Nat.mul_comm,Nat.div_add_mod] at this
  exact this
 ·have:=rowF_at (F:=F) (i:=i / ks.length) (hF _ hdiv).1 h2
  rw [Nat.mul_comm,Nat.div_add_mod] at this
  rw [this]; exact h4
theorem nest_fits:∀ (d:Nat) (t:TypeId) (ks:List CN),nest P d t=some ks→∀ (fuel:Nat) (cs:List Value) (x:DataW H × List MemPlace),DataW.trod enc P w 0 (fun _=>true) true fuel t cs=some x→FitN d w ks cs:=by
 intro d
 induction d with
 | zero=>intro t ks h; cases h
 | succ d ih =>
  intro t ks h fuel cs x hx
  cases fuel with
  | zero=>cases hx
  | succ fuel =>
   simp only [nest] at h
   cases hu:P.underlying t with
   | none=>rw [hu] at h; cases h
   | some u =>
    rw [hu] at h
    cases u <;> simp only [reduceCtorEq] at h
    case int k =>
     cases h
     obtain ⟨n,e0,_,wn⟩:=DataW.trod_int hu hx
     subst e0
     refine ⟨rfl,fun i k' hk=>?_⟩
     cases i with
     | zero=>simp at hk; subst hk; exact ⟨_,.v _,rfl,⟨_,rfl,n,rfl,wn⟩,rfl⟩
     | succ i=>simp at hk
    case bool =>
     cases h
     obtain ⟨b,e0,_⟩:=DataW.trod_bool hu hx
     subst e0
     refine ⟨rfl,fun i k' hk=>?_⟩
     cases i with
     | zero=>simp at hk; subst hk; exact ⟨_,.v _,rfl,⟨_,rfl,b,rfl⟩,rfl⟩
     | succ i=>simp at hk
    case slice e =>
     cases hn:nest P d e with
     | none=>rw [hn] at h; cases h
     | some k1 =>
      rw [hn] at h
      simp only at h
      split at h
      rotate_left
      ·cases h
      rename_i hc
      cases h
      rcases open_slice hu hx with ⟨h0,_⟩ | ⟨a,len,cap,m,nn,D,Pl,h0,_,hl,hm,hmm,_,hel⟩
      ·subst h0
       refine ⟨rfl,fun i k' hk=>?_⟩
       cases i with
       | succ i=>simp at hk
       | zero =>
        simp at hk; subst hk
        exact ⟨_,.s ⟨0,0,none⟩ 0 0 (0*k1.length) (rowF k1.length fun _=>[]),rfl,⟨0,0,0,0,fun _=>[],rfl,by omega,by omega,fun i hi=>absurd hi (by omega)⟩,   .inr ⟨rfl,rfl,_,rfl⟩,fun h0=>absurd h0 (by omega)⟩
      ·subst h0
       have hm':m=cap:=by rw [hmm]; simp
       subst hm'
       have hmax:m≤9223372036854775807:=by unfold maxLen at hm; omega
       obtain ⟨F,h1,h2,h3⟩:=slice_av (d:=d) hc.1 hc.2 hl hel fun cs x hx=>ih e k1 hn nn cs x hx
       refine ⟨rfl,fun i k' hk=>?_⟩
       cases i with
       | succ i=>simp at hk
       | zero =>
        simp at hk; subst hk
        obtain ⟨b,o,sp⟩:=a
        rcases Nat.eq_zero_or_pos m with h0 | h0
        ·subst h0
         obtain rfl:len=0:=by omega
         exact ⟨_,.s ⟨b,o,none⟩ 0 0 (0*k1.length) (rowF k1.length fun _=>[]),rfl,⟨b,o,0,0,fun _=>[],rfl,by omega,by omega,fun i hi=>absurd hi (by omega)⟩,.inr ⟨rfl,rfl,_,rfl⟩,fun h0=>absurd h0 (by omega)⟩
        ·obtain ⟨rfl,hb⟩:=h1 h0
         have hle:len*k1.length≤m*k1.length:=Nat.mul_le_mul_right _ hl
         exact ⟨_,.s ⟨b,o,none⟩ len m (len*k1.length) (rowF k1.length F),rfl,⟨b,o,len,m,F,rfl,hl,hmax,fun i hi=>h2 i (by omega)⟩,.inl rfl,fun _=>⟨hb,fun x=>x,fun i hi=>h3 i (by omega)⟩⟩
    case struct fs =>
     cases hf:nestF P (nest P d) fs.toList 0 with
     | none=>rw [hf] at h; cases h
     | some k1 =>
      rw [hf] at h
      simp only at h
      split at h
      ·rename_i hc
       cases h
       have hx':(if cs.length=P.cellsOf t then (fs.toList.mapM fun f=>DataW.trod enc P w 0 (fun _=>true) true fuel f.type ((cs.drop f.offset).take (P.cellsOf f.type))).map fun xs=>((DataW.agg (xs.map (·.1)),xs.flatMap (·.2)):DataW H × List MemPlace) else none)=some x:=by
        rw [← hx]; simp only [DataW.trod,hu]
       split at hx'
       ·rename_i hl
        rw [Option.map_eq_some_iff] at hx'
        obtain ⟨xs,hxs,_⟩:=hx'
        refine ⟨by rw [hl,hc],fun i k hk=>?_⟩
        obtain ⟨v,a,h1,h2,h3⟩:=nestF_fits (enc:=enc) (w:=w) (fuel:=fuel) (fun t ks h cs x hx=>ih t ks h fuel cs x hx) fs.toList 0 _ cs xs hf hxs i k hk
        exact ⟨v,a,by simpa using h1,h2.up,h3⟩
       ·cases hx'
      ·cases h
def SlInN (w:World) (sz:Nat) (v:Value) (n:Nat) (F:Nat→List AV):Prop :=
 n≤9223372036854775807∧∃ r:Nat × Nat × Nat,∀ (E:Emb) (k:Nat),E[k]?=some r→VR E (.slice (some ⟨k,0,none⟩) n n) v∧ArgAt (fun _=>False) w E k (n*sz) (rowF sz F)
theorem open_inN {t e:TypeId} {d:Nat} {ks:List CN} {v:Value} {dd:DataW H} {p:List MemPlace} (ht:P.underlying t=some (.slice e)) (hk:nest P d e=some ks) (hc:P.cellsOf e=ks.length) (hpos:0<ks.length)
  (hv:∃ a len cap,v=.slice a len cap) (h:DataW.Trod enc P w 0 (fun _=>true) true t v dd p):∃ n F,SlInN w ks.length v n F∧∀ i,i<n→(F i).length=ks.length∧∀ (j:Nat) (k:CN),ks[j]?=some k→∃ a,(F i)[j]?=some a∧CnOk d k a:=by
 obtain ⟨a0,len,cap,rfl⟩:=hv
 obtain ⟨fuel,hf⟩:=h
 have hf':DataW.trod enc P w 0 (fun _=>true) true fuel t [.slice a0 len cap]=some (dd,p):=hf
 rcases open_slice ht hf' with ⟨h0,_⟩ | ⟨a,len',cap',m,nn,D,Pl,h0,_,hl,hm,hmm,hx,hel⟩
 ·cases h0
  exact ⟨0,fun _=>[],⟨by omega,(0,0,0),fun E k hE=>⟨⟨rfl,_,hE,.inr ⟨rfl,rfl,_,rfl⟩⟩,fun h0=>by omega⟩⟩,fun i hi=>absurd hi (by omega)⟩
 ·cases h0
  have hm':m=cap:=by rw [hmm]; simp
  subst hm'
  have hmax:len≤9223372036854775807:=by unfold maxLen at hm; omega
  obtain ⟨F,h1,h2,h3⟩:=slice_av (d:=d) hc hpos hl hel fun cs x hx=>nest_fits d e ks hk nn cs x hx
  obtain ⟨b,o,sp⟩:=a
  rcases Nat.eq_zero_or_pos m with hm0 | hm0
  ·subst hm0
   have hl0:len=0:=by omega
   subst hl0
   exact ⟨0,F,⟨by omega,(0,0,0),fun E k hE=>⟨⟨rfl,_,hE,.inr ⟨rfl,rfl,_,rfl⟩⟩,fun h0=>by omega⟩⟩,fun i hi=>absurd hi (by omega)⟩
  ·obtain ⟨rfl,hb⟩:=h1 hm0
   have hle:len*ks.length≤m*ks.length:=Nat.mul_le_mul_right _ hl
   exact ⟨len,F,⟨hmax,(b,o,m-len),fun E k hE=>⟨⟨rfl,_,hE,.inl ⟨_,_,rfl,.inl ⟨by simp,by simp; omega⟩⟩⟩,fun h0=>⟨_,hE,hb,fun x=>x,fun i hi=>h3 i (by omega)⟩⟩⟩,fun i hi=>h2 i (by omega)⟩
end
end Go.Tum
end
section
namespace Go.Tum
open Go
section
variable {P:Program} {n0:NA} {l l1:Env} {L L1 Lc:LH} {T T1:Taken} {K:Env→LH→Prop} {ss r:List Step} {d:Option Nat} {g:Option (Nat × Bool)} {pend:List Nat}
theorem cX {ι:Type} {V V2:ι→Value} {B K2:ι→LH} {C:ι→Prop} {keep:List Nat} {f:FuncId} {args:List Operand} {vs us:List Value} (φ:List Nat) (ht:TrK P [] keep f us Lc (fun v K=>∃ i,C i∧v=V i∧K=B i)) (hn:∀ i,C i→nE (dpush d (V2 i) l1) fun l=>nL (K2 i) fun L=>LSt P n0 r K l T1 L) (h:arun [] ss l T L=(.e d g (.call f args) pend::r,l1,T1,L1):=by exact rfl) (hg:gw g l1=some true:=by exact rfl)
  (hv:lvs l1 args=some vs:=by exact rfl) (he:us.map (rnV L1.length φ)=vs:=by exact rfl) (h1:φ.Nodup:=by decide) (h2:partL L1 φ φ Lc:=by repeat' (first|exact trivial|refine ⟨rfl,?_⟩|fail)) (hm:nmL (dropped keep 0 φ) φ 0 L1=true:=by kernel_rfl) (h3:∀ i,rnV (L1.length+(B i).length) (phi2 φ L1.length (B i)) (V i)=V2 i:=by exact fun _=>rfl) (h4:∀ i,joinQ φ L1 (B i)=K2 i:=by exact fun _=>rfl)
  (h5:disj (dropped keep 0 φ) n0.keep=true:=by kernel_rfl) (h6:nmE (dropped keep 0 φ) l1=true:=by kernel_rfl) (h7:nmT (dropped keep 0 φ) T1=true:=by kernel_rfl)
  (hc:∀ i,chkG P n0 φ T1 L1 (K2 i) pend:=by intro _; repeat' (first|exact trivial|refine ⟨.inl rfl,?_⟩|fail)):LSt P n0 ss K l T L :=
 S_Ed [] h hg ((EWd.call φ ht hv he (Part.of h1 h2) handed_nil hm).mono fun v K ⟨_,_,⟨i,hi,e1,e2⟩,e3,e4⟩=>(by subst e1; subst e2; exact ⟨i,hi,e3.trans (h3 i),e4.trans ((joinQ_eq h1).trans (h4 i))⟩:∃ i,C i∧v=V2 i∧K=K2 i)) h5 h6 h7 (by rintro _ _ ⟨i,hi,rfl,rfl⟩; exact ⟨hc i,LSt.nf (hn i hi)⟩)
end
end Go.Tum
end
section
namespace Go.Tum
open Go
section
variable {P:Program} {n0:NA} {l:Env} {L:LH}
theorem jgo_length (φ:List Nat) (xs:LH):∀ (M:LH) (i:Nat),(jgo φ xs i M).length=M.length
 | [],_=>rfl
 | _::r,i=>by simp [jgo,jgo_length φ xs r (i+1)]
theorem TrK.frame {keep keep2:List Nat} {f:FuncId} {us vs:List Value} {Lc K1 K2:LH} {v1 v2:Value} (φ:List Nat) (ht:TrK P [] keep f us Lc (fun v K=>v=v1∧K=K1)) (he:us.map (rnV L.length φ)=vs) (h1:φ.Nodup) (h2:partL L φ φ Lc) (hm:nmL (dropped keep 0 φ) φ 0 L=true)
  (h3:rnV (L.length+K1.length) (phi2 φ L.length K1) v1=v2) (h4:joinQ φ L K1=K2) (hk:disj (dropped keep 0 φ) keep2=true):TrK P [] keep2 f vs L (fun v K=>v=v2∧K=K2):=by
 intro X w0 w E vs' hA hR hv
 have h5:L2 (VR (subE E φ)) us vs':=by
  subst he
  rw [← hR.len] at hv
  exact L2.sub (f:=rnV E.length φ) (fun _ _ h=>VR.sub h) hv
 refine call_core (n0:=NA.mk L.length [] keep2) (E0:=E) ht (Part.of h1 h2) handed_nil hm hA (NA.Ext.refl _ _) hR h5 ?_
 rintro w' E' v' v L' ⟨_,_,⟨rfl,rfl⟩,rfl,rfl⟩ hx _ hR' hv'
 refine ⟨E',_,_,fun k r hk2 hr=>hx k r (disj_ok hk hk2) hr,?_,hv',hR',h3,(joinQ_eq h1).trans h4⟩
 rw [joinQ_eq h1,joinQ,List.length_append,jgo_length]
 omega
theorem dropped_inL {keep:List Nat}:∀ (n a b k:Nat),b≤k→k<b+n→inL (a+(k-b)) keep=false→inL k (dropped keep a (seqN b n))=true
 | 0,a,b,k,h1,h2,_=>by omega
 | n+1,a,b,k,h1,h2,h3=>by
  simp only [seqN,dropped]
  by_cases hk:k=b
  ·subst hk
   rw [Nat.sub_self,Nat.add_zero] at h3
   rw [h3]
   simp [inL]
  ·have:=dropped_inL (keep:=keep) n (a+1) (b+1) k (by omega) (by omega) (by rw [show a+1+(k-(b+1))=a+(k-b) by omega]; exact h3)
   cases inL a keep with
   | true=>simpa using this
   | false=>simp only [cond_false,inL,this]; cases Nat.beq b k <;> rfl
theorem EWd.whole {keep:List Nat} {f:FuncId} {args:List Operand} {vs:List Value} {R:Value→LH→Prop} (ht:TrK P [] keep f vs L R) (hv:lvs l args=some vs):EWd P n0 (seqN 0 L.length) (dropped keep 0 (seqN 0 L.length)) L l (.call f args) R:=by
 intro X w0 E0 w E l' Kf h0 hE hR hl hK
 obtain ⟨vs',h1,h2⟩:=lvs_evs hl hv
 have hc:=ht X w0 w E vs' ⟨hR.len,by simp,h0.2.2⟩ hR h2
 refine ⟨vs',h1,hc.2.mono ?_⟩
 rintro v' w' ⟨E',v,L',g1,g0,g2,g3,g4⟩
 refine hK w' E' v' v L' g4 (fun k r hk hr=>?_) (fun k x r b hk hx _ _=>?_) g3 g2
 ·refine g1 k r ?_ hr
  have hkl:k<L.length:=by rw [← hR.len]; exact (List.getElem?_eq_some_iff.1 hr).1
  cases hq:inL k keep with
  | true=>rfl
  | false =>
   have:=dropped_inL (keep:=keep) L.length 0 0 k (by omega) (by omega) (by simpa using hq)
   rw [hk] at this; cases this
 ·have hkl:k<L.length:=(List.getElem?_eq_some_iff.1 hx).1
  have:=seqN_get L.length 0 k hkl
  rw [Nat.zero_add] at this
  have:=inL_mem.2 (List.mem_of_getElem? this)
  rw [hk] at this; cases this
end
section
variable {P:Program} {n0:NA} {l:Env} {L:LH}
theorem TrK.fewer {keep keep':List Nat} {f:FuncId} {us:List Value} {R:Value→LH→Prop} (h:TrK P [] keep f us L R) (hk:(keep'.all fun k=>inL k keep)=true):TrK P [] keep' f us L R:=by
 intro X w0 w E vs' hA hR hv
 obtain ⟨h1,h2⟩:=h X w0 w E vs' ⟨hA.1,by simp,hA.2.2⟩ hR hv
 refine ⟨h1,h2.mono ?_⟩
 rintro v' w' ⟨E',v,L',g1,g0,g2,g3,g4⟩
 exact ⟨E',v,L',fun k r hq hr=>g1 k r (List.all_eq_true.1 hk k (inL_mem.1 hq)) hr,g0,g2,g3,g4⟩
end
end Go.Tum
end
section
namespace Go.Tum
open Go
section
variable {P:Program} {n0:NA} {l l1:Env} {L L1 Lc:LH} {T T1:Taken} {K:Env→LH→Prop} {ss r:List Step} {d:Option Nat} {g:Option (Nat × Bool)} {pend:List Nat}
theorem drop_all (N:Nat):dropped (seqN 0 N) 0 (seqN 0 N)=[]:=dropped_seq _ 0 N (by rw [seqN_length]; omega)
theorem cSame {v1:Value} {f:FuncId} {args:List Operand} {vs:List Value} (ht:Tr P f vs L1 (fun v K=>v=v1∧K=L1)) (hn:LSt P n0 r K (dpush d v1 l1) T1 L1) (h:arun [] ss l T L=(.e d g (.call f args) pend::r,l1,T1,L1):=by exact rfl) (hg:gw g l1=some true:=by exact rfl)
  (hv:lvs l1 args=some vs:=by exact rfl)
  (hc:chkG P n0 (seqN 0 L1.length) T1 L1 L1 pend:=by repeat' (first|exact trivial|fail)):LSt P n0 ss K l T L :=
 S_Ed [] h hg (EWd.whole ht hv) (by rw [drop_all]; exact disj_nil _) (by rw [drop_all]; exact nm_nilE _) (by rw [drop_all]; exact nm_nilT _) (by rintro _ _ ⟨rfl,rfl⟩; exact ⟨hc,hn⟩)
end
end Go.Tum
end
section
namespace Go.Tum
open Go
section
variable {X:Nat→Prop} {w0 w w':World} {E:Emb} {L:LH}
structure BoxAt (Es:Emb) (Ls:LH) (w:World):Prop where
 len:Es.length=Ls.length
 blk:∀ (k:Nat) (x:LB) (r:Nat × Nat × Nat),Ls[k]?=some x→Es[k]?=some r→LBis Es w r x
 inj:∀ (k k':Nat) (x x':LB) (r r':Nat × Nat × Nat) (b:Nat),Ls[k]?=some x→Ls[k']?=some x'→Es[k]?=some r→Es[k']?=some r'→foot r x b→foot r' x' b→k=k'
 lt:∀ (k:Nat) (x:LB) (r:Nat × Nat × Nat) (b:Nat),Ls[k]?=some x→Es[k]?=some r→foot r x b→b<w.heap.size
def box (Es:Emb) (Ls:LH):LB:=.abs (fun _ w=>BoxAt Es Ls w) (footL Es Ls)
theorem BoxAt.fr {Es:Emb} {Ls:LH} {G:Nat→Prop} (h:BoxAt Es Ls w) (hf:Fr G w w') (hn:∀ b,footL Es Ls b→¬ G b):BoxAt Es Ls w' :=
 ⟨h.len,fun k x r hx hr=>(h.blk k x r hx hr).fr hf (fun b hb=>h.lt k x r b hx hr hb) fun b hb=>hn b ⟨k,x,r,hx,hr,hb⟩,h.inj,fun k x r b hx hr hb=>Nat.lt_of_lt_of_le (h.lt k x r b hx hr hb) hf.size⟩
theorem BoxAt.is {Es Es':Emb} {Ls:LH} {r:Nat × Nat × Nat} (h:BoxAt Es Ls w) (hr:r.2=(0,0)):LBis Es' w r (box Es Ls) :=
 ⟨h,hr,fun _ _ _ h1 hf hn=>h1.fr hf hn⟩
theorem Ext.app (E Es:Emb):Ext E (E++Es):=fun k r h=>by
 rw [List.getElem?_append_left (List.getElem?_eq_some_iff.1 h).1]; exact h
def unbox (N:Nat) (Ls:LH):LH:=Ls.map (rnB (N+Ls.length) (seqN N Ls.length))
theorem subE_seq {n N:Nat} (h:E.length=N+n):subE E (seqN N n)=E.drop N:=by
 apply List.ext_getElem?
 intro k
 unfold subE
 rw [List.getElem?_map,List.getElem?_drop]
 by_cases hk:k<n
 ·rw [seqN_get n N k hk,Option.map_some,List.getD_eq_getElem?_getD,List.getElem?_eq_getElem (by omega)]; rfl
 ·rw [List.getElem?_eq_none (by rw [seqN_length]; omega),List.getElem?_eq_none (by omega)]; rfl
theorem Rep.close {M Ls:LH} (h:Rep X w0 E (M++unbox M.length Ls) w):Rep X w0 (E++[(0,0,0)]) (M++List.replicate Ls.length .dead++[box (E.drop M.length) Ls]) w:=by
 have hlen:E.length=M.length+Ls.length:=by rw [h.len]; unfold unbox; rw [List.length_append,List.length_map]
 have hM:∀ (k:Nat) (x:LB),M[k]?=some x→k<M.length∧(M++unbox M.length Ls)[k]?=some x:=fun k x hx=>by
  have hk:=(List.getElem?_eq_some_iff.1 hx).1
  exact ⟨hk,by rw [List.getElem?_append_left hk]; exact hx⟩
 have hN:∀ (k:Nat) (x:LB),Ls[k]?=some x→(M++unbox M.length Ls)[M.length+k]?=some (rnB (M.length+Ls.length) (seqN M.length Ls.length) x):=fun k x hx=>by
  rw [List.getElem?_append_right (by omega),show M.length+k-M.length=k by omega]
  unfold unbox
  rw [List.getElem?_map,hx]; rfl
 have hE:∀ (k:Nat) (r:Nat × Nat × Nat),(E.drop M.length)[k]?=some r→E[M.length+k]?=some r:=fun k r hr=>by rwa [List.getElem?_drop] at hr
 have hA:BoxAt (E.drop M.length) Ls w:=by
  refine ⟨by rw [List.length_drop]; omega,fun k x r hx hr=>?_,fun k k' x x' r r' c hx hx' hr hr' hc hc'=>?_,fun k x r c hx hr hc=>?_⟩
  ·have:=h.blk _ _ r (hN k x hx) (hE k r hr)
   rw [← hlen] at this
   have:=this.sub
   rwa [subE_seq hlen] at this
  ·have:=h.inj _ _ _ _ r r' c (hN k x hx) (hN k' x' hx') (hE k r hr) (hE k' r' hr') (by rw [foot_rn]; exact hc) (by rw [foot_rn]; exact hc')
   omega
  ·exact (h.rng _ _ r (hN k x hx) (hE k r hr) c (by rw [foot_rn]; exact hc)).2
 have cut:∀ (k:Nat) (x:LB) (r:Nat × Nat × Nat),(M++List.replicate Ls.length LB.dead++[box (E.drop M.length) Ls])[k]?=some x→(E++[(0,0,0)])[k]?=some r →
   (M[k]?=some x∧E[k]?=some r)∨x=.dead∨(k=E.length∧x=box (E.drop M.length) Ls∧r=(0,0,0)):=by
  intro k x r hx hr
  by_cases h1:k<M.length
  ·rw [List.append_assoc,List.getElem?_append_left h1] at hx
   rw [List.getElem?_append_left (by omega)] at hr
   exact .inl ⟨hx,hr⟩
  ·by_cases h2:k<E.length
   ·rw [List.append_assoc,List.getElem?_append_right (by omega),List.getElem?_append_left (by rw [List.length_replicate]; omega),List.getElem?_replicate] at hx
    split at hx
    ·exact .inr (.inl (Option.some.inj hx).symm)
    ·cases hx
   ·have hk:k=E.length:=by
     have:=(List.getElem?_eq_some_iff.1 hr).1
     rw [List.length_append,List.length_singleton] at this; omega
    subst hk
    rw [List.getElem?_append_right (by rw [List.length_append,List.length_replicate]; omega)] at hx
    rw [List.getElem?_append_right (Nat.le_refl _),Nat.sub_self] at hr
    rw [show E.length-(M++List.replicate Ls.length LB.dead).length=0 by rw [List.length_append,List.length_replicate]; omega] at hx
    exact .inr (.inr ⟨rfl,(Option.some.inj hx).symm,(Option.some.inj hr).symm⟩)
 refine ⟨h.fr,by rw [List.length_append,List.length_append,List.length_append,List.length_replicate,hlen]; rfl,fun k x r hx hr c hc=>?_,fun k x r hx hr=>?_,fun k k' x x' r r' c hx hx' hr hr' hc hc'=>?_⟩
 ·rcases cut k x r hx hr with ⟨h1,h2⟩ | rfl | ⟨_,rfl,rfl⟩
  ·exact h.rng k x r (hM k x h1).2 h2 c hc
  ·exact hc.elim
  ·obtain ⟨i,y,q,h1,h2,h3⟩:=hc
   exact h.rng _ _ q (hN i y h1) (hE i q h2) c (by rw [foot_rn]; exact h3)
 ·rcases cut k x r hx hr with ⟨h1,h2⟩ | rfl | ⟨_,rfl,rfl⟩
  ·exact (h.blk k x r (hM k x h1).2 h2).ext (Ext.app E _)
  ·trivial
  ·exact hA.is rfl
 ·rcases cut k x r hx hr with ⟨h1,h2⟩ | rfl | ⟨e1,rfl,rfl⟩
  ·rcases cut k' x' r' hx' hr' with ⟨h3,h4⟩ | rfl | ⟨_,rfl,rfl⟩
   ·exact h.inj k k' x x' r r' c (hM k x h1).2 (hM k' x' h3).2 h2 h4 hc hc'
   ·exact hc'.elim
   ·obtain ⟨i,y,q,g1,g2,g3⟩:=hc'
    have:=h.inj k _ x _ r q c (hM k x h1).2 (hN i y g1) h2 (hE i q g2) hc (by rw [foot_rn]; exact g3)
    have:=(hM k x h1).1
    omega
  ·exact hc.elim
  ·rcases cut k' x' r' hx' hr' with ⟨h3,h4⟩ | rfl | ⟨e2,_,_⟩
   ·obtain ⟨i,y,q,g1,g2,g3⟩:=hc
    have:=h.inj k' _ x' _ r' q c (hM k' x' h3).2 (hN i y g1) h4 (hE i q g2) hc' (by rw [foot_rn]; exact g3)
    have:=(hM k' x' h3).1
    omega
   ·exact hc'.elim
   ·omega
def adR (r:Nat × Nat × Nat) (o:Nat):Value:=.pointer (some ⟨r.1,o+r.2.1,some 0⟩)
end
end Go.Tum
end
section
namespace Go.Tum
open Go
def RdC (w:World) (sz:Nat) (v:Value) (n:Nat) (cells:List Value):Prop :=
 cells.length=n*sz∧(∀ u∈cells,one u=true) ∧
 (((∃ a c,v=.slice a 0 c)∧n=0)∨∃ sa c,v=.slice (some sa) n c∧∀ j,j<n*sz→w.cell? (sa.add j)=cells[j]?)
theorem RdC.sim {w w0:World} {sz:Nat} {v:Value} {n:Nat} {cells:List Value} (h:RdC w sz v n cells) (hs:Sim w0 w):RdC w0 sz v n cells:=by
 obtain ⟨h1,h2,h3⟩:=h
 refine ⟨h1,h2,?_⟩
 rcases h3 with h4 | ⟨sa,c,h4,h5⟩
 ·exact .inl h4
 ·exact .inr ⟨sa,c,h4,fun j hj=>by rw [hs.cell]; exact h5 j hj⟩
section
variable {P:Program} {w:World} {l:Env} {K:Value→World→Prop}
theorem firstCells_rdC {sz n:Nat} {v:Value} {cells:List Value} (h:RdC w sz v n cells):(Builtin.firstCells sz n v).run P w=.ok cells.toArray w:=by
 obtain ⟨h1,_,h3⟩:=h
 rcases h3 with ⟨⟨a,c,rfl⟩,rfl⟩ | ⟨sa,c,rfl,h5⟩
 ·have:cells=[]:=by simpa using h1
  subst this
  cases a with
  | none=>simp [Builtin.firstCells]
  | some a =>
   simp only [Builtin.firstCells,Nat.zero_mul]
   exact loadCells_run 0 0 #[] #[] rfl (fun j _ hj=>by omega) (by simp)
 ·simp only [Builtin.firstCells]
  exact loadCells_run _ 0 #[] cells.toArray (by simpa using h1) (fun j _ hj=>by rw [h5 j (by omega)]; simp) (by simp)
theorem append_runC {sT xT e:TypeId} {sz bytes n m c:Nat} {base:Option Addr} {vx:Value} {cells cells2:List Value} {ty:TypeId} (he:ElemT P sT e sz bytes) (hx:∃ e',P.underlying xT=some (.slice e'))
  (hs:Rd w sz (.slice base n c) n cells) (hr:RdC w sz vx m cells2) (hb:(2*(n+m)+2048)*bytes≤281474976710656) (hby:0<bytes) :
  ((n+m≤c∧(∀ a,base=some a→(Builtin.append_ #[sT,xT] ty #[.slice base n c,vx]).run P w=(do storeCells (a.add (n*sz)) cells2; pure (.slice base (n+m) c):Sem Value).run P w) ∧
    (base=none→(Builtin.append_ #[sT,xT] ty #[.slice base n c,vx]).run P w=.ok (.slice base (n+m) c) w)) ∨
   (c<n+m∧∃ c' zs w',n+m≤c'∧(cells++cells2++zs).length=c'*sz∧Sim w' (w.alloc (.cells (cells++cells2++zs).toArray e)) ∧
    (Builtin.append_ #[sT,xT] ty #[.slice base n c,vx]).run P w=.ok (.slice (some ⟨w.heap.size,0,none⟩) (n+m) c') w')):=by
 obtain ⟨hu,i,z,hi,h1,h2,hz,hzs,_⟩:=he
 obtain ⟨e',hx⟩:=hx
 have hl:(Builtin.lenOf vx).run P w=.ok m w:=by
  obtain ⟨_,_,h3⟩:=hr
  rcases h3 with ⟨⟨a,c,rfl⟩,rfl⟩ | ⟨sa,c,rfl,_⟩ <;> simp [Builtin.lenOf]
 have hzv:(zeroValue e).run P w=.ok z w:=by simp [zeroValue,typeInfo_run hi,hz]
 by_cases hc:n+m≤c
 ·refine .inl ⟨hc,fun a ha=>?_,fun ha=>?_⟩
  ·subst ha
   unfold Builtin.append_
   simp [run_underlying hu,run_underlying hx,sizeOf_run hi,h1,hl,hc,firstCells_rdC hr]
  ·subst ha
   unfold Builtin.append_
   simp [run_underlying hu,run_underlying hx,sizeOf_run hi,h1,hl,hc,firstCells_rdC hr]
 ·refine .inr ⟨by omega,?_⟩
  have hcap:=nextslicecap_le (n+m) c (by omega)
  have hle:Builtin.nextslicecap (n+m) c*bytes≤281474976710656:=Nat.le_trans (Nat.mul_le_mul_right _ hcap) hb
  have hnm:(2*(n+m)+2048)*1≤(2*(n+m)+2048)*bytes:=Nat.mul_le_mul_left _ hby
  have hq:(Question.appendCap (n+m) c e).forced=false:=rfl
  have hbig:¬ (IntKind.i64.max<((n:Int)+(m:Int))):=by
   have:IntKind.i64.max=9223372036854775807:=rfl
   rw [this]; omega
  let t:=w.tape w.drawn (Question.appendCap (n+m) c e)
  let c':=(n+m)+t % (2 ^ 63-(n+m))
  have hsim:Sim w.drew w:=⟨rfl,rfl,rfl,rfl⟩
  have f1:(Builtin.firstCells sz n (.slice base n c)).run P w.drew=.ok cells.toArray w.drew:=firstCells_rd (hs.sim hsim)
  have f2:(Builtin.firstCells sz m vx).run P w.drew=.ok cells2.toArray w.drew:=firstCells_rdC (hr.sim hsim)
  have hzv1:(zeroValue e).run P w.drew=.ok z w.drew:=by simp [zeroValue,typeInfo_run hi,hz]
  refine ⟨c',(Builtin.zeroCells z.cells (c'-(n+m))).toList,w.drew.alloc (.cells (cells.toArray++cells2.toArray++Builtin.zeroCells z.cells (c'-(n+m))) e),Nat.le_add_right _ _,?_,?_,?_⟩
  ·obtain ⟨k1,_,_⟩:=hs
   obtain ⟨k2,_,_⟩:=hr
   simp only [List.length_append,k1,k2,Builtin.zeroCells]
   simp only [Array.length_toList,Array.size_map,Array.size_range,hzs]
   have e1:c'-(n+m)+(n+m)=c':=Nat.sub_add_cancel (Nat.le_add_right _ _)
   rw [← Nat.add_mul,← Nat.add_mul]
   congr 1
   omega
  ·refine ⟨?_,rfl,rfl,rfl⟩
   show w.heap.push _=w.heap.push _
   congr 2
   simp
  ·unfold Builtin.append_
   have hle':¬ (281474976710656<Builtin.nextslicecap (n+m) c*bytes):=by omega
   have hne:bytes≠0:=by omega
   simp [run_underlying hu,run_underlying hx,sizeOf_run hi,h1,hl,hc,typeInfo_run hi,h2,hne,hle',newRow]
   rw [if_neg (by rw [hq]; simp),f1]
   simp only [Result.andThen_ok]
   rw [f2]
   simp only [Result.andThen_ok]
   rw [hzv1]
   simp only [Result.andThen_ok,Result.ok.injEq]
   refine ⟨rfl,?_⟩
   congr 2
   show cells.toArray++(cells2.toArray++Builtin.zeroCells z.cells (c'-(n+m)))=_
   generalize Builtin.zeroCells z.cells (c'-(n+m))=Z
   rw [← Array.append_assoc]
   simp
theorem append_anyC {d:Option Tmp} {pos:String} {af:Array Edge} {g:Option (Nat × Bool)} {s x:Operand} {sT xT ty e:TypeId} {sz bytes n m c:Nat} {base:Option Addr} {vx:Value} {cells cells2:List Value} (he:ElemT P sT e sz bytes) (hxT:∃ e',P.underlying xT=some (.slice e'))
  (hs:ev l s=some (.slice base n c)) (hx:ev l x=some vx) (hS:Rd w sz (.slice base n c) n cells) (hR:RdC w sz vx m cells2) (hb:(2*(n+m)+2048)*bytes≤281474976710656) (hby:0<bytes)
  (h1:n+m≤c→∀ a,base=some a→(cells2=[]∧K (.slice base (n+m) c) w)∨∃ b o cs,a=⟨b,o,none⟩∧Blk w b cs∧o+n*sz+cells2.length≤cs.length∧K (.slice base (n+m) c) (putCells w ⟨b,o+n*sz,none⟩ 0 cells2))
  (h0:n+m≤c→base=none→K (.slice base (n+m) c) w)
  (h2:c<n+m→∀ c' zs,n+m≤c'→(cells++cells2++zs).length=c'*sz→K (.slice (some ⟨w.heap.size,0,none⟩) (n+m) c') (w.alloc (.cells (cells++cells2++zs).toArray e))) :
  (EOp.raw ⟨d,.call ⟨.builtin .append,#[s,x],#[sT,xT]⟩,ty,pos,af,g⟩).W P K l w:=by
 intro ρ w0 ha hsim
 have hexec:execOp ρ ⟨d,.call ⟨.builtin .append,#[s,x],#[sT,xT]⟩,ty,pos,af,g⟩=(do let r ← Builtin.append_ #[sT,xT] ty #[.slice base n c,vx]; pure (Next.value r)):=by
  simp [execOp,resolve,invoke,builtin,ha s _ hs,ha x _ hx]
 have hrun:=append_runC (P:=P) (w:=w0) (ty:=ty) he hxT (hS.sim hsim) (hR.sim hsim) hb hby
 rcases hrun with ⟨hle,k1,k2⟩ | ⟨hlt,c',zs,w',hc',hlz,hsw,hr⟩
 ·cases base with
  | none =>
   refine Eff.value (v:=.slice none (n+m) c) (w':=w0) ?_ ⟨w,hsim,h0 hle rfl⟩
   rw [hexec]
   simp [k2 rfl]
  | some a =>
   rcases h1 hle a rfl with ⟨rfl,hK⟩ | ⟨b,o,cs,rfl,hB,hcl,hK⟩
   ·refine Eff.value (v:=.slice (some a) (n+m) c) (w':=w0) ?_ ⟨w,hsim,hK⟩
    rw [hexec]
    simp [k1 _ rfl,storeCells]
   have hst:=storeCells_blk (P:=P) (w:=w0) (hB.sim hsim) hcl hR.2.1
   refine Eff.value (v:=.slice (some ⟨b,o,none⟩) (n+m) c) (w':=putCells w0 ⟨b,o+n*sz,none⟩ 0 cells2) ?_ ⟨_,putCells_sim hsim _ _ _,hK⟩
   rw [hexec]
   simp only [Sem.run_bind,k1 _ rfl,add_none,hst]
   simp
 ·refine Eff.value (v:=.slice (some ⟨w0.heap.size,0,none⟩) (n+m) c') (w':=w') ?_ ⟨_,hsw.trans (hsim.push _),?_⟩
  ·rw [hexec]
   simp [hr]
  ·rw [hsim.heap]
   exact h2 hlt c' zs hc' hlz
end
section
variable {X:Nat→Prop} {w0 w w':World} {E:Emb} {L:LH}
theorem appG_ok {P:Program} {l:Env} {K:Value→World→Prop} {d:Option Tmp} {pos:String} {af:Array Edge} {g:Option (Nat × Bool)} {s x:Operand} {sT xT ty e:TypeId} {sz bytes b n m:Nat} {vs' vx':Value} {gs us us2:List Value} (he:ElemT P sT e sz bytes) (hxT:∃ e',P.underlying xT=some (.slice e')) (hby:0<bytes)
  (hsz:0<sz) (hR:Rep X w0 E L w) (hs:ev l s=some vs') (hx:ev l x=some vx') (hsr:VR E (.slice (some ⟨b,0,none⟩) n n) vs') (hb:L[b]?=some (.gro sz gs)) (e4:gs.length=n*sz) (hrd1:Rd w sz vs' n us) (hrd2:RdC w sz vx' m us2) (hbd:(2*(n+m)+2048)*bytes≤281474976710656)
  (hK:∀ w' E' v',Ext E E'→Rep X w0 E' (L.set b .dead++[.gro sz (gs++us2)]) w'→VR E' (.slice (some ⟨L.length,0,none⟩) (n+m) (n+m)) v'→K v' w'):(EOp.raw ⟨d,.call ⟨.builtin .append,#[s,x],#[sT,xT]⟩,ty,pos,af,g⟩).W P K l w:=by
 have hlen1:us.length=n*sz:=hrd1.1
 have hlen2:us2.length=m*sz:=hrd2.1
 have freshG:∀ (Lb:LH) (xs:List Value),Rep X w0 E Lb w→us++us2=xs→xs≠[]→∀ (c':Nat) (zs:List Value),n+m≤c'→(us++us2++zs).length=c'*sz →
   Rep X w0 (E++[(w.heap.size,0,c'-(n+m))]) (Lb++[.gro sz xs]) (w.alloc (.cells (us++us2++zs).toArray e)):=by
  intro Lb xs hRb hxs hne c' zs hc' hlz
  subst hxs
  refine hRb.push1 (Fr.alloc _ _ _) rfl (alloc_size _ _) (fun b hb=>?_) (.inr ⟨hne,hsz,_,Blk.new w _ e,?_,?_⟩)
  ·cases hq:us++us2 with
   | nil=>exact absurd hq hne
   | cons y ys=>rw [hq] at hb; exact hb
  ·simp only [List.drop_zero]
   rw [List.take_append_of_le_length (Nat.le_refl _),List.take_length]
  ·rw [hlz]
   simp only [List.length_append,hlen1,hlen2]
   rw [Nat.zero_add,← Nat.add_mul,← Nat.add_mul]
   exact Nat.mul_le_mul_right _ (by omega)
 have slcNew:∀ (Lb:LH),Rep X w0 E Lb w→∀ c',n+m≤c'→VR (E++[(w.heap.size,0,c'-(n+m))]) (.slice (some ⟨Lb.length,0,none⟩) (n+m) (n+m)) (.slice (some ⟨w.heap.size,0,none⟩) (n+m) c'):=by
  intro Lb hRb c' hc'
  exact ⟨rfl,_,hRb.last _,.inl ⟨_,_,rfl,.inl ⟨by simp,by simp; omega⟩⟩⟩
 obtain ⟨hsp,r,hr,⟨a',c',rfl,hcase⟩ | ⟨hn0,hc0,hnil⟩⟩:=hsr.sr rfl
 rotate_left
 ·obtain ⟨ax,rfl⟩:=hnil
  subst hn0
  have hr:E[b]?=some r:=hr
  have hgs:gs=[]:=List.length_eq_zero_iff.1 (by simpa using e4)
  subst hgs
  have hu1:us=[]:=List.length_eq_zero_iff.1 (by rw [hlen1]; simp)
  subst hu1
  have none0:0+m≤0→us2=[]∧K (.slice ax (0+m) 0) w:=fun hle=>by
   have:m=0:=by omega
   subst this
   have hc2e:us2=[]:=List.length_eq_zero_iff.1 (by rw [hlen2]; simp)
   subst hc2e
   exact ⟨rfl,hK _ (E++[(0,0,0)]) _ (Ext.push E _) (hR.again hb hr (Fr.refl _ w) (fun c hc=>hc.elim) (.inl ⟨rfl,rfl⟩)) ⟨rfl,_,hR.last _,.inr ⟨rfl,rfl,ax,rfl⟩⟩⟩
  refine append_anyC he hxT hs hx hrd1 hrd2 hbd hby (fun hle _ _=>.inl (none0 hle)) (fun hle _=>(none0 hle).2) (fun hlt c' zs hc' hlz=>?_)
  have hne:us2≠[]:=by
   intro e
   rw [e] at hlen2
   have:0<m*sz:=Nat.mul_pos (by omega) hsz
   simp at hlen2
   omega
  have k1:=freshG _ ([]++us2) (hR.kill b) rfl hne c' zs hc' hlz
  have k2:=slcNew _ (hR.kill b) c' hc'
  simp only [List.length_set] at k2
  exact hK _ _ _ (Ext.push E _) k1 k2
 have hr:E[b]?=some r:=hr
 rcases hR.blk b _ r hb hr with ⟨rfl,hr2⟩ | ⟨hne,_,cs,hB,hcs,hroom⟩
 ·have hn0:n=0:=by
   rcases Nat.eq_zero_or_pos n with h0 | h0
   ·exact h0
   ·have:0<n*sz:=Nat.mul_pos h0 hsz
    simp at e4; omega
  subst hn0
  have hc0:c'=0:=by rcases hcase with ⟨_,rfl⟩ | ⟨_,_,rfl,_⟩ <;> omega
  subst hc0
  have hu1:us=[]:=List.length_eq_zero_iff.1 (by rw [hlen1]; simp)
  subst hu1
  have hblk:a'.spot=none:=by rcases hcase with ⟨rfl,_⟩ | ⟨_,_,_,o',rfl,_⟩ <;> rfl
  have hab:∃ o',a'=⟨r.1,o',none⟩∧o'≤0+r.2.1:=by 
   rcases hcase with ⟨rfl,_⟩ | ⟨_,_,_,o',rfl,ho⟩
   ·exact ⟨_,rfl,Nat.le_refl _⟩
   ·exact ⟨_,rfl,ho⟩
  refine append_anyC he hxT hs hx hrd1 hrd2 hbd hby (fun hle a ha=>.inl ?_) (fun _ ha=>by cases ha) (fun hlt c'' zs hc'' hlz=>?_)
  ·have:m=0:=by omega
   subst this
   have hc2e:us2=[]:=List.length_eq_zero_iff.1 (by rw [hlen2]; simp)
   subst hc2e
   refine ⟨rfl,hK _ (E++[r]) _ (Ext.push E _) (hR.again hb hr (Fr.refl _ w) (fun c hc=>hc.elim) (.inl ⟨rfl,hr2⟩)) ?_⟩
   obtain ⟨o',rfl,ho'⟩:=hab
   exact ⟨rfl,r,hR.last _,.inl ⟨_,_,rfl,.inr ⟨rfl,rfl,rfl,o',rfl,by simpa using ho'⟩⟩⟩
  ·have hne:us2≠[]:=by
    intro e
    rw [e] at hlen2
    have:0<m*sz:=Nat.mul_pos (by omega) hsz
    simp at hlen2
    omega
   have k1:=freshG _ ([]++us2) (hR.kill b) rfl hne c'' zs hc'' hlz
   have k2:=slcNew _ (hR.kill b) c'' hc''
   simp only [List.length_set] at k2
   exact hK _ _ _ (Ext.push E _) k1 k2
 ·have hn0:0<n:=by
   rcases Nat.eq_zero_or_pos n with h0 | h0
   ·subst h0; simp at e4; exact absurd e4 hne
   ·exact h0
  rcases hcase with ⟨rfl,rfl⟩ | ⟨h0,_⟩
  rotate_left
  ·omega
  have hus:us=gs:=by
   rcases hrd1.2.2 with ⟨⟨_,_,e⟩,h0⟩ | ⟨b1,o1,c1,cs1,e,hB1,_,h5⟩
   ·omega
   ·cases e
    rw [← h5,← hB.eq hB1,← e4]
    simpa using hcs
  subst hus
  have hne2:us++us2≠[]:=by
   intro e
   rw [List.append_eq_nil_iff] at e
   exact hne e.1
  refine append_anyC he hxT hs hx hrd1 hrd2 hbd hby (fun hle' a ha=>.inr ?_) (fun _ ha=>by cases ha) (fun hlt' c'' zs hc'' hlz=>?_)
  ·cases ha
   have hsp:n*sz+m*sz≤n*sz+r.2.2*sz:=by
    rw [← Nat.add_mul,← Nat.add_mul]; exact Nat.mul_le_mul_right _ hle'
   have hcl:0+r.2.1+n*sz+us2.length≤cs.length:=by omega
   refine ⟨_,_,cs,rfl,hB,hcl,hK _ (E++[(r.1,0+r.2.1,n+r.2.2-(n+m))]) _ (Ext.push E _) ?_ ?_⟩
   ·refine hR.again hb hr ((putCells_fr (p:=⟨r.1,0+r.2.1+n*sz,none⟩) us2 0 w).mono fun c _ hc=>?_) (fun c hc=>.inl ?_) (.inr ⟨hne2,hsz,_,putCells_blk us2 0 w cs hB (by omega),?_,?_⟩)
    ·cases us with
     | nil=>exact absurd rfl hne
     | cons=>exact hc
    ·cases us with
     | nil=>exact absurd rfl hne
     | cons=>exact hc
    ·have:=take_splice (cs:=cs) (o:=0+r.2.1) (k:=n*sz) (b:=us2) (a:=us) hcl (by rw [← e4]; simpa using hcs)
     rw [List.length_append,hlen1,Nat.add_zero]
     exact this
    ·rw [List.length_append,hlen1,hlen2,Nat.add_zero,splice_length hcl]
     have e5:n*sz+m*sz+(n+r.2.2-(n+m))*sz=n*sz+r.2.2*sz:=by
      rw [← Nat.add_mul,← Nat.add_mul,← Nat.add_mul]; congr 1; omega
     show 0+r.2.1+(n*sz+m*sz)+(n+r.2.2-(n+m))*sz≤cs.length
     omega
   ·exact ⟨rfl,(r.1,0+r.2.1,n+r.2.2-(n+m)),hR.last _,.inl ⟨_,_,rfl,.inl ⟨by simp,by simp; omega⟩⟩⟩
  ·have k1:=freshG _ (us++us2) (hR.kill b) rfl hne2 c'' zs hc'' hlz
   have k2:=slcNew _ (hR.kill b) c'' hc''
   simp only [List.length_set] at k2
   exact hK _ _ _ (Ext.push E _) k1 k2
end
end Go.Tum
end
section
namespace Go.Tum
open Go
section
variable {P:Program} {n0:NA} {l:Env} {L:LH} {X:Nat→Prop} {w0 w w':World} {E:Emb}
theorem rd_gro {b n sz:Nat} {gs:List Value} {v':Value} (hR:Rep X w0 E L w) (hb:L[b]?=some (.gro sz gs)) (hl:gs.length=n*sz) (ho:∀ u∈gs,one u=true) (hz:0<sz) (hv:VR E (.slice (some ⟨b,0,none⟩) n n) v'):Rd w sz v' n gs:=by
 refine ⟨hl,ho,?_⟩
 obtain ⟨_,r,hr,hcase⟩:=hv
 by_cases h0:n=0
 ·subst h0
  left
  rcases hcase with ⟨a',c',rfl,_⟩ | ⟨_,_,a',rfl⟩
  ·exact ⟨⟨_,_,rfl⟩,rfl⟩
  ·exact ⟨⟨_,_,rfl⟩,rfl⟩
 ·right
  obtain ⟨c',rfl⟩:∃ c',v'=.slice (some ⟨r.1,0+r.2.1,none⟩) n c':=by
   rcases hcase with ⟨a',c',h1,⟨h2,_⟩ | ⟨h2,_⟩⟩ | ⟨h1,_⟩
   ·exact ⟨c',by rw [h1,h2]⟩
   ·exact absurd h2 h0
   ·exact absurd h1 h0
  rcases hR.blk b _ r hb hr with ⟨h1,_⟩ | ⟨_,_,cs,hB,h3,h4⟩
  ·subst h1
   have:=Nat.mul_pos (Nat.pos_of_ne_zero h0) hz
   simp at hl; omega
  ·exact ⟨_,_,c',cs,rfl,hB,by rw [← hl]; omega,by rw [← hl,Nat.zero_add]; exact h3⟩
theorem EW.appX {Q:List Value→Prop} {o:Oper} {s x:Operand} {sT xT:TypeId} {sz bytes b n m:Nat} {gs:List Value} (ho:o.op=.call ⟨.builtin .append,⟨[s,x]⟩,⟨[sT,xT]⟩⟩) (ht:appT P sT xT=some (sz,bytes))
  (hs:lv l s=some (.slice (some ⟨b,0,none⟩) n n)) (hb:L[b]?=some (.gro sz gs)) (hgl:gs.length=n*sz) (hone:∀ u∈gs,one u=true) (hbd:(2*(n+m)+2048)*bytes≤281474976710656)
  (hrd:∀ (X:Nat→Prop) (w0:World) (E0:Emb) (w:World) (E:Emb) (l':Env),n0.Ok P X w0 E0→n0.Ext E0 E→Rep X w0 E L w→ER E l l'→∃ vx' us2,ev l' x=some vx'∧RdC w sz vx' m us2∧Q us2) :
  EW P n0 L l (.raw o) (fun v K=>∃ us2,Q us2∧v=.slice (some ⟨L.length,0,none⟩) (n+m) (n+m)∧K=L.set b .dead++[.gro sz (gs++us2)]):=by
 intro X w0 E0 w E l' Kf h0 hE hR hl hK
 unfold appT at ht
 split at ht
 rotate_left
 ·cases ht
 rename_i e i z he
 cases hc:(isSl P xT && Nat.beq z.cells.toList.length i.size && z.cells.toList.all one && Nat.blt 0 i.bytes && Nat.blt 0 i.size)
 ·rw [hc] at ht; cases ht
 rw [hc] at ht
 cases ht
 simp only [Bool.and_eq_true] at hc
 obtain ⟨hu,hi,hz'⟩:=elemOf_ok he
 have he':ElemT P sT e i.size i.bytes:=⟨hu,i,z,hi,rfl,rfl,hz',by simpa using Nat.eq_of_beq_eq_true hc.1.1.1.2,fun u hu=>List.all_eq_true.1 hc.1.1.2 u hu⟩
 have hz:0<i.size:=Nat.le_of_ble_eq_true hc.2
 obtain ⟨d,opp,ty,pos,af,g'⟩:=o
 simp only at ho
 subst ho
 obtain ⟨vs',h1,hsr⟩:=lv_ev hl hs
 obtain ⟨vx',us2,h3,hrd2,hq⟩:=hrd X w0 E0 w E l' h0 hE hR hl
 exact appG_ok he' (isSl_ok hc.1.1.1.1) (Nat.le_of_ble_eq_true hc.1.2) hz hR h1 h3 hsr hb hgl (rd_gro hR hb hgl hone hz hsr) hrd2 hbd (fun w' E' v' hX hR' hv=>hK w' E' v' _ _ ⟨us2,hq,rfl,rfl⟩ hX hR' hv)
theorem rowsI_get {ys:List Int} {j:Nat}:(rowsC intC ys)[j]?=ys[j]?.map (Value.int .i64):=by
 induction ys generalizing j with
 | nil=>simp [rowsC]
 | cons a r ih =>
  cases j with
  | zero=>simp [rowsC,intC]
  | succ j=>simp only [rowsC,intC,List.cons_append,List.nil_append,List.getElem?_cons_succ]; exact ih
theorem Rep.merge {b k:Nat} {x y z:LB} {r q:Nat × Nat × Nat} (h:Rep X w0 E L w) (hne:b≠k) (hy:L[b]?=some y) (hr:E[b]?=some r) (hz:L[k]?=some z) (hq:E[k]?=some q) (hf:Fr (foot r y) w w') (hx:LBis E w' r x)
  (hft:∀ c,foot r x c→foot r y c∨foot q z c∨(w.heap.size≤c∧c<w'.heap.size)):Rep X w0 E ((L.set b x).set k .dead) w':=by
 have hltb:=(List.getElem?_eq_some_iff.1 hy).1
 have hltk:=(List.getElem?_eq_some_iff.1 hz).1
 have cut:∀ (i:Nat) (u:LB),((L.set b x).set k .dead)[i]?=some u→(i=k∧u=.dead)∨(i=b∧u=x)∨(i≠b∧i≠k∧L[i]?=some u):=by
  intro i u hu
  rw [List.getElem?_set] at hu
  by_cases e:k=i
  ·subst e
   rw [if_pos rfl,if_pos (by rw [List.length_set]; exact hltk)] at hu; cases hu
   exact .inl ⟨rfl,rfl⟩
  ·rw [if_neg e,List.getElem?_set] at hu
   by_cases e':b=i
   ·subst e'
    rw [if_pos rfl,if_pos hltb] at hu; cases hu
    exact .inr (.inl ⟨rfl,rfl⟩)
   ·rw [if_neg e'] at hu
    exact .inr (.inr ⟨fun q=>e' q.symm,fun q=>e q.symm,hu⟩)
 have frs:=h.fr.size
 have key:∀ (i:Nat) (u:LB) (r':Nat × Nat × Nat) (c:Nat),i≠b→i≠k→L[i]?=some u→E[i]?=some r'→foot r' u c→foot r x c→False:=by
  intro i u r' c hib hik hu hr' hc hcx
  rcases hft c hcx with h1 | h1 | h1
  ·exact hib (h.inj i b u y r' r c hu hy hr' hr hc h1)
  ·exact hik (h.inj i k u z r' q c hu hz hr' hq hc h1)
  ·have:=(h.rng i u r' hu hr' c hc).2; omega
 refine ⟨h.frT hy hr hf,by rw [h.len,List.length_set,List.length_set],fun i u r' hu hr' c hc=>?_,fun i u r' hu hr'=>?_,fun i i' u u' r1 r2 c hu hu' h1 h2 e1 e2=>?_⟩
 ·rcases cut i u hu with ⟨rfl,rfl⟩ | ⟨rfl,rfl⟩ | ⟨hib,hik,hu⟩
  ·exact hc.elim
  ·rw [hr] at hr'; cases hr'
   rcases hft c hc with h1 | h1 | h1
   ·have:=h.rng i y _ hy hr c h1; exact ⟨this.1,Nat.lt_of_lt_of_le this.2 hf.size⟩
   ·have:=h.rng k z _ hz hq c h1; exact ⟨this.1,Nat.lt_of_lt_of_le this.2 hf.size⟩
   ·exact ⟨.inl (by omega),h1.2⟩
  ·have:=h.rng i u r' hu hr' c hc; exact ⟨this.1,Nat.lt_of_lt_of_le this.2 hf.size⟩
 ·rcases cut i u hu with ⟨rfl,rfl⟩ | ⟨rfl,rfl⟩ | ⟨hib,hik,hu⟩
  ·trivial
  ·rw [hr] at hr'; cases hr'; exact hx
  ·exact (h.blk i u r' hu hr').fr hf (fun c hc=>(h.rng i u r' hu hr' c hc).2) fun c hc hc'=>hib (h.inj i b u y r' r c hu hy hr' hr hc hc')
 ·rcases cut i u hu with ⟨rfl,rfl⟩ | ⟨rfl,rfl⟩ | ⟨hib,hik,hu⟩
  ·exact e1.elim
  ·rcases cut i' u' hu' with ⟨rfl,rfl⟩ | ⟨rfl,rfl⟩ | ⟨hib',hik',hu'⟩
   ·exact e2.elim
   ·rfl
   ·rw [hr] at h1; cases h1
    exact (key i' u' r2 c hib' hik' hu' h2 e2 e1).elim
  ·rcases cut i' u' hu' with ⟨rfl,rfl⟩ | ⟨rfl,rfl⟩ | ⟨hib',hik',hu2⟩
   ·exact e2.elim
   ·rw [hr] at h2; cases h2
    exact (key i u r1 c hib hik ‹L[i]?=some u› h1 e1 e2).elim
   ·exact h.inj i i' u u' r1 r2 c ‹L[i]?=some u› hu2 h1 h2 e1 e2
end
structure GE where
 id:Int
 xs:List Int
 p:Nat
 o:Nat
 c:Nat
 z:Value
 born:Nat
def GE.sv (e:GE):Value:=match e.xs with
 | []=>e.z
 | _=>.slice (some ⟨e.p,e.o,none⟩) e.xs.length e.c
def ge (e:GE):Int × Value × Nat:=(e.id,e.sv,e.born)
theorem ge_born (e:GE) (b:Nat):ge { e with born:=b }=(e.id,e.sv,b):=rfl
end Go.Tum
end
section
namespace Go.Tum
open Go
abbrev Mem:=Emb × LH
def Mem.at (m:Mem) (b:Nat):Prop:=footL m.1 m.2 b
section
variable {X:Nat→Prop} {w0 w w':World} {E:Emb} {L:LH}
structure CrowdAt (ms:List Mem) (w:World):Prop where
 all:∀ m∈ms,BoxAt m.1 m.2 w
 apart:ms.Pairwise fun m m'=>∀ b,m.at b→¬ m'.at b
def crowd (ms:List Mem):LB:=.abs (fun _ w=>CrowdAt ms w) (fun b=>∃ m∈ms,m.at b)
theorem CrowdAt.fr {ms:List Mem} {G:Nat→Prop} (h:CrowdAt ms w) (hf:Fr G w w') (hn:∀ b,(∃ m∈ms,m.at b)→¬ G b):CrowdAt ms w' :=
 ⟨fun m hm=>(h.all m hm).fr hf fun b hb=>hn b ⟨m,hm,hb⟩,h.apart⟩
theorem CrowdAt.is {Es:Emb} {ms:List Mem} {r:Nat × Nat × Nat} (h:CrowdAt ms w) (hr:r.2=(0,0)):LBis Es w r (crowd ms) :=
 ⟨h,hr,fun _ _ _ h1 hf hn=>h1.fr hf hn⟩
theorem CrowdAt.perm {ms ms':List Mem} (hp:ms.Perm ms') (h:CrowdAt ms w):CrowdAt ms' w :=
 ⟨fun m hm=>h.all m (hp.mem_iff.2 hm),(hp.pairwise_iff (fun h1 b h2 h3=>h1 b h3 h2)).1 h.apart⟩
theorem Rep.crowdIn {b k:Nat} {Es:Emb} {Ls:LH} {ms:List Mem} (h:Rep X w0 E L w) (hne:b≠k) (hb:L[b]?=some (crowd ms)) (hk:L[k]?=some (box Es Ls)):Rep X w0 E ((L.set b (crowd ((Es,Ls)::ms))).set k .dead) w:=by
 obtain ⟨r,hr⟩:=h.ent hb
 obtain ⟨q,hq⟩:=h.ent hk
 obtain ⟨h1,h2,_⟩:=h.blk b _ r hb hr
 have h3:BoxAt Es Ls w:=(h.blk k _ q hk hq).1
 refine h.merge hne hb hr hk hq (Fr.refl _ w) (CrowdAt.is ⟨fun m hm=>?_,List.pairwise_cons.2 ⟨fun m hm c hc hc'=>?_,h1.apart⟩⟩ h2) fun c hc=>?_
 ·rcases List.mem_cons.1 hm with rfl | hm
  ·exact h3
  ·exact h1.all m hm
 ·exact hne (h.inj b k _ _ r q c hb hk hr hq ⟨m,hm,hc'⟩ hc)
 ·obtain ⟨m,hm,hc⟩:=hc
  rcases List.mem_cons.1 hm with rfl | hm
  ·exact .inr (.inl hc)
  ·exact .inl ⟨m,hm,hc⟩
end
section
variable {P:Program} {n0:NA} {l:Env} {L L1:LH} {Q:Exit→Env→LH→Prop} {T:Taken} {K:Env→LH→Prop} {ss:List Step}
def More (L L1:LH):Prop:=L.length≤L1.length∧∀ (X:Nat→Prop) (w0:World) (E:Emb) (w:World),Rep X w0 E L w→∃ E',Ext E E'∧Rep X w0 E' L1 w
theorem More.trans {L L1 L2:LH} (h:More L L1) (k:More L1 L2):More L L2:=⟨Nat.le_trans h.1 k.1,fun X w0 E w hR=>by
 obtain ⟨E1,h1,h2⟩:=h.2 X w0 E w hR
 obtain ⟨E2,h3,h4⟩:=k.2 X w0 E1 w h2
 exact ⟨E2,fun i r hi=>h3 i r (h1 i r hi),h4⟩⟩
theorem TrK.post {keep:List Nat} {f:FuncId} {us:List Value} {R R':Value→LH→Prop} (ht:TrK P [] keep f us L R) (hR':∀ v K,R v K→∃ K',More K K'∧R' v K'):TrK P [] keep f us L R':=by
 intro X w0 w E vs' hA hR hv
 obtain ⟨h3,h4⟩:=ht X w0 w E vs' hA hR hv
 refine ⟨h3,h4.mono ?_⟩
 rintro v' w' ⟨E',v,L',g1,g0,g2,g3,g4⟩
 obtain ⟨K',hm,hr⟩:=hR' v L' g4
 obtain ⟨E2,k1,k2⟩:=hm.2 X w0 E' w' g3
 exact ⟨E2,v,K',fun k r hk hr=>k1 k r (g1 k r hk hr),Nat.le_trans g0 hm.1,g2.ext k1,k2,hr⟩
end
end Go.Tum
end
section
namespace Go.Tum
open Go
def realV (N:Nat) (Es:Emb) (v:Value):Value:=match v with
 | .pointer (some ⟨b,o,none⟩)=>(match Nat.ble N b,Es[b-N]? with
  | true,some r=>adR r o
  | _,_=>.pointer (some ⟨b,o,none⟩))
 | v=>v
def realB (N:Nat) (Es:Emb):LB→LB
 | .cells sz vs=>.cells sz (vs.map (realV N Es))
 | .map m c=>.map (m.map fun x=>(x.1,realV N Es x.2.1,x.2.2)) c
 | x=>x
def realE (N:Nat) (Es:Emb):Env→Env
 | []=>[]
 | (t,v)::r=>(t,realV N Es v)::realE N Es r
def From (E:Emb) (N:Nat) (Es:Emb):Prop:=∀ (i:Nat) (r:Nat × Nat × Nat),Es[i]?=some r→E[N+i]?=some r
section
variable {E Es:Emb} {N:Nat}
theorem From.drop (E:Emb) (N:Nat):From E N (E.drop N):=fun i r h=>by rwa [List.getElem?_drop] at h
theorem From.ext {E':Emb} (h:From E N Es) (k:Ext E E'):From E' N Es:=fun i r hi=>k _ r (h i r hi)
theorem S0.real (hf:From E N Es) {b o:Nat} {v':Value} (k:S0 E (.pointer (some ⟨b,o,none⟩)) v'):S0 E (realV N Es (.pointer (some ⟨b,o,none⟩))) v':=by
 unfold realV
 simp only
 split
 ·rename_i r hb hr
  have hb:=Nat.le_of_ble_eq_true hb
  have h1:=hf _ r hr
  rw [show N+(b-N)=b by omega] at h1
  obtain ⟨a',g1,_,r',g3,g4⟩:=k
  have g3:E[b]?=some r':=g3
  rw [h1] at g3; cases g3
  show v'=_
  rw [g1,g4]
 ·exact k
theorem realV_other {v:Value} (h:∀ b o,v≠.pointer (some ⟨b,o,none⟩)):realV N Es v=v:=by
 unfold realV
 split
 ·exact absurd rfl (h _ _)
 ·rfl
theorem SR.real (hf:From E N Es) {v v':Value} (k:SR E v v'):SR E (realV N Es v) v':=by
 by_cases h:∃ b o,v=.pointer (some ⟨b,o,none⟩)
 ·obtain ⟨b,o,rfl⟩:=h
  have:=S0.real hf (show S0 E (.pointer (some ⟨b,o,none⟩)) v' from k)
  revert this
  unfold realV
  simp only
  split <;> exact fun h=>h
 ·rw [realV_other fun b o e=>h ⟨b,o,e⟩]; exact k
theorem V1.real (hf:From E N Es) {v v':Value} (k:V1 E v v'):V1 E (realV N Es v) v':=by
 by_cases h:∃ b o,v=.pointer (some ⟨b,o,none⟩)
 ·obtain ⟨b,o,rfl⟩:=h
  have:=S0.real hf (show S0 E (.pointer (some ⟨b,o,none⟩)) v' from k)
  revert this
  unfold realV
  simp only
  split <;> exact fun h=>h
 ·rw [realV_other fun b o e=>h ⟨b,o,e⟩]; exact k
theorem VR.real (hf:From E N Es) {v v':Value} (k:VR E v v'):VR E (realV N Es v) v':=by
 by_cases h:∃ b o,v=.pointer (some ⟨b,o,none⟩)
 ·obtain ⟨b,o,rfl⟩:=h
  have:=S0.real hf (show S0 E (.pointer (some ⟨b,o,none⟩)) v' from k)
  revert this
  unfold realV
  simp only
  split <;> exact fun h=>h
 ·rw [realV_other fun b o e=>h ⟨b,o,e⟩]; exact k
theorem M2.real (hf:From E N Es):∀ {m:List (Value × Value × Nat)} {es:List MapEntry},M2 E m es→M2 E (m.map fun x=>(x.1,realV N Es x.2.1,x.2.2)) es
 | [],[],_=>trivial
 | _::_,_::_,k=>⟨⟨k.1.1,k.1.2.1.real hf,k.1.2.2⟩,M2.real hf k.2⟩
 | [],_::_,k=>k.elim
 | _::_,[],k=>k.elim
theorem foot_real (r:Nat × Nat × Nat) (x:LB):foot r (realB N Es x)=foot r x:=by cases x <;> rfl
theorem LBis.real (hf:From E N Es) {w:World} {r:Nat × Nat × Nat} {x:LB} (k:LBis E w r x):LBis E w r (realB N Es x):=by
 cases x with
 | cells sz vs =>
  obtain ⟨cs,h1,h2,h3⟩:=k
  refine ⟨cs,h1,?_,?_⟩
  ·rw [List.length_map]; exact L2.into (f:=realV N Es) (fun _ _ k=>SR.real hf k) h2
  ·rw [List.length_map]; exact h3
 | map m c=>obtain ⟨es,h1,h2⟩:=k; exact ⟨es,h1,h2.real hf⟩
 | data vs=>exact k
 | bytes n x=>exact k
 | gro sz vs=>exact k
 | iter m a l b=>exact k
 | dead=>exact k
 | abs A F=>exact k
 | imap G c=>exact k
theorem ER.real (hf:From E N Es):∀ {l:Env} {l':Env},ER E l l'→ER E (realE N Es l) l':=by
 intro l l' h t v ht
 have key:∀ (l:Env) (t:Nat) (v:Value),eget (realE N Es l) t=some v→∃ u,eget l t=some u∧v=realV N Es u:=by
  intro l
  induction l with
  | nil=>intro t v h; cases h
  | cons a r ih =>
   intro t v h
   obtain ⟨s,u⟩:=a
   simp only [realE,eget] at h ⊢
   cases hq:Nat.beq s t with
   | true=>rw [hq] at h; exact ⟨u,rfl,(Option.some.inj h).symm⟩
   | false=>rw [hq] at h; exact ih t v h
 obtain ⟨u,h1,rfl⟩:=key l t v ht
 obtain ⟨v',h2,h3⟩:=h t u h1
 exact ⟨v',h2,h3.real hf⟩
variable {X:Nat→Prop} {w0 w:World} {L:LH}
theorem Rep.real (hf:From E N Es) (h:Rep X w0 E L w):Rep X w0 E (L.map (realB N Es)) w:=by
 have at_:∀ (k:Nat) (x:LB),(L.map (realB N Es))[k]?=some x→∃ y,L[k]?=some y∧x=realB N Es y:=fun k x hx=>by
  rw [List.getElem?_map] at hx
  cases hq:L[k]? with
  | none=>rw [hq] at hx; cases hx
  | some y=>rw [hq] at hx; exact ⟨y,rfl,(Option.some.inj hx).symm⟩
 refine ⟨h.fr,by rw [List.length_map]; exact h.len,fun k x r hx hr c hc=>?_,fun k x r hx hr=>?_,fun k k' x x' r r' c hx hx' hr hr' hc hc'=>?_⟩
 ·obtain ⟨y,h1,rfl⟩:=at_ k x hx
  rw [foot_real] at hc
  exact h.rng k y r h1 hr c hc
 ·obtain ⟨y,h1,rfl⟩:=at_ k x hx
  exact (h.blk k y r h1 hr).real hf
 ·obtain ⟨y,h1,rfl⟩:=at_ k x hx
  obtain ⟨y',h2,rfl⟩:=at_ k' x' hx'
  rw [foot_real] at hc hc'
  exact h.inj k k' y y' r r' c h1 h2 hr hr' hc hc'
def closed (M:LH) (Ls:LH) (Es:Emb):LH:=M.map (realB M.length Es)++List.replicate Ls.length .dead++[box Es Ls]
theorem Rep.closeR {M Ls:LH} (h:Rep X w0 E (M++unbox M.length Ls) w):Rep X w0 (E++[(0,0,0)]) (closed M Ls (E.drop M.length)) w∧From (E++[(0,0,0)]) M.length (E.drop M.length)∧(E.drop M.length).length=Ls.length:=by
 have hlen:E.length=M.length+Ls.length:=by rw [h.len]; unfold unbox; rw [List.length_append,List.length_map]
 have hF:=(From.drop E M.length).ext (Ext.app E [(0,0,0)])
 refine ⟨?_,hF,by rw [List.length_drop]; omega⟩
 have:=h.close.real hF
 rw [List.map_append,List.map_append,List.map_replicate] at this
 exact this
end
end Go.Tum
end
section
namespace Go.Tum
open Go
section
variable {X:Nat→Prop} {w0 w w':World} {E ea em:Emb} {L A S T:LH}
def Up (ea:Emb) (v u:Value):Prop:=∀ (em:Emb) (v':Value),SR em v v'↔SR (ea++em) u v'
def UpB (ea:Emb) (x y:LB):Prop:=(∀ (em:Emb) (w:World) (r:Nat × Nat × Nat),LBis em w r x↔LBis (ea++em) w r y)∧∀ r,foot r x=foot r y
def Self (A:LH):Prop:=∀ (i:Nat) (x:LB),A[i]?=some x→∀ (ea em:Emb) (w:World) (r:Nat × Nat × Nat),ea.length=A.length→(LBis ea w r x↔LBis (ea++em) w r x)
def slR (r:Nat × Nat × Nat) (o n c:Nat):Value:=.slice (some ⟨r.1,o+r.2.1,some 0⟩) n (c+r.2.2)
theorem app_get {α:Type} {a b:List α} (i:Nat):(a++b)[a.length+i]?=b[i]?:=by
 rw [List.getElem?_append_right (by omega)]; congr 1; omega
theorem Up.int {k:IntKind} {n:Int}:Up ea (.int k n) (.int k n):=fun _ _=>Iff.rfl
theorem Up.ptr {i o a:Nat} (ha:ea.length+i=a):Up ea (.pointer (some ⟨i,o,none⟩)) (.pointer (some ⟨a,o,none⟩)):=fun em v'=>by
 subst ha
 constructor
 ·rintro ⟨a',h1,h2,r,h3,h4⟩
  exact ⟨a',h1,h2,r,by show (ea++em)[_]?=_; rw [app_get]; exact h3,h4⟩
 ·rintro ⟨a',h1,h2,r,h3,h4⟩
  exact ⟨a',h1,h2,r,by have h3:(ea++em)[ea.length+i]?=_:=h3; rw [app_get] at h3; exact h3,h4⟩
theorem Up.map {i a:Nat} (ha:ea.length+i=a):Up ea (.map (some i)) (.map (some a)):=fun em v'=>by
 subst ha
 constructor
 ·rintro ⟨r,h1,h2⟩
  exact ⟨r,by rw [app_get]; exact h1,h2⟩
 ·rintro ⟨r,h1,h2⟩
  exact ⟨r,by rw [app_get] at h1; exact h1,h2⟩
theorem Up.sl {i o n c a:Nat} (ha:ea.length+i=a):Up ea (.slice (some ⟨i,o,none⟩) n c) (.slice (some ⟨a,o,none⟩) n c):=fun em v'=>by
 subst ha
 constructor
 ·rintro ⟨h0,r,h1,h2⟩
  exact ⟨h0,r,by show (ea++em)[_]?=_; rw [app_get]; exact h1,h2⟩
 ·rintro ⟨h0,r,h1,h2⟩
  exact ⟨h0,r,by have h1:(ea++em)[ea.length+i]?=_:=h1; rw [app_get] at h1; exact h1,h2⟩
theorem Up.adR {i o:Nat} {r:Nat × Nat × Nat} (hr:ea[i]?=some r):Up ea (adR r o) (.pointer (some ⟨i,o,none⟩)):=fun em v'=>by
 have hg:(ea++em)[i]?=some r:=by rw [List.getElem?_append_left (List.getElem?_eq_some_iff.1 hr).1]; exact hr
 constructor
 ·intro h
  have h:v'=.pointer (some ⟨r.1,o+r.2.1,none⟩):=h
  subst h
  exact ⟨_,rfl,rfl,r,hg,rfl⟩
 ·rintro ⟨a',h1,_,r',h3,h4⟩
  have h3:(ea++em)[i]?=_:=h3
  rw [hg] at h3; cases h3
  show v'=_
  rw [h1,h4]
theorem Up.slR {i o n c:Nat} {r:Nat × Nat × Nat} (hr:ea[i]?=some r) (hn:n≠0):Up ea (slR r o n c) (.slice (some ⟨i,o,none⟩) n c):=fun em v'=>by
 have hg:(ea++em)[i]?=some r:=by rw [List.getElem?_append_left (List.getElem?_eq_some_iff.1 hr).1]; exact hr
 constructor
 ·rintro (h | ⟨h,_⟩)
  ·exact ⟨rfl,r,hg,.inl ⟨_,_,h,.inl ⟨rfl,rfl⟩⟩⟩
  ·exact absurd h hn
 ·rintro ⟨_,r',h3,h4⟩
  have h3:(ea++em)[i]?=_:=h3
  rw [hg] at h3; cases h3
  rcases h4 with ⟨a',c',h5,⟨h6,h7⟩ | ⟨h6,_⟩⟩ | ⟨h6,_⟩
  ·left; rw [h5,h6,h7]
  ·exact absurd h6 hn
  ·exact absurd h6 hn
theorem UpL2 {us vs:List Value} (h:L2 (Up ea) vs us):∀ (em:Emb) (cs:List Value),L2 (SR em) vs cs↔L2 (SR (ea++em)) us cs:=by
 induction vs generalizing us with
 | nil =>
  cases us with
  | nil=>exact fun _ cs=>by cases cs <;> exact Iff.rfl
  | cons _ _=>exact h.elim
 | cons v vs ih =>
  cases us with
  | nil=>exact h.elim
  | cons u us =>
   intro em cs
   cases cs with
   | nil=>exact Iff.rfl
   | cons c cs=>exact ⟨fun k=>⟨(h.1 em c).1 k.1,(ih h.2 em cs).1 k.2⟩,fun k=>⟨(h.1 em c).2 k.1,(ih h.2 em cs).2 k.2⟩⟩
theorem L2_len {R:Value→Value→Prop}:∀ {a b:List Value},L2 R a b→a.length=b.length
 | [],[],_=>rfl
 | _::_,_::_,h=>by simp [L2_len h.2]
 | [],_::_,h=>h.elim
 | _::_,[],h=>h.elim
theorem UpB.cells {sz:Nat} {us vs:List Value} (h:L2 (Up ea) vs us):UpB ea (.cells sz vs) (.cells sz us):=by
 have hl:=L2_len h
 refine ⟨fun em w r=>?_,fun _=>rfl⟩
 simp only [LBis]
 constructor
 ·rintro ⟨cs,h1,h2,h3⟩
  exact ⟨cs,h1,by rw [← hl]; exact (UpL2 h em _).1 h2,by rw [← hl]; exact h3⟩
 ·rintro ⟨cs,h1,h2,h3⟩
  exact ⟨cs,h1,by rw [hl]; exact (UpL2 h em _).2 (by rw [← hl] at h2 ⊢; exact h2),by rw [hl]; exact h3⟩
theorem UpB.gro {sz:Nat} {vs:List Value}:UpB ea (.gro sz vs) (.gro sz vs):=⟨fun _ _ _=>Iff.rfl,fun _=>rfl⟩
theorem UpB.imap {G:IMap} {c:Nat}:UpB ea (.imap G c) (.imap G c):=⟨fun _ _ _=>Iff.rfl,fun _=>rfl⟩
def UpL (ea:Emb):LH→LH→Prop
 | [],[]=>True
 | x::S,y::T=>UpB ea x y∧UpL ea S T
 | _,_=>False
theorem UpL.len:∀ {S T:LH},UpL ea S T→S.length=T.length
 | [],[],_=>rfl
 | _::_,_::_,h=>by simp [UpL.len h.2]
 | [],_::_,h=>h.elim
 | _::_,[],h=>h.elim
theorem UpL.get:∀ {S T:LH},UpL ea S T→∀ (i:Nat) (y:LB),T[i]?=some y→∃ x,S[i]?=some x∧UpB ea x y
 | [],[],_,i,y,h=>by simp at h
 | x::S,z::T,h,0,y,e=>by simp at e; subst e; exact ⟨x,rfl,h.1⟩
 | x::S,z::T,h,i+1,y,e=>UpL.get h.2 i y e
 | [],_::_,h,_,_,_=>h.elim
 | _::_,[],h,_,_,_=>h.elim
theorem UpL.get':∀ {S T:LH},UpL ea S T→∀ (i:Nat) (x:LB),S[i]?=some x→∃ y,T[i]?=some y∧UpB ea x y
 | [],[],_,i,y,h=>by simp at h
 | x::S,z::T,h,0,y,e=>by simp at e; subst e; exact ⟨z,rfl,h.1⟩
 | x::S,z::T,h,i+1,y,e=>UpL.get' h.2 i y e
 | [],_::_,h,_,_,_=>h.elim
 | _::_,[],h,_,_,_=>h.elim
def SelfV (a:Nat) (v:Value):Prop:=∀ (ea em:Emb) (v':Value),ea.length=a→(SR ea v v'↔SR (ea++em) v v')
theorem SelfV.sl {a i o n c:Nat} (h:i<a):SelfV a (.slice (some ⟨i,o,none⟩) n c):=fun ea em v' hl=>by
 have e:(ea++em)[i]?=ea[i]?:=List.getElem?_append_left (by omega)
 constructor
 ·rintro ⟨h0,r,h1,h2⟩; exact ⟨h0,r,by show (ea++em)[i]?=_; rw [e]; exact h1,h2⟩
 ·rintro ⟨h0,r,h1,h2⟩; exact ⟨h0,r,by rw [← e]; exact h1,h2⟩
theorem SelfL {a:Nat} {vs:List Value} (h:∀ v∈vs,SelfV a v):∀ (ea em:Emb) (cs:List Value),ea.length=a→(L2 (SR ea) vs cs↔L2 (SR (ea++em)) vs cs):=by
 induction vs with
 | nil=>intro ea em cs _; cases cs <;> exact Iff.rfl
 | cons v vs ih =>
  intro ea em cs hl
  cases cs with
  | nil=>exact Iff.rfl
  | cons c cs=>exact ⟨fun k=>⟨(h v (List.mem_cons_self ..) ea em c hl).1 k.1,(ih (fun v hv=>h v (List.mem_cons_of_mem _ hv)) ea em cs hl).1 k.2⟩,fun k=>⟨(h v (List.mem_cons_self ..) ea em c hl).2 k.1,(ih (fun v hv=>h v (List.mem_cons_of_mem _ hv)) ea em cs hl).2 k.2⟩⟩
theorem Self.cellsB {a sz:Nat} {vs:List Value} (h:∀ v∈vs,SelfV a v) (ea em:Emb) (w:World) (r:Nat × Nat × Nat) (hl:ea.length=a):LBis ea w r (.cells sz vs)↔LBis (ea++em) w r (.cells sz vs):=by
 simp only [LBis]
 constructor
 ·rintro ⟨cs,h1,h2,h3⟩; exact ⟨cs,h1,(SelfL h ea em _ hl).1 h2,h3⟩
 ·rintro ⟨cs,h1,h2,h3⟩; exact ⟨cs,h1,(SelfL h ea em _ hl).2 h2,h3⟩
theorem BoxAt.rep (h:BoxAt em S w):Rep (footL em S) w em S w :=
 ⟨Fr.refl _ w,h.len,fun k x r hx hr b hf=>⟨.inr ⟨k,x,r,hx,hr,hf⟩,h.lt k x r b hx hr hf⟩,h.blk,h.inj⟩
theorem Rep.boxAt (h:Rep X w0 E L w):BoxAt E L w:=⟨h.len,h.blk,h.inj,fun k x r b hx hr hb=>(h.rng k x r hx hr b hb).2⟩
theorem split_get {M N:LH} {i:Nat} {x:LB} {r:Nat × Nat × Nat} (hl:ea.length=M.length) (hx:(M++N)[i]?=some x) (hr:(ea++em)[i]?=some r):(M[i]?=some x∧ea[i]?=some r)∨∃ j,i=M.length+j∧N[j]?=some x∧em[j]?=some r:=by
 by_cases h:i<M.length
 ·rw [List.getElem?_append_left h] at hx
  rw [List.getElem?_append_left (by omega)] at hr
  exact .inl ⟨hx,hr⟩
 ·rw [List.getElem?_append_right (by omega)] at hx
  rw [List.getElem?_append_right (by omega),hl] at hr
  exact .inr ⟨i-M.length,by omega,hx,hr⟩
theorem BoxAt.join (h1:BoxAt ea A w) (h2:BoxAt em S w) (hd:∀ c,footL ea A c→¬ footL em S c) (hS:UpL ea S T) (hA:Self A):BoxAt (ea++em) (A++T) w:=by
 have hl:=h1.len
 have key:∀ (i:Nat) (x:LB) (r:Nat × Nat × Nat),(A++T)[i]?=some x→(ea++em)[i]?=some r→(A[i]?=some x∧ea[i]?=some r)∨∃ j y,i=A.length+j∧S[j]?=some y∧em[j]?=some r∧UpB ea y x:=fun i x r hx hr=>by
  rcases split_get hl hx hr with h | ⟨j,h3,h4,h5⟩
  ·exact .inl h
  ·obtain ⟨y,h6,h7⟩:=hS.get j x h4
   exact .inr ⟨j,y,h3,h6,h5,h7⟩
 refine ⟨by rw [List.length_append,List.length_append,hl,h2.len,hS.len],fun i x r hx hr=>?_,fun i i' x x' r r' c hx hx' hr hr' hc hc'=>?_,fun i x r c hx hr hc=>?_⟩
 ·rcases key i x r hx hr with ⟨h3,h4⟩ | ⟨j,y,_,h3,h4,h5⟩
  ·exact (hA i x h3 ea em w r hl).1 (h1.blk i x r h3 h4)
  ·exact (h5.1 em w r).1 (h2.blk j y r h3 h4)
 ·rcases key i x r hx hr with ⟨h3,h4⟩ | ⟨j,y,e1,h3,h4,h5⟩
  ·rcases key i' x' r' hx' hr' with ⟨h6,h7⟩ | ⟨j',y',_,h6,h7,h8⟩
   ·exact h1.inj i i' x x' r r' c h3 h6 h4 h7 hc hc'
   ·exact absurd ⟨j',y',r',h6,h7,by rw [h8.2]; exact hc'⟩ (hd c ⟨i,x,r,h3,h4,hc⟩)
  ·rcases key i' x' r' hx' hr' with ⟨h6,h7⟩ | ⟨j',y',e2,h6,h7,h8⟩
   ·exact absurd ⟨j,y,r,h3,h4,by rw [h5.2]; exact hc⟩ (hd c ⟨i',x',r',h6,h7,hc'⟩)
   ·have:=h2.inj j j' y y' r r' c h3 h6 h4 h7 (by rw [h5.2]; exact hc) (by rw [h8.2]; exact hc')
    omega
 ·rcases key i x r hx hr with ⟨h3,h4⟩ | ⟨j,y,_,h3,h4,h5⟩
  ·exact h1.lt i x r c h3 h4 hc
  ·exact h2.lt j y r c h3 h4 (by rw [h5.2]; exact hc)
theorem BoxAt.split (h:BoxAt (ea++em) (A++T) w) (hl:ea.length=A.length) (hS:UpL ea S T) (hA:Self A):BoxAt ea A w∧BoxAt em S w∧∀ c,footL ea A c→¬ footL em S c:=by
 have i1:∀ (i:Nat) (x:LB),A[i]?=some x→(A++T)[i]?=some x:=fun i x hx=>by rw [List.getElem?_append_left (List.getElem?_eq_some_iff.1 hx).1]; exact hx
 have i2:∀ (i:Nat) (r:Nat × Nat × Nat),ea[i]?=some r→(ea++em)[i]?=some r:=fun i r hr=>by rw [List.getElem?_append_left (List.getElem?_eq_some_iff.1 hr).1]; exact hr
 have i3:∀ (j:Nat) (r:Nat × Nat × Nat),em[j]?=some r→(ea++em)[A.length+j]?=some r:=fun j r hr=>by rw [← hl,app_get]; exact hr
 have i4:∀ (j:Nat) (x:LB),S[j]?=some x→∃ y,(A++T)[A.length+j]?=some y∧UpB ea x y:=fun j x hx=>by
  obtain ⟨y,h1,h2⟩:=hS.get' j x hx
  exact ⟨y,by rw [app_get]; exact h1,h2⟩
 refine ⟨⟨hl,fun i x r hx hr=>(hA i x hx ea em w r hl).2 (h.blk i x r (i1 i x hx) (i2 i r hr)),fun i i' x x' r r' c hx hx' hr hr' hc hc'=>h.inj i i' x x' r r' c (i1 i x hx) (i1 i' x' hx') (i2 i r hr) (i2 i' r' hr') hc hc',fun i x r c hx hr hc=>h.lt i x r c (i1 i x hx) (i2 i r hr) hc⟩,⟨?_,fun j x r hx hr=>?_,fun j j' x x' r r' c hx hx' hr hr' hc hc'=>?_,fun j x r c hx hr hc=>?_⟩,?_⟩
 ·have:=h.len
  rw [List.length_append,List.length_append,← hS.len] at this; omega
 ·obtain ⟨y,h1,h2⟩:=i4 j x hx
  exact (h2.1 em w r).2 (h.blk _ y r h1 (i3 j r hr))
 ·obtain ⟨y,h1,h2⟩:=i4 j x hx
  obtain ⟨y',h3,h4⟩:=i4 j' x' hx'
  have:=h.inj _ _ y y' r r' c h1 h3 (i3 j r hr) (i3 j' r' hr') (by rw [← h2.2]; exact hc) (by rw [← h4.2]; exact hc')
  omega
 ·obtain ⟨y,h1,h2⟩:=i4 j x hx
  exact h.lt _ y r c h1 (i3 j r hr) (by rw [← h2.2]; exact hc)
 ·rintro c ⟨i,x,r,hx,hr,hc⟩ ⟨j,y,q,hy,hq,hc'⟩
  obtain ⟨z,h1,h2⟩:=i4 j y hy
  have:=h.inj i _ x z r q c (i1 i x hx) h1 (i2 i r hr) (i3 j q hq) hc (by rw [← h2.2]; exact hc')
  have:=(List.getElem?_eq_some_iff.1 hx).1
  omega
theorem footL_app (hl:ea.length=A.length) (hS:UpL ea S T) (c:Nat):footL (ea++em) (A++T) c↔footL ea A c∨footL em S c:=by
 constructor
 ·rintro ⟨i,x,r,hx,hr,hc⟩
  rcases split_get hl hx hr with ⟨h1,h2⟩ | ⟨j,_,h1,h2⟩
  ·exact .inl ⟨i,x,r,h1,h2,hc⟩
  ·obtain ⟨y,h3,h4⟩:=hS.get j x h1
   exact .inr ⟨j,y,r,h3,h2,by rw [h4.2]; exact hc⟩
 ·rintro (⟨i,x,r,hx,hr,hc⟩ | ⟨j,y,r,hy,hr,hc⟩)
  ·exact ⟨i,x,r,by rw [List.getElem?_append_left (List.getElem?_eq_some_iff.1 hx).1]; exact hx,by rw [List.getElem?_append_left (List.getElem?_eq_some_iff.1 hr).1]; exact hr,hc⟩
  ·obtain ⟨x,h1,h2⟩:=hS.get' j y hy
   exact ⟨A.length+j,x,r,by rw [app_get]; exact h1,by rw [← hl,app_get]; exact hr,by rw [← h2.2]; exact hc⟩
theorem Rep.upd2 {b k:Nat} {x x' y z:LB} {r q:Nat × Nat × Nat} (h:Rep X w0 E L w) (hy:L[b]?=some y) (hr:E[b]?=some r) (hz:L[k]?=some z) (hq:E[k]?=some q) (hf:Fr (fun c=>foot r y c∨foot q z c) w w') (hx:LBis E w' r x) (hx':LBis E w' q x')
  (f1:∀ c,foot r x c→(foot r y c∨foot q z c)∨(w.heap.size≤c∧c<w'.heap.size)) (f2:∀ c,foot q x' c→(foot r y c∨foot q z c)∨(w.heap.size≤c∧c<w'.heap.size)) (hd:∀ c,foot r x c→¬ foot q x' c):Rep X w0 E ((L.set b x).set k x') w':=by
 have hb:=(List.getElem?_eq_some_iff.1 hy).1
 have hkl:=(List.getElem?_eq_some_iff.1 hz).1
 have frs:=h.fr.size
 have cut:∀ (i:Nat) (u:LB) (p:Nat × Nat × Nat),((L.set b x).set k x')[i]?=some u→E[i]?=some p→(i=b∧u=x∧p=r)∨(i=k∧u=x'∧p=q)∨(i≠b∧i≠k∧L[i]?=some u∧E[i]?=some p):=by
  intro i u p hu hp
  rw [List.getElem?_set,List.length_set] at hu
  by_cases e:k=i
  ·subst e
   rw [if_pos rfl,if_pos hkl] at hu; cases hu
   rw [hq] at hp; cases hp
   exact .inr (.inl ⟨rfl,rfl,rfl⟩)
  ·rw [if_neg e,List.getElem?_set] at hu
   by_cases e2:b=i
   ·subst e2
    rw [if_pos rfl,if_pos hb] at hu; cases hu
    rw [hr] at hp; cases hp
    exact .inl ⟨rfl,rfl,rfl⟩
   ·rw [if_neg e2] at hu
    exact .inr (.inr ⟨fun e'=>e2 e'.symm,fun e'=>e e'.symm,hu,hp⟩)
 have old:∀ (c:Nat),foot r y c∨foot q z c→(w0.heap.size≤c∨X c)∧c<w.heap.size:=fun c hc=>by
  rcases hc with hc | hc
  ·exact h.rng b y r hy hr c hc
  ·exact h.rng k z q hz hq c hc
 have oth:∀ (i:Nat) (u:LB) (p:Nat × Nat × Nat) (c:Nat),i≠b→i≠k→L[i]?=some u→E[i]?=some p→foot p u c→¬ ((foot r y c∨foot q z c)∨(w.heap.size≤c∧c<w'.heap.size)):=by
  rintro i u p c n1 n2 hu hp hc ((h1 | h1) | h1)
  ·exact n1 (h.inj i b u y p r c hu hy hp hr hc h1)
  ·exact n2 (h.inj i k u z p q c hu hz hp hq hc h1)
  ·have:=(h.rng i u p hu hp c hc).2; omega
 have rg:∀ (c:Nat),((foot r y c∨foot q z c)∨(w.heap.size≤c∧c<w'.heap.size))→(w0.heap.size≤c∨X c)∧c<w'.heap.size:=fun c hc=>by
  rcases hc with hc | hc
  ·exact ⟨(old c hc).1,Nat.lt_of_lt_of_le (old c hc).2 hf.size⟩
  ·exact ⟨.inl (by omega),hc.2⟩
 refine ⟨h.fr.trans hf fun c hc e=>by rcases (old c e).1 with h1 | h1 <;> first | omega|exact h1,by rw [h.len,List.length_set,List.length_set],fun i u p hu hp c hc=>?_,fun i u p hu hp=>?_,fun i i' u u' p p' c hu hu' hp hp' hc hc'=>?_⟩
 ·rcases cut i u p hu hp with ⟨_,rfl,rfl⟩ | ⟨_,rfl,rfl⟩ | ⟨_,_,h1,h2⟩
  ·exact rg c (f1 c hc)
  ·exact rg c (f2 c hc)
  ·have:=h.rng i u p h1 h2 c hc; exact ⟨this.1,Nat.lt_of_lt_of_le this.2 hf.size⟩
 ·rcases cut i u p hu hp with ⟨_,rfl,rfl⟩ | ⟨_,rfl,rfl⟩ | ⟨n1,n2,h1,h2⟩
  ·exact hx
  ·exact hx'
  ·exact (h.blk i u p h1 h2).fr hf (fun c hc=>(h.rng i u p h1 h2 c hc).2) fun c hc hc'=>oth i u p c n1 n2 h1 h2 hc (.inl hc')
 ·rcases cut i u p hu hp with ⟨e1,rfl,rfl⟩ | ⟨e1,rfl,rfl⟩ | ⟨n1,n2,h1,h2⟩
  ·rcases cut i' u' p' hu' hp' with ⟨e2,_,_⟩ | ⟨e2,rfl,rfl⟩ | ⟨n3,n4,h3,h4⟩
   ·omega
   ·exact absurd hc' (hd c hc)
   ·exact absurd (f1 c hc) (oth i' u' p' c n3 n4 h3 h4 hc')
  ·rcases cut i' u' p' hu' hp' with ⟨e2,rfl,rfl⟩ | ⟨e2,_,_⟩ | ⟨n3,n4,h3,h4⟩
   ·exact absurd hc (hd c hc')
   ·omega
   ·exact absurd (f2 c hc) (oth i' u' p' c n3 n4 h3 h4 hc')
  ·rcases cut i' u' p' hu' hp' with ⟨e2,rfl,rfl⟩ | ⟨e2,rfl,rfl⟩ | ⟨n3,n4,h3,h4⟩
   ·exact absurd (f1 c hc') (oth i u p c n1 n2 h1 h2 hc)
   ·exact absurd (f2 c hc') (oth i u p c n1 n2 h1 h2 hc)
   ·exact h.inj i i' u u' p p' c h1 h3 h2 h4 hc hc'
theorem Rep.tab {P:Program} (h:Rep X w0 E L w) (hT:TabOk P X w0) {F:Nat→Prop} (hF:∀ c,F c→∃ (i:Nat) (x:LB) (r:Nat × Nat × Nat),L[i]?=some x∧E[i]?=some r∧foot r x c):TabOk P F w:=fun g hg=>by
 obtain ⟨h1,h2,h3⟩:=hT g hg
 refine ⟨fun i x hx=>?_,fun hc=>?_,Nat.lt_of_lt_of_le h3 h.fr.size⟩
 ·rw [h.fr.cell h3 h2]; exact h1 i x hx
 ·obtain ⟨i,x,r,e1,e2,e3⟩:=hF g hc
  rcases (h.rng i x r e1 e2 g e3).1 with h4 | h4
  ·omega
  ·exact h2 h4
def Has (ms:List Mem) (m:Mem) (rest:List Mem):Prop:=(∀ w,CrowdAt ms w→CrowdAt (m::rest) w)∧∀ (c:Nat) (m':Mem),m'∈m::rest→m'.at c→∃ m2∈ms,m2.at c
theorem Has.perm {ms rest:List Mem} {m:Mem} (h:ms.Perm (m::rest)):Has ms m rest:=⟨fun _ k=>k.perm h,fun _ m' hm hc=>⟨m',h.mem_iff.2 hm,hc⟩⟩
theorem Has.self {m:Mem} {rest:List Mem}:Has (m::rest) m rest:=.perm (List.Perm.refl _)
theorem Has.none {ms:List Mem}:Has ms ([],[]) ms:=⟨fun _ h=>⟨fun m hm=>by
  rcases List.mem_cons.1 hm with rfl | hm
  ·exact ⟨rfl,fun k x r hx=>by simp at hx,fun k k' x x' r r' b hx=>by simp at hx,fun k x r b hx=>by simp at hx⟩
  ·exact h.all m hm,List.pairwise_cons.2 ⟨fun m' _ b hb=>by obtain ⟨k,x,r,hx,_⟩:=hb; simp at hx,h.apart⟩⟩,fun _ m' hm hc=>by
  rcases List.mem_cons.1 hm with rfl | hm
  ·obtain ⟨k,x,r,hx,_⟩:=hc; simp at hx
  ·exact ⟨m',hm,hc⟩⟩
theorem TrK.shared {P:Program} {keep:List Nat} {f:FuncId} {us vs:List Value} {A A' S T T':LH} {ea em:Emb} {ms rest:List Mem} {L:LH} {b k:Nat} {v1:Value} {V:Emb→Emb→Value} {S':Emb→LH}
  (ht:TrK P [] keep f us (A++T) (fun v K=>v=v1∧K=A'++T')) (hb:L[b]?=some (box ea A)) (hk:L[k]?=some (crowd ms)) (hne:b≠k) (hm:Has ms (em,S) rest) (hS:UpL ea S T) (hA:Self A) (hA':Self A') (hl:A'.length=A.length)
  (hS':∀ ea' em':Emb,ea'.length=A.length→em'.length=T'.length→(∀ i r,inL i keep=true→(ea++em)[i]?=some r→(ea'++em')[i]?=some r)→UpL ea' (S' ea') T') (hu:∀ E vs',L2 (VR E) vs vs'→ea.length=A.length→em.length=T.length→L2 (VR (ea++em)) us vs') (hv:∀ ea' em' v',ea'.length=A.length→em'.length=T'.length→(∀ i r,inL i keep=true→(ea++em)[i]?=some r→(ea'++em')[i]?=some r)→VR (ea'++em') v1 v'→∀ E,VR E (V ea' em') v') :
  TrK P [] (seqN 0 L.length) f vs L (fun v K=>∃ ea' em',ea'.length=A.length∧em'.length=T'.length∧(∀ i r,inL i keep=true→(ea++em)[i]?=some r→(ea'++em')[i]?=some r)∧v=V ea' em'∧K=(L.set b (box ea' A')).set k (crowd ((em',S' ea')::rest))):=by
 intro X w0 w E vs' hA0 hR hv'
 obtain ⟨r,hr⟩:=hR.ent hb
 obtain ⟨q,hq⟩:=hR.ent hk
 obtain ⟨h1,h2,_⟩:=hR.blk b _ r hb hr
 obtain ⟨h3,h4,_⟩:=hR.blk k _ q hk hq
 have h3:=hm.1 w h3
 have hB:BoxAt ea A w:=h1
 have hM:BoxAt em S w:=h3.all _ (List.mem_cons_self ..)
 have hap:=List.pairwise_cons.1 h3.apart
 have hfS:∀ c,footL em S c→foot q (crowd ms) c:=fun c hc=>hm.2 c (em,S) (List.mem_cons_self ..) hc
 have hfR:∀ c,(∃ m∈rest,m.at c)→foot q (crowd ms) c:=fun c ⟨m,h,hc⟩=>hm.2 c m (List.mem_cons_of_mem _ h) hc
 have hdj:∀ c,footL ea A c→¬ foot q (crowd ms) c:=fun c hc hc'=>hne (hR.inj b k _ _ r q c hb hk hr hq hc hc')
 have hJ:=hB.join hM (fun c hc hc'=>hdj c hc (hfS c hc')) hS hA
 have hF:∀ c,footL (ea++em) (A++T) c→footL ea A c∨footL em S c:=fun c hc=>(footL_app hB.len hS c).1 hc
 have hT:=hR.tab hA0.2.2 (F:=footL (ea++em) (A++T)) fun c hc=>by
  rcases hF c hc with h | h
  ·exact ⟨b,_,r,hb,hr,h⟩
  ·exact ⟨k,_,q,hk,hq,hfS c h⟩
 have hc:=ht (footL (ea++em) (A++T)) w w (ea++em) vs' ⟨hJ.len,by simp,hT⟩ hJ.rep (hu E vs' hv' hB.len (by rw [hM.len,hS.len]))
 refine ⟨hc.1,hc.2.mono ?_⟩
 rintro v' w' ⟨E',_,_,g1,g0,g2,g3,rfl,rfl⟩
 have gl:=g3.len
 rw [List.length_append] at gl
 obtain ⟨ea',em',rfl,e1⟩:∃ ea' em',E'=ea'++em'∧ea'.length=A.length:=⟨E'.take A.length,E'.drop A.length,(List.take_append_drop _ _).symm,by rw [List.length_take]; omega⟩
 rw [List.length_append] at gl
 have e2:em'.length=T'.length:=by omega
 have e3:∀ i r,inL i keep=true→(ea++em)[i]?=some r→(ea'++em')[i]?=some r:=fun i p hi hp=>g1 i p hi hp
 have hS':=hS' ea' em' e1 e2 e3
 obtain ⟨k1,k2,k3⟩:=g3.boxAt.split (by rw [e1,hl]) hS' hA'
 have hfr:=g3.fr
 have new:∀ c,footL (ea'++em') (A'++T') c→(foot r (box ea A) c∨foot q (crowd ms) c)∨(w.heap.size≤c∧c<w'.heap.size):=fun c hc=>by
  obtain ⟨i,x,p,hx,hp,hc⟩:=hc
  obtain ⟨h5,h6⟩:=g3.rng i x p hx hp c hc
  rcases h5 with h5 | h5
  ·exact .inr ⟨h5,h6⟩
  ·left
   rcases hF c h5 with h | h
   ·exact .inl h
   ·exact .inr (hfS c h)
 have nA:∀ c,footL ea' A' c→footL (ea'++em') (A'++T') c:=fun c hc=>(footL_app (by rw [e1,hl]) hS' c).2 (.inl hc)
 have nS:∀ c,footL em' (S' ea') c→footL (ea'++em') (A'++T') c:=fun c hc=>(footL_app (by rw [e1,hl]) hS' c).2 (.inr hc)
 have hrest:∀ c,(∃ m∈rest,m.at c)→¬ footL (ea++em) (A++T) c:=fun c hc hc'=>by
  rcases hF c hc' with h | h
  ·exact hdj c h (hfR c hc)
  ·obtain ⟨m,hmm,hcm⟩:=hc
   exact hap.1 m hmm c h hcm
 have hrest2:∀ c,(∃ m∈rest,m.at c)→¬ footL (ea'++em') (A'++T') c:=fun c hc hc'=>by
  obtain ⟨i,x,p,hx,hp,hcc⟩:=hc'
  rcases (g3.rng i x p hx hp c hcc).1 with h5 | h5
  ·have:=(hR.rng k _ q hk hq c (hfR c hc)).2; omega
  ·exact hrest c hc h5
 have hCr:CrowdAt rest w':=CrowdAt.fr (w:=w) ⟨fun m hm=>h3.all m (List.mem_cons_of_mem _ hm),hap.2⟩ hfr hrest
 have hC:CrowdAt ((em',S' ea')::rest) w':=⟨fun m hm=>by
  rcases List.mem_cons.1 hm with rfl | hm
  ·exact k2
  ·exact hCr.all m hm,List.pairwise_cons.2 ⟨fun m hmm c hc hc'=>hrest2 c ⟨m,hmm,hc'⟩ (nS c hc),hap.2⟩⟩
 refine ⟨E,_,_,fun _ _ _ h=>h,?_,hv ea' em' v' e1 e2 e3 g2 E,?_,ea',em',e1,e2,e3,rfl,rfl⟩
 ·rw [List.length_set,List.length_set]; exact Nat.le_refl _
 ·refine hR.upd2 hb hr hk hq (hfr.mono fun c _ hc=>?_) (k1.is h2) (hC.is h4) (fun c hc=>new c (nA c hc)) (fun c hc=>?_) (fun c hc hc'=>?_)
  ·rcases hF c hc with h | h
   ·exact .inl h
   ·exact .inr (hfS c h)
  ·obtain ⟨m,hmm,hcm⟩:=hc
   rcases List.mem_cons.1 hmm with rfl | hmm
   ·exact new c (nS c hcm)
   ·exact .inl (.inr (hfR c ⟨m,hmm,hcm⟩))
  ·obtain ⟨m,hmm,hcm⟩:=hc'
   rcases List.mem_cons.1 hmm with rfl | hmm
   ·exact k3 c hc hcm
   ·exact hrest2 c ⟨m,hmm,hcm⟩ (nA c hc)
theorem crowd_perm {ms ms':List Mem} (h:ms.Perm ms'):crowd ms=crowd ms':=by
 unfold crowd
 congr 1
 ·funext _ w; exact propext ⟨fun k=>k.perm h,fun k=>k.perm h.symm⟩
 ·funext b; exact propext ⟨fun ⟨m,h1,h2⟩=>⟨m,h.mem_iff.1 h1,h2⟩,fun ⟨m,h1,h2⟩=>⟨m,h.mem_iff.2 h1,h2⟩⟩
def Plain (v:Value):Prop:=∀ (E E':Emb) (v':Value),VR E v v'→VR E' v v'
theorem L2.head {E E2:Emb} {v u:Value} {is vs':List Value} (h1:∀ v',VR E v v'→VR E2 u v') (h2:∀ v∈is,Plain v) (h:L2 (VR E) (v::is) vs'):L2 (VR E2) (u::is) vs':=by
 have key:∀ (is vs':List Value),(∀ v∈is,Plain v)→L2 (VR E) is vs'→L2 (VR E2) is vs':=by
  intro is
  induction is with
  | nil=>intro vs' _ h; cases vs' <;> exact h
  | cons a r ih=>intro vs' h h'; cases vs' with
   | nil=>exact h'
   | cons b s=>exact ⟨h a (List.mem_cons_self ..) _ _ _ h'.1,ih s (fun v hv=>h v (List.mem_cons_of_mem _ hv)) h'.2⟩
 cases vs' with
 | nil=>exact h.elim
 | cons b s=>exact ⟨h1 b h.1,key is s h2 h.2⟩
theorem VR.toIn {ea em E:Emb} {i o a:Nat} {r:Nat × Nat × Nat} {v':Value} (hr:em[i]?=some r) (ha:ea.length+i=a) (h:VR E (adR r o) v'):VR (ea++em) (.pointer (some ⟨a,o,none⟩)) v':=by
 have h:v'=.pointer (some ⟨r.1,o+r.2.1,none⟩):=h
 subst h; subst ha
 exact ⟨_,rfl,rfl,r,by show (ea++em)[_]?=_; rw [app_get]; exact hr,rfl⟩
theorem VR.toOut {ea em E:Emb} {i o a:Nat} {r:Nat × Nat × Nat} {v':Value} (hr:em[i]?=some r) (ha:ea.length+i=a) (h:VR (ea++em) (.pointer (some ⟨a,o,none⟩)) v'):VR E (adR r o) v':=by
 subst ha
 obtain ⟨a',h1,_,r',h3,h4⟩:=h
 have h3:(ea++em)[ea.length+i]?=_:=h3
 rw [app_get,hr] at h3; cases h3
 show v'=_
 rw [h1,h4]
theorem VR.in0 {em E:Emb} {i o:Nat} {r:Nat × Nat × Nat} {v':Value} (hr:em[i]?=some r) (h:VR E (adR r o) v'):VR em (.pointer (some ⟨i,o,none⟩)) v':=VR.toIn (ea:=[]) hr (by simp) h
theorem all_kept {a b:Emb} {n:Nat} (h:∀ i r,inL i (seqN 0 n)=true→a[i]?=some r→b[i]?=some r) (ha:a.length=n) (hb:b.length=n):b=a:=by
 apply List.ext_getElem?
 intro i
 by_cases hi:i<n
 ·rw [List.getElem?_eq_getElem (show i<a.length by omega)]
  exact h i _ (by
   rw [inL_mem]
   have:=seqN_get n 0 i hi
   rw [Nat.zero_add] at this
   exact List.mem_of_getElem? this) (List.getElem?_eq_getElem (by omega))
 ·rw [List.getElem?_eq_none (by omega),List.getElem?_eq_none (by omega)]
theorem TrK.sharedK {P:Program} {f:FuncId} {us vs:List Value} {A A' S S' T T':LH} {ea em:Emb} {ms ms' rest:List Mem} {v1 v2:Value}
  (ht:Tr P f us (A++T) (fun v K=>v=v1∧K=A'++T')) (hm:ms.Perm ((em,S)::rest)) (hm':ms'.Perm ((em,S')::rest)) (hS:UpL ea S T) (hS':UpL ea S' T') (hA:Self A) (hA':Self A') (hl:A'.length=A.length) (hlT:T'.length=T.length) (hea:ea.length=A.length) (hem:em.length=T.length)
  (hu:∀ E vs',L2 (VR E) vs vs'→L2 (VR (ea++em)) us vs') (hv:∀ v',VR (ea++em) v1 v'→∀ E,VR E v2 v') :
  Tr P f vs [crowd ms,box ea A] (fun v K=>v=v2∧K=[crowd ms',box ea A']):=by
 have eq:∀ ea' em':Emb,ea'.length=A.length→em'.length=T'.length→(∀ i r,inL i (seqN 0 (A++T).length)=true→(ea++em)[i]?=some r→(ea'++em')[i]?=some r)→ea'=ea∧em'=em:=fun ea' em' e1 e2 e3=>by
  have:=all_kept e3 (by rw [List.length_append,List.length_append]; omega) (by rw [List.length_append,List.length_append]; omega)
  exact List.append_inj this (by omega)
 refine Tr.mono (TrK.shared (A:=A) (A':=A') (S:=S) (T:=T) (T':=T') (S':=fun _=>S') (V:=fun _ _=>v2) (b:=1) (k:=0) ht rfl rfl (by decide) (.perm hm) hS hA hA' hl (fun ea' em' e1 e2 e3=>by rw [(eq ea' em' e1 e2 e3).1]; exact hS') (fun E vs' h _ _=>hu E vs' h) (fun ea' em' v' e1 e2 e3 h=>by
  obtain ⟨rfl,rfl⟩:=eq ea' em' e1 e2 e3
  exact hv v' h)) ?_
 rintro v K ⟨ea',em',e1,e2,e3,rfl,rfl⟩
 obtain ⟨rfl,rfl⟩:=eq ea' em' e1 e2 e3
 exact ⟨rfl,by rw [crowd_perm hm']; rfl⟩
theorem TrK.boxed {P:Program} {f:FuncId} {us vs:List Value} {A A':LH} {ea:Emb} {v1 v2:Value}
  (ht:Tr P f us A (fun v K=>v=v1∧K=A')) (hl:A'.length=A.length) (hea:ea.length=A.length) (hu:∀ E vs',L2 (VR E) vs vs'→L2 (VR ea) us vs') (hv:∀ v',VR ea v1 v'→∀ E,VR E v2 v') :
  Tr P f vs [box ea A] (fun v K=>v=v2∧K=[box ea A']):=by
 intro X w0 w E vs' hA0 hR hv'
 obtain ⟨r,hr⟩:=hR.ent (b:=0) rfl
 obtain ⟨h1,h2,_⟩:=hR.blk 0 _ r rfl hr
 have hB:BoxAt ea A w:=h1
 have hT:=hR.tab hA0.2.2 (F:=footL ea A) fun c hc=>⟨0,_,r,rfl,hr,hc⟩
 have hc:=ht (footL ea A) w w ea vs' ⟨hB.len,by simp,hT⟩ hB.rep (hu E vs' hv')
 refine ⟨hc.1,hc.2.mono ?_⟩
 rintro v' w' ⟨E',v0,L',g1,g0,g2,g3,q1,q2⟩
 subst q1; subst q2
 have gl:=g3.len
 obtain rfl:E'=ea:=all_kept (fun i p hi hp=>g1 i p hi hp) hea (by omega)
 refine ⟨E,v2,[box E' L'],fun _ _ _ h=>h,Nat.le_refl _,hv v' g2 E,hR.upd (b:=0) (x:=box E' L') rfl hr g3.fr (g3.boxAt.is h2) fun c hc=>?_,rfl,rfl⟩
 ·obtain ⟨i,x,p,hx,hp,hc⟩:=hc
  obtain ⟨h5,h6⟩:=g3.rng i x p hx hp c hc
  rcases h5 with h5 | h5
  ·exact .inr ⟨h5,h6⟩
  ·exact .inl h5
theorem TrK.member {P:Program} {f:FuncId} {us vs:List Value} {S S':LH} {em:Emb} {ms ms' rest:List Mem} {v1 v2:Value}
  (ht:Tr P f us S (fun v K=>v=v1∧K=S')) (hm:ms.Perm ((em,S)::rest)) (hm':ms'.Perm ((em,S')::rest)) (hl:S'.length=S.length) (hem:em.length=S.length) (hu:∀ E vs',L2 (VR E) vs vs'→L2 (VR em) us vs') (hv:∀ v',VR em v1 v'→∀ E,VR E v2 v') :
  Tr P f vs [crowd ms] (fun v K=>v=v2∧K=[crowd ms']):=by
 intro X w0 w E vs' hA0 hR hv'
 obtain ⟨q,hq⟩:=hR.ent (b:=0) rfl
 obtain ⟨g1,g2,_⟩:=hR.blk 0 _ q rfl hq
 have g1:CrowdAt ((em,S)::rest) w:=CrowdAt.perm hm g1
 have hB:BoxAt em S w:=g1.all _ (List.mem_cons_self ..)
 have hap:=List.pairwise_cons.1 g1.apart
 have hfS:∀ c,footL em S c→foot q (crowd ms) c:=fun c hc=>⟨(em,S),hm.mem_iff.2 (List.mem_cons_self ..),hc⟩
 have hT:=hR.tab hA0.2.2 (F:=footL em S) fun c hc=>⟨0,_,q,rfl,hq,hfS c hc⟩
 have hc:=ht (footL em S) w w em vs' ⟨hB.len,by simp,hT⟩ hB.rep (hu E vs' hv')
 refine ⟨hc.1,hc.2.mono ?_⟩
 rintro v' w' ⟨E',v0,L',k1,k0,k2,k3,q1,q2⟩
 subst q1; subst q2
 have gl:=k3.len
 obtain rfl:E'=em:=all_kept (fun i p hi hp=>k1 i p hi hp) hem (by omega)
 have new:∀ c,footL E' L' c→foot q (crowd ms) c∨(w.heap.size≤c∧c<w'.heap.size):=fun c ⟨i,x,p,hx,hp,hcc⟩=>by
  obtain ⟨h5,h6⟩:=k3.rng i x p hx hp c hcc
  rcases h5 with h5 | h5
  ·exact .inr ⟨h5,h6⟩
  ·exact .inl (hfS c h5)
 have hrest:∀ c,(∃ m∈rest,m.at c)→¬ footL E' S c:=fun c ⟨m,h1,h2⟩ h3=>hap.1 m h1 c h3 h2
 have hrest2:∀ c,(∃ m∈rest,m.at c)→¬ footL E' L' c:=fun c hc ⟨i,x,p,hx,hp,hcc⟩=>by
  rcases (k3.rng i x p hx hp c hcc).1 with h5 | h5
  ·obtain ⟨m,h1,h2⟩:=hc
   have:=(hR.rng 0 _ q rfl hq c ⟨m,hm.mem_iff.2 (List.mem_cons_of_mem _ h1),h2⟩).2
   omega
  ·exact hrest c hc h5
 have hCr:CrowdAt rest w':=CrowdAt.fr (w:=w) ⟨fun m h=>g1.all m (List.mem_cons_of_mem _ h),hap.2⟩ k3.fr hrest
 have hC:CrowdAt ms' w':=CrowdAt.perm hm'.symm ⟨fun m h=>by
  rcases List.mem_cons.1 h with rfl | h
  ·exact k3.boxAt
  ·exact hCr.all m h,List.pairwise_cons.2 ⟨fun m h c h1 h2=>hrest2 c ⟨m,h,h2⟩ h1,hap.2⟩⟩
 refine ⟨E,v2,[crowd ms'],fun _ _ _ h=>h,Nat.le_refl _,hv v' k2 E,hR.upd (b:=0) (x:=crowd ms') rfl hq (k3.fr.mono fun c _ h=>hfS c h) (hC.is g2) fun c h=>?_,rfl,rfl⟩
 obtain ⟨m,h1,h2⟩:=h
 rcases List.mem_cons.1 (hm'.mem_iff.1 h1) with rfl | h1
 ·exact new c h2
 ·exact .inl ⟨m,hm.mem_iff.2 (List.mem_cons_of_mem _ h1),h2⟩
end
end Go.Tum
end
section
namespace Go.Tum.Base
open Go Go.Tum
structure Cls (c:Int) (z n:Nat):Prop where
 is:(c=0∧z=16∧n=16)∨(c=1∧z=32∧n=8)∨(c=2∧z=64∧n=4)∨(c=3∧z=128∧n=2)
theorem Cls.size {c:Int} {z n:Nat} (h:Cls c z n):sizeC c=z:=by
 rcases h.is with ⟨rfl,rfl,rfl⟩ | ⟨rfl,rfl,rfl⟩ | ⟨rfl,rfl,rfl⟩ | ⟨rfl,rfl,rfl⟩ <;> rfl
theorem Cls.bd {c:Int} {z n:Nat} (h:Cls c z n):16≤z∧z≤128∧z % 16=0∧2≤n∧n≤16∧0≤c∧c<4:=by
 rcases h.is with ⟨rfl,rfl,rfl⟩ | ⟨rfl,rfl,rfl⟩ | ⟨rfl,rfl,rfl⟩ | ⟨rfl,rfl,rfl⟩ <;> decide
theorem Cls.of {c:Int} (h:sizeC c≠0):∃ z n,Cls c z n:=by
 unfold sizeC at h
 by_cases h0:c=0
 ·exact ⟨_,_,⟨.inl ⟨h0,rfl,rfl⟩⟩⟩
 by_cases h1:c=1
 ·exact ⟨_,_,⟨.inr (.inl ⟨h1,rfl,rfl⟩)⟩⟩
 by_cases h2:c=2
 ·exact ⟨_,_,⟨.inr (.inr (.inl ⟨h2,rfl,rfl⟩))⟩⟩
 by_cases h3:c=3
 ·exact ⟨_,_,⟨.inr (.inr (.inr ⟨h3,rfl,rfl⟩))⟩⟩
 simp [h0,h1,h2,h3] at h
def slotsC (c:Int):Int:=if c=0 then 16 else if c=1 then 8 else if c=2 then 4 else if c=3 then 2 else 0
theorem Cls.slots {c:Int} {z n:Nat} (h:Cls c z n):slotsC c=n:=by
 rcases h.is with ⟨rfl,rfl,rfl⟩ | ⟨rfl,rfl,rfl⟩ | ⟨rfl,rfl,rfl⟩ | ⟨rfl,rfl,rfl⟩ <;> rfl
def nC (c:Int):Nat:=(slotsC c).toNat
def zC (c:Int):Nat:=(sizeC c).toNat
theorem Cls.nC {c:Int} {z n:Nat} (h:Cls c z n):Base.nC c=n:=by unfold Base.nC; rw [h.slots]; rfl
theorem Cls.zC {c:Int} {z n:Nat} (h:Cls c z n):Base.zC c=z:=by unfold Base.zC; rw [h.size]; rfl
def baseN (p z k:Nat):Nat:=256*p+z*k
theorem Cls.base {c:Int} {z n:Nat} (h:Cls c z n) {k:Nat} (hk:k<n) (p:Nat):256*p≤baseN p z k∧baseN p z k+z≤256*(p+1)∧baseN p z k % 16=0∧z*k+z≤256∧baseN p z k=256*p+z*k∧baseN p z k / 256=p∧baseN p z k % 256 / z=k:=by
 unfold baseN
 rcases h.is with ⟨rfl,rfl,rfl⟩ | ⟨rfl,rfl,rfl⟩ | ⟨rfl,rfl,rfl⟩ | ⟨rfl,rfl,rfl⟩ <;> omega
def baseI (p z n:Nat) (k:Int):Int:=if k<0∨n≤k then -1 else baseN p z k.toNat
def slotI (z:Nat) (a:Int):Int:=if a<0∨65536≤a then -1 else a % 256 / z
def pageI (a:Int):Int:=if a<0∨65536≤a then -1 else a / 256
theorem Cls.slotI {c:Int} {z n:Nat} (h:Cls c z n) {k p:Nat} (hk:k<n) (hp:p<256):Base.slotI z (baseN p z k:Nat)=k∧pageI (baseN p z k:Nat)=p:=by
 unfold Base.slotI pageI baseN
 rcases h.is with ⟨rfl,rfl,rfl⟩ | ⟨rfl,rfl,rfl⟩ | ⟨rfl,rfl,rfl⟩ | ⟨rfl,rfl,rfl⟩ <;> (rw [if_neg (by omega),if_neg (by omega)]; omega)
def putL (key:BitVec 64) (a:Nat) (nx:Int):BitVec 64:=(BitVec.ofInt 64 (nx+1) ||| 6510516211317473280#64) ^^^ mixW (key+BitVec.ofInt 64 a)
def getL (key w:BitVec 64) (a:Nat):Option Int :=
 let x:=w ^^^ mixW (key+BitVec.ofInt 64 a)
 if (x &&& ~~~ 4294967295#64).toNat=6510516211317473280∧(x &&& 4294967295#64).toNat≤2147483648 then some ((x &&& 4294967295#64).toNat-1) else none
structure PS where
 pg:Nat
 c:Int
 ow:Int
 lw:BitVec 64
 hw:BitVec 64
 f:Int
structure PS.Ok (t:PS) (N z n:Nat):Prop where
 cls:Cls t.c z n
 pg:256*(t.pg+1)≤N
 f : -1≤t.f∧t.f<65536
 N:N≤65536
def PS.st (t:PS) (k:Nat):Int:=if t.lw.getLsbD k then 1 else if t.hw.getLsbD k then 2 else 0
def PS.stI (t:PS) (n:Nat) (k:Int):Int:=if k<0∨n≤k then -1 else t.st k.toNat
def putW (w:BitVec 64) (k:Nat) (v:Bool):BitVec 64:=if v then w ||| (1#64 <<< k) else w &&& ~~~ (1#64 <<< k)
theorem putW_eq (w:BitVec 64) {k:Nat} (hk:k<64) (v:Bool):putBit [w] k v=[putW w k v]:=by
 unfold putBit putW
 rw [show k / 64=0 by omega,show k % 64=k by omega]; rfl
theorem bitAt1 (w:BitVec 64) {k:Nat} (hk:k<64):bitAt [w] k=w.getLsbD k:=by
 unfold bitAt
 rw [show k / 64=0 by omega,show k % 64=k by omega]; rfl
theorem putW_get (w:BitVec 64) {k:Nat} (hk:k<64) (v:Bool) {j:Nat} (hj:j<64):(putW w k v).getLsbD j=if j=k then v else w.getLsbD j:=by
 have:=bitAt_put (ws:=[w]) (i:=k) v (by rw [show k / 64=0 by omega]; exact Nat.zero_lt_one) j
 rwa [putW_eq w hk,bitAt1 _ hj,bitAt1 _ hj] at this
def cntS (t:PS) (s:Int):Nat→Nat
 | 0=>0
 | k+1=>cntS t s k+if t.st k=s then 1 else 0
theorem cntS_le (t:PS) (s:Int):∀ k,cntS t s k≤k
 | 0=>Nat.le_refl _
 | k+1=>by have:=cntS_le t s k; simp only [cntS]; split <;> omega
def folP (key:BitVec 64) (bs:Bytes) (z n:Nat) (t:PS) (k:Nat):Int × Bool :=
 match getL key (wordB bs (baseN t.pg z k)) (baseN t.pg z k) with
 | none=>(-1,false)
 | some nx=>if nx = -1 then (-1,true) else (nx,decide (nx≠baseN t.pg z k∧pageI nx=t.pg∧nx=baseI t.pg z n (slotI z nx)∧t.stI n (slotI z nx)=0))
def joinP (key:BitVec 64) (bs:Bytes) (z:Nat) (t:PS) (k:Nat):Bytes:=overB bs (baseN t.pg z k) (putB (putL key (baseN t.pg z k) t.f) 8)
def tookB (key:BitVec 64) (bs:Bytes) (p z k:Nat):Bytes:=overB (overB bs (baseN p z k) (List.replicate (z-8) 0)) (baseN p z k+z-8) (putB (canW key (baseN p z k)) 8)
def dropB (bs:Bytes) (p z k:Nat):Bytes:=overB bs (baseN p z k) (List.replicate z 0xDD#8)
def standsK (key:BitVec 64) (bs:Bytes) (p z k:Nat):Bool:=decide (wordB bs (baseN p z k+z-8)=canW key (baseN p z k))
def madeP (key:BitVec 64) (bs:Bytes) (p z n:Nat):Nat→Bytes × Int
 | 0=>(bs,-1)
 | j+1=>let x:=madeP key bs p z n j; (overB x.1 (baseN p z (n-1-j)) (putB (putL key (baseN p z (n-1-j)) x.2) 8),baseN p z (n-1-j))
theorem joinB_length {c:Int} {z n:Nat} (hc:Cls c z n) {bs:Bytes} {p k:Nat} (hk:k<n) (hp:256*(p+1)≤bs.length) {v:BitVec 64}:(overB bs (baseN p z k) (putB v 8)).length=bs.length:=by
 have:=hc.base hk p
 have:=hc.bd
 rw [overB_length (by rw [putB_length]; omega)]
theorem madeP_len {key:BitVec 64} {bs:Bytes} {c:Int} {p z n:Nat} (hc:Cls c z n) (hp:256*(p+1)≤bs.length):∀ j,j≤n→(madeP key bs p z n j).1.length=bs.length
 | 0,_=>rfl
 | j+1,h=>by
  have ih:=madeP_len (key:=key) hc hp j (by omega)
  simp only [madeP]
  rw [joinB_length hc (by omega) (by rw [ih]; exact hp),ih]
theorem madeP_f {key:BitVec 64} {bs:Bytes} {c:Int} {p z n:Nat} (hc:Cls c z n) (hp:p<256):∀ j,j≤n → -1≤(madeP key bs p z n j).2∧(madeP key bs p z n j).2<65536
 | 0,_=>by simp [madeP]
 | j+1,h=>by
  have:=hc.base (k:=n-1-j) (by omega) p
  have:=hc.bd
  simp only [madeP]; omega
theorem tookB_length {key:BitVec 64} {c:Int} {z n:Nat} (hc:Cls c z n) {bs:Bytes} {p k:Nat} (hk:k<n) (hp:256*(p+1)≤bs.length):(tookB key bs p z k).length=bs.length:=by
 have:=hc.base hk p
 have:=hc.bd
 unfold tookB
 have h1:(overB bs (baseN p z k) (List.replicate (z-8) 0)).length=bs.length:=by rw [overB_length (by rw [List.length_replicate]; omega)]
 rw [overB_length (by rw [putB_length,h1]; omega),h1]
theorem dropB_length {c:Int} {z n:Nat} (hc:Cls c z n) {bs:Bytes} {p k:Nat} (hk:k<n) (hp:256*(p+1)≤bs.length):(dropB bs p z k).length=bs.length:=by
 have:=hc.base hk p
 have:=hc.bd
 unfold dropB
 rw [overB_length (by rw [List.length_replicate]; omega)]
end Go.Tum.Base
end
