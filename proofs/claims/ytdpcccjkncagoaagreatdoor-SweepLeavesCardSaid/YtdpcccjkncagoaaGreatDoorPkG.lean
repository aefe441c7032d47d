/-
  What the proof leans on, part 7: of the texts Awake20, SweepPlays, SweepAll, GheapApart, SweepLeaves, LawIn, SweepLeavesD.
-/
import Derived.Test.YtdpcccjkncagoaaGreatDoorPkF
set_option linter.unusedVariables false
set_option linter.unusedSimpArgs false
set_option linter.unusedSectionVars false
section
namespace Go.Proofs.YtdpcccjkncagoaaGreatDoor
open Go Go.Tum
def rowsS : List FnRow := [row_tumbrellaw20_awake, row_region_New, row_gheap_New, row_gheap_Heap_Alloc, row_gheap_Heap_Mark, row_sweep_New, row_sweep_Sweeper_Step, row_sweep_Sweeper_Gone, row_gheap_Heap_Has, row_gheap_Heap_Marked, row_arena_New, row_link_New, row_pages_New, row_large_New, row_region_Region_Config, row_region_Region_Arena, row_arena_Arena_Len, row_bitset_New, row_object_Shape_Class, row_gheap_Heap_place, row_region_Region_Pages, row_pages_Table_Map, row_class_Base, row_object_Make, row_bitset_Set_Put, row_gheap_Heap_Pages, row_sweep_Sweeper_Left, row_sweep_Sweeper_page, row_gheap_Heap_Unmark, row_bitset_Set_Has, row_link_mix, row_object_Shape_Bytes, row_class_Size, row_gheap_Heap_managed, row_gheap_Heap_row, row_gheap_Heap_slot, row_pages_Row_first, row_pages_Table_cut, row_pages_Table_place, row_class_Slots, row_arena_Arena_Word, row_arena_Arena_Fill, row_object_Shape_word, row_arena_Arena_SetWord, row_bitset_Set_in, row_gheap_Heap_In, row_gheap_Heap_Free, row_gheap_Heap_Tidy, row_bitset_Set_Count, row_bitset_Set_Len, row_object_Shape_may, row_class_may, row_pages_Table_Row, row_pages_Table_Len, row_pages_Row_free, row_arena_Arena_word, row_num_Get, row_arena_Arena_in, row_num_Put, row_gheap_Heap_All, row_pages_Table_Unmap, row_math_bits_OnesCount64, row_gheap_places, row_bitset_Set_All, row_bitset_Set_Next, row_bitset_bit]
theorem rowsS_ok : ∀ x ∈ rowsS, x.Ok Tryz.prog := by
  refine List.forall_mem_cons.2 ⟨row_tumbrellaw20_awake_ok, ?_⟩
  refine List.forall_mem_cons.2 ⟨row_region_New_ok, ?_⟩
  refine List.forall_mem_cons.2 ⟨row_gheap_New_ok, ?_⟩
  refine List.forall_mem_cons.2 ⟨row_gheap_Heap_Alloc_ok, ?_⟩
  refine List.forall_mem_cons.2 ⟨row_gheap_Heap_Mark_ok, ?_⟩
  refine List.forall_mem_cons.2 ⟨row_sweep_New_ok, ?_⟩
  refine List.forall_mem_cons.2 ⟨row_sweep_Sweeper_Step_ok, ?_⟩
  refine List.forall_mem_cons.2 ⟨row_sweep_Sweeper_Gone_ok, ?_⟩
  refine List.forall_mem_cons.2 ⟨row_gheap_Heap_Has_ok, ?_⟩
  refine List.forall_mem_cons.2 ⟨row_gheap_Heap_Marked_ok, ?_⟩
  refine List.forall_mem_cons.2 ⟨row_arena_New_ok, ?_⟩
  refine List.forall_mem_cons.2 ⟨row_link_New_ok, ?_⟩
  refine List.forall_mem_cons.2 ⟨row_pages_New_ok, ?_⟩
  refine List.forall_mem_cons.2 ⟨row_large_New_ok, ?_⟩
  refine List.forall_mem_cons.2 ⟨row_region_Region_Config_ok, ?_⟩
  refine List.forall_mem_cons.2 ⟨row_region_Region_Arena_ok, ?_⟩
  refine List.forall_mem_cons.2 ⟨row_arena_Arena_Len_ok, ?_⟩
  refine List.forall_mem_cons.2 ⟨row_bitset_New_ok, ?_⟩
  refine List.forall_mem_cons.2 ⟨row_object_Shape_Class_ok, ?_⟩
  refine List.forall_mem_cons.2 ⟨row_gheap_Heap_place_ok, ?_⟩
  refine List.forall_mem_cons.2 ⟨row_region_Region_Pages_ok, ?_⟩
  refine List.forall_mem_cons.2 ⟨row_pages_Table_Map_ok, ?_⟩
  refine List.forall_mem_cons.2 ⟨row_class_Base_ok, ?_⟩
  refine List.forall_mem_cons.2 ⟨row_object_Make_ok, ?_⟩
  refine List.forall_mem_cons.2 ⟨row_bitset_Set_Put_ok, ?_⟩
  refine List.forall_mem_cons.2 ⟨row_gheap_Heap_Pages_ok, ?_⟩
  refine List.forall_mem_cons.2 ⟨row_sweep_Sweeper_Left_ok, ?_⟩
  refine List.forall_mem_cons.2 ⟨row_sweep_Sweeper_page_ok, ?_⟩
  refine List.forall_mem_cons.2 ⟨row_gheap_Heap_Unmark_ok, ?_⟩
  refine List.forall_mem_cons.2 ⟨row_bitset_Set_Has_ok, ?_⟩
  refine List.forall_mem_cons.2 ⟨row_link_mix_ok, ?_⟩
  refine List.forall_mem_cons.2 ⟨row_object_Shape_Bytes_ok, ?_⟩
  refine List.forall_mem_cons.2 ⟨row_class_Size_ok, ?_⟩
  refine List.forall_mem_cons.2 ⟨row_gheap_Heap_managed_ok, ?_⟩
  refine List.forall_mem_cons.2 ⟨row_gheap_Heap_row_ok, ?_⟩
  refine List.forall_mem_cons.2 ⟨row_gheap_Heap_slot_ok, ?_⟩
  refine List.forall_mem_cons.2 ⟨row_pages_Row_first_ok, ?_⟩
  refine List.forall_mem_cons.2 ⟨row_pages_Table_cut_ok, ?_⟩
  refine List.forall_mem_cons.2 ⟨row_pages_Table_place_ok, ?_⟩
  refine List.forall_mem_cons.2 ⟨row_class_Slots_ok, ?_⟩
  refine List.forall_mem_cons.2 ⟨row_arena_Arena_Word_ok, ?_⟩
  refine List.forall_mem_cons.2 ⟨row_arena_Arena_Fill_ok, ?_⟩
  refine List.forall_mem_cons.2 ⟨row_object_Shape_word_ok, ?_⟩
  refine List.forall_mem_cons.2 ⟨row_arena_Arena_SetWord_ok, ?_⟩
  refine List.forall_mem_cons.2 ⟨row_bitset_Set_in_ok, ?_⟩
  refine List.forall_mem_cons.2 ⟨row_gheap_Heap_In_ok, ?_⟩
  refine List.forall_mem_cons.2 ⟨row_gheap_Heap_Free_ok, ?_⟩
  refine List.forall_mem_cons.2 ⟨row_gheap_Heap_Tidy_ok, ?_⟩
  refine List.forall_mem_cons.2 ⟨row_bitset_Set_Count_ok, ?_⟩
  refine List.forall_mem_cons.2 ⟨row_bitset_Set_Len_ok, ?_⟩
  refine List.forall_mem_cons.2 ⟨row_object_Shape_may_ok, ?_⟩
  refine List.forall_mem_cons.2 ⟨row_class_may_ok, ?_⟩
  refine List.forall_mem_cons.2 ⟨row_pages_Table_Row_ok, ?_⟩
  refine List.forall_mem_cons.2 ⟨row_pages_Table_Len_ok, ?_⟩
  refine List.forall_mem_cons.2 ⟨row_pages_Row_free_ok, ?_⟩
  refine List.forall_mem_cons.2 ⟨row_arena_Arena_word_ok, ?_⟩
  refine List.forall_mem_cons.2 ⟨row_num_Get_ok, ?_⟩
  refine List.forall_mem_cons.2 ⟨row_arena_Arena_in_ok, ?_⟩
  refine List.forall_mem_cons.2 ⟨row_num_Put_ok, ?_⟩
  refine List.forall_mem_cons.2 ⟨row_gheap_Heap_All_ok, ?_⟩
  refine List.forall_mem_cons.2 ⟨row_pages_Table_Unmap_ok, ?_⟩
  refine List.forall_mem_cons.2 ⟨row_math_bits_OnesCount64_ok, ?_⟩
  refine List.forall_mem_cons.2 ⟨row_gheap_places_ok, ?_⟩
  refine List.forall_mem_cons.2 ⟨row_bitset_Set_All_ok, ?_⟩
  refine List.forall_mem_cons.2 ⟨row_bitset_Set_Next_ok, ?_⟩
  refine List.forall_mem_cons.2 ⟨row_bitset_bit_ok, ?_⟩
  exact fun x hx => by cases hx
theorem awake20_tr : Tr Tryz.prog 38 [] [] (fun v K => v = .bool true ∧ K = []) :=
  Tr.closedT (by kernel_rfl) rfl rfl fun w hw => closed_callH (vs := []) (fuel := 5000) ovTZ_ok rowsS_ok (rawQ1_ok _) (rawE2_ok _) rfl rfl rfl (by kernel_rfl) w (DoorH.of hw)
end Go.Proofs.YtdpcccjkncagoaaGreatDoor
end
section
namespace Go.Proofs.YtdpcccjkncagoaaGreatDoor
open Go Go.Tum Go.Tum.Base
set_option maxRecDepth 4000
abbrev W28 : List Nat := [0, 1, 2, 3, 4, 5, 6, 7, 8, 9, 10, 11, 12, 13, 14, 15, 16, 17, 18, 19, 20, 21, 22, 23, 24, 25, 26, 27]
abbrev WS : List Nat := [24, 25, 2, 3, 4, 5, 6, 7, 8, 9, 10, 11, 12, 13, 14]
def SHd (m : HM) (xs : List Int) (j d : Nat) (g : Nat) : LH :=
  [.cells 0 [ptr 2, .slice (some ⟨1, j * 1, none⟩) d d, .int .i64 g], .gro 1 (rowsC intC xs),
   .cells 0 [ptr 3, .int .i64 m.man, .int .i64 (m.man + m.mgd : Nat), ptr 11, ptr 13],
   .cells 0 [.int .i64 m.man, .int .i64 m.mgd, .int .u64 ((1#64).toNat : Int), ptr 4, ptr 6, .int .u64 ((keyW 1#64).toNat : Int), .map (some 8), ptr 9],
   .cells 0 [slB 5 m.bs.length], BL m.bs, .cells 0 [slB 7 m.rs.length], .gro 4 (rowsC PRow.cells m.rs), .imap [] 0,
   .cells 0 [ptr 4, .int .u64 ((keyW 1#64).toNat : Int), .map (some 10)], .imap m.G m.c,
   .cells 0 [slB 12 m.hw.length, .int .i64 (16 * (m.man + m.mgd) : Nat)], .gro 1 (rowsC wordC m.hw),
   .cells 0 [slB 14 m.mw.length, .int .i64 (16 * (m.man + m.mgd) : Nat)], .gro 1 (rowsC wordC m.mw)]
theorem SHL_d (m : HM) {xs : List Int} {j d : Nat} (g : Nat) (h : xs.length = j + d) : SHL m xs j g = SHd m xs j d g := by
  unfold SHL SHd
  rw [show xs.length - j = d by omega]
theorem swLeft_d (m : HM) {xs : List Int} {j d : Nat} (g : Nat) (h : xs.length = j + d) : Tr Tryz.prog 36 [ptr 0] (SHd m xs j d g) (fun v K => v = .int .i64 d ∧ K = SHd m xs j d g) := by
  have := swLeft_tr m xs j g
  rw [SHL_d m g h, show xs.length - j = d by omega] at this
  exact this
theorem swGone_d (m : HM) {xs : List Int} {j d : Nat} (g : Nat) (h : xs.length = j + d) : Tr Tryz.prog 37 [ptr 0] (SHd m xs j d g) (fun v K => v = .int .i64 g ∧ K = SHd m xs j d g) := by
  have := swGone_tr m xs j g
  rw [SHL_d m g h] at this
  exact this
theorem swStep_d0 (m : HM) {xs : List Int} {j : Nat} (g : Nat) (h : xs.length = j + 0) : TrK Tryz.prog [] SK 34 [ptr 0] (SHd m xs j 0 g) (fun v K => v = .tuple ⟨[.int .i64 0, .bool false]⟩ ∧ K = SHd m xs j 0 g) := by
  have := swStep_no m xs j g (by omega)
  rw [SHL_d m g h] at this
  exact this
theorem swStep_ds (m : HM) (gl : List Gb) (hI : HI m gl) {xs : List Int} (hx : xs.length ≤ 256) {j c : Nat} (g : Nat) (hg : g ≤ 1000000000) (h : xs.length = j + (c + 1)) : TrK Tryz.prog [] SK 34 [ptr 0] (SHd m xs j (c + 1) g) (fun v K => v = .tuple ⟨[.int .i64 (swN m xs j), .bool (decide (j + 1 < xs.length))]⟩ ∧ K = SHd (swS m xs j) xs (j + 1) c (g + swN m xs j)) := by
  have := swStep_ok m gl hI xs hx j g (by omega) hg
  rw [SHL_d m g h, SHL_d (d := c) _ _ (by omega)] at this
  exact this
end Go.Proofs.YtdpcccjkncagoaaGreatDoor
end
section
namespace Go.Proofs.YtdpcccjkncagoaaGreatDoor
open Go Go.Tum Go.Tum.Base
set_option maxRecDepth 4000
def PM1 (m n : HM) (gl : List Gb) : LH :=
  [.dead, .cells 0 [ptr 2, ptr 15],
   .cells 0 [ptr 3, .int .i64 m.man, .int .i64 (m.man + m.mgd : Nat), ptr 11, ptr 13],
   .cells 0 [.int .i64 m.man, .int .i64 m.mgd, .int .u64 ((1#64).toNat : Int), ptr 4, ptr 6, .int .u64 ((keyW 1#64).toNat : Int), .map (some 8), ptr 9],
   .cells 0 [slB 5 m.bs.length], BL m.bs, .cells 0 [slB 7 m.rs.length], .gro 4 (rowsC PRow.cells m.rs), .imap [] 0,
   .cells 0 [ptr 4, .int .u64 ((keyW 1#64).toNat : Int), .map (some 10)], .imap m.G m.c,
   .cells 0 [slB 12 m.hw.length, .int .i64 (16 * (m.man + m.mgd) : Nat)], .gro 1 (rowsC wordC m.hw),
   .cells 0 [slB 14 m.mw.length, .int .i64 (16 * (m.man + m.mgd) : Nat)], .gro 1 (rowsC wordC m.mw),
   .cells 0 [ptr 16, slB 17 (obs n).length], .cells 0 [.int .i64 n.man, .int .u64 ((keyW 1#64).toNat : Int), slB 18 n.bs.length, slB 19 n.rs.length, slB 20 (n.man + n.mgd), ptr 21],
   .gro 2 (rowsC obC (obs n)), BL n.bs, TB n.rs, .dead, .cells 0 [slB 23 n.bs.length, .int .u64 ((keyW 1#64).toNat : Int), slB 22 gl.length], .gro 2 (rowsC gbC gl), .dead]
end Go.Proofs.YtdpcccjkncagoaaGreatDoor
end
section
namespace Go.Proofs.YtdpcccjkncagoaaGreatDoor
open Go Go.Tum Go.Tum.Base
set_option maxRecDepth 4000
theorem str_neq' {l : Env} {L : LH} {n0 : NA} {o : Oper} {t ty : TypeId} {x y : Operand} {a b : List (BitVec 8)} (ho : o.op = .binOp .neq t x y ty) (hx : lv l x = some (.string (bytesS a))) (hy : lv l y = some (.string (bytesS b))) (e : a = b) : QY Tryz.prog n0 L l (.raw o) (.bool false) := by subst e; exact str_neq ho hx hy
theorem shN_nat {r n : Nat} (h : shOk r n = true) : shN r n = ((8 * (1 + r + n) : Nat) : Int) := by unfold shN; rw [if_pos h]; omega
end Go.Proofs.YtdpcccjkncagoaaGreatDoor
end
section
namespace Go.Tum.Base
open Go Go.Tum
def wI (l : List Nat) : List Int := l.map fun i : Nat => ((16 * i : Nat) : Int)
theorem wI_app (a b : List Nat) : wI (a ++ b) = wI a ++ wI b := List.map_append
theorem wI_len (a : List Nat) : (wI a).length = a.length := List.length_map _
theorem objI_wI (m : HM) : objI m = wI (objN m) := rfl
def wK (m : HM) (k : Nat) : List Nat := ((objN m).take k).filter fun i => bitAt m.mw i
theorem wK_succ {m : HM} {k i : Nat} (h : (objN m)[k]? = some i) : wK m (k + 1) = wK m k ++ if bitAt m.mw i then [i] else [] := by
  obtain ⟨hk, e⟩ := List.getElem?_eq_some_iff.1 h
  unfold wK
  rw [List.take_succ_eq_append_getElem hk, List.filter_append, e, List.filter_cons]
  rfl
theorem wK_len (m : HM) (k : Nat) : (wK m k).length ≤ (objN m).length := by
  unfold wK
  have := List.length_filter_le (fun i => bitAt m.mw i) ((objN m).take k)
  rw [List.length_take] at this
  omega
theorem wK_all (m : HM) : wK m (objN m).length = wantN m := by unfold wK wantN; rw [List.take_length]
end Go.Tum.Base
namespace Go.Proofs.YtdpcccjkncagoaaGreatDoor
open Go Go.Tum Go.Tum.Base
set_option maxRecDepth 4000
abbrev V25 : List Nat := [0, 1, 2, 3, 4, 5, 6, 7, 8, 9, 10, 11, 12, 13, 14, 15, 16, 17, 18, 19, 20, 21, 22, 23, 24, 25]
def PS2 (m n : HM) (gl : List Gb) (xs : List Int) (j d g : Nat) (w : List Nat) (bs : Bytes) : LH := PM1 m n gl ++ [.cells 0 [ptr 2, .slice (some ⟨25, j * 1, none⟩) d d, .int .i64 g], .gro 1 (rowsC intC xs), .gro 1 (rowsC intC (wI w)), BL bs]
theorem markN_zero {m : HM} (h : ∀ i, bitAt m.mw i = false) : markN (obs m) = 0 := by
  unfold markN obs
  rw [List.filter_map, List.length_map, List.filter_eq_nil_iff.2]
  · rfl
  · intro i _
    show ¬ bitAt m.mw i = true
    rw [h]; decide
set_option maxHeartbeats 8000000 in
theorem SweepLeaves_tr (b : Int) (hb : 0 ≤ b ∧ b < 256) (nb : Nat) (hnb : nb ≤ 9223372036854775807) (get : Nat → List Value) (op : Nat → Op18) (hop : ∀ i, i < nb → get i = (op i).cells ∧ (op i).In) :
    TrK Tryz.prog [(0, nb * 10, rowG 10 get)] [0] 7 [.int .u8 b, slB 0 nb] [.dead] (fun v _ => v = .bool true) := by
  obtain ⟨N, hN⟩ : ∃ N : Nat, 1 + b % 5 = N := ⟨(1 + b % 5).toNat, by omega⟩
  have hMk := make18_tr 1 N (by omega) (by omega)
  have hI0 := HI.init (man := 1) (mgd := N) (by omega) (by omega)
  have hG0 : GoodO (initM 1 N) := fun i hi hb => by
    have := objN_mem.2 ⟨hi, hb⟩
    rw [objN_init] at this; cases this
  have hz0 : (initM 1 N).man = 1 ∧ (initM 1 N).mgd = N := ⟨rfl, rfl⟩
  have hAw := awake20_tr
  generalize initM 1 N = m0 at *
  refine Tr.of row_tumbrellaw20_SweepLeaves_ok rfl ?_
  repeat' (first|refine L_rs ?_|refine dN ?_|refine dR ?_|refine d0 ?_|refine L_block ?_|refine rT ?_|refine L_true rfl ?_|refine L_false rfl ?_|refine L_skip (Nx.goL ?_)|refine L_skip ?_|refine L_exit (Nx.goL ?_)|refine L_exit ?_|refine iF (fun h=>?_) (fun h=>?_)|refine aX ?_|refine S_Q [] rfl rfl (QY.cvi rfl (wrap64_id (by omega) (by omega))) ?_|refine S_Q [] rfl rfl (QY.add rfl rfl hN (by omega) (by omega)) ?_|(refine cF [] (hMk) ?_; conv => whnf)|refine aA ?_|refine aS ?_|refine aK ?_|refine aI (hn := ?_)|refine aD ?_|refine aR ?_|refine aM ?_|refine sP 43 (fun h=>?_) (fun h=>?_)|refine sP 140 (fun h=>?_) (fun h=>?_)|refine sP 149 (fun h=>?_) (fun h=>?_)|refine sP 183 (fun h=>?_) (fun h=>?_)|refine sP 191 (fun h=>?_) (fun h=>?_)|refine sP 234 (fun h=>?_) (fun h=>?_)|refine L_reg ?_|refine L_seq ?_|exact ⟨rfl, rfl⟩|fail)
  refine LWp.pick [5, 34, 35, 36] Q24 rfl rfl rfl (L_loop (fun q l K => ∃ (i : Nat) (m : HM) (gl : List Gb), q = nb - i ∧ i ≤ nb ∧ HI m gl ∧ GoodO m ∧ (m.man = 1 ∧ m.mgd = N) ∧ l = [(5, ptr 1), (34, slB 0 nb), (35, .int .i64 nb), (36, .int .i64 i)] ∧ K = PL1 m gl) nb ⟨0, m0, [], rfl, by omega, hI0, hG0, hz0, rfl, rfl⟩ ?_)
  clear hMk hI0 hG0 hz0
  rintro q _ _ ⟨i, m, gl, rfl, hi, hI, hG, hz, rfl, rfl⟩
  first|refine L_seq (L_rs (S_done [] rfl (Nx.goL (iF (fun h => L_skip (Nx.goL ?_)) (fun h => L_exit ?_)))))|refine L_rs (S_done [] rfl (Nx.goL (L_seq (iF (fun h => L_skip (Nx.goL ?_)) (fun h => L_exit ?_)))))
  · have hi' : i < nb := by omega
    obtain ⟨e, ho⟩ := hop i hi'
    have hS := step_tr m gl hI (op i) ho false
    have hI' := hI.step (op i) false
    have hG' := hG.step hI (op i)
    have hz' := step_size m gl (op i) false
    rw [hz.1, hz.2] at hz'
    generalize (stepM m gl (op i) false).1 = m' at *
    generalize (stepM m gl (op i) false).2 = gl' at *
    repeat' (first|refine L_rs ?_|refine dN ?_|refine dR ?_|refine d0 ?_|refine L_block ?_|refine rT ?_|refine L_true rfl ?_|refine L_false rfl ?_|refine L_skip (Nx.goL ?_)|refine L_skip ?_|refine L_exit (Nx.goL ?_)|refine L_exit ?_|refine iF (fun h=>?_) (fun h=>?_)|refine aX ?_|refine S_Q (v := .agg ⟨(op i).cells⟩) [] rfl rfl (by rw [← e]; exact QY.rowA (j := 0) i rfl rfl rfl hi' (by rw [e]; rfl) (by rw [e]; rfl)) ?_|(refine cW Q23 (hS) ?_; conv => whnf)|refine aA ?_|refine aS ?_|refine aK ?_|refine aI (hn := ?_)|refine aD ?_|refine aR ?_|refine aM ?_|refine sP 43 (fun h=>?_) (fun h=>?_)|refine sP 140 (fun h=>?_) (fun h=>?_)|refine sP 149 (fun h=>?_) (fun h=>?_)|refine sP 183 (fun h=>?_) (fun h=>?_)|refine sP 191 (fun h=>?_) (fun h=>?_)|refine sP 234 (fun h=>?_) (fun h=>?_)|refine L_reg ?_|refine L_seq ?_|exact ⟨rfl, rfl⟩|fail)
    · exact Nx.pick [5, 34, 35, 36] Q24 rfl rfl rfl ⟨nb - (i + 1), by omega, i + 1, m', gl', rfl, by omega, hI', hG', hz', rfl, rfl⟩
    · exact Nx.pick [5, 34, 35, 36] Q24 rfl rfl rfl ⟨nb - (i + 1), by omega, i + 1, m, gl, rfl, by omega, hI, hG, hz, rfl, rfl⟩
  · refine Nx.goL ?_
    clear hop hi
    have hm := hI.toHOk
    have hAll := hAll_tr m hm
    have hol := objI_len hm
    have hwl : (objI m).length = (objN m).length := wI_len _
    rw [hwl] at hAll hol
    obtain ⟨hb0, hb1⟩ := hI.b0
    repeat' (first|refine L_rs ?_|refine dN ?_|refine dR ?_|refine d0 ?_|refine L_block ?_|refine rT ?_|refine L_true rfl ?_|refine L_false rfl ?_|refine L_skip (Nx.goL ?_)|refine L_skip ?_|refine L_exit (Nx.goL ?_)|refine L_exit ?_|refine iF (fun h=>?_) (fun h=>?_)|refine aX ?_|(refine cF QH (hAll) ?_; conv => whnf)|refine aA ?_|refine aS ?_|refine aK ?_|refine aI (hn := ?_)|refine aD ?_|refine aR ?_|refine aM ?_|refine sP 43 (fun h=>?_) (fun h=>?_)|refine sP 140 (fun h=>?_) (fun h=>?_)|refine sP 149 (fun h=>?_) (fun h=>?_)|refine sP 183 (fun h=>?_) (fun h=>?_)|refine sP 191 (fun h=>?_) (fun h=>?_)|refine sP 234 (fun h=>?_) (fun h=>?_)|refine L_reg ?_|refine L_seq ?_|exact ⟨rfl, rfl⟩|fail)
    refine LWp.nilE 8 1 rfl (LWp.pick [5, 8, 54, 55, 56] V25 rfl rfl rfl (L_loop (fun q l K => ∃ k : Nat, q = (objN m).length - k ∧ k ≤ (objN m).length ∧ l = [(5, ptr 1), (8, slB 25 (wK m k).length), (54, slB 24 (objN m).length), (55, .int .i64 (objN m).length), (56, .int .i64 k)] ∧ K = PL1 m gl ++ [.gro 1 (rowsC intC (objI m)), .gro 1 (rowsC intC (wI (wK m k)))]) (objN m).length ⟨0, rfl, by omega, rfl, rfl⟩ ?_))
    rintro q _ _ ⟨k, rfl, hk, rfl, rfl⟩
    first|refine L_seq (L_rs (S_done [] rfl (Nx.goL (iF (fun h => L_skip (Nx.goL ?_)) (fun h => L_exit ?_)))))|refine L_rs (S_done [] rfl (Nx.goL (L_seq (iF (fun h => L_skip (Nx.goL ?_)) (fun h => L_exit ?_)))))
    · have hk2 : k < (objN m).length := by omega
      have g0 : (objN m)[k]? = some (objN m)[k] := List.getElem?_eq_getElem hk2
      obtain ⟨c, hc⟩ : ∃ c, c = (objN m)[k] := ⟨_, rfl⟩
      rw [← hc] at g0
      have g1 := objI_get g0
      obtain ⟨g3, g4⟩ := objN_mem.1 (List.mem_of_getElem? g0)
      have hMd := hMarked_ok m hm c g3 g4
      have hs := wK_succ g0
      have hwk := wK_len m k
      have hwn := wI_len (wK m k)
      cases hb : bitAt m.mw c
      · rw [hb] at hMd hs
        rw [if_neg (by decide), List.append_nil] at hs
        repeat' (first|refine L_rs ?_|refine dN ?_|refine dR ?_|refine d0 ?_|refine L_block ?_|refine rT ?_|refine L_true rfl ?_|refine L_false rfl ?_|refine L_skip (Nx.goL ?_)|refine L_skip ?_|refine L_exit (Nx.goL ?_)|refine L_exit ?_|refine iF (fun h=>?_) (fun h=>?_)|refine aX ?_|refine S_Q [] rfl rfl (QY.ldI rfl rfl g1) ?_|refine cP QH (hMd) ?_|refine aA ?_|refine aS ?_|refine aK ?_|refine aI (hn := ?_)|refine aD ?_|refine aR ?_|refine aM ?_|refine sP 43 (fun h=>?_) (fun h=>?_)|refine sP 140 (fun h=>?_) (fun h=>?_)|refine sP 149 (fun h=>?_) (fun h=>?_)|refine sP 183 (fun h=>?_) (fun h=>?_)|refine sP 191 (fun h=>?_) (fun h=>?_)|refine sP 234 (fun h=>?_) (fun h=>?_)|refine L_reg ?_|refine L_seq ?_|exact ⟨rfl, rfl⟩|fail)
        exact Nx.pick [5, 8, 54, 55, 56] V25 rfl rfl rfl ⟨(objN m).length - (k + 1), by omega, k + 1, rfl, by omega, by rw [hs]; rfl, by rw [hs]; rfl⟩
      · rw [hb] at hMd hs
        rw [if_pos rfl] at hs
        repeat' (first|refine L_rs ?_|refine dN ?_|refine dR ?_|refine d0 ?_|refine L_block ?_|refine rT ?_|refine L_true rfl ?_|refine L_false rfl ?_|refine L_skip (Nx.goL ?_)|refine L_skip ?_|refine L_exit (Nx.goL ?_)|refine L_exit ?_|refine iF (fun h=>?_) (fun h=>?_)|refine aX ?_|refine S_Q [] rfl rfl (QY.ldI rfl rfl g1) ?_|refine cP QH (hMd) ?_|refine aA ?_|refine aS ?_|refine aK ?_|refine aI (hn := ?_)|refine aD ?_|refine aR ?_|refine aM ?_|refine sP 43 (fun h=>?_) (fun h=>?_)|refine sP 140 (fun h=>?_) (fun h=>?_)|refine sP 149 (fun h=>?_) (fun h=>?_)|refine sP 183 (fun h=>?_) (fun h=>?_)|refine sP 191 (fun h=>?_) (fun h=>?_)|refine sP 234 (fun h=>?_) (fun h=>?_)|refine L_reg ?_|refine L_seq ?_|exact ⟨rfl, rfl⟩|fail)
        first|refine L_rs ?_|refine L_reg ?_ | skip
        refine eE rfl rfl (EW.appR1 (bytes := 8) (a := ((16 * c : Nat) : Int)) intC_ok rfl (by kernel_rfl) rfl rfl rfl rfl hwn (by omega)) ?_
        conv => whnf
        repeat' (first|refine L_rs ?_|refine dN ?_|refine dR ?_|refine d0 ?_|refine L_block ?_|refine rT ?_|refine L_true rfl ?_|refine L_false rfl ?_|refine L_skip (Nx.goL ?_)|refine L_skip ?_|refine L_exit (Nx.goL ?_)|refine L_exit ?_|refine iF (fun h=>?_) (fun h=>?_)|refine aX ?_|refine aA ?_|refine aS ?_|refine aK ?_|refine aI (hn := ?_)|refine aD ?_|refine aR ?_|refine aM ?_|refine sP 43 (fun h=>?_) (fun h=>?_)|refine sP 140 (fun h=>?_) (fun h=>?_)|refine sP 149 (fun h=>?_) (fun h=>?_)|refine sP 183 (fun h=>?_) (fun h=>?_)|refine sP 191 (fun h=>?_) (fun h=>?_)|refine sP 234 (fun h=>?_) (fun h=>?_)|refine L_reg ?_|refine L_seq ?_|exact ⟨rfl, rfl⟩|fail)
        exact Nx.pick [5, 8, 54, 55, 56] [0, 1, 2, 3, 4, 5, 6, 7, 8, 9, 10, 11, 12, 13, 14, 15, 16, 17, 18, 19, 20, 21, 22, 23, 24, 27] rfl rfl rfl ⟨(objN m).length - (k + 1), by omega, k + 1, rfl, by omega, by rw [hs, List.length_append]; rfl, by rw [hs, wI_app]; rfl⟩
    · refine Nx.goL ?_
      obtain rfl : k = (objN m).length := by omega
      rw [wK_all]
      have hR := hRegion_tr m
      have hA := regArena_tr m.man m.mgd 1#64 m.bs m.rs m.G m.c
      have hLd := arenaLoad_ok m.bs hb1 0 m.bs.length (by omega)
      rw [partB_all] at hLd
      have hNw := swNew_tr m hm
      repeat' (first|refine L_rs ?_|refine dN ?_|refine dR ?_|refine d0 ?_|refine L_block ?_|refine rT ?_|refine L_true rfl ?_|refine L_false rfl ?_|refine L_skip (Nx.goL ?_)|refine L_skip ?_|refine L_exit (Nx.goL ?_)|refine L_exit ?_|refine iF (fun h=>?_) (fun h=>?_)|refine aX ?_|(refine cF QH (hR) ?_; conv => whnf)|(refine cF [3, 4, 5, 6, 7, 8, 9, 10] (hA) ?_; conv => whnf)|(refine cF [4, 5] (hLd) ?_; conv => whnf)|(refine cF QH (hAll) ?_; conv => whnf)|(refine cF QH (hNw) ?_; conv => whnf)|refine aA ?_|refine aS ?_|refine aK ?_|refine aI (hn := ?_)|refine aD ?_|refine aR ?_|refine aM ?_|refine sP 43 (fun h=>?_) (fun h=>?_)|refine sP 140 (fun h=>?_) (fun h=>?_)|refine sP 149 (fun h=>?_) (fun h=>?_)|refine sP 183 (fun h=>?_) (fun h=>?_)|refine sP 191 (fun h=>?_) (fun h=>?_)|refine sP 234 (fun h=>?_) (fun h=>?_)|refine L_reg ?_|refine L_seq ?_|exact ⟨rfl, rfl⟩|fail)
      clear hAll hNw hR hA hLd
      have hpl := pagesH_len m
      have hm1 := hm.n1
      obtain ⟨hF, hcnt⟩ := sweep_left hI (n := 20) (by omega)
      have hst := fun n => stA_stay m (pagesH m) (n := n)
      have hnx := fun n => stA_next m (pagesH m) (n := n)
      have hhi := fun n => stA_hi hI (n := n)
      have hgl := stG_le hI
      have hnl := natI_length (pagesH m)
      have hst0 := stA_zero m (pagesH m)
      have hsg0 : stG m (pagesH m) 0 = 0 := by unfold stG; rw [Nat.zero_min]; rfl
      generalize pagesH m = ps at *
      refine LWp.pick [5, 8, 11, 13, 14, 15] [0, 1, 2, 3, 4, 5, 6, 7, 8, 9, 10, 11, 12, 13, 14, 15, 16, 17, 18, 19, 20, 21, 22, 23, 29, 28, 25, 26] rfl rfl rfl (L_loop (fun q l K => ∃ n j d : Nat, q = 20 - n ∧ n ≤ 20 ∧ ps.length = j + d ∧ (n < ps.length → j = n) ∧ (ps.length ≤ n → d = 0) ∧ l = [(5, ptr 1), (8, slB 26 (wantN m).length), (11, slB 27 m.bs.length), (13, .int .i64 (objN m).length), (14, ptr 24), (15, .int .i64 n)] ∧ K = PS2 (stA m ps n) m gl (natI ps) j d (stG m ps n) (wantN m) m.bs) 20 ⟨0, 0, ps.length, rfl, by omega, by omega, fun _ => rfl, fun _ => by omega, rfl, by rw [hst0, hsg0]; rfl⟩ ?_)
      rintro q _ _ ⟨n, j, d, rfl, hn, hjd, hj1, hd0, rfl, rfl⟩
      first|refine L_seq (L_rs (S_done [] rfl (Nx.goL (iF (fun h => L_skip (Nx.goL ?_)) (fun h => L_exit ?_)))))|refine L_rs (S_done [] rfl (Nx.goL (L_seq (iF (fun h => L_skip (Nx.goL ?_)) (fun h => L_exit ?_)))))
      · have hn2 : n < 20 := by omega
        by_cases hc : n < ps.length
        · obtain rfl := hj1 hc
          obtain ⟨c, rfl⟩ : ∃ c, d = c + 1 := ⟨d - 1, by omega⟩
          obtain ⟨e1, e2⟩ := hnx j hc
          have hg := hgl j
          have hS := swStep_ds (stA m ps j) gl (hhi j hc) (xs := natI ps) (by omega) (j := j) (c := c) (stG m ps j) (by omega) (by omega)
          rw [← e1, ← e2] at hS
          clear hF hst hnx hhi
          repeat' (first|refine L_rs ?_|refine dN ?_|refine dR ?_|refine d0 ?_|refine L_block ?_|refine rT ?_|refine L_true rfl ?_|refine L_false rfl ?_|refine L_skip (Nx.goL ?_)|refine L_skip ?_|refine L_exit (Nx.goL ?_)|refine L_exit ?_|refine iF (fun h=>?_) (fun h=>?_)|refine aX ?_|(refine cW WS (hS) ?_; conv => whnf)|refine aA ?_|refine aS ?_|refine aK ?_|refine aI (hn := ?_)|refine aD ?_|refine aR ?_|refine aM ?_|refine sP 43 (fun h=>?_) (fun h=>?_)|refine sP 140 (fun h=>?_) (fun h=>?_)|refine sP 149 (fun h=>?_) (fun h=>?_)|refine sP 183 (fun h=>?_) (fun h=>?_)|refine sP 191 (fun h=>?_) (fun h=>?_)|refine sP 234 (fun h=>?_) (fun h=>?_)|refine L_reg ?_|refine L_seq ?_|exact ⟨rfl, rfl⟩|fail)
          exact Nx.pick [5, 8, 11, 13, 14, 15] W28 rfl rfl rfl ⟨20 - (j + 1), by omega, j + 1, j + 1, c, rfl, by omega, by omega, fun _ => rfl, fun _ => by omega, rfl, rfl⟩
        · obtain rfl := hd0 (by omega)
          obtain ⟨e1, e2⟩ := hst n (by omega)
          have hS := swStep_d0 (stA m ps n) (xs := natI ps) (j := j) (stG m ps n) (by omega)
          rw [← e1, ← e2] at hS
          rw [← e1, ← e2]
          clear hF hst hnx hhi
          repeat' (first|refine L_rs ?_|refine dN ?_|refine dR ?_|refine d0 ?_|refine L_block ?_|refine rT ?_|refine L_true rfl ?_|refine L_false rfl ?_|refine L_skip (Nx.goL ?_)|refine L_skip ?_|refine L_exit (Nx.goL ?_)|refine L_exit ?_|refine iF (fun h=>?_) (fun h=>?_)|refine aX ?_|(refine cW WS (hS) ?_; conv => whnf)|refine aA ?_|refine aS ?_|refine aK ?_|refine aI (hn := ?_)|refine aD ?_|refine aR ?_|refine aM ?_|refine sP 43 (fun h=>?_) (fun h=>?_)|refine sP 140 (fun h=>?_) (fun h=>?_)|refine sP 149 (fun h=>?_) (fun h=>?_)|refine sP 183 (fun h=>?_) (fun h=>?_)|refine sP 191 (fun h=>?_) (fun h=>?_)|refine sP 234 (fun h=>?_) (fun h=>?_)|refine L_reg ?_|refine L_seq ?_|exact ⟨rfl, rfl⟩|fail)
          exact Nx.pick [5, 8, 11, 13, 14, 15] W28 rfl rfl rfl ⟨20 - (n + 1), by omega, n + 1, j, 0, rfl, by omega, hjd, fun _ => by omega, fun _ => rfl, rfl, rfl⟩
      · refine Nx.goL ?_
        obtain rfl : n = 20 := by omega
        obtain rfl := hd0 (by omega)
        have hgl2 := hgl 20
        clear hst hnx hhi hst0 hgl
        generalize stA m ps 20 = mf at *
        generalize stG m ps 20 = g at *
        have hok := hF.ok
        have hlen := hF.len
        have hwl2 := wI_len (wantN m)
        have hAll := hAll_tr mf hok
        rw [objI_wI, hF.objs, hwl2] at hAll
        have hPg := hPages_tr mf hok
        have hGn := swGone_d mf (xs := natI ps) (j := j) (d := 0) g (by omega)
        have hLf := swLeft_d mf (xs := natI ps) (j := j) (d := 0) g (by omega)
        have hR := hRegion_tr mf
        have hA := regArena_tr mf.man mf.mgd 1#64 mf.bs mf.rs mf.G mf.c
        have hLd := arenaLoad_ok mf.bs (by omega) 0 m.bs.length (by omega)
        rw [show partB mf.bs 0 m.bs.length = mf.bs by rw [← hlen]; exact partB_all _] at hLd
        have hUn := hUnmark_u mf hok
        rw [markN_zero hF.marks] at hUn
        repeat' (first|refine L_rs ?_|refine dN ?_|refine dR ?_|refine d0 ?_|refine L_block ?_|refine rT ?_|refine L_true rfl ?_|refine L_false rfl ?_|refine L_skip (Nx.goL ?_)|refine L_skip ?_|refine L_exit (Nx.goL ?_)|refine L_exit ?_|refine iF (fun h=>?_) (fun h=>?_)|refine aX ?_|(refine cF QH (hR) ?_; conv => whnf)|(refine cF [3, 4, 5, 6, 7, 8, 9, 10] (hA) ?_; conv => whnf)|(refine cF [4, 5] (hLd) ?_; conv => whnf)|(refine cF QH (hAll) ?_; conv => whnf)|refine cP WS (hGn) ?_|refine cP WS (hLf) ?_|refine S_Q [] rfl rfl (QY.sub (c := (g : Int)) rfl rfl (by omega) (by omega) (by omega)) ?_|refine aA ?_|refine aS ?_|refine aK ?_|refine aI (hn := ?_)|refine aD ?_|refine aR ?_|refine aM ?_|refine sP 43 (fun h=>?_) (fun h=>?_)|refine sP 140 (fun h=>?_) (fun h=>?_)|refine sP 149 (fun h=>?_) (fun h=>?_)|refine sP 183 (fun h=>?_) (fun h=>?_)|refine sP 191 (fun h=>?_) (fun h=>?_)|refine sP 234 (fun h=>?_) (fun h=>?_)|refine L_reg ?_|refine L_seq ?_|exact ⟨rfl, rfl⟩|fail)
        all_goals try first|exact absurd rfl h | (exfalso; omega)
        clear hAll hGn hLf hLd
        refine LWp.pick [5, 11, 16, 18, 154, 155, 156] [0, 1, 2, 3, 4, 5, 6, 7, 8, 9, 10, 11, 12, 13, 14, 15, 16, 17, 18, 19, 20, 21, 22, 23, 26, 27, 28, 29] rfl rfl rfl (L_loop (fun q l K => ∃ k : Nat, q = (wantN m).length - k ∧ k ≤ (wantN m).length ∧ l = [(5, ptr 1), (11, slB 25 m.bs.length), (16, slB 26 m.bs.length), (18, slB 27 (wantN m).length), (154, slB 24 (wantN m).length), (155, .int .i64 (wantN m).length), (156, .int .i64 k)] ∧ K = PM1 mf m gl ++ [.gro 1 (rowsC intC (wI (wantN m))), BL m.bs, BL mf.bs, .gro 1 (rowsC intC (wI (wantN m)))]) (wantN m).length ⟨0, rfl, by omega, rfl, rfl⟩ ?_)
        rintro q _ _ ⟨k, rfl, hk, rfl, rfl⟩
        first|refine L_seq (L_rs (S_done [] rfl (Nx.goL (iF (fun h => L_skip (Nx.goL ?_)) (fun h => L_exit ?_)))))|refine L_rs (S_done [] rfl (Nx.goL (L_seq (iF (fun h => L_skip (Nx.goL ?_)) (fun h => L_exit ?_)))))
        · have hk2 : k < (wantN m).length := by omega
          have g0 : (wantN m)[k]? = some (wantN m)[k] := List.getElem?_eq_getElem hk2
          obtain ⟨c, hc⟩ : ∃ c, c = (wantN m)[k] := ⟨_, rfl⟩
          rw [← hc] at g0
          have gm := List.mem_of_getElem? g0
          have g1 : (wI (wantN m))[k]? = some ((16 * c : Nat) : Int) := by unfold wI; rw [List.getElem?_map, g0]; rfl
          have gp := hF.part c gm
          have go : c ∈ objN mf := by rw [hF.objs]; exact gm
          obtain ⟨g3, g4⟩ := objN_mem.1 go
          have gm2 := objN_mem.1 (List.mem_filter.1 gm).1
          obtain ⟨r, n, f1, f2⟩ := goodH_at (hG c gm2.1 gm2.2)
          have hrm := good_room f1 f2
          have hsz := slz_pos m c
          have hh : headF mf.bs (16 * c) = some (r, n) := by rw [headF_same (part_less gp (by omega)) (Nat.le_refl 8) hlen]; exact f1
          have hok2 := (headF_some f1).1
          have hin := (headF_some f1).2.2.1
          have hnb := hm.nb
          have hHd := head_tr mf.bs (by omega) (16 * c) (by omega) (by omega)
          rw [hh] at hHd
          change Tr Tryz.prog _ _ _ (fun v K => v = .tuple ⟨[shV r n, .int .i64 0]⟩ ∧ K = AL mf.bs) at hHd
          have hBy := shBytes_tr r n
          rw [shN_nat hok2, hok2] at hBy
          have hMd := hMarked_ok mf hok c g3 g4
          rw [hF.marks] at hMd
          obtain ⟨kk, hkk⟩ : ∃ kk, kk = 8 * (1 + r + n) := ⟨_, rfl⟩
          rw [← hkk] at hrm hin hBy
          have hend : 16 * c + kk ≤ m.bs.length := by omega
          have hstr : (m.bs.drop (16 * c)).take (16 * c + kk - 16 * c) = (mf.bs.drop (16 * c)).take (16 * c + kk - 16 * c) := by
            rw [Nat.add_sub_cancel_left]; exact (part_less gp hrm).symm
          clear hkk hok2 f1 f2 g0 g3 g4 gm gm2 gp go hc hrm hin hh hF hI hG hsz hPg hUn
          repeat' (first|refine L_rs ?_|refine dN ?_|refine dR ?_|refine d0 ?_|refine L_block ?_|refine rT ?_|refine L_true rfl ?_|refine L_false rfl ?_|refine L_skip (Nx.goL ?_)|refine L_skip ?_|refine L_exit (Nx.goL ?_)|refine L_exit ?_|refine iF (fun h=>?_) (fun h=>?_)|refine aX ?_|refine S_Q [] rfl rfl (QY.ldI rfl rfl g1) ?_|(refine cF QH (hR) ?_; conv => whnf)|(refine cF [3, 4, 5, 6, 7, 8, 9, 10] (hA) ?_; conv => whnf)|refine cP [4, 5] (hHd) ?_|refine cP [] (hBy) ?_|refine cP QH (hMd) ?_ (hc := (by repeat' (first|exact trivial|refine ⟨⟨qsafe_ok (st := []) rfl, Sure.of rfl⟩, ?_⟩|refine ⟨.inl rfl, ?_⟩|refine ⟨.inr ⟨qsafe_ok (st := []) rfl, Sure.of rfl⟩, ?_⟩|refine ⟨⟨qsafe_ok (st := []) rfl, Sure.slice (by omega)⟩, ?_⟩|refine ⟨.inr ⟨qsafe_ok (st := []) rfl, Sure.slice (by omega)⟩, ?_⟩|refine ⟨.inr ⟨QY.neqB rfl (by kernel_rfl) rfl rfl, Sure.of rfl⟩, ?_⟩|refine ⟨.inr ⟨QY.eqlB rfl (by kernel_rfl) rfl rfl, Sure.of rfl⟩, ?_⟩|refine ⟨.inr ⟨QY.ldI rfl rfl g1, Sure.of rfl⟩, ?_⟩ | fail)))|refine S_Q [] rfl rfl (QY.add (c := ((16 * c + kk : Nat) : Int)) rfl rfl (by omega) (by omega) (by omega)) ?_|refine S_Q [] rfl rfl (QY.slc0 (b := 25) (lo' := 16 * c) (hi' := 16 * c + kk) rfl rfl rfl (by omega) (by omega)) ?_|refine S_Q [] rfl rfl (QY.slc0 (b := 26) (lo' := 16 * c) (hi' := 16 * c + kk) rfl rfl rfl (by omega) (by omega)) ?_|refine S_Q [] rfl rfl (QY.str (i := 16 * c) rfl (by kernel_rfl) rfl rfl (by omega)) ?_|refine S_Q [] rfl rfl (str_neq' rfl rfl rfl hstr) ?_|refine aA ?_|refine aS ?_|refine aK ?_|refine aI (hn := ?_)|refine aD ?_|refine aR ?_|refine aM ?_|refine sP 43 (fun h=>?_) (fun h=>?_)|refine sP 140 (fun h=>?_) (fun h=>?_)|refine sP 149 (fun h=>?_) (fun h=>?_)|refine sP 183 (fun h=>?_) (fun h=>?_)|refine sP 191 (fun h=>?_) (fun h=>?_)|refine sP 234 (fun h=>?_) (fun h=>?_)|refine L_reg ?_|refine L_seq ?_|exact ⟨rfl, rfl⟩|fail)
          all_goals first|exact absurd rfl h | (exfalso; omega)|exact Nx.pick [5, 11, 16, 18, 154, 155, 156] W28 rfl rfl rfl ⟨(wantN m).length - (k + 1), by omega, k + 1, rfl, by omega, rfl, rfl⟩
        · refine Nx.goL ?_
          repeat' (first|refine L_rs ?_|refine dN ?_|refine dR ?_|refine d0 ?_|refine L_block ?_|refine rT ?_|refine L_true rfl ?_|refine L_false rfl ?_|refine L_skip (Nx.goL ?_)|refine L_skip ?_|refine L_exit (Nx.goL ?_)|refine L_exit ?_|refine iF (fun h=>?_) (fun h=>?_)|refine aX ?_|(refine cF QH (hPg) ?_; conv => whnf)|refine aA ?_|refine aS ?_|refine aK ?_|refine aI (hn := ?_)|refine aD ?_|refine aR ?_|refine aM ?_|refine sP 43 (fun h=>?_) (fun h=>?_)|refine sP 140 (fun h=>?_) (fun h=>?_)|refine sP 149 (fun h=>?_) (fun h=>?_)|refine sP 183 (fun h=>?_) (fun h=>?_)|refine sP 191 (fun h=>?_) (fun h=>?_)|refine sP 234 (fun h=>?_) (fun h=>?_)|refine L_reg ?_|refine L_seq ?_|exact ⟨rfl, rfl⟩|fail)
          refine LWp.pick [5, 213, 214, 215] [0, 1, 2, 3, 4, 5, 6, 7, 8, 9, 10, 11, 12, 13, 14, 15, 16, 17, 18, 19, 20, 21, 22, 23, 28] rfl rfl rfl (L_loop (fun q l K => ∃ k : Nat, q = (pagesH mf).length - k ∧ k ≤ (pagesH mf).length ∧ l = [(5, ptr 1), (213, slB 24 (pagesH mf).length), (214, .int .i64 (pagesH mf).length), (215, .int .i64 k)] ∧ K = PM1 mf m gl ++ [.gro 1 (rowsC intC (natI (pagesH mf)))]) (pagesH mf).length ⟨0, rfl, by omega, rfl, rfl⟩ ?_)
          rintro q _ _ ⟨k, rfl, hk, rfl, rfl⟩
          first|refine L_seq (L_rs (S_done [] rfl (Nx.goL (iF (fun h => L_skip (Nx.goL ?_)) (fun h => L_exit ?_)))))|refine L_rs (S_done [] rfl (Nx.goL (L_seq (iF (fun h => L_skip (Nx.goL ?_)) (fun h => L_exit ?_)))))
          · have hk2 : k < (pagesH mf).length := by omega
            have hpl2 := pagesH_len mf
            have hn2 := hok.n1
            have g0 : (pagesH mf)[k]? = some (pagesH mf)[k] := List.getElem?_eq_getElem hk2
            obtain ⟨p, hp⟩ : ∃ p, p = (pagesH mf)[k] := ⟨_, rfl⟩
            rw [← hp] at g0
            have g1 := natI_get g0
            have hne := hF.pages p (List.mem_of_getElem? g0)
            have hIn := hIn_tr mf hok p
            have hnz : (inH mf p).length ≠ 0 := fun e => hne (List.length_eq_zero_iff.1 e)
            clear hF hI hG hPg hUn hne
            repeat' (first|refine L_rs ?_|refine dN ?_|refine dR ?_|refine d0 ?_|refine L_block ?_|refine rT ?_|refine L_true rfl ?_|refine L_false rfl ?_|refine L_skip (Nx.goL ?_)|refine L_skip ?_|refine L_exit (Nx.goL ?_)|refine L_exit ?_|refine iF (fun h=>?_) (fun h=>?_)|refine aX ?_|refine S_Q [] rfl rfl (QY.ldI rfl rfl g1) ?_|(refine cF QH (hIn) ?_; conv => whnf)|refine aA ?_|refine aS ?_|refine aK ?_|refine aI (hn := ?_)|refine aD ?_|refine aR ?_|refine aM ?_|refine sP 43 (fun h=>?_) (fun h=>?_)|refine sP 140 (fun h=>?_) (fun h=>?_)|refine sP 149 (fun h=>?_) (fun h=>?_)|refine sP 183 (fun h=>?_) (fun h=>?_)|refine sP 191 (fun h=>?_) (fun h=>?_)|refine sP 234 (fun h=>?_) (fun h=>?_)|refine L_reg ?_|refine L_seq ?_|exact ⟨rfl, rfl⟩|fail)
            all_goals first | (exfalso; omega)|exact Nx.pick [5, 213, 214, 215] [0, 1, 2, 3, 4, 5, 6, 7, 8, 9, 10, 11, 12, 13, 14, 15, 16, 17, 18, 19, 20, 21, 22, 23, 24] rfl rfl rfl ⟨(pagesH mf).length - (k + 1), by omega, k + 1, rfl, by omega, rfl, rfl⟩
          · refine Nx.goL ?_
            repeat' (first|refine L_rs ?_|refine dN ?_|refine dR ?_|refine d0 ?_|refine L_block ?_|refine rT ?_|refine L_true rfl ?_|refine L_false rfl ?_|refine L_skip (Nx.goL ?_)|refine L_skip ?_|refine L_exit (Nx.goL ?_)|refine L_exit ?_|refine iF (fun h=>?_) (fun h=>?_)|refine aX ?_|(refine cW QH (hUn) ?_; conv => whnf)|refine cP [] (hAw) ?_|refine aA ?_|refine aS ?_|refine aK ?_|refine aI (hn := ?_)|refine aD ?_|refine aR ?_|refine aM ?_|refine sP 43 (fun h=>?_) (fun h=>?_)|refine sP 140 (fun h=>?_) (fun h=>?_)|refine sP 149 (fun h=>?_) (fun h=>?_)|refine sP 183 (fun h=>?_) (fun h=>?_)|refine sP 191 (fun h=>?_) (fun h=>?_)|refine sP 234 (fun h=>?_) (fun h=>?_)|refine L_reg ?_|refine L_seq ?_|exact ⟨rfl, rfl⟩|fail)
            all_goals exact rfl
end Go.Proofs.YtdpcccjkncagoaaGreatDoor
end
section
namespace Go.Proofs.YtdpcccjkncagoaaGreatDoor
open Go Go.Tum Go.Tum.Base Go.Deep
theorem op18_in {cs : List Value} (h : Fits [some .i64, some .i64, some .i64, some .i64, some .i64, some .i64, some .i64, some .u64, some .i64, some .i64] cs) : ∃ o : Op18, cs = o.cells ∧ o.In := by
  obtain ⟨a, _, rfl, wa, h⟩ := h.int
  obtain ⟨b, _, rfl, wb, h⟩ := h.int
  obtain ⟨c, _, rfl, wc, h⟩ := h.int
  obtain ⟨d, _, rfl, wd, h⟩ := h.int
  obtain ⟨e, _, rfl, we, h⟩ := h.int
  obtain ⟨f, _, rfl, wf, h⟩ := h.int
  obtain ⟨g, _, rfl, wg, h⟩ := h.int
  obtain ⟨x, _, rfl, wx, h⟩ := h.int
  obtain ⟨r, _, rfl, _, h⟩ := h.int
  obtain ⟨s, _, rfl, _, h⟩ := h.int
  obtain rfl := h.nil
  have := Go.bounds_i64 wb
  have := Go.bounds_i64 wc
  have := Go.bounds_i64 wd
  have := Go.bounds_i64 we
  have := Go.bounds_i64 wf
  have := Go.bounds_i64 wg
  have := Go.bounds_u64 wx
  refine ⟨⟨a, b, c, d, e, f, g, BitVec.ofNat 64 x.toNat, r, s⟩, ?_, ?_⟩
  · have : ((BitVec.ofNat 64 x.toNat).toNat : Int) = x := by rw [BitVec.toNat_ofNat, Nat.mod_eq_of_lt (by omega)]; omega
    simp only [Op18.cells, this]
  · simp only [Op18.In, inI]; omega
theorem ops18_in {n : Nat} {get : Nat → List Value} (hf : ∀ i, i < n → Fits [some .i64, some .i64, some .i64, some .i64, some .i64, some .i64, some .i64, some .u64, some .i64, some .i64] (get i)) : ∃ op : Nat → Op18, ∀ i, i < n → get i = (op i).cells ∧ (op i).In :=
  choose_lt (n := n) (p := fun i (o : Op18) => get i = o.cells ∧ o.In) fun i hi => op18_in (hf i hi)
end Go.Proofs.YtdpcccjkncagoaaGreatDoor
end
section
namespace Go.Proofs.YtdpcccjkncagoaaGreatDoor
open Go Go.Tum Go.Tum.Base Go.Deep
theorem SweepLeaves_does (w : World) (hw : DoorH (fun _ => False) w) (b : Int) (hb : 0 ≤ b ∧ b < 256) {v : Value} {n : Nat} {get : Nat → List Value} (hr : SlIn w 10 v n get)
    (hf : ∀ i, i < n → Fits [some .i64, some .i64, some .i64, some .i64, some .i64, some .i64, some .i64, some .u64, some .i64, some .i64] (get i)) :
    Does Tryz.prog 7 #[.int .u8 b, v] w fun v w' => v = .bool true ∧ Fr (fun _ => False) w w' := by
  obtain ⟨op, hop⟩ := ops18_in hf
  obtain ⟨hn, x, hr⟩ := hr
  obtain ⟨h1, h2⟩ := hr [x] 0 rfl
  exact (SweepLeaves_tr b hb n hn get op hop).law (vs' := [.int .u8 b, v]) [x] w rfl (by intro y hy; cases List.mem_singleton.1 hy; exact ⟨rfl, h2⟩) ⟨rfl, h1, trivial⟩ (DoorH.tab hw)
end Go.Proofs.YtdpcccjkncagoaaGreatDoor
end
