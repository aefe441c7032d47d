/-
  What the proof leans on, part 7: of the texts LawV, LawM, LawQ, LawE, GoodM, MarkL, Awake, Awake19, MarkPlays, LawIn, MarkPlaysD.
-/
import Derived.Test.YtdpcccjkncagoaaGreatDoorPkF
set_option linter.unusedVariables false
set_option linter.unusedSimpArgs false
set_option linter.unusedSectionVars false
section
namespace Go.Proofs.YtdpcccjkncagoaaGreatDoor
open Go Go.Tum Go.Tum.Base
set_option maxRecDepth 4000
abbrev StepV (m m' : HM) (gl gl' : List Gb) (o : Op18) (others : Bool) : Prop := TrK Tryz.prog [] PK 16 [ptr 0, .agg ⟨o.cells⟩, .bool others] (PL m gl) (fun v K => v = .bool true ∧ K = PL m' gl')
set_option maxHeartbeats 2000000 in
theorem step_word (m : HM) (gl : List Gb) (h : HI m gl) (wh at_ pg k to n : Int) (v : BitVec 64) (r s : Int) (others : Bool) : StepV m (if others then wordR m at_ v else m) gl gl ⟨10, wh, at_, pg, k, to, n, v, r, s⟩ others := by
  have hAt := pAt_tr m m gl wh at_
  have hR := hRegion_tr m
  have hA := regArena_tr m.man m.mgd 1#64 m.bs m.rs m.G m.c
  generalize atP m wh at_ = a at *
  obtain ⟨hb0, hb1⟩ := h.b0
  cases others
  · refine Tr.of row_tumbrellaw18_Pair_Step_ok rfl ?_
    repeat' (first|refine qN ?_|refine dN ?_|refine dR ?_|refine d0 ?_|refine qB ?_|refine rT ?_|refine qT ?_|refine qU ?_|refine qL ?_|refine qK ?_|refine qF ?_|refine qE ?_|refine iF (fun h=>?_) (fun h=>?_)|refine aX ?_|refine cP P23 (hAt) ?_|(refine cF PH (hR) ?_; conv => whnf)|(refine cF [2, 3, 4, 5, 6, 7, 8, 9] (hA) ?_; conv => whnf)|refine aA ?_|refine aS ?_|refine aK ?_|refine aI (hn := ?_)|refine aD ?_|refine aR ?_|refine aM ?_|refine sP 59 (fun h=>?_) (fun h=>?_)|refine sP 184 (fun h=>?_) (fun h=>?_)|refine qR ?_|refine qS ?_|exact ⟨rfl, rfl⟩|fail)
  · rw [if_pos rfl]
    by_cases he : errW m.bs.length at_ = 0
    · obtain ⟨i, rfl, h1, h2⟩ := errW_nat he
      rw [show wordR m i v = wrM m (overB m.bs i (putB v 8)) by unfold wordR; rw [if_pos he, Int.toNat_natCast]]
      have hW := arenaSetWord_ok m.bs hb1 i h1 h2 v
      have hl : (overB m.bs i (putB v 8)).length = m.bs.length := overB_length (by rw [putB_length]; exact h1)
      generalize overB m.bs i (putB v 8) = bs' at *
      have hB := pBytes_tr (wrM m bs') m (by show 1 ≤ bs'.length; omega) (by show bs'.length ≤ _; omega) hl.symm gl
      refine Tr.of row_tumbrellaw18_Pair_Step_ok rfl ?_
      repeat' (first|refine qN ?_|refine dN ?_|refine dR ?_|refine d0 ?_|refine qB ?_|refine rT ?_|refine qT ?_|refine qU ?_|refine qL ?_|refine qK ?_|refine qF ?_|refine qE ?_|refine iF (fun h=>?_) (fun h=>?_)|refine aX ?_|refine cP P23 (hAt) ?_|(refine cF PH (hR) ?_; conv => whnf)|(refine cF [2, 3, 4, 5, 6, 7, 8, 9] (hA) ?_; conv => whnf)|(refine cF [3, 4] (hW) ?_; conv => whnf)|(refine cW P23 (hB) ?_; conv => whnf)|refine aA ?_|refine aS ?_|refine aK ?_|refine aI (hn := ?_)|refine aD ?_|refine aR ?_|refine aM ?_|refine sP 59 (fun h=>?_) (fun h=>?_)|refine sP 184 (fun h=>?_) (fun h=>?_)|refine qR ?_|refine qS ?_|exact ⟨rfl, rfl⟩|fail)
    · rw [show wordR m at_ v = m by unfold wordR; rw [if_neg he]]
      have hW := arenaSetWord_no m.bs hb1 at_ v he
      have hB := pBytes_tr m m hb0 hb1 rfl gl
      refine Tr.of row_tumbrellaw18_Pair_Step_ok rfl ?_
      repeat' (first|refine qN ?_|refine dN ?_|refine dR ?_|refine d0 ?_|refine qB ?_|refine rT ?_|refine qT ?_|refine qU ?_|refine qL ?_|refine qK ?_|refine qF ?_|refine qE ?_|refine iF (fun h=>?_) (fun h=>?_)|refine aX ?_|refine cP P23 (hAt) ?_|(refine cF PH (hR) ?_; conv => whnf)|(refine cF [2, 3, 4, 5, 6, 7, 8, 9] (hA) ?_; conv => whnf)|refine cP [3, 4] (hW) ?_|(refine cW P23 (hB) ?_; conv => whnf)|refine aA ?_|refine aS ?_|refine aK ?_|refine aI (hn := ?_)|refine aD ?_|refine aR ?_|refine aM ?_|refine sP 59 (fun h=>?_) (fun h=>?_)|refine sP 184 (fun h=>?_) (fun h=>?_)|refine qR ?_|refine qS ?_|exact ⟨rfl, rfl⟩|fail)
set_option maxHeartbeats 4000000 in
theorem step_set (m : HM) (gl : List Gb) (h : HI m gl) (kd wh at_ pg k to n : Int) (hk : kd = 7 ∨ kd = 8) (v : BitVec 64) (r s : Int) (others : Bool) : StepV m (setR m ⟨kd, wh, at_, pg, k, to, n, v, r, s⟩) gl gl ⟨kd, wh, at_, pg, k, to, n, v, r, s⟩ others := by
  have hAt := pAt_tr m m gl wh at_
  have hR := hRegion_tr m
  have hA := regArena_tr m.man m.mgd 1#64 m.bs m.rs m.G m.c
  have hI := rIndex_tr m.man (m.man + m.mgd) m.bs m.rs (obs m) gl (obs_len h.toHOk) (atP m wh at_)
  have hto := atP_in h.toHOk to (a := -1) (by unfold inI; omega)
  have hAt2 := pAt_tr m m gl to (-1)
  obtain ⟨hb0, hb1⟩ := h.b0
  have hnb := h.nb
  unfold setR
  simp only
  generalize atP m wh at_ = a at *
  generalize atP m to (-1) = b at *
  cases hh : hasH m a
  · rw [idx_no hh] at hI
    rw [if_neg (by decide)]
    rcases hk with rfl | rfl
    all_goals
      refine Tr.of row_tumbrellaw18_Pair_Step_ok rfl ?_
      repeat' (first|refine qN ?_|refine dN ?_|refine dR ?_|refine d0 ?_|refine qB ?_|refine rT ?_|refine qT ?_|refine qU ?_|refine qL ?_|refine qK ?_|refine qF ?_|refine qE ?_|refine iF (fun h=>?_) (fun h=>?_)|refine aX ?_|refine cP P23 (hAt) ?_|(refine cF PH (hR) ?_; conv => whnf)|(refine cF [2, 3, 4, 5, 6, 7, 8, 9] (hA) ?_; conv => whnf)|refine cP PR (hI) ?_|refine aA ?_|refine aS ?_|refine aK ?_|refine aI (hn := ?_)|refine aD ?_|refine aR ?_|refine aM ?_|refine sP 59 (fun h=>?_) (fun h=>?_)|refine sP 184 (fun h=>?_) (fun h=>?_)|refine qR ?_|refine qS ?_|exact ⟨rfl, rfl⟩|fail)
  · obtain ⟨i, rfl, h1, h2⟩ := hasH_nat hh
    obtain ⟨j, h3, h4, _⟩ := idx_at h1 h2
    rw [h3] at hI
    rw [if_pos rfl, Int.toNat_natCast]
    rcases hk with rfl | rfl
    · rw [if_pos rfl]
      have hS := objSetRef_tr m.bs hb1 (16 * i) (by omega) (by omega) k b hto
      have hl : (setRefB m.bs (16 * i) k b).length = m.bs.length := setRefB_length
      generalize setRefB m.bs (16 * i) k b = bs' at *
      have hB := pBytes_tr (wrM m bs') m (by show 1 ≤ bs'.length; omega) (by show bs'.length ≤ _; omega) hl.symm gl
      refine Tr.of row_tumbrellaw18_Pair_Step_ok rfl ?_
      repeat' (first|refine qN ?_|refine dN ?_|refine dR ?_|refine d0 ?_|refine qB ?_|refine rT ?_|refine qT ?_|refine qU ?_|refine qL ?_|refine qK ?_|refine qF ?_|refine qE ?_|refine iF (fun h=>?_) (fun h=>?_)|refine aX ?_|refine cP P23 (hAt) ?_|(refine cF PH (hR) ?_; conv => whnf)|(refine cF [2, 3, 4, 5, 6, 7, 8, 9] (hA) ?_; conv => whnf)|refine cP PR (hI) ?_|refine cP P23 (hAt2) ?_|(refine cF [3, 4] (hS) ?_; conv => whnf)|(refine cW P23 (hB) ?_; conv => whnf)|refine aA ?_|refine aS ?_|refine aK ?_|refine aI (hn := ?_)|refine aD ?_|refine aR ?_|refine aM ?_|refine sP 59 (fun h=>?_) (fun h=>?_)|refine sP 184 (fun h=>?_) (fun h=>?_)|refine qR ?_|refine qS ?_|exact ⟨rfl, rfl⟩|fail)
      all_goals (exfalso; omega)
    · rw [if_neg (by decide)]
      have hS := objSetNum_tr m.bs hb1 (16 * i) (by omega) (by omega) k v
      have hl : (setNumB m.bs (16 * i) k v).length = m.bs.length := setNumB_length
      generalize setNumB m.bs (16 * i) k v = bs' at *
      have hB := pBytes_tr (wrM m bs') m (by show 1 ≤ bs'.length; omega) (by show bs'.length ≤ _; omega) hl.symm gl
      refine Tr.of row_tumbrellaw18_Pair_Step_ok rfl ?_
      repeat' (first|refine qN ?_|refine dN ?_|refine dR ?_|refine d0 ?_|refine qB ?_|refine rT ?_|refine qT ?_|refine qU ?_|refine qL ?_|refine qK ?_|refine qF ?_|refine qE ?_|refine iF (fun h=>?_) (fun h=>?_)|refine aX ?_|refine cP P23 (hAt) ?_|(refine cF PH (hR) ?_; conv => whnf)|(refine cF [2, 3, 4, 5, 6, 7, 8, 9] (hA) ?_; conv => whnf)|refine cP PR (hI) ?_|(refine cF [3, 4] (hS) ?_; conv => whnf)|(refine cW P23 (hB) ?_; conv => whnf)|refine aA ?_|refine aS ?_|refine aK ?_|refine aI (hn := ?_)|refine aD ?_|refine aR ?_|refine aM ?_|refine sP 59 (fun h=>?_) (fun h=>?_)|refine sP 184 (fun h=>?_) (fun h=>?_)|refine qR ?_|refine qS ?_|exact ⟨rfl, rfl⟩|fail)
      all_goals (exfalso; omega)
end Go.Proofs.YtdpcccjkncagoaaGreatDoor
end
section
namespace Go.Tum.Base
open Go Go.Tum
def initM (man mgd : Nat) : HM := ⟨man, mgd, List.replicate (256 * (man + mgd)) 0, List.replicate (man + mgd) PRow.Z, [], 0, List.replicate ((16 * (man + mgd) + 63) / 64) 0, List.replicate ((16 * (man + mgd) + 63) / 64) 0⟩
theorem pAt_init (n : Nat) (a : Int) : pAt (List.replicate n PRow.Z) a = PRow.Z := by
  unfold pAt
  split
  · rfl
  · rw [List.getD_eq_getElem?_getD, List.getElem?_replicate]; split <;> rfl
theorem HI.init {man mgd : Nat} (h1 : 1 ≤ man) (h : man + mgd ≤ 256) : HI (initM man mgd) [] where
  n1 := h
  nb := List.length_replicate
  nr := List.length_replicate
  lh := List.length_replicate
  lm := List.length_replicate
  row p hp := by change (pAt (List.replicate _ PRow.Z) p).kind = 4 at hp; rw [pAt_init] at hp; exact absurd hp (by decide)
  obj i _ hb := by change bitAt (List.replicate _ 0) i = true at hb; rw [bitAt_zero] at hb; cases hb
  mrk i _ hb := by change bitAt (List.replicate _ 0) i = true at hb; rw [bitAt_zero] at hb; cases hb
  mhi _ _ := bitAt_zero _ _
  gi := ⟨GOk.nil, fun _ hx => absurd hx List.not_mem_nil, fun _ hx => absurd hx List.not_mem_nil, List.Pairwise.nil⟩
  m1 := h1
theorem objN_init (man mgd : Nat) : objN (initM man mgd) = [] := by
  unfold objN allF
  rw [List.filter_eq_nil_iff]
  intro x _
  show ¬ bitAt (List.replicate _ 0) x = true
  rw [bitAt_zero]; decide
theorem obs_init (man mgd : Nat) : obs (initM man mgd) = [] := by unfold obs; rw [objN_init]; rfl
end Go.Tum.Base
namespace Go.Proofs.YtdpcccjkncagoaaGreatDoor
open Go Go.Tum Go.Tum.Base
set_option maxRecDepth 4000
set_option maxHeartbeats 2000000 in
theorem make18_tr (man mgd : Nat) (h1 : 1 ≤ man) (h : man + mgd ≤ 256) : Tr Tryz.prog 15 [.int .i64 man, .int .i64 mgd] [] (fun v K => v = ptr 0 ∧ K = PL (initM man mgd) []) := by
  have hR := regNew_tr man mgd 1#64 h (by omega)
  have hN := hNew_tr man mgd h (List.replicate (256 * (man + mgd)) 0) List.length_replicate (List.replicate (man + mgd) PRow.Z) [] 0
  have hG := rNew9_tr man mgd h (by omega)
  refine Tr.of row_tumbrellaw18_Make_ok rfl ?_
  repeat' (first|refine qN ?_|refine dN ?_|refine d0 ?_|refine qB ?_|refine qT ?_|refine qU ?_|refine qL ?_|refine qK ?_|refine qF ?_|refine qE ?_|refine iF (fun h=>?_) (fun h=>?_)|refine aX ?_|(refine cF [] (hR) ?_; conv => whnf)|(refine cF [0, 1, 2, 3, 4, 5, 6, 7] (hN) ?_; conv => whnf)|(refine cF [] (hG) ?_; conv => whnf)|refine aA ?_|refine aS ?_|refine aK ?_|refine aI (hn := ?_)|refine aD ?_|refine aR ?_|refine aM ?_|refine sP 16 (fun h=>?_) (fun h=>?_)|refine qR ?_|refine qS ?_|exact ⟨rfl, rfl⟩|fail)
  refine LWp.nilG (b := 20) (o := 1) 2 rfl rfl (L_ret (RetQ.pick [21, 8, 0, 1, 2, 3, 4, 5, 6, 7, 9, 10, 11, 12, 20, 13, 22, 14, 15, 16, 17, 18, 19] rfl rfl rfl rfl ⟨rfl, ?_⟩))
  show _ = PLg (initM man mgd) (initM man mgd) []
  unfold PLg
  rw [obs_init]
  simp only [initM, List.length_replicate]
  rfl
end Go.Proofs.YtdpcccjkncagoaaGreatDoor
end
section
namespace Go.Proofs.YtdpcccjkncagoaaGreatDoor
open Go Go.Tum Go.Tum.Base
set_option maxRecDepth 4000
theorem step_tr (m : HM) (gl : List Gb) (h : HI m gl) (o : Op18) (ho : o.In) (others : Bool) : TrK Tryz.prog [] PK 16 [ptr 0, .agg ⟨o.cells⟩, .bool others] (PL m gl) (fun v K => v = .bool true ∧ K = PL (stepM m gl o others).1 (stepM m gl o others).2) := by
  have ha := atP_in h.toHOk o.which ho.1
  obtain ⟨kd, wh, at_, pg, k, to, n, v, r, s⟩ := o
  have hb := ha.2
  simp only at hb
  clear ha
  unfold stepM
  simp only
  by_cases h0 : kd = 0 ∨ kd = 1 ∨ kd = 2
  · rw [if_pos h0]; exact step_alloc m gl h wh at_ pg k to n v r s kd h0 others
  rw [if_neg h0]
  by_cases h3 : kd = 3
  · rw [if_pos h3]; subst h3; exact step_free m gl h wh at_ pg k to n v r s hb others
  rw [if_neg h3]
  by_cases h4 : kd = 4
  · rw [if_pos h4]; subst h4; exact step_mark m gl h wh at_ pg k to n v r s hb others
  rw [if_neg h4]
  by_cases h5 : kd = 5
  · rw [if_pos h5]; subst h5; exact step_unmark m gl h wh at_ pg k to n v r s others
  rw [if_neg h5]
  by_cases h6 : kd = 6
  · rw [if_pos h6]; subst h6; exact step_tidy m gl h wh at_ pg k to n v r s others
  rw [if_neg h6]
  by_cases h7 : kd = 7 ∨ kd = 8
  · rw [if_pos h7]; exact step_set m gl h kd wh at_ pg k to n h7 v r s others
  rw [if_neg h7]
  by_cases h9 : kd = 9
  · rw [if_pos h9]; subst h9; exact step_great m gl h wh at_ pg k to n v r s others
  rw [if_neg h9]
  by_cases h10 : kd = 10
  · rw [if_pos h10]; subst h10; exact step_word m gl h wh at_ pg k to n v r s others
  rw [if_neg h10]
  refine step_room m gl h kd wh at_ pg k to n v r s ?_ others
  cases kd with
  | negSucc j => exact .inl ⟨j, rfl⟩
  | ofNat j => exact .inr ⟨j - 11, congrArg Int.ofNat (by have h0 : ¬ ((j : Int) = 0 ∨ (j : Int) = 1 ∨ (j : Int) = 2) := h0; have h3 : ¬ (j : Int) = 3 := h3; have h4 : ¬ (j : Int) = 4 := h4; have h5 : ¬ (j : Int) = 5 := h5; have h6 : ¬ (j : Int) = 6 := h6; have h7 : ¬ ((j : Int) = 7 ∨ (j : Int) = 8) := h7; have h9 : ¬ (j : Int) = 9 := h9; have h10 : ¬ (j : Int) = 10 := h10; omega)⟩
def PL1 (m : HM) (gl : List Gb) : LH :=
  [.dead, .cells 0 [ptr 2, ptr 15],
   .cells 0 [ptr 3, .int .i64 m.man, .int .i64 (m.man + m.mgd : Nat), ptr 11, ptr 13],
   .cells 0 [.int .i64 m.man, .int .i64 m.mgd, .int .u64 ((1#64).toNat : Int), ptr 4, ptr 6, .int .u64 ((keyW 1#64).toNat : Int), .map (some 8), ptr 9],
   .cells 0 [slB 5 m.bs.length], BL m.bs, .cells 0 [slB 7 m.rs.length], .gro 4 (rowsC PRow.cells m.rs), .imap [] 0,
   .cells 0 [ptr 4, .int .u64 ((keyW 1#64).toNat : Int), .map (some 10)], .imap m.G m.c,
   .cells 0 [slB 12 m.hw.length, .int .i64 (16 * (m.man + m.mgd) : Nat)], .gro 1 (rowsC wordC m.hw),
   .cells 0 [slB 14 m.mw.length, .int .i64 (16 * (m.man + m.mgd) : Nat)], .gro 1 (rowsC wordC m.mw),
   .cells 0 [ptr 16, slB 17 (obs m).length], .cells 0 [.int .i64 m.man, .int .u64 ((keyW 1#64).toNat : Int), slB 18 m.bs.length, slB 19 m.rs.length, slB 20 (m.man + m.mgd), ptr 21],
   .gro 2 (rowsC obC (obs m)), BL m.bs, TB m.rs, .dead, .cells 0 [slB 23 m.bs.length, .int .u64 ((keyW 1#64).toNat : Int), slB 22 gl.length], .gro 2 (rowsC gbC gl), .dead]
abbrev Q23 : List Nat := [1, 2, 3, 4, 5, 6, 7, 8, 9, 10, 11, 12, 13, 14, 15, 16, 17, 18, 19, 20, 21, 22, 23]
abbrev QH : List Nat := [2, 3, 4, 5, 6, 7, 8, 9, 10, 11, 12, 13, 14]
end Go.Proofs.YtdpcccjkncagoaaGreatDoor
end
section
namespace Go.Tum.Base
open Go Go.Tum
theorem pagesH_all {m : HM} (hm : HOk m) : pagesH m = (List.range' 0 (m.man + m.mgd)).filter fun p : Nat => mgP m.rs (p : Int) := by
  unfold pagesH
  rw [← List.range'_append_1, List.filter_append]
  have e : (List.range' 0 m.man).filter (fun p : Nat => mgP m.rs (p : Int)) = [] := by
    rw [List.filter_eq_nil_iff]
    intro x hx hk
    rw [List.mem_range'] at hx
    obtain ⟨j, hj, rfl⟩ := hx
    have := (hm.row _ (of_decide_eq_true hk)).1
    omega
  rw [e, List.nil_append, Nat.zero_add]
def pgN (m : HM) (p : Nat) : Nat := ((List.range' 0 p).filter fun p : Nat => mgP m.rs (p : Int)).length
theorem pgN_succ (m : HM) (p : Nat) : pgN m (p + 1) = pgN m p + if mgP m.rs (p : Int) then 1 else 0 := by
  unfold pgN
  rw [← List.range'_append_1, List.filter_append, List.length_append, Nat.zero_add]
  congr 1
  show (List.filter _ [p]).length = _
  rw [List.filter_cons]
  split <;> rfl
theorem pgN_at {m : HM} (hm : HOk m) {p : Nat} (hp : p < m.man + m.mgd) (h : mgP m.rs (p : Int) = true) : (pagesH m)[pgN m p]? = some p := by
  rw [pagesH_all hm, show m.man + m.mgd = p + (m.man + m.mgd - p) by omega, ← List.range'_append_1, List.filter_append]
  have e : m.man + m.mgd - p = (m.man + m.mgd - p - 1) + 1 := by omega
  unfold pgN
  rw [List.getElem?_append_right (Nat.le_refl _), Nat.sub_self, Nat.zero_add, e, List.range'_succ, List.filter_cons, if_pos h]
  rfl
theorem pgN_all {m : HM} (hm : HOk m) : pgN m (m.man + m.mgd) = (pagesH m).length := by rw [pagesH_all hm]; rfl
theorem pagesH_len (m : HM) : (pagesH m).length ≤ m.mgd := by
  unfold pagesH
  have := List.length_filter_le (fun p : Nat => mgP m.rs (p : Int)) (List.range' m.man m.mgd)
  rw [List.length_range'] at this
  exact this
theorem hasH_low (m : HM) : hasH m (-16) = false := by unfold hasH; rw [decide_eq_false (by omega)]; rfl
theorem hasH_high {m : HM} {n : Nat} (h : 256 * (m.man + m.mgd) ≤ n) : hasH m n = false := by unfold hasH; rw [decide_eq_false (by omega)]; rfl
theorem natI_get {l : List Nat} {k p : Nat} (h : l[k]? = some p) : (natI l)[k]? = some (p : Int) := by unfold natI; rw [List.getElem?_map, h]; rfl
theorem objI_get {m : HM} {k i : Nat} (h : (objN m)[k]? = some i) : (objI m)[k]? = some ((16 * i : Nat) : Int) := by unfold objI; rw [List.getElem?_map, h]; rfl
theorem objI_obs (m : HM) : objI m = (obs m).map (·.1) := by
  unfold objI obs
  rw [List.map_map]; rfl
end Go.Tum.Base
namespace Go.Proofs.YtdpcccjkncagoaaGreatDoor
open Go Go.Tum Go.Tum.Base
set_option maxRecDepth 4000
theorem ours4_tr (x : PRow) : Tr Tryz.prog 165 [.agg ⟨x.cells⟩] [] (fun v K => v = .agg ⟨x.cells⟩ ∧ K = []) := by
  refine Tr.of row_tumbrellaw04_ours_ok rfl ?_
  repeat' (first|refine qN ?_|refine dN ?_|refine dR ?_|refine d0 ?_|refine qB ?_|refine rT ?_|refine qT ?_|refine qU ?_|refine qL ?_|refine qK ?_|refine qF ?_|refine qE ?_|refine iF (fun h=>?_) (fun h=>?_)|refine aX ?_|refine aA ?_|refine aS ?_|refine aK ?_|refine aI (hn := ?_)|refine aD ?_|refine aR ?_|refine aM ?_|refine qR ?_|refine qS ?_|exact ⟨rfl, rfl⟩|fail)
set_option maxHeartbeats 2000000 in
theorem same4_tr (rs : PRows) (hl : rs.length ≤ 256) : Tr Tryz.prog 108 [ptr 0, slB 2 rs.length] (TL rs ++ [TB rs]) (fun v K => v = .bool true ∧ K = TL rs ++ [TB rs]) := by
  have hLn := pagesLen_tr rs
  refine Tr.of row_tumbrellaw04_Same_ok rfl ?_
  repeat' (first|refine qN ?_|refine dN ?_|refine dR ?_|refine d0 ?_|refine qB ?_|refine rT ?_|refine qT ?_|refine qU ?_|refine qL ?_|refine qK ?_|refine qF ?_|refine qE ?_|refine iF (fun h=>?_) (fun h=>?_)|refine aX ?_|refine cP [0, 1] (hLn) ?_|refine aA ?_|refine aS ?_|refine aK ?_|refine aI (hn := ?_)|refine aD ?_|refine aR ?_|refine aM ?_|refine sP 30 (fun h=>?_) (fun h=>?_)|refine qR ?_|refine qS ?_|exact ⟨rfl, rfl⟩|fail)
  · exact absurd rfl h
  refine LWp.pick [0, 1, 12, 13, 14] [0, 1, 2] rfl rfl rfl (L_loop (fun q l K => ∃ k : Nat, q = rs.length - k ∧ k ≤ rs.length ∧ l = [(0, ptr 0), (1, slB 2 rs.length), (12, slB 2 rs.length), (13, .int .i64 rs.length), (14, .int .i64 k)] ∧ K = TL rs ++ [TB rs]) rs.length ⟨0, rfl, by omega, rfl, rfl⟩ ?_)
  rintro q _ _ ⟨k, rfl, hk, rfl, rfl⟩
  first|refine L_seq (L_rs (S_done [] rfl (Nx.goL (iF (fun h => L_skip (Nx.goL ?_)) (fun h => L_exit ?_)))))|refine L_rs (S_done [] rfl (Nx.goL (L_seq (iF (fun h => L_skip (Nx.goL ?_)) (fun h => L_exit ?_)))))
  · have hk2 : k < rs.length := by omega
    have hg : rs[k]? = some rs[k] := List.getElem?_eq_getElem hk2
    have hR := pagesRow_tr rs k
    rw [pAt_nat, List.getD_eq_getElem?_getD, hg] at hR
    change Tr Tryz.prog _ _ _ (fun v K => v = .agg ⟨(rs[k]).cells⟩ ∧ K = TL rs) at hR
    generalize rs[k] = x at *
    have hO := ours4_tr x
    repeat' (first|refine qN ?_|refine dN ?_|refine dR ?_|refine d0 ?_|refine qB ?_|refine rT ?_|refine qT ?_|refine qU ?_|refine qL ?_|refine qK ?_|refine qF ?_|refine qE ?_|refine iF (fun h=>?_) (fun h=>?_)|refine aX ?_|refine S_Q [] rfl rfl (QY.ldRow PRow.ok rfl rfl hg (by decide)) ?_|refine cP [0, 1] (hR) ?_|refine cP [] (hO) ?_|refine S_Q [] rfl rfl (QY.tt (QY.neqS (bs := [x.kind == x.kind, x.cls == x.cls, x.owner == x.owner, x.run == x.run]) rfl rfl rfl (by kernel_rfl)) (u := false) (by simp)) ?_|refine aA ?_|refine aS ?_|refine aK ?_|refine aI (hn := ?_)|refine aD ?_|refine aR ?_|refine aM ?_|refine sP 30 (fun h=>?_) (fun h=>?_)|refine qR ?_|refine qS ?_|exact ⟨rfl, rfl⟩|fail)
    exact Nx.pick [0, 1, 12, 13, 14] [0, 1, 2] rfl rfl rfl ⟨rs.length - (k + 1), by omega, k + 1, rfl, by omega, rfl, rfl⟩
  · obtain rfl : k = rs.length := by omega
    have hR1 := pagesRow_tr rs (-1)
    rw [pAt_out (.inl (by omega))] at hR1
    have hR2 := pagesRow_tr rs rs.length
    rw [pAt_out (.inr (by omega))] at hR2
    refine Nx.goL ?_
    repeat' (first|refine qN ?_|refine dN ?_|refine dR ?_|refine d0 ?_|refine qB ?_|refine rT ?_|refine qT ?_|refine qU ?_|refine qL ?_|refine qK ?_|refine qF ?_|refine qE ?_|refine iF (fun h=>?_) (fun h=>?_)|refine aX ?_|refine cP [0, 1] (hR1) ?_|refine cP [0, 1] (hR2) ?_|refine S_Q [] rfl rfl (QY.tt (QY.eqlS (bs := [(0 : Int) == 0, (0 : Int) == 0, (0 : Int) == 0, (0 : Int) == 0]) rfl rfl rfl (by kernel_rfl)) (u := true) rfl) ?_|refine aA ?_|refine aS ?_|refine aK ?_|refine aI (hn := ?_)|refine aD ?_|refine aR ?_|refine aM ?_|refine sP 30 (fun h=>?_) (fun h=>?_)|refine qR ?_|refine qS ?_|exact ⟨rfl, rfl⟩|fail)
theorem str_neq {l : Env} {L : LH} {n0 : NA} {o : Oper} {t ty : TypeId} {x y : Operand} {a : List (BitVec 8)} (ho : o.op = .binOp .neq t x y ty) (hx : lv l x = some (.string (bytesS a))) (hy : lv l y = some (.string (bytesS a))) : QY Tryz.prog n0 L l (.raw o) (.bool false) := QY.tt (QY.neqStr ho hx hy) (by simp)
set_option maxHeartbeats 4000000 in
theorem pSame_tr (m : HM) (gl : List Gb) (hI : HI m gl) : Tr Tryz.prog 30 [ptr 0] (PL m gl) (fun v K => v = .bool true ∧ K = PL m gl) := by
  have hm := hI.toHOk
  obtain ⟨hb0, hb1⟩ := hI.b0
  have hnr := hm.nr
  have hn1 := hm.n1
  have hR := hRegion_tr m
  have hA := regArena_tr m.man m.mgd 1#64 m.bs m.rs m.G m.c
  have hP := regPages_tr m.man m.mgd 1#64 m.bs m.rs m.G m.c
  have hLd := arenaLoad_ok m.bs hb1 0 m.bs.length (by omega)
  rw [partB_all] at hLd
  have hS4 := same4_tr m.rs (by omega)
  have hAll := hAll_tr m hm
  have hol : (objI m).length = (obs m).length := by rw [objI_obs, List.length_map]
  rw [hol] at hAll
  refine Tr.of row_tumbrellaw18_Pair_Same_ok rfl ?_
  have hm1 := hI.m1
  repeat' (first|refine qN ?_|refine dN ?_|refine dR ?_|refine d0 ?_|refine qB ?_|refine rT ?_|refine qT ?_|refine qU ?_|refine qL ?_|refine qK ?_|refine qF ?_|refine qE ?_|refine iF (fun h=>?_) (fun h=>?_)|refine aX ?_|(refine cF PH (hR) ?_ (hc := (by repeat' (first|exact trivial|refine ⟨⟨qsafe_ok (st := []) rfl, Sure.of rfl⟩, ?_⟩|refine ⟨.inl rfl, ?_⟩|refine ⟨.inr ⟨qsafe_ok (st := []) rfl, Sure.of rfl⟩, ?_⟩|refine ⟨⟨qsafe_ok (st := []) rfl, Sure.slice (by omega)⟩, ?_⟩|refine ⟨.inr ⟨qsafe_ok (st := []) rfl, Sure.slice (by omega)⟩, ?_⟩|refine ⟨.inr ⟨QY.neqB rfl (by kernel_rfl) rfl rfl, Sure.of rfl⟩, ?_⟩|refine ⟨.inr ⟨QY.eqlB rfl (by kernel_rfl) rfl rfl, Sure.of rfl⟩, ?_⟩|refine ⟨⟨QY.str (i := 0) rfl (by kernel_rfl) rfl rfl (by omega), Sure.of rfl⟩, ?_⟩|refine ⟨⟨str_neq rfl rfl rfl, Sure.of rfl⟩, ?_⟩ | fail))); conv => whnf)|(refine cF [2, 3, 4, 5, 6, 7, 8, 9] (hA) ?_; conv => whnf)|(refine cF [3, 4] (hLd) ?_; conv => whnf)|refine S_Q [] rfl rfl (QY.str (i := 0) rfl (by kernel_rfl) rfl rfl (by omega)) ?_|refine S_Q [] rfl rfl (str_neq rfl rfl rfl) ?_|(refine cF [2, 3, 4, 5, 6, 7, 8, 9] (hP) ?_ (hc := (by repeat' (first|exact trivial|refine ⟨⟨qsafe_ok (st := []) rfl, Sure.of rfl⟩, ?_⟩|refine ⟨.inl rfl, ?_⟩|refine ⟨.inr ⟨qsafe_ok (st := []) rfl, Sure.of rfl⟩, ?_⟩|refine ⟨⟨qsafe_ok (st := []) rfl, Sure.slice (by omega)⟩, ?_⟩|refine ⟨.inr ⟨qsafe_ok (st := []) rfl, Sure.slice (by omega)⟩, ?_⟩|refine ⟨.inr ⟨QY.neqB rfl (by kernel_rfl) rfl rfl, Sure.of rfl⟩, ?_⟩|refine ⟨.inr ⟨QY.eqlB rfl (by kernel_rfl) rfl rfl, Sure.of rfl⟩, ?_⟩|refine ⟨⟨QY.str (i := 0) rfl (by kernel_rfl) rfl rfl (by omega), Sure.of rfl⟩, ?_⟩|refine ⟨⟨str_neq rfl rfl rfl, Sure.of rfl⟩, ?_⟩ | fail))); conv => whnf)|refine cP [5, 6, 18] (hS4) ?_ (hc := (by repeat' (first|exact trivial|refine ⟨⟨qsafe_ok (st := []) rfl, Sure.of rfl⟩, ?_⟩|refine ⟨.inl rfl, ?_⟩|refine ⟨.inr ⟨qsafe_ok (st := []) rfl, Sure.of rfl⟩, ?_⟩|refine ⟨⟨qsafe_ok (st := []) rfl, Sure.slice (by omega)⟩, ?_⟩|refine ⟨.inr ⟨qsafe_ok (st := []) rfl, Sure.slice (by omega)⟩, ?_⟩|refine ⟨.inr ⟨QY.neqB rfl (by kernel_rfl) rfl rfl, Sure.of rfl⟩, ?_⟩|refine ⟨.inr ⟨QY.eqlB rfl (by kernel_rfl) rfl rfl, Sure.of rfl⟩, ?_⟩|refine ⟨.inr ⟨QY.str (i := 0) rfl (by kernel_rfl) rfl rfl (by omega), Sure.of rfl⟩, ?_⟩|refine ⟨.inr ⟨str_neq rfl rfl rfl, Sure.of rfl⟩, ?_⟩ | fail)))|(refine cF PH (hAll) ?_; conv => whnf)|refine aA ?_|refine aS ?_|refine aK ?_|refine aI (hn := ?_)|refine aD ?_|refine aR ?_|refine aM ?_|refine sP 35 (fun h=>?_) (fun h=>?_)|refine sP 51 (fun h=>?_) (fun h=>?_)|refine sP 107 (fun h=>?_) (fun h=>?_)|refine sP 117 (fun h=>?_) (fun h=>?_)|refine sP 175 (fun h=>?_) (fun h=>?_)|refine sP 198 (fun h=>?_) (fun h=>?_)|refine sP 206 (fun h=>?_) (fun h=>?_)|refine qR ?_|refine qS ?_|exact ⟨rfl, rfl⟩|fail)
  · exact absurd rfl h
  have hnb := hm.nb
  refine LWp.pick [0, 3, 5, 93, 94, 95] [0, 1, 2, 3, 4, 5, 6, 7, 8, 9, 10, 11, 12, 13, 14, 15, 16, 17, 18, 19, 20, 21, 22, 23, 24] rfl rfl rfl (L_loop (fun q l K => ∃ k : Nat, q = (obs m).length - k ∧ k ≤ (obs m).length ∧ l = [(0, ptr 0), (3, slB 23 m.bs.length), (5, slB 24 (obs m).length), (93, slB 16 (obs m).length), (94, .int .i64 (obs m).length), (95, .int .i64 k)] ∧ K = PL m gl ++ [BL m.bs, .gro 1 (rowsC intC (objI m))]) (obs m).length ⟨0, rfl, by omega, rfl, rfl⟩ ?_)
  rintro q _ _ ⟨k, rfl, hk, rfl, rfl⟩
  first|refine L_seq (L_rs (S_done [] rfl (Nx.goL (iF (fun h => L_skip (Nx.goL ?_)) (fun h => L_exit ?_)))))|refine L_rs (S_done [] rfl (Nx.goL (L_seq (iF (fun h => L_skip (Nx.goL ?_)) (fun h => L_exit ?_)))))
  · have hk2 : k < (obs m).length := by omega
    have hg : (obs m)[k]? = some (obs m)[k] := List.getElem?_eq_getElem hk2
    obtain ⟨i, g1, g2, g3, g4⟩ := obs_get hg
    rw [g2] at hg
    have hki := objI_get g1
    have hH := hHas_tr m hm (16 * i : Nat) (by omega)
    rw [hasH_at g3, g4] at hH
    have hMd := hMarked_ok m hm i g3 g4
    have hol2 := obs_len hm
    clear hR hA hP hLd hS4 hAll g1 g2 g4
    repeat' (first|refine qN ?_|refine dN ?_|refine dR ?_|refine d0 ?_|refine qB ?_|refine rT ?_|refine qT ?_|refine qU ?_|refine qL ?_|refine qK ?_|refine qF ?_|refine qE ?_|refine iF (fun h=>?_) (fun h=>?_)|refine aX ?_|refine S_Q [] rfl rfl (QY.ldRow obC_ok rfl rfl hg (by decide)) ?_|refine S_Q [] rfl rfl (QY.ldI rfl rfl hki) ?_|refine cP PH (hH) ?_ (hc := (by repeat' (first|exact trivial|refine ⟨⟨qsafe_ok (st := []) rfl, Sure.of rfl⟩, ?_⟩|refine ⟨.inl rfl, ?_⟩|refine ⟨.inr ⟨qsafe_ok (st := []) rfl, Sure.of rfl⟩, ?_⟩|refine ⟨⟨qsafe_ok (st := []) rfl, Sure.slice (by omega)⟩, ?_⟩|refine ⟨.inr ⟨qsafe_ok (st := []) rfl, Sure.slice (by omega)⟩, ?_⟩|refine ⟨.inr ⟨QY.neqB rfl (by kernel_rfl) rfl rfl, Sure.of rfl⟩, ?_⟩|refine ⟨.inr ⟨QY.eqlB rfl (by kernel_rfl) rfl rfl, Sure.of rfl⟩, ?_⟩|refine ⟨.inr ⟨QY.ldI rfl rfl hki, Sure.of rfl⟩, ?_⟩ | fail)))|refine cP PH (hMd) ?_ (hc := (by repeat' (first|exact trivial|refine ⟨⟨qsafe_ok (st := []) rfl, Sure.of rfl⟩, ?_⟩|refine ⟨.inl rfl, ?_⟩|refine ⟨.inr ⟨qsafe_ok (st := []) rfl, Sure.of rfl⟩, ?_⟩|refine ⟨⟨qsafe_ok (st := []) rfl, Sure.slice (by omega)⟩, ?_⟩|refine ⟨.inr ⟨qsafe_ok (st := []) rfl, Sure.slice (by omega)⟩, ?_⟩|refine ⟨.inr ⟨QY.neqB rfl (by kernel_rfl) rfl rfl, Sure.of rfl⟩, ?_⟩|refine ⟨.inr ⟨QY.eqlB rfl (by kernel_rfl) rfl rfl, Sure.of rfl⟩, ?_⟩|refine ⟨.inr ⟨QY.ldI rfl rfl hki, Sure.of rfl⟩, ?_⟩ | fail)))|refine S_Q [] rfl rfl (QY.neqB rfl (by kernel_rfl) rfl rfl) ?_|refine aA ?_|refine aS ?_|refine aK ?_|refine aI (hn := ?_)|refine aD ?_|refine aR ?_|refine aM ?_|refine sP 35 (fun h=>?_) (fun h=>?_)|refine sP 51 (fun h=>?_) (fun h=>?_)|refine sP 107 (fun h=>?_) (fun h=>?_)|refine sP 117 (fun h=>?_) (fun h=>?_)|refine sP 175 (fun h=>?_) (fun h=>?_)|refine sP 198 (fun h=>?_) (fun h=>?_)|refine sP 206 (fun h=>?_) (fun h=>?_)|refine qR ?_|refine qS ?_|exact ⟨rfl, rfl⟩|fail)
    all_goals first|exact absurd rfl h|exact Nx.pick [0, 3, 5, 93, 94, 95] [0, 1, 2, 3, 4, 5, 6, 7, 8, 9, 10, 11, 12, 13, 14, 15, 16, 17, 18, 19, 20, 21, 22, 23, 24] rfl rfl rfl ⟨(obs m).length - (k + 1), by omega, k + 1, rfl, by omega, rfl, rfl⟩
  · refine Nx.goL ?_
    clear hR hA hP hLd hS4 hAll
    have hPg := hPages_tr m hm
    repeat' (first|refine qN ?_|refine dN ?_|refine dR ?_|refine d0 ?_|refine qB ?_|refine rT ?_|refine qT ?_|refine qU ?_|refine qL ?_|refine qK ?_|refine qF ?_|refine qE ?_|refine iF (fun h=>?_) (fun h=>?_)|refine aX ?_|refine aA ?_|refine aS ?_|refine aK ?_|refine aI (hn := ?_)|refine aD ?_|refine aR ?_|refine aM ?_|refine sP 35 (fun h=>?_) (fun h=>?_)|refine sP 51 (fun h=>?_) (fun h=>?_)|refine sP 107 (fun h=>?_) (fun h=>?_)|refine sP 117 (fun h=>?_) (fun h=>?_)|refine sP 175 (fun h=>?_) (fun h=>?_)|refine sP 198 (fun h=>?_) (fun h=>?_)|refine sP 206 (fun h=>?_) (fun h=>?_)|refine qR ?_|refine qS ?_|exact ⟨rfl, rfl⟩|fail)
    refine LWp.pick [0, 3, 8, 139, 140, 141] [0, 1, 2, 3, 4, 5, 6, 7, 8, 9, 10, 11, 12, 13, 14, 15, 16, 17, 18, 19, 20, 21, 22, 23] rfl rfl rfl (L_loop (fun q l K => ∃ p : Nat, q = m.rs.length - p ∧ p ≤ m.rs.length ∧ l = [(0, ptr 0), (3, slB 23 m.bs.length), (8, .int .i64 (pgN m p)), (139, slB 18 m.rs.length), (140, .int .i64 m.rs.length), (141, .int .i64 p)] ∧ K = PL m gl ++ [BL m.bs]) m.rs.length ⟨0, rfl, by omega, rfl, rfl⟩ ?_)
    rintro q _ _ ⟨p, rfl, hp, rfl, rfl⟩
    first|refine L_seq (L_rs (S_done [] rfl (Nx.goL (iF (fun h => L_skip (Nx.goL ?_)) (fun h => L_exit ?_)))))|refine L_rs (S_done [] rfl (Nx.goL (L_seq (iF (fun h => L_skip (Nx.goL ?_)) (fun h => L_exit ?_)))))
    · have hp2 : p < m.rs.length := by omega
      have hIn := hIn_tr m hm p
      have rIn := rIn_tr18 m hm gl p
      have hMg := rManaged_tr m.man (m.man + m.mgd) m.bs m.rs (obs m) gl (by omega) p
      have hsu := pgN_succ m p
      cases hq : mgP m.rs (p : Int)
      · rw [hq] at hMg hsu
        rw [if_neg (by decide), Nat.add_zero] at hsu
        repeat' (first|refine qN ?_|refine dN ?_|refine dR ?_|refine d0 ?_|refine qB ?_|refine rT ?_|refine qT ?_|refine qU ?_|refine qL ?_|refine qK ?_|refine qF ?_|refine qE ?_|refine iF (fun h=>?_) (fun h=>?_)|refine aX ?_|(refine cF PH (hIn) ?_; conv => whnf)|(refine cF PR (rIn) ?_; conv => whnf)|refine cP PR (hMg) ?_|refine aA ?_|refine aS ?_|refine aK ?_|refine aI (hn := ?_)|refine aD ?_|refine aR ?_|refine aM ?_|refine sP 35 (fun h=>?_) (fun h=>?_)|refine sP 51 (fun h=>?_) (fun h=>?_)|refine sP 107 (fun h=>?_) (fun h=>?_)|refine sP 117 (fun h=>?_) (fun h=>?_)|refine sP 175 (fun h=>?_) (fun h=>?_)|refine sP 198 (fun h=>?_) (fun h=>?_)|refine sP 206 (fun h=>?_) (fun h=>?_)|refine qR ?_|refine qS ?_|exact ⟨rfl, rfl⟩|fail)
        all_goals first|exact absurd rfl h|exact Nx.pick [0, 3, 8, 139, 140, 141] [0, 1, 2, 3, 4, 5, 6, 7, 8, 9, 10, 11, 12, 13, 14, 15, 16, 17, 18, 19, 20, 21, 22, 23] rfl rfl rfl ⟨m.rs.length - (p + 1), by omega, p + 1, rfl, by omega, by rw [hsu]; rfl, rfl⟩
      · rw [hq] at hMg hsu
        rw [if_pos rfl] at hsu
        have hat := pgN_at hm (by omega) hq
        have hlt : pgN m p < (pagesH m).length := (List.getElem?_eq_some_iff.1 hat).1
        have hat2 := natI_get hat
        have hpl := pagesH_len m
        have e : ((pgN m (p + 1) : Nat) : Int) = (pgN m p : Int) + 1 := by omega
        repeat' (first|refine qN ?_|refine dN ?_|refine dR ?_|refine d0 ?_|refine qB ?_|refine rT ?_|refine qT ?_|refine qU ?_|refine qL ?_|refine qK ?_|refine qF ?_|refine qE ?_|refine iF (fun h=>?_) (fun h=>?_)|refine aX ?_|(refine cF PH (hIn) ?_; conv => whnf)|(refine cF PR (rIn) ?_; conv => whnf)|refine cP PR (hMg) ?_|(refine cF PH (hPg) ?_; conv => whnf)|refine S_Q [] rfl rfl (QY.ldI rfl rfl hat2) ?_|refine aA ?_|refine aS ?_|refine aK ?_|refine aI (hn := ?_)|refine aD ?_|refine aR ?_|refine aM ?_|refine sP 35 (fun h=>?_) (fun h=>?_)|refine sP 51 (fun h=>?_) (fun h=>?_)|refine sP 107 (fun h=>?_) (fun h=>?_)|refine sP 117 (fun h=>?_) (fun h=>?_)|refine sP 175 (fun h=>?_) (fun h=>?_)|refine sP 198 (fun h=>?_) (fun h=>?_)|refine sP 206 (fun h=>?_) (fun h=>?_)|refine qR ?_|refine qS ?_|exact ⟨rfl, rfl⟩|fail)
        all_goals first|exact absurd rfl h | (exfalso; omega)|exact Nx.pick [0, 3, 8, 139, 140, 141] [0, 1, 2, 3, 4, 5, 6, 7, 8, 9, 10, 11, 12, 13, 14, 15, 16, 17, 18, 19, 20, 21, 22, 23] rfl rfl rfl ⟨m.rs.length - (p + 1), by omega, p + 1, rfl, by omega, by rw [e]; rfl, rfl⟩
    · refine Nx.goL ?_
      obtain rfl : p = m.rs.length := by omega
      have hal := pgN_all hm
      rw [← hnr] at hal
      have h16 := hHas_tr m hm (-16) (by omega)
      rw [hasH_low] at h16
      have hhi := hHas_tr m hm m.bs.length (by omega)
      rw [hasH_high (by omega)] at hhi
      repeat' (first|refine qN ?_|refine dN ?_|refine dR ?_|refine d0 ?_|refine qB ?_|refine rT ?_|refine qT ?_|refine qU ?_|refine qL ?_|refine qK ?_|refine qF ?_|refine qE ?_|refine iF (fun h=>?_) (fun h=>?_)|refine aX ?_|(refine cF PH (hPg) ?_; conv => whnf)|refine cP PH (h16) ?_|refine cP PH (hhi) ?_|refine aA ?_|refine aS ?_|refine aK ?_|refine aI (hn := ?_)|refine aD ?_|refine aR ?_|refine aM ?_|refine sP 35 (fun h=>?_) (fun h=>?_)|refine sP 51 (fun h=>?_) (fun h=>?_)|refine sP 107 (fun h=>?_) (fun h=>?_)|refine sP 117 (fun h=>?_) (fun h=>?_)|refine sP 175 (fun h=>?_) (fun h=>?_)|refine sP 198 (fun h=>?_) (fun h=>?_)|refine sP 206 (fun h=>?_) (fun h=>?_)|refine qR ?_|refine qS ?_|exact ⟨rfl, rfl⟩|fail)
      all_goals (exfalso; omega)
end Go.Proofs.YtdpcccjkncagoaaGreatDoor
end
section
namespace Go.Tum.Base
open Go Go.Tum Go.Proofs.YtdpcccjkncagoaaGreatDoor
theorem step_size (m : HM) (gl : List Gb) (o : Op18) (b : Bool) : (stepM m gl o b).1.man = m.man ∧ (stepM m gl o b).1.mgd = m.mgd := by
  unfold stepM
  split
  · show (allocR m o.r o.s).2.2.man = _ ∧ (allocR m o.r o.s).2.2.mgd = _
    unfold allocR
    split
    · split <;> exact ⟨rfl, rfl⟩
    · exact ⟨rfl, rfl⟩
  split
  · show (freeR m _).man = _ ∧ (freeR m _).mgd = _
    unfold freeR; split <;> exact ⟨rfl, rfl⟩
  split
  · show (markR m _).man = _ ∧ (markR m _).mgd = _
    unfold markR; split <;> exact ⟨rfl, rfl⟩
  split
  · exact ⟨rfl, rfl⟩
  split
  · show (tidyR m _).man = _ ∧ (tidyR m _).mgd = _
    unfold tidyR; split <;> exact ⟨rfl, rfl⟩
  split
  · show (setR m o).man = _ ∧ (setR m o).mgd = _
    unfold setR; split <;> exact ⟨rfl, rfl⟩
  split
  · show (greatR m gl o.n).2.2.1.man = _ ∧ (greatR m gl o.n).2.2.1.mgd = _
    unfold greatR
    split
    · split <;> exact ⟨rfl, rfl⟩
    · exact ⟨rfl, rfl⟩
  split
  · cases b
    · exact ⟨rfl, rfl⟩
    · show (wordR m _ _).man = _ ∧ (wordR m _ _).mgd = _
      unfold wordR; split <;> exact ⟨rfl, rfl⟩
  · exact ⟨rfl, rfl⟩
end Go.Tum.Base
end
section
namespace Go.Proofs.YtdpcccjkncagoaaGreatDoor
open Go Go.Tum Go.Tum.Base
set_option maxRecDepth 4000
set_option maxHeartbeats 1000000 in
theorem root19_tr (m n : HM) (gl : List Gb) (o : Op18) : Tr Tryz.prog 47 [ptr 0, .agg ⟨o.cells⟩] (PLg m n gl) (fun v K => v = .int .i64 (atP n o.which o.at_) ∧ K = PLg m n gl) := by
  obtain ⟨kd, w, a, pg, kk, to, nn, v, r, s⟩ := o
  simp only [Op18.cells]
  refine Tr.of row_tumbrellaw19_root_ok rfl ?_
  by_cases h0 : 0 ≤ w
  · obtain ⟨k, rfl⟩ := Int.eq_ofNat_of_zero_le h0
    by_cases h1 : k < (obs n).length
    · have hg : (obs n)[k]? = some (obs n)[k] := List.getElem?_eq_getElem h1
      rw [show atP n k a = (obs n)[k].1 by unfold atP; rw [if_pos ⟨h0, by omega⟩, Int.toNat_natCast, List.getD_eq_getElem?_getD, hg]; rfl]
      repeat' (first|refine qN ?_|refine dN ?_|refine dR ?_|refine d0 ?_|refine qB ?_|refine rT ?_|refine qT ?_|refine qU ?_|refine qL ?_|refine qK ?_|refine qF ?_|refine qE ?_|refine iF (fun h=>?_) (fun h=>?_)|refine aX ?_|refine S_Q [] rfl rfl (QY.ldF (j := 0) (u := .int .i64 (obs n)[k].1) obC_ok rfl rfl hg rfl rfl) ?_|refine aA ?_|refine aS ?_|refine aK ?_|refine aI (hn := ?_)|refine aD ?_|refine aR ?_|refine aM ?_|refine sP 8 (fun h=>?_) (fun h=>?_)|refine qR ?_|refine qS ?_|exact ⟨rfl, rfl⟩|fail)
      all_goals (exfalso; omega)
    · rw [show atP n k a = a by unfold atP; rw [if_neg (by omega)]]
      repeat' (first|refine qN ?_|refine dN ?_|refine dR ?_|refine d0 ?_|refine qB ?_|refine rT ?_|refine qT ?_|refine qU ?_|refine qL ?_|refine qK ?_|refine qF ?_|refine qE ?_|refine iF (fun h=>?_) (fun h=>?_)|refine aX ?_|refine aA ?_|refine aS ?_|refine aK ?_|refine aI (hn := ?_)|refine aD ?_|refine aR ?_|refine aM ?_|refine sP 8 (fun h=>?_) (fun h=>?_)|refine qR ?_|refine qS ?_|exact ⟨rfl, rfl⟩|fail)
      all_goals (exfalso; omega)
  · rw [show atP n w a = a by unfold atP; rw [if_neg (by omega)]]
    repeat' (first|refine qN ?_|refine dN ?_|refine dR ?_|refine d0 ?_|refine qB ?_|refine rT ?_|refine qT ?_|refine qU ?_|refine qL ?_|refine qK ?_|refine qF ?_|refine qE ?_|refine iF (fun h=>?_) (fun h=>?_)|refine aX ?_|refine aA ?_|refine aS ?_|refine aK ?_|refine aI (hn := ?_)|refine aD ?_|refine aR ?_|refine aM ?_|refine sP 8 (fun h=>?_) (fun h=>?_)|refine qR ?_|refine qS ?_|exact ⟨rfl, rfl⟩|fail)
    all_goals (exfalso; omega)
def MPL (m : HM) (gl : List Gb) (xs : List Int) (k w : Nat) (st : List Int) : LH := PL1 m gl ++
  [.cells 0 [ptr 2, .slice (some ⟨25, 0, none⟩) k xs.length, .int .i64 w], .gro 1 (rowsC intC xs), .cells 0 [ptr 15, slB 27 st.length, .int .i64 w], .gro 1 (rowsC intC st)]
abbrev V28 : List Nat := [0, 1, 2, 3, 4, 5, 6, 7, 8, 9, 10, 11, 12, 13, 14, 15, 16, 17, 18, 19, 20, 21, 22, 23, 24, 25, 26, 27]
abbrev VS : List Nat := [2, 3, 4, 5, 6, 7, 8, 9, 10, 11, 12, 13, 14, 24, 25]
abbrev VR2 : List Nat := [15, 16, 17, 18, 19, 20, 21, 22, 23, 26, 27]
structure MI (m : HM) (gl : List Gb) (xs : List Int) (k w i : Nat) : Prop where
  hi : HI m gl
  le : k ≤ xs.length
  len : xs.length ≤ 16 * i
  w : w ≤ i
  ok : StkOk m (xs.take k)
theorem StkOk.same {m m' : HM} {st : List Int} (h : StkOk m st) (h1 : m'.man = m.man) (h2 : m'.mgd = m.mgd) : StkOk m' st := fun a ha => by
  obtain ⟨i, h3, h4⟩ := h a ha
  exact ⟨i, h3, by omega⟩
theorem MI.step {m : HM} {gl : List Gb} {xs : List Int} {k w i : Nat} (h : MI m gl xs k w i) (o : Op18) (b : Bool) : MI (stepM m gl o b).1 (stepM m gl o b).2 xs k w (i + 1) := by
  have hz := step_size m gl o b
  have h1 := h.len
  have h2 := h.w
  exact ⟨h.hi.step o b, h.le, by omega, by omega, StkOk.same h.ok hz.1 hz.2⟩
theorem MI.up {m : HM} {gl : List Gb} {xs : List Int} {k w i : Nat} (h : MI m gl xs k w i) : MI m gl xs k w (i + 1) := by
  have h1 := h.len
  have h2 := h.w
  exact ⟨h.hi, h.le, by omega, by omega, h.ok⟩
theorem MI.note {m : HM} {gl : List Gb} {xs : List Int} {k w i : Nat} (h : MI m gl xs k w i) (a : Int) : MI (markR m a) gl (noteS m xs k a) (noteK m k a) w (i + 1) := by
  have hn := le_note (x := (m, xs, k)) h.le a
  have ho := StkOk.note (x := (m, xs, k)) h.le h.ok a
  have h1 := h.len
  have h2 := h.w
  have h3 : (noteS m xs k a).length ≤ xs.length + 1 := hn.2.1
  exact ⟨h.hi.mark a, hn.1, by omega, by omega, ho⟩
theorem MI.look {m : HM} {gl : List Gb} {xs : List Int} {k w i i0 : Nat} (h : MI m gl xs (k + 1) w i) (hx : xs[k]? = some ((16 * i0 : Nat) : Int)) : MI (ntA (m, xs, k) (refsF m.bs (16 * i0))).1 gl (ntA (m, xs, k) (refsF m.bs (16 * i0))).2.1 (ntA (m, xs, k) (refsF m.bs (16 * i0))).2.2 (w + 1) (i + 1) := by
  have hle := h.le
  have hkx := (List.getElem?_eq_some_iff.1 hx).1
  have hl : (m, xs, k).2.2 ≤ (m, xs, k).2.1.length := by show k ≤ xs.length; omega
  have hn := le_notes (l := refsF m.bs (16 * i0)) hl
  have h15 := refsF_len m.bs (16 * i0)
  have h1 := h.len
  have h2 := h.w
  have h3 : (m, xs, k).2.1.length = xs.length := rfl
  refine ⟨HI.notes (x := (m, xs, k)) h.hi, hn.1, by omega, by omega, StkOk.notes (x := (m, xs, k)) hl fun a ha => h.ok a ?_⟩
  obtain ⟨h4, h5⟩ := List.getElem?_eq_some_iff.1 hx
  rw [List.take_succ_eq_append_getElem h4]
  exact List.mem_append_left _ ha
theorem MI.top {m : HM} {gl : List Gb} {xs : List Int} {k w i : Nat} (h : MI m gl xs (k + 1) w i) : ∃ i0 : Nat, xs[k]? = some ((16 * i0 : Nat) : Int) ∧ i0 < 16 * (m.man + m.mgd) ∧ xs.take (k + 1) = xs.take k ++ [((16 * i0 : Nat) : Int)] := by
  have hle := h.le
  have hg : xs[k]? = some xs[k] := List.getElem?_eq_getElem (by omega)
  have ht : xs.take (k + 1) = xs.take k ++ [xs[k]] := List.take_succ_eq_append_getElem (by omega)
  obtain ⟨i0, h1, h2⟩ := h.ok xs[k] (by rw [ht]; exact List.mem_append_right _ (List.mem_singleton.2 rfl))
  rw [h1] at hg ht
  exact ⟨i0, hg, h2, ht⟩
end Go.Proofs.YtdpcccjkncagoaaGreatDoor
end
section
namespace Go.Proofs.YtdpcccjkncagoaaGreatDoor
open Go Go.Tum
theorem DoorH.of {w : World} (h : TabOk Tryz.prog (fun _ => False) w) : DoorH (fun _ => False) w := by
  obtain ⟨h1, h2, h3⟩ := h 0 (by kernel_rfl)
  exact ⟨h1, h2, h3⟩
theorem DoorH.tab {w : World} (h : DoorH (fun _ => False) w) : TabOk Tryz.prog (fun _ => False) w := fun g hg => by
  obtain rfl : g = 0 := Option.some.inj (hg.symm.trans (by kernel_rfl))
  exact ⟨h.1, h.2.1, h.2.2⟩
end Go.Proofs.YtdpcccjkncagoaaGreatDoor
end
section
namespace Go.Proofs.YtdpcccjkncagoaaGreatDoor
open Go Go.Tum
def rowsMk : List FnRow := [row_tumbrellaw19_awake, row_region_New, row_gheap_New, row_gheap_Heap_Alloc, row_region_Region_Arena, row_object_SetRef, row_mark_New, row_mark_Marker_Root, row_mark_Marker_Step, row_gheap_Heap_Marked, row_mark_Marker_Looked, row_arena_New, row_link_New, row_pages_New, row_large_New, row_region_Region_Config, row_arena_Arena_Len, row_bitset_New, row_object_Shape_Class, row_gheap_Heap_place, row_region_Region_Pages, row_pages_Table_Map, row_class_Base, row_object_Make, row_bitset_Set_Put, row_object_ref, row_arena_Arena_SetWord, row_gheap_Heap_Has, row_mark_Marker_note, row_mark_Marker_Left, row_gheap_Heap_Region, row_object_Refs, row_bitset_Set_Has, row_link_mix, row_object_Shape_Bytes, row_class_Size, row_gheap_Heap_managed, row_gheap_Heap_row, row_gheap_Heap_slot, row_pages_Row_first, row_pages_Table_cut, row_pages_Table_place, row_class_Slots, row_arena_Arena_Word, row_arena_Arena_Fill, row_object_Shape_word, row_bitset_Set_in, row_object_Head, row_object_field, row_arena_Arena_word, row_num_Put, row_gheap_Heap_Mark, row_object_Ref, row_object_Shape_may, row_class_may, row_pages_Table_Row, row_pages_Table_Len, row_pages_Row_free, row_num_Get, row_arena_Arena_in, row_bitset_Set_Len]
theorem rowsMk_ok : ∀ x ∈ rowsMk, x.Ok Tryz.prog := by
  refine List.forall_mem_cons.2 ⟨row_tumbrellaw19_awake_ok, ?_⟩
  refine List.forall_mem_cons.2 ⟨row_region_New_ok, ?_⟩
  refine List.forall_mem_cons.2 ⟨row_gheap_New_ok, ?_⟩
  refine List.forall_mem_cons.2 ⟨row_gheap_Heap_Alloc_ok, ?_⟩
  refine List.forall_mem_cons.2 ⟨row_region_Region_Arena_ok, ?_⟩
  refine List.forall_mem_cons.2 ⟨row_object_SetRef_ok, ?_⟩
  refine List.forall_mem_cons.2 ⟨row_mark_New_ok, ?_⟩
  refine List.forall_mem_cons.2 ⟨row_mark_Marker_Root_ok, ?_⟩
  refine List.forall_mem_cons.2 ⟨row_mark_Marker_Step_ok, ?_⟩
  refine List.forall_mem_cons.2 ⟨row_gheap_Heap_Marked_ok, ?_⟩
  refine List.forall_mem_cons.2 ⟨row_mark_Marker_Looked_ok, ?_⟩
  refine List.forall_mem_cons.2 ⟨row_arena_New_ok, ?_⟩
  refine List.forall_mem_cons.2 ⟨row_link_New_ok, ?_⟩
  refine List.forall_mem_cons.2 ⟨row_pages_New_ok, ?_⟩
  refine List.forall_mem_cons.2 ⟨row_large_New_ok, ?_⟩
  refine List.forall_mem_cons.2 ⟨row_region_Region_Config_ok, ?_⟩
  refine List.forall_mem_cons.2 ⟨row_arena_Arena_Len_ok, ?_⟩
  refine List.forall_mem_cons.2 ⟨row_bitset_New_ok, ?_⟩
  refine List.forall_mem_cons.2 ⟨row_object_Shape_Class_ok, ?_⟩
  refine List.forall_mem_cons.2 ⟨row_gheap_Heap_place_ok, ?_⟩
  refine List.forall_mem_cons.2 ⟨row_region_Region_Pages_ok, ?_⟩
  refine List.forall_mem_cons.2 ⟨row_pages_Table_Map_ok, ?_⟩
  refine List.forall_mem_cons.2 ⟨row_class_Base_ok, ?_⟩
  refine List.forall_mem_cons.2 ⟨row_object_Make_ok, ?_⟩
  refine List.forall_mem_cons.2 ⟨row_bitset_Set_Put_ok, ?_⟩
  refine List.forall_mem_cons.2 ⟨row_object_ref_ok, ?_⟩
  refine List.forall_mem_cons.2 ⟨row_arena_Arena_SetWord_ok, ?_⟩
  refine List.forall_mem_cons.2 ⟨row_gheap_Heap_Has_ok, ?_⟩
  refine List.forall_mem_cons.2 ⟨row_mark_Marker_note_ok, ?_⟩
  refine List.forall_mem_cons.2 ⟨row_mark_Marker_Left_ok, ?_⟩
  refine List.forall_mem_cons.2 ⟨row_gheap_Heap_Region_ok, ?_⟩
  refine List.forall_mem_cons.2 ⟨row_object_Refs_ok, ?_⟩
  refine List.forall_mem_cons.2 ⟨row_bitset_Set_Has_ok, ?_⟩
  refine List.forall_mem_cons.2 ⟨row_link_mix_ok, ?_⟩
  refine List.forall_mem_cons.2 ⟨row_object_Shape_Bytes_ok, ?_⟩
  refine List.forall_mem_cons.2 ⟨row_class_Size_ok, ?_⟩
  refine List.forall_mem_cons.2 ⟨row_gheap_Heap_managed_ok, ?_⟩
  refine List.forall_mem_cons.2 ⟨row_gheap_Heap_row_ok, ?_⟩
  refine List.forall_mem_cons.2 ⟨row_gheap_Heap_slot_ok, ?_⟩
  refine List.forall_mem_cons.2 ⟨row_pages_Row_first_ok, ?_⟩
  refine List.forall_mem_cons.2 ⟨row_pages_Table_cut_ok, ?_⟩
  refine List.forall_mem_cons.2 ⟨row_pages_Table_place_ok, ?_⟩
  refine List.forall_mem_cons.2 ⟨row_class_Slots_ok, ?_⟩
  refine List.forall_mem_cons.2 ⟨row_arena_Arena_Word_ok, ?_⟩
  refine List.forall_mem_cons.2 ⟨row_arena_Arena_Fill_ok, ?_⟩
  refine List.forall_mem_cons.2 ⟨row_object_Shape_word_ok, ?_⟩
  refine List.forall_mem_cons.2 ⟨row_bitset_Set_in_ok, ?_⟩
  refine List.forall_mem_cons.2 ⟨row_object_Head_ok, ?_⟩
  refine List.forall_mem_cons.2 ⟨row_object_field_ok, ?_⟩
  refine List.forall_mem_cons.2 ⟨row_arena_Arena_word_ok, ?_⟩
  refine List.forall_mem_cons.2 ⟨row_num_Put_ok, ?_⟩
  refine List.forall_mem_cons.2 ⟨row_gheap_Heap_Mark_ok, ?_⟩
  refine List.forall_mem_cons.2 ⟨row_object_Ref_ok, ?_⟩
  refine List.forall_mem_cons.2 ⟨row_object_Shape_may_ok, ?_⟩
  refine List.forall_mem_cons.2 ⟨row_class_may_ok, ?_⟩
  refine List.forall_mem_cons.2 ⟨row_pages_Table_Row_ok, ?_⟩
  refine List.forall_mem_cons.2 ⟨row_pages_Table_Len_ok, ?_⟩
  refine List.forall_mem_cons.2 ⟨row_pages_Row_free_ok, ?_⟩
  refine List.forall_mem_cons.2 ⟨row_num_Get_ok, ?_⟩
  refine List.forall_mem_cons.2 ⟨row_arena_Arena_in_ok, ?_⟩
  refine List.forall_mem_cons.2 ⟨row_bitset_Set_Len_ok, ?_⟩
  exact fun x hx => by cases hx
theorem awake19_tr : Tr Tryz.prog 53 [] [] (fun v K => v = .bool true ∧ K = []) :=
  Tr.closedT (by kernel_rfl) rfl rfl fun w hw => closed_callH (vs := []) (fuel := 5000) ovTZ_ok rowsMk_ok (rawQ1_ok _) (rawE2_ok _) rfl rfl rfl (by kernel_rfl) w (DoorH.of hw)
end Go.Proofs.YtdpcccjkncagoaaGreatDoor
end
section
namespace Go.Proofs.YtdpcccjkncagoaaGreatDoor
open Go Go.Tum Go.Tum.Base
set_option maxRecDepth 4000
theorem L_mid {P : Program} {n0 : NA} {a : MC} {Q : Exit → Env → LH → Prop} {K' : Env → LH → Prop} {l : Env} {L : LH} (K : Env → LH → Prop) (ha : LWp P n0 a (thenL (Nx n0 K) Q) l L) (hb : ∀ l L, K l L → K' l L) : LWp P n0 a (thenL (Nx n0 K') Q) l L := by
  refine ha.mono fun e l L h => ?_
  cases e with
  | normal => exact Nx.mono h hb
  | ret => exact h
  | exit i => exact h
  | goto i => exact h
  | panic c => exact h
  | outgrown => exact h
set_option maxHeartbeats 8000000 in
theorem MarkPlays_tr (b : Int) (hb : 0 ≤ b ∧ b < 256) (nb : Nat) (hnb : nb ≤ 9223372036854775807) (get : Nat → List Value) (op : Nat → Op18 × Int) (hop : ∀ i, i < nb → get i = (op i).1.cells ++ [.int .i64 (op i).2] ∧ (op i).1.In) :
    TrK Tryz.prog [(0, nb * 11, rowG 11 get)] [0] 11 [.int .u8 b, slB 0 nb] [.dead] (fun v _ => v = .bool true) := by
  obtain ⟨N, hN⟩ : ∃ N : Nat, 1 + b % 5 = N := ⟨(1 + b % 5).toNat, by omega⟩
  have hMk := make18_tr 1 N (by omega) (by omega)
  have hI0 := HI.init (man := 1) (mgd := N) (by omega) (by omega)
  have hAw := awake19_tr
  generalize initM 1 N = m0 at *
  have hN0 := mNew_tr m0
  have hMI0 : MI m0 [] [] 0 0 0 := ⟨hI0, Nat.le_refl _, Nat.le_refl _, Nat.le_refl _, fun a ha => by cases ha⟩
  clear hI0
  refine Tr.of row_tumbrellaw19_MarkPlays_ok rfl ?_
  repeat' (first|refine qN ?_|refine dN ?_|refine dR ?_|refine d0 ?_|refine qB ?_|refine rT ?_|refine qT ?_|refine qU ?_|refine qL ?_|refine qK ?_|refine qF ?_|refine qE ?_|refine iF (fun h=>?_) (fun h=>?_)|refine aX ?_|refine S_Q [] rfl rfl (QY.cvi rfl (wrap64_id (by omega) (by omega))) ?_|refine S_Q [] rfl rfl (QY.add rfl rfl hN (by omega) (by omega)) ?_|(refine cF [] (hMk) ?_; conv => whnf)|refine aA ?_|refine aS ?_|refine aK ?_|refine aI (hn := ?_)|refine aD ?_|refine aR ?_|refine aM ?_|refine sP 79 (fun h=>?_) (fun h=>?_)|refine sP 88 (fun h=>?_) (fun h=>?_)|refine sP 118 (fun h=>?_) (fun h=>?_)|refine qR ?_|refine qS ?_|exact ⟨rfl, rfl⟩|fail)
  clear hMk
  refine L_mid (fun l L => l = [(1, slB 0 nb), (5, ptr 1), (6, ptr 24), (7, ptr 26)] ∧ L = MPL m0 [] [] 0 0 []) ?_ ?_
  · repeat' (first|refine qN ?_|refine dN ?_|refine dR ?_|refine d0 ?_|refine qB ?_|refine rT ?_|refine qT ?_|refine qU ?_|refine qL ?_|refine qK ?_|refine qF ?_|refine qE ?_|refine iF (fun h=>?_) (fun h=>?_)|refine aX ?_|(refine cF QH (hN0) ?_; conv => whnf)|(refine S_E [] rfl rfl (esafe_ok rfl) ?_; rintro _ _ ⟨rfl, rfl⟩; refine ⟨(by repeat' (first|exact trivial|refine ⟨⟨qsafe_ok (st := []) rfl, Sure.of rfl⟩, ?_⟩|refine ⟨.inl rfl, ?_⟩|refine ⟨.inr ⟨qsafe_ok (st := []) rfl, Sure.of rfl⟩, ?_⟩|refine ⟨⟨qsafe_ok (st := []) rfl, Sure.slice (by omega)⟩, ?_⟩|refine ⟨.inr ⟨qsafe_ok (st := []) rfl, Sure.slice (by omega)⟩, ?_⟩|refine ⟨.inr ⟨QY.neqB rfl (by kernel_rfl) rfl rfl, Sure.of rfl⟩, ?_⟩|refine ⟨.inr ⟨QY.eqlB rfl (by kernel_rfl) rfl rfl, Sure.of rfl⟩, ?_⟩ | fail)), LSt.nf ?_⟩; conv => whnf)|refine L_rT ?_|refine L_regT ?_|refine P_lin rfl ?_|refine P_A [] rfl ?_ ?_|(refine P_E [] rfl rfl (EW.callF QH (hN0) rfl rfl (by decide) (by repeat' (first|exact trivial|refine ⟨rfl, ?_⟩ | fail)) rfl rfl) ?_; rintro _ _ ⟨rfl, rfl⟩; refine ⟨(by repeat' (first|exact trivial|refine ⟨⟨qsafe_ok (st := []) rfl, Sure.of rfl⟩, ?_⟩|refine ⟨.inl rfl, ?_⟩|refine ⟨.inr ⟨qsafe_ok (st := []) rfl, Sure.of rfl⟩, ?_⟩|refine ⟨⟨qsafe_ok (st := []) rfl, Sure.slice (by omega)⟩, ?_⟩|refine ⟨.inr ⟨qsafe_ok (st := []) rfl, Sure.slice (by omega)⟩, ?_⟩|refine ⟨.inr ⟨QY.neqB rfl (by kernel_rfl) rfl rfl, Sure.of rfl⟩, ?_⟩|refine ⟨.inr ⟨QY.eqlB rfl (by kernel_rfl) rfl rfl, Sure.of rfl⟩, ?_⟩ | fail)), LPt.nf ?_⟩; conv => whnf)|(refine P_E [] rfl rfl (esafe_ok rfl) ?_; rintro _ _ ⟨rfl, rfl⟩; refine ⟨(by repeat' (first|exact trivial|refine ⟨⟨qsafe_ok (st := []) rfl, Sure.of rfl⟩, ?_⟩|refine ⟨.inl rfl, ?_⟩|refine ⟨.inr ⟨qsafe_ok (st := []) rfl, Sure.of rfl⟩, ?_⟩|refine ⟨⟨qsafe_ok (st := []) rfl, Sure.slice (by omega)⟩, ?_⟩|refine ⟨.inr ⟨qsafe_ok (st := []) rfl, Sure.slice (by omega)⟩, ?_⟩|refine ⟨.inr ⟨QY.neqB rfl (by kernel_rfl) rfl rfl, Sure.of rfl⟩, ?_⟩|refine ⟨.inr ⟨QY.eqlB rfl (by kernel_rfl) rfl rfl, Sure.of rfl⟩, ?_⟩ | fail)), LPt.nf ?_⟩; conv => whnf)|refine aA ?_|refine aS ?_|refine aK ?_|refine aI (hn := ?_)|refine aD ?_|refine aR ?_|refine aM ?_|refine sP 79 (fun h=>?_) (fun h=>?_)|refine sP 88 (fun h=>?_) (fun h=>?_)|refine sP 118 (fun h=>?_) (fun h=>?_)|refine qR ?_|refine qS ?_|exact ⟨rfl, rfl⟩|fail)
    · exact Nx.nilC 26 1 1 rfl rfl (Nx.pick [1, 5, 6, 7] V28 rfl rfl rfl ⟨rfl, rfl⟩)
    · exact Nx.nilC 24 1 1 rfl rfl (Nx.pick [1, 5, 6, 7] [0, 1, 2, 3, 4, 5, 6, 7, 8, 9, 10, 11, 12, 13, 14, 15, 16, 17, 18, 19, 20, 21, 22, 23, 25, 26, 24, 27] rfl rfl rfl ⟨rfl, rfl⟩)
  rintro _ _ ⟨rfl, rfl⟩
  clear hN0
  repeat' (first|refine qN ?_|refine dN ?_|refine dR ?_|refine d0 ?_|refine qB ?_|refine rT ?_|refine qT ?_|refine qU ?_|refine qL ?_|refine qK ?_|refine qF ?_|refine qE ?_|refine iF (fun h=>?_) (fun h=>?_)|refine aX ?_|refine aA ?_|refine aS ?_|refine aK ?_|refine aI (hn := ?_)|refine aD ?_|refine aR ?_|refine aM ?_|refine sP 79 (fun h=>?_) (fun h=>?_)|refine sP 88 (fun h=>?_) (fun h=>?_)|refine sP 118 (fun h=>?_) (fun h=>?_)|refine qR ?_|refine qS ?_|exact ⟨rfl, rfl⟩|fail)
  refine LWp.pick [5, 6, 7, 32, 33, 34] V28 rfl rfl rfl (L_loop (fun q l K => ∃ (i : Nat) (m : HM) (gl : List Gb) (xs : List Int) (k w : Nat), q = nb - i ∧ i ≤ nb ∧ MI m gl xs k w i ∧ l = [(5, ptr 1), (6, ptr 24), (7, ptr 26), (32, slB 0 nb), (33, .int .i64 nb), (34, .int .i64 i)] ∧ K = MPL m gl xs k w (xs.take k)) nb ⟨0, m0, [], [], 0, 0, rfl, by omega, hMI0, rfl, rfl⟩ ?_)
  clear hMI0
  rintro q _ _ ⟨i, m, gl, xs, k, w, rfl, hi, hM, rfl, rfl⟩
  first|refine L_seq (L_rs (S_done [] rfl (Nx.goL (iF (fun h => L_skip (Nx.goL ?_)) (fun h => L_exit ?_)))))|refine L_rs (S_done [] rfl (Nx.goL (L_seq (iF (fun h => L_skip (Nx.goL ?_)) (fun h => L_exit ?_)))))
  · have hi' : i < nb := by omega
    obtain ⟨e, ho⟩ := hop i hi'
    obtain ⟨⟨o, own⟩, hop2⟩ : ∃ x, x = op i := ⟨_, rfl⟩
    rw [← hop2] at e ho
    simp only at e ho
    clear hop hop2
    by_cases h50 : i < 50
    · refine L_seq (L_block ?_)
      repeat' (first|refine qN ?_|refine dN ?_|refine dR ?_|refine d0 ?_|refine rT ?_|refine qT ?_|refine qU ?_|refine qL ?_|refine qK ?_|refine qF ?_|refine qE ?_|refine iF (fun h=>?_) (fun h=>?_)|refine aX ?_|refine S_Q (v := .agg ⟨o.cells ++ [.int .i64 own]⟩) [] rfl rfl (by rw [← e]; exact QY.rowA (j := 0) i rfl rfl rfl hi' (by rw [e]; rfl) (by rw [e]; rfl)) ?_|refine aA ?_|refine aS ?_|refine aK ?_|refine aI (hn := ?_)|refine aD ?_|refine aR ?_|refine aM ?_|refine sP 79 (fun h=>?_) (fun h=>?_)|refine sP 88 (fun h=>?_) (fun h=>?_)|refine sP 118 (fun h=>?_) (fun h=>?_)|refine qR ?_|refine qS ?_|exact ⟨rfl, rfl⟩|fail)
      · exfalso; omega
      refine L_mid (fun l L => ∃ (m : HM) (gl : List Gb) (xs : List Int) (k w : Nat), MI m gl xs k w (i + 1) ∧ l = [(5, ptr 1), (6, ptr 24), (7, ptr 26), (32, slB 0 nb), (33, .int .i64 nb), (34, .int .i64 i)] ∧ L = MPL m gl xs k w (xs.take k)) ?_ ?_
      · have hok := hM.hi.toHOk
        have hle := hM.le
        have hlen := hM.len
        have hw := hM.w
        by_cases h1 : own = 1
        · have hRt := root19_tr m m gl o
          have ha := (atP_in hok o.which ho.1).2
          generalize atP m o.which o.at_ = a at *
          have hP := mRoot_tr m hok a ha xs k w hle (by omega)
          have hD := rmRoot_tr m hok gl a (xs.take k) w (by rw [List.length_take]; omega)
          have hst : ntS m (xs.take k) a = (noteS m xs k a).take (noteK m k a) := congrArg Prod.snd (rt_nt (x := (m, xs, k)) hle a)
          rw [hst] at hD
          have hM' := hM.note a
          generalize markR m a = m' at *
          generalize noteS m xs k a = xs' at *
          generalize noteK m k a = k' at *
          generalize (if a < 0 ∨ hasH m a = true then 0 else 6 : Int) = er at *
          repeat' (first|refine qN ?_|refine dN ?_|refine dR ?_|refine d0 ?_|refine qB ?_|refine rT ?_|refine qT ?_|refine qU ?_|refine qL ?_|refine qK ?_|refine qF ?_|refine qE ?_|refine iF (fun h=>?_) (fun h=>?_)|refine aX ?_|refine cP Q23 (hRt) ?_|(refine cW VS (hP) ?_; conv => whnf)|(refine cW VR2 (hD) ?_; conv => whnf)|refine aA ?_|refine aS ?_|refine aK ?_|refine aI (hn := ?_)|refine aD ?_|refine aR ?_|refine aM ?_|refine sP 79 (fun h=>?_) (fun h=>?_)|refine sP 88 (fun h=>?_) (fun h=>?_)|refine sP 118 (fun h=>?_) (fun h=>?_)|refine qR ?_|refine qS ?_|exact ⟨rfl, rfl⟩|fail)
          all_goals first | (exfalso; omega)|exact absurd rfl h|exact Nx.pick [5, 6, 7, 32, 33, 34] V28 rfl rfl rfl ⟨m', gl, xs', k', w, hM', rfl, rfl⟩
        · by_cases h2 : own = 2 ∨ own = 3
          · cases k with
            | zero =>
              have hP := mStep_no m xs w
              have hD := rmStep_no m gl w
              rw [show xs.take 0 = [] from rfl]
              repeat' (first|refine qN ?_|refine dN ?_|refine dR ?_|refine d0 ?_|refine qB ?_|refine rT ?_|refine qT ?_|refine qU ?_|refine qL ?_|refine qK ?_|refine qF ?_|refine qE ?_|refine iF (fun h=>?_) (fun h=>?_)|refine aX ?_|(refine cW VS (hP) ?_; conv => whnf)|(refine cW VR2 (hD) ?_; conv => whnf)|refine S_Q [] rfl rfl (QY.neqB rfl (by kernel_rfl) rfl rfl) ?_|refine aA ?_|refine aS ?_|refine aK ?_|refine aI (hn := ?_)|refine aD ?_|refine aR ?_|refine aM ?_|refine sP 79 (fun h=>?_) (fun h=>?_)|refine sP 88 (fun h=>?_) (fun h=>?_)|refine sP 118 (fun h=>?_) (fun h=>?_)|refine qR ?_|refine qS ?_|exact ⟨rfl, rfl⟩|fail)
              all_goals first | (exfalso; omega)|exact absurd rfl h|exact Nx.pick [5, 6, 7, 32, 33, 34] V28 rfl rfl rfl ⟨m, gl, xs, 0, w, hM.up, rfl, rfl⟩
            | succ k =>
              obtain ⟨i0, hx, hi0, ht⟩ := hM.top
              have hP := mStep_ok m gl hM.hi xs k w i0 hx hi0 (by omega) (by omega)
              have hD := rmStep_ok m gl hM.hi (xs.take k) w i0 hi0 (by rw [List.length_take]; omega) (by omega)
              have hM' := hM.look hx
              have hrt : rtA (m, xs.take k) (refsF m.bs (16 * i0)) = ((ntA (m, xs, k) (refsF m.bs (16 * i0))).1, stk (ntA (m, xs, k) (refsF m.bs (16 * i0)))) := rt_nts (x := (m, xs, k)) (l := refsF m.bs (16 * i0)) (by show k ≤ xs.length; omega)
              rw [hrt] at hD
              clear hrt
              have hle' := hM'.le
              generalize ntA (m, xs, k) (refsF m.bs (16 * i0)) = y at *
              obtain ⟨m', xs', k'⟩ := y
              simp only [stk] at hM' hle' hP hD
              rw [← ht] at hD
              have hbb : (xs'.take k').length = k' := by rw [List.length_take, Nat.min_eq_left hle']
              simp only [hbb] at hD
              generalize decide (0 < k') = bb at *
              repeat' (first|refine qN ?_|refine dN ?_|refine dR ?_|refine d0 ?_|refine qB ?_|refine rT ?_|refine qT ?_|refine qU ?_|refine qL ?_|refine qK ?_|refine qF ?_|refine qE ?_|refine iF (fun h=>?_) (fun h=>?_)|refine aX ?_|(refine cW VS (hP) ?_; conv => whnf)|(refine cW VR2 (hD) ?_; conv => whnf)|refine S_Q [] rfl rfl (QY.neqB rfl (by kernel_rfl) rfl rfl) ?_|refine aA ?_|refine aS ?_|refine aK ?_|refine aI (hn := ?_)|refine aD ?_|refine aR ?_|refine aM ?_|refine sP 79 (fun h=>?_) (fun h=>?_)|refine sP 88 (fun h=>?_) (fun h=>?_)|refine sP 118 (fun h=>?_) (fun h=>?_)|refine qR ?_|refine qS ?_|exact ⟨rfl, rfl⟩|fail)
              all_goals first | (exfalso; omega)|exact absurd rfl h|exact Nx.pick [5, 6, 7, 32, 33, 34] V28 rfl rfl rfl ⟨m', gl, xs', k', w + 1, hM', rfl, rfl⟩
          · have hS := step_tr m gl hM.hi o ho true
            have hM' := hM.step o true
            generalize (stepM m gl o true).1 = m' at *
            generalize (stepM m gl o true).2 = gl' at *
            repeat' (first|refine qN ?_|refine dN ?_|refine dR ?_|refine d0 ?_|refine qB ?_|refine rT ?_|refine qT ?_|refine qU ?_|refine qL ?_|refine qK ?_|refine qF ?_|refine qE ?_|refine iF (fun h=>?_) (fun h=>?_)|refine aX ?_|(refine cW Q23 (hS) ?_; conv => whnf)|refine aA ?_|refine aS ?_|refine aK ?_|refine aI (hn := ?_)|refine aD ?_|refine aR ?_|refine aM ?_|refine sP 79 (fun h=>?_) (fun h=>?_)|refine sP 88 (fun h=>?_) (fun h=>?_)|refine sP 118 (fun h=>?_) (fun h=>?_)|refine qR ?_|refine qS ?_|exact ⟨rfl, rfl⟩|fail)
            all_goals first | (exfalso; omega)|exact absurd rfl h|exact Nx.pick [5, 6, 7, 32, 33, 34] V28 rfl rfl rfl ⟨m', gl', xs, k, w, hM', rfl, rfl⟩
      clear hM e ho
      clear m gl xs k w
      rintro _ _ ⟨m, gl, xs, k, w, hM, rfl, rfl⟩
      have hle := hM.le
      have hlen := hM.len
      have hS := mStack_tr m xs k w hle (by omega)
      have hL := mLeft_tr m xs k xs.length w
      have hK := mLooked_tr m xs k xs.length w
      have hk : (xs.take k).length = k := by rw [List.length_take]; omega
      obtain ⟨st, hst⟩ : ∃ st, xs.take k = st := ⟨_, rfl⟩
      rw [hst] at hS hk ⊢
      subst hk
      repeat' (first|refine qN ?_|refine dN ?_|refine dR ?_|refine d0 ?_|refine qB ?_|refine rT ?_|refine qT ?_|refine qU ?_|refine qL ?_|refine qK ?_|refine qF ?_|refine qE ?_|refine iF (fun h=>?_) (fun h=>?_)|refine aX ?_|(refine cF VS (hS) ?_; conv => whnf)|refine cP VS (hL) ?_|refine cP VS (hK) ?_|refine aA ?_|refine aS ?_|refine aK ?_|refine aI (hn := ?_)|refine aD ?_|refine aR ?_|refine aM ?_|refine sP 79 (fun h=>?_) (fun h=>?_)|refine sP 88 (fun h=>?_) (fun h=>?_)|refine sP 118 (fun h=>?_) (fun h=>?_)|refine qR ?_|refine qS ?_|exact ⟨rfl, rfl⟩|fail)
      all_goals try (exfalso; omega)
      clear hS hL hK
      refine LWp.pick [5, 6, 7, 32, 33, 34, 11, 101, 102, 103] (V28 ++ [28]) rfl rfl rfl (L_loop (fun q l K => ∃ j : Nat, q = st.length - j ∧ j ≤ st.length ∧ l = [(5, ptr 1), (6, ptr 24), (7, ptr 26), (32, slB 0 nb), (33, .int .i64 nb), (34, .int .i64 i), (11, slB 28 st.length), (101, slB 27 st.length), (102, .int .i64 st.length), (103, .int .i64 j)] ∧ K = MPL m gl xs st.length w st ++ [.gro 1 (rowsC intC st)]) st.length ⟨0, rfl, by omega, rfl, rfl⟩ ?_)
      rintro q _ _ ⟨j, rfl, hj, rfl, rfl⟩
      first|refine L_seq (L_rs (S_done [] rfl (Nx.goL (iF (fun h => L_skip (Nx.goL ?_)) (fun h => L_exit ?_)))))|refine L_rs (S_done [] rfl (Nx.goL (L_seq (iF (fun h => L_skip (Nx.goL ?_)) (fun h => L_exit ?_)))))
      · have hj2 : j < st.length := by omega
        have hg : st[j]? = some st[j] := List.getElem?_eq_getElem hj2
        generalize st[j] = a at *
        repeat' (first|refine qN ?_|refine dN ?_|refine dR ?_|refine d0 ?_|refine qB ?_|refine rT ?_|refine qT ?_|refine qU ?_|refine qL ?_|refine qK ?_|refine qF ?_|refine qE ?_|refine iF (fun h=>?_) (fun h=>?_)|refine aX ?_|refine S_Q [] rfl rfl (QY.ldI rfl rfl hg) ?_|refine aA ?_|refine aS ?_|refine aK ?_|refine aI (hn := ?_)|refine aD ?_|refine aR ?_|refine aM ?_|refine sP 79 (fun h=>?_) (fun h=>?_)|refine sP 88 (fun h=>?_) (fun h=>?_)|refine sP 118 (fun h=>?_) (fun h=>?_)|refine qR ?_|refine qS ?_|exact ⟨rfl, rfl⟩|fail)
        all_goals first | (exfalso; omega)|exact absurd rfl h|exact Nx.pick [5, 6, 7, 32, 33, 34, 11, 101, 102, 103] (V28 ++ [28]) rfl rfl rfl ⟨st.length - (j + 1), by omega, j + 1, rfl, by omega, rfl, rfl⟩
      · refine Nx.goL ?_
        repeat' (first|refine qN ?_|refine dN ?_|refine dR ?_|refine d0 ?_|refine qB ?_|refine rT ?_|refine qT ?_|refine qU ?_|refine qL ?_|refine qK ?_|refine qF ?_|refine qE ?_|refine iF (fun h=>?_) (fun h=>?_)|refine aX ?_|refine aA ?_|refine aS ?_|refine aK ?_|refine aI (hn := ?_)|refine aD ?_|refine aR ?_|refine aM ?_|refine sP 79 (fun h=>?_) (fun h=>?_)|refine sP 88 (fun h=>?_) (fun h=>?_)|refine sP 118 (fun h=>?_) (fun h=>?_)|refine qR ?_|refine qS ?_|exact ⟨rfl, rfl⟩|fail)
        exact Nx.pick [5, 6, 7, 32, 33, 34] V28 rfl rfl rfl ⟨nb - (i + 1), by omega, i + 1, m, gl, xs, st.length, w, rfl, by omega, hM, rfl, by rw [hst]; rfl⟩
    · have hSm := pSame_tr m gl hM.hi
      repeat' (first|refine qN ?_|refine dN ?_|refine dR ?_|refine d0 ?_|refine qB ?_|refine rT ?_|refine qT ?_|refine qU ?_|refine qL ?_|refine qK ?_|refine qF ?_|refine qE ?_|refine iF (fun h=>?_) (fun h=>?_)|refine aX ?_|refine S_Q (v := .agg ⟨o.cells ++ [.int .i64 own]⟩) [] rfl rfl (by rw [← e]; exact QY.rowA (j := 0) i rfl rfl rfl hi' (by rw [e]; rfl) (by rw [e]; rfl)) ?_|refine cP Q23 (hSm) ?_|refine cP [] (hAw) ?_|refine aA ?_|refine aS ?_|refine aK ?_|refine aI (hn := ?_)|refine aD ?_|refine aR ?_|refine aM ?_|refine sP 79 (fun h=>?_) (fun h=>?_)|refine sP 88 (fun h=>?_) (fun h=>?_)|refine sP 118 (fun h=>?_) (fun h=>?_)|refine qR ?_|refine qS ?_|exact ⟨rfl, rfl⟩|fail)
      all_goals first | (exfalso; omega)|exact rfl
  · refine Nx.goL ?_
    have hSm := pSame_tr m gl hM.hi
    repeat' (first|refine qN ?_|refine dN ?_|refine dR ?_|refine d0 ?_|refine qB ?_|refine rT ?_|refine qT ?_|refine qU ?_|refine qL ?_|refine qK ?_|refine qF ?_|refine qE ?_|refine iF (fun h=>?_) (fun h=>?_)|refine aX ?_|refine cP Q23 (hSm) ?_|refine cP [] (hAw) ?_|refine aA ?_|refine aS ?_|refine aK ?_|refine aI (hn := ?_)|refine aD ?_|refine aR ?_|refine aM ?_|refine sP 79 (fun h=>?_) (fun h=>?_)|refine sP 88 (fun h=>?_) (fun h=>?_)|refine sP 118 (fun h=>?_) (fun h=>?_)|refine qR ?_|refine qS ?_|exact ⟨rfl, rfl⟩|fail)
    exact rfl
end Go.Proofs.YtdpcccjkncagoaaGreatDoor
end
section
namespace Go.Proofs.YtdpcccjkncagoaaGreatDoor
open Go Go.Tum Go.Tum.Base Go.Deep
theorem op18_in {cs : List Value} (h : Fits [some .i64, some .i64, some .i64, some .i64, some .i64, some .i64, some .i64, some .u64, some .i64, some .i64] cs) : ∃ o : Op18, cs = o.cells ∧ o.In := by
  obtain ⟨a, _, rfl, wa, h⟩ := h.int
  obtain ⟨b, _, rfl, wb, h⟩ := h.int
  obtain ⟨c, _, rfl, wc, h⟩ := h.int
  obtain ⟨d, _, rfl, wd, h⟩ := h.int
  obtain ⟨e, _, rfl, we, h⟩ := h.int
  obtain ⟨f, _, rfl, wf, h⟩ := h.int
  obtain ⟨g, _, rfl, wg, h⟩ := h.int
  obtain ⟨x, _, rfl, wx, h⟩ := h.int
  obtain ⟨r, _, rfl, _, h⟩ := h.int
  obtain ⟨s, _, rfl, _, h⟩ := h.int
  obtain rfl := h.nil
  have := Go.bounds_i64 wb
  have := Go.bounds_i64 wc
  have := Go.bounds_i64 wd
  have := Go.bounds_i64 we
  have := Go.bounds_i64 wf
  have := Go.bounds_i64 wg
  have := Go.bounds_u64 wx
  refine ⟨⟨a, b, c, d, e, f, g, BitVec.ofNat 64 x.toNat, r, s⟩, ?_, ?_⟩
  · have : ((BitVec.ofNat 64 x.toNat).toNat : Int) = x := by rw [BitVec.toNat_ofNat, Nat.mod_eq_of_lt (by omega)]; omega
    simp only [Op18.cells, this]
  · simp only [Op18.In, inI]; omega
theorem op18_own {cs : List Value} (h : Fits [some .i64, some .i64, some .i64, some .i64, some .i64, some .i64, some .i64, some .u64, some .i64, some .i64, some .i64] cs) : ∃ x : Op18 × Int, cs = x.1.cells ++ [.int .i64 x.2] ∧ x.1.In := by
  obtain ⟨a, _, rfl, wa, h⟩ := h.int
  obtain ⟨b, _, rfl, wb, h⟩ := h.int
  obtain ⟨c, _, rfl, wc, h⟩ := h.int
  obtain ⟨d, _, rfl, wd, h⟩ := h.int
  obtain ⟨e, _, rfl, we, h⟩ := h.int
  obtain ⟨f, _, rfl, wf, h⟩ := h.int
  obtain ⟨g, _, rfl, wg, h⟩ := h.int
  obtain ⟨x, _, rfl, wx, h⟩ := h.int
  obtain ⟨r, _, rfl, _, h⟩ := h.int
  obtain ⟨s, _, rfl, _, h⟩ := h.int
  obtain ⟨y, _, rfl, _, h⟩ := h.int
  obtain rfl := h.nil
  have := Go.bounds_i64 wb
  have := Go.bounds_i64 wc
  have := Go.bounds_i64 wd
  have := Go.bounds_i64 we
  have := Go.bounds_i64 wf
  have := Go.bounds_i64 wg
  have := Go.bounds_u64 wx
  refine ⟨(⟨a, b, c, d, e, f, g, BitVec.ofNat 64 x.toNat, r, s⟩, y), ?_, ?_⟩
  · have : ((BitVec.ofNat 64 x.toNat).toNat : Int) = x := by rw [BitVec.toNat_ofNat, Nat.mod_eq_of_lt (by omega)]; omega
    simp only [Op18.cells, this]; rfl
  · simp only [Op18.In, inI]; omega
end Go.Proofs.YtdpcccjkncagoaaGreatDoor
end
section
namespace Go.Proofs.YtdpcccjkncagoaaGreatDoor
open Go Go.Tum Go.Tum.Base Go.Deep
theorem MarkPlays_does (w : World) (hw : DoorH (fun _ => False) w) (b : Int) (hb : 0 ≤ b ∧ b < 256) {v : Value} {n : Nat} {get : Nat → List Value} (hr : SlIn w 11 v n get)
    (hf : ∀ i, i < n → Fits [some .i64, some .i64, some .i64, some .i64, some .i64, some .i64, some .i64, some .u64, some .i64, some .i64, some .i64] (get i)) :
    Does Tryz.prog 11 #[.int .u8 b, v] w fun v w' => v = .bool true ∧ Fr (fun _ => False) w w' := by
  obtain ⟨op, hop⟩ := choose_lt (n := n) (p := fun i (x : Op18 × Int) => get i = x.1.cells ++ [.int .i64 x.2] ∧ x.1.In) fun i hi => op18_own (hf i hi)
  obtain ⟨hn, x, hr⟩ := hr
  obtain ⟨h1, h2⟩ := hr [x] 0 rfl
  exact (MarkPlays_tr b hb n hn get op hop).law (vs' := [.int .u8 b, v]) [x] w rfl (by intro y hy; cases List.mem_singleton.1 hy; exact ⟨rfl, h2⟩) ⟨rfl, h1, trivial⟩ (DoorH.tab hw)
end Go.Proofs.YtdpcccjkncagoaaGreatDoor
end
