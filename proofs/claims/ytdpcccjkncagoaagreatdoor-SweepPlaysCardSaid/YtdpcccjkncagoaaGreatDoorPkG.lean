/-
  What the proof leans on, part 7: of the texts LawS, LawT, LawV, LawM, LawQ, Lw18, Awake, Awake20, SweepPlays, LawIn, SweepPlaysD.
-/
import Derived.Test.YtdpcccjkncagoaaGreatDoorPkF
set_option linter.unusedVariables false
set_option linter.unusedSimpArgs false
set_option linter.unusedSectionVars false
section
namespace Go.Proofs.YtdpcccjkncagoaaGreatDoor
open Go Go.Tum Go.Tum.Base
set_option maxRecDepth 4000
abbrev StepT (m m' : HM) (gl gl' : List Gb) (o : Op18) (others : Bool) : Prop := TrK Tryz.prog [] PK 16 [ptr 0, .agg ⟨o.cells⟩, .bool others] (PL m gl) (fun v K => v = .bool true ∧ K = PL m' gl')
set_option maxHeartbeats 2000000 in
theorem step_alloc (m : HM) (gl : List Gb) (h : HI m gl) (wh at_ pg k to n : Int) (v : BitVec 64) (r s : Int) (kd : Int) (hk : kd = 0 ∨ kd = 1 ∨ kd = 2) (others : Bool) : StepT m (allocR m r s).2.2 gl gl ⟨kd, wh, at_, pg, k, to, n, v, r, s⟩ others := by
  have hAt := pAt_tr m m gl wh at_
  have hR := hRegion_tr m
  have hA := regArena_tr m.man m.mgd 1#64 m.bs m.rs m.G m.c
  have hO := ours_tr r s
  have hh := hAlloc_u m h.toHOk r s
  have hr := rAlloc_u m h.toHOk gl r s
  generalize (allocR m r s).2.2 = m' at *
  generalize (allocR m r s).1 = x at *
  generalize (allocR m r s).2.1 = y at *
  generalize atP m wh at_ = a at *
  rcases hk with rfl | rfl | rfl
  all_goals
    refine Tr.of row_tumbrellaw18_Pair_Step_ok rfl ?_
    repeat' (first | refine L_rs ?_ | refine dN ?_ | refine dR ?_ | refine d0 ?_ | refine L_block ?_ | refine rT ?_ | refine L_true rfl ?_ | refine L_false rfl ?_ | refine L_skip (Nx.goL ?_) | refine L_skip ?_ | refine L_exit (Nx.goL ?_) | refine L_exit ?_ | refine iF (fun h => ?_) (fun h => ?_) | refine aX ?_ | refine cP P23 (hAt) ?_ | (refine cF PH (hR) ?_; conv => whnf) | (refine cF [2, 3, 4, 5, 6, 7, 8, 9] (hA) ?_; conv => whnf) | refine cP [] (hO) ?_ | (refine cF PH (hh) ?_; conv => whnf) | (refine cW PR (hr) ?_; conv => whnf) | refine aA ?_ | refine aS ?_ | refine aK ?_ | refine aI (hn := ?_) | refine aD ?_ | refine aR ?_ | refine aM ?_ | refine sP 59 (fun h => ?_) (fun h => ?_) | refine sP 184 (fun h => ?_) (fun h => ?_) | refine L_reg ?_ | refine L_seq ?_ | exact ⟨rfl, rfl⟩ | fail)
    all_goals first | exact absurd rfl h | exact ⟨congrArg Value.bool (beq_self_eq_true _), rfl⟩
set_option maxHeartbeats 2000000 in
theorem step_free (m : HM) (gl : List Gb) (h : HI m gl) (wh at_ pg k to n : Int) (v : BitVec 64) (r s : Int) (ha : atP m wh at_ ≤ 9223372036854775807) (others : Bool) : StepT m (freeR m (atP m wh at_)) gl gl ⟨3, wh, at_, pg, k, to, n, v, r, s⟩ others := by
  have hAt := pAt_tr m m gl wh at_
  have hR := hRegion_tr m
  have hA := regArena_tr m.man m.mgd 1#64 m.bs m.rs m.G m.c
  generalize atP m wh at_ = a at *
  have hh := hFree_u m h.toHOk a ha
  have hr := rFree_u m h.toHOk gl a
  generalize freeR m a = m' at *
  generalize (if hasH m a then (0 : Int) else 6) = x at *
  refine Tr.of row_tumbrellaw18_Pair_Step_ok rfl ?_
  repeat' (first | refine L_rs ?_ | refine dN ?_ | refine dR ?_ | refine d0 ?_ | refine L_block ?_ | refine rT ?_ | refine L_true rfl ?_ | refine L_false rfl ?_ | refine L_skip (Nx.goL ?_) | refine L_skip ?_ | refine L_exit (Nx.goL ?_) | refine L_exit ?_ | refine iF (fun h => ?_) (fun h => ?_) | refine aX ?_ | refine cP P23 (hAt) ?_ | (refine cF PH (hR) ?_; conv => whnf) | (refine cF [2, 3, 4, 5, 6, 7, 8, 9] (hA) ?_; conv => whnf) | (refine cF PH (hh) ?_; conv => whnf) | (refine cW PR (hr) ?_; conv => whnf) | refine aA ?_ | refine aS ?_ | refine aK ?_ | refine aI (hn := ?_) | refine aD ?_ | refine aR ?_ | refine aM ?_ | refine sP 59 (fun h => ?_) (fun h => ?_) | refine sP 184 (fun h => ?_) (fun h => ?_) | refine L_reg ?_ | refine L_seq ?_ | exact ⟨rfl, rfl⟩ | fail)
  exact ⟨congrArg Value.bool (beq_self_eq_true _), rfl⟩
set_option maxHeartbeats 2000000 in
theorem step_mark (m : HM) (gl : List Gb) (h : HI m gl) (wh at_ pg k to n : Int) (v : BitVec 64) (r s : Int) (ha : atP m wh at_ ≤ 9223372036854775807) (others : Bool) : StepT m (markR m (atP m wh at_)) gl gl ⟨4, wh, at_, pg, k, to, n, v, r, s⟩ others := by
  have hAt := pAt_tr m m gl wh at_
  have hR := hRegion_tr m
  have hA := regArena_tr m.man m.mgd 1#64 m.bs m.rs m.G m.c
  generalize atP m wh at_ = a at *
  have hh := hMark_u m h.toHOk a ha
  have hr := rMark_u m h.toHOk gl a
  generalize markR m a = m' at *
  generalize markB m a = x at *
  refine Tr.of row_tumbrellaw18_Pair_Step_ok rfl ?_
  repeat' (first | refine L_rs ?_ | refine dN ?_ | refine dR ?_ | refine d0 ?_ | refine L_block ?_ | refine rT ?_ | refine L_true rfl ?_ | refine L_false rfl ?_ | refine L_skip (Nx.goL ?_) | refine L_skip ?_ | refine L_exit (Nx.goL ?_) | refine L_exit ?_ | refine iF (fun h => ?_) (fun h => ?_) | refine aX ?_ | refine cP P23 (hAt) ?_ | (refine cF PH (hR) ?_; conv => whnf) | (refine cF [2, 3, 4, 5, 6, 7, 8, 9] (hA) ?_; conv => whnf) | (refine cF PH (hh) ?_; conv => whnf) | (refine cW PR (hr) ?_; conv => whnf) | refine S_Q [] rfl rfl (QY.eqlB rfl (by kernel_rfl) rfl rfl) ?_ | refine aA ?_ | refine aS ?_ | refine aK ?_ | refine aI (hn := ?_) | refine aD ?_ | refine aR ?_ | refine aM ?_ | refine sP 59 (fun h => ?_) (fun h => ?_) | refine sP 184 (fun h => ?_) (fun h => ?_) | refine L_reg ?_ | refine L_seq ?_ | exact ⟨rfl, rfl⟩ | fail)
  exact ⟨congrArg Value.bool (beq_self_eq_true _), rfl⟩
set_option maxHeartbeats 2000000 in
theorem step_unmark (m : HM) (gl : List Gb) (h : HI m gl) (wh at_ pg k to n : Int) (v : BitVec 64) (r s : Int) (others : Bool) : StepT m (unmarkM m) gl gl ⟨5, wh, at_, pg, k, to, n, v, r, s⟩ others := by
  have hAt := pAt_tr m m gl wh at_
  have hR := hRegion_tr m
  have hA := regArena_tr m.man m.mgd 1#64 m.bs m.rs m.G m.c
  generalize atP m wh at_ = a at *
  have hh := hUnmark_u m h.toHOk
  have hr := rUnmark_tr m h.toHOk gl
  generalize unmarkM m = m' at *
  generalize markN (obs m) = x at *
  refine Tr.of row_tumbrellaw18_Pair_Step_ok rfl ?_
  repeat' (first | refine L_rs ?_ | refine dN ?_ | refine dR ?_ | refine d0 ?_ | refine L_block ?_ | refine rT ?_ | refine L_true rfl ?_ | refine L_false rfl ?_ | refine L_skip (Nx.goL ?_) | refine L_skip ?_ | refine L_exit (Nx.goL ?_) | refine L_exit ?_ | refine iF (fun h => ?_) (fun h => ?_) | refine aX ?_ | refine cP P23 (hAt) ?_ | (refine cF PH (hR) ?_; conv => whnf) | (refine cF [2, 3, 4, 5, 6, 7, 8, 9] (hA) ?_; conv => whnf) | (refine cW PH (hh) ?_; conv => whnf) | (refine cW PR (hr) ?_; conv => whnf) | refine aA ?_ | refine aS ?_ | refine aK ?_ | refine aI (hn := ?_) | refine aD ?_ | refine aR ?_ | refine aM ?_ | refine sP 59 (fun h => ?_) (fun h => ?_) | refine sP 184 (fun h => ?_) (fun h => ?_) | refine L_reg ?_ | refine L_seq ?_ | exact ⟨rfl, rfl⟩ | fail)
  exact ⟨congrArg Value.bool (beq_self_eq_true _), rfl⟩
set_option maxHeartbeats 2000000 in
theorem step_tidy (m : HM) (gl : List Gb) (h : HI m gl) (wh at_ pg k to n : Int) (v : BitVec 64) (r s : Int) (others : Bool) : StepT m (tidyR m pg) gl gl ⟨6, wh, at_, pg, k, to, n, v, r, s⟩ others := by
  have hAt := pAt_tr m m gl wh at_
  have hR := hRegion_tr m
  have hA := regArena_tr m.man m.mgd 1#64 m.bs m.rs m.G m.c
  generalize atP m wh at_ = a at *
  have hh := hTidy_u m h.toHOk pg
  have hr := rTidy_u m h.toHOk gl pg
  generalize tidyR m pg = m' at *
  generalize tidyE m pg = x at *
  refine Tr.of row_tumbrellaw18_Pair_Step_ok rfl ?_
  repeat' (first | refine L_rs ?_ | refine dN ?_ | refine dR ?_ | refine d0 ?_ | refine L_block ?_ | refine rT ?_ | refine L_true rfl ?_ | refine L_false rfl ?_ | refine L_skip (Nx.goL ?_) | refine L_skip ?_ | refine L_exit (Nx.goL ?_) | refine L_exit ?_ | refine iF (fun h => ?_) (fun h => ?_) | refine aX ?_ | refine cP P23 (hAt) ?_ | (refine cF PH (hR) ?_; conv => whnf) | (refine cF [2, 3, 4, 5, 6, 7, 8, 9] (hA) ?_; conv => whnf) | (refine cF PH (hh) ?_; conv => whnf) | (refine cW PR (hr) ?_; conv => whnf) | refine aA ?_ | refine aS ?_ | refine aK ?_ | refine aI (hn := ?_) | refine aD ?_ | refine aR ?_ | refine aM ?_ | refine sP 59 (fun h => ?_) (fun h => ?_) | refine sP 184 (fun h => ?_) (fun h => ?_) | refine L_reg ?_ | refine L_seq ?_ | exact ⟨rfl, rfl⟩ | fail)
  exact ⟨congrArg Value.bool (beq_self_eq_true _), rfl⟩
set_option maxHeartbeats 2000000 in
theorem step_room (m : HM) (gl : List Gb) (h : HI m gl) (kd wh at_ pg k to n : Int) (v : BitVec 64) (r s : Int) (hk : (∃ j, kd = .negSucc j) ∨ ∃ j, kd = .ofNat (j + 11)) (others : Bool) : StepT m m gl gl ⟨kd, wh, at_, pg, k, to, n, v, r, s⟩ others := by
  have hAt := pAt_tr m m gl wh at_
  have hR := hRegion_tr m
  have hA := regArena_tr m.man m.mgd 1#64 m.bs m.rs m.G m.c
  generalize atP m wh at_ = a at *
  have hO := ours_tr r s
  have hh := hRoom_tr m h.toHOk r s
  have hr := rRoom_tr m h.toHOk gl r s
  generalize roomH m r s = x at *
  rcases hk with ⟨j, rfl⟩ | ⟨j, rfl⟩
  all_goals
    refine Tr.of row_tumbrellaw18_Pair_Step_ok rfl ?_
    repeat' (first | refine L_rs ?_ | refine dN ?_ | refine dR ?_ | refine d0 ?_ | refine L_block ?_ | refine rT ?_ | refine L_true rfl ?_ | refine L_false rfl ?_ | refine L_skip (Nx.goL ?_) | refine L_skip ?_ | refine L_exit (Nx.goL ?_) | refine L_exit ?_ | refine iF (fun h => ?_) (fun h => ?_) | refine aX ?_ | refine cP P23 (hAt) ?_ | (refine cF PH (hR) ?_; conv => whnf) | (refine cF [2, 3, 4, 5, 6, 7, 8, 9] (hA) ?_; conv => whnf) | refine cP [] (hO) ?_ | refine cP PH (hh) ?_ | refine cP PR (hr) ?_ | refine S_Q [] rfl rfl (QY.eqlB rfl (by kernel_rfl) rfl rfl) ?_ | refine aA ?_ | refine aS ?_ | refine aK ?_ | refine aI (hn := ?_) | refine aD ?_ | refine aR ?_ | refine aM ?_ | refine sP 59 (fun h => ?_) (fun h => ?_) | refine sP 184 (fun h => ?_) (fun h => ?_) | refine L_reg ?_ | refine L_seq ?_ | exact ⟨rfl, rfl⟩ | fail)
    exact ⟨congrArg Value.bool (beq_self_eq_true _), rfl⟩
end Go.Proofs.YtdpcccjkncagoaaGreatDoor
end
section
namespace Go.Tum.Base
open Go Go.Tum
theorem atP_in {m : HM} (hm : HOk m) (w : Int) {a : Int} (ha : inI a) : inI (atP m w a) := by
  unfold atP
  split
  · rename_i h
    obtain ⟨k, rfl⟩ := Int.eq_ofNat_of_zero_le h.1
    have hk : k < (obs m).length := by omega
    rw [Int.toNat_natCast, List.getD_eq_getElem?_getD, List.getElem?_eq_getElem hk]
    obtain ⟨i, h1, h2, h3⟩ := obs_mem.1 (List.getElem_mem hk)
    have h4 : ((obs m)[k]).1 = ((16 * i : Nat) : Int) := by rw [h3]
    have hn := hm.n1
    show inI ((obs m)[k]).1
    rw [h4]
    unfold inI
    omega
  · exact ha
theorem greatR_keep (m : HM) (gl : List Gb) (n : Int) : (greatR m gl n).2.2.1 = { m with bs := (greatR m gl n).2.2.1.bs, rs := (greatR m gl n).2.2.1.rs, G := (greatR m gl n).2.2.1.G, c := (greatR m gl n).2.2.1.c } := by
  unfold greatR
  split
  · split <;> rfl
  · rfl
end Go.Tum.Base
namespace Go.Proofs.YtdpcccjkncagoaaGreatDoor
open Go Go.Tum Go.Tum.Base
set_option maxRecDepth 4000
abbrev StepU (m m' : HM) (gl gl' : List Gb) (o : Op18) (others : Bool) : Prop := TrK Tryz.prog [] PK 16 [ptr 0, .agg ⟨o.cells⟩, .bool others] (PL m gl) (fun v K => v = .bool true ∧ K = PL m' gl')
set_option maxHeartbeats 2000000 in
theorem step_great (m : HM) (gl : List Gb) (h : HI m gl) (wh at_ pg k to n : Int) (v : BitVec 64) (r s : Int) (others : Bool) : StepU m (greatR m gl n).2.2.1 gl (greatR m gl n).2.2.2 ⟨9, wh, at_, pg, k, to, n, v, r, s⟩ others := by
  have hAt := pAt_tr m m gl wh at_
  have hR := hRegion_tr m
  have hA := regArena_tr m.man m.mgd 1#64 m.bs m.rs m.G m.c
  generalize atP m wh at_ = a at *
  have hh := regGreat_u m gl h n
  have hr := rGreat_u m gl h n
  rw [greatR_keep]
  generalize (greatR m gl n).2.2.1.bs = bs' at *
  generalize (greatR m gl n).2.2.1.rs = rs' at *
  generalize (greatR m gl n).2.2.1.G = G' at *
  generalize (greatR m gl n).2.2.1.c = c' at *
  generalize (greatR m gl n).2.2.2 = gl' at *
  generalize (greatR m gl n).1 = x at *
  generalize (greatR m gl n).2.1 = y at *
  refine Tr.of row_tumbrellaw18_Pair_Step_ok rfl ?_
  repeat' (first | refine L_rs ?_ | refine dN ?_ | refine dR ?_ | refine d0 ?_ | refine L_block ?_ | refine rT ?_ | refine L_true rfl ?_ | refine L_false rfl ?_ | refine L_skip (Nx.goL ?_) | refine L_skip ?_ | refine L_exit (Nx.goL ?_) | refine L_exit ?_ | refine iF (fun h => ?_) (fun h => ?_) | refine aX ?_ | refine cP P23 (hAt) ?_ | (refine cF PH (hR) ?_; conv => whnf) | (refine cF [2, 3, 4, 5, 6, 7, 8, 9] (hA) ?_; conv => whnf) | (refine cF [2, 3, 4, 5, 6, 7, 8, 9] (hh) ?_; conv => whnf) | (refine cW [15, 17, 18, 19, 20, 21, 22] (hr) ?_; conv => whnf) | refine aA ?_ | refine aS ?_ | refine aK ?_ | refine aI (hn := ?_) | refine aD ?_ | refine aR ?_ | refine aM ?_ | refine sP 59 (fun h => ?_) (fun h => ?_) | refine sP 184 (fun h => ?_) (fun h => ?_) | refine L_reg ?_ | refine L_seq ?_ | exact ⟨rfl, rfl⟩ | fail)
  all_goals first | exact absurd rfl h | exact ⟨congrArg Value.bool (beq_self_eq_true _), rfl⟩
end Go.Proofs.YtdpcccjkncagoaaGreatDoor
end
section
namespace Go.Proofs.YtdpcccjkncagoaaGreatDoor
open Go Go.Tum Go.Tum.Base
set_option maxRecDepth 4000
abbrev StepV (m m' : HM) (gl gl' : List Gb) (o : Op18) (others : Bool) : Prop := TrK Tryz.prog [] PK 16 [ptr 0, .agg ⟨o.cells⟩, .bool others] (PL m gl) (fun v K => v = .bool true ∧ K = PL m' gl')
set_option maxHeartbeats 2000000 in
theorem step_word (m : HM) (gl : List Gb) (h : HI m gl) (wh at_ pg k to n : Int) (v : BitVec 64) (r s : Int) (others : Bool) : StepV m (if others then wordR m at_ v else m) gl gl ⟨10, wh, at_, pg, k, to, n, v, r, s⟩ others := by
  have hAt := pAt_tr m m gl wh at_
  have hR := hRegion_tr m
  have hA := regArena_tr m.man m.mgd 1#64 m.bs m.rs m.G m.c
  generalize atP m wh at_ = a at *
  obtain ⟨hb0, hb1⟩ := h.b0
  cases others
  · refine Tr.of row_tumbrellaw18_Pair_Step_ok rfl ?_
    repeat' (first | refine L_rs ?_ | refine dN ?_ | refine dR ?_ | refine d0 ?_ | refine L_block ?_ | refine rT ?_ | refine L_true rfl ?_ | refine L_false rfl ?_ | refine L_skip (Nx.goL ?_) | refine L_skip ?_ | refine L_exit (Nx.goL ?_) | refine L_exit ?_ | refine iF (fun h => ?_) (fun h => ?_) | refine aX ?_ | refine cP P23 (hAt) ?_ | (refine cF PH (hR) ?_; conv => whnf) | (refine cF [2, 3, 4, 5, 6, 7, 8, 9] (hA) ?_; conv => whnf) | refine aA ?_ | refine aS ?_ | refine aK ?_ | refine aI (hn := ?_) | refine aD ?_ | refine aR ?_ | refine aM ?_ | refine sP 59 (fun h => ?_) (fun h => ?_) | refine sP 184 (fun h => ?_) (fun h => ?_) | refine L_reg ?_ | refine L_seq ?_ | exact ⟨rfl, rfl⟩ | fail)
  · rw [if_pos rfl]
    by_cases he : errW m.bs.length at_ = 0
    · obtain ⟨i, rfl, h1, h2⟩ := errW_nat he
      rw [show wordR m i v = wrM m (overB m.bs i (putB v 8)) by unfold wordR; rw [if_pos he, Int.toNat_natCast]]
      have hW := arenaSetWord_ok m.bs hb1 i h1 h2 v
      have hl : (overB m.bs i (putB v 8)).length = m.bs.length := overB_length (by rw [putB_length]; exact h1)
      generalize overB m.bs i (putB v 8) = bs' at *
      have hB := pBytes_tr (wrM m bs') m (by show 1 ≤ bs'.length; omega) (by show bs'.length ≤ _; omega) hl.symm gl
      refine Tr.of row_tumbrellaw18_Pair_Step_ok rfl ?_
      repeat' (first | refine L_rs ?_ | refine dN ?_ | refine dR ?_ | refine d0 ?_ | refine L_block ?_ | refine rT ?_ | refine L_true rfl ?_ | refine L_false rfl ?_ | refine L_skip (Nx.goL ?_) | refine L_skip ?_ | refine L_exit (Nx.goL ?_) | refine L_exit ?_ | refine iF (fun h => ?_) (fun h => ?_) | refine aX ?_ | refine cP P23 (hAt) ?_ | (refine cF PH (hR) ?_; conv => whnf) | (refine cF [2, 3, 4, 5, 6, 7, 8, 9] (hA) ?_; conv => whnf) | (refine cF [3, 4] (hW) ?_; conv => whnf) | (refine cW P23 (hB) ?_; conv => whnf) | refine aA ?_ | refine aS ?_ | refine aK ?_ | refine aI (hn := ?_) | refine aD ?_ | refine aR ?_ | refine aM ?_ | refine sP 59 (fun h => ?_) (fun h => ?_) | refine sP 184 (fun h => ?_) (fun h => ?_) | refine L_reg ?_ | refine L_seq ?_ | exact ⟨rfl, rfl⟩ | fail)
    · rw [show wordR m at_ v = m by unfold wordR; rw [if_neg he]]
      have hW := arenaSetWord_no m.bs hb1 at_ v he
      have hB := pBytes_tr m m hb0 hb1 rfl gl
      refine Tr.of row_tumbrellaw18_Pair_Step_ok rfl ?_
      repeat' (first | refine L_rs ?_ | refine dN ?_ | refine dR ?_ | refine d0 ?_ | refine L_block ?_ | refine rT ?_ | refine L_true rfl ?_ | refine L_false rfl ?_ | refine L_skip (Nx.goL ?_) | refine L_skip ?_ | refine L_exit (Nx.goL ?_) | refine L_exit ?_ | refine iF (fun h => ?_) (fun h => ?_) | refine aX ?_ | refine cP P23 (hAt) ?_ | (refine cF PH (hR) ?_; conv => whnf) | (refine cF [2, 3, 4, 5, 6, 7, 8, 9] (hA) ?_; conv => whnf) | refine cP [3, 4] (hW) ?_ | (refine cW P23 (hB) ?_; conv => whnf) | refine aA ?_ | refine aS ?_ | refine aK ?_ | refine aI (hn := ?_) | refine aD ?_ | refine aR ?_ | refine aM ?_ | refine sP 59 (fun h => ?_) (fun h => ?_) | refine sP 184 (fun h => ?_) (fun h => ?_) | refine L_reg ?_ | refine L_seq ?_ | exact ⟨rfl, rfl⟩ | fail)
set_option maxHeartbeats 4000000 in
theorem step_set (m : HM) (gl : List Gb) (h : HI m gl) (kd wh at_ pg k to n : Int) (hk : kd = 7 ∨ kd = 8) (v : BitVec 64) (r s : Int) (others : Bool) : StepV m (setR m ⟨kd, wh, at_, pg, k, to, n, v, r, s⟩) gl gl ⟨kd, wh, at_, pg, k, to, n, v, r, s⟩ others := by
  have hAt := pAt_tr m m gl wh at_
  have hR := hRegion_tr m
  have hA := regArena_tr m.man m.mgd 1#64 m.bs m.rs m.G m.c
  have hI := rIndex_tr m.man (m.man + m.mgd) m.bs m.rs (obs m) gl (obs_len h.toHOk) (atP m wh at_)
  have hto := atP_in h.toHOk to (a := -1) (by unfold inI; omega)
  have hAt2 := pAt_tr m m gl to (-1)
  obtain ⟨hb0, hb1⟩ := h.b0
  have hnb := h.nb
  unfold setR
  simp only
  generalize atP m wh at_ = a at *
  generalize atP m to (-1) = b at *
  cases hh : hasH m a
  · rw [idx_no hh] at hI
    rw [if_neg (by decide)]
    rcases hk with rfl | rfl
    all_goals
      refine Tr.of row_tumbrellaw18_Pair_Step_ok rfl ?_
      repeat' (first | refine L_rs ?_ | refine dN ?_ | refine dR ?_ | refine d0 ?_ | refine L_block ?_ | refine rT ?_ | refine L_true rfl ?_ | refine L_false rfl ?_ | refine L_skip (Nx.goL ?_) | refine L_skip ?_ | refine L_exit (Nx.goL ?_) | refine L_exit ?_ | refine iF (fun h => ?_) (fun h => ?_) | refine aX ?_ | refine cP P23 (hAt) ?_ | (refine cF PH (hR) ?_; conv => whnf) | (refine cF [2, 3, 4, 5, 6, 7, 8, 9] (hA) ?_; conv => whnf) | refine cP PR (hI) ?_ | refine aA ?_ | refine aS ?_ | refine aK ?_ | refine aI (hn := ?_) | refine aD ?_ | refine aR ?_ | refine aM ?_ | refine sP 59 (fun h => ?_) (fun h => ?_) | refine sP 184 (fun h => ?_) (fun h => ?_) | refine L_reg ?_ | refine L_seq ?_ | exact ⟨rfl, rfl⟩ | fail)
  · obtain ⟨i, rfl, h1, h2⟩ := hasH_nat hh
    obtain ⟨j, h3, h4, _⟩ := idx_at h1 h2
    rw [h3] at hI
    rw [if_pos rfl, Int.toNat_natCast]
    rcases hk with rfl | rfl
    · rw [if_pos rfl]
      have hS := objSetRef_tr m.bs hb1 (16 * i) (by omega) (by omega) k b hto
      have hl : (setRefB m.bs (16 * i) k b).length = m.bs.length := setRefB_length
      generalize setRefB m.bs (16 * i) k b = bs' at *
      have hB := pBytes_tr (wrM m bs') m (by show 1 ≤ bs'.length; omega) (by show bs'.length ≤ _; omega) hl.symm gl
      refine Tr.of row_tumbrellaw18_Pair_Step_ok rfl ?_
      repeat' (first | refine L_rs ?_ | refine dN ?_ | refine dR ?_ | refine d0 ?_ | refine L_block ?_ | refine rT ?_ | refine L_true rfl ?_ | refine L_false rfl ?_ | refine L_skip (Nx.goL ?_) | refine L_skip ?_ | refine L_exit (Nx.goL ?_) | refine L_exit ?_ | refine iF (fun h => ?_) (fun h => ?_) | refine aX ?_ | refine cP P23 (hAt) ?_ | (refine cF PH (hR) ?_; conv => whnf) | (refine cF [2, 3, 4, 5, 6, 7, 8, 9] (hA) ?_; conv => whnf) | refine cP PR (hI) ?_ | refine cP P23 (hAt2) ?_ | (refine cF [3, 4] (hS) ?_; conv => whnf) | (refine cW P23 (hB) ?_; conv => whnf) | refine aA ?_ | refine aS ?_ | refine aK ?_ | refine aI (hn := ?_) | refine aD ?_ | refine aR ?_ | refine aM ?_ | refine sP 59 (fun h => ?_) (fun h => ?_) | refine sP 184 (fun h => ?_) (fun h => ?_) | refine L_reg ?_ | refine L_seq ?_ | exact ⟨rfl, rfl⟩ | fail)
      all_goals (exfalso; omega)
    · rw [if_neg (by decide)]
      have hS := objSetNum_tr m.bs hb1 (16 * i) (by omega) (by omega) k v
      have hl : (setNumB m.bs (16 * i) k v).length = m.bs.length := setNumB_length
      generalize setNumB m.bs (16 * i) k v = bs' at *
      have hB := pBytes_tr (wrM m bs') m (by show 1 ≤ bs'.length; omega) (by show bs'.length ≤ _; omega) hl.symm gl
      refine Tr.of row_tumbrellaw18_Pair_Step_ok rfl ?_
      repeat' (first | refine L_rs ?_ | refine dN ?_ | refine dR ?_ | refine d0 ?_ | refine L_block ?_ | refine rT ?_ | refine L_true rfl ?_ | refine L_false rfl ?_ | refine L_skip (Nx.goL ?_) | refine L_skip ?_ | refine L_exit (Nx.goL ?_) | refine L_exit ?_ | refine iF (fun h => ?_) (fun h => ?_) | refine aX ?_ | refine cP P23 (hAt) ?_ | (refine cF PH (hR) ?_; conv => whnf) | (refine cF [2, 3, 4, 5, 6, 7, 8, 9] (hA) ?_; conv => whnf) | refine cP PR (hI) ?_ | (refine cF [3, 4] (hS) ?_; conv => whnf) | (refine cW P23 (hB) ?_; conv => whnf) | refine aA ?_ | refine aS ?_ | refine aK ?_ | refine aI (hn := ?_) | refine aD ?_ | refine aR ?_ | refine aM ?_ | refine sP 59 (fun h => ?_) (fun h => ?_) | refine sP 184 (fun h => ?_) (fun h => ?_) | refine L_reg ?_ | refine L_seq ?_ | exact ⟨rfl, rfl⟩ | fail)
      all_goals (exfalso; omega)
end Go.Proofs.YtdpcccjkncagoaaGreatDoor
end
section
namespace Go.Tum.Base
open Go Go.Tum
def initM (man mgd : Nat) : HM := ⟨man, mgd, List.replicate (256 * (man + mgd)) 0, List.replicate (man + mgd) PRow.Z, [], 0, List.replicate ((16 * (man + mgd) + 63) / 64) 0, List.replicate ((16 * (man + mgd) + 63) / 64) 0⟩
theorem pAt_init (n : Nat) (a : Int) : pAt (List.replicate n PRow.Z) a = PRow.Z := by
  unfold pAt
  split
  · rfl
  · rw [List.getD_eq_getElem?_getD, List.getElem?_replicate]; split <;> rfl
theorem HI.init {man mgd : Nat} (h1 : 1 ≤ man) (h : man + mgd ≤ 256) : HI (initM man mgd) [] where
  n1 := h
  nb := List.length_replicate
  nr := List.length_replicate
  lh := List.length_replicate
  lm := List.length_replicate
  row p hp := by change (pAt (List.replicate _ PRow.Z) p).kind = 4 at hp; rw [pAt_init] at hp; exact absurd hp (by decide)
  obj i _ hb := by change bitAt (List.replicate _ 0) i = true at hb; rw [bitAt_zero] at hb; cases hb
  mrk i _ hb := by change bitAt (List.replicate _ 0) i = true at hb; rw [bitAt_zero] at hb; cases hb
  mhi _ _ := bitAt_zero _ _
  gi := ⟨GOk.nil, fun _ hx => absurd hx List.not_mem_nil, fun _ hx => absurd hx List.not_mem_nil, List.Pairwise.nil⟩
  m1 := h1
theorem objN_init (man mgd : Nat) : objN (initM man mgd) = [] := by
  unfold objN allF
  rw [List.filter_eq_nil_iff]
  intro x _
  show ¬ bitAt (List.replicate _ 0) x = true
  rw [bitAt_zero]; decide
theorem obs_init (man mgd : Nat) : obs (initM man mgd) = [] := by unfold obs; rw [objN_init]; rfl
end Go.Tum.Base
namespace Go.Proofs.YtdpcccjkncagoaaGreatDoor
open Go Go.Tum Go.Tum.Base
set_option maxRecDepth 4000
set_option maxHeartbeats 2000000 in
theorem make18_tr (man mgd : Nat) (h1 : 1 ≤ man) (h : man + mgd ≤ 256) : Tr Tryz.prog 15 [.int .i64 man, .int .i64 mgd] [] (fun v K => v = ptr 0 ∧ K = PL (initM man mgd) []) := by
  have hR := regNew_tr man mgd 1#64 h (by omega)
  have hN := hNew_tr man mgd h (List.replicate (256 * (man + mgd)) 0) List.length_replicate (List.replicate (man + mgd) PRow.Z) [] 0
  have hG := rNew9_tr man mgd h (by omega)
  refine Tr.of row_tumbrellaw18_Make_ok rfl ?_
  repeat' (first | refine L_rs ?_ | refine dN ?_ | refine d0 ?_ | refine L_block ?_ | refine L_true rfl ?_ | refine L_false rfl ?_ | refine L_skip (Nx.goL ?_) | refine L_skip ?_ | refine L_exit (Nx.goL ?_) | refine L_exit ?_ | refine iF (fun h => ?_) (fun h => ?_) | refine aX ?_ | (refine cF [] (hR) ?_; conv => whnf) | (refine cF [0, 1, 2, 3, 4, 5, 6, 7] (hN) ?_; conv => whnf) | (refine cF [] (hG) ?_; conv => whnf) | refine aA ?_ | refine aS ?_ | refine aK ?_ | refine aI (hn := ?_) | refine aD ?_ | refine aR ?_ | refine aM ?_ | refine sP 16 (fun h => ?_) (fun h => ?_) | refine L_reg ?_ | refine L_seq ?_ | exact ⟨rfl, rfl⟩ | fail)
  refine LWp.nilG (b := 20) (o := 1) 2 rfl rfl (L_ret (RetQ.pick [21, 8, 0, 1, 2, 3, 4, 5, 6, 7, 9, 10, 11, 12, 20, 13, 22, 14, 15, 16, 17, 18, 19] rfl rfl rfl rfl ⟨rfl, ?_⟩))
  show _ = PLg (initM man mgd) (initM man mgd) []
  unfold PLg
  rw [obs_init]
  simp only [initM, List.length_replicate]
  rfl
end Go.Proofs.YtdpcccjkncagoaaGreatDoor
end
section
namespace Go.Proofs.YtdpcccjkncagoaaGreatDoor
open Go Go.Tum Go.Tum.Base
set_option maxRecDepth 4000
theorem step_tr (m : HM) (gl : List Gb) (h : HI m gl) (o : Op18) (ho : o.In) (others : Bool) : TrK Tryz.prog [] PK 16 [ptr 0, .agg ⟨o.cells⟩, .bool others] (PL m gl) (fun v K => v = .bool true ∧ K = PL (stepM m gl o others).1 (stepM m gl o others).2) := by
  have ha := atP_in h.toHOk o.which ho.1
  obtain ⟨kd, wh, at_, pg, k, to, n, v, r, s⟩ := o
  have hb := ha.2
  simp only at hb
  clear ha
  unfold stepM
  simp only
  by_cases h0 : kd = 0 ∨ kd = 1 ∨ kd = 2
  · rw [if_pos h0]; exact step_alloc m gl h wh at_ pg k to n v r s kd h0 others
  rw [if_neg h0]
  by_cases h3 : kd = 3
  · rw [if_pos h3]; subst h3; exact step_free m gl h wh at_ pg k to n v r s hb others
  rw [if_neg h3]
  by_cases h4 : kd = 4
  · rw [if_pos h4]; subst h4; exact step_mark m gl h wh at_ pg k to n v r s hb others
  rw [if_neg h4]
  by_cases h5 : kd = 5
  · rw [if_pos h5]; subst h5; exact step_unmark m gl h wh at_ pg k to n v r s others
  rw [if_neg h5]
  by_cases h6 : kd = 6
  · rw [if_pos h6]; subst h6; exact step_tidy m gl h wh at_ pg k to n v r s others
  rw [if_neg h6]
  by_cases h7 : kd = 7 ∨ kd = 8
  · rw [if_pos h7]; exact step_set m gl h kd wh at_ pg k to n h7 v r s others
  rw [if_neg h7]
  by_cases h9 : kd = 9
  · rw [if_pos h9]; subst h9; exact step_great m gl h wh at_ pg k to n v r s others
  rw [if_neg h9]
  by_cases h10 : kd = 10
  · rw [if_pos h10]; subst h10; exact step_word m gl h wh at_ pg k to n v r s others
  rw [if_neg h10]
  refine step_room m gl h kd wh at_ pg k to n v r s ?_ others
  cases kd with
  | negSucc j => exact .inl ⟨j, rfl⟩
  | ofNat j => exact .inr ⟨j - 11, congrArg Int.ofNat (by have h0 : ¬ ((j : Int) = 0 ∨ (j : Int) = 1 ∨ (j : Int) = 2) := h0; have h3 : ¬ (j : Int) = 3 := h3; have h4 : ¬ (j : Int) = 4 := h4; have h5 : ¬ (j : Int) = 5 := h5; have h6 : ¬ (j : Int) = 6 := h6; have h7 : ¬ ((j : Int) = 7 ∨ (j : Int) = 8) := h7; have h9 : ¬ (j : Int) = 9 := h9; have h10 : ¬ (j : Int) = 10 := h10; omega)⟩
def PL1 (m : HM) (gl : List Gb) : LH :=
  [.dead, .cells 0 [ptr 2, ptr 15],
   .cells 0 [ptr 3, .int .i64 m.man, .int .i64 (m.man + m.mgd : Nat), ptr 11, ptr 13],
   .cells 0 [.int .i64 m.man, .int .i64 m.mgd, .int .u64 ((1#64).toNat : Int), ptr 4, ptr 6, .int .u64 ((keyW 1#64).toNat : Int), .map (some 8), ptr 9],
   .cells 0 [slB 5 m.bs.length], BL m.bs, .cells 0 [slB 7 m.rs.length], .gro 4 (rowsC PRow.cells m.rs), .imap [] 0,
   .cells 0 [ptr 4, .int .u64 ((keyW 1#64).toNat : Int), .map (some 10)], .imap m.G m.c,
   .cells 0 [slB 12 m.hw.length, .int .i64 (16 * (m.man + m.mgd) : Nat)], .gro 1 (rowsC wordC m.hw),
   .cells 0 [slB 14 m.mw.length, .int .i64 (16 * (m.man + m.mgd) : Nat)], .gro 1 (rowsC wordC m.mw),
   .cells 0 [ptr 16, slB 17 (obs m).length], .cells 0 [.int .i64 m.man, .int .u64 ((keyW 1#64).toNat : Int), slB 18 m.bs.length, slB 19 m.rs.length, slB 20 (m.man + m.mgd), ptr 21],
   .gro 2 (rowsC obC (obs m)), BL m.bs, TB m.rs, .dead, .cells 0 [slB 23 m.bs.length, .int .u64 ((keyW 1#64).toNat : Int), slB 22 gl.length], .gro 2 (rowsC gbC gl), .dead]
abbrev Q23 : List Nat := [1, 2, 3, 4, 5, 6, 7, 8, 9, 10, 11, 12, 13, 14, 15, 16, 17, 18, 19, 20, 21, 22, 23]
abbrev QH : List Nat := [2, 3, 4, 5, 6, 7, 8, 9, 10, 11, 12, 13, 14]
abbrev QR : List Nat := [15, 16, 17, 18, 19, 20, 21, 22, 23]
end Go.Proofs.YtdpcccjkncagoaaGreatDoor
end
section
namespace Go.Tum
open Go
theorem Tr.closedT {P : Program} {f : FuncId} {vs : List Value} {v : Value} (hc : callable P f = true) (hvs : vs.all stillS = true) (hs : stillT v = true) (h : ∀ w, TabOk P (fun _ => False) w → Does P f vs.toArray w fun v' w' => v' = v ∧ Fr (fun _ => False) w w') : Tr P f vs [] (fun u K => u = v ∧ K = []) := by
  intro X w0 w E vs' hA hR hv
  obtain rfl := L2.vr_still hvs hv
  refine ⟨hc, (h w fun g hg => ?_).mono ?_⟩
  · obtain ⟨h1, h2, h3⟩ := hA.2.2 g hg
    exact ⟨fun i x hx => by rw [hR.fr.cell h3 h2]; exact h1 i x hx, fun e => e, Nat.lt_of_lt_of_le h3 hR.fr.size⟩
  · rintro _ w' ⟨rfl, hf⟩
    exact ⟨E, _, [], NA.Ext.refl _ E, Nat.le_refl _, VR.selfT hs, hR.keep hf, rfl, rfl⟩
end Go.Tum
end
section
namespace Go.Proofs.YtdpcccjkncagoaaGreatDoor
open Go Go.Tum
theorem DoorH.of {w : World} (h : TabOk Tryz.prog (fun _ => False) w) : DoorH (fun _ => False) w := by
  obtain ⟨h1, h2, h3⟩ := h 0 (by kernel_rfl)
  exact ⟨h1, h2, h3⟩
theorem DoorH.tab {w : World} (h : DoorH (fun _ => False) w) : TabOk Tryz.prog (fun _ => False) w := fun g hg => by
  obtain rfl : g = 0 := Option.some.inj (hg.symm.trans (by kernel_rfl))
  exact ⟨h.1, h.2.1, h.2.2⟩
end Go.Proofs.YtdpcccjkncagoaaGreatDoor
end
section
namespace Go.Proofs.YtdpcccjkncagoaaGreatDoor
open Go Go.Tum
def rowsS : List FnRow := [row_tumbrellaw20_awake, row_region_New, row_gheap_New, row_gheap_Heap_Alloc, row_gheap_Heap_Mark, row_sweep_New, row_sweep_Sweeper_Step, row_sweep_Sweeper_Gone, row_gheap_Heap_Has, row_gheap_Heap_Marked, row_arena_New, row_link_New, row_pages_New, row_large_New, row_region_Region_Config, row_region_Region_Arena, row_arena_Arena_Len, row_bitset_New, row_object_Shape_Class, row_gheap_Heap_place, row_region_Region_Pages, row_pages_Table_Map, row_class_Base, row_object_Make, row_bitset_Set_Put, row_gheap_Heap_Pages, row_sweep_Sweeper_Left, row_sweep_Sweeper_page, row_gheap_Heap_Unmark, row_bitset_Set_Has, row_link_mix, row_object_Shape_Bytes, row_class_Size, row_gheap_Heap_managed, row_gheap_Heap_row, row_gheap_Heap_slot, row_pages_Row_first, row_pages_Table_cut, row_pages_Table_place, row_class_Slots, row_arena_Arena_Word, row_arena_Arena_Fill, row_object_Shape_word, row_arena_Arena_SetWord, row_bitset_Set_in, row_gheap_Heap_In, row_gheap_Heap_Free, row_gheap_Heap_Tidy, row_bitset_Set_Count, row_bitset_Set_Len, row_object_Shape_may, row_class_may, row_pages_Table_Row, row_pages_Table_Len, row_pages_Row_free, row_arena_Arena_word, row_num_Get, row_arena_Arena_in, row_num_Put, row_gheap_Heap_All, row_pages_Table_Unmap, row_math_bits_OnesCount64, row_gheap_places, row_bitset_Set_All, row_bitset_Set_Next, row_bitset_bit]
theorem rowsS_ok : ∀ x ∈ rowsS, x.Ok Tryz.prog := by
  refine List.forall_mem_cons.2 ⟨row_tumbrellaw20_awake_ok, ?_⟩
  refine List.forall_mem_cons.2 ⟨row_region_New_ok, ?_⟩
  refine List.forall_mem_cons.2 ⟨row_gheap_New_ok, ?_⟩
  refine List.forall_mem_cons.2 ⟨row_gheap_Heap_Alloc_ok, ?_⟩
  refine List.forall_mem_cons.2 ⟨row_gheap_Heap_Mark_ok, ?_⟩
  refine List.forall_mem_cons.2 ⟨row_sweep_New_ok, ?_⟩
  refine List.forall_mem_cons.2 ⟨row_sweep_Sweeper_Step_ok, ?_⟩
  refine List.forall_mem_cons.2 ⟨row_sweep_Sweeper_Gone_ok, ?_⟩
  refine List.forall_mem_cons.2 ⟨row_gheap_Heap_Has_ok, ?_⟩
  refine List.forall_mem_cons.2 ⟨row_gheap_Heap_Marked_ok, ?_⟩
  refine List.forall_mem_cons.2 ⟨row_arena_New_ok, ?_⟩
  refine List.forall_mem_cons.2 ⟨row_link_New_ok, ?_⟩
  refine List.forall_mem_cons.2 ⟨row_pages_New_ok, ?_⟩
  refine List.forall_mem_cons.2 ⟨row_large_New_ok, ?_⟩
  refine List.forall_mem_cons.2 ⟨row_region_Region_Config_ok, ?_⟩
  refine List.forall_mem_cons.2 ⟨row_region_Region_Arena_ok, ?_⟩
  refine List.forall_mem_cons.2 ⟨row_arena_Arena_Len_ok, ?_⟩
  refine List.forall_mem_cons.2 ⟨row_bitset_New_ok, ?_⟩
  refine List.forall_mem_cons.2 ⟨row_object_Shape_Class_ok, ?_⟩
  refine List.forall_mem_cons.2 ⟨row_gheap_Heap_place_ok, ?_⟩
  refine List.forall_mem_cons.2 ⟨row_region_Region_Pages_ok, ?_⟩
  refine List.forall_mem_cons.2 ⟨row_pages_Table_Map_ok, ?_⟩
  refine List.forall_mem_cons.2 ⟨row_class_Base_ok, ?_⟩
  refine List.forall_mem_cons.2 ⟨row_object_Make_ok, ?_⟩
  refine List.forall_mem_cons.2 ⟨row_bitset_Set_Put_ok, ?_⟩
  refine List.forall_mem_cons.2 ⟨row_gheap_Heap_Pages_ok, ?_⟩
  refine List.forall_mem_cons.2 ⟨row_sweep_Sweeper_Left_ok, ?_⟩
  refine List.forall_mem_cons.2 ⟨row_sweep_Sweeper_page_ok, ?_⟩
  refine List.forall_mem_cons.2 ⟨row_gheap_Heap_Unmark_ok, ?_⟩
  refine List.forall_mem_cons.2 ⟨row_bitset_Set_Has_ok, ?_⟩
  refine List.forall_mem_cons.2 ⟨row_link_mix_ok, ?_⟩
  refine List.forall_mem_cons.2 ⟨row_object_Shape_Bytes_ok, ?_⟩
  refine List.forall_mem_cons.2 ⟨row_class_Size_ok, ?_⟩
  refine List.forall_mem_cons.2 ⟨row_gheap_Heap_managed_ok, ?_⟩
  refine List.forall_mem_cons.2 ⟨row_gheap_Heap_row_ok, ?_⟩
  refine List.forall_mem_cons.2 ⟨row_gheap_Heap_slot_ok, ?_⟩
  refine List.forall_mem_cons.2 ⟨row_pages_Row_first_ok, ?_⟩
  refine List.forall_mem_cons.2 ⟨row_pages_Table_cut_ok, ?_⟩
  refine List.forall_mem_cons.2 ⟨row_pages_Table_place_ok, ?_⟩
  refine List.forall_mem_cons.2 ⟨row_class_Slots_ok, ?_⟩
  refine List.forall_mem_cons.2 ⟨row_arena_Arena_Word_ok, ?_⟩
  refine List.forall_mem_cons.2 ⟨row_arena_Arena_Fill_ok, ?_⟩
  refine List.forall_mem_cons.2 ⟨row_object_Shape_word_ok, ?_⟩
  refine List.forall_mem_cons.2 ⟨row_arena_Arena_SetWord_ok, ?_⟩
  refine List.forall_mem_cons.2 ⟨row_bitset_Set_in_ok, ?_⟩
  refine List.forall_mem_cons.2 ⟨row_gheap_Heap_In_ok, ?_⟩
  refine List.forall_mem_cons.2 ⟨row_gheap_Heap_Free_ok, ?_⟩
  refine List.forall_mem_cons.2 ⟨row_gheap_Heap_Tidy_ok, ?_⟩
  refine List.forall_mem_cons.2 ⟨row_bitset_Set_Count_ok, ?_⟩
  refine List.forall_mem_cons.2 ⟨row_bitset_Set_Len_ok, ?_⟩
  refine List.forall_mem_cons.2 ⟨row_object_Shape_may_ok, ?_⟩
  refine List.forall_mem_cons.2 ⟨row_class_may_ok, ?_⟩
  refine List.forall_mem_cons.2 ⟨row_pages_Table_Row_ok, ?_⟩
  refine List.forall_mem_cons.2 ⟨row_pages_Table_Len_ok, ?_⟩
  refine List.forall_mem_cons.2 ⟨row_pages_Row_free_ok, ?_⟩
  refine List.forall_mem_cons.2 ⟨row_arena_Arena_word_ok, ?_⟩
  refine List.forall_mem_cons.2 ⟨row_num_Get_ok, ?_⟩
  refine List.forall_mem_cons.2 ⟨row_arena_Arena_in_ok, ?_⟩
  refine List.forall_mem_cons.2 ⟨row_num_Put_ok, ?_⟩
  refine List.forall_mem_cons.2 ⟨row_gheap_Heap_All_ok, ?_⟩
  refine List.forall_mem_cons.2 ⟨row_pages_Table_Unmap_ok, ?_⟩
  refine List.forall_mem_cons.2 ⟨row_math_bits_OnesCount64_ok, ?_⟩
  refine List.forall_mem_cons.2 ⟨row_gheap_places_ok, ?_⟩
  refine List.forall_mem_cons.2 ⟨row_bitset_Set_All_ok, ?_⟩
  refine List.forall_mem_cons.2 ⟨row_bitset_Set_Next_ok, ?_⟩
  refine List.forall_mem_cons.2 ⟨row_bitset_bit_ok, ?_⟩
  exact fun x hx => by cases hx
theorem awake20_tr : Tr Tryz.prog 38 [] [] (fun v K => v = .bool true ∧ K = []) :=
  Tr.closedT (by kernel_rfl) rfl rfl fun w hw => closed_callH (vs := []) (fuel := 5000) ovTZ_ok rowsS_ok (rawQ1_ok _) (rawE2_ok _) rfl rfl rfl (by kernel_rfl) w (DoorH.of hw)
end Go.Proofs.YtdpcccjkncagoaaGreatDoor
end
section
namespace Go.Proofs.YtdpcccjkncagoaaGreatDoor
open Go Go.Tum Go.Tum.Base
set_option maxRecDepth 4000
def SPL (m : HM) (gl : List Gb) (xs : List Int) (j d g : Nat) : LH := PL1 m gl ++
  [.cells 0 [ptr 2, .slice (some ⟨25, j * 1, none⟩) d d, .int .i64 g], .gro 1 (rowsC intC xs), .cells 0 [ptr 15, .slice (some ⟨27, j * 1, none⟩) d d, .int .i64 g], .gro 1 (rowsC intC xs)]
abbrev W28 : List Nat := [0, 1, 2, 3, 4, 5, 6, 7, 8, 9, 10, 11, 12, 13, 14, 15, 16, 17, 18, 19, 20, 21, 22, 23, 24, 25, 26, 27]
abbrev WS : List Nat := [24, 25, 2, 3, 4, 5, 6, 7, 8, 9, 10, 11, 12, 13, 14]
abbrev WR : List Nat := [26, 27, 15, 16, 17, 18, 19, 20, 21, 22, 23]
def SHd (m : HM) (xs : List Int) (j d : Nat) (g : Nat) : LH :=
  [.cells 0 [ptr 2, .slice (some ⟨1, j * 1, none⟩) d d, .int .i64 g], .gro 1 (rowsC intC xs),
   .cells 0 [ptr 3, .int .i64 m.man, .int .i64 (m.man + m.mgd : Nat), ptr 11, ptr 13],
   .cells 0 [.int .i64 m.man, .int .i64 m.mgd, .int .u64 ((1#64).toNat : Int), ptr 4, ptr 6, .int .u64 ((keyW 1#64).toNat : Int), .map (some 8), ptr 9],
   .cells 0 [slB 5 m.bs.length], BL m.bs, .cells 0 [slB 7 m.rs.length], .gro 4 (rowsC PRow.cells m.rs), .imap [] 0,
   .cells 0 [ptr 4, .int .u64 ((keyW 1#64).toNat : Int), .map (some 10)], .imap m.G m.c,
   .cells 0 [slB 12 m.hw.length, .int .i64 (16 * (m.man + m.mgd) : Nat)], .gro 1 (rowsC wordC m.hw),
   .cells 0 [slB 14 m.mw.length, .int .i64 (16 * (m.man + m.mgd) : Nat)], .gro 1 (rowsC wordC m.mw)]
theorem SHL_d (m : HM) {xs : List Int} {j d : Nat} (g : Nat) (h : xs.length = j + d) : SHL m xs j g = SHd m xs j d g := by
  unfold SHL SHd
  rw [show xs.length - j = d by omega]
theorem swLeft_d (m : HM) {xs : List Int} {j d : Nat} (g : Nat) (h : xs.length = j + d) : Tr Tryz.prog 36 [ptr 0] (SHd m xs j d g) (fun v K => v = .int .i64 d ∧ K = SHd m xs j d g) := by
  have := swLeft_tr m xs j g
  rw [SHL_d m g h, show xs.length - j = d by omega] at this
  exact this
theorem swGone_d (m : HM) {xs : List Int} {j d : Nat} (g : Nat) (h : xs.length = j + d) : Tr Tryz.prog 37 [ptr 0] (SHd m xs j d g) (fun v K => v = .int .i64 g ∧ K = SHd m xs j d g) := by
  have := swGone_tr m xs j g
  rw [SHL_d m g h] at this
  exact this
theorem swStep_d0 (m : HM) {xs : List Int} {j : Nat} (g : Nat) (h : xs.length = j + 0) : TrK Tryz.prog [] SK 34 [ptr 0] (SHd m xs j 0 g) (fun v K => v = .tuple ⟨[.int .i64 0, .bool false]⟩ ∧ K = SHd m xs j 0 g) := by
  have := swStep_no m xs j g (by omega)
  rw [SHL_d m g h] at this
  exact this
theorem rsStep_d0 (m : HM) (gl : List Gb) {xs : List Int} {j : Nat} (g : Nat) (h : xs.length = j + 0) : TrK Tryz.prog [] SRK 35 [ptr 0] (SRd m gl xs j 0 g) (fun v K => v = .tuple ⟨[.int .i64 0, .bool false]⟩ ∧ K = SRd m gl xs j 0 g) := by
  have := rsStep_no m gl xs j g (by omega)
  unfold SRL at this
  rw [show xs.length - j = 0 by omega] at this
  exact this
theorem swStep_ds (m : HM) (gl : List Gb) (hI : HI m gl) {xs : List Int} (hx : xs.length ≤ 256) {j c : Nat} (g : Nat) (hg : g ≤ 1000000000) (h : xs.length = j + (c + 1)) : TrK Tryz.prog [] SK 34 [ptr 0] (SHd m xs j (c + 1) g) (fun v K => v = .tuple ⟨[.int .i64 (swN m xs j), .bool (decide (j + 1 < xs.length))]⟩ ∧ K = SHd (swS m xs j) xs (j + 1) c (g + swN m xs j)) := by
  have := swStep_ok m gl hI xs hx j g (by omega) hg
  rw [SHL_d m g h, SHL_d (d := c) _ _ (by omega)] at this
  exact this
theorem rsStep_ds (m : HM) (gl : List Gb) (hI : HI m gl) {xs : List Int} (hx : xs.length ≤ 256) {j c : Nat} (g : Nat) (hg : g ≤ 1000000000) (h : xs.length = j + (c + 1)) : TrK Tryz.prog [] SRK 35 [ptr 0] (SRd m gl xs j (c + 1) g) (fun v K => v = .tuple ⟨[.int .i64 (swN m xs j), .bool (decide (j + 1 < xs.length))]⟩ ∧ K = SRd (swS m xs j) gl xs (j + 1) c (g + swN m xs j)) := by
  have := rsStep_ok m gl hI xs hx j g (by omega) hg
  unfold SRL at this
  rw [show xs.length - j = c + 1 by omega, show xs.length - (j + 1) = c by omega] at this
  exact this
theorem HIswS {m : HM} {gl : List Gb} (h : HI m gl) (xs : List Int) (j : Nat) : HI (swS m xs j) gl := by
  unfold swS
  split
  · exact (h.swM _).unmark
  · exact h.swM _
theorem swN_le {m : HM} {gl : List Gb} (h : HI m gl) (xs : List Int) (j : Nat) : swN m xs j ≤ 4096 := (h.swept _).2
set_option maxHeartbeats 8000000 in
theorem SweepPlays_tr (b : Int) (hb : 0 ≤ b ∧ b < 256) (nb : Nat) (hnb : nb ≤ 9223372036854775807) (get : Nat → List Value) (op : Nat → Op18 × Int) (hop : ∀ i, i < nb → get i = (op i).1.cells ++ [.int .i64 (op i).2] ∧ (op i).1.In) :
    TrK Tryz.prog [(0, nb * 11, rowG 11 get)] [0] 6 [.int .u8 b, slB 0 nb] [.dead] (fun v _ => v = .bool true) := by
  obtain ⟨N, hN⟩ : ∃ N : Nat, 1 + b % 5 = N := ⟨(1 + b % 5).toNat, by omega⟩
  have hMk := make18_tr 1 N (by omega) (by omega)
  have hI0 := HI.init (man := 1) (mgd := N) (by omega) (by omega)
  have hAw := awake20_tr
  generalize initM 1 N = m0 at *
  have hN0 := swNew_tr m0 hI0.toHOk
  have hR0 := rsNew_tr m0 [] hI0.toHOk
  have hl0 := pagesH_len m0
  have hm0 := hI0.n1
  refine Tr.of row_tumbrellaw20_SweepPlays_ok rfl ?_
  repeat' (first | refine L_rs ?_ | refine dN ?_ | refine dR ?_ | refine d0 ?_ | refine L_block ?_ | refine rT ?_ | refine L_true rfl ?_ | refine L_false rfl ?_ | refine L_skip (Nx.goL ?_) | refine L_skip ?_ | refine L_exit (Nx.goL ?_) | refine L_exit ?_ | refine iF (fun h => ?_) (fun h => ?_) | refine aX ?_ | refine S_Q [] rfl rfl (QY.cvi rfl (wrap64_id (by omega) (by omega))) ?_ | refine S_Q [] rfl rfl (QY.add rfl rfl hN (by omega) (by omega)) ?_ | (refine cF [] (hMk) ?_; conv => whnf) | (refine cF QH (hN0) ?_; conv => whnf) | (refine cF QR (hR0) ?_; conv => whnf) | refine aA ?_ | refine aS ?_ | refine aK ?_ | refine aI (hn := ?_) | refine aD ?_ | refine aR ?_ | refine aM ?_ | refine sP 62 (fun h => ?_) (fun h => ?_) | refine sP 87 (fun h => ?_) (fun h => ?_) | refine sP 99 (fun h => ?_) (fun h => ?_) | refine L_reg ?_ | refine L_seq ?_ | exact ⟨rfl, rfl⟩ | fail)
  refine LWp.pick [5, 6, 7, 31, 32, 33] [0, 1, 2, 3, 4, 5, 6, 7, 8, 9, 10, 11, 12, 13, 14, 15, 16, 17, 18, 19, 20, 21, 22, 23, 25, 24, 26, 27] rfl rfl rfl (L_loop (fun q l K => ∃ (i : Nat) (m : HM) (gl : List Gb) (xs : List Int) (j d g : Nat), q = nb - i ∧ i ≤ nb ∧ HI m gl ∧ xs.length = j + d ∧ xs.length ≤ 256 ∧ g ≤ 4096 * i ∧ l = [(5, ptr 1), (6, ptr 24), (7, ptr 26), (31, slB 0 nb), (32, .int .i64 nb), (33, .int .i64 i)] ∧ K = SPL m gl xs j d g) nb ⟨0, m0, [], natI (pagesH m0), 0, (pagesH m0).length, 0, rfl, by omega, hI0, by rw [natI_length]; omega, by rw [natI_length]; omega, by omega, rfl, rfl⟩ ?_)
  clear hN0 hR0 hMk
  rintro q _ _ ⟨i, m, gl, xs, j, d, g, rfl, hi, hI, hx1, hx2, hg, rfl, rfl⟩
  first | refine L_seq (L_rs (S_done [] rfl (Nx.goL (iF (fun h => L_skip (Nx.goL ?_)) (fun h => L_exit ?_))))) | refine L_rs (S_done [] rfl (Nx.goL (L_seq (iF (fun h => L_skip (Nx.goL ?_)) (fun h => L_exit ?_)))))
  · have hi' : i < nb := by omega
    obtain ⟨e, ho⟩ := hop i hi'
    obtain ⟨⟨o, own⟩, hop2⟩ : ∃ x, x = op i := ⟨_, rfl⟩
    rw [← hop2] at e ho
    simp only at e ho
    clear hop hop2
    by_cases h50 : i < 50
    · by_cases h1 : own = 1
      · subst h1
        cases d with
        | zero =>
          have hS := swStep_d0 m g hx1
          have hRs := rsStep_d0 m gl g hx1
          have hL := swLeft_d m g hx1
          have hG := swGone_d m g hx1
          repeat' (first | refine L_rs ?_ | refine dN ?_ | refine dR ?_ | refine d0 ?_ | refine L_block ?_ | refine rT ?_ | refine L_true rfl ?_ | refine L_false rfl ?_ | refine L_skip (Nx.goL ?_) | refine L_skip ?_ | refine L_exit (Nx.goL ?_) | refine L_exit ?_ | refine iF (fun h => ?_) (fun h => ?_) | refine aX ?_ | refine S_Q (v := .agg ⟨o.cells ++ [.int .i64 1]⟩) [] rfl rfl (by rw [← e]; exact QY.rowA (j := 0) i rfl rfl rfl hi' (by rw [e]; rfl) (by rw [e]; rfl)) ?_ | (refine cW WS (hS) ?_; conv => whnf) | (refine cW WR (hRs) ?_; conv => whnf) | refine cP WS (hL) ?_ | refine cP WS (hG) ?_ | refine S_Q [] rfl rfl (QY.neqB rfl (by kernel_rfl) rfl rfl) ?_ | refine aA ?_ | refine aS ?_ | refine aK ?_ | refine aI (hn := ?_) | refine aD ?_ | refine aR ?_ | refine aM ?_ | refine sP 62 (fun h => ?_) (fun h => ?_) | refine sP 87 (fun h => ?_) (fun h => ?_) | refine sP 99 (fun h => ?_) (fun h => ?_) | refine L_reg ?_ | refine L_seq ?_ | exact ⟨rfl, rfl⟩ | fail)
          all_goals first | (exfalso; omega) | exact absurd rfl h | exact Nx.pick [5, 6, 7, 31, 32, 33] W28 rfl rfl rfl ⟨nb - (i + 1), by omega, i + 1, m, gl, xs, j, 0, g, rfl, by omega, hI, hx1, hx2, by omega, rfl, rfl⟩
        | succ c =>
          have hS := swStep_ds m gl hI hx2 g (by omega) hx1
          have hRs := rsStep_ds m gl hI hx2 g (by omega) hx1
          have hI' := HIswS hI xs j
          have hn := swN_le hI xs j
          generalize swS m xs j = m' at *
          generalize swN m xs j = n at *
          generalize decide (j + 1 < xs.length) = bb at *
          have hx3 : xs.length = j + 1 + c := by omega
          have hL := swLeft_d m' (g + n) hx3
          have hG := swGone_d m' (g + n) hx3
          repeat' (first | refine L_rs ?_ | refine dN ?_ | refine dR ?_ | refine d0 ?_ | refine L_block ?_ | refine rT ?_ | refine L_true rfl ?_ | refine L_false rfl ?_ | refine L_skip (Nx.goL ?_) | refine L_skip ?_ | refine L_exit (Nx.goL ?_) | refine L_exit ?_ | refine iF (fun h => ?_) (fun h => ?_) | refine aX ?_ | refine S_Q (v := .agg ⟨o.cells ++ [.int .i64 1]⟩) [] rfl rfl (by rw [← e]; exact QY.rowA (j := 0) i rfl rfl rfl hi' (by rw [e]; rfl) (by rw [e]; rfl)) ?_ | (refine cW WS (hS) ?_; conv => whnf) | (refine cW WR (hRs) ?_; conv => whnf) | refine cP WS (hL) ?_ | refine cP WS (hG) ?_ | refine S_Q [] rfl rfl (QY.neqB rfl (by kernel_rfl) rfl rfl) ?_ | refine aA ?_ | refine aS ?_ | refine aK ?_ | refine aI (hn := ?_) | refine aD ?_ | refine aR ?_ | refine aM ?_ | refine sP 62 (fun h => ?_) (fun h => ?_) | refine sP 87 (fun h => ?_) (fun h => ?_) | refine sP 99 (fun h => ?_) (fun h => ?_) | refine L_reg ?_ | refine L_seq ?_ | exact ⟨rfl, rfl⟩ | fail)
          all_goals first | (exfalso; omega) | exact absurd rfl h | exact Nx.pick [5, 6, 7, 31, 32, 33] W28 rfl rfl rfl ⟨nb - (i + 1), by omega, i + 1, m', gl, xs, (j + 1), c, (g + n), rfl, by omega, hI', hx3, hx2, by omega, rfl, rfl⟩
      · by_cases h2 : own = 2
        · subst h2
          have hN := swNew_tr m hI.toHOk
          have hR := rsNew_tr m gl hI.toHOk
          have hn1 := hI.n1
          have hl := pagesH_len m
          have hx3 : (natI (pagesH m)).length = 0 + (pagesH m).length := by rw [natI_length]; omega
          have hL := swLeft_d m 0 hx3
          have hG := swGone_d m 0 hx3
          repeat' (first | refine L_rs ?_ | refine dN ?_ | refine dR ?_ | refine d0 ?_ | refine L_block ?_ | refine rT ?_ | refine L_true rfl ?_ | refine L_false rfl ?_ | refine L_skip (Nx.goL ?_) | refine L_skip ?_ | refine L_exit (Nx.goL ?_) | refine L_exit ?_ | refine iF (fun h => ?_) (fun h => ?_) | refine aX ?_ | refine S_Q (v := .agg ⟨o.cells ++ [.int .i64 2]⟩) [] rfl rfl (by rw [← e]; exact QY.rowA (j := 0) i rfl rfl rfl hi' (by rw [e]; rfl) (by rw [e]; rfl)) ?_ | (refine cF QH (hN) ?_; conv => whnf) | (refine cF QR (hR) ?_; conv => whnf) | refine cP [30, 29, 2, 3, 4, 5, 6, 7, 8, 9, 10, 11, 12, 13, 14] (hL) ?_ | refine cP [30, 29, 2, 3, 4, 5, 6, 7, 8, 9, 10, 11, 12, 13, 14] (hG) ?_ | refine S_Q [] rfl rfl (QY.neqB rfl (by kernel_rfl) rfl rfl) ?_ | refine aA ?_ | refine aS ?_ | refine aK ?_ | refine aI (hn := ?_) | refine aD ?_ | refine aR ?_ | refine aM ?_ | refine sP 62 (fun h => ?_) (fun h => ?_) | refine sP 87 (fun h => ?_) (fun h => ?_) | refine sP 99 (fun h => ?_) (fun h => ?_) | refine L_reg ?_ | refine L_seq ?_ | exact ⟨rfl, rfl⟩ | fail)
          all_goals first | (exfalso; omega) | exact absurd rfl h | exact Nx.pick [5, 6, 7, 31, 32, 33] [0, 1, 2, 3, 4, 5, 6, 7, 8, 9, 10, 11, 12, 13, 14, 15, 16, 17, 18, 19, 20, 21, 22, 23, 30, 29, 31, 32] rfl rfl rfl ⟨nb - (i + 1), by omega, i + 1, m, gl, (natI (pagesH m)), 0, (pagesH m).length, 0, rfl, by omega, hI, hx3, (by rw [hx3]; omega), by omega, rfl, rfl⟩
        · have hS := step_tr m gl hI o ho true
          have hI' := hI.step o true
          generalize (stepM m gl o true).1 = m' at *
          generalize (stepM m gl o true).2 = gl' at *
          have hL := swLeft_d m' g hx1
          have hG := swGone_d m' g hx1
          have hw : (∃ c, own = .negSucc c) ∨ own = .ofNat 0 ∨ ∃ c, own = .ofNat (c + 3) := by
            cases own with
            | negSucc c => exact .inl ⟨c, rfl⟩
            | ofNat c =>
              have h1 : ¬ (c : Int) = 1 := h1
              have h2 : ¬ (c : Int) = 2 := h2
              by_cases h0 : c = 0
              · subst h0; exact .inr (.inl rfl)
              · exact .inr (.inr ⟨c - 3, congrArg Int.ofNat (by omega)⟩)
          rcases hw with ⟨c, rfl⟩ | rfl | ⟨c, rfl⟩
          · repeat' (first | refine L_rs ?_ | refine dN ?_ | refine dR ?_ | refine d0 ?_ | refine L_block ?_ | refine rT ?_ | refine L_true rfl ?_ | refine L_false rfl ?_ | refine L_skip (Nx.goL ?_) | refine L_skip ?_ | refine L_exit (Nx.goL ?_) | refine L_exit ?_ | refine iF (fun h => ?_) (fun h => ?_) | refine aX ?_ | refine S_Q (v := .agg ⟨o.cells ++ [.int .i64 (.negSucc c)]⟩) [] rfl rfl (by rw [← e]; exact QY.rowA (j := 0) i rfl rfl rfl hi' (by rw [e]; rfl) (by rw [e]; rfl)) ?_ | (refine cW Q23 (hS) ?_; conv => whnf) | refine cP WS (hL) ?_ | refine cP WS (hG) ?_ | refine aA ?_ | refine aS ?_ | refine aK ?_ | refine aI (hn := ?_) | refine aD ?_ | refine aR ?_ | refine aM ?_ | refine sP 62 (fun h => ?_) (fun h => ?_) | refine sP 87 (fun h => ?_) (fun h => ?_) | refine sP 99 (fun h => ?_) (fun h => ?_) | refine L_reg ?_ | refine L_seq ?_ | exact ⟨rfl, rfl⟩ | fail)
            all_goals first | (exfalso; omega) | exact absurd rfl h | exact Nx.pick [5, 6, 7, 31, 32, 33] W28 rfl rfl rfl ⟨nb - (i + 1), by omega, i + 1, m', gl', xs, j, d, g, rfl, by omega, hI', hx1, hx2, by omega, rfl, rfl⟩
          · repeat' (first | refine L_rs ?_ | refine dN ?_ | refine dR ?_ | refine d0 ?_ | refine L_block ?_ | refine rT ?_ | refine L_true rfl ?_ | refine L_false rfl ?_ | refine L_skip (Nx.goL ?_) | refine L_skip ?_ | refine L_exit (Nx.goL ?_) | refine L_exit ?_ | refine iF (fun h => ?_) (fun h => ?_) | refine aX ?_ | refine S_Q (v := .agg ⟨o.cells ++ [.int .i64 (.ofNat 0)]⟩) [] rfl rfl (by rw [← e]; exact QY.rowA (j := 0) i rfl rfl rfl hi' (by rw [e]; rfl) (by rw [e]; rfl)) ?_ | (refine cW Q23 (hS) ?_; conv => whnf) | refine cP WS (hL) ?_ | refine cP WS (hG) ?_ | refine aA ?_ | refine aS ?_ | refine aK ?_ | refine aI (hn := ?_) | refine aD ?_ | refine aR ?_ | refine aM ?_ | refine sP 62 (fun h => ?_) (fun h => ?_) | refine sP 87 (fun h => ?_) (fun h => ?_) | refine sP 99 (fun h => ?_) (fun h => ?_) | refine L_reg ?_ | refine L_seq ?_ | exact ⟨rfl, rfl⟩ | fail)
            all_goals first | (exfalso; omega) | exact absurd rfl h | exact Nx.pick [5, 6, 7, 31, 32, 33] W28 rfl rfl rfl ⟨nb - (i + 1), by omega, i + 1, m', gl', xs, j, d, g, rfl, by omega, hI', hx1, hx2, by omega, rfl, rfl⟩
          · repeat' (first | refine L_rs ?_ | refine dN ?_ | refine dR ?_ | refine d0 ?_ | refine L_block ?_ | refine rT ?_ | refine L_true rfl ?_ | refine L_false rfl ?_ | refine L_skip (Nx.goL ?_) | refine L_skip ?_ | refine L_exit (Nx.goL ?_) | refine L_exit ?_ | refine iF (fun h => ?_) (fun h => ?_) | refine aX ?_ | refine S_Q (v := .agg ⟨o.cells ++ [.int .i64 (.ofNat (c + 3))]⟩) [] rfl rfl (by rw [← e]; exact QY.rowA (j := 0) i rfl rfl rfl hi' (by rw [e]; rfl) (by rw [e]; rfl)) ?_ | (refine cW Q23 (hS) ?_; conv => whnf) | refine cP WS (hL) ?_ | refine cP WS (hG) ?_ | refine aA ?_ | refine aS ?_ | refine aK ?_ | refine aI (hn := ?_) | refine aD ?_ | refine aR ?_ | refine aM ?_ | refine sP 62 (fun h => ?_) (fun h => ?_) | refine sP 87 (fun h => ?_) (fun h => ?_) | refine sP 99 (fun h => ?_) (fun h => ?_) | refine L_reg ?_ | refine L_seq ?_ | exact ⟨rfl, rfl⟩ | fail)
            all_goals first | (exfalso; omega) | exact absurd rfl h | exact Nx.pick [5, 6, 7, 31, 32, 33] W28 rfl rfl rfl ⟨nb - (i + 1), by omega, i + 1, m', gl', xs, j, d, g, rfl, by omega, hI', hx1, hx2, by omega, rfl, rfl⟩
    · have hSm := pSame_tr m gl hI
      repeat' (first | refine L_rs ?_ | refine dN ?_ | refine dR ?_ | refine d0 ?_ | refine L_block ?_ | refine rT ?_ | refine L_true rfl ?_ | refine L_false rfl ?_ | refine L_skip (Nx.goL ?_) | refine L_skip ?_ | refine L_exit (Nx.goL ?_) | refine L_exit ?_ | refine iF (fun h => ?_) (fun h => ?_) | refine aX ?_ | refine S_Q (v := .agg ⟨o.cells ++ [.int .i64 own]⟩) [] rfl rfl (by rw [← e]; exact QY.rowA (j := 0) i rfl rfl rfl hi' (by rw [e]; rfl) (by rw [e]; rfl)) ?_ | refine cP Q23 (hSm) ?_ | refine cP [] (hAw) ?_ | refine aA ?_ | refine aS ?_ | refine aK ?_ | refine aI (hn := ?_) | refine aD ?_ | refine aR ?_ | refine aM ?_ | refine sP 62 (fun h => ?_) (fun h => ?_) | refine sP 87 (fun h => ?_) (fun h => ?_) | refine sP 99 (fun h => ?_) (fun h => ?_) | refine L_reg ?_ | refine L_seq ?_ | exact ⟨rfl, rfl⟩ | fail)
      all_goals first | (exfalso; omega) | exact rfl
  · refine Nx.goL ?_
    have hSm := pSame_tr m gl hI
    repeat' (first | refine L_rs ?_ | refine dN ?_ | refine dR ?_ | refine d0 ?_ | refine L_block ?_ | refine rT ?_ | refine L_true rfl ?_ | refine L_false rfl ?_ | refine L_skip (Nx.goL ?_) | refine L_skip ?_ | refine L_exit (Nx.goL ?_) | refine L_exit ?_ | refine iF (fun h => ?_) (fun h => ?_) | refine aX ?_ | refine cP Q23 (hSm) ?_ | refine cP [] (hAw) ?_ | refine aA ?_ | refine aS ?_ | refine aK ?_ | refine aI (hn := ?_) | refine aD ?_ | refine aR ?_ | refine aM ?_ | refine sP 62 (fun h => ?_) (fun h => ?_) | refine sP 87 (fun h => ?_) (fun h => ?_) | refine sP 99 (fun h => ?_) (fun h => ?_) | refine L_reg ?_ | refine L_seq ?_ | exact ⟨rfl, rfl⟩ | fail)
    exact rfl
end Go.Proofs.YtdpcccjkncagoaaGreatDoor
end
section
namespace Go.Proofs.YtdpcccjkncagoaaGreatDoor
open Go Go.Tum Go.Tum.Base Go.Deep
theorem op18_in {cs : List Value} (h : Fits [some .i64, some .i64, some .i64, some .i64, some .i64, some .i64, some .i64, some .u64, some .i64, some .i64] cs) : ∃ o : Op18, cs = o.cells ∧ o.In := by
  obtain ⟨a, _, rfl, wa, h⟩ := h.int
  obtain ⟨b, _, rfl, wb, h⟩ := h.int
  obtain ⟨c, _, rfl, wc, h⟩ := h.int
  obtain ⟨d, _, rfl, wd, h⟩ := h.int
  obtain ⟨e, _, rfl, we, h⟩ := h.int
  obtain ⟨f, _, rfl, wf, h⟩ := h.int
  obtain ⟨g, _, rfl, wg, h⟩ := h.int
  obtain ⟨x, _, rfl, wx, h⟩ := h.int
  obtain ⟨r, _, rfl, _, h⟩ := h.int
  obtain ⟨s, _, rfl, _, h⟩ := h.int
  obtain rfl := h.nil
  have := Go.bounds_i64 wb
  have := Go.bounds_i64 wc
  have := Go.bounds_i64 wd
  have := Go.bounds_i64 we
  have := Go.bounds_i64 wf
  have := Go.bounds_i64 wg
  have := Go.bounds_u64 wx
  refine ⟨⟨a, b, c, d, e, f, g, BitVec.ofNat 64 x.toNat, r, s⟩, ?_, ?_⟩
  · have : ((BitVec.ofNat 64 x.toNat).toNat : Int) = x := by rw [BitVec.toNat_ofNat, Nat.mod_eq_of_lt (by omega)]; omega
    simp only [Op18.cells, this]
  · simp only [Op18.In, inI]; omega
theorem op18_own {cs : List Value} (h : Fits [some .i64, some .i64, some .i64, some .i64, some .i64, some .i64, some .i64, some .u64, some .i64, some .i64, some .i64] cs) : ∃ x : Op18 × Int, cs = x.1.cells ++ [.int .i64 x.2] ∧ x.1.In := by
  obtain ⟨a, _, rfl, wa, h⟩ := h.int
  obtain ⟨b, _, rfl, wb, h⟩ := h.int
  obtain ⟨c, _, rfl, wc, h⟩ := h.int
  obtain ⟨d, _, rfl, wd, h⟩ := h.int
  obtain ⟨e, _, rfl, we, h⟩ := h.int
  obtain ⟨f, _, rfl, wf, h⟩ := h.int
  obtain ⟨g, _, rfl, wg, h⟩ := h.int
  obtain ⟨x, _, rfl, wx, h⟩ := h.int
  obtain ⟨r, _, rfl, _, h⟩ := h.int
  obtain ⟨s, _, rfl, _, h⟩ := h.int
  obtain ⟨y, _, rfl, _, h⟩ := h.int
  obtain rfl := h.nil
  have := Go.bounds_i64 wb
  have := Go.bounds_i64 wc
  have := Go.bounds_i64 wd
  have := Go.bounds_i64 we
  have := Go.bounds_i64 wf
  have := Go.bounds_i64 wg
  have := Go.bounds_u64 wx
  refine ⟨(⟨a, b, c, d, e, f, g, BitVec.ofNat 64 x.toNat, r, s⟩, y), ?_, ?_⟩
  · have : ((BitVec.ofNat 64 x.toNat).toNat : Int) = x := by rw [BitVec.toNat_ofNat, Nat.mod_eq_of_lt (by omega)]; omega
    simp only [Op18.cells, this]; rfl
  · simp only [Op18.In, inI]; omega
end Go.Proofs.YtdpcccjkncagoaaGreatDoor
end
section
namespace Go.Proofs.YtdpcccjkncagoaaGreatDoor
open Go Go.Tum Go.Tum.Base Go.Deep
theorem SweepPlays_does (w : World) (hw : DoorH (fun _ => False) w) (b : Int) (hb : 0 ≤ b ∧ b < 256) {v : Value} {n : Nat} {get : Nat → List Value} (hr : SlIn w 11 v n get)
    (hf : ∀ i, i < n → Fits [some .i64, some .i64, some .i64, some .i64, some .i64, some .i64, some .i64, some .u64, some .i64, some .i64, some .i64] (get i)) :
    Does Tryz.prog 6 #[.int .u8 b, v] w fun v w' => v = .bool true ∧ Fr (fun _ => False) w w' := by
  obtain ⟨op, hop⟩ := choose_lt (n := n) (p := fun i (x : Op18 × Int) => get i = x.1.cells ++ [.int .i64 x.2] ∧ x.1.In) fun i hi => op18_own (hf i hi)
  obtain ⟨hn, x, hr⟩ := hr
  obtain ⟨h1, h2⟩ := hr [x] 0 rfl
  exact (SweepPlays_tr b hb n hn get op hop).law (vs' := [.int .u8 b, v]) [x] w rfl (by intro y hy; cases List.mem_singleton.1 hy; exact ⟨rfl, h2⟩) ⟨rfl, h1, trivial⟩ (DoorH.tab hw)
end Go.Proofs.YtdpcccjkncagoaaGreatDoor
end
