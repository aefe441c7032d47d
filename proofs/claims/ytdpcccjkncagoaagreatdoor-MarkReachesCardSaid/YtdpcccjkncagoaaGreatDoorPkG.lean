/-
  What the proof leans on, part 7: of the texts Reach, Played, Awake, Awake19, MarkReaches, LawIn, MarkReachesD.
-/
import Derived.Test.YtdpcccjkncagoaaGreatDoorPkF
set_option linter.unusedVariables false
set_option linter.unusedSimpArgs false
set_option linter.unusedSectionVars false
section
namespace Go.Proofs.YtdpcccjkncagoaaGreatDoor
open Go Go.Tum Go.Tum.Base
set_option maxRecDepth 4000
theorem rFold_take (m : HM) (o : List Bool) (w : List Int) {j : Nat} (h : j < w.length) : rFold m o (w.take (j + 1)) = rSet m (rFold m o (w.take j)) w[j] := by
  unfold rFold
  rw [List.take_succ_eq_append_getElem h, List.foldl_append]; rfl
theorem rSet_len (m : HM) (o : List Bool) (a : Int) : (rSet m o a).length = o.length := by
  unfold rSet
  split
  · exact List.length_set
  · rfl
theorem rFold_len (m : HM) (w : List Int) : ∀ o, (rFold m o w).length = o.length := by
  induction w with
  | nil => exact fun _ => rfl
  | cons a w ih =>
    intro o
    show (rFold m (rSet m o a) w).length = _
    rw [ih, rSet_len]
theorem rRnd_len (m : HM) (o : List Bool) (k : Nat) : (rRnd m o k).length = o.length := (rRnd_le m o k).1.symm
theorem rAll_len (m : HM) (w : List Int) (r : Nat) : (rAll m w r).length = (objN m).length := by
  have h := (itB_le (f := fun o => rRnd m o (objN m).length) (fun o => rRnd_le m o _) (rBeg m w) r).1
  have h2 : (rBeg m w).length = (objN m).length := (rFold_len m w _).trans List.length_replicate
  exact h.symm.trans h2
def RLo (m : HM) (gl : List Gb) (w : List Int) (o : List Bool) : LH := RHm m gl ++ [.gro 1 (rowsC intC w), .gro 1 (rowsC boolC o)]
abbrev N11 : List Nat := [0, 1, 2, 3, 4, 5, 6, 7, 8, 9, 10]
set_option maxHeartbeats 4000000 in
theorem rReached_tr (m : HM) (gl : List Gb) (hI : HI m gl) (w : List Int) (hw : w.length ≤ 65536) : Tr Tryz.prog 51 [ptr 0, slB 9 w.length] (RHm m gl ++ [.gro 1 (rowsC intC w)]) (fun v K => v = slB 10 (obs m).length ∧ K = RLo m gl w (rAll m w (objN m).length)) := by
  have hon : (obs m).length = (objN m).length := by unfold obs; rw [List.length_map]
  have hol := obs_len hI.toHOk
  have hX0 : rFold m (List.replicate (obs m).length false) (w.take 0) = List.replicate (obs m).length false := rfl
  have hXs := fun j (h : j < w.length) => rFold_take m (List.replicate (obs m).length false) w h
  have hXl : ∀ j, (rFold m (List.replicate (obs m).length false) (w.take j)).length = (obs m).length := fun j => (rFold_len m _ _).trans List.length_replicate
  have hXe : rFold m (List.replicate (obs m).length false) (w.take w.length) = rAll m w 0 := by rw [List.take_length, hon]; rfl
  have hIx := fun a => rIndex_tr m.man (m.man + m.mgd) m.bs m.rs (obs m) gl hol a
  refine Tr.of row_tumbrelref19_Reached_ok rfl ?_
  repeat' (first|refine qN ?_|refine dN ?_|refine dR ?_|refine d0 ?_|refine qB ?_|refine rT ?_|refine qT ?_|refine qU ?_|refine qL ?_|refine qK ?_|refine qF ?_|refine qE ?_|refine iF (fun h=>?_) (fun h=>?_)|refine aX ?_|refine aA ?_|refine aS ?_|refine aK ?_|refine aI (hn := ?_)|refine aD ?_|refine aR ?_|refine aM ?_|refine qR ?_|refine qS ?_|exact ⟨rfl, rfl⟩|fail)
  first|refine L_rs ?_|refine L_reg ?_ | skip
  refine eE rfl rfl (EW.mk (sz := 1) (bytes := 1) (k := (obs m).length) (zs := boolC false) rfl (by kernel_rfl) rfl rfl (by omega) (by omega)) ?_
  conv => whnf
  repeat' (first|refine qN ?_|refine dN ?_|refine dR ?_|refine d0 ?_|refine qB ?_|refine rT ?_|refine qT ?_|refine qU ?_|refine qL ?_|refine qK ?_|refine qF ?_|refine qE ?_|refine iF (fun h=>?_) (fun h=>?_)|refine aX ?_|refine aA ?_|refine aS ?_|refine aK ?_|refine aI (hn := ?_)|refine aD ?_|refine aR ?_|refine aM ?_|refine qR ?_|refine qS ?_|exact ⟨rfl, rfl⟩|fail)
  rw [repC_rows false, ← hX0]
  generalize rFold m (List.replicate (obs m).length false) = X at *
  refine LWp.pick [0, 5, 21, 22, 23] N11 rfl rfl rfl (L_loop (fun q l K => ∃ j : Nat, q = w.length - j ∧ j ≤ w.length ∧ l = [(0, ptr 0), (5, slB 10 (obs m).length), (21, slB 9 w.length), (22, .int .i64 w.length), (23, .int .i64 j)] ∧ K = RLo m gl w (X (w.take j))) w.length ⟨0, rfl, by omega, rfl, rfl⟩ ?_)
  rintro q _ _ ⟨j, rfl, hj, rfl, rfl⟩
  first|refine L_seq (L_rs (S_done [] rfl (Nx.goL (iF (fun h => L_skip (Nx.goL ?_)) (fun h => L_exit ?_)))))|refine L_rs (S_done [] rfl (Nx.goL (L_seq (iF (fun h => L_skip (Nx.goL ?_)) (fun h => L_exit ?_)))))
  · have hj2 : j < w.length := by omega
    have hg : w[j]? = some w[j] := List.getElem?_eq_getElem hj2
    have hs := hXs j hj2
    have hl := hXl j
    generalize w[j] = a at *
    generalize X (w.take j) = o at *
    have hI2 := hIx a
    clear hX0 hXs hXl hXe hIx
    rcases idxF_obj m a with ⟨_, e⟩ | ⟨c, p, rfl, _, e, hp⟩
    · rw [e] at hI2
      have hse : rSet m o a = o := by unfold rSet; rw [e]; rfl
      repeat' (first|refine qN ?_|refine dN ?_|refine dR ?_|refine d0 ?_|refine qB ?_|refine rT ?_|refine qT ?_|refine qU ?_|refine qL ?_|refine qK ?_|refine qF ?_|refine qE ?_|refine iF (fun h=>?_) (fun h=>?_)|refine aX ?_|refine S_Q [] rfl rfl (QY.ldI rfl rfl hg) ?_|refine cP R9 (hI2) ?_|refine aA ?_|refine aS ?_|refine aK ?_|refine aI (hn := ?_)|refine aD ?_|refine aR ?_|refine aM ?_|refine qR ?_|refine qS ?_|exact ⟨rfl, rfl⟩|fail)
      all_goals first | (exfalso; omega)|exact Nx.pick [0, 5, 21, 22, 23] N11 rfl rfl rfl ⟨w.length - (j + 1), by omega, j + 1, rfl, by omega, rfl, by rw [hs, hse]; rfl⟩
    · rw [e] at hI2
      have hp2 := (List.getElem?_eq_some_iff.1 hp).1
      have hse : rSet m o (16 * c : Nat) = o.set p true := by unfold rSet; rw [e]; rfl
      repeat' (first|refine qN ?_|refine dN ?_|refine dR ?_|refine d0 ?_|refine qB ?_|refine rT ?_|refine qT ?_|refine qU ?_|refine qL ?_|refine qK ?_|refine qF ?_|refine qE ?_|refine iF (fun h=>?_) (fun h=>?_)|refine aX ?_|refine S_Q [] rfl rfl (QY.ldI rfl rfl hg) ?_|refine cP R9 (hI2) ?_|refine aA ?_|refine aS ?_|refine aK ?_|refine aI (hn := ?_)|refine aD ?_|refine aR ?_|refine aM ?_|refine qR ?_|refine qS ?_|exact ⟨rfl, rfl⟩|fail)
      all_goals try (exfalso; omega)
      first|refine L_rs ?_|refine L_reg ?_ | skip
      refine eE rfl rfl (EW.stB (k := p) rfl rfl rfl (by omega)) ?_
      conv => whnf
      repeat' (first|refine qN ?_|refine dN ?_|refine dR ?_|refine d0 ?_|refine qB ?_|refine rT ?_|refine qT ?_|refine qU ?_|refine qL ?_|refine qK ?_|refine qF ?_|refine qE ?_|refine iF (fun h=>?_) (fun h=>?_)|refine aX ?_|refine aA ?_|refine aS ?_|refine aK ?_|refine aI (hn := ?_)|refine aD ?_|refine aR ?_|refine aM ?_|refine qR ?_|refine qS ?_|exact ⟨rfl, rfl⟩|fail)
      exact Nx.pick [0, 5, 21, 22, 23] N11 rfl rfl rfl ⟨w.length - (j + 1), by omega, j + 1, rfl, by omega, rfl, by rw [hs, hse]; rfl⟩
  · refine Nx.goL ?_
    obtain rfl : j = w.length := by omega
    rw [hXe]
    clear hX0 hXs hXl hXe
    clear X
    repeat' (first|refine qN ?_|refine dN ?_|refine dR ?_|refine d0 ?_|refine qB ?_|refine rT ?_|refine qT ?_|refine qU ?_|refine qL ?_|refine qK ?_|refine qF ?_|refine qE ?_|refine iF (fun h=>?_) (fun h=>?_)|refine aX ?_|refine aA ?_|refine aS ?_|refine aK ?_|refine aI (hn := ?_)|refine aD ?_|refine aR ?_|refine aM ?_|refine qR ?_|refine qS ?_|exact ⟨rfl, rfl⟩|fail)
    clear h hj
    have hnb := hI.nb
    have hn1 := hI.n1
    have hb65 := hI.b0.2
    refine LWp.pick [0, 5, 9] N11 rfl rfl rfl (L_loop (fun q l K => ∃ r : Nat, q = (obs m).length - r ∧ r ≤ (obs m).length ∧ l = [(0, ptr 0), (5, slB 10 (obs m).length), (9, .int .i64 r)] ∧ K = RLo m gl w (rAll m w r)) (obs m).length ⟨0, rfl, by omega, rfl, rfl⟩ ?_)
    rintro q _ _ ⟨r, rfl, hr, rfl, rfl⟩
    first|refine L_seq (L_rs (S_done [] rfl (Nx.goL (iF (fun h => L_skip (Nx.goL ?_)) (fun h => L_exit ?_)))))|refine L_rs (S_done [] rfl (Nx.goL (L_seq (iF (fun h => L_skip (Nx.goL ?_)) (fun h => L_exit ?_)))))
    · have hr2 : r < (obs m).length := by omega
      have hAl := rAll_len m w r
      have hA1 : rAll m w (r + 1) = rRnd m (rAll m w r) (objN m).length := rfl
      generalize rAll m w r = A at *
      repeat' (first|refine qN ?_|refine dN ?_|refine dR ?_|refine d0 ?_|refine qB ?_|refine rT ?_|refine qT ?_|refine qU ?_|refine qL ?_|refine qK ?_|refine qF ?_|refine qE ?_|refine iF (fun h=>?_) (fun h=>?_)|refine aX ?_|refine aA ?_|refine aS ?_|refine aK ?_|refine aI (hn := ?_)|refine aD ?_|refine aR ?_|refine aM ?_|refine qR ?_|refine qS ?_|exact ⟨rfl, rfl⟩|fail)
      refine LWp.pick [0, 5, 9, 48, 49, 50] N11 rfl rfl rfl (L_loop (fun q l K => ∃ i : Nat, q = (obs m).length - i ∧ i ≤ (obs m).length ∧ l = [(0, ptr 0), (5, slB 10 (obs m).length), (9, .int .i64 r), (48, slB 2 (obs m).length), (49, .int .i64 (obs m).length), (50, .int .i64 i)] ∧ K = RLo m gl w (rRnd m A i)) (obs m).length ⟨0, rfl, by omega, rfl, rfl⟩ ?_)
      rintro q _ _ ⟨i, rfl, hi, rfl, rfl⟩
      first|refine L_seq (L_rs (S_done [] rfl (Nx.goL (iF (fun h => L_skip (Nx.goL ?_)) (fun h => L_exit ?_)))))|refine L_rs (S_done [] rfl (Nx.goL (L_seq (iF (fun h => L_skip (Nx.goL ?_)) (fun h => L_exit ?_)))))
      · have hi2 : i < (objN m).length := by omega
        have g0 : (objN m)[i]? = some (objN m)[i] := List.getElem?_eq_getElem hi2
        obtain ⟨c, hc⟩ : ∃ c, c = (objN m)[i] := ⟨_, rfl⟩
        rw [← hc] at g0
        have g1 : (obs m)[i]? = some (((16 * c : Nat) : Int), bitAt m.mw c) := by unfold obs; rw [List.getElem?_map, g0]; rfl
        obtain ⟨g3, _⟩ := objN_mem.1 (List.mem_of_getElem? g0)
        have hR := rRefs_tr m gl hb65 (16 * c) (by omega) (by omega)
        have hol2 := rRnd_len m A i
        have hrow : rRnd m A (i + 1) = rRow m (rRnd m A i) i := rfl
        generalize bitAt m.mw c = mb at *
        generalize rRnd m A i = o at *
        unfold rRow at hrow
        rw [g0] at hrow
        simp only at hrow
        have hg : o[i]? = some o[i] := List.getElem?_eq_getElem (by omega)
        cases hb : o[i]
        · rw [hb] at hg
          rw [if_neg (by rw [hg]; decide)] at hrow
          repeat' (first|refine qN ?_|refine dN ?_|refine dR ?_|refine d0 ?_|refine qB ?_|refine rT ?_|refine qT ?_|refine qU ?_|refine qL ?_|refine qK ?_|refine qF ?_|refine qE ?_|refine iF (fun h=>?_) (fun h=>?_)|refine aX ?_|refine S_Q [] rfl rfl (QY.ldRow (a := (((16 * c : Nat) : Int), mb)) obC_ok rfl rfl g1 (by decide)) ?_|refine S_Q [] rfl rfl (QY.ldB rfl rfl hg) ?_|refine aA ?_|refine aS ?_|refine aK ?_|refine aI (hn := ?_)|refine aD ?_|refine aR ?_|refine aM ?_|refine qR ?_|refine qS ?_|exact ⟨rfl, rfl⟩|fail)
          exact Nx.pick [0, 5, 9, 48, 49, 50] N11 rfl rfl rfl ⟨(obs m).length - (i + 1), by omega, i + 1, rfl, by omega, rfl, by rw [hrow]; rfl⟩
        · rw [hb] at hg
          rw [if_pos hg] at hrow
          repeat' (first|refine qN ?_|refine dN ?_|refine dR ?_|refine d0 ?_|refine qB ?_|refine rT ?_|refine qT ?_|refine qU ?_|refine qL ?_|refine qK ?_|refine qF ?_|refine qE ?_|refine iF (fun h=>?_) (fun h=>?_)|refine aX ?_|refine S_Q [] rfl rfl (QY.ldRow (a := (((16 * c : Nat) : Int), mb)) obC_ok rfl rfl g1 (by decide)) ?_|refine S_Q [] rfl rfl (QY.ldB rfl rfl hg) ?_|(refine cF R9 (hR) ?_; conv => whnf)|refine aA ?_|refine aS ?_|refine aK ?_|refine aI (hn := ?_)|refine aD ?_|refine aR ?_|refine aM ?_|refine qR ?_|refine qS ?_|exact ⟨rfl, rfl⟩|fail)
          have hlen := refsF_len m.bs (16 * c)
          generalize refsF m.bs (16 * c) = rf at *
          have hX0 : rFold m o (rf.take 0) = o := rfl
          have hXs := fun j (h : j < rf.length) => rFold_take m o rf h
          have hXl : ∀ j, (rFold m o (rf.take j)).length = o.length := fun j => rFold_len m _ _
          have hXe : rFold m o (rf.take rf.length) = rFold m o rf := by rw [List.take_length]
          rw [← hXe] at hrow
          generalize rFold m o = X at *
          refine LWp.pick [0, 5, 9, 48, 49, 50, 63, 64, 65] [0, 1, 2, 3, 4, 5, 6, 7, 8, 9, 10, 12] rfl rfl rfl (L_loop (fun q l K => ∃ j : Nat, q = rf.length - j ∧ j ≤ rf.length ∧ l = [(0, ptr 0), (5, slB 10 (obs m).length), (9, .int .i64 r), (48, slB 2 (obs m).length), (49, .int .i64 (obs m).length), (50, .int .i64 i), (63, slB 11 rf.length), (64, .int .i64 rf.length), (65, .int .i64 j)] ∧ K = RLo m gl w (X (rf.take j)) ++ [.gro 1 (rowsC intC rf)]) rf.length ⟨0, rfl, by omega, rfl, by rw [hX0]; rfl⟩ ?_)
          clear hX0 hXe hR hg g0 g1 hb
          rintro q _ _ ⟨j, rfl, hj, rfl, rfl⟩
          first|refine L_seq (L_rs (S_done [] rfl (Nx.goL (iF (fun h => L_skip (Nx.goL ?_)) (fun h => L_exit ?_)))))|refine L_rs (S_done [] rfl (Nx.goL (L_seq (iF (fun h => L_skip (Nx.goL ?_)) (fun h => L_exit ?_)))))
          · have hj2 : j < rf.length := by omega
            have hg : rf[j]? = some rf[j] := List.getElem?_eq_getElem hj2
            have hs := hXs j hj2
            have hl := hXl j
            generalize rf[j] = a at *
            generalize X (rf.take j) = o2 at *
            have hI2 := hIx a
            clear hXs hXl hIx
            rcases idxF_obj m a with ⟨_, e⟩ | ⟨d, p, rfl, _, e, hp⟩
            · rw [e] at hI2
              have hse : rSet m o2 a = o2 := by unfold rSet; rw [e]; rfl
              repeat' (first|refine qN ?_|refine dN ?_|refine dR ?_|refine d0 ?_|refine qB ?_|refine rT ?_|refine qT ?_|refine qU ?_|refine qL ?_|refine qK ?_|refine qF ?_|refine qE ?_|refine iF (fun h=>?_) (fun h=>?_)|refine aX ?_|refine S_Q [] rfl rfl (QY.ldI rfl rfl hg) ?_|refine cP R9 (hI2) ?_|refine aA ?_|refine aS ?_|refine aK ?_|refine aI (hn := ?_)|refine aD ?_|refine aR ?_|refine aM ?_|refine qR ?_|refine qS ?_|exact ⟨rfl, rfl⟩|fail)
              all_goals first | (exfalso; omega)|exact Nx.pick [0, 5, 9, 48, 49, 50, 63, 64, 65] [0, 1, 2, 3, 4, 5, 6, 7, 8, 9, 10, 11] rfl rfl rfl ⟨rf.length - (j + 1), by omega, j + 1, rfl, by omega, rfl, by rw [hs, hse]; rfl⟩
            · rw [e] at hI2
              have hp2 := (List.getElem?_eq_some_iff.1 hp).1
              have hse : rSet m o2 (16 * d : Nat) = o2.set p true := by unfold rSet; rw [e]; rfl
              repeat' (first|refine qN ?_|refine dN ?_|refine dR ?_|refine d0 ?_|refine qB ?_|refine rT ?_|refine qT ?_|refine qU ?_|refine qL ?_|refine qK ?_|refine qF ?_|refine qE ?_|refine iF (fun h=>?_) (fun h=>?_)|refine aX ?_|refine S_Q [] rfl rfl (QY.ldI rfl rfl hg) ?_|refine cP R9 (hI2) ?_|refine aA ?_|refine aS ?_|refine aK ?_|refine aI (hn := ?_)|refine aD ?_|refine aR ?_|refine aM ?_|refine qR ?_|refine qS ?_|exact ⟨rfl, rfl⟩|fail)
              all_goals try (exfalso; omega)
              first|refine L_rs ?_|refine L_reg ?_ | skip
              refine eE rfl rfl (EW.stB (k := p) rfl rfl rfl (by omega)) ?_
              conv => whnf
              repeat' (first|refine qN ?_|refine dN ?_|refine dR ?_|refine d0 ?_|refine qB ?_|refine rT ?_|refine qT ?_|refine qU ?_|refine qL ?_|refine qK ?_|refine qF ?_|refine qE ?_|refine iF (fun h=>?_) (fun h=>?_)|refine aX ?_|refine aA ?_|refine aS ?_|refine aK ?_|refine aI (hn := ?_)|refine aD ?_|refine aR ?_|refine aM ?_|refine qR ?_|refine qS ?_|exact ⟨rfl, rfl⟩|fail)
              exact Nx.pick [0, 5, 9, 48, 49, 50, 63, 64, 65] [0, 1, 2, 3, 4, 5, 6, 7, 8, 9, 10, 11] rfl rfl rfl ⟨rf.length - (j + 1), by omega, j + 1, rfl, by omega, rfl, by rw [hs, hse]; rfl⟩
          · refine Nx.goL ?_
            obtain rfl : j = rf.length := by omega
            repeat' (first|refine qN ?_|refine dN ?_|refine dR ?_|refine d0 ?_|refine qB ?_|refine rT ?_|refine qT ?_|refine qU ?_|refine qL ?_|refine qK ?_|refine qF ?_|refine qE ?_|refine iF (fun h=>?_) (fun h=>?_)|refine aX ?_|refine aA ?_|refine aS ?_|refine aK ?_|refine aI (hn := ?_)|refine aD ?_|refine aR ?_|refine aM ?_|refine qR ?_|refine qS ?_|exact ⟨rfl, rfl⟩|fail)
            exact Nx.pick [0, 5, 9, 48, 49, 50] N11 rfl rfl rfl ⟨(obs m).length - (i + 1), by omega, i + 1, rfl, by omega, rfl, by rw [hrow]; rfl⟩
      · refine Nx.goL ?_
        obtain rfl : i = (obs m).length := by omega
        repeat' (first|refine qN ?_|refine dN ?_|refine dR ?_|refine d0 ?_|refine qB ?_|refine rT ?_|refine qT ?_|refine qU ?_|refine qL ?_|refine qK ?_|refine qF ?_|refine qE ?_|refine iF (fun h=>?_) (fun h=>?_)|refine aX ?_|refine aA ?_|refine aS ?_|refine aK ?_|refine aI (hn := ?_)|refine aD ?_|refine aR ?_|refine aM ?_|refine qR ?_|refine qS ?_|exact ⟨rfl, rfl⟩|fail)
        exact Nx.pick [0, 5, 9] N11 rfl rfl rfl ⟨(obs m).length - (r + 1), by omega, r + 1, rfl, by omega, rfl, by rw [hA1, ← hon]; rfl⟩
    · refine Nx.goL ?_
      obtain rfl : r = (obs m).length := by omega
      repeat' (first|refine qN ?_|refine dN ?_|refine d0 ?_|refine qB ?_|refine qT ?_|refine qU ?_|refine qL ?_|refine qK ?_|refine qF ?_|refine qE ?_|refine iF (fun h=>?_) (fun h=>?_)|refine aX ?_|refine aA ?_|refine aS ?_|refine aK ?_|refine aI (hn := ?_)|refine aD ?_|refine aR ?_|refine aM ?_|refine qR ?_|refine qS ?_|exact ⟨rfl, rfl⟩|fail)
      exact L_ret (RetQ.pick [0, 1, 2, 3, 4, 5, 6, 7, 8, 9, 10] rfl rfl rfl rfl ⟨rfl, by rw [← hon]; rfl⟩)
end Go.Proofs.YtdpcccjkncagoaaGreatDoor
end
section
namespace Go.Proofs.YtdpcccjkncagoaaGreatDoor
open Go Go.Tum Go.Tum.Base
set_option maxRecDepth 4000
theorem L_mb {P : Program} {n0 : NA} {a : MC} {i : Nat} {Q : Exit → Env → LH → Prop} {K' : Env → LH → Prop} {l : Env} {L : LH} (K : Env → LH → Prop) (ha : LWp P n0 a (blkL i (thenL (Nx n0 K) Q)) l L) (hb : ∀ l L, K l L → K' l L) : LWp P n0 a (blkL i (thenL (Nx n0 K') Q)) l L := by
  refine ha.mono fun e l L h => ?_
  cases e with
  | normal => exact Nx.mono h hb
  | ret => exact h
  | exit j =>
    by_cases hj : j = i
    · subst hj
      simp only [blkL, if_true, beq_self_eq_true] at h ⊢
      exact Nx.mono h hb
    · simp only [blkL, if_neg hj] at h ⊢
      exact h
  | goto i => exact h
  | panic c => exact h
  | outgrown => exact h
def PM2 (m n : HM) (gl : List Gb) : LH :=
  [.dead, .dead, .cells 0 [ptr 3, ptr 16],
   .cells 0 [ptr 4, .int .i64 m.man, .int .i64 (m.man + m.mgd : Nat), ptr 12, ptr 14],
   .cells 0 [.int .i64 m.man, .int .i64 m.mgd, .int .u64 ((1#64).toNat : Int), ptr 5, ptr 7, .int .u64 ((keyW 1#64).toNat : Int), .map (some 9), ptr 10],
   .cells 0 [slB 6 m.bs.length], BL m.bs, .cells 0 [slB 8 m.rs.length], .gro 4 (rowsC PRow.cells m.rs), .imap [] 0,
   .cells 0 [ptr 5, .int .u64 ((keyW 1#64).toNat : Int), .map (some 11)], .imap m.G m.c,
   .cells 0 [slB 13 m.hw.length, .int .i64 (16 * (m.man + m.mgd) : Nat)], .gro 1 (rowsC wordC m.hw),
   .cells 0 [slB 15 m.mw.length, .int .i64 (16 * (m.man + m.mgd) : Nat)], .gro 1 (rowsC wordC m.mw),
   .cells 0 [ptr 17, slB 18 (obs n).length], .cells 0 [.int .i64 n.man, .int .u64 ((keyW 1#64).toNat : Int), slB 19 n.bs.length, slB 20 n.rs.length, slB 21 (n.man + n.mgd), ptr 22],
   .gro 2 (rowsC obC (obs n)), BL n.bs, TB n.rs, .dead, .cells 0 [slB 24 n.bs.length, .int .u64 ((keyW 1#64).toNat : Int), slB 23 gl.length], .gro 2 (rowsC gbC gl), .dead]
abbrev U23 : List Nat := [2, 3, 4, 5, 6, 7, 8, 9, 10, 11, 12, 13, 14, 15, 16, 17, 18, 19, 20, 21, 22, 23, 24]
abbrev UH : List Nat := [3, 4, 5, 6, 7, 8, 9, 10, 11, 12, 13, 14, 15]
abbrev US : List Nat := [3, 4, 5, 6, 7, 8, 9, 10, 11, 12, 13, 14, 15, 25, 26]
structure PlI (N : Nat) (m : HM) (gl : List Gb) : Prop where
  hi : HI m gl
  man : m.man = 1
  mgd : m.mgd = N
theorem PlI.step {N : Nat} {m : HM} {gl : List Gb} (h : PlI N m gl) (o : Op18) (b : Bool) : PlI N (stepM m gl o b).1 (stepM m gl o b).2 := by
  have hz := step_size m gl o b
  exact ⟨h.hi.step o b, hz.1.trans h.man, hz.2.trans h.mgd⟩
set_option maxHeartbeats 4000000 in
theorem played19_tr (b : Int) (hb : 0 ≤ b ∧ b < 256) (nb : Nat) (hnb : nb ≤ 9223372036854775807) (get : Nat → List Value) (op : Nat → Op18) (hop : ∀ i, i < nb → get i = (op i).cells ∧ (op i).In) :
    TrK Tryz.prog [(0, nb * 10, rowG 10 get)] [0] 45 [.int .u8 b, slB 0 nb, .int .i64 40, .bool true] [.dead] (fun v K => v = ptr 1 ∧ ∃ (N : Nat) (m : HM) (gl : List Gb), N ≤ 5 ∧ PlI N m gl ∧ K = PL1 m gl) := by
  obtain ⟨N, hN⟩ : ∃ N : Nat, 1 + b % 5 = N := ⟨(1 + b % 5).toNat, by omega⟩
  have hMk := make18_tr 1 N (by omega) (by omega)
  have hI0 : PlI N (initM 1 N) [] := ⟨HI.init (man := 1) (mgd := N) (by omega) (by omega), rfl, rfl⟩
  generalize initM 1 N = m0 at *
  refine Tr.of row_tumbrellaw19_played_ok rfl ?_
  repeat' (first|refine qN ?_|refine dN ?_|refine dR ?_|refine d0 ?_|refine qB ?_|refine rT ?_|refine qT ?_|refine qU ?_|refine qL ?_|refine qK ?_|refine qF ?_|refine qE ?_|refine iF (fun h=>?_) (fun h=>?_)|refine aX ?_|refine S_Q [] rfl rfl (QY.cvi rfl (wrap64_id (by omega) (by omega))) ?_|refine S_Q [] rfl rfl (QY.add rfl rfl hN (by omega) (by omega)) ?_|(refine cF [] (hMk) ?_; conv => whnf)|refine aA ?_|refine aS ?_|refine aK ?_|refine aI (hn := ?_)|refine aD ?_|refine aR ?_|refine aM ?_|refine sP 26 (fun h=>?_) (fun h=>?_)|refine qR ?_|refine qS ?_|exact ⟨rfl, rfl⟩|fail)
  refine LWp.pick [2, 3, 9, 17, 18, 19] Q24 rfl rfl rfl (L_loop (fun q l K => ∃ (i : Nat) (m : HM) (gl : List Gb), q = nb - i ∧ i ≤ nb ∧ PlI N m gl ∧ l = [(2, .int .i64 40), (3, .bool true), (9, ptr 1), (17, slB 0 nb), (18, .int .i64 nb), (19, .int .i64 i)] ∧ K = PL1 m gl) nb ⟨0, m0, [], rfl, by omega, hI0, rfl, rfl⟩ ?_)
  clear hMk hI0
  rintro q _ _ ⟨i, m, gl, rfl, hi, hI, rfl, rfl⟩
  first|refine L_seq (L_rs (S_done [] rfl (Nx.goL (iF (fun h => L_skip (Nx.goL ?_)) (fun h => L_exit ?_)))))|refine L_rs (S_done [] rfl (Nx.goL (L_seq (iF (fun h => L_skip (Nx.goL ?_)) (fun h => L_exit ?_)))))
  · have hi' : i < nb := by omega
    obtain ⟨e, ho⟩ := hop i hi'
    have hS := step_tr m gl hI.hi (op i) ho true
    have hI' := hI.step (op i) true
    generalize (stepM m gl (op i) true).1 = m' at *
    generalize (stepM m gl (op i) true).2 = gl' at *
    repeat' (first|refine qN ?_|refine dN ?_|refine d0 ?_|refine qB ?_|refine qT ?_|refine qU ?_|refine qL ?_|refine qK ?_|refine qF ?_|refine qE ?_|refine iF (fun h=>?_) (fun h=>?_)|refine aX ?_|refine S_Q (v := .agg ⟨(op i).cells⟩) [] rfl rfl (by rw [← e]; exact QY.rowA (j := 0) i rfl rfl rfl hi' (by rw [e]; rfl) (by rw [e]; rfl)) ?_|(refine cW Q23 (hS) ?_; conv => whnf)|refine aA ?_|refine aS ?_|refine aK ?_|refine aI (hn := ?_)|refine aD ?_|refine aR ?_|refine aM ?_|refine sP 26 (fun h=>?_) (fun h=>?_)|refine qR ?_|refine qS ?_|exact ⟨rfl, rfl⟩|fail)
    all_goals first | (exfalso; omega)|exact Nx.pick [2, 3, 9, 17, 18, 19] Q24 rfl rfl rfl ⟨nb - (i + 1), by omega, i + 1, m', gl', rfl, by omega, hI', rfl, rfl⟩|exact L_ret (RetQ.pick Q24 rfl rfl rfl rfl ⟨rfl, N, m, gl, by omega, hI, rfl⟩)
  · refine Nx.goL ?_
    repeat' (first|refine qN ?_|refine dN ?_|refine d0 ?_|refine qB ?_|refine qT ?_|refine qU ?_|refine qL ?_|refine qK ?_|refine qF ?_|refine qE ?_|refine iF (fun h=>?_) (fun h=>?_)|refine aX ?_|refine aA ?_|refine aS ?_|refine aK ?_|refine aI (hn := ?_)|refine aD ?_|refine aR ?_|refine aM ?_|refine sP 26 (fun h=>?_) (fun h=>?_)|refine qR ?_|refine qS ?_|exact ⟨rfl, rfl⟩|fail)
    exact L_ret (RetQ.pick Q24 rfl rfl rfl rfl ⟨rfl, N, m, gl, by omega, hI, rfl⟩)
end Go.Proofs.YtdpcccjkncagoaaGreatDoor
end
section
namespace Go.Proofs.YtdpcccjkncagoaaGreatDoor
open Go Go.Tum
theorem DoorH.of {w : World} (h : TabOk Tryz.prog (fun _ => False) w) : DoorH (fun _ => False) w := by
  obtain ⟨h1, h2, h3⟩ := h 0 (by kernel_rfl)
  exact ⟨h1, h2, h3⟩
theorem DoorH.tab {w : World} (h : DoorH (fun _ => False) w) : TabOk Tryz.prog (fun _ => False) w := fun g hg => by
  obtain rfl : g = 0 := Option.some.inj (hg.symm.trans (by kernel_rfl))
  exact ⟨h.1, h.2.1, h.2.2⟩
end Go.Proofs.YtdpcccjkncagoaaGreatDoor
end
section
namespace Go.Proofs.YtdpcccjkncagoaaGreatDoor
open Go Go.Tum
def rowsMk : List FnRow := [row_tumbrellaw19_awake, row_region_New, row_gheap_New, row_gheap_Heap_Alloc, row_region_Region_Arena, row_object_SetRef, row_mark_New, row_mark_Marker_Root, row_mark_Marker_Step, row_gheap_Heap_Marked, row_mark_Marker_Looked, row_arena_New, row_link_New, row_pages_New, row_large_New, row_region_Region_Config, row_arena_Arena_Len, row_bitset_New, row_object_Shape_Class, row_gheap_Heap_place, row_region_Region_Pages, row_pages_Table_Map, row_class_Base, row_object_Make, row_bitset_Set_Put, row_object_ref, row_arena_Arena_SetWord, row_gheap_Heap_Has, row_mark_Marker_note, row_mark_Marker_Left, row_gheap_Heap_Region, row_object_Refs, row_bitset_Set_Has, row_link_mix, row_object_Shape_Bytes, row_class_Size, row_gheap_Heap_managed, row_gheap_Heap_row, row_gheap_Heap_slot, row_pages_Row_first, row_pages_Table_cut, row_pages_Table_place, row_class_Slots, row_arena_Arena_Word, row_arena_Arena_Fill, row_object_Shape_word, row_bitset_Set_in, row_object_Head, row_object_field, row_arena_Arena_word, row_num_Put, row_gheap_Heap_Mark, row_object_Ref, row_object_Shape_may, row_class_may, row_pages_Table_Row, row_pages_Table_Len, row_pages_Row_free, row_num_Get, row_arena_Arena_in, row_bitset_Set_Len]
theorem rowsMk_ok : ∀ x ∈ rowsMk, x.Ok Tryz.prog := by
  refine List.forall_mem_cons.2 ⟨row_tumbrellaw19_awake_ok, ?_⟩
  refine List.forall_mem_cons.2 ⟨row_region_New_ok, ?_⟩
  refine List.forall_mem_cons.2 ⟨row_gheap_New_ok, ?_⟩
  refine List.forall_mem_cons.2 ⟨row_gheap_Heap_Alloc_ok, ?_⟩
  refine List.forall_mem_cons.2 ⟨row_region_Region_Arena_ok, ?_⟩
  refine List.forall_mem_cons.2 ⟨row_object_SetRef_ok, ?_⟩
  refine List.forall_mem_cons.2 ⟨row_mark_New_ok, ?_⟩
  refine List.forall_mem_cons.2 ⟨row_mark_Marker_Root_ok, ?_⟩
  refine List.forall_mem_cons.2 ⟨row_mark_Marker_Step_ok, ?_⟩
  refine List.forall_mem_cons.2 ⟨row_gheap_Heap_Marked_ok, ?_⟩
  refine List.forall_mem_cons.2 ⟨row_mark_Marker_Looked_ok, ?_⟩
  refine List.forall_mem_cons.2 ⟨row_arena_New_ok, ?_⟩
  refine List.forall_mem_cons.2 ⟨row_link_New_ok, ?_⟩
  refine List.forall_mem_cons.2 ⟨row_pages_New_ok, ?_⟩
  refine List.forall_mem_cons.2 ⟨row_large_New_ok, ?_⟩
  refine List.forall_mem_cons.2 ⟨row_region_Region_Config_ok, ?_⟩
  refine List.forall_mem_cons.2 ⟨row_arena_Arena_Len_ok, ?_⟩
  refine List.forall_mem_cons.2 ⟨row_bitset_New_ok, ?_⟩
  refine List.forall_mem_cons.2 ⟨row_object_Shape_Class_ok, ?_⟩
  refine List.forall_mem_cons.2 ⟨row_gheap_Heap_place_ok, ?_⟩
  refine List.forall_mem_cons.2 ⟨row_region_Region_Pages_ok, ?_⟩
  refine List.forall_mem_cons.2 ⟨row_pages_Table_Map_ok, ?_⟩
  refine List.forall_mem_cons.2 ⟨row_class_Base_ok, ?_⟩
  refine List.forall_mem_cons.2 ⟨row_object_Make_ok, ?_⟩
  refine List.forall_mem_cons.2 ⟨row_bitset_Set_Put_ok, ?_⟩
  refine List.forall_mem_cons.2 ⟨row_object_ref_ok, ?_⟩
  refine List.forall_mem_cons.2 ⟨row_arena_Arena_SetWord_ok, ?_⟩
  refine List.forall_mem_cons.2 ⟨row_gheap_Heap_Has_ok, ?_⟩
  refine List.forall_mem_cons.2 ⟨row_mark_Marker_note_ok, ?_⟩
  refine List.forall_mem_cons.2 ⟨row_mark_Marker_Left_ok, ?_⟩
  refine List.forall_mem_cons.2 ⟨row_gheap_Heap_Region_ok, ?_⟩
  refine List.forall_mem_cons.2 ⟨row_object_Refs_ok, ?_⟩
  refine List.forall_mem_cons.2 ⟨row_bitset_Set_Has_ok, ?_⟩
  refine List.forall_mem_cons.2 ⟨row_link_mix_ok, ?_⟩
  refine List.forall_mem_cons.2 ⟨row_object_Shape_Bytes_ok, ?_⟩
  refine List.forall_mem_cons.2 ⟨row_class_Size_ok, ?_⟩
  refine List.forall_mem_cons.2 ⟨row_gheap_Heap_managed_ok, ?_⟩
  refine List.forall_mem_cons.2 ⟨row_gheap_Heap_row_ok, ?_⟩
  refine List.forall_mem_cons.2 ⟨row_gheap_Heap_slot_ok, ?_⟩
  refine List.forall_mem_cons.2 ⟨row_pages_Row_first_ok, ?_⟩
  refine List.forall_mem_cons.2 ⟨row_pages_Table_cut_ok, ?_⟩
  refine List.forall_mem_cons.2 ⟨row_pages_Table_place_ok, ?_⟩
  refine List.forall_mem_cons.2 ⟨row_class_Slots_ok, ?_⟩
  refine List.forall_mem_cons.2 ⟨row_arena_Arena_Word_ok, ?_⟩
  refine List.forall_mem_cons.2 ⟨row_arena_Arena_Fill_ok, ?_⟩
  refine List.forall_mem_cons.2 ⟨row_object_Shape_word_ok, ?_⟩
  refine List.forall_mem_cons.2 ⟨row_bitset_Set_in_ok, ?_⟩
  refine List.forall_mem_cons.2 ⟨row_object_Head_ok, ?_⟩
  refine List.forall_mem_cons.2 ⟨row_object_field_ok, ?_⟩
  refine List.forall_mem_cons.2 ⟨row_arena_Arena_word_ok, ?_⟩
  refine List.forall_mem_cons.2 ⟨row_num_Put_ok, ?_⟩
  refine List.forall_mem_cons.2 ⟨row_gheap_Heap_Mark_ok, ?_⟩
  refine List.forall_mem_cons.2 ⟨row_object_Ref_ok, ?_⟩
  refine List.forall_mem_cons.2 ⟨row_object_Shape_may_ok, ?_⟩
  refine List.forall_mem_cons.2 ⟨row_class_may_ok, ?_⟩
  refine List.forall_mem_cons.2 ⟨row_pages_Table_Row_ok, ?_⟩
  refine List.forall_mem_cons.2 ⟨row_pages_Table_Len_ok, ?_⟩
  refine List.forall_mem_cons.2 ⟨row_pages_Row_free_ok, ?_⟩
  refine List.forall_mem_cons.2 ⟨row_num_Get_ok, ?_⟩
  refine List.forall_mem_cons.2 ⟨row_arena_Arena_in_ok, ?_⟩
  refine List.forall_mem_cons.2 ⟨row_bitset_Set_Len_ok, ?_⟩
  exact fun x hx => by cases hx
theorem awake19_tr : Tr Tryz.prog 53 [] [] (fun v K => v = .bool true ∧ K = []) :=
  Tr.closedT (by kernel_rfl) rfl rfl fun w hw => closed_callH (vs := []) (fuel := 5000) ovTZ_ok rowsMk_ok (rawQ1_ok _) (rawE2_ok _) rfl rfl rfl (by kernel_rfl) w (DoorH.of hw)
end Go.Proofs.YtdpcccjkncagoaaGreatDoor
end
section
namespace Go.Proofs.YtdpcccjkncagoaaGreatDoor
open Go Go.Tum Go.Tum.Base
set_option maxRecDepth 4000
theorem QY.ldA1 {P : Program} {n0 : NA} {l : Env} {L : LH} {x : Operand} {k i n j : Nat} {f : Nat → List Value} {a : Int} (hx : lv l x = some (.pointer (some ⟨k, i * 1, none⟩))) (hA : n0.A[j]? = some (k, n * 1, rowG 1 f)) (hi : i < n) (hf : f i = [.int .i64 a]) : QY P n0 L l (.ld x) (.int .i64 a) :=
  QY.ldA hx hA (by omega) (rowG_at (i := i) (j := 0) (sz := 1) (by rw [hf]; rfl) (by rw [hf]; rfl)) rfl
def MR2 (m n : HM) (gl : List Gb) (xs : List Int) (k c : Nat) (w : List Int) : LH := PM2 m n gl ++ [.cells 0 [ptr 3, .slice (some ⟨26, 0, none⟩) k xs.length, .int .i64 c], .gro 1 (rowsC intC xs), .gro 1 (rowsC intC w)]
abbrev U28 : List Nat := [0, 1, 2, 3, 4, 5, 6, 7, 8, 9, 10, 11, 12, 13, 14, 15, 16, 17, 18, 19, 20, 21, 22, 23, 24, 25, 26, 27]
set_option maxHeartbeats 8000000 in
theorem MarkReaches_tr (b : Int) (hb : 0 ≤ b ∧ b < 256) (nb : Nat) (hnb : nb ≤ 9223372036854775807) (get : Nat → List Value) (op : Nat → Op18) (hop : ∀ i, i < nb → get i = (op i).cells ∧ (op i).In)
    (nr : Nat) (hnr : nr ≤ 9223372036854775807) (getr : Nat → List Value) (wh : Nat → Int) (hwh : ∀ i, i < nr → getr i = [.int .i64 (wh i)] ∧ inI (wh i)) :
    TrK Tryz.prog [(0, nb * 10, rowG 10 get), (1, nr * 1, rowG 1 getr)] [0, 1] 9 [.int .u8 b, slB 0 nb, slB 1 nr] [.dead, .dead] (fun v _ => v = .bool true) := by
  have hPl := played19_tr b hb nb hnb get op hop
  have hAw := awake19_tr
  refine Tr.of row_tumbrellaw19_MarkReaches_ok rfl ?_
  repeat' (first|refine qN ?_|refine dN ?_|refine dR ?_|refine d0 ?_|refine qB ?_|refine rT ?_|refine qT ?_|refine qU ?_|refine qL ?_|refine qK ?_|refine qF ?_|refine qE ?_|refine iF (fun h=>?_) (fun h=>?_)|refine aX ?_|refine aA ?_|refine aS ?_|refine aK ?_|refine aI (hn := ?_)|refine aD ?_|refine aR ?_|refine aM ?_|refine sP 58 (fun h=>?_) (fun h=>?_)|refine sP 103 (fun h=>?_) (fun h=>?_)|refine sP 108 (fun h=>?_) (fun h=>?_)|refine sP 114 (fun h=>?_) (fun h=>?_)|refine qR ?_|refine qS ?_|exact ⟨rfl, rfl⟩|fail)
  refine S_E [] rfl rfl (EW.callA [0] hPl rfl rfl (Part.of (by decide) (by repeat' (first|exact trivial|refine ⟨rfl, ?_⟩ | fail))) (by intro y hy; cases List.mem_singleton.1 hy; exact ⟨rfl, 0, rfl, List.mem_cons_self ..⟩)) ?_
  rintro _ _ ⟨_, _, ⟨rfl, N, m0, gl, hN5, hP, rfl⟩, rfl, rfl⟩
  refine ⟨(by repeat' (first|exact trivial|refine ⟨⟨qsafe_ok (st := []) rfl, Sure.of rfl⟩, ?_⟩|refine ⟨.inl rfl, ?_⟩|refine ⟨.inr ⟨qsafe_ok (st := []) rfl, Sure.of rfl⟩, ?_⟩|refine ⟨⟨qsafe_ok (st := []) rfl, Sure.slice (by omega)⟩, ?_⟩|refine ⟨.inr ⟨qsafe_ok (st := []) rfl, Sure.slice (by omega)⟩, ?_⟩|refine ⟨.inr ⟨QY.neqB rfl (by kernel_rfl) rfl rfl, Sure.of rfl⟩, ?_⟩|refine ⟨.inr ⟨QY.eqlB rfl (by kernel_rfl) rfl rfl, Sure.of rfl⟩, ?_⟩ | fail)), LSt.nf ?_⟩
  conv => whnf
  clear hPl hop
  have hI0 := hP.hi
  have hman := hP.man
  have hmgd := hP.mgd
  have hUn := hUnmark_u m0 hI0.toHOk
  have hI1 := hI0.unmark
  have hm1 : unmarkM m0 = { m0 with mw := (unmarkM m0).mw } := rfl
  have h01 : ∀ i, bitAt (unmarkM m0).mw i = false := fun i => bitAt_zero _ _
  generalize unmarkM m0 = m1 at *
  have hNw := mNew_tr m1
  repeat' (first|refine qN ?_|refine dN ?_|refine dR ?_|refine d0 ?_|refine qB ?_|refine rT ?_|refine qT ?_|refine qU ?_|refine qL ?_|refine qK ?_|refine qF ?_|refine qE ?_|refine iF (fun h=>?_) (fun h=>?_)|refine aX ?_|(refine cW UH (hUn) ?_; conv => whnf)|(refine cF UH (hNw) ?_; conv => whnf)|refine aA ?_|refine aS ?_|refine aK ?_|refine aI (hn := ?_)|refine aD ?_|refine aR ?_|refine aM ?_|refine sP 58 (fun h=>?_) (fun h=>?_)|refine sP 103 (fun h=>?_) (fun h=>?_)|refine sP 108 (fun h=>?_) (fun h=>?_)|refine sP 114 (fun h=>?_) (fun h=>?_)|refine qR ?_|refine qS ?_|exact ⟨rfl, rfl⟩|fail)
  clear hUn hNw
  have hM0 := MkR.first hI1 h01 []
  have hman1 : m1.man = m0.man := by rw [hm1]
  have hmgd1 : m1.mgd = m0.mgd := by rw [hm1]
  refine LWp.nilE 9 1 rfl ?_
  refine L_mb (fun l L => ∃ (m : HM) (xs : List Int) (k : Nat) (w : List Int), MkR m1 gl w (m, xs, k) 0 ∧ w.length ≤ 8 ∧ xs.length ≤ 8 ∧ l = [(7, ptr 2), (8, ptr 25), (9, slB 27 w.length)] ∧ L = MR2 m m0 gl xs k 0 w) ?_ ?_
  · refine LWp.pick [7, 8, 9, 32, 33, 34] U28 rfl rfl rfl (L_loop (fun q l K => ∃ (i : Nat) (m : HM) (xs : List Int) (k : Nat) (w : List Int), q = nr - i ∧ i ≤ nr ∧ MkR m1 gl w (m, xs, k) 0 ∧ w.length ≤ i ∧ xs.length ≤ i ∧ i ≤ 8 ∧ l = [(7, ptr 2), (8, ptr 25), (9, slB 27 w.length), (32, slB 1 nr), (33, .int .i64 nr), (34, .int .i64 i)] ∧ K = MR2 m m0 gl xs k 0 w) nr ⟨0, m1, [], 0, [], rfl, by omega, hM0, Nat.le_refl _, Nat.le_refl _, by omega, rfl, rfl⟩ ?_)
    clear hM0
    rintro q _ _ ⟨i, m, xs, k, w, rfl, hi, hM, hwl, hxl, hi8, rfl, rfl⟩
    first|refine L_seq (L_rs (S_done [] rfl (Nx.goL (iF (fun h => L_skip (Nx.goL ?_)) (fun h => L_exit ?_)))))|refine L_rs (S_done [] rfl (Nx.goL (L_seq (iF (fun h => L_skip (Nx.goL ?_)) (fun h => L_exit ?_)))))
    · have hi' : i < nr := by omega
      obtain ⟨e, ho⟩ := hwh i hi'
      generalize wh i = wi at *
      by_cases h8 : i < 8
      · have hRt := root19_tr m m0 gl ⟨0, wi, wi, 0, 0, 0, 0, 0, 0, 0⟩
        have ha := (atP_in hI0.toHOk wi ho).2
        simp only at hRt
        generalize atP m0 wi wi = a at *
        have hok : HOk m := hM.hi.toHOk
        have hle := hM.le
        have hP := mRoot_tr m hok a ha xs k 0 hle (by omega)
        have hM' := hM.root a
        have hl := (le_note (x := (m, xs, k)) hle a).2.1
        change (noteS m xs k a).length ≤ xs.length + 1 at hl
        change MkR m1 gl (w ++ [a]) (markR m a, noteS m xs k a, noteK m k a) 0 at hM'
        have hsm := hM.same
        simp only at hsm
        have hhas : hasH m a = hasH m1 a := by rw [hsm]; rfl
        clear hsm
        by_cases hc : a < 0 ∨ hasH m a = true
        · rw [if_pos hc] at hP
          generalize markR m a = m' at *
          generalize noteS m xs k a = xs' at *
          generalize noteK m k a = k' at *
          repeat' (first|refine qN ?_|refine dN ?_|refine dR ?_|refine d0 ?_|refine qB ?_|refine rT ?_|refine qT ?_|refine qU ?_|refine qL ?_|refine qK ?_|refine qF ?_|refine qE ?_|refine iF (fun h=>?_) (fun h=>?_)|refine aX ?_|refine S_Q [] rfl rfl (QY.ldA1 (j := 1) rfl rfl hi' e) ?_|refine cP U23 (hRt) ?_|(refine cW US (hP) ?_; conv => whnf)|refine aA ?_|refine aS ?_|refine aK ?_|refine aI (hn := ?_)|refine aD ?_|refine aR ?_|refine aM ?_|refine sP 58 (fun h=>?_) (fun h=>?_)|refine sP 103 (fun h=>?_) (fun h=>?_)|refine sP 108 (fun h=>?_) (fun h=>?_)|refine sP 114 (fun h=>?_) (fun h=>?_)|refine qR ?_|refine qS ?_|exact ⟨rfl, rfl⟩|fail)
          all_goals try (exfalso; omega)
          first|refine L_rs ?_|refine L_reg ?_ | skip
          refine eE rfl rfl (EW.appR1 (bytes := 8) (a := a) intC_ok rfl (by kernel_rfl) rfl rfl rfl rfl rfl (by omega)) ?_
          conv => whnf
          repeat' (first|refine qN ?_|refine dN ?_|refine dR ?_|refine d0 ?_|refine qB ?_|refine rT ?_|refine qT ?_|refine qU ?_|refine qL ?_|refine qK ?_|refine qF ?_|refine qE ?_|refine iF (fun h=>?_) (fun h=>?_)|refine aX ?_|refine aA ?_|refine aS ?_|refine aK ?_|refine aI (hn := ?_)|refine aD ?_|refine aR ?_|refine aM ?_|refine sP 58 (fun h=>?_) (fun h=>?_)|refine sP 103 (fun h=>?_) (fun h=>?_)|refine sP 108 (fun h=>?_) (fun h=>?_)|refine sP 114 (fun h=>?_) (fun h=>?_)|refine qR ?_|refine qS ?_|exact ⟨rfl, rfl⟩|fail)
          exact Nx.pick [7, 8, 9, 32, 33, 34] [0, 1, 2, 3, 4, 5, 6, 7, 8, 9, 10, 11, 12, 13, 14, 15, 16, 17, 18, 19, 20, 21, 22, 23, 24, 25, 26, 29] rfl rfl rfl ⟨nr - (i + 1), by omega, i + 1, m', xs', k', w ++ [a], rfl, by omega, hM', by simp; omega, by omega, by omega, by rw [show (w ++ [a]).length = w.length + 1 from List.length_append]; rfl, rfl⟩
        · rw [if_neg hc] at hP
          have hM'' := hM'.less (by rw [← hhas]; simpa using fun h => hc (.inr h))
          generalize markR m a = m' at *
          generalize noteS m xs k a = xs' at *
          generalize noteK m k a = k' at *
          repeat' (first|refine qN ?_|refine dN ?_|refine dR ?_|refine d0 ?_|refine qB ?_|refine rT ?_|refine qT ?_|refine qU ?_|refine qL ?_|refine qK ?_|refine qF ?_|refine qE ?_|refine iF (fun h=>?_) (fun h=>?_)|refine aX ?_|refine S_Q [] rfl rfl (QY.ldA1 (j := 1) rfl rfl hi' e) ?_|refine cP U23 (hRt) ?_|(refine cW US (hP) ?_; conv => whnf)|refine aA ?_|refine aS ?_|refine aK ?_|refine aI (hn := ?_)|refine aD ?_|refine aR ?_|refine aM ?_|refine sP 58 (fun h=>?_) (fun h=>?_)|refine sP 103 (fun h=>?_) (fun h=>?_)|refine sP 108 (fun h=>?_) (fun h=>?_)|refine sP 114 (fun h=>?_) (fun h=>?_)|refine qR ?_|refine qS ?_|exact ⟨rfl, rfl⟩|fail)
          all_goals first | (exfalso; omega)|exact absurd rfl h|exact Nx.pick [7, 8, 9, 32, 33, 34] U28 rfl rfl rfl ⟨nr - (i + 1), by omega, i + 1, m', xs', k', w, rfl, by omega, hM'', by omega, by omega, by omega, rfl, rfl⟩
      · repeat' (first|refine qN ?_|refine dN ?_|refine dR ?_|refine d0 ?_|refine qB ?_|refine rT ?_|refine qT ?_|refine qU ?_|refine qL ?_|refine qK ?_|refine qE ?_|refine iF (fun h=>?_) (fun h=>?_)|refine aX ?_|refine S_Q [] rfl rfl (QY.ldA1 (j := 1) rfl rfl hi' e) ?_|refine aA ?_|refine aS ?_|refine aK ?_|refine aI (hn := ?_)|refine aD ?_|refine aR ?_|refine aM ?_|refine sP 58 (fun h=>?_) (fun h=>?_)|refine sP 103 (fun h=>?_) (fun h=>?_)|refine sP 108 (fun h=>?_) (fun h=>?_)|refine sP 114 (fun h=>?_) (fun h=>?_)|refine qR ?_|refine qS ?_|exact ⟨rfl, rfl⟩|fail)
        all_goals try (exfalso; omega)
        show Nx _ _ _ _
        exact Nx.pick [7, 8, 9] U28 rfl rfl rfl ⟨m, xs, k, w, hM, by omega, by omega, rfl, rfl⟩
    · show Nx _ _ _ _
      exact Nx.pick [7, 8, 9] U28 rfl rfl rfl ⟨m, xs, k, w, hM, by omega, by omega, rfl, rfl⟩
  clear hwh
  rintro _ _ ⟨m, xs, k, w, hM, hwl, hxl, rfl, rfl⟩
  repeat' (first|refine qN ?_|refine dN ?_|refine dR ?_|refine d0 ?_|refine qB ?_|refine rT ?_|refine qT ?_|refine qU ?_|refine qL ?_|refine qK ?_|refine qF ?_|refine qE ?_|refine iF (fun h=>?_) (fun h=>?_)|refine aX ?_|refine aA ?_|refine aS ?_|refine aK ?_|refine aI (hn := ?_)|refine aD ?_|refine aR ?_|refine aM ?_|refine sP 58 (fun h=>?_) (fun h=>?_)|refine sP 103 (fun h=>?_) (fun h=>?_)|refine sP 108 (fun h=>?_) (fun h=>?_)|refine sP 114 (fun h=>?_) (fun h=>?_)|refine qR ?_|refine qS ?_|exact ⟨rfl, rfl⟩|fail)
  refine L_mb (fun l L => ∃ (m : HM) (xs : List Int) (n : Nat), MkR m1 gl w (m, xs, 0) n ∧ n < 400 ∧ l = [(7, ptr 2), (8, ptr 25), (9, slB 27 w.length), (13, .int .i64 n)] ∧ L = MR2 m m0 gl xs 0 n w) ?_ ?_
  · refine LWp.pick [7, 8, 9, 13] U28 rfl rfl rfl (L_loop (fun q l K => ∃ (n : Nat) (m : HM) (xs : List Int) (k : Nat), q = 400 - n ∧ n ≤ 400 ∧ MkR m1 gl w (m, xs, k) n ∧ xs.length ≤ 8 + 16 * n ∧ l = [(7, ptr 2), (8, ptr 25), (9, slB 27 w.length), (13, .int .i64 n)] ∧ K = MR2 m m0 gl xs k n w) 400 ⟨0, m, xs, k, rfl, by omega, hM, by omega, rfl, rfl⟩ ?_)
    clear hM hxl
    clear m xs k
    rintro q _ _ ⟨n, m, xs, k, rfl, hn, hM, hxl, rfl, rfl⟩
    have hfew := hM.few
    have hsm := hM.same
    simp only at hfew hsm
    have hs1 : m.man = m1.man := by rw [hsm]
    have hs2 : m.mgd = m1.mgd := by rw [hsm]
    have hL := mLeft_tr m xs k xs.length n
    clear hsm
    cases k with
    | zero =>
      repeat' (first|refine qN ?_|refine dN ?_|refine dR ?_|refine d0 ?_|refine qB ?_|refine rT ?_|refine qT ?_|refine qU ?_|refine qL ?_|refine qK ?_|refine qF ?_|refine qE ?_|refine iF (fun h=>?_) (fun h=>?_)|refine aX ?_|refine cP US (hL) ?_|refine aA ?_|refine aS ?_|refine aK ?_|refine aI (hn := ?_)|refine aD ?_|refine aR ?_|refine aM ?_|refine sP 58 (fun h=>?_) (fun h=>?_)|refine sP 103 (fun h=>?_) (fun h=>?_)|refine sP 108 (fun h=>?_) (fun h=>?_)|refine sP 114 (fun h=>?_) (fun h=>?_)|refine qR ?_|refine qS ?_|exact ⟨rfl, rfl⟩|fail)
      all_goals first | (exfalso; omega)|exact Nx.pick [7, 8, 9, 13] U28 rfl rfl rfl ⟨m, xs, n, hM, by omega, rfl, rfl⟩
    | succ k =>
      have hle := hM.le
      simp only at hle
      have hg : xs[k]? = some xs[k] := List.getElem?_eq_getElem (by omega)
      obtain ⟨i0, e, hio, _⟩ := hM.stm xs[k] (by unfold stk; simp only; rw [List.take_succ_eq_append_getElem (by omega)]; exact List.mem_append_right _ (List.mem_singleton.2 rfl))
      rw [e] at hg
      obtain ⟨hio, _⟩ := objN_mem.1 hio
      have hS := mStep_ok m gl hM.hi xs k n i0 hg (by omega) (by omega) (by omega)
      have hM' := hM.step hg
      have hl := (le_notes (x := (m, xs, k)) (l := refsF m.bs (16 * i0)) (by show k ≤ xs.length; omega)).2
      have h15 := refsF_len m.bs (16 * i0)
      simp only at hl
      generalize ntA (m, xs, k) (refsF m.bs (16 * i0)) = y at *
      obtain ⟨m', xs', k'⟩ := y
      simp only at hS hl
      repeat' (first|refine qN ?_|refine dN ?_|refine dR ?_|refine d0 ?_|refine qB ?_|refine rT ?_|refine qT ?_|refine qU ?_|refine qL ?_|refine qK ?_|refine qF ?_|refine qE ?_|refine iF (fun h=>?_) (fun h=>?_)|refine aX ?_|refine cP US (hL) ?_|(refine cW US (hS) ?_; conv => whnf)|refine aA ?_|refine aS ?_|refine aK ?_|refine aI (hn := ?_)|refine aD ?_|refine aR ?_|refine aM ?_|refine sP 58 (fun h=>?_) (fun h=>?_)|refine sP 103 (fun h=>?_) (fun h=>?_)|refine sP 108 (fun h=>?_) (fun h=>?_)|refine sP 114 (fun h=>?_) (fun h=>?_)|refine qR ?_|refine qS ?_|exact ⟨rfl, rfl⟩|fail)
      all_goals first | (exfalso; omega)|exact Nx.pick [7, 8, 9, 13] U28 rfl rfl rfl ⟨400 - (n + 1), by omega, n + 1, m', xs', k', rfl, by omega, hM', by omega, rfl, rfl⟩
  clear hM hxl
  clear m xs k
  rintro _ _ ⟨m, xs, n, hM, hn, rfl, rfl⟩
  have hRe := rReached_tr m0 gl hI0 w (by omega)
  repeat' (first|refine qN ?_|refine dN ?_|refine dR ?_|refine d0 ?_|refine qB ?_|refine rT ?_|refine qT ?_|refine qU ?_|refine qL ?_|refine qK ?_|refine qF ?_|refine qE ?_|refine iF (fun h=>?_) (fun h=>?_)|refine aX ?_|(refine cF [16, 17, 18, 19, 20, 21, 22, 23, 24, 27] (hRe) ?_; conv => whnf)|refine aA ?_|refine aS ?_|refine aK ?_|refine aI (hn := ?_)|refine aD ?_|refine aR ?_|refine aM ?_|refine sP 58 (fun h=>?_) (fun h=>?_)|refine sP 103 (fun h=>?_) (fun h=>?_)|refine sP 108 (fun h=>?_) (fun h=>?_)|refine sP 114 (fun h=>?_) (fun h=>?_)|refine qR ?_|refine qS ?_|exact ⟨rfl, rfl⟩|fail)
  have hsm := hM.same
  simp only at hsm
  have hs1 : m.man = m1.man := by rw [hsm]
  have hs2 : m.mgd = m1.mgd := by rw [hsm]
  have hhw : m.hw = m1.hw := by rw [hsm]
  have hob : objN m1 = objN m0 := by rw [hm1]; rfl
  have hal := hM.all rfl
  rw [hob] at hal
  have hal0 : rAll m1 w (objN m0).length = rAll m0 w (objN m0).length := by rw [hm1]; exact rAll_mw ..
  rw [← hal0, hal]
  simp only
  have hcn := hM.cnt
  have hcb := cnt_bits m
  rw [hM.objs, hob] at hcb
  have hol : (obs m0).length = (objN m0).length := by unfold obs; rw [List.length_map]
  have hol2 := obs_len hI0.toHOk
  obtain ⟨o, ho⟩ : ∃ o, o = (objN m0).map fun i => bitAt m.mw i := ⟨_, rfl⟩
  rw [← ho] at hcb ⊢
  have hok := hM.hi.toHOk
  clear hRe hal hal0 hM hsm
  refine LWp.pick [7, 8, 13, 14, 71, 72, 73] [0, 1, 2, 3, 4, 5, 6, 7, 8, 9, 10, 11, 12, 13, 14, 15, 16, 17, 18, 19, 20, 21, 22, 23, 24, 25, 26, 28] rfl rfl rfl (L_loop (fun q l K => ∃ i : Nat, q = (obs m0).length - i ∧ i ≤ (obs m0).length ∧ l = [(7, ptr 2), (8, ptr 25), (13, .int .i64 n), (14, .int .i64 (cntT o i)), (71, slB 27 (obs m0).length), (72, .int .i64 (obs m0).length), (73, .int .i64 i)] ∧ K = PM2 m m0 gl ++ [.cells 0 [ptr 3, .slice (some ⟨26, 0, none⟩) 0 xs.length, .int .i64 n], .gro 1 (rowsC intC xs), .gro 1 (rowsC boolC o)]) (obs m0).length ⟨0, rfl, by omega, rfl, rfl⟩ ?_)
  rintro q _ _ ⟨i, rfl, hi, rfl, rfl⟩
  first|refine L_seq (L_rs (S_done [] rfl (Nx.goL (iF (fun h => L_skip (Nx.goL ?_)) (fun h => L_exit ?_)))))|refine L_rs (S_done [] rfl (Nx.goL (L_seq (iF (fun h => L_skip (Nx.goL ?_)) (fun h => L_exit ?_)))))
  · have hi2 : i < (objN m0).length := by omega
    have g0 : (objN m0)[i]? = some (objN m0)[i] := List.getElem?_eq_getElem hi2
    obtain ⟨c, hc⟩ : ∃ c, c = (objN m0)[i] := ⟨_, rfl⟩
    rw [← hc] at g0
    have g1 : (obs m0)[i]? = some (((16 * c : Nat) : Int), bitAt m0.mw c) := by unfold obs; rw [List.getElem?_map, g0]; rfl
    have g2 : o[i]? = some (bitAt m.mw c) := by rw [ho, List.getElem?_map, g0]; rfl
    obtain ⟨g3, g4⟩ := objN_mem.1 (List.mem_of_getElem? g0)
    have hMd := hMarked_ok m hok c (by omega) (by rw [hhw, hm1]; exact g4)
    have hs := cntT_succ g2
    have hle := cntT_le o i
    have hle2 : o.length = (objN m0).length := by rw [ho, List.length_map]
    generalize bitAt m0.mw c = mb at *
    generalize bitAt m.mw c = is at *
    clear hcb hcn hob ho g0 g4 hc hAw
    cases is
    · rw [if_neg (by decide)] at hs
      repeat' (first|refine qN ?_|refine dN ?_|refine dR ?_|refine d0 ?_|refine qB ?_|refine rT ?_|refine qT ?_|refine qU ?_|refine qL ?_|refine qK ?_|refine qF ?_|refine qE ?_|refine iF (fun h=>?_) (fun h=>?_)|refine aX ?_|refine S_Q [] rfl rfl (QY.ldB rfl rfl g2) ?_|refine S_Q [] rfl rfl (QY.ldF (j := 0) (u := .int .i64 (16 * c : Nat)) obC_ok rfl rfl g1 rfl rfl) ?_|refine cP UH (hMd) ?_|refine S_Q [] rfl rfl (QY.neqB rfl (by kernel_rfl) rfl rfl) ?_|refine aA ?_|refine aS ?_|refine aK ?_|refine aI (hn := ?_)|refine aD ?_|refine aR ?_|refine aM ?_|refine sP 58 (fun h=>?_) (fun h=>?_)|refine sP 103 (fun h=>?_) (fun h=>?_)|refine sP 108 (fun h=>?_) (fun h=>?_)|refine sP 114 (fun h=>?_) (fun h=>?_)|refine qR ?_|refine qS ?_|exact ⟨rfl, rfl⟩|fail)
      all_goals first|exact absurd rfl h|exact Nx.pick [7, 8, 13, 14, 71, 72, 73] U28 rfl rfl rfl ⟨(obs m0).length - (i + 1), by omega, i + 1, rfl, by omega, by rw [hs]; rfl, rfl⟩
    · rw [if_pos rfl] at hs
      repeat' (first|refine qN ?_|refine dN ?_|refine dR ?_|refine d0 ?_|refine qB ?_|refine rT ?_|refine qT ?_|refine qU ?_|refine qL ?_|refine qK ?_|refine qF ?_|refine qE ?_|refine iF (fun h=>?_) (fun h=>?_)|refine aX ?_|refine S_Q [] rfl rfl (QY.ldB rfl rfl g2) ?_|refine S_Q [] rfl rfl (QY.ldF (j := 0) (u := .int .i64 (16 * c : Nat)) obC_ok rfl rfl g1 rfl rfl) ?_|refine cP UH (hMd) ?_|refine S_Q [] rfl rfl (QY.neqB rfl (by kernel_rfl) rfl rfl) ?_|refine aA ?_|refine aS ?_|refine aK ?_|refine aI (hn := ?_)|refine aD ?_|refine aR ?_|refine aM ?_|refine sP 58 (fun h=>?_) (fun h=>?_)|refine sP 103 (fun h=>?_) (fun h=>?_)|refine sP 108 (fun h=>?_) (fun h=>?_)|refine sP 114 (fun h=>?_) (fun h=>?_)|refine qR ?_|refine qS ?_|exact ⟨rfl, rfl⟩|fail)
      all_goals first|exact absurd rfl h|exact Nx.pick [7, 8, 13, 14, 71, 72, 73] U28 rfl rfl rfl ⟨(obs m0).length - (i + 1), by omega, i + 1, rfl, by omega, by rw [hs]; rfl, rfl⟩
  · refine Nx.goL ?_
    have hi3 : i = o.length := by rw [ho, List.length_map]; omega
    have hcn2 : cntT o i = n := by rw [hi3]; rw [show o.length = (objN m0).length by rw [ho, List.length_map], hcb, hcn]; rfl
    rw [hcn2]
    have hL := mLeft_tr m xs 0 xs.length n
    have hK := mLooked_tr m xs 0 xs.length n
    clear hcb hcn hob ho hi3 hcn2
    repeat' (first|refine qN ?_|refine dN ?_|refine dR ?_|refine d0 ?_|refine qB ?_|refine rT ?_|refine qT ?_|refine qU ?_|refine qL ?_|refine qK ?_|refine qF ?_|refine qE ?_|refine iF (fun h=>?_) (fun h=>?_)|refine aX ?_|refine cP US (hL) ?_|refine cP US (hK) ?_|refine cP [] (hAw) ?_|refine aA ?_|refine aS ?_|refine aK ?_|refine aI (hn := ?_)|refine aD ?_|refine aR ?_|refine aM ?_|refine sP 58 (fun h=>?_) (fun h=>?_)|refine sP 103 (fun h=>?_) (fun h=>?_)|refine sP 108 (fun h=>?_) (fun h=>?_)|refine sP 114 (fun h=>?_) (fun h=>?_)|refine qR ?_|refine qS ?_|exact ⟨rfl, rfl⟩|fail)
    all_goals first | (exfalso; omega)|exact absurd rfl h|exact rfl
end Go.Proofs.YtdpcccjkncagoaaGreatDoor
end
section
namespace Go.Proofs.YtdpcccjkncagoaaGreatDoor
open Go Go.Tum Go.Tum.Base Go.Deep
theorem op18_in {cs : List Value} (h : Fits [some .i64, some .i64, some .i64, some .i64, some .i64, some .i64, some .i64, some .u64, some .i64, some .i64] cs) : ∃ o : Op18, cs = o.cells ∧ o.In := by
  obtain ⟨a, _, rfl, wa, h⟩ := h.int
  obtain ⟨b, _, rfl, wb, h⟩ := h.int
  obtain ⟨c, _, rfl, wc, h⟩ := h.int
  obtain ⟨d, _, rfl, wd, h⟩ := h.int
  obtain ⟨e, _, rfl, we, h⟩ := h.int
  obtain ⟨f, _, rfl, wf, h⟩ := h.int
  obtain ⟨g, _, rfl, wg, h⟩ := h.int
  obtain ⟨x, _, rfl, wx, h⟩ := h.int
  obtain ⟨r, _, rfl, _, h⟩ := h.int
  obtain ⟨s, _, rfl, _, h⟩ := h.int
  obtain rfl := h.nil
  have := Go.bounds_i64 wb
  have := Go.bounds_i64 wc
  have := Go.bounds_i64 wd
  have := Go.bounds_i64 we
  have := Go.bounds_i64 wf
  have := Go.bounds_i64 wg
  have := Go.bounds_u64 wx
  refine ⟨⟨a, b, c, d, e, f, g, BitVec.ofNat 64 x.toNat, r, s⟩, ?_, ?_⟩
  · have : ((BitVec.ofNat 64 x.toNat).toNat : Int) = x := by rw [BitVec.toNat_ofNat, Nat.mod_eq_of_lt (by omega)]; omega
    simp only [Op18.cells, this]
  · simp only [Op18.In, inI]; omega
theorem ops18_in {n : Nat} {get : Nat → List Value} (hf : ∀ i, i < n → Fits [some .i64, some .i64, some .i64, some .i64, some .i64, some .i64, some .i64, some .u64, some .i64, some .i64] (get i)) : ∃ op : Nat → Op18, ∀ i, i < n → get i = (op i).cells ∧ (op i).In :=
  choose_lt (n := n) (p := fun i (o : Op18) => get i = o.cells ∧ o.In) fun i hi => op18_in (hf i hi)
end Go.Proofs.YtdpcccjkncagoaaGreatDoor
end
section
namespace Go.Proofs.YtdpcccjkncagoaaGreatDoor
open Go Go.Tum Go.Tum.Base Go.Deep
theorem int_in {cs : List Value} (h : Fits [some .i64] cs) : ∃ a : Int, cs = [.int .i64 a] ∧ inI a := by
  obtain ⟨a, _, rfl, wa, h⟩ := h.int
  obtain rfl := h.nil
  have := Go.bounds_i64 wa
  exact ⟨a, rfl, by simp only [inI]; omega⟩
theorem MarkReaches_does (w : World) (hw : DoorH (fun _ => False) w) (b : Int) (hb : 0 ≤ b ∧ b < 256) {v : Value} {n : Nat} {get : Nat → List Value} (hr : SlIn w 10 v n get)
    (hf : ∀ i, i < n → Fits [some .i64, some .i64, some .i64, some .i64, some .i64, some .i64, some .i64, some .u64, some .i64, some .i64] (get i)) {v2 : Value} {n2 : Nat} {get2 : Nat → List Value} (hr2 : SlIn w 1 v2 n2 get2) (hf2 : ∀ i, i < n2 → Fits [some .i64] (get2 i)) :
    Does Tryz.prog 9 #[.int .u8 b, v, v2] w fun v w' => v = .bool true ∧ Fr (fun _ => False) w w' := by
  obtain ⟨op, hop⟩ := ops18_in hf
  obtain ⟨wh, hwh⟩ := choose_lt (n := n2) (p := fun i (x : Int) => get2 i = [.int .i64 x] ∧ inI x) fun i hi => int_in (hf2 i hi)
  obtain ⟨hn, x, hr⟩ := hr
  obtain ⟨hn2, y, hr2⟩ := hr2
  obtain ⟨h1, h2⟩ := hr [x, y] 0 rfl
  obtain ⟨h3, h4⟩ := hr2 [x, y] 1 rfl
  exact (MarkReaches_tr b hb n hn get op hop n2 hn2 get2 wh hwh).law (vs' := [.int .u8 b, v, v2]) [x, y] w rfl (by
    intro z hz
    rcases List.mem_cons.1 hz with rfl | hz
    · exact ⟨rfl, h2⟩
    · cases List.mem_singleton.1 hz; exact ⟨rfl, h4⟩) ⟨rfl, h1, h3, trivial⟩ (DoorH.tab hw)
end Go.Proofs.YtdpcccjkncagoaaGreatDoor
end
