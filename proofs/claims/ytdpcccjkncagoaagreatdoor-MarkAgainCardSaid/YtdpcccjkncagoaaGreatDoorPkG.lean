/-
  What the proof leans on, part 7: of the texts MarkAgain, LawIn, MarkReachesD, MarkAgainD.
-/
import Derived.Test.YtdpcccjkncagoaaGreatDoorPkF
set_option linter.unusedVariables false
set_option linter.unusedSimpArgs false
set_option linter.unusedSectionVars false
section
namespace Go.Tum.Base
open Go Go.Tum Go.Proofs.YtdpcccjkncagoaaGreatDoor
theorem MkR.rest {m0 : HM} {gl : List Gb} {w : List Int} {x : MkS} {c : Nat} (h : MkR m0 gl w x c) {a : Int} (ha : a ∈ w) : markB x.1 a = false := by
  cases hb : markB x.1 a
  · rfl
  · obtain ⟨i, rfl, h1, h2⟩ := markB_iff.1 hb
    rw [h.objs] at h1
    rw [h.roots i h1 ha] at h2; cases h2
theorem MkR.nil {m0 : HM} {gl : List Gb} {w : List Int} {m : HM} {xs : List Int} {c : Nat} (h : MkR m0 gl w (m, xs, 0) c) : MkR m0 gl w (m, [], 0) c :=
  ⟨h.hi, Nat.zero_le _, h.same, h.stm, h.sound, h.roots, h.done, h.cnt⟩
def rts (f : Nat → Int) (i : Nat) : List Int := (List.range (min i 8)).map f
theorem rts_succ (f : Nat → Int) {i : Nat} (h : i < 8) : rts f (i + 1) = rts f i ++ [f i] := by
  unfold rts
  rw [Nat.min_eq_left (by omega), Nat.min_eq_left (by omega), List.range_succ, List.map_append]; rfl
theorem rts_more (f : Nat → Int) {i : Nat} (h : 8 ≤ i) : rts f (i + 1) = rts f i := by
  unfold rts
  rw [Nat.min_eq_right (by omega), Nat.min_eq_right (by omega)]
theorem rts_mem (f : Nat → Int) {i n : Nat} (h : i < 8) (hn : i < n) : f i ∈ rts f n := List.mem_map.2 ⟨i, List.mem_range.2 (by omega), rfl⟩
end Go.Tum.Base
namespace Go.Proofs.YtdpcccjkncagoaaGreatDoor
open Go Go.Tum Go.Tum.Base
set_option maxRecDepth 4000
def MA2 (m n : HM) (gl : List Gb) (xs : List Int) (k c : Nat) : LH := PM2 m n gl ++ [.cells 0 [ptr 3, .slice (some ⟨26, 0, none⟩) k xs.length, .int .i64 c], .gro 1 (rowsC intC xs)]
abbrev U27 : List Nat := [0, 1, 2, 3, 4, 5, 6, 7, 8, 9, 10, 11, 12, 13, 14, 15, 16, 17, 18, 19, 20, 21, 22, 23, 24, 25, 26]
set_option maxHeartbeats 8000000 in
theorem MarkAgain_tr (b : Int) (hb : 0 ≤ b ∧ b < 256) (nb : Nat) (hnb : nb ≤ 9223372036854775807) (get : Nat → List Value) (op : Nat → Op18) (hop : ∀ i, i < nb → get i = (op i).cells ∧ (op i).In)
    (nr : Nat) (hnr : nr ≤ 9223372036854775807) (getr : Nat → List Value) (wh : Nat → Int) (hwh : ∀ i, i < nr → getr i = [.int .i64 (wh i)] ∧ inI (wh i)) :
    TrK Tryz.prog [(0, nb * 10, rowG 10 get), (1, nr * 1, rowG 1 getr)] [0, 1] 10 [.int .u8 b, slB 0 nb, slB 1 nr] [.dead, .dead] (fun v _ => v = .bool true) := by
  have hPl := played19_tr b hb nb hnb get op hop
  have hAw := awake19_tr
  refine Tr.of row_tumbrellaw19_MarkAgain_ok rfl ?_
  repeat' (first|refine qN ?_|refine dN ?_|refine dR ?_|refine d0 ?_|refine qB ?_|refine rT ?_|refine qT ?_|refine qU ?_|refine qL ?_|refine qK ?_|refine qF ?_|refine qE ?_|refine iF (fun h=>?_) (fun h=>?_)|refine aX ?_|refine aA ?_|refine aS ?_|refine aK ?_|refine aI (hn := ?_)|refine aD ?_|refine aR ?_|refine aM ?_|refine sP 53 (fun h=>?_) (fun h=>?_)|refine sP 63 (fun h=>?_) (fun h=>?_)|refine sP 79 (fun h=>?_) (fun h=>?_)|refine qR ?_|refine qS ?_|exact ⟨rfl, rfl⟩|fail)
  refine S_E [] rfl rfl (EW.callA [0] hPl rfl rfl (Part.of (by decide) (by repeat' (first|exact trivial|refine ⟨rfl, ?_⟩ | fail))) (by intro y hy; cases List.mem_singleton.1 hy; exact ⟨rfl, 0, rfl, List.mem_cons_self ..⟩)) ?_
  rintro _ _ ⟨_, _, ⟨rfl, N, m0, gl, hN5, hP, rfl⟩, rfl, rfl⟩
  refine ⟨(by repeat' (first|exact trivial|refine ⟨⟨qsafe_ok (st := []) rfl, Sure.of rfl⟩, ?_⟩|refine ⟨.inl rfl, ?_⟩|refine ⟨.inr ⟨qsafe_ok (st := []) rfl, Sure.of rfl⟩, ?_⟩|refine ⟨⟨qsafe_ok (st := []) rfl, Sure.slice (by omega)⟩, ?_⟩|refine ⟨.inr ⟨qsafe_ok (st := []) rfl, Sure.slice (by omega)⟩, ?_⟩|refine ⟨.inr ⟨QY.neqB rfl (by kernel_rfl) rfl rfl, Sure.of rfl⟩, ?_⟩|refine ⟨.inr ⟨QY.eqlB rfl (by kernel_rfl) rfl rfl, Sure.of rfl⟩, ?_⟩ | fail)), LSt.nf ?_⟩
  conv => whnf
  clear hPl hop
  have hI0 := hP.hi
  have hman := hP.man
  have hmgd := hP.mgd
  have hUn := hUnmark_u m0 hI0.toHOk
  have hI1 := hI0.unmark
  have hm1 : unmarkM m0 = { m0 with mw := (unmarkM m0).mw } := rfl
  have h01 : ∀ i, bitAt (unmarkM m0).mw i = false := fun i => bitAt_zero _ _
  generalize unmarkM m0 = m1 at *
  repeat' (first|refine qN ?_|refine dN ?_|refine dR ?_|refine d0 ?_|refine qB ?_|refine rT ?_|refine qT ?_|refine qU ?_|refine qL ?_|refine qK ?_|refine qF ?_|refine qE ?_|refine iF (fun h=>?_) (fun h=>?_)|refine aX ?_|(refine cW UH (hUn) ?_; conv => whnf)|refine aA ?_|refine aS ?_|refine aK ?_|refine aI (hn := ?_)|refine aD ?_|refine aR ?_|refine aM ?_|refine sP 53 (fun h=>?_) (fun h=>?_)|refine sP 63 (fun h=>?_) (fun h=>?_)|refine sP 79 (fun h=>?_) (fun h=>?_)|refine qR ?_|refine qS ?_|exact ⟨rfl, rfl⟩|fail)
  clear hUn
  have hM0 := MkR.first hI1 h01 []
  have hman1 : m1.man = m0.man := by rw [hm1]
  have hmgd1 : m1.mgd = m0.mgd := by rw [hm1]
  have hwa : ∀ i, i < nr → inI (atP m0 (wh i) (wh i)) := fun i hi => atP_in hI0.toHOk _ (hwh i hi).2
  obtain ⟨f, hf⟩ : ∃ f : Nat → Int, ∀ i, atP m0 (wh i) (wh i) = f i := ⟨_, fun _ => rfl⟩
  refine L_mb (fun l L => ∃ (m : HM) (c : Nat), HI m gl ∧ markN (obs m) = c ∧ l = [(7, ptr 2), (8, .int .i64 c)] ∧ L = PM2 m m0 gl) ?_ ?_
  · refine LWp.pick [2, 7, 8, 9] U25 rfl rfl rfl (L_loop (fun q l K => ∃ (r : Nat) (m : HM) (c : Nat), q = 2 - r ∧ r ≤ 2 ∧ (r = 0 → m = m1 ∧ c = 0) ∧ MkR m1 gl (bif r == 0 then [] else rts f nr) (m, [], 0) c ∧ l = [(2, slB 1 nr), (7, ptr 2), (8, .int .i64 c), (9, .int .i64 r)] ∧ K = PM2 m m0 gl) 2 ⟨0, m1, 0, rfl, by omega, fun _ => ⟨rfl, rfl⟩, hM0, rfl, rfl⟩ ?_)
    clear hM0
    rintro q _ _ ⟨r, m, c, rfl, hr, hr0, hM, rfl, rfl⟩
    first|refine L_seq (L_rs (S_done [] rfl (Nx.goL (iF (fun h => L_skip (Nx.goL ?_)) (fun h => L_exit ?_)))))|refine L_rs (S_done [] rfl (Nx.goL (L_seq (iF (fun h => L_skip (Nx.goL ?_)) (fun h => L_exit ?_)))))
    · have hNw := mNew_tr m
      obtain rfl | rfl : r = 0 ∨ r = 1 := by omega
      · obtain ⟨hr1, rfl⟩ := hr0 rfl
        repeat' (first|refine qN ?_|refine dN ?_|refine dR ?_|refine d0 ?_|refine qB ?_|refine rT ?_|refine qT ?_|refine qU ?_|refine qL ?_|refine qK ?_|refine qF ?_|refine qE ?_|refine iF (fun h=>?_) (fun h=>?_)|refine aX ?_|(refine cF UH (hNw) ?_; conv => whnf)|refine aA ?_|refine aS ?_|refine aK ?_|refine aI (hn := ?_)|refine aD ?_|refine aR ?_|refine aM ?_|refine sP 53 (fun h=>?_) (fun h=>?_)|refine sP 63 (fun h=>?_) (fun h=>?_)|refine sP 79 (fun h=>?_) (fun h=>?_)|refine qR ?_|refine qS ?_|exact ⟨rfl, rfl⟩|fail)
        clear hNw
        refine L_mb (fun l L => ∃ (m : HM) (xs : List Int) (k : Nat), MkR m1 gl (rts f nr) (m, xs, k) 0 ∧ xs.length ≤ 8 ∧ l = [(2, slB 1 nr), (7, ptr 2), (8, .int .i64 0), (9, .int .i64 0), (10, ptr 25)] ∧ L = MA2 m m0 gl xs k 0) ?_ ?_
        · refine LWp.pick [2, 7, 8, 9, 10, 33, 34, 35] U27 rfl rfl rfl (L_loop (fun q l K => ∃ (i : Nat) (m : HM) (xs : List Int) (k : Nat), q = nr - i ∧ i ≤ nr ∧ MkR m1 gl (rts f i) (m, xs, k) 0 ∧ xs.length ≤ min i 8 ∧ l = [(2, slB 1 nr), (7, ptr 2), (8, .int .i64 0), (9, .int .i64 0), (10, ptr 25), (33, slB 1 nr), (34, .int .i64 nr), (35, .int .i64 i)] ∧ K = MA2 m m0 gl xs k 0) nr ⟨0, m, [], 0, rfl, by omega, hM, by simp, rfl, rfl⟩ ?_)
          clear hM
          rintro q _ _ ⟨i, m, xs, k, rfl, hi, hM, hxl, rfl, rfl⟩
          first|refine L_seq (L_rs (S_done [] rfl (Nx.goL (iF (fun h => L_skip (Nx.goL ?_)) (fun h => L_exit ?_)))))|refine L_rs (S_done [] rfl (Nx.goL (L_seq (iF (fun h => L_skip (Nx.goL ?_)) (fun h => L_exit ?_)))))
          · have hi' : i < nr := by omega
            obtain ⟨e, ho⟩ := hwh i hi'
            by_cases h8 : i < 8
            · have hRt := root19_tr m m0 gl ⟨0, wh i, wh i, 0, 0, 0, 0, 0, 0, 0⟩
              have ha := (hwa i hi').2
              simp only at hRt
              have hM' := hM.root (f i)
              rw [← rts_succ f h8] at hM'
              rw [hf] at hRt ha
              generalize wh i = wi at *
              generalize f i = a at *
              have hle := hM.le
              have hP := mRoot_tr m hM.hi.toHOk a ha xs k 0 hle (by omega)
              have hl := (le_note (x := (m, xs, k)) hle a).2.1
              change (noteS m xs k a).length ≤ xs.length + 1 at hl
              change MkR m1 gl _ (markR m a, noteS m xs k a, noteK m k a) 0 at hM'
              generalize markR m a = m' at *
              generalize noteS m xs k a = xs' at *
              generalize noteK m k a = k' at *
              generalize (if a < 0 ∨ hasH m a = true then 0 else 6 : Int) = er at *
              repeat' (first|refine qN ?_|refine dN ?_|refine dR ?_|refine d0 ?_|refine qB ?_|refine rT ?_|refine qT ?_|refine qU ?_|refine qL ?_|refine qK ?_|refine qF ?_|refine qE ?_|refine iF (fun h=>?_) (fun h=>?_)|refine aX ?_|refine S_Q [] rfl rfl (QY.ldA1 (j := 1) rfl rfl hi' e) ?_|refine cP U23 (hRt) ?_|(refine cW US (hP) ?_; conv => whnf)|refine aA ?_|refine aS ?_|refine aK ?_|refine aI (hn := ?_)|refine aD ?_|refine aR ?_|refine aM ?_|refine sP 53 (fun h=>?_) (fun h=>?_)|refine sP 63 (fun h=>?_) (fun h=>?_)|refine sP 79 (fun h=>?_) (fun h=>?_)|refine qR ?_|refine qS ?_|exact ⟨rfl, rfl⟩|fail)
              all_goals first | (exfalso; omega)|exact Nx.pick [2, 7, 8, 9, 10, 33, 34, 35] U27 rfl rfl rfl ⟨nr - (i + 1), by omega, i + 1, m', xs', k', rfl, by omega, hM', by omega, rfl, rfl⟩
            · rw [← rts_more f (by omega : 8 ≤ i)] at hM
              repeat' (first|refine qN ?_|refine dN ?_|refine dR ?_|refine d0 ?_|refine qB ?_|refine rT ?_|refine qT ?_|refine qU ?_|refine qL ?_|refine qK ?_|refine qF ?_|refine qE ?_|refine iF (fun h=>?_) (fun h=>?_)|refine aX ?_|refine S_Q [] rfl rfl (QY.ldA1 (j := 1) rfl rfl hi' e) ?_|refine aA ?_|refine aS ?_|refine aK ?_|refine aI (hn := ?_)|refine aD ?_|refine aR ?_|refine aM ?_|refine sP 53 (fun h=>?_) (fun h=>?_)|refine sP 63 (fun h=>?_) (fun h=>?_)|refine sP 79 (fun h=>?_) (fun h=>?_)|refine qR ?_|refine qS ?_|exact ⟨rfl, rfl⟩|fail)
              all_goals first | (exfalso; omega)|exact Nx.pick [2, 7, 8, 9, 10, 33, 34, 35] U27 rfl rfl rfl ⟨nr - (i + 1), by omega, i + 1, m, xs, k, rfl, by omega, hM, by omega, rfl, rfl⟩
          · show Nx _ _ _ _
            obtain rfl : i = nr := by omega
            exact Nx.pick [2, 7, 8, 9, 10] U27 rfl rfl rfl ⟨m, xs, k, hM, by omega, rfl, rfl⟩
        clear hM
        rintro _ _ ⟨m, xs, k, hM, hxl, rfl, rfl⟩
        repeat' (first|refine qN ?_|refine dN ?_|refine dR ?_|refine d0 ?_|refine qB ?_|refine rT ?_|refine qT ?_|refine qU ?_|refine qL ?_|refine qK ?_|refine qF ?_|refine qE ?_|refine iF (fun h=>?_) (fun h=>?_)|refine aX ?_|refine aA ?_|refine aS ?_|refine aK ?_|refine aI (hn := ?_)|refine aD ?_|refine aR ?_|refine aM ?_|refine sP 53 (fun h=>?_) (fun h=>?_)|refine sP 63 (fun h=>?_) (fun h=>?_)|refine sP 79 (fun h=>?_) (fun h=>?_)|refine qR ?_|refine qS ?_|exact ⟨rfl, rfl⟩|fail)
        refine L_mb (fun l L => ∃ (m : HM) (xs : List Int) (n : Nat), MkR m1 gl (rts f nr) (m, xs, 0) n ∧ n < 400 ∧ l = [(2, slB 1 nr), (7, ptr 2), (8, .int .i64 0), (9, .int .i64 0), (10, ptr 25)] ∧ L = MA2 m m0 gl xs 0 n) ?_ ?_
        · refine LWp.pick [2, 7, 8, 9, 10, 13] U27 rfl rfl rfl (L_loop (fun q l K => ∃ (n : Nat) (m : HM) (xs : List Int) (k : Nat), q = 400 - n ∧ n ≤ 400 ∧ MkR m1 gl (rts f nr) (m, xs, k) n ∧ xs.length ≤ 8 + 16 * n ∧ l = [(2, slB 1 nr), (7, ptr 2), (8, .int .i64 0), (9, .int .i64 0), (10, ptr 25), (13, .int .i64 n)] ∧ K = MA2 m m0 gl xs k n) 400 ⟨0, m, xs, k, rfl, by omega, hM, by omega, rfl, rfl⟩ ?_)
          clear hM hxl
          clear m xs k
          rintro q _ _ ⟨n, m, xs, k, rfl, hn, hM, hxl, rfl, rfl⟩
          have hfew := hM.few
          have hsm := hM.same
          simp only at hfew hsm
          have hs1 : m.man = m1.man := by rw [hsm]
          have hs2 : m.mgd = m1.mgd := by rw [hsm]
          have hL := mLeft_tr m xs k xs.length n
          clear hsm
          cases k with
          | zero =>
            repeat' (first|refine qN ?_|refine dN ?_|refine dR ?_|refine d0 ?_|refine qB ?_|refine rT ?_|refine qT ?_|refine qU ?_|refine qL ?_|refine qK ?_|refine qF ?_|refine qE ?_|refine iF (fun h=>?_) (fun h=>?_)|refine aX ?_|refine cP US (hL) ?_|refine aA ?_|refine aS ?_|refine aK ?_|refine aI (hn := ?_)|refine aD ?_|refine aR ?_|refine aM ?_|refine sP 53 (fun h=>?_) (fun h=>?_)|refine sP 63 (fun h=>?_) (fun h=>?_)|refine sP 79 (fun h=>?_) (fun h=>?_)|refine qR ?_|refine qS ?_|exact ⟨rfl, rfl⟩|fail)
            all_goals first | (exfalso; omega)|exact Nx.pick [2, 7, 8, 9, 10] U27 rfl rfl rfl ⟨m, xs, n, hM, by omega, rfl, rfl⟩
          | succ k =>
            have hle := hM.le
            simp only at hle
            have hg : xs[k]? = some xs[k] := List.getElem?_eq_getElem (by omega)
            obtain ⟨i0, e, hio, _⟩ := hM.stm xs[k] (by unfold stk; simp only; rw [List.take_succ_eq_append_getElem (by omega)]; exact List.mem_append_right _ (List.mem_singleton.2 rfl))
            rw [e] at hg
            obtain ⟨hio, _⟩ := objN_mem.1 hio
            have hS := mStep_ok m gl hM.hi xs k n i0 hg (by omega) (by omega) (by omega)
            have hM' := hM.step hg
            have hl := (le_notes (x := (m, xs, k)) (l := refsF m.bs (16 * i0)) (by show k ≤ xs.length; omega)).2
            have h15 := refsF_len m.bs (16 * i0)
            simp only at hl
            generalize ntA (m, xs, k) (refsF m.bs (16 * i0)) = y at *
            obtain ⟨m', xs', k'⟩ := y
            simp only at hS hl
            repeat' (first|refine qN ?_|refine dN ?_|refine dR ?_|refine d0 ?_|refine qB ?_|refine rT ?_|refine qT ?_|refine qU ?_|refine qL ?_|refine qK ?_|refine qF ?_|refine qE ?_|refine iF (fun h=>?_) (fun h=>?_)|refine aX ?_|refine cP US (hL) ?_|(refine cW US (hS) ?_; conv => whnf)|refine aA ?_|refine aS ?_|refine aK ?_|refine aI (hn := ?_)|refine aD ?_|refine aR ?_|refine aM ?_|refine sP 53 (fun h=>?_) (fun h=>?_)|refine sP 63 (fun h=>?_) (fun h=>?_)|refine sP 79 (fun h=>?_) (fun h=>?_)|refine qR ?_|refine qS ?_|exact ⟨rfl, rfl⟩|fail)
            all_goals first | (exfalso; omega)|exact Nx.pick [2, 7, 8, 9, 10, 13] U27 rfl rfl rfl ⟨400 - (n + 1), by omega, n + 1, m', xs', k', rfl, by omega, hM', by omega, rfl, rfl⟩
        clear hM hxl
        clear m xs k
        rintro _ _ ⟨m, xs, n, hM, hn, rfl, rfl⟩
        have hK := mLooked_tr m xs 0 xs.length n
        repeat' (first|refine qN ?_|refine dN ?_|refine dR ?_|refine d0 ?_|refine qB ?_|refine rT ?_|refine qT ?_|refine qU ?_|refine qL ?_|refine qK ?_|refine qF ?_|refine qE ?_|refine iF (fun h=>?_) (fun h=>?_)|refine aX ?_|refine cP US (hK) ?_|refine aA ?_|refine aS ?_|refine aK ?_|refine aI (hn := ?_)|refine aD ?_|refine aR ?_|refine aM ?_|refine sP 53 (fun h=>?_) (fun h=>?_)|refine sP 63 (fun h=>?_) (fun h=>?_)|refine sP 79 (fun h=>?_) (fun h=>?_)|refine qR ?_|refine qS ?_|exact ⟨rfl, rfl⟩|fail)
        all_goals first | (exfalso; omega)|exact Nx.pick [2, 7, 8, 9] U25 rfl rfl rfl ⟨2 - 1, by omega, 1, m, n, rfl, by omega, fun h => absurd h (by decide), hM.nil, by rw [show (0 : Int) + (n : Int) = n from Int.zero_add _]; rfl, rfl⟩
      · have hfew := hM.few
        have hsm := hM.same
        simp only at hfew hsm
        have hs2 : m.mgd = m1.mgd := by rw [hsm]
        clear hsm
        have hMk : ∀ i, i < nr → i < 8 → markB m (f i) = false := fun i hi h8 => hM.rest (rts_mem f h8 hi)
        have hok := hM.hi.toHOk
        have hL := mLeft_tr m [] 0 0 0
        have hK := mLooked_tr m [] 0 0 0
        repeat' (first|refine qN ?_|refine dN ?_|refine dR ?_|refine d0 ?_|refine qB ?_|refine rT ?_|refine qT ?_|refine qU ?_|refine qL ?_|refine qK ?_|refine qF ?_|refine qE ?_|refine iF (fun h=>?_) (fun h=>?_)|refine aX ?_|(refine cF UH (hNw) ?_; conv => whnf)|refine aA ?_|refine aS ?_|refine aK ?_|refine aI (hn := ?_)|refine aD ?_|refine aR ?_|refine aM ?_|refine sP 53 (fun h=>?_) (fun h=>?_)|refine sP 63 (fun h=>?_) (fun h=>?_)|refine sP 79 (fun h=>?_) (fun h=>?_)|refine qR ?_|refine qS ?_|exact ⟨rfl, rfl⟩|fail)
        clear hNw
        refine L_mb (fun l L => l = [(2, slB 1 nr), (7, ptr 2), (8, .int .i64 c), (9, .int .i64 1), (10, ptr 25)] ∧ L = MA2 m m0 gl [] 0 0) ?_ ?_
        · refine LWp.pick [2, 7, 8, 9, 10, 33, 34, 35] U27 rfl rfl rfl (L_loop (fun q l K => ∃ i : Nat, q = nr - i ∧ i ≤ nr ∧ l = [(2, slB 1 nr), (7, ptr 2), (8, .int .i64 c), (9, .int .i64 1), (10, ptr 25), (33, slB 1 nr), (34, .int .i64 nr), (35, .int .i64 i)] ∧ K = MA2 m m0 gl [] 0 0) nr ⟨0, rfl, by omega, rfl, rfl⟩ ?_)
          rintro q _ _ ⟨i, rfl, hi, rfl, rfl⟩
          first|refine L_seq (L_rs (S_done [] rfl (Nx.goL (iF (fun h => L_skip (Nx.goL ?_)) (fun h => L_exit ?_)))))|refine L_rs (S_done [] rfl (Nx.goL (L_seq (iF (fun h => L_skip (Nx.goL ?_)) (fun h => L_exit ?_)))))
          · have hi' : i < nr := by omega
            obtain ⟨e, ho⟩ := hwh i hi'
            by_cases h8 : i < 8
            · have hRt := root19_tr m m0 gl ⟨0, wh i, wh i, 0, 0, 0, 0, 0, 0, 0⟩
              have ha := (hwa i hi').2
              simp only at hRt
              have hb0 := hMk i hi' h8
              rw [hf] at hRt ha
              generalize wh i = wi at *
              generalize f i = a at *
              have hP := mRoot_tr m hok a ha [] 0 0 (Nat.le_refl _) (by simp)
              have hmr : markR m a = m := by unfold markR; unfold markB at hb0; rw [hb0]; rfl
              rw [show noteS m [] 0 a = [] by unfold noteS; rw [hb0]; rfl, show noteK m 0 a = 0 by unfold noteK; rw [hb0]; rfl, hmr] at hP
              generalize (if a < 0 ∨ hasH m a = true then 0 else 6 : Int) = er at *
              repeat' (first|refine qN ?_|refine dN ?_|refine dR ?_|refine d0 ?_|refine qB ?_|refine rT ?_|refine qT ?_|refine qU ?_|refine qL ?_|refine qK ?_|refine qF ?_|refine qE ?_|refine iF (fun h=>?_) (fun h=>?_)|refine aX ?_|refine S_Q [] rfl rfl (QY.ldA1 (j := 1) rfl rfl hi' e) ?_|refine cP U23 (hRt) ?_|(refine cW US (hP) ?_; conv => whnf)|refine aA ?_|refine aS ?_|refine aK ?_|refine aI (hn := ?_)|refine aD ?_|refine aR ?_|refine aM ?_|refine sP 53 (fun h=>?_) (fun h=>?_)|refine sP 63 (fun h=>?_) (fun h=>?_)|refine sP 79 (fun h=>?_) (fun h=>?_)|refine qR ?_|refine qS ?_|exact ⟨rfl, rfl⟩|fail)
              all_goals first | (exfalso; omega)|exact Nx.pick [2, 7, 8, 9, 10, 33, 34, 35] U27 rfl rfl rfl ⟨nr - (i + 1), by omega, i + 1, rfl, by omega, rfl, rfl⟩
            · repeat' (first|refine qN ?_|refine dN ?_|refine dR ?_|refine d0 ?_|refine qB ?_|refine rT ?_|refine qT ?_|refine qU ?_|refine qL ?_|refine qK ?_|refine qF ?_|refine qE ?_|refine iF (fun h=>?_) (fun h=>?_)|refine aX ?_|refine S_Q [] rfl rfl (QY.ldA1 (j := 1) rfl rfl hi' e) ?_|refine aA ?_|refine aS ?_|refine aK ?_|refine aI (hn := ?_)|refine aD ?_|refine aR ?_|refine aM ?_|refine sP 53 (fun h=>?_) (fun h=>?_)|refine sP 63 (fun h=>?_) (fun h=>?_)|refine sP 79 (fun h=>?_) (fun h=>?_)|refine qR ?_|refine qS ?_|exact ⟨rfl, rfl⟩|fail)
              all_goals first | (exfalso; omega)|exact Nx.pick [2, 7, 8, 9, 10, 33, 34, 35] U27 rfl rfl rfl ⟨nr - (i + 1), by omega, i + 1, rfl, by omega, rfl, rfl⟩
          · show Nx _ _ _ _
            exact Nx.pick [2, 7, 8, 9, 10] U27 rfl rfl rfl ⟨rfl, rfl⟩
        rintro _ _ ⟨rfl, rfl⟩
        repeat' (first|refine qN ?_|refine dN ?_|refine dR ?_|refine d0 ?_|refine qB ?_|refine rT ?_|refine qT ?_|refine qU ?_|refine qL ?_|refine qK ?_|refine qF ?_|refine qE ?_|refine iF (fun h=>?_) (fun h=>?_)|refine aX ?_|refine aA ?_|refine aS ?_|refine aK ?_|refine aI (hn := ?_)|refine aD ?_|refine aR ?_|refine aM ?_|refine sP 53 (fun h=>?_) (fun h=>?_)|refine sP 63 (fun h=>?_) (fun h=>?_)|refine sP 79 (fun h=>?_) (fun h=>?_)|refine qR ?_|refine qS ?_|exact ⟨rfl, rfl⟩|fail)
        refine LWp.pick [2, 7, 8, 9, 10, 13] U27 rfl rfl rfl (L_loop (fun q l K => q = 0 ∧ l = [(2, slB 1 nr), (7, ptr 2), (8, .int .i64 c), (9, .int .i64 1), (10, ptr 25), (13, .int .i64 0)] ∧ K = MA2 m m0 gl [] 0 0) 0 ⟨rfl, rfl, rfl⟩ ?_)
        rintro _ _ _ ⟨rfl, rfl, rfl⟩
        repeat' (first|refine qN ?_|refine dN ?_|refine dR ?_|refine d0 ?_|refine qB ?_|refine rT ?_|refine qT ?_|refine qU ?_|refine qL ?_|refine qK ?_|refine qF ?_|refine qE ?_|refine iF (fun h=>?_) (fun h=>?_)|refine aX ?_|refine cP US (hL) ?_|refine cP US (hK) ?_|refine aA ?_|refine aS ?_|refine aK ?_|refine aI (hn := ?_)|refine aD ?_|refine aR ?_|refine aM ?_|refine sP 53 (fun h=>?_) (fun h=>?_)|refine sP 63 (fun h=>?_) (fun h=>?_)|refine sP 79 (fun h=>?_) (fun h=>?_)|refine qR ?_|refine qS ?_|exact ⟨rfl, rfl⟩|fail)
        all_goals try (exfalso; omega)
        exact Nx.pick [2, 7, 8, 9] U25 rfl rfl rfl ⟨2 - 2, by omega, 2, m, c, rfl, by omega, fun h => absurd h (by decide), hM, by rw [show (c : Int) + ((0 : Nat) : Int) = c by omega]; rfl, rfl⟩
    · obtain rfl : r = 2 := by omega
      show Nx _ _ _ _
      exact Nx.pick [7, 8] U25 rfl rfl rfl ⟨m, c, hM.hi, hM.cnt, rfl, rfl⟩
  · rintro _ _ ⟨m, c, hI, hc, rfl, rfl⟩
    have hUn := hUnmark_u m hI.toHOk
    rw [hc] at hUn
    repeat' (first|refine qN ?_|refine dN ?_|refine dR ?_|refine d0 ?_|refine qB ?_|refine rT ?_|refine qT ?_|refine qU ?_|refine qL ?_|refine qK ?_|refine qF ?_|refine qE ?_|refine iF (fun h=>?_) (fun h=>?_)|refine aX ?_|(refine cW UH (hUn) ?_; conv => whnf)|refine cP [] (hAw) ?_|refine aA ?_|refine aS ?_|refine aK ?_|refine aI (hn := ?_)|refine aD ?_|refine aR ?_|refine aM ?_|refine sP 53 (fun h=>?_) (fun h=>?_)|refine sP 63 (fun h=>?_) (fun h=>?_)|refine sP 79 (fun h=>?_) (fun h=>?_)|refine qR ?_|refine qS ?_|exact ⟨rfl, rfl⟩|fail)
    all_goals first | (exfalso; omega)|exact absurd rfl h|exact rfl
end Go.Proofs.YtdpcccjkncagoaaGreatDoor
end
section
namespace Go.Proofs.YtdpcccjkncagoaaGreatDoor
open Go Go.Tum Go.Tum.Base Go.Deep
theorem op18_in {cs : List Value} (h : Fits [some .i64, some .i64, some .i64, some .i64, some .i64, some .i64, some .i64, some .u64, some .i64, some .i64] cs) : ∃ o : Op18, cs = o.cells ∧ o.In := by
  obtain ⟨a, _, rfl, wa, h⟩ := h.int
  obtain ⟨b, _, rfl, wb, h⟩ := h.int
  obtain ⟨c, _, rfl, wc, h⟩ := h.int
  obtain ⟨d, _, rfl, wd, h⟩ := h.int
  obtain ⟨e, _, rfl, we, h⟩ := h.int
  obtain ⟨f, _, rfl, wf, h⟩ := h.int
  obtain ⟨g, _, rfl, wg, h⟩ := h.int
  obtain ⟨x, _, rfl, wx, h⟩ := h.int
  obtain ⟨r, _, rfl, _, h⟩ := h.int
  obtain ⟨s, _, rfl, _, h⟩ := h.int
  obtain rfl := h.nil
  have := Go.bounds_i64 wb
  have := Go.bounds_i64 wc
  have := Go.bounds_i64 wd
  have := Go.bounds_i64 we
  have := Go.bounds_i64 wf
  have := Go.bounds_i64 wg
  have := Go.bounds_u64 wx
  refine ⟨⟨a, b, c, d, e, f, g, BitVec.ofNat 64 x.toNat, r, s⟩, ?_, ?_⟩
  · have : ((BitVec.ofNat 64 x.toNat).toNat : Int) = x := by rw [BitVec.toNat_ofNat, Nat.mod_eq_of_lt (by omega)]; omega
    simp only [Op18.cells, this]
  · simp only [Op18.In, inI]; omega
theorem ops18_in {n : Nat} {get : Nat → List Value} (hf : ∀ i, i < n → Fits [some .i64, some .i64, some .i64, some .i64, some .i64, some .i64, some .i64, some .u64, some .i64, some .i64] (get i)) : ∃ op : Nat → Op18, ∀ i, i < n → get i = (op i).cells ∧ (op i).In :=
  choose_lt (n := n) (p := fun i (o : Op18) => get i = o.cells ∧ o.In) fun i hi => op18_in (hf i hi)
end Go.Proofs.YtdpcccjkncagoaaGreatDoor
end
section
namespace Go.Proofs.YtdpcccjkncagoaaGreatDoor
open Go Go.Tum Go.Tum.Base Go.Deep
theorem int_in {cs : List Value} (h : Fits [some .i64] cs) : ∃ a : Int, cs = [.int .i64 a] ∧ inI a := by
  obtain ⟨a, _, rfl, wa, h⟩ := h.int
  obtain rfl := h.nil
  have := Go.bounds_i64 wa
  exact ⟨a, rfl, by simp only [inI]; omega⟩
end Go.Proofs.YtdpcccjkncagoaaGreatDoor
end
section
namespace Go.Proofs.YtdpcccjkncagoaaGreatDoor
open Go Go.Tum Go.Tum.Base Go.Deep
theorem MarkAgain_does (w : World) (hw : DoorH (fun _ => False) w) (b : Int) (hb : 0 ≤ b ∧ b < 256) {v : Value} {n : Nat} {get : Nat → List Value} (hr : SlIn w 10 v n get)
    (hf : ∀ i, i < n → Fits [some .i64, some .i64, some .i64, some .i64, some .i64, some .i64, some .i64, some .u64, some .i64, some .i64] (get i)) {v2 : Value} {n2 : Nat} {get2 : Nat → List Value} (hr2 : SlIn w 1 v2 n2 get2) (hf2 : ∀ i, i < n2 → Fits [some .i64] (get2 i)) :
    Does Tryz.prog 10 #[.int .u8 b, v, v2] w fun v w' => v = .bool true ∧ Fr (fun _ => False) w w' := by
  obtain ⟨op, hop⟩ := ops18_in hf
  obtain ⟨wh, hwh⟩ := choose_lt (n := n2) (p := fun i (x : Int) => get2 i = [.int .i64 x] ∧ inI x) fun i hi => int_in (hf2 i hi)
  obtain ⟨hn, x, hr⟩ := hr
  obtain ⟨hn2, y, hr2⟩ := hr2
  obtain ⟨h1, h2⟩ := hr [x, y] 0 rfl
  obtain ⟨h3, h4⟩ := hr2 [x, y] 1 rfl
  exact (MarkAgain_tr b hb n hn get op hop n2 hn2 get2 wh hwh).law (vs' := [.int .u8 b, v, v2]) [x, y] w rfl (by
    intro z hz
    rcases List.mem_cons.1 hz with rfl | hz
    · exact ⟨rfl, h2⟩
    · cases List.mem_singleton.1 hz; exact ⟨rfl, h4⟩) ⟨rfl, h1, h3, trivial⟩ (DoorH.tab hw)
end Go.Proofs.YtdpcccjkncagoaaGreatDoor
end
