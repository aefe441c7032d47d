/-
  ThreadKeeps: the law's call.
-/
import Derived.Test.YtcchfefbolmlbaaThreadPlays
import Derived.Test.YtcchfefbolmlbaaLw6
namespace Go.Proofs.Ytcchfefbolmlbaa
open Go Go.Tum Go.Deep

/-! ### the plain law -/
theorem getD_set {α : Type} {l : List α} {k j : Nat} {a d : α} : (l.set k a).getD j d = if k = j ∧ k < l.length then a else l.getD j d := by
  simp only [List.getD_eq_getElem?_getD, List.getElem?_set]
  by_cases h : k = j
  · subst h
    by_cases h2 : k < l.length
    · simp [h2]
    · simp [h2]
  · simp [h]
theorem who_put (t : Tb) (j : Nat) (x : Int) (m : Int) (hj : j < t.mu.length) : whoAt (putM t j x) m = if m = j then x else whoAt t m := by
  unfold whoAt putM
  simp only [List.length_set, Int.toNat_natCast]
  by_cases h : 0 ≤ m ∧ m < t.mu.length
  · rw [if_pos h, if_pos h, getD_set]
    by_cases e : m = j
    · subst e; simp [hj]
    · rw [if_neg (by omega), if_neg e]
  · rw [if_neg h, if_neg h, if_neg (by omega)]
theorem keepM {t : Tb} (o : Op) {m : Int} (h : 0 ≤ whoAt t m) (hn : ¬ (o.kind = 6 ∧ o.k = whoAt t m ∧ o.m = m)) : whoAt (stepT t o) m = whoAt t m := by
  have same : ∀ t' : Tb, t'.mu = t.mu → whoAt t' m = whoAt t m := fun t' e => by unfold whoAt; rw [e]
  unfold stepT
  split
  · unfold spawnT; split <;> exact same _ rfl
  split
  · unfold endT; split <;> exact same _ rfl
  split
  · unfold killT; split
    · split <;> exact same _ rfl
    · exact same _ rfl
  split
  · unfold lockT; split
    · rename_i h0
      unfold lockE at h0
      split at h0
      · rename_i h1
        obtain ⟨j, e, hj⟩ := in_yes h1
        split at h0
        · split at h0
          · cases h0
          · split at h0
            · cases h0
            · rename_i h4
              rw [e, who_put t j o.k m hj]
              split
              · rename_i e2
                have := Classical.not_not.1 h4
                rw [e, ← e2] at this; omega
              · rfl
        · cases h0
      · contradiction
    · rfl
  split
  · rename_i h6
    unfold unlockT; split
    · rename_i h0
      unfold unlockE at h0
      split at h0
      · rename_i h1
        obtain ⟨j, e, hj⟩ := in_yes h1
        split at h0
        · cases h0
        · rename_i h4
          rw [e, who_put t j (-1) m hj]
          split
          · rename_i e2
            exfalso
            apply hn
            refine ⟨h6, ?_, by omega⟩
            apply Classical.byContradiction
            intro e3
            exact h4 (.inr (by rw [e, ← e2]; exact fun e4 => e3 e4.symm))
          · rfl
      · contradiction
    · rfl
  · rfl
theorem at_put (t : Tb) (j : Nat) (x : Th) (k : Int) (hj : j < t.l.length) : thAt (putT t j x).l k = if k = j then x else thAt t.l k := by
  unfold thAt putT
  simp only [List.length_set, Int.toNat_natCast]
  by_cases h : 0 ≤ k ∧ k < t.l.length
  · rw [if_pos h, if_pos h, getD_set]
    by_cases e : k = j
    · subst e; simp [hj]
    · rw [if_neg (by omega), if_neg e]
  · rw [if_neg h, if_neg h, if_neg (by omega)]
theorem keepT {t : Tb} (o : Op) {k : Int} (h : 2 ≤ (thAt t.l k).st) : thAt (stepT t o).l k = thAt t.l k := by
  have put : ∀ (k2 : Int) (x : Th), runsE t k2 = 0 → thAt (putT t k2 x).l k = thAt t.l k := fun k2 x h0 => by
    obtain ⟨j, rfl, hj⟩ := runs_in h0
    rw [at_put t j x k hj, if_neg]
    intro e
    subst e
    have := (runsE_iff t j).1 h0
    omega
  unfold stepT
  split
  · unfold spawnT; split
    · rfl
    · unfold thAt at h ⊢
      simp only [List.length_append, List.length_cons, List.length_nil]
      by_cases hc : 0 ≤ k ∧ k < t.l.length
      · rw [if_pos hc, if_pos (by omega)]
        simp only [List.getD_eq_getElem?_getD]
        rw [List.getElem?_append_left (by omega)]
      · rw [if_neg hc] at h
        simp [Th.zero] at h
  split
  · unfold endT; split
    · exact put _ _ (by assumption)
    · rfl
  split
  · unfold killT; split
    · split
      · rfl
      · exact put _ _ (by assumption)
    · rfl
  split
  · unfold lockT; split <;> rfl
  split
  · unfold unlockT; split <;> rfl
  · rfl

theorem step_mus (t : Tb) (o : Op) : (stepT t o).mu.length = t.mu.length := by
  unfold stepT
  split
  · unfold spawnT; split <;> rfl
  split
  · unfold endT; split <;> rfl
  split
  · unfold killT; split
    · split <;> rfl
    · rfl
  split
  · unfold lockT; split
    · simp [putM]
    · rfl
  split
  · unfold unlockT; split
    · simp [putM]
    · rfl
  · rfl

/-! ### the call -/
/-- behind the law's own row and its call: both tables -/
def PL2 (t : Tb) (o : Op) : LH := [.dead, .cells 0 [.int .i64 t.most, .slice (some ⟨2, 0, none⟩) t.l.length t.l.length, .slice (some ⟨3, 0, none⟩) t.mu.length t.mu.length], .gro 4 (rowsC Th.cells t.l), .gro 1 (rowsC intC t.mu),
  .cells 0 [.int .i64 (up t).most, .slice (some ⟨5, 0, none⟩) (up t).l.length (up t).l.length, .slice (some ⟨6, 0, none⟩) (up t).mu.length (up t).mu.length], .gro 4 (rowsC Th.cells (up t).l), .gro 1 (rowsC intC (up t).mu), .cells 0 o.cells]
abbrev p7 : Value := .pointer (some ⟨7, 0, none⟩)
abbrev p8 : Value := .pointer (some ⟨8, 0, none⟩)
abbrev p9 : Value := .pointer (some ⟨9, 0, none⟩)
def hi1 (t : Tb) (k j : Nat) : Int := if j < k then whoAt t j else 0
def hl (t : Tb) (k : Nat) : List Int := [hi1 t k 0, hi1 t k 1, hi1 t k 2]
theorem hl_step (t : Tb) {k : Nat} (h : k < 3) (a : Int) : ((hl t k).set k a).set k (whoAt t k) = hl t (k + 1) := by
  obtain rfl | rfl | rfl : k = 0 ∨ k = 1 ∨ k = 2 := by omega
  all_goals simp [hl, hi1]
theorem hl_step1 (t : Tb) {k : Nat} (h : k < 3) : (hl t k).set k (whoAt t k) = hl t (k + 1) := by
  rw [← hl_step t h 0, List.set_set]
theorem hl_get (t : Tb) {k : Nat} (h : k < 3) : (rowsC intC (hl t 3))[k]? = some (.int .i64 (whoAt t k)) := by
  obtain rfl | rfl | rfl : k = 0 ∨ k = 1 ∨ k = 2 := by omega
  all_goals simp [hl, hi1, rowsC, intC]

set_option maxHeartbeats 2000000 in
theorem ThreadKeeps_tr (n : Nat) (hn : n ≤ 9223372036854775807) (get : Nat → List Value) (op : Nat → Op) (hop : ∀ i, i < n → get i = (op i).cells) (o : Op) :
    TrK Try.prog [(0, n * 6, rowG 6 get)] [0] 3 [asl n, .agg ⟨o.cells⟩] [.dead] (fun v _ => v = .bool true) := by
  refine Tr.of row_tumbrellaw29_ThreadKeeps_ok rfl ?_
  refine L_rs (S_done [] rfl (Nx.go ?_))
  first | refine L_rs ?_ | refine L_reg ?_ | skip
  refine S_E [] rfl rfl (EW.callF [] (New_tr 5 3) rfl rfl (by decide) (by repeat' (first | exact trivial | refine ⟨rfl, ?_⟩ | fail)) rfl rfl) ?_
  rintro _ _ ⟨rfl, rfl⟩
  refine ⟨(by repeat' (first | exact trivial | refine ⟨⟨qsafe_ok (st := []) rfl, Sure.of rfl⟩, ?_⟩ | refine ⟨.inl rfl, ?_⟩ | refine ⟨.inr ⟨qsafe_ok (st := []) rfl, Sure.of rfl⟩, ?_⟩ | refine ⟨.inr ⟨QY.neqB rfl (by kernel_rfl) rfl rfl, Sure.of rfl⟩, ?_⟩ | refine ⟨.inr ⟨QY.eqlB rfl (by kernel_rfl) rfl rfl, Sure.of rfl⟩, ?_⟩ | fail)), LSt.nf ?_⟩
  conv => whnf
  first | refine L_rs ?_ | refine L_reg ?_ | skip
  refine S_E [] rfl rfl (EW.callF [] (rNew_tr 5 3) rfl rfl (by decide) (by repeat' (first | exact trivial | refine ⟨rfl, ?_⟩ | fail)) rfl rfl) ?_
  rintro _ _ ⟨rfl, rfl⟩
  refine ⟨(by repeat' (first | exact trivial | refine ⟨⟨qsafe_ok (st := []) rfl, Sure.of rfl⟩, ?_⟩ | refine ⟨.inl rfl, ?_⟩ | refine ⟨.inr ⟨qsafe_ok (st := []) rfl, Sure.of rfl⟩, ?_⟩ | refine ⟨.inr ⟨QY.neqB rfl (by kernel_rfl) rfl rfl, Sure.of rfl⟩, ?_⟩ | refine ⟨.inr ⟨QY.eqlB rfl (by kernel_rfl) rfl rfl, Sure.of rfl⟩, ?_⟩ | fail)), LSt.nf ?_⟩
  conv => whnf
  refine S_done [] rfl (Nx.go ?_)
  refine L_cut (fun l L => ∃ t : Tb, t.Ok ∧ t.mu.length = 3 ∧ l = [(3, p7), (5, p1), (6, p4)] ∧ L = PL2 t o) ?_ ?_
  · refine L_rs (S_done [] rfl (Nx.pick [3, 5, 6, 24, 25, 26] [0, 2, 3, 4, 5, 6, 7, 1] rfl rfl rfl ?_))
    refine L_block (L_loop (fun r l L => ∃ (i : Nat) (t : Tb), r = n - i ∧ i ≤ n ∧ t.Ok ∧ t.mu.length = 3 ∧ l = [(3, p7), (5, p1), (6, p4), (24, asl n), (25, .int .i64 n), (26, .int .i64 i)] ∧ L = PL2 t o) n ⟨0, newT 5 3, rfl, by omega, new_ok _ _, rfl, rfl, rfl⟩ ?_)
    rintro r _ _ ⟨i, t, rfl, hi, ht, h3, rfl, rfl⟩
    refine L_rs (S_done [] rfl (Nx.go (L_seq (L_ifp rfl (by first | exact bD | exact bE | exact bN | exact bNB | exact bEB | exact bNot bD | exact bNot bE | exact bNot bN | exact bNot bV | exact bV) (fun h => L_skip (Nx.go ?_)) (fun h => L_exit ?_)))))
    · have hi' : i < n := by omega
      have e := hop i hi'
      refine L_seq (L_block (L_rs (S_Q [] rfl rfl (QY.idxN rfl rfl hi') (S_Q (v := .agg ⟨(op i).cells⟩) [] rfl rfl (by rw [← e]; exact QY.rowA (j := 0) i rfl rfl rfl hi' (by rw [e]; rfl) (by rw [e]; rfl)) ?_))))
      refine S_done [] rfl (Nx.go ?_)
      first | refine LSt.drop [3, 5, 6, 7, 8, 24, 25, 26] (LSt.nf ?_) | refine LWp.drop [3, 5, 6, 7, 8, 24, 25, 26] (LWp.nf ?_)
      conv => whnf
      refine L_rs (S_splitp 33 rfl rfl rfl (by first | exact bD | exact bE | exact bN | exact bNB | exact bEB | exact bNot bD | exact bNot bE | exact bNot bN | exact bNot bV | exact bV) (fun h => ?_) (fun h => ?_))
      · first | refine L_rs ?_ | refine L_reg ?_ | skip
        refine S_Ed [] rfl rfl (EWd.callF [1, 2, 3, 4, 5, 6] (step_tr t ht (op i)) rfl rfl (by decide) (by repeat' (first | exact trivial | refine ⟨rfl, ?_⟩ | fail)) rfl rfl rfl) rfl rfl rfl ?_
        rintro _ _ ⟨rfl, rfl⟩
        refine ⟨(by repeat' (first | exact trivial | refine ⟨⟨qsafe_ok (st := []) rfl, Sure.of rfl⟩, ?_⟩ | refine ⟨.inl rfl, ?_⟩ | refine ⟨.inr ⟨qsafe_ok (st := []) rfl, Sure.of rfl⟩, ?_⟩ | refine ⟨.inr ⟨QY.neqB rfl (by kernel_rfl) rfl rfl, Sure.of rfl⟩, ?_⟩ | refine ⟨.inr ⟨QY.eqlB rfl (by kernel_rfl) rfl rfl, Sure.of rfl⟩, ?_⟩ | fail)), LSt.nf ?_⟩
        conv => whnf
        refine S_done [] rfl (Nx.go (L_false rfl (L_skip (Nx.go ?_))))
        refine L_reg (S_Q [] rfl rfl (QY.add (c := ((i + 1 : Nat) : Int)) rfl rfl rfl (by omega) (by omega)) (S_done [] rfl ?_))
        exact Nx.pick [3, 5, 6, 24, 25, 26] [0, 1, 2, 3, 4, 5, 6, 7] rfl rfl rfl ⟨n - (i + 1), by omega, i + 1, stepT t (op i), rfl, by omega, step_ok ht _, by rw [step_mus, h3], rfl, rfl⟩
      · refine S_done [] rfl (Nx.go (L_false rfl (L_skip (Nx.go ?_))))
        refine L_reg (S_Q [] rfl rfl (QY.add (c := ((i + 1 : Nat) : Int)) rfl rfl rfl (by omega) (by omega)) (S_done [] rfl ?_))
        exact Nx.pick [3, 5, 6, 24, 25, 26] [0, 1, 2, 3, 4, 5, 6, 7] rfl rfl rfl ⟨n - (i + 1), by omega, i + 1, t, rfl, by omega, ht, h3, rfl, rfl⟩
    · exact Nx.pick [3, 5, 6] [0, 1, 2, 3, 4, 5, 6, 7] rfl rfl rfl ⟨t, ht, h3, rfl, rfl⟩
  · rintro _ _ ⟨t, ht, h3, rfl, rfl⟩
    refine L_rs (S_done [] rfl (Nx.go ?_))
    refine LWp.wk (wk_new (b := 8) (vs := rowsC intC (hl t 0)) 1 rfl (by intro h; cases h) (by decide) rfl) ?_
    -- who has which
    refine L_cut (fun l L => l = [(3, p7), (5, p1), (6, p4), (9, p8)] ∧ L = PL2 t o ++ [.gro 1 (rowsC intC (hl t 3))]) ?_ ?_
    · refine L_rs (S_done [] rfl (Nx.pick [3, 5, 6, 9, 41] [0, 1, 2, 3, 4, 5, 6, 7, 8] rfl rfl rfl ?_))
      refine L_block (L_loop (fun r l L => ∃ k : Nat, r = 3 - k ∧ k ≤ 3 ∧ l = [(3, p7), (5, p1), (6, p4), (9, p8), (41, .int .i64 k)] ∧ L = PL2 t o ++ [.gro 1 (rowsC intC (hl t k))]) 3 ⟨0, rfl, by omega, rfl, rfl⟩ ?_)
      rintro r _ _ ⟨k, rfl, hk, rfl, rfl⟩
      refine L_rs (S_done [] rfl (Nx.go (L_seq (L_ifp rfl (by first | exact bD | exact bE | exact bN | exact bNB | exact bEB | exact bNot bD | exact bNot bE | exact bNot bN | exact bNot bV | exact bV) (fun h => L_skip (Nx.go ?_)) (fun h => L_exit ?_)))))
      · have hk3 : k < 3 := by omega
        refine L_seq (L_block (L_rs (S_done [] rfl (Nx.go ?_))))
        by_cases hw : whoAt t (k : Int) = -1
        · have hH : Tr Try.prog 9 [tp, .int .i64 (k : Int)] (TL t) (fun v K => v = .tuple ⟨[.int .i64 0, .bool false]⟩ ∧ K = TL t) := by
            have h := Holder_tr t k
            rw [hw] at h; exact h
          first | refine L_rs ?_ | refine L_reg ?_ | skip
          refine S_Ed [] rfl rfl (EWd.callP [1, 2, 3] (hH) rfl rfl (by decide) (by repeat' (first | exact trivial | refine ⟨rfl, ?_⟩ | fail)) rfl rfl) (disj_nil _) (nm_nilE _) (nm_nilT _) ?_
          rintro _ _ ⟨rfl, rfl⟩
          refine ⟨(by repeat' (first | exact trivial | refine ⟨⟨qsafe_ok (st := []) rfl, Sure.of rfl⟩, ?_⟩ | refine ⟨.inl rfl, ?_⟩ | refine ⟨.inr ⟨qsafe_ok (st := []) rfl, Sure.of rfl⟩, ?_⟩ | refine ⟨.inr ⟨QY.neqB rfl (by kernel_rfl) rfl rfl, Sure.of rfl⟩, ?_⟩ | refine ⟨.inr ⟨QY.eqlB rfl (by kernel_rfl) rfl rfl, Sure.of rfl⟩, ?_⟩ | fail)), ?_⟩
          refine S_done [] rfl (Nx.go ?_)
          refine L_rs (S_Q [] rfl rfl (QY.idxaN rfl rfl hk3) (S_E [] rfl rfl (EW.stI rfl rfl rfl hk3) ?_))
          rintro _ _ ⟨rfl, rfl⟩
          refine ⟨trivial, S_done [] rfl (Nx.go (L_rs (S_done [] rfl (Nx.go (L_false rfl (L_skip (Nx.go ?_)))))))⟩
          refine L_reg (S_Q [] rfl rfl (QY.add (c := ((k + 1 : Nat) : Int)) rfl rfl rfl (by omega) (by omega)) (S_done [] rfl ?_))
          refine Nx.pick [3, 5, 6, 9, 41] [0, 1, 2, 3, 4, 5, 6, 7, 8] rfl rfl rfl ⟨3 - (k + 1), by omega, k + 1, rfl, by omega, rfl, ?_⟩
          rw [← hl_step1 t hk3, hw]; rfl
        · have hH : Tr Try.prog 9 [tp, .int .i64 (k : Int)] (TL t) (fun v K => v = .tuple ⟨[.int .i64 (whoAt t k), .bool true]⟩ ∧ K = TL t) := by
            have h := Holder_tr t k
            rw [if_neg hw, decide_eq_true hw] at h; exact h
          first | refine L_rs ?_ | refine L_reg ?_ | skip
          refine S_Ed [] rfl rfl (EWd.callP [1, 2, 3] (hH) rfl rfl (by decide) (by repeat' (first | exact trivial | refine ⟨rfl, ?_⟩ | fail)) rfl rfl) (disj_nil _) (nm_nilE _) (nm_nilT _) ?_
          rintro _ _ ⟨rfl, rfl⟩
          refine ⟨(by repeat' (first | exact trivial | refine ⟨⟨qsafe_ok (st := []) rfl, Sure.of rfl⟩, ?_⟩ | refine ⟨.inl rfl, ?_⟩ | refine ⟨.inr ⟨qsafe_ok (st := []) rfl, Sure.of rfl⟩, ?_⟩ | refine ⟨.inr ⟨QY.neqB rfl (by kernel_rfl) rfl rfl, Sure.of rfl⟩, ?_⟩ | refine ⟨.inr ⟨QY.eqlB rfl (by kernel_rfl) rfl rfl, Sure.of rfl⟩, ?_⟩ | fail)), ?_⟩
          refine S_done [] rfl (Nx.go ?_)
          refine L_rs (S_Q [] rfl rfl (QY.idxaN rfl rfl hk3) (S_E [] rfl rfl (EW.stI rfl rfl rfl hk3) ?_))
          rintro _ _ ⟨rfl, rfl⟩
          refine ⟨trivial, S_done [] rfl (Nx.go (L_rs (S_done [] rfl (Nx.go (L_true rfl ?_)))))⟩
          refine L_reg (S_Q [] rfl rfl (QY.idxaN rfl rfl hk3) (S_E [] rfl rfl (EW.stI rfl rfl rfl (by rw [List.length_set]; exact hk3)) ?_))
          rintro _ _ ⟨rfl, rfl⟩
          refine ⟨trivial, S_done [] rfl (Nx.go ?_)⟩
          refine L_reg (S_Q [] rfl rfl (QY.add (c := ((k + 1 : Nat) : Int)) rfl rfl rfl (by omega) (by omega)) (S_done [] rfl ?_))
          refine Nx.pick [3, 5, 6, 9, 41] [0, 1, 2, 3, 4, 5, 6, 7, 8] rfl rfl rfl ⟨3 - (k + 1), by omega, k + 1, rfl, by omega, rfl, ?_⟩
          rw [← hl_step t hk3 (-1)]; rfl
      · have : k = 3 := by omega
        subst this
        exact Nx.pick [3, 5, 6, 9] [0, 1, 2, 3, 4, 5, 6, 7, 8] rfl rfl rfl ⟨rfl, rfl⟩
    · rintro _ _ ⟨rfl, rfl⟩
      have hlen := ht.len; have hmost := ht.most
      have hup : (up t).l.length = t.l.length := rfl
      refine L_rs (S_done [] rfl (Nx.go ?_))
      refine LWp.nilE 13 4 rfl ?_
      refine L_rs (S_E [] rfl rfl (EW.appRR (bytes := 32) (xs := []) (ys := (up t).l) Th.ok rfl (by kernel_rfl) rfl rfl rfl rfl rfl rfl (by decide) (by omega)) ?_)
      rintro _ _ ⟨rfl, rfl⟩
      refine ⟨trivial, S_done [] rfl (Nx.go ?_)⟩
      refine LWp.pick [3, 5, 6, 9, 13] [0, 1, 2, 3, 4, 5, 6, 7, 8, 10] rfl rfl rfl ?_
      refine L_seq ?_
      first | refine L_rs ?_ | refine L_reg ?_ | skip
      refine S_Ed [] rfl rfl (EWd.callF [1, 2, 3, 4, 5, 6] (step_tr t ht o) rfl rfl (by decide) (by repeat' (first | exact trivial | refine ⟨rfl, ?_⟩ | fail)) rfl rfl rfl) rfl rfl rfl ?_
      rintro _ _ ⟨rfl, rfl⟩
      refine ⟨(by repeat' (first | exact trivial | refine ⟨⟨qsafe_ok (st := []) rfl, Sure.of rfl⟩, ?_⟩ | refine ⟨.inl rfl, ?_⟩ | refine ⟨.inr ⟨qsafe_ok (st := []) rfl, Sure.of rfl⟩, ?_⟩ | refine ⟨.inr ⟨QY.neqB rfl (by kernel_rfl) rfl rfl, Sure.of rfl⟩, ?_⟩ | refine ⟨.inr ⟨QY.eqlB rfl (by kernel_rfl) rfl rfl, Sure.of rfl⟩, ?_⟩ | fail)), LSt.nf ?_⟩
      conv => whnf
      refine S_done [] rfl (Nx.go (L_false rfl (L_skip (Nx.go ?_))))
      have ht2 := step_ok ht o
      have kM : ∀ m : Int, _ := fun m => keepM (t := t) o (m := m)
      have kT : ∀ k : Int, _ := fun k => keepT (t := t) o (k := k)
      generalize stepT t o = t2 at ht2 kM kT
      -- the mutexes
      refine L_cut (fun l L => l = [(5, p1), (13, .slice (some ⟨9, 0, none⟩) (0 + (up t).l.length) (0 + (up t).l.length))] ∧ L = PL2 t2 o ++ [.gro 1 (rowsC intC (hl t 3)), .gro 4 (rowsC Th.cells ([] ++ (up t).l))]) ?_ ?_
      · refine L_rs (S_Q [] rfl rfl (QY.ldng (n := 3) (us := rowsC intC (hl t 3)) rfl rfl (Nat.le_refl 3) (by decide) rfl rfl) (S_done [] rfl (Nx.pick [3, 5, 13, 68, 69] [0, 1, 2, 3, 4, 5, 6, 7, 8, 9] rfl rfl rfl ?_)))
        refine L_block (L_loop (fun r l L => ∃ k : Nat, r = 3 - k ∧ k ≤ 3 ∧ l = [(3, p7), (5, p1), (13, .slice (some ⟨9, 0, none⟩) (0 + (up t).l.length) (0 + (up t).l.length)), (68, .agg ⟨rowsC intC (hl t 3)⟩), (69, .int .i64 k)] ∧ L = PL2 t2 o ++ [.gro 1 (rowsC intC (hl t 3)), .gro 4 (rowsC Th.cells ([] ++ (up t).l))]) 3 ⟨0, rfl, by omega, rfl, rfl⟩ ?_)
        rintro r _ _ ⟨k, rfl, hk, rfl, rfl⟩
        refine L_rs (S_done [] rfl (Nx.go (L_seq (L_ifp rfl (by first | exact bD | exact bE | exact bN | exact bNB | exact bEB | exact bNot bD | exact bNot bE | exact bNot bN | exact bNot bV | exact bV) (fun h => L_skip (Nx.go ?_)) (fun h => L_exit ?_)))))
        · have hk3 : k < 3 := by omega
          refine L_seq (L_block (L_rs (S_Q [] rfl rfl (QY.index (n := 3) rfl (by kernel_rfl) rfl rfl (by omega) (by omega) (by simpa using hl_get t hk3)) ?_)))
          refine S_done [] rfl (Nx.go ?_)
          have key := kM k
          have fin : ∀ (l : Env), eget l 3 = some p7 → eget l 5 = some p1 → eget l 13 = some (.slice (some ⟨9, 0, none⟩) (0 + (up t).l.length) (0 + (up t).l.length)) → eget l 68 = some (.agg ⟨rowsC intC (hl t 3)⟩) → eget l 69 = some (.int .i64 k) →
              LSt Try.prog ⟨1, [(0, n * 6, rowG 6 get)], [0]⟩ [.q 0 (some 108) none (.bin .add (.tmp 69) (.const (.int .i64 1))) false, .q 0 (some 69) none (.mov (.tmp 108)) false] (Nx ⟨1, [(0, n * 6, rowG 6 get)], [0]⟩ fun l L => ∃ m, m < 3 - k ∧ ∃ k : Nat, m = 3 - k ∧ k ≤ 3 ∧ l = [(3, p7), (5, p1), (13, .slice (some ⟨9, 0, none⟩) (0 + (up t).l.length) (0 + (up t).l.length)), (68, .agg ⟨rowsC intC (hl t 3)⟩), (69, .int .i64 k)] ∧ L = PL2 t2 o ++ [.gro 1 (rowsC intC (hl t 3)), .gro 4 (rowsC Th.cells ([] ++ (up t).l))]) l [] (PL2 t2 o ++ [.gro 1 (rowsC intC (hl t 3)), .gro 4 (rowsC Th.cells ([] ++ (up t).l))]) := by
            intro l h1 h2 h3 h4 h5
            refine LSt.drop [3, 5, 13, 68, 69] ?_
            rw [show repick l [3, 5, 13, 68, 69] = [(3, p7), (5, p1), (13, .slice (some ⟨9, 0, none⟩) (0 + (up t).l.length) (0 + (up t).l.length)), (68, .agg ⟨rowsC intC (hl t 3)⟩), (69, .int .i64 k)] by simp only [repick, h1, h2, h3, h4, h5]]
            refine S_Q [] rfl rfl (QY.add (c := ((k + 1 : Nat) : Int)) rfl rfl rfl (by omega) (by omega)) (S_done [] rfl ?_)
            exact Nx.pick [3, 5, 13, 68, 69] [0, 1, 2, 3, 4, 5, 6, 7, 8, 9] rfl rfl rfl ⟨3 - (k + 1), by omega, k + 1, rfl, by omega, rfl, rfl⟩
          by_cases hw : whoAt t2 (k : Int) = -1
          · have hH : Tr Try.prog 9 [tp, .int .i64 (k : Int)] (TL t2) (fun v K => v = .tuple ⟨[.int .i64 0, .bool false]⟩ ∧ K = TL t2) := by
              have h := Holder_tr t2 k
              rw [hw] at h; exact h
            first | refine L_rs ?_ | refine L_reg ?_ | skip
            refine S_Ed [] rfl rfl (EWd.callP [1, 2, 3] (hH) rfl rfl (by decide) (by repeat' (first | exact trivial | refine ⟨rfl, ?_⟩ | fail)) rfl rfl) (disj_nil _) (nm_nilE _) (nm_nilT _) ?_
            rintro _ _ ⟨rfl, rfl⟩
            refine ⟨(by repeat' (first | exact trivial | refine ⟨⟨qsafe_ok (st := []) rfl, Sure.of rfl⟩, ?_⟩ | refine ⟨.inl rfl, ?_⟩ | refine ⟨.inr ⟨qsafe_ok (st := []) rfl, Sure.of rfl⟩, ?_⟩ | refine ⟨.inr ⟨QY.neqB rfl (by kernel_rfl) rfl rfl, Sure.of rfl⟩, ?_⟩ | refine ⟨.inr ⟨QY.eqlB rfl (by kernel_rfl) rfl rfl, Sure.of rfl⟩, ?_⟩ | fail)), ?_⟩
            refine S_done [] rfl (Nx.go ?_)
            rw [hw] at key
            generalize whoAt t (k : Int) = was at key
            repeat' (first
              | refine L_rs ?_
              | refine S_done [] rfl (Nx.go ?_)
              | refine S_done [] rfl (RetQ.keepN rfl rfl rfl rfl ?_)
              | refine L_block ?_
              | refine L_ret (RetQ.keep rfl rfl rfl rfl ?_)
              | refine L_true rfl ?_
              | refine L_false rfl ?_
              | refine L_skip (Nx.go ?_)
              | refine L_ifp rfl (by first | exact bD | exact bE | exact bN | exact bNB | exact bEB | exact bNot bD | exact bNot bE | exact bNot bN) (fun h => ?_) (fun h => ?_)
              | refine S_Q [] rfl rfl (QY.idxN rfl rfl (by omega)) ?_
              | refine S_splitp 81 rfl rfl rfl (by first | exact bD | exact bE | exact bN | exact bNB | exact bEB | exact bNot bD | exact bNot bE | exact bNot bN) (fun h => ?_) (fun h => ?_)
              | refine S_splitp 85 rfl rfl rfl (by first | exact bD | exact bE | exact bN | exact bNB | exact bEB | exact bNot bD | exact bNot bE | exact bNot bN) (fun h => ?_) (fun h => ?_)
              | refine S_splitp 91 rfl rfl rfl (by first | exact bD | exact bE | exact bN | exact bNB | exact bEB | exact bNot bD | exact bNot bE | exact bNot bN) (fun h => ?_) (fun h => ?_)
              | refine S_splitp 99 rfl rfl rfl (by first | exact bD | exact bE | exact bN | exact bNB | exact bEB | exact bNot bD | exact bNot bE | exact bNot bN) (fun h => ?_) (fun h => ?_)
              | refine L_reg ?_
              | refine L_seq ?_
              | exact ⟨rfl, rfl⟩
              | fail)
            all_goals first | exact fin _ rfl rfl rfl rfl rfl | (exfalso; have := key (by omega) (by omega); omega)
          · have hH : Tr Try.prog 9 [tp, .int .i64 (k : Int)] (TL t2) (fun v K => v = .tuple ⟨[.int .i64 (whoAt t2 k), .bool true]⟩ ∧ K = TL t2) := by
              have h := Holder_tr t2 k
              rw [if_neg hw, decide_eq_true hw] at h; exact h
            first | refine L_rs ?_ | refine L_reg ?_ | skip
            refine S_Ed [] rfl rfl (EWd.callP [1, 2, 3] (hH) rfl rfl (by decide) (by repeat' (first | exact trivial | refine ⟨rfl, ?_⟩ | fail)) rfl rfl) (disj_nil _) (nm_nilE _) (nm_nilT _) ?_
            rintro _ _ ⟨rfl, rfl⟩
            refine ⟨(by repeat' (first | exact trivial | refine ⟨⟨qsafe_ok (st := []) rfl, Sure.of rfl⟩, ?_⟩ | refine ⟨.inl rfl, ?_⟩ | refine ⟨.inr ⟨qsafe_ok (st := []) rfl, Sure.of rfl⟩, ?_⟩ | refine ⟨.inr ⟨QY.neqB rfl (by kernel_rfl) rfl rfl, Sure.of rfl⟩, ?_⟩ | refine ⟨.inr ⟨QY.eqlB rfl (by kernel_rfl) rfl rfl, Sure.of rfl⟩, ?_⟩ | fail)), ?_⟩
            refine S_done [] rfl (Nx.go ?_)
            generalize whoAt t (k : Int) = was at key
            generalize whoAt t2 (k : Int) = w2 at key hw
            repeat' (first
              | refine L_rs ?_
              | refine S_done [] rfl (Nx.go ?_)
              | refine S_done [] rfl (RetQ.keepN rfl rfl rfl rfl ?_)
              | refine L_block ?_
              | refine L_ret (RetQ.keep rfl rfl rfl rfl ?_)
              | refine L_true rfl ?_
              | refine L_false rfl ?_
              | refine L_skip (Nx.go ?_)
              | refine L_ifp rfl (by first | exact bD | exact bE | exact bN | exact bNB | exact bEB | exact bNot bD | exact bNot bE | exact bNot bN) (fun h => ?_) (fun h => ?_)
              | refine S_Q [] rfl rfl (QY.idxN rfl rfl (by omega)) ?_
              | refine S_splitp 81 rfl rfl rfl (by first | exact bD | exact bE | exact bN | exact bNB | exact bEB | exact bNot bD | exact bNot bE | exact bNot bN) (fun h => ?_) (fun h => ?_)
              | refine S_splitp 85 rfl rfl rfl (by first | exact bD | exact bE | exact bN | exact bNB | exact bEB | exact bNot bD | exact bNot bE | exact bNot bN) (fun h => ?_) (fun h => ?_)
              | refine S_splitp 91 rfl rfl rfl (by first | exact bD | exact bE | exact bN | exact bNB | exact bEB | exact bNot bD | exact bNot bE | exact bNot bN) (fun h => ?_) (fun h => ?_)
              | refine S_splitp 99 rfl rfl rfl (by first | exact bD | exact bE | exact bN | exact bNB | exact bEB | exact bNot bD | exact bNot bE | exact bNot bN) (fun h => ?_) (fun h => ?_)
              | refine L_reg ?_
              | refine L_seq ?_
              | exact ⟨rfl, rfl⟩
              | fail)
            all_goals first | exact fin _ rfl rfl rfl rfl rfl | (exfalso; have := key (by omega) (by omega); omega)
        · exact Nx.pick [5, 13] [0, 1, 2, 3, 4, 5, 6, 7, 8, 9] rfl rfl rfl ⟨rfl, rfl⟩
      · rintro _ _ ⟨rfl, rfl⟩
        -- what is over
        refine L_cut (fun l L => l = [] ∧ L = [.dead]) ?_ ?_
        · refine L_rs (S_done [] rfl (Nx.pick [5, 109, 110, 111] [0, 1, 2, 3, 4, 5, 6, 7, 8, 9] rfl rfl rfl ?_))
          refine L_block (L_loop (fun r l L => ∃ k : Nat, r = (up t).l.length - k ∧ k ≤ (up t).l.length ∧ l = [(5, p1), (109, .slice (some ⟨9, 0, none⟩) (0 + (up t).l.length) (0 + (up t).l.length)), (110, .int .i64 ((0 + (up t).l.length : Nat) : Int)), (111, .int .i64 k)] ∧ L = PL2 t2 o ++ [.gro 1 (rowsC intC (hl t 3)), .gro 4 (rowsC Th.cells ([] ++ (up t).l))]) (up t).l.length ⟨0, rfl, by omega, rfl, rfl⟩ ?_)
          rintro r _ _ ⟨k, rfl, hk, rfl, rfl⟩
          refine L_rs (S_done [] rfl (Nx.go (L_seq (L_ifp rfl (by first | exact bD | exact bE | exact bN | exact bNB | exact bEB | exact bNot bD | exact bNot bE | exact bNot bN | exact bNot bV | exact bV) (fun h => L_skip (Nx.go ?_)) (fun h => L_exit ?_)))))
          · have hkl : k < (up t).l.length := by omega
            obtain ⟨x, hx⟩ : ∃ x, (up t).l[k]? = some x := ⟨_, List.getElem?_eq_getElem hkl⟩
            have ex : thAt t.l k = x := thAt_get hx
            have key := kT k
            rw [ex] at key
            have hX := Exit_tr t2 k; have hS := State_tr t2 k; have hT := Trap_tr t2 k
            refine L_seq (L_block (L_rs (S_Q [] rfl rfl (QY.idxN rfl rfl (by omega)) (S_Q [] rfl rfl (QY.ldRow (xs := [] ++ (up t).l) Th.ok rfl rfl hx (by decide)) (S_done [] rfl (Nx.go ?_))))))
            by_cases h2 : x.st ≥ 2
            · rw [key h2] at hX hS hT
              first | refine L_rs ?_ | refine L_reg ?_ | skip
              refine S_Ed [] rfl rfl (EWd.callP [1, 2, 3] (hX) rfl rfl (by decide) (by repeat' (first | exact trivial | refine ⟨rfl, ?_⟩ | fail)) rfl rfl) (disj_nil _) (nm_nilE _) (nm_nilT _) ?_
              rintro _ _ ⟨rfl, rfl⟩
              refine ⟨(by repeat' (first | exact trivial | refine ⟨⟨qsafe_ok (st := []) rfl, Sure.of rfl⟩, ?_⟩ | refine ⟨.inl rfl, ?_⟩ | refine ⟨.inr ⟨qsafe_ok (st := []) rfl, Sure.of rfl⟩, ?_⟩ | refine ⟨.inr ⟨QY.neqB rfl (by kernel_rfl) rfl rfl, Sure.of rfl⟩, ?_⟩ | refine ⟨.inr ⟨QY.eqlB rfl (by kernel_rfl) rfl rfl, Sure.of rfl⟩, ?_⟩ | fail)), ?_⟩
              refine S_done [] rfl (Nx.go ?_)
              refine L_rs (S_splitT 125 rfl rfl rfl (by simpa using h2) ?_)
              first | refine L_rs ?_ | refine L_reg ?_ | skip
              refine S_Ed [] rfl rfl (EWd.callP [1, 2, 3] (hS) rfl rfl (by decide) (by repeat' (first | exact trivial | refine ⟨rfl, ?_⟩ | fail)) rfl rfl) (disj_nil _) (nm_nilE _) (nm_nilT _) ?_
              rintro _ _ ⟨rfl, rfl⟩
              refine ⟨(by repeat' (first | exact trivial | refine ⟨⟨qsafe_ok (st := []) rfl, Sure.of rfl⟩, ?_⟩ | refine ⟨.inl rfl, ?_⟩ | refine ⟨.inr ⟨qsafe_ok (st := []) rfl, Sure.of rfl⟩, ?_⟩ | refine ⟨.inr ⟨QY.neqB rfl (by kernel_rfl) rfl rfl, Sure.of rfl⟩, ?_⟩ | refine ⟨.inr ⟨QY.eqlB rfl (by kernel_rfl) rfl rfl, Sure.of rfl⟩, ?_⟩ | fail)), ?_⟩
              refine S_splitF 132 rfl rfl rfl (by simp) ?_
              first | refine L_rs ?_ | refine L_reg ?_ | skip
              refine S_Ed [] rfl rfl (EWd.callP [] (Plain_tr x.kd x.bits) rfl rfl (by decide) (by repeat' (first | exact trivial | refine ⟨rfl, ?_⟩ | fail)) rfl rfl) (disj_nil _) (nm_nilE _) (nm_nilT _) ?_
              rintro _ _ ⟨rfl, rfl⟩
              refine ⟨(by repeat' (first | exact trivial | refine ⟨⟨qsafe_ok (st := []) rfl, Sure.of rfl⟩, ?_⟩ | refine ⟨.inl rfl, ?_⟩ | refine ⟨.inr ⟨qsafe_ok (st := []) rfl, Sure.of rfl⟩, ?_⟩ | refine ⟨.inr ⟨QY.neqB rfl (by kernel_rfl) rfl rfl, Sure.of rfl⟩, ?_⟩ | refine ⟨.inr ⟨QY.eqlB rfl (by kernel_rfl) rfl rfl, Sure.of rfl⟩, ?_⟩ | fail)), ?_⟩
              refine S_Q [] rfl rfl (QY.neqS (bs := [x.kd == x.kd, x.bits == x.bits]) rfl rfl rfl (by kernel_rfl)) ?_
              refine S_splitF 139 rfl rfl rfl (by simp) ?_
              first | refine L_rs ?_ | refine L_reg ?_ | skip
              refine S_Ed [] rfl rfl (EWd.callP [1, 2, 3] (hT) rfl rfl (by decide) (by repeat' (first | exact trivial | refine ⟨rfl, ?_⟩ | fail)) rfl rfl) (disj_nil _) (nm_nilE _) (nm_nilT _) ?_
              rintro _ _ ⟨rfl, rfl⟩
              refine ⟨(by repeat' (first | exact trivial | refine ⟨⟨qsafe_ok (st := []) rfl, Sure.of rfl⟩, ?_⟩ | refine ⟨.inl rfl, ?_⟩ | refine ⟨.inr ⟨qsafe_ok (st := []) rfl, Sure.of rfl⟩, ?_⟩ | refine ⟨.inr ⟨QY.neqB rfl (by kernel_rfl) rfl rfl, Sure.of rfl⟩, ?_⟩ | refine ⟨.inr ⟨QY.eqlB rfl (by kernel_rfl) rfl rfl, Sure.of rfl⟩, ?_⟩ | refine ⟨.inr ⟨QY.neqS (bs := [x.kd == x.kd, x.bits == x.bits]) rfl rfl rfl (by kernel_rfl), Sure.of rfl⟩, ?_⟩ | fail)), ?_⟩
              refine S_done [] rfl (Nx.go (L_ifp rfl (by first | exact bD | exact bE | exact bN | exact bNB | exact bEB | exact bNot bD | exact bNot bE | exact bNot bN | exact bNot bV | exact bV) (fun h => absurd rfl h) (fun _ => L_skip (Nx.go ?_))))
              refine L_reg (S_Q [] rfl rfl (QY.add (c := ((k + 1 : Nat) : Int)) rfl rfl rfl (by omega) (by omega)) (S_done [] rfl ?_))
              exact Nx.pick [5, 109, 110, 111] [0, 1, 2, 3, 4, 5, 6, 7, 8, 9] rfl rfl rfl ⟨(up t).l.length - (k + 1), by omega, k + 1, rfl, by omega, rfl, rfl⟩
            · first | refine L_rs ?_ | refine L_reg ?_ | skip
              refine S_Ed [] rfl rfl (EWd.callP [1, 2, 3] (hX) rfl rfl (by decide) (by repeat' (first | exact trivial | refine ⟨rfl, ?_⟩ | fail)) rfl rfl) (disj_nil _) (nm_nilE _) (nm_nilT _) ?_
              rintro _ _ ⟨rfl, rfl⟩
              refine ⟨(by repeat' (first | exact trivial | refine ⟨⟨qsafe_ok (st := []) rfl, Sure.of rfl⟩, ?_⟩ | refine ⟨.inl rfl, ?_⟩ | refine ⟨.inr ⟨qsafe_ok (st := []) rfl, Sure.of rfl⟩, ?_⟩ | refine ⟨.inr ⟨QY.neqB rfl (by kernel_rfl) rfl rfl, Sure.of rfl⟩, ?_⟩ | refine ⟨.inr ⟨QY.eqlB rfl (by kernel_rfl) rfl rfl, Sure.of rfl⟩, ?_⟩ | fail)), ?_⟩
              refine S_done [] rfl (Nx.go ?_)
              refine L_rs (S_splitF 125 rfl rfl rfl (by simpa using h2) ?_)
              refine S_done [] rfl (Nx.go (L_false rfl (L_skip (Nx.go ?_))))
              refine L_reg (S_Q [] rfl rfl (QY.add (c := ((k + 1 : Nat) : Int)) rfl rfl rfl (by omega) (by omega)) (S_done [] rfl ?_))
              exact Nx.pick [5, 109, 110, 111] [0, 1, 2, 3, 4, 5, 6, 7, 8, 9] rfl rfl rfl ⟨(up t).l.length - (k + 1), by omega, k + 1, rfl, by omega, rfl, rfl⟩
          · exact Nx.pick [] [0] rfl rfl rfl ⟨rfl, rfl⟩
        · rintro _ _ ⟨rfl, rfl⟩
          first | refine L_rs ?_ | refine L_reg ?_ | skip
          refine S_Ed [] rfl rfl (EWd.callP [] (awake_tr) rfl rfl (by decide) (by repeat' (first | exact trivial | refine ⟨rfl, ?_⟩ | fail)) rfl rfl) (disj_nil _) (nm_nilE _) (nm_nilT _) ?_
          rintro _ _ ⟨rfl, rfl⟩
          refine ⟨(by repeat' (first | exact trivial | refine ⟨⟨qsafe_ok (st := []) rfl, Sure.of rfl⟩, ?_⟩ | refine ⟨.inl rfl, ?_⟩ | refine ⟨.inr ⟨qsafe_ok (st := []) rfl, Sure.of rfl⟩, ?_⟩ | refine ⟨.inr ⟨QY.neqB rfl (by kernel_rfl) rfl rfl, Sure.of rfl⟩, ?_⟩ | refine ⟨.inr ⟨QY.eqlB rfl (by kernel_rfl) rfl rfl, Sure.of rfl⟩, ?_⟩ | fail)), ?_⟩
          refine S_done [] rfl (Nx.go (L_ret (RetQ.keep rfl rfl rfl rfl rfl)))

theorem ThreadKeeps_does (w : World) {v : Value} {n : Nat} {get : Nat → List Value} (hr : SlIn w 6 v n get) (hf : ∀ i, i < n → Fits [some .i64, some .i64, some .i64, some .i64, some .i64, some .u64] (get i)) {cs : List Value} (ho : Fits [some .i64, some .i64, some .i64, some .i64, some .i64, some .u64] cs) :
    Does Try.prog 3 #[v, .agg ⟨cs⟩] w fun v w' => v = .bool true ∧ Fr (fun _ => False) w w' := by
  obtain ⟨op, hop⟩ := choose_lt (n := n) (p := fun i (o : Op) => get i = o.cells) fun i hi => ops_in (hf i hi)
  obtain ⟨o, rfl⟩ := ops_in ho
  obtain ⟨hn, r, hr⟩ := hr
  obtain ⟨h1, h2⟩ := hr [r] 0 rfl
  exact (ThreadKeeps_tr n hn get op hop o).law (vs' := [v, .agg ⟨o.cells⟩]) [r] w rfl (by intro x hx; cases List.mem_singleton.1 hx; exact ⟨rfl, h2⟩) ⟨h1, VR.still (v := .agg ⟨o.cells⟩) rfl, trivial⟩
end Go.Proofs.Ytcchfefbolmlbaa
