/-
  Layer 29: contracts of the document's table.
-/
import Derived.Test.YtcchfefbolmlbaaThreadC
namespace Go.Proofs.Ytcchfefbolmlbaa
open Go Go.Tum

theorem rState_tr (t : Tb) (k : Int) : Tr Try.prog 34 [tp, .int .i64 k] (TL t) (fun v K => v = .int .i64 (thAt t.l k).st ∧ K = TL t) := by
  refine Tr.of row_tumbrelref29_Table_State_ok rfl ?_
  repeat' (first
    | refine L_rs ?_
    | refine S_done [] rfl (Nx.go ?_)
    | refine S_done [] rfl (RetQ.keepN rfl rfl rfl rfl ?_)
    | refine L_block ?_
    | refine L_ret (RetQ.keep rfl rfl rfl rfl ?_)
    | refine L_true rfl ?_
    | refine L_false rfl ?_
    | refine L_skip (Nx.go ?_)
    | refine L_ifp rfl (by first | exact bD | exact bE | exact bN | exact bNB | exact bEB | exact bNot bD | exact bNot bE | exact bNot bN) (fun h => ?_) (fun h => ?_)
    | refine S_Q [] rfl rfl (QY.idxN rfl rfl (by omega)) ?_
    | refine S_splitp 7 rfl rfl rfl (by first | exact bD | exact bE | exact bN | exact bNB | exact bEB | exact bNot bD | exact bNot bE | exact bNot bN) (fun h => ?_) (fun h => ?_)
    | refine L_reg ?_
    | refine L_seq ?_
    | exact ⟨rfl, rfl⟩
    | fail)
  · rw [thAt_no (by omega)]; exact ⟨rfl, rfl⟩
  · rw [thAt_no (by omega)]; exact ⟨rfl, rfl⟩
  · obtain ⟨j, rfl⟩ := Int.eq_ofNat_of_zero_le (by omega : 0 ≤ k)
    obtain ⟨x, hx⟩ : ∃ x, t.l[j]? = some x := ⟨_, List.getElem?_eq_getElem (by omega)⟩
    refine S_Q [] rfl rfl (QY.idxN rfl rfl (by omega)) (S_Q [] rfl rfl (QY.ldF (j := 0) Th.ok rfl rfl hx rfl rfl) ?_)
    repeat' (first
      | refine L_rs ?_
      | refine S_done [] rfl (Nx.go ?_)
      | refine S_done [] rfl (RetQ.keepN rfl rfl rfl rfl ?_)
      | refine L_block ?_
      | refine L_ret (RetQ.keep rfl rfl rfl rfl ?_)
      | refine L_true rfl ?_
      | refine L_false rfl ?_
      | refine L_skip (Nx.go ?_)
      | refine L_ifp rfl (by first | exact bD | exact bE | exact bN | exact bNB | exact bEB | exact bNot bD | exact bNot bE | exact bNot bN) (fun h => ?_) (fun h => ?_)
      | refine S_Q [] rfl rfl (QY.idxN rfl rfl (by omega)) ?_
      | refine L_reg ?_
      | refine L_seq ?_
      | exact ⟨rfl, rfl⟩
      | fail)
    rw [thAt_get hx]; exact ⟨rfl, rfl⟩

theorem within_tr (n most : Int) (h0 : 0 ≤ most) : Tr Try.prog 23 [.int .i64 n, .int .i64 most] [] (fun v K => v = .int .i64 (clip n most) ∧ K = []) := by
  refine Tr.of row_tumbrelref29_within_ok rfl ?_
  repeat' (first
    | refine L_rs ?_
    | refine S_done [] rfl (Nx.go ?_)
    | refine S_done [] rfl (RetQ.keepN rfl rfl rfl rfl ?_)
    | refine L_block ?_
    | refine L_ret (RetQ.keep rfl rfl rfl rfl ?_)
    | refine L_true rfl ?_
    | refine L_false rfl ?_
    | refine L_skip (Nx.go ?_)
    | refine L_ifp rfl (by first | exact bD | exact bE | exact bN | exact bNB | exact bEB | exact bNot bD | exact bNot bE | exact bNot bN) (fun h => ?_) (fun h => ?_)
    | refine S_Q [] rfl rfl (QY.idxN rfl rfl (by omega)) ?_
    | refine L_reg ?_
    | refine L_seq ?_
    | exact ⟨rfl, rfl⟩
    | fail)
  · rw [show clip n most = 0 by unfold clip; omega]; exact ⟨rfl, rfl⟩
  · rw [show clip n most = most by unfold clip; omega]; exact ⟨rfl, rfl⟩
  · rw [show clip n most = n by unfold clip; omega]; exact ⟨rfl, rfl⟩

theorem rSpawn_tr (t : Tb) (hl : t.l.length ≤ 64) (hm : (t.l.length : Int) ≤ t.most) : TrK Try.prog [] [0] 24 [tp] (TL t) (fun v K => v = spawnV t ∧ K = TL (spawnT t)) := by
  refine Tr.of row_tumbrelref29_Table_Spawn_ok rfl ?_
  repeat' (first
    | refine L_rs ?_
    | refine S_done [] rfl (Nx.go ?_)
    | refine S_done [] rfl (RetQ.keepN rfl rfl rfl rfl ?_)
    | refine L_block ?_
    | refine L_ret (RetQ.keep rfl rfl rfl rfl ?_)
    | refine L_true rfl ?_
    | refine L_false rfl ?_
    | refine L_skip (Nx.go ?_)
    | refine L_ifp rfl (by first | exact bD | exact bE | exact bN | exact bNB | exact bEB | exact bNot bD | exact bNot bE | exact bNot bN) (fun h => ?_) (fun h => ?_)
    | refine S_Q [] rfl rfl (QY.idxN rfl rfl (by omega)) ?_
    | refine L_reg ?_
    | refine L_seq ?_
    | exact ⟨rfl, rfl⟩
    | fail)
  · have h : (t.l.length : Int) = t.most := by omega
    rw [spawnV, spawnT, if_pos h, if_pos h, if_pos h]; exact ⟨rfl, rfl⟩
  · refine S_wk [] rfl (wk_gro0 (b := 3) 4 rfl) ?_
    refine S_E [] rfl rfl (EW.appRR (bytes := 32) (xs := []) (ys := t.l) Th.ok rfl (by kernel_rfl) rfl rfl rfl rfl rfl rfl (by decide) (by omega)) ?_
    rintro _ _ ⟨rfl, rfl⟩
    refine ⟨trivial, LSt.nf ?_⟩
    conv => whnf
    refine S_E [] rfl rfl (EW.appR1 (bytes := 32) (a := ⟨1, 0, 0, 0⟩) Th.ok rfl (by kernel_rfl) rfl rfl rfl rfl (by simp) (by omega)) ?_
    rintro _ _ ⟨rfl, rfl⟩
    refine ⟨trivial, LSt.nf ?_⟩
    conv => whnf
    repeat' (first
      | refine L_rs ?_
      | refine S_done [] rfl (Nx.go ?_)
      | refine S_done [] rfl (RetQ.keepN rfl rfl rfl rfl ?_)
      | refine L_block ?_
      | refine L_ret (RetQ.keep rfl rfl rfl rfl ?_)
      | refine L_true rfl ?_
      | refine L_false rfl ?_
      | refine L_skip (Nx.go ?_)
      | refine L_ifp rfl (by first | exact bD | exact bE | exact bN | exact bNB | exact bEB | exact bNot bD | exact bNot bE | exact bNot bN) (fun h => ?_) (fun h => ?_)
      | refine S_Q [] rfl rfl (QY.idxN rfl rfl (by omega)) ?_
      | refine L_reg ?_
      | refine L_seq ?_
      | exact ⟨rfl, rfl⟩
      | fail)
    refine S_Q [] rfl rfl (QY.sub (c := (t.l.length : Int)) rfl rfl (by omega) (by omega) (by omega)) (S_done [] rfl (Nx.go (L_ret (RetQ.pick [0, 6, 2] rfl rfl rfl rfl ?_))))
    have h : ¬ (t.l.length : Int) = t.most := by omega
    rw [spawnV, spawnT, if_neg h, if_neg h, if_neg h]
    exact ⟨rfl, by simp only [TL, List.length_append, Nat.zero_add, List.length_cons, List.length_nil]; rfl⟩

def overE (t : Tb) (k : Int) (x : Th) : Int := if (thAt t.l k).st = 1 then (if x.st = 3 ∧ x.trap < 1 then 1 else 0) else 8
def overT (t : Tb) (k : Int) (x : Th) : Tb := if overE t k x = 0 then putT t k x else t
theorem at_in {l : List Th} {k : Int} (h : (thAt l k).st = 1) : ∃ j : Nat, k = j ∧ j < l.length := by
  by_cases h1 : 0 ≤ k ∧ k < l.length
  · exact ⟨k.toNat, by omega, by omega⟩
  · rw [thAt, if_neg h1] at h
    simp [Th.zero] at h
theorem over_tr (t : Tb) (hl : t.l.length ≤ 64) (k : Int) (x : Th) : TrK Try.prog [] [0] 33 [tp, .int .i64 k, .agg ⟨x.cells⟩] (TL t) (fun v K => v = .int .i64 (overE t k x) ∧ K = TL (overT t k x)) := by
  refine Tr.of row_tumbrelref29_Table_over_ok rfl ?_
  repeat' (first
    | refine L_rs ?_
    | refine S_done [] rfl (Nx.go ?_)
    | refine S_done [] rfl (RetQ.keepN rfl rfl rfl rfl ?_)
    | refine L_block ?_
    | refine L_ret (RetQ.keep rfl rfl rfl rfl ?_)
    | refine L_true rfl ?_
    | refine L_false rfl ?_
    | refine L_skip (Nx.go ?_)
    | refine L_ifp rfl (by first | exact bD | exact bE | exact bN | exact bNB | exact bEB | exact bNot bD | exact bNot bE | exact bNot bN) (fun h => ?_) (fun h => ?_)
    | refine S_Q [] rfl rfl (QY.idxN rfl rfl (by omega)) ?_
    | refine L_reg ?_
    | refine L_seq ?_
    | exact ⟨rfl, rfl⟩
    | fail)
  first | refine L_rs ?_ | refine L_reg ?_ | skip
  refine S_Ed [] rfl rfl (EWd.callP [0, 1, 2] (rState_tr t k) rfl rfl (by decide) (by repeat' (first | exact trivial | refine ⟨rfl, ?_⟩ | fail)) rfl rfl) (disj_nil _) (nm_nilE _) (nm_nilT _) ?_
  rintro _ _ ⟨rfl, rfl⟩
  refine ⟨(by repeat' (first | exact trivial | refine ⟨⟨qsafe_ok (st := []) rfl, Sure.of rfl⟩, ?_⟩ | refine ⟨.inl rfl, ?_⟩ | refine ⟨.inr ⟨qsafe_ok (st := []) rfl, Sure.of rfl⟩, ?_⟩ | refine ⟨.inr ⟨QY.neqB rfl (by kernel_rfl) rfl rfl, Sure.of rfl⟩, ?_⟩ | refine ⟨.inr ⟨QY.eqlB rfl (by kernel_rfl) rfl rfl, Sure.of rfl⟩, ?_⟩ | fail)), ?_⟩
  repeat' (first
    | refine L_rs ?_
    | refine S_done [] rfl (Nx.go ?_)
    | refine S_done [] rfl (RetQ.keepN rfl rfl rfl rfl ?_)
    | refine L_block ?_
    | refine L_ret (RetQ.keep rfl rfl rfl rfl ?_)
    | refine L_true rfl ?_
    | refine L_false rfl ?_
    | refine L_skip (Nx.go ?_)
    | refine L_ifp rfl (by first | exact bD | exact bE | exact bN | exact bNB | exact bEB | exact bNot bD | exact bNot bE | exact bNot bN) (fun h => ?_) (fun h => ?_)
    | refine S_Q [] rfl rfl (QY.idxN rfl rfl (by omega)) ?_
    | refine S_splitp 15 rfl rfl rfl (by first | exact bD | exact bE | exact bN | exact bNB | exact bEB | exact bNot bD | exact bNot bE | exact bNot bN) (fun h => ?_) (fun h => ?_)
    | refine L_reg ?_
    | refine L_seq ?_
    | exact ⟨rfl, rfl⟩
    | fail)
  · have e : overE t k x = 8 := by rw [overE, if_neg h]
    rw [overT, e, if_neg (by decide)]; exact ⟨rfl, rfl⟩
  · rename_i h1 h2
    have e : overE t k x = 1 := by rw [overE, if_pos (Classical.not_not.1 h1), if_pos ⟨h2, h⟩]
    rw [overT, e, if_neg (by decide)]; exact ⟨rfl, rfl⟩
  all_goals
    have h1 : (thAt t.l k).st = 1 := by (first | (rename_i h1 h2; exact Classical.not_not.1 h1) | (rename_i h1; exact Classical.not_not.1 h1))
    have e : overE t k x = 0 := by rw [overE, if_pos h1, if_neg]; rintro ⟨h3, h4⟩; omega
    obtain ⟨j, rfl, hj⟩ := at_in h1
    refine S_wk [] rfl (wk_gro0 (b := 4) 4 rfl) ?_
    refine S_E [] rfl rfl (EW.appRR (bytes := 32) (xs := []) (ys := t.l) Th.ok rfl (by kernel_rfl) rfl rfl rfl rfl rfl rfl (by decide) (by omega)) ?_
    rintro _ _ ⟨rfl, rfl⟩
    refine ⟨trivial, LSt.nf ?_⟩
    conv => whnf
    repeat' (first
      | refine L_rs ?_
      | refine S_done [] rfl (Nx.go ?_)
      | refine S_done [] rfl (RetQ.keepN rfl rfl rfl rfl ?_)
      | refine L_block ?_
      | refine L_ret (RetQ.keep rfl rfl rfl rfl ?_)
      | refine L_true rfl ?_
      | refine L_false rfl ?_
      | refine L_skip (Nx.go ?_)
      | refine L_ifp rfl (by first | exact bD | exact bE | exact bN | exact bNB | exact bEB | exact bNot bD | exact bNot bE | exact bNot bN) (fun h => ?_) (fun h => ?_)
      | refine S_Q [] rfl rfl (QY.idxN rfl rfl (by omega)) ?_
      | refine L_reg ?_
      | refine L_seq ?_
      | exact ⟨rfl, rfl⟩
      | fail)
    refine S_E [] rfl rfl (EW.stRow (a := x) Th.ok rfl rfl rfl hj (by decide)) ?_
    rintro _ _ ⟨rfl, rfl⟩
    refine ⟨trivial, ?_⟩
    refine S_done [] rfl (Nx.go ?_)
    refine L_rs (S_done [] rfl (Nx.go (L_rs (S_done [] rfl (Nx.go (L_ret (RetQ.pick [0, 5, 2] rfl rfl rfl rfl ?_)))))))
    rw [overT, e, if_pos rfl, put_TL]
    simp only [Nat.zero_add]
    exact ⟨rfl, rfl⟩

theorem rEnd_tr (t : Tb) (hl : t.l.length ≤ 64) (k a b : Int) : TrK Try.prog [] [0] 26 [tp, .int .i64 k, .agg ⟨[.int .i64 a, .int .u64 b]⟩] (TL t) (fun v K => v = .int .i64 (overE t k ⟨2, a, b, 0⟩) ∧ K = TL (overT t k ⟨2, a, b, 0⟩)) := by
  refine Tr.of row_tumbrelref29_Table_End_ok rfl ?_
  repeat' (first
    | refine L_rs ?_
    | refine S_done [] rfl (Nx.go ?_)
    | refine S_done [] rfl (RetQ.keepN rfl rfl rfl rfl ?_)
    | refine L_block ?_
    | refine L_ret (RetQ.keep rfl rfl rfl rfl ?_)
    | refine L_true rfl ?_
    | refine L_false rfl ?_
    | refine L_skip (Nx.go ?_)
    | refine L_ifp rfl (by first | exact bD | exact bE | exact bN | exact bNB | exact bEB | exact bNot bD | exact bNot bE | exact bNot bN) (fun h => ?_) (fun h => ?_)
    | refine S_Q [] rfl rfl (QY.idxN rfl rfl (by omega)) ?_
    | refine L_reg ?_
    | refine L_seq ?_
    | exact ⟨rfl, rfl⟩
    | fail)
  first | refine L_rs ?_ | refine L_reg ?_ | skip
  refine S_Ed [] rfl rfl (EWd.callF [0, 1, 2] (over_tr t hl k ⟨2, a, b, 0⟩) rfl rfl (by decide) (by repeat' (first | exact trivial | refine ⟨rfl, ?_⟩ | fail)) rfl rfl rfl) rfl rfl rfl ?_
  rintro _ _ ⟨rfl, rfl⟩
  refine ⟨(by repeat' (first | exact trivial | refine ⟨⟨qsafe_ok (st := []) rfl, Sure.of rfl⟩, ?_⟩ | refine ⟨.inl rfl, ?_⟩ | refine ⟨.inr ⟨qsafe_ok (st := []) rfl, Sure.of rfl⟩, ?_⟩ | refine ⟨.inr ⟨QY.neqB rfl (by kernel_rfl) rfl rfl, Sure.of rfl⟩, ?_⟩ | refine ⟨.inr ⟨QY.eqlB rfl (by kernel_rfl) rfl rfl, Sure.of rfl⟩, ?_⟩ | fail)), LSt.nf ?_⟩
  conv => whnf
  repeat' (first
    | refine L_rs ?_
    | refine S_done [] rfl (Nx.go ?_)
    | refine S_done [] rfl (RetQ.keepN rfl rfl rfl rfl ?_)
    | refine L_block ?_
    | refine L_ret (RetQ.keep rfl rfl rfl rfl ?_)
    | refine L_true rfl ?_
    | refine L_false rfl ?_
    | refine L_skip (Nx.go ?_)
    | refine L_ifp rfl (by first | exact bD | exact bE | exact bN | exact bNB | exact bEB | exact bNot bD | exact bNot bE | exact bNot bN) (fun h => ?_) (fun h => ?_)
    | refine S_Q [] rfl rfl (QY.idxN rfl rfl (by omega)) ?_
    | refine L_reg ?_
    | refine L_seq ?_
    | exact ⟨rfl, rfl⟩
    | fail)
theorem rKill_tr (t : Tb) (hl : t.l.length ≤ 64) (k trap : Int) : TrK Try.prog [] [0] 27 [tp, .int .i64 k, .int .i64 trap] (TL t) (fun v K => v = .int .i64 (overE t k ⟨3, 0, 0, trap⟩) ∧ K = TL (overT t k ⟨3, 0, 0, trap⟩)) := by
  refine Tr.of row_tumbrelref29_Table_Kill_ok rfl ?_
  repeat' (first
    | refine L_rs ?_
    | refine S_done [] rfl (Nx.go ?_)
    | refine S_done [] rfl (RetQ.keepN rfl rfl rfl rfl ?_)
    | refine L_block ?_
    | refine L_ret (RetQ.keep rfl rfl rfl rfl ?_)
    | refine L_true rfl ?_
    | refine L_false rfl ?_
    | refine L_skip (Nx.go ?_)
    | refine L_ifp rfl (by first | exact bD | exact bE | exact bN | exact bNB | exact bEB | exact bNot bD | exact bNot bE | exact bNot bN) (fun h => ?_) (fun h => ?_)
    | refine S_Q [] rfl rfl (QY.idxN rfl rfl (by omega)) ?_
    | refine L_reg ?_
    | refine L_seq ?_
    | exact ⟨rfl, rfl⟩
    | fail)
  first | refine L_rs ?_ | refine L_reg ?_ | skip
  refine S_Ed [] rfl rfl (EWd.callF [0, 1, 2] (over_tr t hl k ⟨3, 0, 0, trap⟩) rfl rfl (by decide) (by repeat' (first | exact trivial | refine ⟨rfl, ?_⟩ | fail)) rfl rfl rfl) rfl rfl rfl ?_
  rintro _ _ ⟨rfl, rfl⟩
  refine ⟨(by repeat' (first | exact trivial | refine ⟨⟨qsafe_ok (st := []) rfl, Sure.of rfl⟩, ?_⟩ | refine ⟨.inl rfl, ?_⟩ | refine ⟨.inr ⟨qsafe_ok (st := []) rfl, Sure.of rfl⟩, ?_⟩ | refine ⟨.inr ⟨QY.neqB rfl (by kernel_rfl) rfl rfl, Sure.of rfl⟩, ?_⟩ | refine ⟨.inr ⟨QY.eqlB rfl (by kernel_rfl) rfl rfl, Sure.of rfl⟩, ?_⟩ | fail)), LSt.nf ?_⟩
  conv => whnf
  repeat' (first
    | refine L_rs ?_
    | refine S_done [] rfl (Nx.go ?_)
    | refine S_done [] rfl (RetQ.keepN rfl rfl rfl rfl ?_)
    | refine L_block ?_
    | refine L_ret (RetQ.keep rfl rfl rfl rfl ?_)
    | refine L_true rfl ?_
    | refine L_false rfl ?_
    | refine L_skip (Nx.go ?_)
    | refine L_ifp rfl (by first | exact bD | exact bE | exact bN | exact bNB | exact bEB | exact bNot bD | exact bNot bE | exact bNot bN) (fun h => ?_) (fun h => ?_)
    | refine S_Q [] rfl rfl (QY.idxN rfl rfl (by omega)) ?_
    | refine L_reg ?_
    | refine L_seq ?_
    | exact ⟨rfl, rfl⟩
    | fail)

theorem set_tr (t : Tb) (hl : t.mu.length ≤ 64) (j : Nat) (hj : j < t.mu.length) (who : Int) : TrK Try.prog [] [0] 35 [tp, .int .i64 j, .int .i64 who] (TL t) (fun v K => v = undef ∧ K = TL (putM t j who)) := by
  refine Tr.of row_tumbrelref29_Table_set_ok rfl ?_
  refine L_rs (S_wk [] rfl (wk_gro0 (b := 3) 1 rfl) ?_)
  refine S_E [] rfl rfl (EW.appRR (bytes := 8) (xs := []) (ys := t.mu) intC_ok rfl (by kernel_rfl) rfl rfl rfl rfl rfl rfl (by decide) (by omega)) ?_
  rintro _ _ ⟨rfl, rfl⟩
  refine ⟨trivial, LSt.nf ?_⟩
  conv => whnf
  repeat' (first
    | refine L_rs ?_
    | refine S_done [] rfl (Nx.go ?_)
    | refine S_done [] rfl (RetQ.keepN rfl rfl rfl rfl ?_)
    | refine L_block ?_
    | refine L_ret (RetQ.keep rfl rfl rfl rfl ?_)
    | refine L_true rfl ?_
    | refine L_false rfl ?_
    | refine L_skip (Nx.go ?_)
    | refine L_ifp rfl (by first | exact bD | exact bE | exact bN | exact bNB | exact bEB | exact bNot bD | exact bNot bE | exact bNot bN) (fun h => ?_) (fun h => ?_)
    | refine S_Q [] rfl rfl (QY.idxN rfl rfl (by omega)) ?_
    | refine L_reg ?_
    | refine L_seq ?_
    | exact ⟨rfl, rfl⟩
    | fail)
  refine S_E [] rfl rfl (EW.stI rfl rfl rfl hj) ?_
  rintro _ _ ⟨rfl, rfl⟩
  refine ⟨trivial, ?_⟩
  refine S_done [] rfl (Nx.go ?_)
  refine L_reg (S_done [] rfl (RetQ.end [0, 1, 4] rfl rfl rfl rfl ?_))
  rw [put_TM]
  simp only [Nat.zero_add]
  exact ⟨rfl, rfl⟩

/-- the document's table of one: who has a mutex, plus 1 -/
def up (t : Tb) : Tb := { t with mu := t.mu.map (· + 1) }
structure Tb.Ok (t : Tb) : Prop where
  most : t.most ≤ 64
  len : (t.l.length : Int) ≤ t.most
  mus : t.mu.length ≤ 16
  mu : ∀ x ∈ t.mu, -1 ≤ x ∧ x < t.l.length
theorem up_len (t : Tb) : (up t).mu.length = t.mu.length := by simp [up]
theorem up_get {t : Tb} {j : Nat} {x : Int} (h : t.mu[j]? = some x) : (up t).mu[j]? = some (x + 1) := by simp [up, h]
theorem up_put (t : Tb) (j : Nat) (x : Int) : putM (up t) j (x + 1) = up (putM t j x) := by simp [up, putM]

theorem inE_iff (t : Tb) (m : Int) : inE t m = 0 ↔ 0 ≤ m ∧ m < t.mu.length := by
  unfold inE; split <;> simp [*]
theorem runsE_iff (t : Tb) (k : Int) : runsE t k = 0 ↔ (thAt t.l k).st = 1 := by
  unfold runsE; split <;> simp [*]
theorem rLock_tr (t : Tb) (ht : t.Ok) (k m : Int) : TrK Try.prog [] [0] 28 [tp, .int .i64 k, .int .i64 m] (TL (up t)) (fun v K => v = .int .i64 (lockE t k m) ∧ K = TL (up (lockT t k m))) := by
  have hul := up_len t
  have hup : (up t).l.length = t.l.length := rfl
  have := ht.most; have := ht.len; have := ht.mus
  refine Tr.of row_tumbrelref29_Table_Lock_ok rfl ?_
  have no : ¬ (0 ≤ m ∧ m < t.mu.length) → lockE t k m = 3 ∧ lockT t k m = t := fun hc => by
    have e : lockE t k m = 3 := by rw [lockE, if_neg (fun h => hc ((inE_iff t m).1 h)), inE, if_neg hc]
    exact ⟨e, by rw [lockT, e, if_neg (by decide)]⟩
  repeat' (first
    | refine L_rs ?_
    | refine S_done [] rfl (Nx.go ?_)
    | refine S_done [] rfl (RetQ.keepN rfl rfl rfl rfl ?_)
    | refine L_block ?_
    | refine L_ret (RetQ.keep rfl rfl rfl rfl ?_)
    | refine L_true rfl ?_
    | refine L_false rfl ?_
    | refine L_skip (Nx.go ?_)
    | refine L_ifp rfl (by first | exact bD | exact bE | exact bN | exact bNB | exact bEB | exact bNot bD | exact bNot bE | exact bNot bN) (fun h => ?_) (fun h => ?_)
    | refine S_Q [] rfl rfl (QY.idxN rfl rfl (by omega)) ?_
    | refine S_splitp 9 rfl rfl rfl (by first | exact bD | exact bE | exact bN | exact bNB | exact bEB | exact bNot bD | exact bNot bE | exact bNot bN) (fun h => ?_) (fun h => ?_)
    | refine L_reg ?_
    | refine L_seq ?_
    | exact ⟨rfl, rfl⟩
    | fail)
  · obtain ⟨e1, e2⟩ := no (by omega); rw [e1, e2]; exact ⟨rfl, rfl⟩
  · obtain ⟨e1, e2⟩ := no (by omega); rw [e1, e2]; exact ⟨rfl, rfl⟩
  · have h0 : inE t m = 0 := (inE_iff t m).2 (by omega)
    obtain ⟨j, rfl⟩ := Int.eq_ofNat_of_zero_le (by omega : 0 ≤ m)
    obtain ⟨x, hx⟩ : ∃ x, t.mu[j]? = some x := ⟨_, List.getElem?_eq_getElem (by omega)⟩
    have hx1 := ht.mu x (List.mem_of_getElem? hx)
    have hux := up_get hx
    have ew := whoAt_get hx
    first | refine L_rs ?_ | refine L_reg ?_ | skip
    refine S_Ed [] rfl rfl (EWd.callP [0, 1, 2] (rState_tr (up t) k) rfl rfl (by decide) (by repeat' (first | exact trivial | refine ⟨rfl, ?_⟩ | fail)) rfl rfl) (disj_nil _) (nm_nilE _) (nm_nilT _) ?_
    rintro _ _ ⟨rfl, rfl⟩
    refine ⟨(by repeat' (first | exact trivial | refine ⟨⟨qsafe_ok (st := []) rfl, Sure.of rfl⟩, ?_⟩ | refine ⟨.inl rfl, ?_⟩ | refine ⟨.inr ⟨qsafe_ok (st := []) rfl, Sure.of rfl⟩, ?_⟩ | refine ⟨.inr ⟨QY.neqB rfl (by kernel_rfl) rfl rfl, Sure.of rfl⟩, ?_⟩ | refine ⟨.inr ⟨QY.eqlB rfl (by kernel_rfl) rfl rfl, Sure.of rfl⟩, ?_⟩ | fail)), ?_⟩
    repeat' (first
      | refine L_rs ?_
      | refine S_done [] rfl (Nx.go ?_)
      | refine S_done [] rfl (RetQ.keepN rfl rfl rfl rfl ?_)
      | refine L_block ?_
      | refine L_ret (RetQ.keep rfl rfl rfl rfl ?_)
      | refine L_true rfl ?_
      | refine L_false rfl ?_
      | refine L_skip (Nx.go ?_)
      | refine L_ifp rfl (by first | exact bD | exact bE | exact bN | exact bNB | exact bEB | exact bNot bD | exact bNot bE | exact bNot bN) (fun h => ?_) (fun h => ?_)
      | refine S_Q [] rfl rfl (QY.idxN rfl rfl (by omega)) ?_
      | refine S_Q [] rfl rfl (QY.ldI rfl rfl hux) ?_
      | refine L_reg ?_
      | refine L_seq ?_
      | exact ⟨rfl, rfl⟩
      | fail)
    · have h : ¬ (thAt t.l k).st = 1 := h
      have e : lockE t k j = 8 := by rw [lockE, if_pos h0, if_neg (fun e => h ((runsE_iff t k).1 e))]
      rw [lockT, e, if_neg (by decide)]; exact ⟨rfl, rfl⟩
    · have h1 : (thAt t.l k).st = 1 := Classical.not_not.1 h
      have h2 : runsE t k = 0 := (runsE_iff t k).2 h1
      obtain ⟨i, rfl, hi⟩ := at_in h1
      refine S_Q [] rfl rfl (QY.add (c := (i : Int) + 1) rfl rfl rfl (by omega) (by omega)) ?_
      repeat' (first
        | refine L_rs ?_
        | refine S_done [] rfl (Nx.go ?_)
        | refine S_done [] rfl (RetQ.keepN rfl rfl rfl rfl ?_)
        | refine L_block ?_
        | refine L_ret (RetQ.keep rfl rfl rfl rfl ?_)
        | refine L_true rfl ?_
        | refine L_false rfl ?_
        | refine L_skip (Nx.go ?_)
        | refine L_ifp rfl (by first | exact bD | exact bE | exact bN | exact bNB | exact bEB | exact bNot bD | exact bNot bE | exact bNot bN) (fun h => ?_) (fun h => ?_)
        | refine S_Q [] rfl rfl (QY.idxN rfl rfl (by omega)) ?_
        | refine S_Q [] rfl rfl (QY.ldI rfl rfl hux) ?_
        | refine L_reg ?_
        | refine L_seq ?_
        | exact ⟨rfl, rfl⟩
        | fail)
      · have e : lockE t i j = 7 := by rw [lockE, if_pos h0, if_pos h2, ew, if_pos (by omega)]
        rw [lockT, e, if_neg (by decide)]; exact ⟨rfl, rfl⟩
      · have e : lockE t i j = 5 := by rw [lockE, if_pos h0, if_pos h2, ew, if_neg (by omega), if_pos (by omega)]
        rw [lockT, e, if_neg (by decide)]; exact ⟨rfl, rfl⟩
      · have e : lockE t i j = 0 := by rw [lockE, if_pos h0, if_pos h2, ew, if_neg (by omega), if_neg (by omega)]
        first | refine LSt.drop [0, 1, 2] (LSt.nf ?_) | refine LWp.drop [0, 1, 2] (LWp.nf ?_)
        conv => whnf
        refine S_Q [] rfl rfl (QY.add (c := (i : Int) + 1) rfl rfl rfl (by omega) (by omega)) ?_
        first | refine L_rs ?_ | refine L_reg ?_ | skip
        refine S_Ed [] rfl rfl (EWd.callF [0, 1, 2] (set_tr (up t) (by omega) j (by omega) ((i : Int) + 1)) rfl rfl (by decide) (by repeat' (first | exact trivial | refine ⟨rfl, ?_⟩ | fail)) rfl rfl rfl) rfl rfl rfl ?_
        rintro _ _ ⟨rfl, rfl⟩
        refine ⟨(by repeat' (first | exact trivial | refine ⟨⟨qsafe_ok (st := []) rfl, Sure.of rfl⟩, ?_⟩ | refine ⟨.inl rfl, ?_⟩ | refine ⟨.inr ⟨qsafe_ok (st := []) rfl, Sure.of rfl⟩, ?_⟩ | refine ⟨.inr ⟨QY.neqB rfl (by kernel_rfl) rfl rfl, Sure.of rfl⟩, ?_⟩ | refine ⟨.inr ⟨QY.eqlB rfl (by kernel_rfl) rfl rfl, Sure.of rfl⟩, ?_⟩ | fail)), LSt.nf ?_⟩
        conv => whnf
        repeat' (first
          | refine L_rs ?_
          | refine S_done [] rfl (Nx.go ?_)
          | refine S_done [] rfl (RetQ.keepN rfl rfl rfl rfl ?_)
          | refine L_block ?_
          | refine L_ret (RetQ.keep rfl rfl rfl rfl ?_)
          | refine L_true rfl ?_
          | refine L_false rfl ?_
          | refine L_skip (Nx.go ?_)
          | refine L_ifp rfl (by first | exact bD | exact bE | exact bN | exact bNB | exact bEB | exact bNot bD | exact bNot bE | exact bNot bN) (fun h => ?_) (fun h => ?_)
          | refine S_Q [] rfl rfl (QY.idxN rfl rfl (by omega)) ?_
          | refine L_reg ?_
          | refine L_seq ?_
          | exact ⟨rfl, rfl⟩
          | fail)
        rw [lockT, e, if_pos rfl, ← up_put]; exact ⟨rfl, rfl⟩
theorem rUnlock_tr (t : Tb) (ht : t.Ok) (k m : Int) : TrK Try.prog [] [0] 29 [tp, .int .i64 k, .int .i64 m] (TL (up t)) (fun v K => v = .int .i64 (unlockE t k m) ∧ K = TL (up (unlockT t k m))) := by
  have hul := up_len t
  have hup : (up t).l.length = t.l.length := rfl
  have := ht.most; have := ht.len; have := ht.mus
  refine Tr.of row_tumbrelref29_Table_Unlock_ok rfl ?_
  have no : ¬ (0 ≤ m ∧ m < t.mu.length) → unlockE t k m = 3 ∧ unlockT t k m = t := fun hc => by
    have e : unlockE t k m = 3 := by rw [unlockE, if_neg (fun h => hc ((inE_iff t m).1 h)), inE, if_neg hc]
    exact ⟨e, by rw [unlockT, e, if_neg (by decide)]⟩
  repeat' (first
    | refine L_rs ?_
    | refine S_done [] rfl (Nx.go ?_)
    | refine S_done [] rfl (RetQ.keepN rfl rfl rfl rfl ?_)
    | refine L_block ?_
    | refine L_ret (RetQ.keep rfl rfl rfl rfl ?_)
    | refine L_true rfl ?_
    | refine L_false rfl ?_
    | refine L_skip (Nx.go ?_)
    | refine L_ifp rfl (by first | exact bD | exact bE | exact bN | exact bNB | exact bEB | exact bNot bD | exact bNot bE | exact bNot bN) (fun h => ?_) (fun h => ?_)
    | refine S_Q [] rfl rfl (QY.idxN rfl rfl (by omega)) ?_
    | refine S_splitp 9 rfl rfl rfl (by first | exact bD | exact bE | exact bN | exact bNB | exact bEB | exact bNot bD | exact bNot bE | exact bNot bN) (fun h => ?_) (fun h => ?_)
    | refine L_reg ?_
    | refine L_seq ?_
    | exact ⟨rfl, rfl⟩
    | fail)
  · obtain ⟨e1, e2⟩ := no (by omega); rw [e1, e2]; exact ⟨rfl, rfl⟩
  · obtain ⟨e1, e2⟩ := no (by omega); rw [e1, e2]; exact ⟨rfl, rfl⟩
  · have h0 : inE t m = 0 := (inE_iff t m).2 (by omega)
    obtain ⟨j, rfl⟩ := Int.eq_ofNat_of_zero_le (by omega : 0 ≤ m)
    obtain ⟨x, hx⟩ : ∃ x, t.mu[j]? = some x := ⟨_, List.getElem?_eq_getElem (by omega)⟩
    have hx1 := ht.mu x (List.mem_of_getElem? hx)
    have hux := up_get hx
    have ew := whoAt_get hx
    have no8 : (k < 0 ∨ x ≠ k) → unlockE t k j = 8 ∧ unlockT t k j = t := fun hc => by
      have e : unlockE t k j = 8 := by rw [unlockE, if_pos h0, ew, if_pos hc]
      exact ⟨e, by rw [unlockT, e, if_neg (by decide)]⟩
    repeat' (first
      | refine L_rs ?_
      | refine S_done [] rfl (Nx.go ?_)
      | refine S_done [] rfl (RetQ.keepN rfl rfl rfl rfl ?_)
      | refine L_block ?_
      | refine L_ret (RetQ.keep rfl rfl rfl rfl ?_)
      | refine L_true rfl ?_
      | refine L_false rfl ?_
      | refine L_skip (Nx.go ?_)
      | refine L_ifp rfl (by first | exact bD | exact bE | exact bN | exact bNB | exact bEB | exact bNot bD | exact bNot bE | exact bNot bN) (fun h => ?_) (fun h => ?_)
      | refine S_Q [] rfl rfl (QY.idxN rfl rfl (by omega)) ?_
      | refine S_Q [] rfl rfl (QY.ldI rfl rfl hux) ?_
      | refine S_splitp 20 rfl rfl rfl (by first | exact bD | exact bE | exact bN | exact bNB | exact bEB | exact bNot bD | exact bNot bE | exact bNot bN) (fun h => ?_) (fun h => ?_)
      | refine S_splitp 29 rfl rfl rfl (by first | exact bD | exact bE | exact bN | exact bNB | exact bEB | exact bNot bD | exact bNot bE | exact bNot bN) (fun h => ?_) (fun h => ?_)
      | refine L_reg ?_
      | refine L_seq ?_
      | exact ⟨rfl, rfl⟩
      | fail)
    · obtain ⟨e1, e2⟩ := no8 (by omega); rw [e1, e2]; exact ⟨rfl, rfl⟩
    · obtain ⟨e1, e2⟩ := no8 (by omega); rw [e1, e2]; exact ⟨rfl, rfl⟩
    · refine S_Q [] rfl rfl (QY.add (c := k + 1) rfl rfl rfl (by omega) (by omega)) ?_
      repeat' (first
        | refine L_rs ?_
        | refine S_done [] rfl (Nx.go ?_)
        | refine S_done [] rfl (RetQ.keepN rfl rfl rfl rfl ?_)
        | refine L_block ?_
        | refine L_ret (RetQ.keep rfl rfl rfl rfl ?_)
        | refine L_true rfl ?_
        | refine L_false rfl ?_
        | refine L_skip (Nx.go ?_)
        | refine L_ifp rfl (by first | exact bD | exact bE | exact bN | exact bNB | exact bEB | exact bNot bD | exact bNot bE | exact bNot bN) (fun h => ?_) (fun h => ?_)
        | refine S_Q [] rfl rfl (QY.idxN rfl rfl (by omega)) ?_
        | refine L_reg ?_
        | refine L_seq ?_
        | exact ⟨rfl, rfl⟩
        | fail)
      · obtain ⟨e1, e2⟩ := no8 (by omega); rw [e1, e2]; exact ⟨rfl, rfl⟩
      · have e : unlockE t k j = 0 := by rw [unlockE, if_pos h0, ew, if_neg (by omega)]
        first | refine LSt.drop [0, 1, 2] (LSt.nf ?_) | refine LWp.drop [0, 1, 2] (LWp.nf ?_)
        conv => whnf
        first | refine L_rs ?_ | refine L_reg ?_ | skip
        refine S_Ed [] rfl rfl (EWd.callF [0, 1, 2] (set_tr (up t) (by omega) j (by omega) 0) rfl rfl (by decide) (by repeat' (first | exact trivial | refine ⟨rfl, ?_⟩ | fail)) rfl rfl rfl) rfl rfl rfl ?_
        rintro _ _ ⟨rfl, rfl⟩
        refine ⟨(by repeat' (first | exact trivial | refine ⟨⟨qsafe_ok (st := []) rfl, Sure.of rfl⟩, ?_⟩ | refine ⟨.inl rfl, ?_⟩ | refine ⟨.inr ⟨qsafe_ok (st := []) rfl, Sure.of rfl⟩, ?_⟩ | refine ⟨.inr ⟨QY.neqB rfl (by kernel_rfl) rfl rfl, Sure.of rfl⟩, ?_⟩ | refine ⟨.inr ⟨QY.eqlB rfl (by kernel_rfl) rfl rfl, Sure.of rfl⟩, ?_⟩ | fail)), LSt.nf ?_⟩
        conv => whnf
        repeat' (first
          | refine L_rs ?_
          | refine S_done [] rfl (Nx.go ?_)
          | refine S_done [] rfl (RetQ.keepN rfl rfl rfl rfl ?_)
          | refine L_block ?_
          | refine L_ret (RetQ.keep rfl rfl rfl rfl ?_)
          | refine L_true rfl ?_
          | refine L_false rfl ?_
          | refine L_skip (Nx.go ?_)
          | refine L_ifp rfl (by first | exact bD | exact bE | exact bN | exact bNB | exact bEB | exact bNot bD | exact bNot bE | exact bNot bN) (fun h => ?_) (fun h => ?_)
          | refine S_Q [] rfl rfl (QY.idxN rfl rfl (by omega)) ?_
          | refine L_reg ?_
          | refine L_seq ?_
          | exact ⟨rfl, rfl⟩
          | fail)
        rw [unlockT, e, if_pos rfl, ← up_put]; exact ⟨rfl, rfl⟩

theorem rNew_tr (most mutexes : Int) : Tr Try.prog 7 [.int .i64 most, .int .i64 mutexes] [] (fun v K => v = tp ∧ K = TL (up (newT most mutexes))) := by
  obtain ⟨n, hn⟩ : ∃ n : Nat, clip mutexes 16 = n := ⟨(clip mutexes 16).toNat, by unfold clip; omega⟩
  have hn16 : n ≤ 16 := by unfold clip at hn; omega
  refine Tr.of row_tumbrelref29_New_ok rfl ?_
  repeat' (first
    | refine L_rs ?_
    | refine S_done [] rfl (Nx.go ?_)
    | refine S_done [] rfl (RetQ.keepN rfl rfl rfl rfl ?_)
    | refine L_block ?_
    | refine L_ret (RetQ.keep rfl rfl rfl rfl ?_)
    | refine L_true rfl ?_
    | refine L_false rfl ?_
    | refine L_skip (Nx.go ?_)
    | refine L_ifp rfl (by first | exact bD | exact bE | exact bN | exact bNB | exact bEB | exact bNot bD | exact bNot bE | exact bNot bN) (fun h => ?_) (fun h => ?_)
    | refine S_Q [] rfl rfl (QY.idxN rfl rfl (by omega)) ?_
    | refine L_reg ?_
    | refine L_seq ?_
    | exact ⟨rfl, rfl⟩
    | fail)
  first | refine L_rs ?_ | refine L_reg ?_ | skip
  refine S_Ed [] rfl rfl (EWd.callP [] (within_tr most 64 (by omega)) rfl rfl (by decide) (by repeat' (first | exact trivial | refine ⟨rfl, ?_⟩ | fail)) rfl rfl) (disj_nil _) (nm_nilE _) (nm_nilT _) ?_
  rintro _ _ ⟨rfl, rfl⟩
  refine ⟨(by repeat' (first | exact trivial | refine ⟨⟨qsafe_ok (st := []) rfl, Sure.of rfl⟩, ?_⟩ | refine ⟨.inl rfl, ?_⟩ | refine ⟨.inr ⟨qsafe_ok (st := []) rfl, Sure.of rfl⟩, ?_⟩ | refine ⟨.inr ⟨QY.neqB rfl (by kernel_rfl) rfl rfl, Sure.of rfl⟩, ?_⟩ | refine ⟨.inr ⟨QY.eqlB rfl (by kernel_rfl) rfl rfl, Sure.of rfl⟩, ?_⟩ | fail)), ?_⟩
  first | refine L_rs ?_ | refine L_reg ?_ | skip
  refine S_Ed [] rfl rfl (EWd.callP [] (within_tr mutexes 16 (by omega)) rfl rfl (by decide) (by repeat' (first | exact trivial | refine ⟨rfl, ?_⟩ | fail)) rfl rfl) (disj_nil _) (nm_nilE _) (nm_nilT _) ?_
  rintro _ _ ⟨rfl, rfl⟩
  refine ⟨(by repeat' (first | exact trivial | refine ⟨⟨qsafe_ok (st := []) rfl, Sure.of rfl⟩, ?_⟩ | refine ⟨.inl rfl, ?_⟩ | refine ⟨.inr ⟨qsafe_ok (st := []) rfl, Sure.of rfl⟩, ?_⟩ | refine ⟨.inr ⟨QY.neqB rfl (by kernel_rfl) rfl rfl, Sure.of rfl⟩, ?_⟩ | refine ⟨.inr ⟨QY.eqlB rfl (by kernel_rfl) rfl rfl, Sure.of rfl⟩, ?_⟩ | fail)), ?_⟩
  refine S_E [] rfl rfl (EW.mk (sz := 1) (bytes := 8) (k := n) (zs := intC 0) rfl (by kernel_rfl) (by rw [← hn]; rfl) (by rw [← hn]; rfl) (by omega) (by omega)) ?_
  rintro _ _ ⟨rfl, rfl⟩
  rw [repC_rows (g := intC) (0 : Int)]
  refine ⟨trivial, ?_⟩
  refine S_done [] rfl (Nx.go ?_)
  refine LWp.nilG (b := 1) (o := 1) 4 rfl rfl ?_
  refine L_ret (RetQ.pick [1, 2, 0] rfl rfl rfl rfl ⟨rfl, ?_⟩)
  have e : up (newT most mutexes) = ⟨clip most 64, [], List.replicate n 0⟩ := by simp [newT, hn, up]
  rw [e]
  simp only [TL, List.length_replicate]
  rfl
theorem new_ok (most mutexes : Int) : (newT most mutexes).Ok := by
  refine ⟨by unfold newT clip; simp only; omega, by unfold newT clip; simp only [List.length_nil]; omega, by unfold newT clip; simp only [List.length_replicate]; omega, fun x hx => ?_⟩
  have := List.eq_of_mem_replicate hx
  subst this
  simp [newT]
end Go.Proofs.Ytcchfefbolmlbaa
