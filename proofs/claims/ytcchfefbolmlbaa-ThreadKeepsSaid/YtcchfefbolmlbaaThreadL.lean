/-
  Layer 29: one call of both tables; whether both stand alike.
-/
import Derived.Test.YtcchfefbolmlbaaThreadR
namespace Go.Proofs.Ytcchfefbolmlbaa
open Go Go.Tum

theorem Ours_tr (a b : Int) : Tr Try.prog 25 [.agg ⟨[.int .i64 a, .int .u64 b]⟩] [] (fun v K => v = .agg ⟨[.int .i64 a, .int .u64 b]⟩ ∧ K = []) := by
  refine Tr.of row_tumbrellaw28_Ours_ok rfl ?_
  repeat' (first
    | refine L_rs ?_
    | refine S_done [] rfl (Nx.go ?_)
    | refine S_done [] rfl (RetQ.keepN rfl rfl rfl rfl ?_)
    | refine L_block ?_
    | refine L_ret (RetQ.keep rfl rfl rfl rfl ?_)
    | refine L_true rfl ?_
    | refine L_false rfl ?_
    | refine L_skip (Nx.go ?_)
    | refine L_ifp rfl (by first | exact bD | exact bE | exact bN | exact bNB | exact bEB | exact bNot bD | exact bNot bE | exact bNot bN) (fun h => ?_) (fun h => ?_)
    | refine S_Q [] rfl rfl (QY.idxN rfl rfl (by omega)) ?_
    | refine L_reg ?_
    | refine L_seq ?_
    | exact ⟨rfl, rfl⟩
    | fail)
theorem Plain_tr (a b : Int) : Tr Try.prog 12 [.agg ⟨[.int .i64 a, .int .u64 b]⟩] [] (fun v K => v = .agg ⟨[.int .i64 a, .int .u64 b]⟩ ∧ K = []) := by
  refine Tr.of row_tumbrellaw28_Plain_ok rfl ?_
  repeat' (first
    | refine L_rs ?_
    | refine S_done [] rfl (Nx.go ?_)
    | refine S_done [] rfl (RetQ.keepN rfl rfl rfl rfl ?_)
    | refine L_block ?_
    | refine L_ret (RetQ.keep rfl rfl rfl rfl ?_)
    | refine L_true rfl ?_
    | refine L_false rfl ?_
    | refine L_skip (Nx.go ?_)
    | refine L_ifp rfl (by first | exact bD | exact bE | exact bN | exact bNB | exact bEB | exact bNot bD | exact bNot bE | exact bNot bN) (fun h => ?_) (fun h => ?_)
    | refine S_Q [] rfl rfl (QY.idxN rfl rfl (by omega)) ?_
    | refine L_reg ?_
    | refine L_seq ?_
    | exact ⟨rfl, rfl⟩
    | fail)

/-- both tables -/
def PL (t : Tb) : LH := [.cells 0 [.int .i64 t.most, .slice (some ⟨1, 0, none⟩) t.l.length t.l.length, .slice (some ⟨2, 0, none⟩) t.mu.length t.mu.length], .gro 4 (rowsC Th.cells t.l), .gro 1 (rowsC intC t.mu),
  .cells 0 [.int .i64 (up t).most, .slice (some ⟨4, 0, none⟩) (up t).l.length (up t).l.length, .slice (some ⟨5, 0, none⟩) (up t).mu.length (up t).mu.length], .gro 4 (rowsC Th.cells (up t).l), .gro 1 (rowsC intC (up t).mu)]
abbrev rp : Value := .pointer (some ⟨3, 0, none⟩)

structure Op where
  kind : Int
  k : Int
  m : Int
  trap : Int
  vk : Int
  vb : Int
def Op.cells (o : Op) : List Value := [.int .i64 o.kind, .int .i64 o.k, .int .i64 o.m, .int .i64 o.trap, .int .i64 o.vk, .int .u64 o.vb]
theorem Op.ok : RowOk Op.cells 6 := ⟨fun _ => rfl, fun _ => rfl⟩
def stepT (t : Tb) (o : Op) : Tb :=
  if o.kind = 0 ∨ o.kind = 1 then spawnT t
  else if o.kind = 2 then endT t o.k o.vk o.vb
  else if o.kind = 3 then killT t o.k o.trap
  else if o.kind = 4 ∨ o.kind = 5 then lockT t o.k o.m
  else if o.kind = 6 then unlockT t o.k o.m
  else t

theorem spawn_up (t : Tb) : spawnT (up t) = up (spawnT t) ∧ spawnV (up t) = spawnV t := by
  constructor
  · unfold spawnT; show (if (t.l.length : Int) = t.most then up t else _) = _; split <;> rfl
  · rfl
theorem end_up (t : Tb) (k a b : Int) : overT (up t) k ⟨2, a, b, 0⟩ = up (endT t k a b) ∧ overE (up t) k ⟨2, a, b, 0⟩ = runsE t k := by
  have e : overE (up t) k ⟨2, a, b, 0⟩ = runsE t k := by
    unfold overE runsE
    show (if (thAt t.l k).st = 1 then _ else _) = _
    split <;> simp
  refine ⟨?_, e⟩
  rw [overT, e, endT]
  split <;> rfl
theorem kill_up (t : Tb) (k trap : Int) : overT (up t) k ⟨3, 0, 0, trap⟩ = up (killT t k trap) ∧ overE (up t) k ⟨3, 0, 0, trap⟩ = killE t k trap := by
  have e : overE (up t) k ⟨3, 0, 0, trap⟩ = killE t k trap := by
    unfold overE killE
    show (if (thAt t.l k).st = 1 then _ else _) = _
    by_cases h : (thAt t.l k).st = 1
    · rw [if_pos h, if_pos ((runsE_iff t k).2 h)]; simp
    · rw [if_neg h, if_neg (fun e => h ((runsE_iff t k).1 e)), runsE, if_neg h]
  refine ⟨?_, e⟩
  rw [overT, e, killT]
  unfold killE
  by_cases h : runsE t k = 0
  · rw [if_pos h, if_pos h]
    by_cases h2 : trap < 1
    · rw [if_pos h2, if_pos h2, if_neg (by decide)]
    · rw [if_neg h2, if_neg h2, if_pos rfl]; rfl
  · rw [if_neg h, if_neg h, if_neg h]
theorem rEnd_up (t : Tb) (ht : t.Ok) (k a b : Int) : TrK Try.prog [] [0] 26 [tp, .int .i64 k, .agg ⟨[.int .i64 a, .int .u64 b]⟩] (TL (up t)) (fun v K => v = .int .i64 (runsE t k) ∧ K = TL (up (endT t k a b))) := by
  have h := rEnd_tr (up t) (by have := ht.most; have := ht.len; show t.l.length ≤ 64; omega) k a b
  rw [(end_up t k a b).1, (end_up t k a b).2] at h; exact h
theorem rKill_up (t : Tb) (ht : t.Ok) (k trap : Int) : TrK Try.prog [] [0] 27 [tp, .int .i64 k, .int .i64 trap] (TL (up t)) (fun v K => v = .int .i64 (killE t k trap) ∧ K = TL (up (killT t k trap))) := by
  have h := rKill_tr (up t) (by have := ht.most; have := ht.len; show t.l.length ≤ 64; omega) k trap
  rw [(kill_up t k trap).1, (kill_up t k trap).2] at h; exact h
theorem rSpawn_up (t : Tb) (ht : t.Ok) : TrK Try.prog [] [0] 24 [tp] (TL (up t)) (fun v K => v = spawnV t ∧ K = TL (up (spawnT t))) := by
  have h := rSpawn_tr (up t) (by have := ht.most; have := ht.len; show t.l.length ≤ 64; omega) ht.len
  rw [(spawn_up t).1, (spawn_up t).2] at h; exact h

theorem step_tr (t : Tb) (ht : t.Ok) (o : Op) : TrK Try.prog [] [0, 3] 8 [tp, rp, .agg ⟨o.cells⟩] (PL t) (fun v K => v = .bool true ∧ K = PL (stepT t o)) := by
  have h64 : t.l.length ≤ 64 := by have := ht.most; have := ht.len; omega
  refine Tr.of row_tumbrellaw29_step_ok rfl ?_
  repeat' (first
    | refine L_rs ?_
    | refine S_done [] rfl (Nx.go ?_)
    | refine S_done [] rfl (RetQ.keepN rfl rfl rfl rfl ?_)
    | refine L_block ?_
    | refine L_ret (RetQ.keep rfl rfl rfl rfl ?_)
    | refine L_true rfl ?_
    | refine L_false rfl ?_
    | refine L_skip (Nx.go ?_)
    | refine L_ifp rfl (by first | exact bD | exact bE | exact bN | exact bNB | exact bEB | exact bNot bD | exact bNot bE | exact bNot bN) (fun h => ?_) (fun h => ?_)
    | refine S_Q [] rfl rfl (QY.idxN rfl rfl (by omega)) ?_
    | refine L_reg ?_
    | refine L_seq ?_
    | exact ⟨rfl, rfl⟩
    | fail)
  · first | refine L_rs ?_ | refine L_reg ?_ | skip
    refine S_Ed [] rfl rfl (EWd.callF [0, 1, 2] (Spawn_tr t h64) rfl rfl (by decide) (by repeat' (first | exact trivial | refine ⟨rfl, ?_⟩ | fail)) rfl rfl rfl) rfl rfl rfl ?_
    rintro _ _ ⟨rfl, rfl⟩
    refine ⟨(by repeat' (first | exact trivial | refine ⟨⟨qsafe_ok (st := []) rfl, Sure.of rfl⟩, ?_⟩ | refine ⟨.inl rfl, ?_⟩ | refine ⟨.inr ⟨qsafe_ok (st := []) rfl, Sure.of rfl⟩, ?_⟩ | refine ⟨.inr ⟨QY.neqB rfl (by kernel_rfl) rfl rfl, Sure.of rfl⟩, ?_⟩ | refine ⟨.inr ⟨QY.eqlB rfl (by kernel_rfl) rfl rfl, Sure.of rfl⟩, ?_⟩ | fail)), LSt.nf ?_⟩
    conv => whnf
    repeat' (first
      | refine L_rs ?_
      | refine S_done [] rfl (Nx.go ?_)
      | refine S_done [] rfl (RetQ.keepN rfl rfl rfl rfl ?_)
      | refine L_block ?_
      | refine L_ret (RetQ.keep rfl rfl rfl rfl ?_)
      | refine L_true rfl ?_
      | refine L_false rfl ?_
      | refine L_skip (Nx.go ?_)
      | refine L_ifp rfl (by first | exact bD | exact bE | exact bN | exact bNB | exact bEB | exact bNot bD | exact bNot bE | exact bNot bN) (fun h => ?_) (fun h => ?_)
      | refine S_Q [] rfl rfl (QY.idxN rfl rfl (by omega)) ?_
      | refine L_reg ?_
      | refine L_seq ?_
      | exact ⟨rfl, rfl⟩
      | fail)
    first | refine L_rs ?_ | refine L_reg ?_ | skip
    refine S_Ed [] rfl rfl (EWd.callF [3, 4, 5] (rSpawn_up t ht) rfl rfl (by decide) (by repeat' (first | exact trivial | refine ⟨rfl, ?_⟩ | fail)) rfl rfl rfl) rfl rfl rfl ?_
    rintro _ _ ⟨rfl, rfl⟩
    refine ⟨(by repeat' (first | exact trivial | refine ⟨⟨qsafe_ok (st := []) rfl, Sure.of rfl⟩, ?_⟩ | refine ⟨.inl rfl, ?_⟩ | refine ⟨.inr ⟨qsafe_ok (st := []) rfl, Sure.of rfl⟩, ?_⟩ | refine ⟨.inr ⟨QY.neqB rfl (by kernel_rfl) rfl rfl, Sure.of rfl⟩, ?_⟩ | refine ⟨.inr ⟨QY.eqlB rfl (by kernel_rfl) rfl rfl, Sure.of rfl⟩, ?_⟩ | fail)), LSt.nf ?_⟩
    conv => whnf
    repeat' (first
      | refine L_rs ?_
      | refine S_done [] rfl (Nx.go ?_)
      | refine S_done [] rfl (RetQ.keepN rfl rfl rfl rfl ?_)
      | refine L_block ?_
      | refine L_ret (RetQ.keep rfl rfl rfl rfl ?_)
      | refine L_true rfl ?_
      | refine L_false rfl ?_
      | refine L_skip (Nx.go ?_)
      | refine L_ifp rfl (by first | exact bD | exact bE | exact bN | exact bNB | exact bEB | exact bNot bD | exact bNot bE | exact bNot bN) (fun h => ?_) (fun h => ?_)
      | refine S_Q [] rfl rfl (QY.idxN rfl rfl (by omega)) ?_
      | refine S_splitp 29 rfl rfl rfl (by first | exact bD | exact bE | exact bN | exact bNB | exact bEB | exact bNot bD | exact bNot bE | exact bNot bN) (fun h => ?_) (fun h => ?_)
      | refine L_reg ?_
      | refine L_seq ?_
      | exact ⟨rfl, rfl⟩
      | fail)
    · rw [show stepT t o = spawnT t by simp only [stepT]; simp [*]]
      exact ⟨by simp [rnV, rn1, rnS, rn0, lret], rfl⟩
    · exact absurd rfl h
  · first | refine L_rs ?_ | refine L_reg ?_ | skip
    refine S_Ed [] rfl rfl (EWd.callF [0, 1, 2] (Spawn_tr t h64) rfl rfl (by decide) (by repeat' (first | exact trivial | refine ⟨rfl, ?_⟩ | fail)) rfl rfl rfl) rfl rfl rfl ?_
    rintro _ _ ⟨rfl, rfl⟩
    refine ⟨(by repeat' (first | exact trivial | refine ⟨⟨qsafe_ok (st := []) rfl, Sure.of rfl⟩, ?_⟩ | refine ⟨.inl rfl, ?_⟩ | refine ⟨.inr ⟨qsafe_ok (st := []) rfl, Sure.of rfl⟩, ?_⟩ | refine ⟨.inr ⟨QY.neqB rfl (by kernel_rfl) rfl rfl, Sure.of rfl⟩, ?_⟩ | refine ⟨.inr ⟨QY.eqlB rfl (by kernel_rfl) rfl rfl, Sure.of rfl⟩, ?_⟩ | fail)), LSt.nf ?_⟩
    conv => whnf
    repeat' (first
      | refine L_rs ?_
      | refine S_done [] rfl (Nx.go ?_)
      | refine S_done [] rfl (RetQ.keepN rfl rfl rfl rfl ?_)
      | refine L_block ?_
      | refine L_ret (RetQ.keep rfl rfl rfl rfl ?_)
      | refine L_true rfl ?_
      | refine L_false rfl ?_
      | refine L_skip (Nx.go ?_)
      | refine L_ifp rfl (by first | exact bD | exact bE | exact bN | exact bNB | exact bEB | exact bNot bD | exact bNot bE | exact bNot bN) (fun h => ?_) (fun h => ?_)
      | refine S_Q [] rfl rfl (QY.idxN rfl rfl (by omega)) ?_
      | refine L_reg ?_
      | refine L_seq ?_
      | exact ⟨rfl, rfl⟩
      | fail)
    first | refine L_rs ?_ | refine L_reg ?_ | skip
    refine S_Ed [] rfl rfl (EWd.callF [3, 4, 5] (rSpawn_up t ht) rfl rfl (by decide) (by repeat' (first | exact trivial | refine ⟨rfl, ?_⟩ | fail)) rfl rfl rfl) rfl rfl rfl ?_
    rintro _ _ ⟨rfl, rfl⟩
    refine ⟨(by repeat' (first | exact trivial | refine ⟨⟨qsafe_ok (st := []) rfl, Sure.of rfl⟩, ?_⟩ | refine ⟨.inl rfl, ?_⟩ | refine ⟨.inr ⟨qsafe_ok (st := []) rfl, Sure.of rfl⟩, ?_⟩ | refine ⟨.inr ⟨QY.neqB rfl (by kernel_rfl) rfl rfl, Sure.of rfl⟩, ?_⟩ | refine ⟨.inr ⟨QY.eqlB rfl (by kernel_rfl) rfl rfl, Sure.of rfl⟩, ?_⟩ | fail)), LSt.nf ?_⟩
    conv => whnf
    repeat' (first
      | refine L_rs ?_
      | refine S_done [] rfl (Nx.go ?_)
      | refine S_done [] rfl (RetQ.keepN rfl rfl rfl rfl ?_)
      | refine L_block ?_
      | refine L_ret (RetQ.keep rfl rfl rfl rfl ?_)
      | refine L_true rfl ?_
      | refine L_false rfl ?_
      | refine L_skip (Nx.go ?_)
      | refine L_ifp rfl (by first | exact bD | exact bE | exact bN | exact bNB | exact bEB | exact bNot bD | exact bNot bE | exact bNot bN) (fun h => ?_) (fun h => ?_)
      | refine S_Q [] rfl rfl (QY.idxN rfl rfl (by omega)) ?_
      | refine S_splitp 29 rfl rfl rfl (by first | exact bD | exact bE | exact bN | exact bNB | exact bEB | exact bNot bD | exact bNot bE | exact bNot bN) (fun h => ?_) (fun h => ?_)
      | refine L_reg ?_
      | refine L_seq ?_
      | exact ⟨rfl, rfl⟩
      | fail)
    · rw [show stepT t o = spawnT t by simp only [stepT]; simp [*]]
      exact ⟨by simp [rnV, rn1, rnS, rn0, lret], rfl⟩
    · exact absurd rfl h
  · first | refine L_rs ?_ | refine L_reg ?_ | skip
    refine S_Ed [] rfl rfl (EWd.callP [] (Ours_tr o.vk o.vb) rfl rfl (by decide) (by repeat' (first | exact trivial | refine ⟨rfl, ?_⟩ | fail)) rfl rfl) (disj_nil _) (nm_nilE _) (nm_nilT _) ?_
    rintro _ _ ⟨rfl, rfl⟩
    refine ⟨(by repeat' (first | exact trivial | refine ⟨⟨qsafe_ok (st := []) rfl, Sure.of rfl⟩, ?_⟩ | refine ⟨.inl rfl, ?_⟩ | refine ⟨.inr ⟨qsafe_ok (st := []) rfl, Sure.of rfl⟩, ?_⟩ | refine ⟨.inr ⟨QY.neqB rfl (by kernel_rfl) rfl rfl, Sure.of rfl⟩, ?_⟩ | refine ⟨.inr ⟨QY.eqlB rfl (by kernel_rfl) rfl rfl, Sure.of rfl⟩, ?_⟩ | fail)), ?_⟩
    first | refine L_rs ?_ | refine L_reg ?_ | skip
    refine S_Ed [] rfl rfl (EWd.callF [0, 1, 2] (End_tr t o.k o.vk o.vb) rfl rfl (by decide) (by repeat' (first | exact trivial | refine ⟨rfl, ?_⟩ | fail)) rfl rfl rfl) rfl rfl rfl ?_
    rintro _ _ ⟨rfl, rfl⟩
    refine ⟨(by repeat' (first | exact trivial | refine ⟨⟨qsafe_ok (st := []) rfl, Sure.of rfl⟩, ?_⟩ | refine ⟨.inl rfl, ?_⟩ | refine ⟨.inr ⟨qsafe_ok (st := []) rfl, Sure.of rfl⟩, ?_⟩ | refine ⟨.inr ⟨QY.neqB rfl (by kernel_rfl) rfl rfl, Sure.of rfl⟩, ?_⟩ | refine ⟨.inr ⟨QY.eqlB rfl (by kernel_rfl) rfl rfl, Sure.of rfl⟩, ?_⟩ | fail)), LSt.nf ?_⟩
    conv => whnf
    repeat' (first
      | refine L_rs ?_
      | refine S_done [] rfl (Nx.go ?_)
      | refine S_done [] rfl (RetQ.keepN rfl rfl rfl rfl ?_)
      | refine L_block ?_
      | refine L_ret (RetQ.keep rfl rfl rfl rfl ?_)
      | refine L_true rfl ?_
      | refine L_false rfl ?_
      | refine L_skip (Nx.go ?_)
      | refine L_ifp rfl (by first | exact bD | exact bE | exact bN | exact bNB | exact bEB | exact bNot bD | exact bNot bE | exact bNot bN) (fun h => ?_) (fun h => ?_)
      | refine S_Q [] rfl rfl (QY.idxN rfl rfl (by omega)) ?_
      | refine L_reg ?_
      | refine L_seq ?_
      | exact ⟨rfl, rfl⟩
      | fail)
    first | refine L_rs ?_ | refine L_reg ?_ | skip
    refine S_Ed [] rfl rfl (EWd.callF [3, 4, 5] (rEnd_up t ht o.k o.vk o.vb) rfl rfl (by decide) (by repeat' (first | exact trivial | refine ⟨rfl, ?_⟩ | fail)) rfl rfl rfl) rfl rfl rfl ?_
    rintro _ _ ⟨rfl, rfl⟩
    refine ⟨(by repeat' (first | exact trivial | refine ⟨⟨qsafe_ok (st := []) rfl, Sure.of rfl⟩, ?_⟩ | refine ⟨.inl rfl, ?_⟩ | refine ⟨.inr ⟨qsafe_ok (st := []) rfl, Sure.of rfl⟩, ?_⟩ | refine ⟨.inr ⟨QY.neqB rfl (by kernel_rfl) rfl rfl, Sure.of rfl⟩, ?_⟩ | refine ⟨.inr ⟨QY.eqlB rfl (by kernel_rfl) rfl rfl, Sure.of rfl⟩, ?_⟩ | fail)), LSt.nf ?_⟩
    conv => whnf
    repeat' (first
      | refine L_rs ?_
      | refine S_done [] rfl (Nx.go ?_)
      | refine S_done [] rfl (RetQ.keepN rfl rfl rfl rfl ?_)
      | refine L_block ?_
      | refine L_ret (RetQ.keep rfl rfl rfl rfl ?_)
      | refine L_true rfl ?_
      | refine L_false rfl ?_
      | refine L_skip (Nx.go ?_)
      | refine L_ifp rfl (by first | exact bD | exact bE | exact bN | exact bNB | exact bEB | exact bNot bD | exact bNot bE | exact bNot bN) (fun h => ?_) (fun h => ?_)
      | refine S_Q [] rfl rfl (QY.idxN rfl rfl (by omega)) ?_
      | refine L_reg ?_
      | refine L_seq ?_
      | exact ⟨rfl, rfl⟩
      | fail)
    rw [show stepT t o = endT t o.k o.vk o.vb by simp only [stepT]; simp [*]]
    exact ⟨by simp [rnV, rn1, rnS, rn0, lret], rfl⟩
  · first | refine L_rs ?_ | refine L_reg ?_ | skip
    refine S_Ed [] rfl rfl (EWd.callF [0, 1, 2] (Kill_tr t o.k o.trap) rfl rfl (by decide) (by repeat' (first | exact trivial | refine ⟨rfl, ?_⟩ | fail)) rfl rfl rfl) rfl rfl rfl ?_
    rintro _ _ ⟨rfl, rfl⟩
    refine ⟨(by repeat' (first | exact trivial | refine ⟨⟨qsafe_ok (st := []) rfl, Sure.of rfl⟩, ?_⟩ | refine ⟨.inl rfl, ?_⟩ | refine ⟨.inr ⟨qsafe_ok (st := []) rfl, Sure.of rfl⟩, ?_⟩ | refine ⟨.inr ⟨QY.neqB rfl (by kernel_rfl) rfl rfl, Sure.of rfl⟩, ?_⟩ | refine ⟨.inr ⟨QY.eqlB rfl (by kernel_rfl) rfl rfl, Sure.of rfl⟩, ?_⟩ | fail)), LSt.nf ?_⟩
    conv => whnf
    repeat' (first
      | refine L_rs ?_
      | refine S_done [] rfl (Nx.go ?_)
      | refine S_done [] rfl (RetQ.keepN rfl rfl rfl rfl ?_)
      | refine L_block ?_
      | refine L_ret (RetQ.keep rfl rfl rfl rfl ?_)
      | refine L_true rfl ?_
      | refine L_false rfl ?_
      | refine L_skip (Nx.go ?_)
      | refine L_ifp rfl (by first | exact bD | exact bE | exact bN | exact bNB | exact bEB | exact bNot bD | exact bNot bE | exact bNot bN) (fun h => ?_) (fun h => ?_)
      | refine S_Q [] rfl rfl (QY.idxN rfl rfl (by omega)) ?_
      | refine L_reg ?_
      | refine L_seq ?_
      | exact ⟨rfl, rfl⟩
      | fail)
    first | refine L_rs ?_ | refine L_reg ?_ | skip
    refine S_Ed [] rfl rfl (EWd.callF [3, 4, 5] (rKill_up t ht o.k o.trap) rfl rfl (by decide) (by repeat' (first | exact trivial | refine ⟨rfl, ?_⟩ | fail)) rfl rfl rfl) rfl rfl rfl ?_
    rintro _ _ ⟨rfl, rfl⟩
    refine ⟨(by repeat' (first | exact trivial | refine ⟨⟨qsafe_ok (st := []) rfl, Sure.of rfl⟩, ?_⟩ | refine ⟨.inl rfl, ?_⟩ | refine ⟨.inr ⟨qsafe_ok (st := []) rfl, Sure.of rfl⟩, ?_⟩ | refine ⟨.inr ⟨QY.neqB rfl (by kernel_rfl) rfl rfl, Sure.of rfl⟩, ?_⟩ | refine ⟨.inr ⟨QY.eqlB rfl (by kernel_rfl) rfl rfl, Sure.of rfl⟩, ?_⟩ | fail)), LSt.nf ?_⟩
    conv => whnf
    repeat' (first
      | refine L_rs ?_
      | refine S_done [] rfl (Nx.go ?_)
      | refine S_done [] rfl (RetQ.keepN rfl rfl rfl rfl ?_)
      | refine L_block ?_
      | refine L_ret (RetQ.keep rfl rfl rfl rfl ?_)
      | refine L_true rfl ?_
      | refine L_false rfl ?_
      | refine L_skip (Nx.go ?_)
      | refine L_ifp rfl (by first | exact bD | exact bE | exact bN | exact bNB | exact bEB | exact bNot bD | exact bNot bE | exact bNot bN) (fun h => ?_) (fun h => ?_)
      | refine S_Q [] rfl rfl (QY.idxN rfl rfl (by omega)) ?_
      | refine L_reg ?_
      | refine L_seq ?_
      | exact ⟨rfl, rfl⟩
      | fail)
    rw [show stepT t o = killT t o.k o.trap by simp only [stepT]; simp [*]]
    exact ⟨by simp [rnV, rn1, rnS, rn0, lret], rfl⟩
  · first | refine L_rs ?_ | refine L_reg ?_ | skip
    refine S_Ed [] rfl rfl (EWd.callF [0, 1, 2] (Lock_tr t o.k o.m) rfl rfl (by decide) (by repeat' (first | exact trivial | refine ⟨rfl, ?_⟩ | fail)) rfl rfl rfl) rfl rfl rfl ?_
    rintro _ _ ⟨rfl, rfl⟩
    refine ⟨(by repeat' (first | exact trivial | refine ⟨⟨qsafe_ok (st := []) rfl, Sure.of rfl⟩, ?_⟩ | refine ⟨.inl rfl, ?_⟩ | refine ⟨.inr ⟨qsafe_ok (st := []) rfl, Sure.of rfl⟩, ?_⟩ | refine ⟨.inr ⟨QY.neqB rfl (by kernel_rfl) rfl rfl, Sure.of rfl⟩, ?_⟩ | refine ⟨.inr ⟨QY.eqlB rfl (by kernel_rfl) rfl rfl, Sure.of rfl⟩, ?_⟩ | fail)), LSt.nf ?_⟩
    conv => whnf
    repeat' (first
      | refine L_rs ?_
      | refine S_done [] rfl (Nx.go ?_)
      | refine S_done [] rfl (RetQ.keepN rfl rfl rfl rfl ?_)
      | refine L_block ?_
      | refine L_ret (RetQ.keep rfl rfl rfl rfl ?_)
      | refine L_true rfl ?_
      | refine L_false rfl ?_
      | refine L_skip (Nx.go ?_)
      | refine L_ifp rfl (by first | exact bD | exact bE | exact bN | exact bNB | exact bEB | exact bNot bD | exact bNot bE | exact bNot bN) (fun h => ?_) (fun h => ?_)
      | refine S_Q [] rfl rfl (QY.idxN rfl rfl (by omega)) ?_
      | refine L_reg ?_
      | refine L_seq ?_
      | exact ⟨rfl, rfl⟩
      | fail)
    first | refine L_rs ?_ | refine L_reg ?_ | skip
    refine S_Ed [] rfl rfl (EWd.callF [3, 4, 5] (rLock_tr t ht o.k o.m) rfl rfl (by decide) (by repeat' (first | exact trivial | refine ⟨rfl, ?_⟩ | fail)) rfl rfl rfl) rfl rfl rfl ?_
    rintro _ _ ⟨rfl, rfl⟩
    refine ⟨(by repeat' (first | exact trivial | refine ⟨⟨qsafe_ok (st := []) rfl, Sure.of rfl⟩, ?_⟩ | refine ⟨.inl rfl, ?_⟩ | refine ⟨.inr ⟨qsafe_ok (st := []) rfl, Sure.of rfl⟩, ?_⟩ | refine ⟨.inr ⟨QY.neqB rfl (by kernel_rfl) rfl rfl, Sure.of rfl⟩, ?_⟩ | refine ⟨.inr ⟨QY.eqlB rfl (by kernel_rfl) rfl rfl, Sure.of rfl⟩, ?_⟩ | fail)), LSt.nf ?_⟩
    conv => whnf
    repeat' (first
      | refine L_rs ?_
      | refine S_done [] rfl (Nx.go ?_)
      | refine S_done [] rfl (RetQ.keepN rfl rfl rfl rfl ?_)
      | refine L_block ?_
      | refine L_ret (RetQ.keep rfl rfl rfl rfl ?_)
      | refine L_true rfl ?_
      | refine L_false rfl ?_
      | refine L_skip (Nx.go ?_)
      | refine L_ifp rfl (by first | exact bD | exact bE | exact bN | exact bNB | exact bEB | exact bNot bD | exact bNot bE | exact bNot bN) (fun h => ?_) (fun h => ?_)
      | refine S_Q [] rfl rfl (QY.idxN rfl rfl (by omega)) ?_
      | refine L_reg ?_
      | refine L_seq ?_
      | exact ⟨rfl, rfl⟩
      | fail)
    rw [show stepT t o = lockT t o.k o.m by simp only [stepT]; simp [*]]
    exact ⟨by simp [rnV, rn1, rnS, rn0, lret], rfl⟩
  · first | refine L_rs ?_ | refine L_reg ?_ | skip
    refine S_Ed [] rfl rfl (EWd.callF [0, 1, 2] (Lock_tr t o.k o.m) rfl rfl (by decide) (by repeat' (first | exact trivial | refine ⟨rfl, ?_⟩ | fail)) rfl rfl rfl) rfl rfl rfl ?_
    rintro _ _ ⟨rfl, rfl⟩
    refine ⟨(by repeat' (first | exact trivial | refine ⟨⟨qsafe_ok (st := []) rfl, Sure.of rfl⟩, ?_⟩ | refine ⟨.inl rfl, ?_⟩ | refine ⟨.inr ⟨qsafe_ok (st := []) rfl, Sure.of rfl⟩, ?_⟩ | refine ⟨.inr ⟨QY.neqB rfl (by kernel_rfl) rfl rfl, Sure.of rfl⟩, ?_⟩ | refine ⟨.inr ⟨QY.eqlB rfl (by kernel_rfl) rfl rfl, Sure.of rfl⟩, ?_⟩ | fail)), LSt.nf ?_⟩
    conv => whnf
    repeat' (first
      | refine L_rs ?_
      | refine S_done [] rfl (Nx.go ?_)
      | refine S_done [] rfl (RetQ.keepN rfl rfl rfl rfl ?_)
      | refine L_block ?_
      | refine L_ret (RetQ.keep rfl rfl rfl rfl ?_)
      | refine L_true rfl ?_
      | refine L_false rfl ?_
      | refine L_skip (Nx.go ?_)
      | refine L_ifp rfl (by first | exact bD | exact bE | exact bN | exact bNB | exact bEB | exact bNot bD | exact bNot bE | exact bNot bN) (fun h => ?_) (fun h => ?_)
      | refine S_Q [] rfl rfl (QY.idxN rfl rfl (by omega)) ?_
      | refine L_reg ?_
      | refine L_seq ?_
      | exact ⟨rfl, rfl⟩
      | fail)
    first | refine L_rs ?_ | refine L_reg ?_ | skip
    refine S_Ed [] rfl rfl (EWd.callF [3, 4, 5] (rLock_tr t ht o.k o.m) rfl rfl (by decide) (by repeat' (first | exact trivial | refine ⟨rfl, ?_⟩ | fail)) rfl rfl rfl) rfl rfl rfl ?_
    rintro _ _ ⟨rfl, rfl⟩
    refine ⟨(by repeat' (first | exact trivial | refine ⟨⟨qsafe_ok (st := []) rfl, Sure.of rfl⟩, ?_⟩ | refine ⟨.inl rfl, ?_⟩ | refine ⟨.inr ⟨qsafe_ok (st := []) rfl, Sure.of rfl⟩, ?_⟩ | refine ⟨.inr ⟨QY.neqB rfl (by kernel_rfl) rfl rfl, Sure.of rfl⟩, ?_⟩ | refine ⟨.inr ⟨QY.eqlB rfl (by kernel_rfl) rfl rfl, Sure.of rfl⟩, ?_⟩ | fail)), LSt.nf ?_⟩
    conv => whnf
    repeat' (first
      | refine L_rs ?_
      | refine S_done [] rfl (Nx.go ?_)
      | refine S_done [] rfl (RetQ.keepN rfl rfl rfl rfl ?_)
      | refine L_block ?_
      | refine L_ret (RetQ.keep rfl rfl rfl rfl ?_)
      | refine L_true rfl ?_
      | refine L_false rfl ?_
      | refine L_skip (Nx.go ?_)
      | refine L_ifp rfl (by first | exact bD | exact bE | exact bN | exact bNB | exact bEB | exact bNot bD | exact bNot bE | exact bNot bN) (fun h => ?_) (fun h => ?_)
      | refine S_Q [] rfl rfl (QY.idxN rfl rfl (by omega)) ?_
      | refine L_reg ?_
      | refine L_seq ?_
      | exact ⟨rfl, rfl⟩
      | fail)
    rw [show stepT t o = lockT t o.k o.m by simp only [stepT]; simp [*]]
    exact ⟨by simp [rnV, rn1, rnS, rn0, lret], rfl⟩
  · first | refine L_rs ?_ | refine L_reg ?_ | skip
    refine S_Ed [] rfl rfl (EWd.callF [0, 1, 2] (Unlock_tr t o.k o.m) rfl rfl (by decide) (by repeat' (first | exact trivial | refine ⟨rfl, ?_⟩ | fail)) rfl rfl rfl) rfl rfl rfl ?_
    rintro _ _ ⟨rfl, rfl⟩
    refine ⟨(by repeat' (first | exact trivial | refine ⟨⟨qsafe_ok (st := []) rfl, Sure.of rfl⟩, ?_⟩ | refine ⟨.inl rfl, ?_⟩ | refine ⟨.inr ⟨qsafe_ok (st := []) rfl, Sure.of rfl⟩, ?_⟩ | refine ⟨.inr ⟨QY.neqB rfl (by kernel_rfl) rfl rfl, Sure.of rfl⟩, ?_⟩ | refine ⟨.inr ⟨QY.eqlB rfl (by kernel_rfl) rfl rfl, Sure.of rfl⟩, ?_⟩ | fail)), LSt.nf ?_⟩
    conv => whnf
    repeat' (first
      | refine L_rs ?_
      | refine S_done [] rfl (Nx.go ?_)
      | refine S_done [] rfl (RetQ.keepN rfl rfl rfl rfl ?_)
      | refine L_block ?_
      | refine L_ret (RetQ.keep rfl rfl rfl rfl ?_)
      | refine L_true rfl ?_
      | refine L_false rfl ?_
      | refine L_skip (Nx.go ?_)
      | refine L_ifp rfl (by first | exact bD | exact bE | exact bN | exact bNB | exact bEB | exact bNot bD | exact bNot bE | exact bNot bN) (fun h => ?_) (fun h => ?_)
      | refine S_Q [] rfl rfl (QY.idxN rfl rfl (by omega)) ?_
      | refine L_reg ?_
      | refine L_seq ?_
      | exact ⟨rfl, rfl⟩
      | fail)
    first | refine L_rs ?_ | refine L_reg ?_ | skip
    refine S_Ed [] rfl rfl (EWd.callF [3, 4, 5] (rUnlock_tr t ht o.k o.m) rfl rfl (by decide) (by repeat' (first | exact trivial | refine ⟨rfl, ?_⟩ | fail)) rfl rfl rfl) rfl rfl rfl ?_
    rintro _ _ ⟨rfl, rfl⟩
    refine ⟨(by repeat' (first | exact trivial | refine ⟨⟨qsafe_ok (st := []) rfl, Sure.of rfl⟩, ?_⟩ | refine ⟨.inl rfl, ?_⟩ | refine ⟨.inr ⟨qsafe_ok (st := []) rfl, Sure.of rfl⟩, ?_⟩ | refine ⟨.inr ⟨QY.neqB rfl (by kernel_rfl) rfl rfl, Sure.of rfl⟩, ?_⟩ | refine ⟨.inr ⟨QY.eqlB rfl (by kernel_rfl) rfl rfl, Sure.of rfl⟩, ?_⟩ | fail)), LSt.nf ?_⟩
    conv => whnf
    repeat' (first
      | refine L_rs ?_
      | refine S_done [] rfl (Nx.go ?_)
      | refine S_done [] rfl (RetQ.keepN rfl rfl rfl rfl ?_)
      | refine L_block ?_
      | refine L_ret (RetQ.keep rfl rfl rfl rfl ?_)
      | refine L_true rfl ?_
      | refine L_false rfl ?_
      | refine L_skip (Nx.go ?_)
      | refine L_ifp rfl (by first | exact bD | exact bE | exact bN | exact bNB | exact bEB | exact bNot bD | exact bNot bE | exact bNot bN) (fun h => ?_) (fun h => ?_)
      | refine S_Q [] rfl rfl (QY.idxN rfl rfl (by omega)) ?_
      | refine L_reg ?_
      | refine L_seq ?_
      | exact ⟨rfl, rfl⟩
      | fail)
    rw [show stepT t o = unlockT t o.k o.m by simp only [stepT]; simp [*]]
    exact ⟨by simp [rnV, rn1, rnS, rn0, lret], rfl⟩
  · rw [show stepT t o = t by simp only [stepT]; simp [*]]; exact ⟨rfl, rfl⟩
end Go.Proofs.Ytcchfefbolmlbaa
