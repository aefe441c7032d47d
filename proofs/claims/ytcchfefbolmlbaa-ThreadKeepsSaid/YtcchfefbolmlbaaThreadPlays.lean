/-
  ThreadPlays: the law's call.
-/
import Derived.Test.YtcchfefbolmlbaaThreadS
import Derived.Test.YtcchfefbolmlbaaLw5
namespace Go.Proofs.Ytcchfefbolmlbaa
open Go Go.Tum Go.Deep

theorem awake_tr : Tr Try.prog 14 [] [] (fun v K => v = .bool true ∧ K = []) :=
  Tr.closed (by kernel_rfl) rfl rfl fun w => closed_call (vs := []) (fuel := 200) rows_ok (rawQ0_ok _) (rawE0_ok _) rfl rfl rfl (by kernel_rfl) w

/-- behind a law's own row: both tables -/
def PL1 (t : Tb) : LH := [.dead, .cells 0 [.int .i64 t.most, .slice (some ⟨2, 0, none⟩) t.l.length t.l.length, .slice (some ⟨3, 0, none⟩) t.mu.length t.mu.length], .gro 4 (rowsC Th.cells t.l), .gro 1 (rowsC intC t.mu),
  .cells 0 [.int .i64 (up t).most, .slice (some ⟨5, 0, none⟩) (up t).l.length (up t).l.length, .slice (some ⟨6, 0, none⟩) (up t).mu.length (up t).mu.length], .gro 4 (rowsC Th.cells (up t).l), .gro 1 (rowsC intC (up t).mu)]
abbrev p1 : Value := .pointer (some ⟨1, 0, none⟩)
abbrev p4 : Value := .pointer (some ⟨4, 0, none⟩)
abbrev asl (n : Nat) : Value := .slice (some ⟨0, 0, none⟩) n n

theorem set_mem {α : Type} {l : List α} {k : Nat} {a x : α} (h : x ∈ l.set k a) : x ∈ l ∨ x = a := by
  rcases List.mem_or_eq_of_mem_set h with h | h
  · exact .inl h
  · exact .inr h
theorem step_ok {t : Tb} (ht : t.Ok) (o : Op) : (stepT t o).Ok := by
  have put : ∀ (k : Int) (x : Th), (putT t k x).Ok := fun k x => ⟨ht.most, by simpa [putT] using ht.len, ht.mus, by simpa [putT] using ht.mu⟩
  have putm : ∀ (m x : Int), -1 ≤ x → x < t.l.length → (putM t m x).Ok := fun m x h1 h2 => ⟨ht.most, ht.len, by simpa [putM] using ht.mus, fun y hy => by
    rcases set_mem hy with h | h
    · exact ht.mu y h
    · subst h; exact ⟨h1, h2⟩⟩
  unfold stepT
  split
  · unfold spawnT
    split
    · exact ht
    · refine ⟨ht.most, ?_, ht.mus, fun x hx => ?_⟩
      · have := ht.len; simp; omega
      · have := ht.mu x hx; simp; omega
  split
  · unfold endT; split
    · exact put _ _
    · exact ht
  split
  · unfold killT; split
    · split
      · exact ht
      · exact put _ _
    · exact ht
  split
  · unfold lockT; split
    · rename_i h
      unfold lockE at h
      split at h
      · split at h
        · rename_i h1
          obtain ⟨j, e, hj⟩ := runs_in h1
          exact putm _ _ (by omega) (by omega)
        · cases h
      · contradiction
    · exact ht
  split
  · unfold unlockT; split
    · rename_i h
      exact putm _ _ (by omega) (by
        unfold unlockE at h
        split at h
        · rename_i h0
          obtain ⟨j, e, hj⟩ := in_yes h0
          have := ht.mu t.mu[j] (List.getElem_mem hj)
          omega
        · contradiction)
    · exact ht
  · exact ht

theorem ThreadPlays_tr (most mutexes : Int) (n : Nat) (hn : n ≤ 9223372036854775807) (get : Nat → List Value) (op : Nat → Op) (hop : ∀ i, i < n → get i = (op i).cells) :
    TrK Try.prog [(0, n * 6, rowG 6 get)] [0] 4 [.int .i64 most, .int .i64 mutexes, asl n] [.dead] (fun v _ => v = .bool true) := by
  refine Tr.of row_tumbrellaw29_ThreadPlays_ok rfl ?_
  refine L_rs (S_done [] rfl (Nx.go ?_))
  first | refine L_rs ?_ | refine L_reg ?_ | skip
  refine S_E [] rfl rfl (EW.callF [] (New_tr most mutexes) rfl rfl (by decide) (by repeat' (first | exact trivial | refine ⟨rfl, ?_⟩ | fail)) rfl rfl) ?_
  rintro _ _ ⟨rfl, rfl⟩
  refine ⟨(by repeat' (first | exact trivial | refine ⟨⟨qsafe_ok (st := []) rfl, Sure.of rfl⟩, ?_⟩ | refine ⟨.inl rfl, ?_⟩ | refine ⟨.inr ⟨qsafe_ok (st := []) rfl, Sure.of rfl⟩, ?_⟩ | refine ⟨.inr ⟨QY.neqB rfl (by kernel_rfl) rfl rfl, Sure.of rfl⟩, ?_⟩ | refine ⟨.inr ⟨QY.eqlB rfl (by kernel_rfl) rfl rfl, Sure.of rfl⟩, ?_⟩ | fail)), LSt.nf ?_⟩
  conv => whnf
  first | refine L_rs ?_ | refine L_reg ?_ | skip
  refine S_E [] rfl rfl (EW.callF [] (rNew_tr most mutexes) rfl rfl (by decide) (by repeat' (first | exact trivial | refine ⟨rfl, ?_⟩ | fail)) rfl rfl) ?_
  rintro _ _ ⟨rfl, rfl⟩
  refine ⟨(by repeat' (first | exact trivial | refine ⟨⟨qsafe_ok (st := []) rfl, Sure.of rfl⟩, ?_⟩ | refine ⟨.inl rfl, ?_⟩ | refine ⟨.inr ⟨qsafe_ok (st := []) rfl, Sure.of rfl⟩, ?_⟩ | refine ⟨.inr ⟨QY.neqB rfl (by kernel_rfl) rfl rfl, Sure.of rfl⟩, ?_⟩ | refine ⟨.inr ⟨QY.eqlB rfl (by kernel_rfl) rfl rfl, Sure.of rfl⟩, ?_⟩ | fail)), LSt.nf ?_⟩
  conv => whnf
  refine S_done [] rfl (Nx.go ?_)
  refine L_cut (fun l L => ∃ t : Tb, t.Ok ∧ l = [(7, p1), (8, p4)] ∧ L = PL1 t) ?_ ?_
  · refine L_rs (S_done [] rfl (Nx.pick [7, 8, 17, 18, 19] [0, 1, 2, 3, 4, 5, 6] rfl rfl rfl ?_))
    refine L_block (L_loop (fun r l L => ∃ (i : Nat) (t : Tb), r = n - i ∧ i ≤ n ∧ t.Ok ∧ l = [(7, p1), (8, p4), (17, asl n), (18, .int .i64 n), (19, .int .i64 i)] ∧ L = PL1 t) n ⟨0, newT most mutexes, rfl, by omega, new_ok _ _, rfl, rfl⟩ ?_)
    rintro r _ _ ⟨i, t, rfl, hi, ht, rfl, rfl⟩
    refine L_rs (S_done [] rfl (Nx.go (L_seq (L_ifp rfl (by first | exact bD | exact bE | exact bN | exact bNB | exact bEB | exact bNot bD | exact bNot bE | exact bNot bN | exact bNot bV | exact bV) (fun h => L_skip (Nx.go ?_)) (fun h => L_exit ?_)))))
    · have hi' : i < n := by omega
      have e := hop i hi'
      refine L_seq (L_block (L_rs (S_Q [] rfl rfl (QY.idxN rfl rfl hi') (S_Q (v := .agg ⟨(op i).cells⟩) [] rfl rfl (by rw [← e]; exact QY.rowA (j := 0) i rfl rfl rfl hi' (by rw [e]; rfl) (by rw [e]; rfl)) ?_))))
      refine S_done [] rfl (Nx.go ?_)
      refine L_seq (L_rs (S_done [] rfl (Nx.go (L_ifp rfl (by first | exact bD | exact bE | exact bN | exact bNB | exact bEB | exact bNot bD | exact bNot bE | exact bNot bN | exact bNot bV | exact bV) (fun h => L_exit ?_) (fun h => L_skip (Nx.go ?_))))))
      · exact Nx.pick [7, 8] [0, 1, 2, 3, 4, 5, 6] rfl rfl rfl ⟨t, ht, rfl, rfl⟩
      · first | refine LSt.drop [7, 8, 10, 17, 18, 19] (LSt.nf ?_) | refine LWp.drop [7, 8, 10, 17, 18, 19] (LWp.nf ?_)
        conv => whnf
        first | refine L_rs ?_ | refine L_reg ?_ | skip
        refine S_Ed [] rfl rfl (EWd.callF [1, 2, 3, 4, 5, 6] (step_tr t ht (op i)) rfl rfl (by decide) (by repeat' (first | exact trivial | refine ⟨rfl, ?_⟩ | fail)) rfl rfl rfl) rfl rfl rfl ?_
        rintro _ _ ⟨rfl, rfl⟩
        refine ⟨(by repeat' (first | exact trivial | refine ⟨⟨qsafe_ok (st := []) rfl, Sure.of rfl⟩, ?_⟩ | refine ⟨.inl rfl, ?_⟩ | refine ⟨.inr ⟨qsafe_ok (st := []) rfl, Sure.of rfl⟩, ?_⟩ | refine ⟨.inr ⟨QY.neqB rfl (by kernel_rfl) rfl rfl, Sure.of rfl⟩, ?_⟩ | refine ⟨.inr ⟨QY.eqlB rfl (by kernel_rfl) rfl rfl, Sure.of rfl⟩, ?_⟩ | fail)), LSt.nf ?_⟩
        conv => whnf
        first | refine L_rs ?_ | refine L_reg ?_ | skip
        refine S_Ed [] rfl rfl (EWd.callP [1, 2, 3, 4, 5, 6] (same_tr (stepT t (op i)) (step_ok ht _)) rfl rfl (by decide) (by repeat' (first | exact trivial | refine ⟨rfl, ?_⟩ | fail)) rfl rfl) (disj_nil _) (nm_nilE _) (nm_nilT _) ?_
        rintro _ _ ⟨rfl, rfl⟩
        refine ⟨(by repeat' (first | exact trivial | refine ⟨⟨qsafe_ok (st := []) rfl, Sure.of rfl⟩, ?_⟩ | refine ⟨.inl rfl, ?_⟩ | refine ⟨.inr ⟨qsafe_ok (st := []) rfl, Sure.of rfl⟩, ?_⟩ | refine ⟨.inr ⟨QY.neqB rfl (by kernel_rfl) rfl rfl, Sure.of rfl⟩, ?_⟩ | refine ⟨.inr ⟨QY.eqlB rfl (by kernel_rfl) rfl rfl, Sure.of rfl⟩, ?_⟩ | fail)), ?_⟩
        refine S_done [] rfl (Nx.go (L_false rfl (L_skip (Nx.go ?_))))
        refine L_reg (S_Q [] rfl rfl (QY.add (c := ((i + 1 : Nat) : Int)) rfl rfl rfl (by omega) (by omega)) (S_done [] rfl ?_))
        exact Nx.pick [7, 8, 17, 18, 19] [0, 1, 2, 3, 4, 5, 6] rfl rfl rfl ⟨n - (i + 1), by omega, i + 1, stepT t (op i), rfl, by omega, step_ok ht _, rfl, rfl⟩
    · exact Nx.pick [7, 8] [0, 1, 2, 3, 4, 5, 6] rfl rfl rfl ⟨t, ht, rfl, rfl⟩
  · rintro _ _ ⟨t, ht, rfl, rfl⟩
    first | refine L_rs ?_ | refine L_reg ?_ | skip
    refine S_Ed [] rfl rfl (EWd.callP [1, 2, 3, 4, 5, 6] (same_tr t ht) rfl rfl (by decide) (by repeat' (first | exact trivial | refine ⟨rfl, ?_⟩ | fail)) rfl rfl) (disj_nil _) (nm_nilE _) (nm_nilT _) ?_
    rintro _ _ ⟨rfl, rfl⟩
    refine ⟨(by repeat' (first | exact trivial | refine ⟨⟨qsafe_ok (st := []) rfl, Sure.of rfl⟩, ?_⟩ | refine ⟨.inl rfl, ?_⟩ | refine ⟨.inr ⟨qsafe_ok (st := []) rfl, Sure.of rfl⟩, ?_⟩ | refine ⟨.inr ⟨QY.neqB rfl (by kernel_rfl) rfl rfl, Sure.of rfl⟩, ?_⟩ | refine ⟨.inr ⟨QY.eqlB rfl (by kernel_rfl) rfl rfl, Sure.of rfl⟩, ?_⟩ | fail)), ?_⟩
    first | refine L_rs ?_ | refine L_reg ?_ | skip
    refine S_Ed [] rfl rfl (EWd.callP [] (awake_tr) rfl rfl (by decide) (by repeat' (first | exact trivial | refine ⟨rfl, ?_⟩ | fail)) rfl rfl) (disj_nil _) (nm_nilE _) (nm_nilT _) ?_
    rintro _ _ ⟨rfl, rfl⟩
    refine ⟨(by repeat' (first | exact trivial | refine ⟨⟨qsafe_ok (st := []) rfl, Sure.of rfl⟩, ?_⟩ | refine ⟨.inl rfl, ?_⟩ | refine ⟨.inr ⟨qsafe_ok (st := []) rfl, Sure.of rfl⟩, ?_⟩ | refine ⟨.inr ⟨QY.neqB rfl (by kernel_rfl) rfl rfl, Sure.of rfl⟩, ?_⟩ | refine ⟨.inr ⟨QY.eqlB rfl (by kernel_rfl) rfl rfl, Sure.of rfl⟩, ?_⟩ | fail)), ?_⟩
    refine S_done [] rfl (Nx.go (L_ret (RetQ.keep rfl rfl rfl rfl rfl)))

instance : Inhabited Op := ⟨⟨0, 0, 0, 0, 0, 0⟩⟩
theorem ops_in {cs : List Value} (h : Fits [some .i64, some .i64, some .i64, some .i64, some .i64, some .u64] cs) : ∃ o : Op, cs = o.cells := by
  obtain ⟨a, _, rfl, _, h⟩ := h.int
  obtain ⟨b, _, rfl, _, h⟩ := h.int
  obtain ⟨c, _, rfl, _, h⟩ := h.int
  obtain ⟨d, _, rfl, _, h⟩ := h.int
  obtain ⟨e, _, rfl, _, h⟩ := h.int
  obtain ⟨f, _, rfl, _, h⟩ := h.int
  obtain rfl := h.nil
  exact ⟨⟨a, b, c, d, e, f⟩, rfl⟩
theorem ThreadPlays_does (w : World) (most mutexes : Int) {v : Value} {n : Nat} {get : Nat → List Value} (hr : SlIn w 6 v n get) (hf : ∀ i, i < n → Fits [some .i64, some .i64, some .i64, some .i64, some .i64, some .u64] (get i)) :
    Does Try.prog 4 #[.int .i64 most, .int .i64 mutexes, v] w fun v w' => v = .bool true ∧ Fr (fun _ => False) w w' := by
  obtain ⟨op, hop⟩ := choose_lt (n := n) (p := fun i (o : Op) => get i = o.cells) fun i hi => ops_in (hf i hi)
  obtain ⟨hn, r, hr⟩ := hr
  obtain ⟨h1, h2⟩ := hr [r] 0 rfl
  exact (ThreadPlays_tr most mutexes n hn get op hop).law (vs' := [.int .i64 most, .int .i64 mutexes, v]) [r] w rfl (by intro x hx; cases List.mem_singleton.1 hx; exact ⟨rfl, h2⟩) ⟨rfl, rfl, h1, trivial⟩
end Go.Proofs.Ytcchfefbolmlbaa
