/-
  RemotePlays: the law's call.
-/
import Derived.Test.YtgfkadmpakgmeaaRemoteSame
import Derived.Test.YtgfkadmpakgmeaaRemoteNil
namespace Go.Proofs.Ytgfkadmpakgmeaa
open Go Go.Tum Go.Tum.Remote Go.Deep

theorem Rel.mono {s : Mail} {m : RM} {j j' : Nat} (h : Rel s m j) (hj : j ≤ j') : Rel s m j' :=
  ⟨h.n, h.n64, h.bt, h.clen, h.N0, h.held, h.row, h.come, h.inn, h.uniq, by have := h.len; omega, by have := h.all; omega⟩
theorem awakeR_tr : Tr Try.prog 12 [] [] (fun v K => v = .bool true ∧ K = []) :=
  Tr.closed (by kernel_rfl) rfl rfl fun w => awake_ok w
structure ROp where
  kind : Int
  f : Int
  t : Int
  a : Int
instance : Inhabited ROp := ⟨⟨0, 0, 0, 0⟩⟩
def ROp.cells (o : ROp) : List Value := [.int .i64 o.kind, .int .i64 o.f, .int .i64 o.t, .int .i64 o.a]
def PLr (s : Mail) (G : Nat → Prop) (m : RM) : LH := [.dead, MB s G, .cells 0 [.int .i64 m.n, .int .i64 m.bt, .slice (some ⟨3, 0, none⟩) m.l.length m.l.length, .int .i64 m.N], .gro 4 (rowsC It.cells m.l)]
abbrev q2 : Value := .pointer (some ⟨2, 0, none⟩)
abbrev asl (n : Nat) : Value := .slice (some ⟨0, 0, none⟩) n n

set_option maxHeartbeats 4000000 in
theorem RemotePlays_tr (threads batch : Int) (n : Nat) (hn : n ≤ 9223372036854775807) (get : Nat → List Value) (op : Nat → ROp) (hop : ∀ i, i < n → get i = (op i).cells) :
    TrK Try.prog [(0, n * 4, rowG 4 get)] [0] 5 [.int .i64 threads, .int .i64 batch, asl n] [.dead] (fun v _ => v = .bool true) := by
  refine Tr.of row_tumbrellaw12_RemotePlays_ok rfl ?_
  refine L_rs (S_done [] rfl (Nx.goL ?_))
  refine L_cut (fun l L => ∃ T : Int, l = [(0, .int .i64 T), (1, .int .i64 batch), (2, asl n)] ∧ L = [.dead]) ?_ ?_
  · repeat' (first
      | refine L_rs ?_
      | refine S_done [] rfl (Nx.goL ?_)
      | refine S_done [] rfl (RetQ.keepN rfl rfl rfl rfl ?_)
      | refine S_done [] rfl ?_
      | refine L_block ?_
      | refine L_ret (RetQ.keep rfl rfl rfl rfl ?_)
      | refine L_true rfl ?_
      | refine L_false rfl ?_
      | refine L_skip (Nx.goL ?_)
      | refine L_skip ?_
      | refine L_exit (Nx.goL ?_)
      | refine L_exit ?_
      | refine L_ifp rfl (by first | exact bD | exact bE | exact bN | exact bNB | exact bEB | exact bNot bD | exact bNot bE | exact bNot bN) (fun h => ?_) (fun h => ?_)
      | refine S_Q [] rfl rfl (QY.idxN rfl rfl (by omega)) ?_
      | refine S_splitp 17 rfl rfl rfl (by first | exact bD | exact bE | exact bN | exact bNB | exact bEB | exact bNot bD | exact bNot bE | exact bNot bN) (fun h => ?_) (fun h => ?_)
      | refine L_reg ?_
      | refine L_seq ?_
      | exact ⟨rfl, rfl⟩
      | fail)
    all_goals exact Nx.pick [0, 1, 2] [0] rfl rfl rfl ⟨_, rfl, rfl⟩
  rintro _ _ ⟨T, rfl, rfl⟩
  first | refine L_rs ?_ | refine L_reg ?_ | skip
  refine S_Ed [] rfl rfl (EWd.call [] (mNew_tr T batch) rfl rfl (Part.of (by decide) (by repeat' (first | exact trivial | refine ⟨rfl, ?_⟩ | fail))) handed_nil rfl) rfl rfl rfl ?_
  rintro _ _ ⟨_, _, ⟨rfl, G0, rfl⟩, rfl, rfl⟩
  refine ⟨(by repeat' (first | exact trivial | refine ⟨⟨qsafe_ok (st := []) rfl, Sure.of rfl⟩, ?_⟩ | refine ⟨.inl rfl, ?_⟩ | refine ⟨.inr ⟨qsafe_ok (st := []) rfl, Sure.of rfl⟩, ?_⟩ | refine ⟨.inr ⟨QY.neqB rfl (by kernel_rfl) rfl rfl, Sure.of rfl⟩, ?_⟩ | refine ⟨.inr ⟨QY.eqlB rfl (by kernel_rfl) rfl rfl, Sure.of rfl⟩, ?_⟩ | fail)), LSt.nf ?_⟩
  conv => whnf
  first | refine L_rs ?_ | refine L_reg ?_ | skip
  refine S_E [] rfl rfl (EW.callF [] (RNew_tr T batch) rfl rfl (by decide) (by repeat' (first | exact trivial | refine ⟨rfl, ?_⟩ | fail)) rfl rfl) ?_
  rintro _ _ ⟨rfl, rfl⟩
  refine ⟨(by repeat' (first | exact trivial | refine ⟨⟨qsafe_ok (st := []) rfl, Sure.of rfl⟩, ?_⟩ | refine ⟨.inl rfl, ?_⟩ | refine ⟨.inr ⟨qsafe_ok (st := []) rfl, Sure.of rfl⟩, ?_⟩ | refine ⟨.inr ⟨QY.neqB rfl (by kernel_rfl) rfl rfl, Sure.of rfl⟩, ?_⟩ | refine ⟨.inr ⟨QY.eqlB rfl (by kernel_rfl) rfl rfl, Sure.of rfl⟩, ?_⟩ | fail)), LSt.nf ?_⟩
  conv => whnf
  refine S_done [] rfl (Nx.goL ?_)
  refine L_cut (fun l L => ∃ (s : Mail) (G : Nat → Prop) (m : RM), Rel s m 60 ∧ l = [(7, q1), (8, q2)] ∧ L = PLr s G m) ?_ ?_
  · refine L_rs (S_done [] rfl (Nx.pick [7, 8, 27, 28, 29] [0, 1, 2, 3] rfl rfl rfl ?_))
    refine L_block (L_loop (fun r l L => ∃ (i : Nat) (s : Mail) (G : Nat → Prop) (m : RM), r = n - i ∧ i ≤ n ∧ i ≤ 60 ∧ Rel s m i ∧ l = [(7, q1), (8, q2), (27, asl n), (28, .int .i64 n), (29, .int .i64 i)] ∧ L = PLr s G m) n ⟨0, Mail.new T batch, G0, ⟨min (max T 0) 64, min (max batch 1) 64, [], 0⟩, rfl, by omega, by omega, Rel.new T batch, rfl, rfl⟩ ?_)
    rintro r _ _ ⟨i, s, G, m, rfl, hi, hi60, hr, rfl, rfl⟩
    have hlen := hr.len; have hN0 := hr.N0; have hall := hr.all
    have hsm := hr.small (by omega)
    refine L_rs (S_done [] rfl (Nx.goL (L_seq (L_ifp rfl (by first | exact bD | exact bE | exact bN | exact bNB | exact bEB | exact bNot bD | exact bNot bE | exact bNot bN | exact bNot bV | exact bV) (fun h => L_skip (Nx.goL ?_)) (fun h => L_exit ?_)))))
    · have hi' : i < n := by omega
      have e := hop i hi'
      refine L_seq (L_block (L_rs (S_Q [] rfl rfl (QY.idxN rfl rfl hi') (S_Q (v := .agg ⟨(op i).cells⟩) [] rfl rfl (by rw [← e]; exact QY.rowA (j := 0) i rfl rfl rfl hi' (by rw [e]; rfl) (by rw [e]; rfl)) (S_done [] rfl (Nx.goL ?_))))))
      refine L_seq (L_rs (S_done [] rfl (Nx.goL (L_ifp rfl (by first | exact bD | exact bE | exact bN | exact bNB | exact bEB | exact bNot bD | exact bNot bE | exact bNot bN | exact bNot bV | exact bV) (fun h => L_exit ?_) (fun h => L_skip (Nx.goL ?_))))))
      · exact Nx.pick [7, 8] [0, 1, 2, 3] rfl rfl rfl ⟨s, G, m, hr.mono (by omega), rfl, rfl⟩
      first | refine LSt.drop [7, 8, 10, 27, 28, 29] (LSt.nf ?_) | refine LWp.drop [7, 8, 10, 27, 28, 29] (LWp.nf ?_)
      conv => whnf
      generalize op i = o
      obtain ⟨kd, f, t, a⟩ := o
      repeat' (first
        | refine L_rs ?_
        | refine S_done [] rfl (Nx.goL ?_)
        | refine S_done [] rfl (RetQ.keepN rfl rfl rfl rfl ?_)
        | refine S_done [] rfl ?_
        | refine L_block ?_
        | refine L_ret (RetQ.keep rfl rfl rfl rfl ?_)
        | refine L_true rfl ?_
        | refine L_false rfl ?_
        | refine L_skip (Nx.goL ?_)
        | refine L_skip ?_
        | refine L_exit (Nx.goL ?_)
        | refine L_exit ?_
        | refine L_ifp rfl (by first | exact bD | exact bE | exact bN | exact bNB | exact bEB | exact bNot bD | exact bNot bE | exact bNot bN) (fun h => ?_) (fun h => ?_)
        | refine S_Q [] rfl rfl (QY.idxN rfl rfl (by omega)) ?_
        | refine L_reg ?_
        | refine L_seq ?_
        | exact ⟨rfl, rfl⟩
        | fail)
      · by_cases hv : (0 ≤ f ∧ f < s.n) ∧ (0 ≤ t ∧ t < s.n) ∧ f ≠ t
        · obtain ⟨f, rfl⟩ := Int.eq_ofNat_of_zero_le hv.1.1
          obtain ⟨t, rfl⟩ := Int.eq_ofNat_of_zero_le hv.2.1.1
          have hp : postB m f t := by rw [postB, hr.n]; exact hv
          have hP := Post_tr m (by omega) hN0 (by omega) f t a
          rw [decide_eq_true hp] at hP
          first | refine L_rs ?_ | refine L_reg ?_ | skip
          refine S_Ed [] rfl rfl (EWd.call [1] (mPost_ok s hsm G f t a hv.1 hv.2.1 hv.2.2) rfl rfl (Part.of (by decide) (by repeat' (first | exact trivial | refine ⟨rfl, ?_⟩ | fail))) handed_nil rfl) rfl rfl rfl ?_
          rintro _ _ ⟨_, _, ⟨rfl, G', rfl⟩, rfl, rfl⟩
          refine ⟨(by repeat' (first | exact trivial | refine ⟨⟨qsafe_ok (st := []) rfl, Sure.of rfl⟩, ?_⟩ | refine ⟨.inl rfl, ?_⟩ | refine ⟨.inr ⟨qsafe_ok (st := []) rfl, Sure.of rfl⟩, ?_⟩ | refine ⟨.inr ⟨QY.neqB rfl (by kernel_rfl) rfl rfl, Sure.of rfl⟩, ?_⟩ | refine ⟨.inr ⟨QY.eqlB rfl (by kernel_rfl) rfl rfl, Sure.of rfl⟩, ?_⟩ | fail)), LSt.nf ?_⟩
          conv => whnf
          first | refine L_rs ?_ | refine L_reg ?_ | skip
          refine S_Ed [] rfl rfl (EWd.callF [2, 3] (hP) rfl rfl (by decide) (by repeat' (first | exact trivial | refine ⟨rfl, ?_⟩ | fail)) rfl rfl rfl) rfl rfl rfl ?_
          rintro _ _ ⟨rfl, rfl⟩
          refine ⟨(by repeat' (first | exact trivial | refine ⟨⟨qsafe_ok (st := []) rfl, Sure.of rfl⟩, ?_⟩ | refine ⟨.inl rfl, ?_⟩ | refine ⟨.inr ⟨qsafe_ok (st := []) rfl, Sure.of rfl⟩, ?_⟩ | refine ⟨.inr ⟨QY.neqB rfl (by kernel_rfl) rfl rfl, Sure.of rfl⟩, ?_⟩ | refine ⟨.inr ⟨QY.eqlB rfl (by kernel_rfl) rfl rfl, Sure.of rfl⟩, ?_⟩ | fail)), LSt.nf ?_⟩
          conv => whnf
          refine S_Q [] rfl rfl (QY.neqB rfl (by kernel_rfl) rfl rfl) ?_
          refine S_done [] rfl (Nx.goL (L_ifp rfl (by first | exact bD | exact bE | exact bN | exact bNB | exact bEB | exact bNot bD | exact bNot bE | exact bNot bN | exact bNot bV | exact bV) (fun h => absurd rfl h) (fun _ => L_skip (Nx.goL ?_))))
          refine L_reg (S_Q [] rfl rfl (QY.add (c := ((i + 1 : Nat) : Int)) rfl rfl rfl (by omega) (by omega)) (S_done [] rfl ?_))
          exact Nx.pick [7, 8, 27, 28, 29] [0, 1, 2, 3] rfl rfl rfl ⟨n - (i + 1), by omega, i + 1, s.post f t a, G', postR m f t a, rfl, by omega, by omega, hr.post (by omega) (by omega) (by omega) a, rfl, rfl⟩
        · have hp : ¬ postB m f t := by rw [postB, hr.n]; exact hv
          have hP := Post_tr m (by omega) hN0 (by omega) f t a
          rw [decide_eq_false hp, postR, if_neg hp] at hP
          first | refine L_rs ?_ | refine L_reg ?_ | skip
          refine S_Ed [] rfl rfl (EWd.callP [1] (mPost_no s G f t a hv) rfl rfl (by decide) (by repeat' (first | exact trivial | refine ⟨rfl, ?_⟩ | fail)) rfl rfl) (disj_nil _) (nm_nilE _) (nm_nilT _) ?_
          rintro _ _ ⟨rfl, rfl⟩
          refine ⟨(by repeat' (first | exact trivial | refine ⟨⟨qsafe_ok (st := []) rfl, Sure.of rfl⟩, ?_⟩ | refine ⟨.inl rfl, ?_⟩ | refine ⟨.inr ⟨qsafe_ok (st := []) rfl, Sure.of rfl⟩, ?_⟩ | refine ⟨.inr ⟨QY.neqB rfl (by kernel_rfl) rfl rfl, Sure.of rfl⟩, ?_⟩ | refine ⟨.inr ⟨QY.eqlB rfl (by kernel_rfl) rfl rfl, Sure.of rfl⟩, ?_⟩ | fail)), ?_⟩
          first | refine L_rs ?_ | refine L_reg ?_ | skip
          refine S_Ed [] rfl rfl (EWd.callF [2, 3] (hP) rfl rfl (by decide) (by repeat' (first | exact trivial | refine ⟨rfl, ?_⟩ | fail)) rfl rfl rfl) rfl rfl rfl ?_
          rintro _ _ ⟨rfl, rfl⟩
          refine ⟨(by repeat' (first | exact trivial | refine ⟨⟨qsafe_ok (st := []) rfl, Sure.of rfl⟩, ?_⟩ | refine ⟨.inl rfl, ?_⟩ | refine ⟨.inr ⟨qsafe_ok (st := []) rfl, Sure.of rfl⟩, ?_⟩ | refine ⟨.inr ⟨QY.neqB rfl (by kernel_rfl) rfl rfl, Sure.of rfl⟩, ?_⟩ | refine ⟨.inr ⟨QY.eqlB rfl (by kernel_rfl) rfl rfl, Sure.of rfl⟩, ?_⟩ | fail)), LSt.nf ?_⟩
          conv => whnf
          refine S_Q [] rfl rfl (QY.neqB rfl (by kernel_rfl) rfl rfl) ?_
          refine S_done [] rfl (Nx.goL (L_ifp rfl (by first | exact bD | exact bE | exact bN | exact bNB | exact bEB | exact bNot bD | exact bNot bE | exact bNot bN | exact bNot bV | exact bV) (fun h => absurd rfl h) (fun _ => L_skip (Nx.goL ?_))))
          refine L_reg (S_Q [] rfl rfl (QY.add (c := ((i + 1 : Nat) : Int)) rfl rfl rfl (by omega) (by omega)) (S_done [] rfl ?_))
          exact Nx.pick [7, 8, 27, 28, 29] [0, 1, 2, 3] rfl rfl rfl ⟨n - (i + 1), by omega, i + 1, s, G, m, rfl, by omega, by omega, hr.mono (by omega), rfl, rfl⟩
      · by_cases hv : (0 ≤ f ∧ f < s.n) ∧ (0 ≤ t ∧ t < s.n) ∧ f ≠ t
        · obtain ⟨f, rfl⟩ := Int.eq_ofNat_of_zero_le hv.1.1
          obtain ⟨t, rfl⟩ := Int.eq_ofNat_of_zero_le hv.2.1.1
          have hp : postB m f t := by rw [postB, hr.n]; exact hv
          have hP := Post_tr m (by omega) hN0 (by omega) f t a
          rw [decide_eq_true hp] at hP
          first | refine L_rs ?_ | refine L_reg ?_ | skip
          refine S_Ed [] rfl rfl (EWd.call [1] (mPost_ok s hsm G f t a hv.1 hv.2.1 hv.2.2) rfl rfl (Part.of (by decide) (by repeat' (first | exact trivial | refine ⟨rfl, ?_⟩ | fail))) handed_nil rfl) rfl rfl rfl ?_
          rintro _ _ ⟨_, _, ⟨rfl, G', rfl⟩, rfl, rfl⟩
          refine ⟨(by repeat' (first | exact trivial | refine ⟨⟨qsafe_ok (st := []) rfl, Sure.of rfl⟩, ?_⟩ | refine ⟨.inl rfl, ?_⟩ | refine ⟨.inr ⟨qsafe_ok (st := []) rfl, Sure.of rfl⟩, ?_⟩ | refine ⟨.inr ⟨QY.neqB rfl (by kernel_rfl) rfl rfl, Sure.of rfl⟩, ?_⟩ | refine ⟨.inr ⟨QY.eqlB rfl (by kernel_rfl) rfl rfl, Sure.of rfl⟩, ?_⟩ | fail)), LSt.nf ?_⟩
          conv => whnf
          first | refine L_rs ?_ | refine L_reg ?_ | skip
          refine S_Ed [] rfl rfl (EWd.callF [2, 3] (hP) rfl rfl (by decide) (by repeat' (first | exact trivial | refine ⟨rfl, ?_⟩ | fail)) rfl rfl rfl) rfl rfl rfl ?_
          rintro _ _ ⟨rfl, rfl⟩
          refine ⟨(by repeat' (first | exact trivial | refine ⟨⟨qsafe_ok (st := []) rfl, Sure.of rfl⟩, ?_⟩ | refine ⟨.inl rfl, ?_⟩ | refine ⟨.inr ⟨qsafe_ok (st := []) rfl, Sure.of rfl⟩, ?_⟩ | refine ⟨.inr ⟨QY.neqB rfl (by kernel_rfl) rfl rfl, Sure.of rfl⟩, ?_⟩ | refine ⟨.inr ⟨QY.eqlB rfl (by kernel_rfl) rfl rfl, Sure.of rfl⟩, ?_⟩ | fail)), LSt.nf ?_⟩
          conv => whnf
          refine S_Q [] rfl rfl (QY.neqB rfl (by kernel_rfl) rfl rfl) ?_
          refine S_done [] rfl (Nx.goL (L_ifp rfl (by first | exact bD | exact bE | exact bN | exact bNB | exact bEB | exact bNot bD | exact bNot bE | exact bNot bN | exact bNot bV | exact bV) (fun h => absurd rfl h) (fun _ => L_skip (Nx.goL ?_))))
          refine L_reg (S_Q [] rfl rfl (QY.add (c := ((i + 1 : Nat) : Int)) rfl rfl rfl (by omega) (by omega)) (S_done [] rfl ?_))
          exact Nx.pick [7, 8, 27, 28, 29] [0, 1, 2, 3] rfl rfl rfl ⟨n - (i + 1), by omega, i + 1, s.post f t a, G', postR m f t a, rfl, by omega, by omega, hr.post (by omega) (by omega) (by omega) a, rfl, rfl⟩
        · have hp : ¬ postB m f t := by rw [postB, hr.n]; exact hv
          have hP := Post_tr m (by omega) hN0 (by omega) f t a
          rw [decide_eq_false hp, postR, if_neg hp] at hP
          first | refine L_rs ?_ | refine L_reg ?_ | skip
          refine S_Ed [] rfl rfl (EWd.callP [1] (mPost_no s G f t a hv) rfl rfl (by decide) (by repeat' (first | exact trivial | refine ⟨rfl, ?_⟩ | fail)) rfl rfl) (disj_nil _) (nm_nilE _) (nm_nilT _) ?_
          rintro _ _ ⟨rfl, rfl⟩
          refine ⟨(by repeat' (first | exact trivial | refine ⟨⟨qsafe_ok (st := []) rfl, Sure.of rfl⟩, ?_⟩ | refine ⟨.inl rfl, ?_⟩ | refine ⟨.inr ⟨qsafe_ok (st := []) rfl, Sure.of rfl⟩, ?_⟩ | refine ⟨.inr ⟨QY.neqB rfl (by kernel_rfl) rfl rfl, Sure.of rfl⟩, ?_⟩ | refine ⟨.inr ⟨QY.eqlB rfl (by kernel_rfl) rfl rfl, Sure.of rfl⟩, ?_⟩ | fail)), ?_⟩
          first | refine L_rs ?_ | refine L_reg ?_ | skip
          refine S_Ed [] rfl rfl (EWd.callF [2, 3] (hP) rfl rfl (by decide) (by repeat' (first | exact trivial | refine ⟨rfl, ?_⟩ | fail)) rfl rfl rfl) rfl rfl rfl ?_
          rintro _ _ ⟨rfl, rfl⟩
          refine ⟨(by repeat' (first | exact trivial | refine ⟨⟨qsafe_ok (st := []) rfl, Sure.of rfl⟩, ?_⟩ | refine ⟨.inl rfl, ?_⟩ | refine ⟨.inr ⟨qsafe_ok (st := []) rfl, Sure.of rfl⟩, ?_⟩ | refine ⟨.inr ⟨QY.neqB rfl (by kernel_rfl) rfl rfl, Sure.of rfl⟩, ?_⟩ | refine ⟨.inr ⟨QY.eqlB rfl (by kernel_rfl) rfl rfl, Sure.of rfl⟩, ?_⟩ | fail)), LSt.nf ?_⟩
          conv => whnf
          refine S_Q [] rfl rfl (QY.neqB rfl (by kernel_rfl) rfl rfl) ?_
          refine S_done [] rfl (Nx.goL (L_ifp rfl (by first | exact bD | exact bE | exact bN | exact bNB | exact bEB | exact bNot bD | exact bNot bE | exact bNot bN | exact bNot bV | exact bV) (fun h => absurd rfl h) (fun _ => L_skip (Nx.goL ?_))))
          refine L_reg (S_Q [] rfl rfl (QY.add (c := ((i + 1 : Nat) : Int)) rfl rfl rfl (by omega) (by omega)) (S_done [] rfl ?_))
          exact Nx.pick [7, 8, 27, 28, 29] [0, 1, 2, 3] rfl rfl rfl ⟨n - (i + 1), by omega, i + 1, s, G, m, rfl, by omega, by omega, hr.mono (by omega), rfl, rfl⟩
      · by_cases hv : (0 ≤ f ∧ f < s.n) ∧ (0 ≤ t ∧ t < s.n) ∧ f ≠ t
        · obtain ⟨f, rfl⟩ := Int.eq_ofNat_of_zero_le hv.1.1
          obtain ⟨t, rfl⟩ := Int.eq_ofNat_of_zero_le hv.2.1.1
          have hp : postB m f t := by rw [postB, hr.n]; exact hv
          have hP := Post_tr m (by omega) hN0 (by omega) f t a
          rw [decide_eq_true hp] at hP
          first | refine L_rs ?_ | refine L_reg ?_ | skip
          refine S_Ed [] rfl rfl (EWd.call [1] (mPost_ok s hsm G f t a hv.1 hv.2.1 hv.2.2) rfl rfl (Part.of (by decide) (by repeat' (first | exact trivial | refine ⟨rfl, ?_⟩ | fail))) handed_nil rfl) rfl rfl rfl ?_
          rintro _ _ ⟨_, _, ⟨rfl, G', rfl⟩, rfl, rfl⟩
          refine ⟨(by repeat' (first | exact trivial | refine ⟨⟨qsafe_ok (st := []) rfl, Sure.of rfl⟩, ?_⟩ | refine ⟨.inl rfl, ?_⟩ | refine ⟨.inr ⟨qsafe_ok (st := []) rfl, Sure.of rfl⟩, ?_⟩ | refine ⟨.inr ⟨QY.neqB rfl (by kernel_rfl) rfl rfl, Sure.of rfl⟩, ?_⟩ | refine ⟨.inr ⟨QY.eqlB rfl (by kernel_rfl) rfl rfl, Sure.of rfl⟩, ?_⟩ | fail)), LSt.nf ?_⟩
          conv => whnf
          first | refine L_rs ?_ | refine L_reg ?_ | skip
          refine S_Ed [] rfl rfl (EWd.callF [2, 3] (hP) rfl rfl (by decide) (by repeat' (first | exact trivial | refine ⟨rfl, ?_⟩ | fail)) rfl rfl rfl) rfl rfl rfl ?_
          rintro _ _ ⟨rfl, rfl⟩
          refine ⟨(by repeat' (first | exact trivial | refine ⟨⟨qsafe_ok (st := []) rfl, Sure.of rfl⟩, ?_⟩ | refine ⟨.inl rfl, ?_⟩ | refine ⟨.inr ⟨qsafe_ok (st := []) rfl, Sure.of rfl⟩, ?_⟩ | refine ⟨.inr ⟨QY.neqB rfl (by kernel_rfl) rfl rfl, Sure.of rfl⟩, ?_⟩ | refine ⟨.inr ⟨QY.eqlB rfl (by kernel_rfl) rfl rfl, Sure.of rfl⟩, ?_⟩ | fail)), LSt.nf ?_⟩
          conv => whnf
          refine S_Q [] rfl rfl (QY.neqB rfl (by kernel_rfl) rfl rfl) ?_
          refine S_done [] rfl (Nx.goL (L_ifp rfl (by first | exact bD | exact bE | exact bN | exact bNB | exact bEB | exact bNot bD | exact bNot bE | exact bNot bN | exact bNot bV | exact bV) (fun h => absurd rfl h) (fun _ => L_skip (Nx.goL ?_))))
          refine L_reg (S_Q [] rfl rfl (QY.add (c := ((i + 1 : Nat) : Int)) rfl rfl rfl (by omega) (by omega)) (S_done [] rfl ?_))
          exact Nx.pick [7, 8, 27, 28, 29] [0, 1, 2, 3] rfl rfl rfl ⟨n - (i + 1), by omega, i + 1, s.post f t a, G', postR m f t a, rfl, by omega, by omega, hr.post (by omega) (by omega) (by omega) a, rfl, rfl⟩
        · have hp : ¬ postB m f t := by rw [postB, hr.n]; exact hv
          have hP := Post_tr m (by omega) hN0 (by omega) f t a
          rw [decide_eq_false hp, postR, if_neg hp] at hP
          first | refine L_rs ?_ | refine L_reg ?_ | skip
          refine S_Ed [] rfl rfl (EWd.callP [1] (mPost_no s G f t a hv) rfl rfl (by decide) (by repeat' (first | exact trivial | refine ⟨rfl, ?_⟩ | fail)) rfl rfl) (disj_nil _) (nm_nilE _) (nm_nilT _) ?_
          rintro _ _ ⟨rfl, rfl⟩
          refine ⟨(by repeat' (first | exact trivial | refine ⟨⟨qsafe_ok (st := []) rfl, Sure.of rfl⟩, ?_⟩ | refine ⟨.inl rfl, ?_⟩ | refine ⟨.inr ⟨qsafe_ok (st := []) rfl, Sure.of rfl⟩, ?_⟩ | refine ⟨.inr ⟨QY.neqB rfl (by kernel_rfl) rfl rfl, Sure.of rfl⟩, ?_⟩ | refine ⟨.inr ⟨QY.eqlB rfl (by kernel_rfl) rfl rfl, Sure.of rfl⟩, ?_⟩ | fail)), ?_⟩
          first | refine L_rs ?_ | refine L_reg ?_ | skip
          refine S_Ed [] rfl rfl (EWd.callF [2, 3] (hP) rfl rfl (by decide) (by repeat' (first | exact trivial | refine ⟨rfl, ?_⟩ | fail)) rfl rfl rfl) rfl rfl rfl ?_
          rintro _ _ ⟨rfl, rfl⟩
          refine ⟨(by repeat' (first | exact trivial | refine ⟨⟨qsafe_ok (st := []) rfl, Sure.of rfl⟩, ?_⟩ | refine ⟨.inl rfl, ?_⟩ | refine ⟨.inr ⟨qsafe_ok (st := []) rfl, Sure.of rfl⟩, ?_⟩ | refine ⟨.inr ⟨QY.neqB rfl (by kernel_rfl) rfl rfl, Sure.of rfl⟩, ?_⟩ | refine ⟨.inr ⟨QY.eqlB rfl (by kernel_rfl) rfl rfl, Sure.of rfl⟩, ?_⟩ | fail)), LSt.nf ?_⟩
          conv => whnf
          refine S_Q [] rfl rfl (QY.neqB rfl (by kernel_rfl) rfl rfl) ?_
          refine S_done [] rfl (Nx.goL (L_ifp rfl (by first | exact bD | exact bE | exact bN | exact bNB | exact bEB | exact bNot bD | exact bNot bE | exact bNot bN | exact bNot bV | exact bV) (fun h => absurd rfl h) (fun _ => L_skip (Nx.goL ?_))))
          refine L_reg (S_Q [] rfl rfl (QY.add (c := ((i + 1 : Nat) : Int)) rfl rfl rfl (by omega) (by omega)) (S_done [] rfl ?_))
          exact Nx.pick [7, 8, 27, 28, 29] [0, 1, 2, 3] rfl rfl rfl ⟨n - (i + 1), by omega, i + 1, s, G, m, rfl, by omega, by omega, hr.mono (by omega), rfl, rfl⟩
      · by_cases hv : (0 ≤ f ∧ f < s.n) ∧ (0 ≤ t ∧ t < s.n) ∧ f ≠ t
        · obtain ⟨f, rfl⟩ := Int.eq_ofNat_of_zero_le hv.1.1
          obtain ⟨t, rfl⟩ := Int.eq_ofNat_of_zero_le hv.2.1.1
          have hp : postB m f t := by rw [postB, hr.n]; exact hv
          have hP := Post_tr m (by omega) hN0 (by omega) f t a
          rw [decide_eq_true hp] at hP
          first | refine L_rs ?_ | refine L_reg ?_ | skip
          refine S_Ed [] rfl rfl (EWd.call [1] (mPost_ok s hsm G f t a hv.1 hv.2.1 hv.2.2) rfl rfl (Part.of (by decide) (by repeat' (first | exact trivial | refine ⟨rfl, ?_⟩ | fail))) handed_nil rfl) rfl rfl rfl ?_
          rintro _ _ ⟨_, _, ⟨rfl, G', rfl⟩, rfl, rfl⟩
          refine ⟨(by repeat' (first | exact trivial | refine ⟨⟨qsafe_ok (st := []) rfl, Sure.of rfl⟩, ?_⟩ | refine ⟨.inl rfl, ?_⟩ | refine ⟨.inr ⟨qsafe_ok (st := []) rfl, Sure.of rfl⟩, ?_⟩ | refine ⟨.inr ⟨QY.neqB rfl (by kernel_rfl) rfl rfl, Sure.of rfl⟩, ?_⟩ | refine ⟨.inr ⟨QY.eqlB rfl (by kernel_rfl) rfl rfl, Sure.of rfl⟩, ?_⟩ | fail)), LSt.nf ?_⟩
          conv => whnf
          first | refine L_rs ?_ | refine L_reg ?_ | skip
          refine S_Ed [] rfl rfl (EWd.callF [2, 3] (hP) rfl rfl (by decide) (by repeat' (first | exact trivial | refine ⟨rfl, ?_⟩ | fail)) rfl rfl rfl) rfl rfl rfl ?_
          rintro _ _ ⟨rfl, rfl⟩
          refine ⟨(by repeat' (first | exact trivial | refine ⟨⟨qsafe_ok (st := []) rfl, Sure.of rfl⟩, ?_⟩ | refine ⟨.inl rfl, ?_⟩ | refine ⟨.inr ⟨qsafe_ok (st := []) rfl, Sure.of rfl⟩, ?_⟩ | refine ⟨.inr ⟨QY.neqB rfl (by kernel_rfl) rfl rfl, Sure.of rfl⟩, ?_⟩ | refine ⟨.inr ⟨QY.eqlB rfl (by kernel_rfl) rfl rfl, Sure.of rfl⟩, ?_⟩ | fail)), LSt.nf ?_⟩
          conv => whnf
          refine S_Q [] rfl rfl (QY.neqB rfl (by kernel_rfl) rfl rfl) ?_
          refine S_done [] rfl (Nx.goL (L_ifp rfl (by first | exact bD | exact bE | exact bN | exact bNB | exact bEB | exact bNot bD | exact bNot bE | exact bNot bN | exact bNot bV | exact bV) (fun h => absurd rfl h) (fun _ => L_skip (Nx.goL ?_))))
          refine L_reg (S_Q [] rfl rfl (QY.add (c := ((i + 1 : Nat) : Int)) rfl rfl rfl (by omega) (by omega)) (S_done [] rfl ?_))
          exact Nx.pick [7, 8, 27, 28, 29] [0, 1, 2, 3] rfl rfl rfl ⟨n - (i + 1), by omega, i + 1, s.post f t a, G', postR m f t a, rfl, by omega, by omega, hr.post (by omega) (by omega) (by omega) a, rfl, rfl⟩
        · have hp : ¬ postB m f t := by rw [postB, hr.n]; exact hv
          have hP := Post_tr m (by omega) hN0 (by omega) f t a
          rw [decide_eq_false hp, postR, if_neg hp] at hP
          first | refine L_rs ?_ | refine L_reg ?_ | skip
          refine S_Ed [] rfl rfl (EWd.callP [1] (mPost_no s G f t a hv) rfl rfl (by decide) (by repeat' (first | exact trivial | refine ⟨rfl, ?_⟩ | fail)) rfl rfl) (disj_nil _) (nm_nilE _) (nm_nilT _) ?_
          rintro _ _ ⟨rfl, rfl⟩
          refine ⟨(by repeat' (first | exact trivial | refine ⟨⟨qsafe_ok (st := []) rfl, Sure.of rfl⟩, ?_⟩ | refine ⟨.inl rfl, ?_⟩ | refine ⟨.inr ⟨qsafe_ok (st := []) rfl, Sure.of rfl⟩, ?_⟩ | refine ⟨.inr ⟨QY.neqB rfl (by kernel_rfl) rfl rfl, Sure.of rfl⟩, ?_⟩ | refine ⟨.inr ⟨QY.eqlB rfl (by kernel_rfl) rfl rfl, Sure.of rfl⟩, ?_⟩ | fail)), ?_⟩
          first | refine L_rs ?_ | refine L_reg ?_ | skip
          refine S_Ed [] rfl rfl (EWd.callF [2, 3] (hP) rfl rfl (by decide) (by repeat' (first | exact trivial | refine ⟨rfl, ?_⟩ | fail)) rfl rfl rfl) rfl rfl rfl ?_
          rintro _ _ ⟨rfl, rfl⟩
          refine ⟨(by repeat' (first | exact trivial | refine ⟨⟨qsafe_ok (st := []) rfl, Sure.of rfl⟩, ?_⟩ | refine ⟨.inl rfl, ?_⟩ | refine ⟨.inr ⟨qsafe_ok (st := []) rfl, Sure.of rfl⟩, ?_⟩ | refine ⟨.inr ⟨QY.neqB rfl (by kernel_rfl) rfl rfl, Sure.of rfl⟩, ?_⟩ | refine ⟨.inr ⟨QY.eqlB rfl (by kernel_rfl) rfl rfl, Sure.of rfl⟩, ?_⟩ | fail)), LSt.nf ?_⟩
          conv => whnf
          refine S_Q [] rfl rfl (QY.neqB rfl (by kernel_rfl) rfl rfl) ?_
          refine S_done [] rfl (Nx.goL (L_ifp rfl (by first | exact bD | exact bE | exact bN | exact bNB | exact bEB | exact bNot bD | exact bNot bE | exact bNot bN | exact bNot bV | exact bV) (fun h => absurd rfl h) (fun _ => L_skip (Nx.goL ?_))))
          refine L_reg (S_Q [] rfl rfl (QY.add (c := ((i + 1 : Nat) : Int)) rfl rfl rfl (by omega) (by omega)) (S_done [] rfl ?_))
          exact Nx.pick [7, 8, 27, 28, 29] [0, 1, 2, 3] rfl rfl rfl ⟨n - (i + 1), by omega, i + 1, s, G, m, rfl, by omega, by omega, hr.mono (by omega), rfl, rfl⟩
      · by_cases hv : 0 ≤ f ∧ f < s.n
        · obtain ⟨f, rfl⟩ := Int.eq_ofNat_of_zero_le hv.1
          have hS := Send_tr m s.n hr.n hr.n64 (by omega) hN0 (by omega) f
          obtain ⟨hs1, hs2⟩ := hr.send (f := f) (by omega) s.n (Nat.le_refl _)
          rw [hs2] at hS
          first | refine L_rs ?_ | refine L_reg ?_ | skip
          refine S_Ed [] rfl rfl (EWd.call [1] (mSend_ok s hsm G f hv) rfl rfl (Part.of (by decide) (by repeat' (first | exact trivial | refine ⟨rfl, ?_⟩ | fail))) handed_nil rfl) rfl rfl rfl ?_
          rintro _ _ ⟨_, _, ⟨rfl, G', rfl⟩, rfl, rfl⟩
          refine ⟨(by repeat' (first | exact trivial | refine ⟨⟨qsafe_ok (st := []) rfl, Sure.of rfl⟩, ?_⟩ | refine ⟨.inl rfl, ?_⟩ | refine ⟨.inr ⟨qsafe_ok (st := []) rfl, Sure.of rfl⟩, ?_⟩ | refine ⟨.inr ⟨QY.neqB rfl (by kernel_rfl) rfl rfl, Sure.of rfl⟩, ?_⟩ | refine ⟨.inr ⟨QY.eqlB rfl (by kernel_rfl) rfl rfl, Sure.of rfl⟩, ?_⟩ | fail)), LSt.nf ?_⟩
          conv => whnf
          first | refine L_rs ?_ | refine L_reg ?_ | skip
          refine S_Ed [] rfl rfl (EWd.callF [2, 3] (hS) rfl rfl (by decide) (by repeat' (first | exact trivial | refine ⟨rfl, ?_⟩ | fail)) rfl rfl rfl) rfl rfl rfl ?_
          rintro _ _ ⟨rfl, rfl⟩
          refine ⟨(by repeat' (first | exact trivial | refine ⟨⟨qsafe_ok (st := []) rfl, Sure.of rfl⟩, ?_⟩ | refine ⟨.inl rfl, ?_⟩ | refine ⟨.inr ⟨qsafe_ok (st := []) rfl, Sure.of rfl⟩, ?_⟩ | refine ⟨.inr ⟨QY.neqB rfl (by kernel_rfl) rfl rfl, Sure.of rfl⟩, ?_⟩ | refine ⟨.inr ⟨QY.eqlB rfl (by kernel_rfl) rfl rfl, Sure.of rfl⟩, ?_⟩ | fail)), LSt.nf ?_⟩
          conv => whnf
          refine S_done [] rfl (Nx.goL (L_ifp rfl (by first | exact bD | exact bE | exact bN | exact bNB | exact bEB | exact bNot bD | exact bNot bE | exact bNot bN | exact bNot bV | exact bV) (fun h => absurd rfl h) (fun _ => L_skip (Nx.goL ?_))))
          refine L_reg (S_Q [] rfl rfl (QY.add (c := ((i + 1 : Nat) : Int)) rfl rfl rfl (by omega) (by omega)) (S_done [] rfl ?_))
          exact Nx.pick [7, 8, 27, 28, 29] [0, 1, 2, 3] rfl rfl rfl ⟨n - (i + 1), by omega, i + 1, s.sendTo f s.n, G', sendR m f s.n, rfl, by omega, by omega, hs1.mono (by omega), rfl, rfl⟩
        · have hS := Send_tr m s.n hr.n hr.n64 (by omega) hN0 (by omega) f
          obtain ⟨hs1, hs2⟩ := send_none (m := m) (f := f) (fun x hx e => hv (by have := (hr.inn x hx).1; omega)) s.n
          rw [hs1, hs2] at hS
          first | refine L_rs ?_ | refine L_reg ?_ | skip
          refine S_Ed [] rfl rfl (EWd.callP [1] (mSend_no s G f hv) rfl rfl (by decide) (by repeat' (first | exact trivial | refine ⟨rfl, ?_⟩ | fail)) rfl rfl) (disj_nil _) (nm_nilE _) (nm_nilT _) ?_
          rintro _ _ ⟨rfl, rfl⟩
          refine ⟨(by repeat' (first | exact trivial | refine ⟨⟨qsafe_ok (st := []) rfl, Sure.of rfl⟩, ?_⟩ | refine ⟨.inl rfl, ?_⟩ | refine ⟨.inr ⟨qsafe_ok (st := []) rfl, Sure.of rfl⟩, ?_⟩ | refine ⟨.inr ⟨QY.neqB rfl (by kernel_rfl) rfl rfl, Sure.of rfl⟩, ?_⟩ | refine ⟨.inr ⟨QY.eqlB rfl (by kernel_rfl) rfl rfl, Sure.of rfl⟩, ?_⟩ | fail)), ?_⟩
          first | refine L_rs ?_ | refine L_reg ?_ | skip
          refine S_Ed [] rfl rfl (EWd.callF [2, 3] (hS) rfl rfl (by decide) (by repeat' (first | exact trivial | refine ⟨rfl, ?_⟩ | fail)) rfl rfl rfl) rfl rfl rfl ?_
          rintro _ _ ⟨rfl, rfl⟩
          refine ⟨(by repeat' (first | exact trivial | refine ⟨⟨qsafe_ok (st := []) rfl, Sure.of rfl⟩, ?_⟩ | refine ⟨.inl rfl, ?_⟩ | refine ⟨.inr ⟨qsafe_ok (st := []) rfl, Sure.of rfl⟩, ?_⟩ | refine ⟨.inr ⟨QY.neqB rfl (by kernel_rfl) rfl rfl, Sure.of rfl⟩, ?_⟩ | refine ⟨.inr ⟨QY.eqlB rfl (by kernel_rfl) rfl rfl, Sure.of rfl⟩, ?_⟩ | fail)), LSt.nf ?_⟩
          conv => whnf
          refine S_done [] rfl (Nx.goL (L_ifp rfl (by first | exact bD | exact bE | exact bN | exact bNB | exact bEB | exact bNot bD | exact bNot bE | exact bNot bN | exact bNot bV | exact bV) (fun h => absurd rfl h) (fun _ => L_skip (Nx.goL ?_))))
          refine L_reg (S_Q [] rfl rfl (QY.add (c := ((i + 1 : Nat) : Int)) rfl rfl rfl (by omega) (by omega)) (S_done [] rfl ?_))
          exact Nx.pick [7, 8, 27, 28, 29] [0, 1, 2, 3] rfl rfl rfl ⟨n - (i + 1), by omega, i + 1, s, G, m, rfl, by omega, by omega, hr.mono (by omega), rfl, rfl⟩
      · have hX := Next_tr m (by omega) t
        by_cases hv : fstAt t m.l m.l.length < 0
        · have hz : s.waits t = 0 := by
            unfold Mail.waits
            split
            · rename_i hc
              obtain ⟨t, rfl⟩ := Int.eq_ofNat_of_zero_le hc.1
              rw [Int.toNat_natCast, hr.none (by omega) hv]; rfl
            · rfl
          rw [nextA, nextR, if_pos hv, if_pos hv, decide_eq_false (Classical.not_not.2 hv)] at hX
          first | refine L_rs ?_ | refine L_reg ?_ | skip
          refine S_Ed [] rfl rfl (EWd.callP [1] (mNext_none s G t hz) rfl rfl (by decide) (by repeat' (first | exact trivial | refine ⟨rfl, ?_⟩ | fail)) rfl rfl) (disj_nil _) (nm_nilE _) (nm_nilT _) ?_
          rintro _ _ ⟨rfl, rfl⟩
          refine ⟨(by repeat' (first | exact trivial | refine ⟨⟨qsafe_ok (st := []) rfl, Sure.of rfl⟩, ?_⟩ | refine ⟨.inl rfl, ?_⟩ | refine ⟨.inr ⟨qsafe_ok (st := []) rfl, Sure.of rfl⟩, ?_⟩ | refine ⟨.inr ⟨QY.neqB rfl (by kernel_rfl) rfl rfl, Sure.of rfl⟩, ?_⟩ | refine ⟨.inr ⟨QY.eqlB rfl (by kernel_rfl) rfl rfl, Sure.of rfl⟩, ?_⟩ | fail)), ?_⟩
          refine S_done [] rfl (Nx.goL ?_)
          first | refine LSt.drop [7, 8, 10, 11, 12, 27, 28, 29] (LSt.nf ?_) | refine LWp.drop [7, 8, 10, 11, 12, 27, 28, 29] (LWp.nf ?_)
          conv => whnf
          first | refine L_rs ?_ | refine L_reg ?_ | skip
          refine S_Ed [] rfl rfl (EWd.callF [2, 3] (hX) rfl rfl (by decide) (by repeat' (first | exact trivial | refine ⟨rfl, ?_⟩ | fail)) rfl rfl rfl) rfl rfl rfl ?_
          rintro _ _ ⟨rfl, rfl⟩
          refine ⟨(by repeat' (first | exact trivial | refine ⟨⟨qsafe_ok (st := []) rfl, Sure.of rfl⟩, ?_⟩ | refine ⟨.inl rfl, ?_⟩ | refine ⟨.inr ⟨qsafe_ok (st := []) rfl, Sure.of rfl⟩, ?_⟩ | refine ⟨.inr ⟨QY.neqB rfl (by kernel_rfl) rfl rfl, Sure.of rfl⟩, ?_⟩ | refine ⟨.inr ⟨QY.eqlB rfl (by kernel_rfl) rfl rfl, Sure.of rfl⟩, ?_⟩ | fail)), LSt.nf ?_⟩
          conv => whnf
          refine S_done [] rfl (Nx.goL ?_)
          refine L_rs (S_splitF 92 rfl rfl rfl (by simp) (S_Q [] rfl rfl (QY.neqB rfl (by kernel_rfl) rfl rfl) ?_))
          refine S_done [] rfl (Nx.goL (L_ifp rfl (by first | exact bD | exact bE | exact bN | exact bNB | exact bEB | exact bNot bD | exact bNot bE | exact bNot bN | exact bNot bV | exact bV) (fun h => absurd rfl h) (fun _ => L_skip (Nx.goL ?_))))
          refine L_reg (S_Q [] rfl rfl (QY.add (c := ((i + 1 : Nat) : Int)) rfl rfl rfl (by omega) (by omega)) (S_done [] rfl ?_))
          exact Nx.pick [7, 8, 27, 28, 29] [0, 1, 2, 3] rfl rfl rfl ⟨n - (i + 1), by omega, i + 1, s, G, m, rfl, by omega, by omega, hr.mono (by omega), rfl, rfl⟩
        · obtain ⟨u, rfl, hu⟩ : ∃ u : Nat, t = u ∧ u < s.n := by
            rcases fst_spec t m.l m.l.length (Nat.le_refl _) with ⟨h1, _⟩ | ⟨k, y, _, _, h3, h4, _⟩
            · omega
            · have := (hr.inn y (List.mem_of_getElem? h3)).2
              exact ⟨t.toNat, by omega, by omega⟩
          obtain ⟨hrow, hnx⟩ := hr.next hu hv
          rw [decide_eq_true hv] at hX
          first | refine L_rs ?_ | refine L_reg ?_ | skip
          refine S_Ed [] rfl rfl (EWd.call [1] (mNext_ok s G u (nextA m u) ⟨by omega, by omega⟩ (by rw [Int.toNat_natCast]; exact hrow)) rfl rfl (Part.of (by decide) (by repeat' (first | exact trivial | refine ⟨rfl, ?_⟩ | fail))) handed_nil rfl) rfl rfl rfl ?_
          rintro _ _ ⟨_, _, ⟨rfl, G', rfl⟩, rfl, rfl⟩
          refine ⟨(by repeat' (first | exact trivial | refine ⟨⟨qsafe_ok (st := []) rfl, Sure.of rfl⟩, ?_⟩ | refine ⟨.inl rfl, ?_⟩ | refine ⟨.inr ⟨qsafe_ok (st := []) rfl, Sure.of rfl⟩, ?_⟩ | refine ⟨.inr ⟨QY.neqB rfl (by kernel_rfl) rfl rfl, Sure.of rfl⟩, ?_⟩ | refine ⟨.inr ⟨QY.eqlB rfl (by kernel_rfl) rfl rfl, Sure.of rfl⟩, ?_⟩ | fail)), LSt.nf ?_⟩
          conv => whnf
          refine S_done [] rfl (Nx.goL ?_)
          first | refine LSt.drop [7, 8, 10, 11, 12, 27, 28, 29] (LSt.nf ?_) | refine LWp.drop [7, 8, 10, 11, 12, 27, 28, 29] (LWp.nf ?_)
          conv => whnf
          first | refine L_rs ?_ | refine L_reg ?_ | skip
          refine S_Ed [] rfl rfl (EWd.callF [2, 3] (hX) rfl rfl (by decide) (by repeat' (first | exact trivial | refine ⟨rfl, ?_⟩ | fail)) rfl rfl rfl) rfl rfl rfl ?_
          rintro _ _ ⟨rfl, rfl⟩
          refine ⟨(by repeat' (first | exact trivial | refine ⟨⟨qsafe_ok (st := []) rfl, Sure.of rfl⟩, ?_⟩ | refine ⟨.inl rfl, ?_⟩ | refine ⟨.inr ⟨qsafe_ok (st := []) rfl, Sure.of rfl⟩, ?_⟩ | refine ⟨.inr ⟨QY.neqB rfl (by kernel_rfl) rfl rfl, Sure.of rfl⟩, ?_⟩ | refine ⟨.inr ⟨QY.eqlB rfl (by kernel_rfl) rfl rfl, Sure.of rfl⟩, ?_⟩ | fail)), LSt.nf ?_⟩
          conv => whnf
          refine S_done [] rfl (Nx.goL ?_)
          refine L_rs (S_splitF 92 rfl rfl rfl (by simp) (S_Q [] rfl rfl (QY.neqB rfl (by kernel_rfl) rfl rfl) ?_))
          refine S_done [] rfl (Nx.goL (L_ifp rfl (by first | exact bD | exact bE | exact bN | exact bNB | exact bEB | exact bNot bD | exact bNot bE | exact bNot bN | exact bNot bV | exact bV) (fun h => absurd rfl h) (fun _ => L_skip (Nx.goL ?_))))
          refine L_reg (S_Q [] rfl rfl (QY.add (c := ((i + 1 : Nat) : Int)) rfl rfl rfl (by omega) (by omega)) (S_done [] rfl ?_))
          exact Nx.pick [7, 8, 27, 28, 29] [0, 1, 2, 3] rfl rfl rfl ⟨n - (i + 1), by omega, i + 1, s.next u, G', nextR m u, rfl, by omega, by omega, hnx.mono (by omega), rfl, rfl⟩
      · have hX := Next_tr m (by omega) t
        by_cases hv : fstAt t m.l m.l.length < 0
        · have hz : s.waits t = 0 := by
            unfold Mail.waits
            split
            · rename_i hc
              obtain ⟨t, rfl⟩ := Int.eq_ofNat_of_zero_le hc.1
              rw [Int.toNat_natCast, hr.none (by omega) hv]; rfl
            · rfl
          rw [nextA, nextR, if_pos hv, if_pos hv, decide_eq_false (Classical.not_not.2 hv)] at hX
          first | refine L_rs ?_ | refine L_reg ?_ | skip
          refine S_Ed [] rfl rfl (EWd.callP [1] (mNext_none s G t hz) rfl rfl (by decide) (by repeat' (first | exact trivial | refine ⟨rfl, ?_⟩ | fail)) rfl rfl) (disj_nil _) (nm_nilE _) (nm_nilT _) ?_
          rintro _ _ ⟨rfl, rfl⟩
          refine ⟨(by repeat' (first | exact trivial | refine ⟨⟨qsafe_ok (st := []) rfl, Sure.of rfl⟩, ?_⟩ | refine ⟨.inl rfl, ?_⟩ | refine ⟨.inr ⟨qsafe_ok (st := []) rfl, Sure.of rfl⟩, ?_⟩ | refine ⟨.inr ⟨QY.neqB rfl (by kernel_rfl) rfl rfl, Sure.of rfl⟩, ?_⟩ | refine ⟨.inr ⟨QY.eqlB rfl (by kernel_rfl) rfl rfl, Sure.of rfl⟩, ?_⟩ | fail)), ?_⟩
          refine S_done [] rfl (Nx.goL ?_)
          first | refine LSt.drop [7, 8, 10, 11, 12, 27, 28, 29] (LSt.nf ?_) | refine LWp.drop [7, 8, 10, 11, 12, 27, 28, 29] (LWp.nf ?_)
          conv => whnf
          first | refine L_rs ?_ | refine L_reg ?_ | skip
          refine S_Ed [] rfl rfl (EWd.callF [2, 3] (hX) rfl rfl (by decide) (by repeat' (first | exact trivial | refine ⟨rfl, ?_⟩ | fail)) rfl rfl rfl) rfl rfl rfl ?_
          rintro _ _ ⟨rfl, rfl⟩
          refine ⟨(by repeat' (first | exact trivial | refine ⟨⟨qsafe_ok (st := []) rfl, Sure.of rfl⟩, ?_⟩ | refine ⟨.inl rfl, ?_⟩ | refine ⟨.inr ⟨qsafe_ok (st := []) rfl, Sure.of rfl⟩, ?_⟩ | refine ⟨.inr ⟨QY.neqB rfl (by kernel_rfl) rfl rfl, Sure.of rfl⟩, ?_⟩ | refine ⟨.inr ⟨QY.eqlB rfl (by kernel_rfl) rfl rfl, Sure.of rfl⟩, ?_⟩ | fail)), LSt.nf ?_⟩
          conv => whnf
          refine S_done [] rfl (Nx.goL ?_)
          refine L_rs (S_splitF 92 rfl rfl rfl (by simp) (S_Q [] rfl rfl (QY.neqB rfl (by kernel_rfl) rfl rfl) ?_))
          refine S_done [] rfl (Nx.goL (L_ifp rfl (by first | exact bD | exact bE | exact bN | exact bNB | exact bEB | exact bNot bD | exact bNot bE | exact bNot bN | exact bNot bV | exact bV) (fun h => absurd rfl h) (fun _ => L_skip (Nx.goL ?_))))
          refine L_reg (S_Q [] rfl rfl (QY.add (c := ((i + 1 : Nat) : Int)) rfl rfl rfl (by omega) (by omega)) (S_done [] rfl ?_))
          exact Nx.pick [7, 8, 27, 28, 29] [0, 1, 2, 3] rfl rfl rfl ⟨n - (i + 1), by omega, i + 1, s, G, m, rfl, by omega, by omega, hr.mono (by omega), rfl, rfl⟩
        · obtain ⟨u, rfl, hu⟩ : ∃ u : Nat, t = u ∧ u < s.n := by
            rcases fst_spec t m.l m.l.length (Nat.le_refl _) with ⟨h1, _⟩ | ⟨k, y, _, _, h3, h4, _⟩
            · omega
            · have := (hr.inn y (List.mem_of_getElem? h3)).2
              exact ⟨t.toNat, by omega, by omega⟩
          obtain ⟨hrow, hnx⟩ := hr.next hu hv
          rw [decide_eq_true hv] at hX
          first | refine L_rs ?_ | refine L_reg ?_ | skip
          refine S_Ed [] rfl rfl (EWd.call [1] (mNext_ok s G u (nextA m u) ⟨by omega, by omega⟩ (by rw [Int.toNat_natCast]; exact hrow)) rfl rfl (Part.of (by decide) (by repeat' (first | exact trivial | refine ⟨rfl, ?_⟩ | fail))) handed_nil rfl) rfl rfl rfl ?_
          rintro _ _ ⟨_, _, ⟨rfl, G', rfl⟩, rfl, rfl⟩
          refine ⟨(by repeat' (first | exact trivial | refine ⟨⟨qsafe_ok (st := []) rfl, Sure.of rfl⟩, ?_⟩ | refine ⟨.inl rfl, ?_⟩ | refine ⟨.inr ⟨qsafe_ok (st := []) rfl, Sure.of rfl⟩, ?_⟩ | refine ⟨.inr ⟨QY.neqB rfl (by kernel_rfl) rfl rfl, Sure.of rfl⟩, ?_⟩ | refine ⟨.inr ⟨QY.eqlB rfl (by kernel_rfl) rfl rfl, Sure.of rfl⟩, ?_⟩ | fail)), LSt.nf ?_⟩
          conv => whnf
          refine S_done [] rfl (Nx.goL ?_)
          first | refine LSt.drop [7, 8, 10, 11, 12, 27, 28, 29] (LSt.nf ?_) | refine LWp.drop [7, 8, 10, 11, 12, 27, 28, 29] (LWp.nf ?_)
          conv => whnf
          first | refine L_rs ?_ | refine L_reg ?_ | skip
          refine S_Ed [] rfl rfl (EWd.callF [2, 3] (hX) rfl rfl (by decide) (by repeat' (first | exact trivial | refine ⟨rfl, ?_⟩ | fail)) rfl rfl rfl) rfl rfl rfl ?_
          rintro _ _ ⟨rfl, rfl⟩
          refine ⟨(by repeat' (first | exact trivial | refine ⟨⟨qsafe_ok (st := []) rfl, Sure.of rfl⟩, ?_⟩ | refine ⟨.inl rfl, ?_⟩ | refine ⟨.inr ⟨qsafe_ok (st := []) rfl, Sure.of rfl⟩, ?_⟩ | refine ⟨.inr ⟨QY.neqB rfl (by kernel_rfl) rfl rfl, Sure.of rfl⟩, ?_⟩ | refine ⟨.inr ⟨QY.eqlB rfl (by kernel_rfl) rfl rfl, Sure.of rfl⟩, ?_⟩ | fail)), LSt.nf ?_⟩
          conv => whnf
          refine S_done [] rfl (Nx.goL ?_)
          refine L_rs (S_splitF 92 rfl rfl rfl (by simp) (S_Q [] rfl rfl (QY.neqB rfl (by kernel_rfl) rfl rfl) ?_))
          refine S_done [] rfl (Nx.goL (L_ifp rfl (by first | exact bD | exact bE | exact bN | exact bNB | exact bEB | exact bNot bD | exact bNot bE | exact bNot bN | exact bNot bV | exact bV) (fun h => absurd rfl h) (fun _ => L_skip (Nx.goL ?_))))
          refine L_reg (S_Q [] rfl rfl (QY.add (c := ((i + 1 : Nat) : Int)) rfl rfl rfl (by omega) (by omega)) (S_done [] rfl ?_))
          exact Nx.pick [7, 8, 27, 28, 29] [0, 1, 2, 3] rfl rfl rfl ⟨n - (i + 1), by omega, i + 1, s.next u, G', nextR m u, rfl, by omega, by omega, hnx.mono (by omega), rfl, rfl⟩
      · refine S_Q [] rfl rfl (QY.add (c := ((i + 1 : Nat) : Int)) rfl rfl rfl (by omega) (by omega)) (S_done [] rfl ?_)
        exact Nx.pick [7, 8, 27, 28, 29] [0, 1, 2, 3] rfl rfl rfl ⟨n - (i + 1), by omega, i + 1, s, G, m, rfl, by omega, by omega, hr.mono (by omega), rfl, rfl⟩
    · exact Nx.pick [7, 8] [0, 1, 2, 3] rfl rfl rfl ⟨s, G, m, hr.mono (by omega), rfl, rfl⟩
  · rintro _ _ ⟨s, G, m, hr, rfl, rfl⟩
    first | refine L_rs ?_ | refine L_reg ?_ | skip
    refine S_Ed [] rfl rfl (EWd.call [1, 2, 3] (Same_tr s G m 60 hr (by omega)) rfl rfl (Part.of (by decide) (by repeat' (first | exact trivial | refine ⟨rfl, ?_⟩ | fail))) handed_nil rfl) rfl rfl rfl ?_
    rintro _ _ ⟨_, K, ⟨rfl, hK⟩, rfl, rfl⟩
    refine ⟨(by repeat' (first | exact trivial | refine ⟨⟨qsafe_ok (st := []) rfl, Sure.of rfl⟩, ?_⟩ | refine ⟨.inl rfl, ?_⟩ | refine ⟨.inr ⟨qsafe_ok (st := []) rfl, Sure.of rfl⟩, ?_⟩ | refine ⟨.inr ⟨QY.neqB rfl (by kernel_rfl) rfl rfl, Sure.of rfl⟩, ?_⟩ | refine ⟨.inr ⟨QY.eqlB rfl (by kernel_rfl) rfl rfl, Sure.of rfl⟩, ?_⟩ | fail)), ?_⟩
    have hl : ∀ K : LH, 1 ≤ (joinL [1, 2, 3] (PLr s G m) K).length := fun K => by rw [joinL, List.length_append, jset_length]; simp [PLr]; omega
    generalize hq : joinL _ _ _ = L'
    have hl' : 1 ≤ L'.length := by rw [← hq]; exact hl _
    clear hq hl
    refine LSt.drop [100] ?_
    show LSt _ _ _ _ [(100, .bool true)] _ _
    refine S_E [] rfl rfl (EW.callA [] awakeR_tr rfl rfl (Part.of (by decide) trivial) handed_nil) ?_
    rintro _ _ ⟨_, K', ⟨rfl, rfl⟩, rfl, rfl⟩
    refine ⟨trivial, ?_⟩
    have hl2 : 1 ≤ (joinL [] L' []).length := by rw [joinL, List.length_append, jset_length]; omega
    generalize joinL _ _ _ = L'' at hl2
    refine LSt.drop [101, 102] ?_
    show LSt _ _ _ _ [(101, .bool true), (102, .bool true)] _ _
    refine S_done [] rfl (Nx.goL (L_ret (RetQ.all rfl rfl (Nat.ble_eq_true_of_le hl2))))

theorem rops_in {cs : List Value} (h : Fits [some .i64, some .i64, some .i64, some .i64] cs) : ∃ o : ROp, cs = o.cells := by
  obtain ⟨a, _, rfl, _, h⟩ := h.int
  obtain ⟨b, _, rfl, _, h⟩ := h.int
  obtain ⟨c, _, rfl, _, h⟩ := h.int
  obtain ⟨d, _, rfl, _, h⟩ := h.int
  obtain rfl := h.nil
  exact ⟨⟨a, b, c, d⟩, rfl⟩
theorem RemotePlays_does (w : World) (threads batch : Int) {v : Value} {n : Nat} {get : Nat → List Value} (hr : SlIn w 4 v n get) (hf : ∀ i, i < n → Fits [some .i64, some .i64, some .i64, some .i64] (get i)) :
    Does Try.prog 5 #[.int .i64 threads, .int .i64 batch, v] w fun v w' => v = .bool true ∧ Fr (fun _ => False) w w' := by
  obtain ⟨op, hop⟩ := choose_lt (n := n) (p := fun i (o : ROp) => get i = o.cells) fun i hi => rops_in (hf i hi)
  obtain ⟨hn, r, hr⟩ := hr
  obtain ⟨h1, h2⟩ := hr [r] 0 rfl
  exact (RemotePlays_tr threads batch n hn get op hop).law (vs' := [.int .i64 threads, .int .i64 batch, v]) [r] w rfl (by intro x hx; cases List.mem_singleton.1 hx; exact ⟨rfl, h2⟩) ⟨rfl, rfl, h1, trivial⟩
end Go.Proofs.Ytgfkadmpakgmeaa
