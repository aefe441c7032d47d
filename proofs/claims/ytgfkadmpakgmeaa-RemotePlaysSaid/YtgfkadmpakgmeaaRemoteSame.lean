/-
  Layer 12: both mails stand alike.
-/
import Derived.Test.YtgfkadmpakgmeaaRemoteR3
import Derived.Test.YtgfkadmpakgmeaaRemoteSim2
import Derived.Test.YtgfkadmpakgmeaaRemoteW
namespace Go.Proofs.Ytgfkadmpakgmeaa
open Go Go.Tum Go.Tum.Remote

def SL (s : Mail) (G : Nat → Prop) (m : RM) : LH := [MB s G, .cells 0 [.int .i64 m.n, .int .i64 m.bt, .slice (some ⟨2, 0, none⟩) m.l.length m.l.length, .int .i64 m.N], .gro 4 (rowsC It.cells m.l)]
abbrev q1 : Value := .pointer (some ⟨1, 0, none⟩)
theorem ints_rows : ∀ l : List Int, ints l = rowsC intC l
  | [] => rfl
  | x :: r => by simp only [ints, List.map_cons, rowsC, intC]; rw [← ints_rows r]; rfl
theorem Rel.small {s : Mail} {m : RM} {j : Nat} (h : Rel s m j) (hj : j ≤ 1000) : s.Small := by
  refine ⟨h.n64, fun f t hf ht => ?_⟩
  rw [h.row t ht, h.held f t hf ht, come_count]
  have h1 : (m.l.countP fun x => decide (x.to = (t : Int) ∧ 0 < x.come ∧ x.come ≤ (m.N.toNat : Int))) ≤ m.l.length := List.countP_le_length
  have h2 := atsH_le f t m.l
  have := h.len
  omega

theorem Same_tr (s : Mail) (G : Nat → Prop) (m : RM) (j : Nat) (hr : Rel s m j) (hj : j ≤ 1000) : TrK Try.prog [] [0, 1] 19 [tp, q1] (SL s G m) (fun v _ => v = .bool true) := by
  have hsm := hr.small hj
  have hlen := hr.len; have hN0 := hr.N0; have hall := hr.all; have h64 := hr.n64; have hn := hr.n
  obtain ⟨N, hN⟩ : ∃ N : Nat, m.N = N := ⟨m.N.toNat, by omega⟩
  have hNt : m.N.toNat = N := by omega
  have hA := hr.allTo s.n (Nat.le_refl _)
  rw [hNt] at hA
  refine Tr.of row_tumbrellaw12_Same_ok rfl ?_
  refine L_rs (S_done [] rfl (Nx.goL ?_))
  refine L_seq ?_
  first | refine L_rs ?_ | refine L_reg ?_ | skip
  refine S_Ed [] rfl rfl (EWd.callP [0] (mThreads_tr s G) rfl rfl (by decide) (by repeat' (first | exact trivial | refine ⟨rfl, ?_⟩ | fail)) rfl rfl) (disj_nil _) (nm_nilE _) (nm_nilT _) ?_
  rintro _ _ ⟨rfl, rfl⟩
  refine ⟨(by repeat' (first | exact trivial | refine ⟨⟨qsafe_ok (st := []) rfl, Sure.of rfl⟩, ?_⟩ | refine ⟨.inl rfl, ?_⟩ | refine ⟨.inr ⟨qsafe_ok (st := []) rfl, Sure.of rfl⟩, ?_⟩ | refine ⟨.inr ⟨QY.neqB rfl (by kernel_rfl) rfl rfl, Sure.of rfl⟩, ?_⟩ | refine ⟨.inr ⟨QY.eqlB rfl (by kernel_rfl) rfl rfl, Sure.of rfl⟩, ?_⟩ | fail)), ?_⟩
  repeat' (first
    | refine L_rs ?_
    | refine S_done [] rfl (Nx.goL ?_)
    | refine S_done [] rfl (RetQ.keepN rfl rfl rfl rfl ?_)
    | refine S_done [] rfl ?_
    | refine L_block ?_
    | refine L_ret (RetQ.keep rfl rfl rfl rfl ?_)
    | refine L_true rfl ?_
    | refine L_false rfl ?_
    | refine L_skip (Nx.goL ?_)
    | refine L_skip ?_
    | refine L_exit (Nx.goL ?_)
    | refine L_exit ?_
    | refine L_ifp rfl (by first | exact bD | exact bE | exact bN | exact bNB | exact bEB | exact bNot bD | exact bNot bE | exact bNot bN) (fun h => ?_) (fun h => ?_)
    | refine S_Q [] rfl rfl (QY.idxN rfl rfl (by omega)) ?_
    | refine L_reg ?_
    | refine L_seq ?_
    | exact ⟨rfl, rfl⟩
    | fail)
  · exact absurd hn.symm h
  refine LWp.pick [0, 1, 5] [0, 1, 2] rfl rfl rfl ?_
  refine (L_loop (fun r l L => ∃ k : Int, r = ((s.n : Int) + 1 - k).toNat ∧ -1 ≤ k ∧ k ≤ s.n + 1 ∧ l = [(0, tp), (1, q1), (5, .int .i64 k)] ∧ L = SL s G m) (s.n + 2) ⟨-1, by omega, by omega, by omega, rfl, rfl⟩ ?_)
  rintro r _ _ ⟨k, rfl, hk1, hk2, rfl, rfl⟩
  repeat' (first
    | refine L_rs ?_
    | refine S_done [] rfl (Nx.goL ?_)
    | refine S_done [] rfl (RetQ.keepN rfl rfl rfl rfl ?_)
    | refine S_done [] rfl ?_
    | refine L_block ?_
    | refine L_ret (RetQ.keep rfl rfl rfl rfl ?_)
    | refine L_true rfl ?_
    | refine L_false rfl ?_
    | refine L_skip (Nx.goL ?_)
    | refine L_skip ?_
    | refine L_exit (Nx.goL ?_)
    | refine L_exit ?_
    | refine L_ifp rfl (by first | exact bD | exact bE | exact bN | exact bNB | exact bEB | exact bNot bD | exact bNot bE | exact bNot bN) (fun h => ?_) (fun h => ?_)
    | refine S_Q [] rfl rfl (QY.idxN rfl rfl (by omega)) ?_
    | refine L_reg ?_
    | refine L_seq ?_
    | exact ⟨rfl, rfl⟩
    | fail)
  · have hW := Waits_tr m (by omega) k
    rw [hr.waits k] at hW
    have hH := Held_tr m (by omega) k (-1)
    rw [hr.heldN k] at hH
    first | refine L_rs ?_ | refine L_reg ?_ | skip
    refine S_Ed [] rfl rfl (EWd.callP [0] (mWaits_tr s G k) rfl rfl (by decide) (by repeat' (first | exact trivial | refine ⟨rfl, ?_⟩ | fail)) rfl rfl) (disj_nil _) (nm_nilE _) (nm_nilT _) ?_
    rintro _ _ ⟨rfl, rfl⟩
    refine ⟨(by repeat' (first | exact trivial | refine ⟨⟨qsafe_ok (st := []) rfl, Sure.of rfl⟩, ?_⟩ | refine ⟨.inl rfl, ?_⟩ | refine ⟨.inr ⟨qsafe_ok (st := []) rfl, Sure.of rfl⟩, ?_⟩ | refine ⟨.inr ⟨QY.neqB rfl (by kernel_rfl) rfl rfl, Sure.of rfl⟩, ?_⟩ | refine ⟨.inr ⟨QY.eqlB rfl (by kernel_rfl) rfl rfl, Sure.of rfl⟩, ?_⟩ | fail)), ?_⟩
    first | refine L_rs ?_ | refine L_reg ?_ | skip
    refine S_Ed [] rfl rfl (EWd.callP [1, 2] (hW) rfl rfl (by decide) (by repeat' (first | exact trivial | refine ⟨rfl, ?_⟩ | fail)) rfl rfl) (disj_nil _) (nm_nilE _) (nm_nilT _) ?_
    rintro _ _ ⟨rfl, rfl⟩
    refine ⟨(by repeat' (first | exact trivial | refine ⟨⟨qsafe_ok (st := []) rfl, Sure.of rfl⟩, ?_⟩ | refine ⟨.inl rfl, ?_⟩ | refine ⟨.inr ⟨qsafe_ok (st := []) rfl, Sure.of rfl⟩, ?_⟩ | refine ⟨.inr ⟨QY.neqB rfl (by kernel_rfl) rfl rfl, Sure.of rfl⟩, ?_⟩ | refine ⟨.inr ⟨QY.eqlB rfl (by kernel_rfl) rfl rfl, Sure.of rfl⟩, ?_⟩ | fail)), ?_⟩
    refine S_splitF 31 rfl rfl rfl (by simp) ?_
    first | refine L_rs ?_ | refine L_reg ?_ | skip
    refine S_Ed [] rfl rfl (EWd.callP [0] (mHeld_tr s hsm G k) rfl rfl (by decide) (by repeat' (first | exact trivial | refine ⟨rfl, ?_⟩ | fail)) rfl rfl) (disj_nil _) (nm_nilE _) (nm_nilT _) ?_
    rintro _ _ ⟨rfl, rfl⟩
    refine ⟨(by repeat' (first | exact trivial | refine ⟨⟨qsafe_ok (st := []) rfl, Sure.of rfl⟩, ?_⟩ | refine ⟨.inl rfl, ?_⟩ | refine ⟨.inr ⟨qsafe_ok (st := []) rfl, Sure.of rfl⟩, ?_⟩ | refine ⟨.inr ⟨QY.neqB rfl (by kernel_rfl) rfl rfl, Sure.of rfl⟩, ?_⟩ | refine ⟨.inr ⟨QY.eqlB rfl (by kernel_rfl) rfl rfl, Sure.of rfl⟩, ?_⟩ | fail)), ?_⟩
    first | refine L_rs ?_ | refine L_reg ?_ | skip
    refine S_Ed [] rfl rfl (EWd.callP [1, 2] (hH) rfl rfl (by decide) (by repeat' (first | exact trivial | refine ⟨rfl, ?_⟩ | fail)) rfl rfl) (disj_nil _) (nm_nilE _) (nm_nilT _) ?_
    rintro _ _ ⟨rfl, rfl⟩
    refine ⟨(by repeat' (first | exact trivial | refine ⟨⟨qsafe_ok (st := []) rfl, Sure.of rfl⟩, ?_⟩ | refine ⟨.inl rfl, ?_⟩ | refine ⟨.inr ⟨qsafe_ok (st := []) rfl, Sure.of rfl⟩, ?_⟩ | refine ⟨.inr ⟨QY.neqB rfl (by kernel_rfl) rfl rfl, Sure.of rfl⟩, ?_⟩ | refine ⟨.inr ⟨QY.eqlB rfl (by kernel_rfl) rfl rfl, Sure.of rfl⟩, ?_⟩ | fail)), ?_⟩
    refine S_done [] rfl (Nx.goL (L_ifp rfl (by first | exact bD | exact bE | exact bN | exact bNB | exact bEB | exact bNot bD | exact bNot bE | exact bNot bN | exact bNot bV | exact bV) (fun h => absurd rfl h) (fun _ => L_skip (Nx.goL ?_))))
    refine L_reg (S_Q [] rfl rfl (QY.add (c := k + 1) rfl rfl rfl (by omega) (by omega)) (S_done [] rfl ?_))
    exact Nx.pick [0, 1, 5] [0, 1, 2] rfl rfl rfl ⟨((s.n : Int) + 1 - (k + 1)).toNat, by omega, k + 1, rfl, by omega, by omega, rfl, rfl⟩
  · repeat' (first
      | refine L_rs ?_
      | refine S_done [] rfl (Nx.goL ?_)
      | refine S_done [] rfl (RetQ.keepN rfl rfl rfl rfl ?_)
      | refine S_done [] rfl ?_
      | refine L_block ?_
      | refine L_ret (RetQ.keep rfl rfl rfl rfl ?_)
      | refine L_true rfl ?_
      | refine L_false rfl ?_
      | refine L_skip (Nx.goL ?_)
      | refine L_skip ?_
      | refine L_exit (Nx.goL ?_)
      | refine L_exit ?_
      | refine L_ifp rfl (by first | exact bD | exact bE | exact bN | exact bNB | exact bEB | exact bNot bD | exact bNot bE | exact bNot bN) (fun h => ?_) (fun h => ?_)
      | refine S_Q [] rfl rfl (QY.idxN rfl rfl (by omega)) ?_
      | refine L_reg ?_
      | refine L_seq ?_
      | exact ⟨rfl, rfl⟩
      | fail)
    first | refine LSt.drop [0, 1] (LSt.nf ?_) | refine LWp.drop [0, 1] (LWp.nf ?_)
    conv => whnf
    have hAm := mAll_tr s hsm G
    rw [hA] at hAm
    have hR := RAll_tr m s.n N hn hN h64 (by omega) (by omega)
    have hal : (allR m s.n N s.n).length ≤ 100000000 := by
      have h1 := allR_le m s.n N s.n
      have h3 : s.n * ((N + s.n) * m.l.length) ≤ 64 * ((1000 + 64) * 1000) := Nat.mul_le_mul h64 (Nat.mul_le_mul (by omega) (by omega))
      omega
    generalize hacc : allR m s.n N s.n = acc at hAm hR hal
    by_cases h0 : acc.length = 0
    · rw [if_pos h0] at hAm
      first | refine L_rs ?_ | refine L_reg ?_ | skip
      refine S_E [] rfl rfl (EW.callF [0] (hAm) rfl rfl (by decide) (by repeat' (first | exact trivial | refine ⟨rfl, ?_⟩ | fail)) rfl rfl) ?_
      rintro _ _ ⟨rfl, rfl⟩
      refine ⟨(by repeat' (first | exact trivial | refine ⟨⟨qsafe_ok (st := []) rfl, Sure.of rfl⟩, ?_⟩ | refine ⟨.inl rfl, ?_⟩ | refine ⟨.inr ⟨qsafe_ok (st := []) rfl, Sure.of rfl⟩, ?_⟩ | refine ⟨.inr ⟨QY.neqB rfl (by kernel_rfl) rfl rfl, Sure.of rfl⟩, ?_⟩ | refine ⟨.inr ⟨QY.eqlB rfl (by kernel_rfl) rfl rfl, Sure.of rfl⟩, ?_⟩ | fail)), LSt.nf ?_⟩
      conv => whnf
      first | refine L_rs ?_ | refine L_reg ?_ | skip
      refine S_Ed [] rfl rfl (EWd.callF [1, 2] (hR) rfl rfl (by decide) (by repeat' (first | exact trivial | refine ⟨rfl, ?_⟩ | fail)) rfl rfl rfl) rfl rfl rfl ?_
      rintro _ _ ⟨rfl, rfl⟩
      refine ⟨(by repeat' (first | exact trivial | refine ⟨⟨qsafe_ok (st := []) rfl, Sure.of rfl⟩, ?_⟩ | refine ⟨.inl rfl, ?_⟩ | refine ⟨.inr ⟨qsafe_ok (st := []) rfl, Sure.of rfl⟩, ?_⟩ | refine ⟨.inr ⟨QY.neqB rfl (by kernel_rfl) rfl rfl, Sure.of rfl⟩, ?_⟩ | refine ⟨.inr ⟨QY.eqlB rfl (by kernel_rfl) rfl rfl, Sure.of rfl⟩, ?_⟩ | fail)), LSt.nf ?_⟩
      conv => whnf
      repeat' (first
        | refine L_rs ?_
        | refine S_done [] rfl (Nx.goL ?_)
        | refine S_done [] rfl (RetQ.keepN rfl rfl rfl rfl ?_)
        | refine S_done [] rfl ?_
        | refine L_block ?_
        | refine L_ret (RetQ.keep rfl rfl rfl rfl ?_)
        | refine L_true rfl ?_
        | refine L_false rfl ?_
        | refine L_skip (Nx.goL ?_)
        | refine L_skip ?_
        | refine L_exit (Nx.goL ?_)
        | refine L_exit ?_
        | refine L_ifp rfl (by first | exact bD | exact bE | exact bN | exact bNB | exact bEB | exact bNot bD | exact bNot bE | exact bNot bN) (fun h => ?_) (fun h => ?_)
        | refine S_Q [] rfl rfl (QY.idxN rfl rfl (by omega)) ?_
        | refine L_reg ?_
        | refine L_seq ?_
        | exact ⟨rfl, rfl⟩
        | fail)
      · exact absurd rfl h
      refine LWp.pick [50, 51] [0, 1, 2] rfl rfl rfl ?_
      refine (L_loop (fun r l L => l = [(50, .int .i64 acc.length), (51, .int .i64 0)] ∧ L = SL s G m) 0 ⟨rfl, rfl⟩ ?_)
      rintro r _ _ ⟨rfl, rfl⟩
      refine L_rs (S_done [] rfl (Nx.goL (L_seq (L_ifp rfl (by first | exact bD | exact bE | exact bN | exact bNB | exact bEB | exact bNot bD | exact bNot bE | exact bNot bN | exact bNot bV | exact bV) (fun h => by omega) (fun h => L_exit (Nx.goL ?_))))))
      repeat' (first
        | refine L_rs ?_
        | refine S_done [] rfl (Nx.goL ?_)
        | refine S_done [] rfl (RetQ.keepN rfl rfl rfl rfl ?_)
        | refine S_done [] rfl ?_
        | refine L_block ?_
        | refine L_ret (RetQ.keep rfl rfl rfl rfl ?_)
        | refine L_true rfl ?_
        | refine L_false rfl ?_
        | refine L_skip (Nx.goL ?_)
        | refine L_skip ?_
        | refine L_exit (Nx.goL ?_)
        | refine L_exit ?_
        | refine L_ifp rfl (by first | exact bD | exact bE | exact bN | exact bNB | exact bEB | exact bNot bD | exact bNot bE | exact bNot bN) (fun h => ?_) (fun h => ?_)
        | refine S_Q [] rfl rfl (QY.idxN rfl rfl (by omega)) ?_
        | refine L_reg ?_
        | refine L_seq ?_
        | exact ⟨rfl, rfl⟩
        | fail)
      rfl
    · rw [if_neg h0, ints_rows] at hAm
      first | refine L_rs ?_ | refine L_reg ?_ | skip
      refine S_E [] rfl rfl (EW.callF [0] (hAm) rfl rfl (by decide) (by repeat' (first | exact trivial | refine ⟨rfl, ?_⟩ | fail)) rfl rfl) ?_
      rintro _ _ ⟨rfl, rfl⟩
      refine ⟨(by repeat' (first | exact trivial | refine ⟨⟨qsafe_ok (st := []) rfl, Sure.of rfl⟩, ?_⟩ | refine ⟨.inl rfl, ?_⟩ | refine ⟨.inr ⟨qsafe_ok (st := []) rfl, Sure.of rfl⟩, ?_⟩ | refine ⟨.inr ⟨QY.neqB rfl (by kernel_rfl) rfl rfl, Sure.of rfl⟩, ?_⟩ | refine ⟨.inr ⟨QY.eqlB rfl (by kernel_rfl) rfl rfl, Sure.of rfl⟩, ?_⟩ | fail)), LSt.nf ?_⟩
      conv => whnf
      first | refine L_rs ?_ | refine L_reg ?_ | skip
      refine S_Ed [] rfl rfl (EWd.callF [1, 2] (hR) rfl rfl (by decide) (by repeat' (first | exact trivial | refine ⟨rfl, ?_⟩ | fail)) rfl rfl rfl) rfl rfl rfl ?_
      rintro _ _ ⟨rfl, rfl⟩
      refine ⟨(by repeat' (first | exact trivial | refine ⟨⟨qsafe_ok (st := []) rfl, Sure.of rfl⟩, ?_⟩ | refine ⟨.inl rfl, ?_⟩ | refine ⟨.inr ⟨qsafe_ok (st := []) rfl, Sure.of rfl⟩, ?_⟩ | refine ⟨.inr ⟨QY.neqB rfl (by kernel_rfl) rfl rfl, Sure.of rfl⟩, ?_⟩ | refine ⟨.inr ⟨QY.eqlB rfl (by kernel_rfl) rfl rfl, Sure.of rfl⟩, ?_⟩ | fail)), LSt.nf ?_⟩
      conv => whnf
      repeat' (first
        | refine L_rs ?_
        | refine S_done [] rfl (Nx.goL ?_)
        | refine S_done [] rfl (RetQ.keepN rfl rfl rfl rfl ?_)
        | refine S_done [] rfl ?_
        | refine L_block ?_
        | refine L_ret (RetQ.keep rfl rfl rfl rfl ?_)
        | refine L_true rfl ?_
        | refine L_false rfl ?_
        | refine L_skip (Nx.goL ?_)
        | refine L_skip ?_
        | refine L_exit (Nx.goL ?_)
        | refine L_exit ?_
        | refine L_ifp rfl (by first | exact bD | exact bE | exact bN | exact bNB | exact bEB | exact bNot bD | exact bNot bE | exact bNot bN) (fun h => ?_) (fun h => ?_)
        | refine S_Q [] rfl rfl (QY.idxN rfl rfl (by omega)) ?_
        | refine L_reg ?_
        | refine L_seq ?_
        | exact ⟨rfl, rfl⟩
        | fail)
      · exact absurd rfl h
      refine LWp.pick [6, 7, 50, 51] [0, 1, 2, 3, 4] rfl rfl rfl ?_
      refine (L_loop (fun r l L => ∃ k : Nat, r = acc.length - k ∧ k ≤ acc.length ∧ l = [(6, .slice (some ⟨3, 0, none⟩) acc.length acc.length), (7, .slice (some ⟨4, 0, none⟩) acc.length acc.length), (50, .int .i64 acc.length), (51, .int .i64 k)] ∧ L = [MB s G, .cells 0 [.int .i64 m.n, .int .i64 m.bt, .slice (some ⟨2, 0, none⟩) m.l.length m.l.length, .int .i64 m.N], .gro 4 (rowsC It.cells m.l), .gro 1 (rowsC intC acc), .gro 1 (rowsC intC acc)]) acc.length ⟨0, rfl, by omega, rfl, rfl⟩ ?_)
      rintro r _ _ ⟨k, rfl, hk, rfl, rfl⟩
      repeat' (first
        | refine L_rs ?_
        | refine S_done [] rfl (Nx.goL ?_)
        | refine S_done [] rfl (RetQ.keepN rfl rfl rfl rfl ?_)
        | refine S_done [] rfl ?_
        | refine L_block ?_
        | refine L_ret (RetQ.keep rfl rfl rfl rfl ?_)
        | refine L_true rfl ?_
        | refine L_false rfl ?_
        | refine L_skip (Nx.goL ?_)
        | refine L_skip ?_
        | refine L_exit (Nx.goL ?_)
        | refine L_exit ?_
        | refine L_ifp rfl (by first | exact bD | exact bE | exact bN | exact bNB | exact bEB | exact bNot bD | exact bNot bE | exact bNot bN) (fun h => ?_) (fun h => ?_)
        | refine S_Q [] rfl rfl (QY.idxN rfl rfl (by omega)) ?_
        | refine L_reg ?_
        | refine L_seq ?_
        | exact ⟨rfl, rfl⟩
        | fail)
      · obtain ⟨x, hx⟩ : ∃ x, acc[k]? = some x := ⟨_, List.getElem?_eq_getElem (by omega)⟩
        refine S_Q [] rfl rfl (QY.ldI rfl rfl hx) (S_Q [] rfl rfl (QY.idxN rfl rfl (by omega)) (S_Q [] rfl rfl (QY.ldI rfl rfl hx) ?_))
        refine S_done [] rfl (Nx.goL (L_ifp rfl (by first | exact bD | exact bE | exact bN | exact bNB | exact bEB | exact bNot bD | exact bNot bE | exact bNot bN | exact bNot bV | exact bV) (fun h => absurd rfl h) (fun _ => L_skip (Nx.goL ?_))))
        refine L_reg (S_Q [] rfl rfl (QY.add (c := ((k + 1 : Nat) : Int)) rfl rfl rfl (by omega) (by omega)) (S_done [] rfl ?_))
        exact Nx.pick [6, 7, 50, 51] [0, 1, 2, 3, 4] rfl rfl rfl ⟨acc.length - (k + 1), by omega, k + 1, rfl, by omega, rfl, rfl⟩
      · repeat' (first
          | refine L_rs ?_
          | refine S_done [] rfl (Nx.goL ?_)
          | refine S_done [] rfl (RetQ.keepN rfl rfl rfl rfl ?_)
          | refine S_done [] rfl ?_
          | refine L_block ?_
          | refine L_ret (RetQ.keep rfl rfl rfl rfl ?_)
          | refine L_true rfl ?_
          | refine L_false rfl ?_
          | refine L_skip (Nx.goL ?_)
          | refine L_skip ?_
          | refine L_exit (Nx.goL ?_)
          | refine L_exit ?_
          | refine L_ifp rfl (by first | exact bD | exact bE | exact bN | exact bNB | exact bEB | exact bNot bD | exact bNot bE | exact bNot bN) (fun h => ?_) (fun h => ?_)
          | refine S_Q [] rfl rfl (QY.idxN rfl rfl (by omega)) ?_
          | refine L_reg ?_
          | refine L_seq ?_
          | exact ⟨rfl, rfl⟩
          | fail)
        rfl
end Go.Proofs.Ytgfkadmpakgmeaa
