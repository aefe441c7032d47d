/-
  RemoteOrder: the law's call.
-/
import Derived.Test.YtgfkadmpakgmeaaRemoteW
import Derived.Test.YtgfkadmpakgmeaaRemoteOrd
import Derived.Test.YtgfkadmpakgmeaaRemoteNil
import Derived.Test.YtgfkadmpakgmeaaLw7
namespace Go.Proofs.Ytgfkadmpakgmeaa
open Go Go.Tum Go.Tum.Remote Go.Deep

abbrev q1 : Value := .pointer (some ⟨1, 0, none⟩)
theorem awakeO_tr : Tr Try.prog 12 [] [] (fun v K => v = .bool true ∧ K = []) :=
  Tr.closed (by kernel_rfl) rfl rfl fun w => awake_ok w
theorem ROp.ok : RowOk ROp.cells 4 := ⟨fun _ => rfl, fun _ => rfl⟩
abbrev sl (b n : Nat) : Value := .slice (some ⟨b, 0, none⟩) n n
def OLr (s : Mail) (G : Nat → Prop) (l : List ROp) : LH := [.dead, MB s G, .gro 4 (rowsC ROp.cells l)]
def OLg (s : Mail) (G : Nat → Prop) (l : List ROp) (g : List Int) : LH := [.dead, MB s G, .gro 4 (rowsC ROp.cells l), .gro 1 (rowsC intC g)]

set_option maxHeartbeats 4000000 in
theorem RemoteOrder_tr (batch : Int) (n : Nat) (hn : n ≤ 9223372036854775807) (get : Nat → List Value) (op : Nat → ROp) (hop : ∀ i, i < n → get i = (op i).cells) :
    TrK Try.prog [(0, n * 4, rowG 4 get)] [0] 3 [.int .i64 batch, sl 0 n] [.dead] (fun v _ => v = .bool true) := by
  refine Tr.of row_tumbrellaw12_RemoteOrder_ok rfl ?_
  refine L_rs (S_done [] rfl (Nx.goL ?_))
  first | refine L_rs ?_ | refine L_reg ?_ | skip
  refine S_Ed [] rfl rfl (EWd.call [] (mNew_tr 4 batch) rfl rfl (Part.of (by decide) (by repeat' (first | exact trivial | refine ⟨rfl, ?_⟩ | fail))) handed_nil rfl) rfl rfl rfl ?_
  rintro _ _ ⟨_, _, ⟨rfl, G0, rfl⟩, rfl, rfl⟩
  refine ⟨(by repeat' (first | exact trivial | refine ⟨⟨qsafe_ok (st := []) rfl, Sure.of rfl⟩, ?_⟩ | refine ⟨.inl rfl, ?_⟩ | refine ⟨.inr ⟨qsafe_ok (st := []) rfl, Sure.of rfl⟩, ?_⟩ | refine ⟨.inr ⟨QY.neqB rfl (by kernel_rfl) rfl rfl, Sure.of rfl⟩, ?_⟩ | refine ⟨.inr ⟨QY.eqlB rfl (by kernel_rfl) rfl rfl, Sure.of rfl⟩, ?_⟩ | fail)), LSt.nf ?_⟩
  conv => whnf
  refine S_done [] rfl (Nx.goL ?_)
  refine L_rs (S_done [] rfl (Nx.goL ?_))
  refine LWp.nilE 6 4 rfl ?_
  refine L_cut (fun l L => ∃ (s : Mail) (G : Nat → Prop) (snt : List ROp), Ord s snt 40 ∧ l = [(5, q1), (6, sl 2 snt.length)] ∧ L = OLr s G snt) ?_ ?_
  · refine L_rs (S_done [] rfl (Nx.pick [5, 6, 22, 23, 24] [0, 1, 2] rfl rfl rfl ?_))
    refine L_block (L_loop (fun r l L => ∃ (i : Nat) (s : Mail) (G : Nat → Prop) (snt : List ROp), r = n - i ∧ i ≤ n ∧ i ≤ 40 ∧ Ord s snt i ∧ l = [(5, q1), (6, sl 2 snt.length), (22, sl 0 n), (23, .int .i64 n), (24, .int .i64 i)] ∧ L = OLr s G snt) n ⟨0, Mail.new 4 batch, G0, [], rfl, by omega, by omega, Ord.new batch, rfl, rfl⟩ ?_)
    rintro r _ _ ⟨i, s, G, snt, rfl, hi, hi4, ho, rfl, rfl⟩
    have hlen := ho.len; have hn4 := ho.n4
    have hsm := ho.ok.small (by omega)
    repeat' (first
      | refine L_rs ?_
      | refine S_done [] rfl (Nx.goL ?_)
      | refine S_done [] rfl (RetQ.keepN rfl rfl rfl rfl ?_)
      | refine S_done [] rfl ?_
      | refine L_block ?_
      | refine L_ret (RetQ.keep rfl rfl rfl rfl ?_)
      | refine L_true rfl ?_
      | refine L_false rfl ?_
      | refine L_skip (Nx.goL ?_)
      | refine L_skip ?_
      | refine L_exit (Nx.goL ?_)
      | refine L_exit ?_
      | refine L_ifp rfl (by first | exact bD | exact bE | exact bN | exact bNB | exact bEB | exact bNot bD | exact bNot bE | exact bNot bN) (fun h => ?_) (fun h => ?_)
      | refine S_Q [] rfl rfl (QY.idxN rfl rfl (by omega)) ?_
      | refine L_reg ?_
      | refine L_seq ?_
      | exact ⟨rfl, rfl⟩
      | fail)
    · have hi' : i < n := by omega
      obtain ⟨f, hf, ef⟩ : ∃ f : Nat, f < 4 ∧ (op i).f % 4 = f := ⟨((op i).f % 4).toNat, by omega, by omega⟩
      obtain ⟨t, ht, et⟩ : ∃ t : Nat, t < 4 ∧ (op i).t % 4 = t := ⟨((op i).t % 4).toNat, by omega, by omega⟩
      repeat' (first
        | refine L_rs ?_
        | refine S_done [] rfl (Nx.goL ?_)
        | refine S_done [] rfl (RetQ.keepN rfl rfl rfl rfl ?_)
        | refine S_done [] rfl ?_
        | refine L_block ?_
        | refine L_ret (RetQ.keep rfl rfl rfl rfl ?_)
        | refine L_true rfl ?_
        | refine L_false rfl ?_
        | refine L_skip (Nx.goL ?_)
        | refine L_skip ?_
        | refine L_exit (Nx.goL ?_)
        | refine L_exit ?_
        | refine L_ifp rfl (by first | exact bD | exact bE | exact bN | exact bNB | exact bEB | exact bNot bD | exact bNot bE | exact bNot bN) (fun h => ?_) (fun h => ?_)
        | refine S_Q [] rfl rfl (QY.idxN rfl rfl (by omega)) ?_
        | refine S_Q [] rfl rfl (QY.rowT (j := 0) hop ROp.ok rfl rfl rfl (by omega)) ?_
        | refine S_Q [] rfl rfl (QY.mask rfl rfl (by decide) ef) ?_
        | refine S_Q [] rfl rfl (QY.mask rfl rfl (by decide) et) ?_
        | refine S_Q [] rfl rfl (QY.add rfl rfl rfl (by omega) (by omega)) ?_
        | refine S_Q [] rfl rfl (QY.sub rfl rfl rfl (by omega) (by omega)) ?_
        | refine S_Q [] rfl rfl (QY.mask rfl rfl (by decide) rfl) ?_
        | refine S_Q [] rfl rfl (QY.ldI rfl rfl (List.getElem?_eq_getElem (by omega))) ?_
        | refine S_Q [] rfl rfl (QY.mul rfl rfl rfl (by omega) (by omega)) ?_
        | refine L_reg ?_
        | refine L_seq ?_
        | exact ⟨rfl, rfl⟩
        | fail)
      · exact Nx.pick [5, 6] [0, 1, 2] rfl rfl rfl ⟨s, G, snt, ho.mono (by omega), rfl, rfl⟩
      by_cases hft : f = t
      · first | refine L_rs ?_ | refine L_reg ?_ | skip
        refine S_Ed [] rfl rfl (EWd.callP [1] (mPost_no s G f t (op i).a (by omega)) rfl rfl (by decide) (by repeat' (first | exact trivial | refine ⟨rfl, ?_⟩ | fail)) rfl rfl) (disj_nil _) (nm_nilE _) (nm_nilT _) ?_
        rintro _ _ ⟨rfl, rfl⟩
        refine ⟨(by repeat' (first | exact trivial | refine ⟨⟨qsafe_ok (st := []) rfl, Sure.of rfl⟩, ?_⟩ | refine ⟨.inl rfl, ?_⟩ | refine ⟨.inr ⟨qsafe_ok (st := []) rfl, Sure.of rfl⟩, ?_⟩ | refine ⟨.inr ⟨QY.neqB rfl (by kernel_rfl) rfl rfl, Sure.of rfl⟩, ?_⟩ | refine ⟨.inr ⟨QY.eqlB rfl (by kernel_rfl) rfl rfl, Sure.of rfl⟩, ?_⟩ | fail)), ?_⟩
        repeat' (first
          | refine L_rs ?_
          | refine S_done [] rfl (Nx.goL ?_)
          | refine S_done [] rfl (RetQ.keepN rfl rfl rfl rfl ?_)
          | refine S_done [] rfl ?_
          | refine L_block ?_
          | refine L_ret (RetQ.keep rfl rfl rfl rfl ?_)
          | refine L_true rfl ?_
          | refine L_false rfl ?_
          | refine L_skip (Nx.goL ?_)
          | refine L_skip ?_
          | refine L_exit (Nx.goL ?_)
          | refine L_exit ?_
          | refine L_ifp rfl (by first | exact bD | exact bE | exact bN | exact bNB | exact bEB | exact bNot bD | exact bNot bE | exact bNot bN) (fun h => ?_) (fun h => ?_)
          | refine S_Q [] rfl rfl (QY.idxN rfl rfl (by omega)) ?_
          | refine S_Q [] rfl rfl (QY.add rfl rfl rfl (by omega) (by omega)) ?_
          | refine S_Q [] rfl rfl (QY.sub rfl rfl rfl (by omega) (by omega)) ?_
          | refine S_Q [] rfl rfl (QY.mask rfl rfl (by decide) rfl) ?_
          | refine S_Q [] rfl rfl (QY.ldI rfl rfl (List.getElem?_eq_getElem (by omega))) ?_
          | refine S_Q [] rfl rfl (QY.mul rfl rfl rfl (by omega) (by omega)) ?_
          | refine L_reg ?_
          | refine L_seq ?_
          | exact ⟨rfl, rfl⟩
          | fail)
        · omega
        exact Nx.pick [5, 6, 22, 23, 24] [0, 1, 2] rfl rfl rfl ⟨n - (i + 1), by omega, i + 1, s, G, snt, rfl, by omega, by omega, ho.mono (by omega), rfl, rfl⟩
      · first | refine L_rs ?_ | refine L_reg ?_ | skip
        refine S_Ed [] rfl rfl (EWd.call [1] (mPost_ok s hsm G f t (op i).a ⟨by omega, by omega⟩ ⟨by omega, by omega⟩ (by omega)) rfl rfl (Part.of (by decide) (by repeat' (first | exact trivial | refine ⟨rfl, ?_⟩ | fail))) handed_nil rfl) rfl rfl rfl ?_
        rintro _ _ ⟨_, _, ⟨rfl, G', rfl⟩, rfl, rfl⟩
        refine ⟨(by repeat' (first | exact trivial | refine ⟨⟨qsafe_ok (st := []) rfl, Sure.of rfl⟩, ?_⟩ | refine ⟨.inl rfl, ?_⟩ | refine ⟨.inr ⟨qsafe_ok (st := []) rfl, Sure.of rfl⟩, ?_⟩ | refine ⟨.inr ⟨QY.neqB rfl (by kernel_rfl) rfl rfl, Sure.of rfl⟩, ?_⟩ | refine ⟨.inr ⟨QY.eqlB rfl (by kernel_rfl) rfl rfl, Sure.of rfl⟩, ?_⟩ | fail)), LSt.nf ?_⟩
        conv => whnf
        repeat' (first
          | refine L_rs ?_
          | refine S_done [] rfl (Nx.goL ?_)
          | refine S_done [] rfl (RetQ.keepN rfl rfl rfl rfl ?_)
          | refine S_done [] rfl ?_
          | refine L_block ?_
          | refine L_ret (RetQ.keep rfl rfl rfl rfl ?_)
          | refine L_true rfl ?_
          | refine L_false rfl ?_
          | refine L_skip (Nx.goL ?_)
          | refine L_skip ?_
          | refine L_exit (Nx.goL ?_)
          | refine L_exit ?_
          | refine L_ifp rfl (by first | exact bD | exact bE | exact bN | exact bNB | exact bEB | exact bNot bD | exact bNot bE | exact bNot bN) (fun h => ?_) (fun h => ?_)
          | refine S_Q [] rfl rfl (QY.idxN rfl rfl (by omega)) ?_
          | refine S_Q [] rfl rfl (QY.add rfl rfl rfl (by omega) (by omega)) ?_
          | refine S_Q [] rfl rfl (QY.sub rfl rfl rfl (by omega) (by omega)) ?_
          | refine S_Q [] rfl rfl (QY.mask rfl rfl (by decide) rfl) ?_
          | refine S_Q [] rfl rfl (QY.ldI rfl rfl (List.getElem?_eq_getElem (by omega))) ?_
          | refine S_Q [] rfl rfl (QY.mul rfl rfl rfl (by omega) (by omega)) ?_
          | refine L_reg ?_
          | refine L_seq ?_
          | exact ⟨rfl, rfl⟩
          | fail)
        · first | refine L_rs ?_ | refine L_reg ?_ | skip
          refine S_E [] rfl rfl (EW.appR1 (bytes := 32) (a := ⟨(op i).kind, f, t, (op i).a⟩) ROp.ok rfl (by kernel_rfl) rfl rfl rfl rfl rfl (by omega)) ?_
          rintro _ _ ⟨rfl, rfl⟩
          refine ⟨(by repeat' (first | exact trivial | refine ⟨⟨qsafe_ok (st := []) rfl, Sure.of rfl⟩, ?_⟩ | refine ⟨.inl rfl, ?_⟩ | refine ⟨.inr ⟨qsafe_ok (st := []) rfl, Sure.of rfl⟩, ?_⟩ | refine ⟨.inr ⟨QY.neqB rfl (by kernel_rfl) rfl rfl, Sure.of rfl⟩, ?_⟩ | refine ⟨.inr ⟨QY.eqlB rfl (by kernel_rfl) rfl rfl, Sure.of rfl⟩, ?_⟩ | fail)), LSt.nf ?_⟩
          conv => whnf
          repeat' (first
            | refine L_rs ?_
            | refine S_done [] rfl (Nx.goL ?_)
            | refine S_done [] rfl (RetQ.keepN rfl rfl rfl rfl ?_)
            | refine S_done [] rfl ?_
            | refine L_block ?_
            | refine L_ret (RetQ.keep rfl rfl rfl rfl ?_)
            | refine L_true rfl ?_
            | refine L_false rfl ?_
            | refine L_skip (Nx.goL ?_)
            | refine L_skip ?_
            | refine L_exit (Nx.goL ?_)
            | refine L_exit ?_
            | refine L_ifp rfl (by first | exact bD | exact bE | exact bN | exact bNB | exact bEB | exact bNot bD | exact bNot bE | exact bNot bN) (fun h => ?_) (fun h => ?_)
            | refine S_Q [] rfl rfl (QY.idxN rfl rfl (by omega)) ?_
            | refine S_Q [] rfl rfl (QY.add rfl rfl rfl (by omega) (by omega)) ?_
            | refine S_Q [] rfl rfl (QY.sub rfl rfl rfl (by omega) (by omega)) ?_
            | refine S_Q [] rfl rfl (QY.mask rfl rfl (by decide) rfl) ?_
            | refine S_Q [] rfl rfl (QY.ldI rfl rfl (List.getElem?_eq_getElem (by omega))) ?_
            | refine S_Q [] rfl rfl (QY.mul rfl rfl rfl (by omega) (by omega)) ?_
            | refine L_reg ?_
            | refine L_seq ?_
            | exact ⟨rfl, rfl⟩
            | fail)
          exact Nx.pick [5, 6, 22, 23, 24] [0, 1, 5] rfl rfl rfl ⟨n - (i + 1), by omega, i + 1, s.post f t (op i).a, G', snt ++ [⟨(op i).kind, f, t, (op i).a⟩], rfl, by omega, by omega, ho.post _ _ hf ht, by rw [List.length_append]; rfl, rfl⟩
    · exact Nx.pick [5, 6] [0, 1, 2] rfl rfl rfl ⟨s, G, snt, ho.mono (by omega), rfl, rfl⟩
  rintro _ _ ⟨s, G, snt, ho, rfl, rfl⟩
  refine L_cut (fun l L => ∃ (s : Mail) (G : Nat → Prop), OrdS s snt 4 ∧ l = [(5, q1), (6, sl 2 snt.length)] ∧ L = OLr s G snt) ?_ ?_
  · refine L_rs (S_done [] rfl (Nx.pick [5, 6, 9] [0, 1, 2] rfl rfl rfl ?_))
    refine L_block (L_loop (fun r l L => ∃ (k : Nat) (s : Mail) (G : Nat → Prop), r = 4 - k ∧ k ≤ 4 ∧ OrdS s snt k ∧ l = [(5, q1), (6, sl 2 snt.length), (9, .int .i64 k)] ∧ L = OLr s G snt) 4 ⟨0, s, G, rfl, by omega, ⟨ho, fun f t hf _ => by omega⟩, rfl, rfl⟩ ?_)
    clear ho
    rintro r _ _ ⟨k, s, G, rfl, hk, ho, rfl, rfl⟩
    have hn4 := ho.ord.n4
    have hsm := ho.ord.ok.small (by omega)
    repeat' (first
      | refine L_rs ?_
      | refine S_done [] rfl (Nx.goL ?_)
      | refine S_done [] rfl (RetQ.keepN rfl rfl rfl rfl ?_)
      | refine S_done [] rfl ?_
      | refine L_block ?_
      | refine L_ret (RetQ.keep rfl rfl rfl rfl ?_)
      | refine L_true rfl ?_
      | refine L_false rfl ?_
      | refine L_skip (Nx.goL ?_)
      | refine L_skip ?_
      | refine L_exit (Nx.goL ?_)
      | refine L_exit ?_
      | refine L_ifp rfl (by first | exact bD | exact bE | exact bN | exact bNB | exact bEB | exact bNot bD | exact bNot bE | exact bNot bN) (fun h => ?_) (fun h => ?_)
      | refine S_Q [] rfl rfl (QY.idxN rfl rfl (by omega)) ?_
      | refine S_Q [] rfl rfl (QY.add rfl rfl rfl (by omega) (by omega)) ?_
      | refine S_Q [] rfl rfl (QY.sub rfl rfl rfl (by omega) (by omega)) ?_
      | refine S_Q [] rfl rfl (QY.mask rfl rfl (by decide) rfl) ?_
      | refine S_Q [] rfl rfl (QY.ldI rfl rfl (List.getElem?_eq_getElem (by omega))) ?_
      | refine S_Q [] rfl rfl (QY.mul rfl rfl rfl (by omega) (by omega)) ?_
      | refine L_reg ?_
      | refine L_seq ?_
      | exact ⟨rfl, rfl⟩
      | fail)
    · first | refine L_rs ?_ | refine L_reg ?_ | skip
      refine S_Ed [] rfl rfl (EWd.call [1] (mSend_ok s hsm G k ⟨by omega, by omega⟩) rfl rfl (Part.of (by decide) (by repeat' (first | exact trivial | refine ⟨rfl, ?_⟩ | fail))) handed_nil rfl) rfl rfl rfl ?_
      rintro _ _ ⟨_, _, ⟨rfl, G', rfl⟩, rfl, rfl⟩
      refine ⟨(by repeat' (first | exact trivial | refine ⟨⟨qsafe_ok (st := []) rfl, Sure.of rfl⟩, ?_⟩ | refine ⟨.inl rfl, ?_⟩ | refine ⟨.inr ⟨qsafe_ok (st := []) rfl, Sure.of rfl⟩, ?_⟩ | refine ⟨.inr ⟨QY.neqB rfl (by kernel_rfl) rfl rfl, Sure.of rfl⟩, ?_⟩ | refine ⟨.inr ⟨QY.eqlB rfl (by kernel_rfl) rfl rfl, Sure.of rfl⟩, ?_⟩ | fail)), LSt.nf ?_⟩
      conv => whnf
      repeat' (first
        | refine L_rs ?_
        | refine S_done [] rfl (Nx.goL ?_)
        | refine S_done [] rfl (RetQ.keepN rfl rfl rfl rfl ?_)
        | refine S_done [] rfl ?_
        | refine L_block ?_
        | refine L_ret (RetQ.keep rfl rfl rfl rfl ?_)
        | refine L_true rfl ?_
        | refine L_false rfl ?_
        | refine L_skip (Nx.goL ?_)
        | refine L_skip ?_
        | refine L_exit (Nx.goL ?_)
        | refine L_exit ?_
        | refine L_ifp rfl (by first | exact bD | exact bE | exact bN | exact bNB | exact bEB | exact bNot bD | exact bNot bE | exact bNot bN) (fun h => ?_) (fun h => ?_)
        | refine S_Q [] rfl rfl (QY.idxN rfl rfl (by omega)) ?_
        | refine S_Q [] rfl rfl (QY.add rfl rfl rfl (by omega) (by omega)) ?_
        | refine S_Q [] rfl rfl (QY.sub rfl rfl rfl (by omega) (by omega)) ?_
        | refine S_Q [] rfl rfl (QY.mask rfl rfl (by decide) rfl) ?_
        | refine S_Q [] rfl rfl (QY.ldI rfl rfl (List.getElem?_eq_getElem (by omega))) ?_
        | refine S_Q [] rfl rfl (QY.mul rfl rfl rfl (by omega) (by omega)) ?_
        | refine L_reg ?_
        | refine L_seq ?_
        | exact ⟨rfl, rfl⟩
        | fail)
      exact Nx.pick [5, 6, 9] [0, 1, 2] rfl rfl rfl ⟨4 - (k + 1), by omega, k + 1, s.sendTo k s.n, G', rfl, by omega, ho.send (by omega), rfl, rfl⟩
    · obtain rfl : k = 4 := by omega
      exact Nx.pick [5, 6] [0, 1, 2] rfl rfl rfl ⟨s, G, ho, rfl, rfl⟩
  clear ho
  rintro _ _ ⟨s0, G, ho, rfl, rfl⟩
  refine L_cut (fun l L => ∃ (s : Mail) (G : Nat → Prop), OrdT s0 s snt 4 ∧ l = [(5, q1)] ∧ L = OLr s G snt) ?_ ?_
  · refine L_rs (S_done [] rfl (Nx.pick [5, 6, 10] [0, 1, 2] rfl rfl rfl ?_))
    refine L_block (L_loop (fun r l L => ∃ (k : Nat) (s : Mail) (G : Nat → Prop), r = 4 - k ∧ k ≤ 4 ∧ OrdT s0 s snt k ∧ l = [(5, q1), (6, sl 2 snt.length), (10, .int .i64 k)] ∧ L = OLr s G snt) 4 ⟨0, s0, G, rfl, by omega, ho.taken, rfl, rfl⟩ ?_)
    clear ho
    rintro r _ _ ⟨k, s, G, rfl, hk, ho, rfl, rfl⟩
    first
      | refine L_seq (L_rs (S_done [] rfl (Nx.goL (L_ifp rfl (by first | exact bD | exact bE | exact bN | exact bNB | exact bEB | exact bNot bD | exact bNot bE | exact bNot bN) (fun h => L_skip (Nx.goL ?_)) (fun h => L_exit ?_)))))
      | refine L_rs (S_done [] rfl (Nx.goL (L_seq (L_ifp rfl (by first | exact bD | exact bE | exact bN | exact bNB | exact bEB | exact bNot bD | exact bNot bE | exact bNot bN) (fun h => L_skip (Nx.goL ?_)) (fun h => L_exit ?_)))))
    · have hk4 : k < 4 := by omega
      have hlen := ho.len
      refine L_seq (L_block (L_rs (S_done [] rfl (Nx.goL ?_))))
      refine LWp.nilE 11 1 rfl ?_
      refine L_cut (fun l L => ∃ (s : Mail) (G : Nat → Prop), OrdT s0 s snt (k + 1) ∧ l = [(5, q1), (6, sl 2 snt.length), (10, .int .i64 k), (11, sl 3 (s0.row k).length)] ∧ L = OLg s G snt (s0.row k)) ?_ ?_
      · refine L_rs (S_done [] rfl (Nx.pick [5, 6, 10, 11, 12] [0, 1, 2, 3] rfl rfl rfl ?_))
        refine L_block (L_loop (fun r l L => ∃ (i : Nat) (s : Mail) (G : Nat → Prop) (g : List Int), r = 41 - i ∧ i ≤ 41 ∧ g = (s0.row k).take i ∧ OrdU s0 s snt k i ∧ l = [(5, q1), (6, sl 2 snt.length), (10, .int .i64 k), (11, sl 3 g.length), (12, .int .i64 i)] ∧ L = OLg s G snt g) 41 ⟨0, s, G, [], rfl, by omega, rfl, ho.begin, rfl, rfl⟩ ?_)
        clear ho
        rintro r _ _ ⟨i, s, G, g, rfl, hi, hg, ho, rfl, rfl⟩
        have hrl := ho.rlen hk4
        have hgl : g.length ≤ 40 := by rw [hg, List.length_take]; omega
        have hn4 := ho.n4
        have hcur := ho.cur hk4
        repeat' (first
          | refine L_rs ?_
          | refine S_done [] rfl (Nx.goL ?_)
          | refine S_done [] rfl (RetQ.keepN rfl rfl rfl rfl ?_)
          | refine S_done [] rfl ?_
          | refine L_block ?_
          | refine L_ret (RetQ.keep rfl rfl rfl rfl ?_)
          | refine L_true rfl ?_
          | refine L_false rfl ?_
          | refine L_skip (Nx.goL ?_)
          | refine L_skip ?_
          | refine L_exit (Nx.goL ?_)
          | refine L_exit ?_
          | refine L_ifp rfl (by first | exact bD | exact bE | exact bN | exact bNB | exact bEB | exact bNot bD | exact bNot bE | exact bNot bN) (fun h => ?_) (fun h => ?_)
          | refine S_Q [] rfl rfl (QY.idxN rfl rfl (by omega)) ?_
          | refine L_reg ?_
          | refine L_seq ?_
          | exact ⟨rfl, rfl⟩
          | fail)
        · by_cases hlt : i < (s0.row k).length
          · obtain ⟨x, hx⟩ : ∃ x, (s0.row k)[i]? = some x := ⟨_, List.getElem?_eq_getElem hlt⟩
            have hrow : s.row (k : Int).toNat = x :: (s0.row k).drop (i + 1) := by
              rw [Int.toNat_natCast, hcur, List.drop_eq_getElem_cons hlt]
              rw [List.getElem?_eq_getElem hlt] at hx
              cases hx; rfl
            first | refine L_rs ?_ | refine L_reg ?_ | skip
            refine S_Ed [] rfl rfl (EWd.call [1] (mNext_ok s G k x ⟨by omega, by omega⟩ hrow) rfl rfl (Part.of (by decide) (by repeat' (first | exact trivial | refine ⟨rfl, ?_⟩ | fail))) handed_nil rfl) rfl rfl rfl ?_
            rintro _ _ ⟨_, _, ⟨rfl, G', rfl⟩, rfl, rfl⟩
            refine ⟨(by repeat' (first | exact trivial | refine ⟨⟨qsafe_ok (st := []) rfl, Sure.of rfl⟩, ?_⟩ | refine ⟨.inl rfl, ?_⟩ | refine ⟨.inr ⟨qsafe_ok (st := []) rfl, Sure.of rfl⟩, ?_⟩ | refine ⟨.inr ⟨QY.neqB rfl (by kernel_rfl) rfl rfl, Sure.of rfl⟩, ?_⟩ | refine ⟨.inr ⟨QY.eqlB rfl (by kernel_rfl) rfl rfl, Sure.of rfl⟩, ?_⟩ | fail)), LSt.nf ?_⟩
            conv => whnf
            repeat' (first
              | refine L_rs ?_
              | refine S_done [] rfl (Nx.goL ?_)
              | refine S_done [] rfl (RetQ.keepN rfl rfl rfl rfl ?_)
              | refine S_done [] rfl ?_
              | refine L_block ?_
              | refine L_ret (RetQ.keep rfl rfl rfl rfl ?_)
              | refine L_true rfl ?_
              | refine L_false rfl ?_
              | refine L_skip (Nx.goL ?_)
              | refine L_skip ?_
              | refine L_exit (Nx.goL ?_)
              | refine L_exit ?_
              | refine L_ifp rfl (by first | exact bD | exact bE | exact bN | exact bNB | exact bEB | exact bNot bD | exact bNot bE | exact bNot bN) (fun h => ?_) (fun h => ?_)
              | refine S_Q [] rfl rfl (QY.idxN rfl rfl (by omega)) ?_
              | refine S_Q [] rfl rfl (QY.add rfl rfl rfl (by omega) (by omega)) ?_
              | refine S_Q [] rfl rfl (QY.sub rfl rfl rfl (by omega) (by omega)) ?_
              | refine S_Q [] rfl rfl (QY.mask rfl rfl (by decide) rfl) ?_
              | refine S_Q [] rfl rfl (QY.ldI rfl rfl (List.getElem?_eq_getElem (by omega))) ?_
              | refine S_Q [] rfl rfl (QY.mul rfl rfl rfl (by omega) (by omega)) ?_
              | refine L_reg ?_
              | refine L_seq ?_
              | exact ⟨rfl, rfl⟩
              | fail)
            first | refine L_rs ?_ | refine L_reg ?_ | skip
            refine S_E [] rfl rfl (EW.appR1 (bytes := 8) (a := x) intC_ok rfl (by kernel_rfl) rfl rfl rfl rfl rfl (by omega)) ?_
            rintro _ _ ⟨rfl, rfl⟩
            refine ⟨(by repeat' (first | exact trivial | refine ⟨⟨qsafe_ok (st := []) rfl, Sure.of rfl⟩, ?_⟩ | refine ⟨.inl rfl, ?_⟩ | refine ⟨.inr ⟨qsafe_ok (st := []) rfl, Sure.of rfl⟩, ?_⟩ | refine ⟨.inr ⟨QY.neqB rfl (by kernel_rfl) rfl rfl, Sure.of rfl⟩, ?_⟩ | refine ⟨.inr ⟨QY.eqlB rfl (by kernel_rfl) rfl rfl, Sure.of rfl⟩, ?_⟩ | fail)), LSt.nf ?_⟩
            conv => whnf
            repeat' (first
              | refine L_rs ?_
              | refine S_done [] rfl (Nx.goL ?_)
              | refine S_done [] rfl (RetQ.keepN rfl rfl rfl rfl ?_)
              | refine S_done [] rfl ?_
              | refine L_block ?_
              | refine L_ret (RetQ.keep rfl rfl rfl rfl ?_)
              | refine L_true rfl ?_
              | refine L_false rfl ?_
              | refine L_skip (Nx.goL ?_)
              | refine L_skip ?_
              | refine L_exit (Nx.goL ?_)
              | refine L_exit ?_
              | refine L_ifp rfl (by first | exact bD | exact bE | exact bN | exact bNB | exact bEB | exact bNot bD | exact bNot bE | exact bNot bN) (fun h => ?_) (fun h => ?_)
              | refine S_Q [] rfl rfl (QY.idxN rfl rfl (by omega)) ?_
              | refine S_Q [] rfl rfl (QY.add rfl rfl rfl (by omega) (by omega)) ?_
              | refine S_Q [] rfl rfl (QY.sub rfl rfl rfl (by omega) (by omega)) ?_
              | refine S_Q [] rfl rfl (QY.mask rfl rfl (by decide) rfl) ?_
              | refine S_Q [] rfl rfl (QY.ldI rfl rfl (List.getElem?_eq_getElem (by omega))) ?_
              | refine S_Q [] rfl rfl (QY.mul rfl rfl rfl (by omega) (by omega)) ?_
              | refine L_reg ?_
              | refine L_seq ?_
              | exact ⟨rfl, rfl⟩
              | fail)
            refine Nx.pick [5, 6, 10, 11, 12] [0, 1, 2, 5] rfl rfl rfl ⟨41 - (i + 1), by omega, i + 1, s.next k, G', g ++ [x], rfl, by omega, ?_, ho.next hk4 hlt, by rw [List.length_append]; rfl, rfl⟩
            rw [hg, List.take_add_one, hx]; rfl
          · have hz : s.waits k = 0 := by
              unfold Mail.waits
              rw [if_pos ⟨by omega, by omega⟩, Int.toNat_natCast, hcur, List.drop_of_length_le (by omega)]; rfl
            first | refine L_rs ?_ | refine L_reg ?_ | skip
            refine S_Ed [] rfl rfl (EWd.callP [1] (mNext_none s G k hz) rfl rfl (by decide) (by repeat' (first | exact trivial | refine ⟨rfl, ?_⟩ | fail)) rfl rfl) (disj_nil _) (nm_nilE _) (nm_nilT _) ?_
            rintro _ _ ⟨rfl, rfl⟩
            refine ⟨(by repeat' (first | exact trivial | refine ⟨⟨qsafe_ok (st := []) rfl, Sure.of rfl⟩, ?_⟩ | refine ⟨.inl rfl, ?_⟩ | refine ⟨.inr ⟨qsafe_ok (st := []) rfl, Sure.of rfl⟩, ?_⟩ | refine ⟨.inr ⟨QY.neqB rfl (by kernel_rfl) rfl rfl, Sure.of rfl⟩, ?_⟩ | refine ⟨.inr ⟨QY.eqlB rfl (by kernel_rfl) rfl rfl, Sure.of rfl⟩, ?_⟩ | fail)), ?_⟩
            repeat' (first
              | refine L_rs ?_
              | refine S_done [] rfl (Nx.goL ?_)
              | refine S_done [] rfl (RetQ.keepN rfl rfl rfl rfl ?_)
              | refine S_done [] rfl ?_
              | refine L_block ?_
              | refine L_ret (RetQ.keep rfl rfl rfl rfl ?_)
              | refine L_true rfl ?_
              | refine L_false rfl ?_
              | refine L_skip (Nx.goL ?_)
              | refine L_skip ?_
              | refine L_exit (Nx.goL ?_)
              | refine L_exit ?_
              | refine L_ifp rfl (by first | exact bD | exact bE | exact bN | exact bNB | exact bEB | exact bNot bD | exact bNot bE | exact bNot bN) (fun h => ?_) (fun h => ?_)
              | refine S_Q [] rfl rfl (QY.idxN rfl rfl (by omega)) ?_
              | refine S_Q [] rfl rfl (QY.add rfl rfl rfl (by omega) (by omega)) ?_
              | refine S_Q [] rfl rfl (QY.sub rfl rfl rfl (by omega) (by omega)) ?_
              | refine S_Q [] rfl rfl (QY.mask rfl rfl (by decide) rfl) ?_
              | refine S_Q [] rfl rfl (QY.ldI rfl rfl (List.getElem?_eq_getElem (by omega))) ?_
              | refine S_Q [] rfl rfl (QY.mul rfl rfl rfl (by omega) (by omega)) ?_
              | refine L_reg ?_
              | refine L_seq ?_
              | exact ⟨rfl, rfl⟩
              | fail)
            refine Nx.pick [5, 6, 10, 11, 12] [0, 1, 2, 3] rfl rfl rfl ⟨41 - (i + 1), by omega, i + 1, s, G, g, rfl, by omega, ?_, ho.idle (by omega), rfl, rfl⟩
            rw [hg, List.take_of_length_le (by omega), List.take_of_length_le (by omega)]
        · obtain rfl : i = 41 := by omega
          rw [List.take_of_length_le (by omega)] at hg
          subst hg
          exact Nx.pick [5, 6, 10, 11] [0, 1, 2, 3] rfl rfl rfl ⟨s, G, ho.over (by omega), rfl, rfl⟩
      clear ho
      rintro _ _ ⟨s, G, ho, rfl, rfl⟩
      have hinn := ho.inn
      have hsub := fun f hf => ho.sub f k hf hk4
      have hcnt := ho.cnt k hk4
      have hgl : (s0.row k).length ≤ 40 := by rw [hcnt]; exact Nat.le_trans List.countP_le_length hlen
      generalize s0.row k = g at hsub hcnt hgl
      refine L_rs (S_done [] rfl (Nx.goL ?_))
      refine L_cut (fun l L => l = [(5, q1), (6, sl 2 snt.length), (10, .int .i64 k), (11, sl 3 g.length), (15, .int .i64 g.length)] ∧ L = OLg s G snt g) ?_ ?_
      · refine L_rs (S_done [] rfl (Nx.pick [5, 6, 10, 11, 15, 16] [0, 1, 2, 3] rfl rfl rfl ?_))
        refine L_block (L_loop (fun r l L => ∃ f : Nat, r = 4 - f ∧ f ≤ 4 ∧ l = [(5, q1), (6, sl 2 snt.length), (10, .int .i64 k), (11, sl 3 g.length), (15, .int .i64 (cntO snt k f 0)), (16, .int .i64 f)] ∧ L = OLg s G snt g) 4 ⟨0, rfl, by omega, by rw [cntO_zero snt k fun o ho => (hinn o ho).1.1]; rfl, rfl⟩ ?_)
        rintro r _ _ ⟨f, rfl, hf, rfl, rfl⟩
        first
          | refine L_seq (L_rs (S_done [] rfl (Nx.goL (L_ifp rfl (by first | exact bD | exact bE | exact bN | exact bNB | exact bEB | exact bNot bD | exact bNot bE | exact bNot bN) (fun h => L_skip (Nx.goL ?_)) (fun h => L_exit ?_)))))
          | refine L_rs (S_done [] rfl (Nx.goL (L_seq (L_ifp rfl (by first | exact bD | exact bE | exact bN | exact bNB | exact bEB | exact bNot bD | exact bNot bE | exact bNot bN) (fun h => L_skip (Nx.goL ?_)) (fun h => L_exit ?_)))))
        · have hf4 : f < 4 := by omega
          have hs := hsub f hf4
          refine L_seq (L_block (L_rs (S_done [] rfl (Nx.goL (L_rs (S_done [] rfl (Nx.pick [5, 6, 10, 11, 15, 16, 17, 88, 89, 90] [0, 1, 2, 3] rfl rfl rfl ?_)))))))
          refine L_block (L_loop (fun r l L => ∃ j c : Nat, r = snt.length - j ∧ j ≤ snt.length ∧ c ≤ g.length ∧ List.Sublist (sentP f k (snt.drop j)) (g.drop c) ∧ l = [(5, q1), (6, sl 2 snt.length), (10, .int .i64 k), (11, sl 3 g.length), (15, .int .i64 (cntO snt k f j)), (16, .int .i64 f), (17, .int .i64 c), (88, sl 2 snt.length), (89, .int .i64 snt.length), (90, .int .i64 j)] ∧ L = OLg s G snt g) snt.length ⟨0, 0, rfl, by omega, by omega, hs, rfl, rfl⟩ ?_)
          rintro r _ _ ⟨j, c, rfl, hj, hc, hsj, rfl, rfl⟩
          first
            | refine L_seq (L_rs (S_done [] rfl (Nx.goL (L_ifp rfl (by first | exact bD | exact bE | exact bN | exact bNB | exact bEB | exact bNot bD | exact bNot bE | exact bNot bN) (fun h => L_skip (Nx.goL ?_)) (fun h => L_exit ?_)))))
            | refine L_rs (S_done [] rfl (Nx.goL (L_seq (L_ifp rfl (by first | exact bD | exact bE | exact bN | exact bNB | exact bEB | exact bNot bD | exact bNot bE | exact bNot bN) (fun h => L_skip (Nx.goL ?_)) (fun h => L_exit ?_)))))
          · have hjl : j < snt.length := by omega
            obtain ⟨o, hoj⟩ : ∃ o, snt[j]? = some o := ⟨_, List.getElem?_eq_getElem hjl⟩
            have hdj : snt.drop j = o :: snt.drop (j + 1) := by
              rw [List.drop_eq_getElem_cons hjl]
              rw [List.getElem?_eq_getElem hjl] at hoj
              cases hoj; rfl
            have hstep := cntO_step (t := k) (f := f) hoj
            have hle := cntO_le snt k f j
            rw [hdj, sentP_cons] at hsj
            repeat' (first
              | refine L_rs ?_
              | refine S_done [] rfl (Nx.goL ?_)
              | refine S_done [] rfl (RetQ.keepN rfl rfl rfl rfl ?_)
              | refine S_done [] rfl ?_
              | refine L_block ?_
              | refine L_ret (RetQ.keep rfl rfl rfl rfl ?_)
              | refine L_true rfl ?_
              | refine L_false rfl ?_
              | refine L_skip (Nx.goL ?_)
              | refine L_skip ?_
              | refine L_exit (Nx.goL ?_)
              | refine L_exit ?_
              | refine L_ifp rfl (by first | exact bD | exact bE | exact bN | exact bNB | exact bEB | exact bNot bD | exact bNot bE | exact bNot bN) (fun h => ?_) (fun h => ?_)
              | refine S_Q [] rfl rfl (QY.idxN rfl rfl (by omega)) ?_
              | refine S_Q [] rfl rfl (QY.ldRow ROp.ok rfl rfl hoj (by omega)) ?_
              | refine S_Q [] rfl rfl (QY.add rfl rfl rfl (by omega) (by omega)) ?_
              | refine S_Q [] rfl rfl (QY.sub rfl rfl rfl (by omega) (by omega)) ?_
              | refine S_Q [] rfl rfl (QY.mask rfl rfl (by decide) rfl) ?_
              | refine S_Q [] rfl rfl (QY.ldI rfl rfl (List.getElem?_eq_getElem (by omega))) ?_
              | refine S_Q [] rfl rfl (QY.mul rfl rfl rfl (by omega) (by omega)) ?_
              | refine S_splitp 98 rfl rfl rfl (by first | exact bD | exact bE | exact bN | exact bNB | exact bEB | exact bNot bD | exact bNot bE | exact bNot bN) (fun h => ?_) (fun h => ?_)
              | refine L_reg ?_
              | refine L_seq ?_
              | exact ⟨rfl, rfl⟩
              | fail)
            · rw [if_neg (by omega)] at hstep hsj
              exact Nx.pick [5, 6, 10, 11, 15, 16, 17, 88, 89, 90] [0, 1, 2, 3] rfl rfl rfl ⟨snt.length - (j + 1), by omega, j + 1, c, rfl, by omega, hc, hsj, by rw [hstep]; rfl, rfl⟩
            · rw [if_neg (by omega)] at hstep hsj
              exact Nx.pick [5, 6, 10, 11, 15, 16, 17, 88, 89, 90] [0, 1, 2, 3] rfl rfl rfl ⟨snt.length - (j + 1), by omega, j + 1, c, rfl, by omega, hc, hsj, by rw [hstep]; rfl, rfl⟩
            rw [if_pos (by omega)] at hstep hsj
            refine LWp.pick [5, 6, 10, 11, 15, 16, 17, 19, 88, 89, 90] [0, 1, 2, 3, 4] rfl rfl rfl ?_
            refine L_loop (fun r l L => ∃ c : Nat, r = g.length - c ∧ c ≤ g.length ∧ List.Sublist (o.a :: sentP f k (snt.drop (j + 1))) (g.drop c) ∧ l = [(5, q1), (6, sl 2 snt.length), (10, .int .i64 k), (11, sl 3 g.length), (15, .int .i64 (cntO snt k f (j + 1))), (16, .int .i64 f), (17, .int .i64 c), (19, .pointer (some ⟨4, 0, none⟩)), (88, sl 2 snt.length), (89, .int .i64 snt.length), (90, .int .i64 j)] ∧ L = OLg s G snt g ++ [.cells 0 o.cells]) (g.length - c) ⟨c, rfl, hc, hsj, by rw [hstep]; rfl, rfl⟩ ?_
            clear hsj hc c
            rintro r _ _ ⟨c, rfl, hc, hsj, rfl, rfl⟩
            have hcl : c < g.length := by
              rcases Nat.lt_or_ge c g.length with h | h
              · exact h
              · rw [List.drop_of_length_le h] at hsj; cases hsj
            rw [List.drop_eq_getElem_cons hcl] at hsj
            repeat' (first
              | refine L_rs ?_
              | refine S_done [] rfl (Nx.goL ?_)
              | refine S_done [] rfl (RetQ.keepN rfl rfl rfl rfl ?_)
              | refine S_done [] rfl ?_
              | refine L_block ?_
              | refine L_ret (RetQ.keep rfl rfl rfl rfl ?_)
              | refine L_true rfl ?_
              | refine L_false rfl ?_
              | refine L_skip (Nx.goL ?_)
              | refine L_skip ?_
              | refine L_exit (Nx.goL ?_)
              | refine L_exit ?_
              | refine L_ifp rfl (by first | exact bD | exact bE | exact bN | exact bNB | exact bEB | exact bNot bD | exact bNot bE | exact bNot bN) (fun h => ?_) (fun h => ?_)
              | refine S_Q [] rfl rfl (QY.idxN rfl rfl (by omega)) ?_
              | refine S_Q [] rfl rfl (QY.add rfl rfl rfl (by omega) (by omega)) ?_
              | refine S_Q [] rfl rfl (QY.sub rfl rfl rfl (by omega) (by omega)) ?_
              | refine S_Q [] rfl rfl (QY.mask rfl rfl (by decide) rfl) ?_
              | refine S_Q [] rfl rfl (QY.ldI rfl rfl (List.getElem?_eq_getElem (by omega))) ?_
              | refine S_Q [] rfl rfl (QY.mul rfl rfl rfl (by omega) (by omega)) ?_
              | refine S_splitp 110 rfl rfl rfl (by first | exact bD | exact bE | exact bN | exact bNB | exact bEB | exact bNot bD | exact bNot bE | exact bNot bN) (fun h => ?_) (fun h => ?_)
              | refine L_reg ?_
              | refine L_seq ?_
              | exact ⟨rfl, rfl⟩
              | fail)
            all_goals try (exfalso; omega)
            · exact Nx.pick [5, 6, 10, 11, 15, 16, 17, 19, 88, 89, 90] [0, 1, 2, 3, 4] rfl rfl rfl ⟨g.length - (c + 1), by omega, c + 1, rfl, by omega, sub_skip hsj h, rfl, rfl⟩
            · exact Nx.pick [5, 6, 10, 11, 15, 16, 17, 88, 89, 90] [0, 1, 2, 3] rfl rfl rfl ⟨snt.length - (j + 1), by omega, j + 1, c + 1, rfl, by omega, by omega, sub_take hsj, rfl, rfl⟩
          · obtain rfl : j = snt.length := by omega
            refine Nx.goL ?_
            repeat' (first
              | refine L_rs ?_
              | refine S_done [] rfl (Nx.goL ?_)
              | refine S_done [] rfl (RetQ.keepN rfl rfl rfl rfl ?_)
              | refine S_done [] rfl ?_
              | refine L_block ?_
              | refine L_ret (RetQ.keep rfl rfl rfl rfl ?_)
              | refine L_true rfl ?_
              | refine L_false rfl ?_
              | refine L_skip (Nx.goL ?_)
              | refine L_skip ?_
              | refine L_exit (Nx.goL ?_)
              | refine L_exit ?_
              | refine L_ifp rfl (by first | exact bD | exact bE | exact bN | exact bNB | exact bEB | exact bNot bD | exact bNot bE | exact bNot bN) (fun h => ?_) (fun h => ?_)
              | refine S_Q [] rfl rfl (QY.idxN rfl rfl (by omega)) ?_
              | refine S_Q [] rfl rfl (QY.add rfl rfl rfl (by omega) (by omega)) ?_
              | refine S_Q [] rfl rfl (QY.sub rfl rfl rfl (by omega) (by omega)) ?_
              | refine S_Q [] rfl rfl (QY.mask rfl rfl (by decide) rfl) ?_
              | refine S_Q [] rfl rfl (QY.ldI rfl rfl (List.getElem?_eq_getElem (by omega))) ?_
              | refine S_Q [] rfl rfl (QY.mul rfl rfl rfl (by omega) (by omega)) ?_
              | refine L_reg ?_
              | refine L_seq ?_
              | exact ⟨rfl, rfl⟩
              | fail)
            exact Nx.pick [5, 6, 10, 11, 15, 16] [0, 1, 2, 3] rfl rfl rfl ⟨4 - (f + 1), by omega, f + 1, rfl, by omega, by rw [← cntO_next]; rfl, rfl⟩
        · obtain rfl : f = 4 := by omega
          exact Nx.pick [5, 6, 10, 11, 15] [0, 1, 2, 3] rfl rfl rfl ⟨by rw [cntO_all snt k fun o ho => (hinn o ho).1.2, ← hcnt]; rfl, rfl⟩
      rintro _ _ ⟨rfl, rfl⟩
      repeat' (first
        | refine L_rs ?_
        | refine S_done [] rfl (Nx.goL ?_)
        | refine S_done [] rfl (RetQ.keepN rfl rfl rfl rfl ?_)
        | refine S_done [] rfl ?_
        | refine L_block ?_
        | refine L_ret (RetQ.keep rfl rfl rfl rfl ?_)
        | refine L_true rfl ?_
        | refine L_false rfl ?_
        | refine L_skip (Nx.goL ?_)
        | refine L_skip ?_
        | refine L_exit (Nx.goL ?_)
        | refine L_exit ?_
        | refine L_ifp rfl (by first | exact bD | exact bE | exact bN | exact bNB | exact bEB | exact bNot bD | exact bNot bE | exact bNot bN) (fun h => ?_) (fun h => ?_)
        | refine S_Q [] rfl rfl (QY.idxN rfl rfl (by omega)) ?_
        | refine S_Q [] rfl rfl (QY.add rfl rfl rfl (by omega) (by omega)) ?_
        | refine S_Q [] rfl rfl (QY.sub rfl rfl rfl (by omega) (by omega)) ?_
        | refine S_Q [] rfl rfl (QY.mask rfl rfl (by decide) rfl) ?_
        | refine S_Q [] rfl rfl (QY.ldI rfl rfl (List.getElem?_eq_getElem (by omega))) ?_
        | refine S_Q [] rfl rfl (QY.mul rfl rfl rfl (by omega) (by omega)) ?_
        | refine L_reg ?_
        | refine L_seq ?_
        | exact ⟨rfl, rfl⟩
        | fail)
      · exact absurd rfl h
      exact Nx.pick [5, 6, 10] [0, 1, 2] rfl rfl rfl ⟨4 - (k + 1), by omega, k + 1, s, G, rfl, by omega, ho, rfl, rfl⟩
    · obtain rfl : k = 4 := by omega
      exact Nx.pick [5] [0, 1, 2] rfl rfl rfl ⟨s, G, ho, rfl, rfl⟩
  clear ho
  rintro _ _ ⟨s, G, ho, rfl, rfl⟩
  have hA := mAll_tr s (ho.ok.small (by omega)) G
  rw [ho.none_all] at hA
  first | refine L_rs ?_ | refine L_reg ?_ | skip
  refine S_E [] rfl rfl (EW.callF [1] (hA) rfl rfl (by decide) (by repeat' (first | exact trivial | refine ⟨rfl, ?_⟩ | fail)) rfl rfl) ?_
  rintro _ _ ⟨rfl, rfl⟩
  refine ⟨(by repeat' (first | exact trivial | refine ⟨⟨qsafe_ok (st := []) rfl, Sure.of rfl⟩, ?_⟩ | refine ⟨.inl rfl, ?_⟩ | refine ⟨.inr ⟨qsafe_ok (st := []) rfl, Sure.of rfl⟩, ?_⟩ | refine ⟨.inr ⟨QY.neqB rfl (by kernel_rfl) rfl rfl, Sure.of rfl⟩, ?_⟩ | refine ⟨.inr ⟨QY.eqlB rfl (by kernel_rfl) rfl rfl, Sure.of rfl⟩, ?_⟩ | fail)), LSt.nf ?_⟩
  conv => whnf
  repeat' (first
    | refine L_rs ?_
    | refine S_done [] rfl (Nx.goL ?_)
    | refine S_done [] rfl (RetQ.keepN rfl rfl rfl rfl ?_)
    | refine S_done [] rfl ?_
    | refine L_block ?_
    | refine L_ret (RetQ.keep rfl rfl rfl rfl ?_)
    | refine L_true rfl ?_
    | refine L_false rfl ?_
    | refine L_skip (Nx.goL ?_)
    | refine L_skip ?_
    | refine L_exit (Nx.goL ?_)
    | refine L_exit ?_
    | refine L_ifp rfl (by first | exact bD | exact bE | exact bN | exact bNB | exact bEB | exact bNot bD | exact bNot bE | exact bNot bN) (fun h => ?_) (fun h => ?_)
    | refine S_Q [] rfl rfl (QY.idxN rfl rfl (by omega)) ?_
    | refine S_Q [] rfl rfl (QY.add rfl rfl rfl (by omega) (by omega)) ?_
    | refine S_Q [] rfl rfl (QY.sub rfl rfl rfl (by omega) (by omega)) ?_
    | refine S_Q [] rfl rfl (QY.mask rfl rfl (by decide) rfl) ?_
    | refine S_Q [] rfl rfl (QY.ldI rfl rfl (List.getElem?_eq_getElem (by omega))) ?_
    | refine S_Q [] rfl rfl (QY.mul rfl rfl rfl (by omega) (by omega)) ?_
    | refine L_reg ?_
    | refine L_seq ?_
    | exact ⟨rfl, rfl⟩
    | fail)
  first | refine L_rs ?_ | refine L_reg ?_ | skip
  refine S_Ed [] rfl rfl (EWd.callP [] (awakeO_tr) rfl rfl (by decide) (by repeat' (first | exact trivial | refine ⟨rfl, ?_⟩ | fail)) rfl rfl) (disj_nil _) (nm_nilE _) (nm_nilT _) ?_
  rintro _ _ ⟨rfl, rfl⟩
  refine ⟨(by repeat' (first | exact trivial | refine ⟨⟨qsafe_ok (st := []) rfl, Sure.of rfl⟩, ?_⟩ | refine ⟨.inl rfl, ?_⟩ | refine ⟨.inr ⟨qsafe_ok (st := []) rfl, Sure.of rfl⟩, ?_⟩ | refine ⟨.inr ⟨QY.neqB rfl (by kernel_rfl) rfl rfl, Sure.of rfl⟩, ?_⟩ | refine ⟨.inr ⟨QY.eqlB rfl (by kernel_rfl) rfl rfl, Sure.of rfl⟩, ?_⟩ | fail)), ?_⟩
  repeat' (first
    | refine L_rs ?_
    | refine S_done [] rfl (Nx.goL ?_)
    | refine S_done [] rfl (RetQ.keepN rfl rfl rfl rfl ?_)
    | refine S_done [] rfl ?_
    | refine L_block ?_
    | refine L_ret (RetQ.keep rfl rfl rfl rfl ?_)
    | refine L_true rfl ?_
    | refine L_false rfl ?_
    | refine L_skip (Nx.goL ?_)
    | refine L_skip ?_
    | refine L_exit (Nx.goL ?_)
    | refine L_exit ?_
    | refine L_ifp rfl (by first | exact bD | exact bE | exact bN | exact bNB | exact bEB | exact bNot bD | exact bNot bE | exact bNot bN) (fun h => ?_) (fun h => ?_)
    | refine S_Q [] rfl rfl (QY.idxN rfl rfl (by omega)) ?_
    | refine S_Q [] rfl rfl (QY.add rfl rfl rfl (by omega) (by omega)) ?_
    | refine S_Q [] rfl rfl (QY.sub rfl rfl rfl (by omega) (by omega)) ?_
    | refine S_Q [] rfl rfl (QY.mask rfl rfl (by decide) rfl) ?_
    | refine S_Q [] rfl rfl (QY.ldI rfl rfl (List.getElem?_eq_getElem (by omega))) ?_
    | refine S_Q [] rfl rfl (QY.mul rfl rfl rfl (by omega) (by omega)) ?_
    | refine L_reg ?_
    | refine L_seq ?_
    | exact ⟨rfl, rfl⟩
    | fail)
  rfl

theorem rops_in {cs : List Value} (h : Fits [some .i64, some .i64, some .i64, some .i64] cs) : ∃ o : ROp, cs = o.cells := by
  obtain ⟨a, _, rfl, _, h⟩ := h.int
  obtain ⟨b, _, rfl, _, h⟩ := h.int
  obtain ⟨c, _, rfl, _, h⟩ := h.int
  obtain ⟨d, _, rfl, _, h⟩ := h.int
  obtain rfl := h.nil
  exact ⟨⟨a, b, c, d⟩, rfl⟩
theorem RemoteOrder_does (w : World) (batch : Int) {v : Value} {n : Nat} {get : Nat → List Value} (hr : SlIn w 4 v n get) (hf : ∀ i, i < n → Fits [some .i64, some .i64, some .i64, some .i64] (get i)) :
    Does Try.prog 3 #[.int .i64 batch, v] w fun v w' => v = .bool true ∧ Fr (fun _ => False) w w' := by
  obtain ⟨op, hop⟩ := choose_lt (n := n) (p := fun i (o : ROp) => get i = o.cells) fun i hi => rops_in (hf i hi)
  obtain ⟨hn, r, hr⟩ := hr
  obtain ⟨h1, h2⟩ := hr [r] 0 rfl
  exact (RemoteOrder_tr batch n hn get op hop).law (vs' := [.int .i64 batch, v]) [r] w rfl (by intro x hx; cases List.mem_singleton.1 hx; exact ⟨rfl, h2⟩) ⟨rfl, h1, trivial⟩
end Go.Proofs.Ytgfkadmpakgmeaa
