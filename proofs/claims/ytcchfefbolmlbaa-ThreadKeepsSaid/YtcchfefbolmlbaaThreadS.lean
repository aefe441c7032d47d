/-
  Layer 29: both tables stand alike.
-/
import Derived.Test.YtcchfefbolmlbaaThreadL
namespace Go.Proofs.Ytcchfefbolmlbaa
open Go Go.Tum

theorem thAt_up (t : Tb) (k : Int) : thAt (up t).l k = thAt t.l k := rfl
theorem same_tr (t : Tb) (ht : t.Ok) : Tr Try.prog 15 [tp, rp] (PL t) (fun v K => v = .bool true ∧ K = PL t) := by
  have h64 : t.l.length ≤ 64 := by have := ht.most; have := ht.len; omega
  have h16 := ht.mus
  have hup : (up t).l.length = t.l.length := rfl
  have hum := up_len t
  refine Tr.of row_tumbrellaw29_same_ok rfl ?_
  repeat' (first
    | refine L_rs ?_
    | refine S_done [] rfl (Nx.go ?_)
    | refine S_done [] rfl (RetQ.keepN rfl rfl rfl rfl ?_)
    | refine L_block ?_
    | refine L_ret (RetQ.keep rfl rfl rfl rfl ?_)
    | refine L_true rfl ?_
    | refine L_false rfl ?_
    | refine L_skip (Nx.go ?_)
    | refine L_ifp rfl (by first | exact bD | exact bE | exact bN | exact bNB | exact bEB | exact bNot bD | exact bNot bE | exact bNot bN) (fun h => ?_) (fun h => ?_)
    | refine S_Q [] rfl rfl (QY.idxN rfl rfl (by omega)) ?_
    | refine L_reg ?_
    | refine L_seq ?_
    | exact ⟨rfl, rfl⟩
    | fail)
  first | refine L_rs ?_ | refine L_reg ?_ | skip
  refine S_Ed [] rfl rfl (EWd.callP [0, 1, 2] (Len_tr t) rfl rfl (by decide) (by repeat' (first | exact trivial | refine ⟨rfl, ?_⟩ | fail)) rfl rfl) (disj_nil _) (nm_nilE _) (nm_nilT _) ?_
  rintro _ _ ⟨rfl, rfl⟩
  refine ⟨(by repeat' (first | exact trivial | refine ⟨⟨qsafe_ok (st := []) rfl, Sure.of rfl⟩, ?_⟩ | refine ⟨.inl rfl, ?_⟩ | refine ⟨.inr ⟨qsafe_ok (st := []) rfl, Sure.of rfl⟩, ?_⟩ | refine ⟨.inr ⟨QY.neqB rfl (by kernel_rfl) rfl rfl, Sure.of rfl⟩, ?_⟩ | refine ⟨.inr ⟨QY.eqlB rfl (by kernel_rfl) rfl rfl, Sure.of rfl⟩, ?_⟩ | fail)), ?_⟩
  repeat' (first
    | refine L_rs ?_
    | refine S_done [] rfl (Nx.go ?_)
    | refine S_done [] rfl (RetQ.keepN rfl rfl rfl rfl ?_)
    | refine L_block ?_
    | refine L_ret (RetQ.keep rfl rfl rfl rfl ?_)
    | refine L_true rfl ?_
    | refine L_false rfl ?_
    | refine L_skip (Nx.go ?_)
    | refine L_ifp rfl (by first | exact bD | exact bE | exact bN | exact bNB | exact bEB | exact bNot bD | exact bNot bE | exact bNot bN) (fun h => ?_) (fun h => ?_)
    | refine S_Q [] rfl rfl (QY.idxN rfl rfl (by omega)) ?_
    | refine L_reg ?_
    | refine L_seq ?_
    | exact ⟨rfl, rfl⟩
    | fail)
  · exact absurd rfl h
  refine LWp.pick [0, 1, 5] [0, 1, 2, 3, 4, 5] rfl rfl rfl ?_
  refine (L_loop (fun r l L => ∃ k : Int, r = ((t.l.length : Int) + 1 - k).toNat ∧ -1 ≤ k ∧ k ≤ t.l.length + 1 ∧ l = [(0, tp), (1, rp), (5, .int .i64 k)] ∧ L = PL t) (t.l.length + 2) ⟨-1, by omega, by omega, by omega, rfl, rfl⟩ ?_)
  rintro r _ _ ⟨k, rfl, hk1, hk2, rfl, rfl⟩
  refine L_seq (L_rs (S_done [] rfl (Nx.go (L_ifp rfl (by first | exact bD | exact bE | exact bN | exact bNB | exact bEB | exact bNot bD | exact bNot bE | exact bNot bN | exact bNot bV | exact bV) (fun h => L_skip (Nx.go ?_)) (fun h => L_exit (Nx.go ?_))))))
  · refine L_seq (L_block (L_rs (S_done [] rfl (Nx.go ?_))))
    have hS := State_tr t k; have hX := Exit_tr t k; have hT := Trap_tr t k; have hO := Over_tr t k
    refine L_cut (fun l L => l = [(0, tp), (1, rp), (5, .int .i64 k), (6, .pointer (some ⟨6, 0, none⟩))] ∧ L = PL t ++ [.cells 0 (thAt t.l k).cells]) ?_ ?_
    · refine L_rs (S_splitp 33 rfl rfl rfl (by first | exact bD | exact bE | exact bN | exact bNB | exact bEB | exact bNot bD | exact bNot bE | exact bNot bN | exact bNot bV | exact bV) (fun h1 => ?_) (fun h1 => ?_))
      · refine S_done [] rfl (Nx.go (L_ifp rfl (by first | exact bD | exact bE | exact bN | exact bNB | exact bEB | exact bNot bD | exact bNot bE | exact bNot bN | exact bNot bV | exact bV) (fun h2 => ?_) (fun h2 => ?_)))
        · obtain ⟨j, rfl⟩ := Int.eq_ofNat_of_zero_le h1
          obtain ⟨x, hx⟩ : ∃ x, (up t).l[j]? = some x := ⟨_, List.getElem?_eq_getElem (by omega)⟩
          have e : thAt t.l j = x := thAt_get hx
          refine L_reg (S_Q [] rfl rfl (QY.idxN rfl rfl (by omega)) (S_Q [] rfl rfl (QY.ldRow Th.ok rfl rfl hx (by decide)) ?_))
          refine S_done [] rfl (Nx.pick [0, 1, 5, 6] [0, 1, 2, 3, 4, 5, 6] rfl rfl rfl ⟨rfl, ?_⟩)
          rw [e]; rfl
        · refine L_skip (Nx.pick [0, 1, 5, 6] [0, 1, 2, 3, 4, 5, 6] rfl rfl rfl ⟨rfl, ?_⟩)
          rw [thAt_no (by omega)]; rfl
      · refine S_done [] rfl (Nx.go (L_false rfl (L_skip (Nx.pick [0, 1, 5, 6] [0, 1, 2, 3, 4, 5, 6] rfl rfl rfl ⟨rfl, ?_⟩))))
        rw [thAt_no (by omega)]; rfl
    · rintro _ _ ⟨rfl, rfl⟩
      generalize thAt t.l k = x at hS hX hT hO
      first | refine L_rs ?_ | refine L_reg ?_ | skip
      refine S_Ed [] rfl rfl (EWd.callP [0, 1, 2] (hX) rfl rfl (by decide) (by repeat' (first | exact trivial | refine ⟨rfl, ?_⟩ | fail)) rfl rfl) (disj_nil _) (nm_nilE _) (nm_nilT _) ?_
      rintro _ _ ⟨rfl, rfl⟩
      refine ⟨(by repeat' (first | exact trivial | refine ⟨⟨qsafe_ok (st := []) rfl, Sure.of rfl⟩, ?_⟩ | refine ⟨.inl rfl, ?_⟩ | refine ⟨.inr ⟨qsafe_ok (st := []) rfl, Sure.of rfl⟩, ?_⟩ | refine ⟨.inr ⟨QY.neqB rfl (by kernel_rfl) rfl rfl, Sure.of rfl⟩, ?_⟩ | refine ⟨.inr ⟨QY.eqlB rfl (by kernel_rfl) rfl rfl, Sure.of rfl⟩, ?_⟩ | fail)), ?_⟩
      refine S_done [] rfl (Nx.go ?_)
      first | refine L_rs ?_ | refine L_reg ?_ | skip
      refine S_Ed [] rfl rfl (EWd.callP [0, 1, 2] (hS) rfl rfl (by decide) (by repeat' (first | exact trivial | refine ⟨rfl, ?_⟩ | fail)) rfl rfl) (disj_nil _) (nm_nilE _) (nm_nilT _) ?_
      rintro _ _ ⟨rfl, rfl⟩
      refine ⟨(by repeat' (first | exact trivial | refine ⟨⟨qsafe_ok (st := []) rfl, Sure.of rfl⟩, ?_⟩ | refine ⟨.inl rfl, ?_⟩ | refine ⟨.inr ⟨qsafe_ok (st := []) rfl, Sure.of rfl⟩, ?_⟩ | refine ⟨.inr ⟨QY.neqB rfl (by kernel_rfl) rfl rfl, Sure.of rfl⟩, ?_⟩ | refine ⟨.inr ⟨QY.eqlB rfl (by kernel_rfl) rfl rfl, Sure.of rfl⟩, ?_⟩ | fail)), ?_⟩
      refine S_splitF 61 rfl rfl rfl (by simp) ?_
      first | refine L_rs ?_ | refine L_reg ?_ | skip
      refine S_Ed [] rfl rfl (EWd.callP [] (Plain_tr x.kd x.bits) rfl rfl (by decide) (by repeat' (first | exact trivial | refine ⟨rfl, ?_⟩ | fail)) rfl rfl) (disj_nil _) (nm_nilE _) (nm_nilT _) ?_
      rintro _ _ ⟨rfl, rfl⟩
      refine ⟨(by repeat' (first | exact trivial | refine ⟨⟨qsafe_ok (st := []) rfl, Sure.of rfl⟩, ?_⟩ | refine ⟨.inl rfl, ?_⟩ | refine ⟨.inr ⟨qsafe_ok (st := []) rfl, Sure.of rfl⟩, ?_⟩ | refine ⟨.inr ⟨QY.neqB rfl (by kernel_rfl) rfl rfl, Sure.of rfl⟩, ?_⟩ | refine ⟨.inr ⟨QY.eqlB rfl (by kernel_rfl) rfl rfl, Sure.of rfl⟩, ?_⟩ | fail)), ?_⟩
      refine S_Q [] rfl rfl (QY.neqS (bs := [x.kd == x.kd, x.bits == x.bits]) rfl rfl rfl (by kernel_rfl)) ?_
      refine S_splitF 68 rfl rfl rfl (by simp) ?_
      refine S_Q [] rfl rfl (QY.neqB rfl (by kernel_rfl) rfl rfl) ?_
      refine S_splitF 75 rfl rfl rfl (by simp) ?_
      first | refine L_rs ?_ | refine L_reg ?_ | skip
      refine S_Ed [] rfl rfl (EWd.callP [0, 1, 2] (hT) rfl rfl (by decide) (by repeat' (first | exact trivial | refine ⟨rfl, ?_⟩ | fail)) rfl rfl) (disj_nil _) (nm_nilE _) (nm_nilT _) ?_
      rintro _ _ ⟨rfl, rfl⟩
      refine ⟨(by repeat' (first | exact trivial | refine ⟨⟨qsafe_ok (st := []) rfl, Sure.of rfl⟩, ?_⟩ | refine ⟨.inl rfl, ?_⟩ | refine ⟨.inr ⟨qsafe_ok (st := []) rfl, Sure.of rfl⟩, ?_⟩ | refine ⟨.inr ⟨QY.neqB rfl (by kernel_rfl) rfl rfl, Sure.of rfl⟩, ?_⟩ | refine ⟨.inr ⟨QY.eqlB rfl (by kernel_rfl) rfl rfl, Sure.of rfl⟩, ?_⟩ | refine ⟨.inr ⟨QY.neqS (bs := [x.kd == x.kd, x.bits == x.bits]) rfl rfl rfl (by kernel_rfl), Sure.of rfl⟩, ?_⟩ | fail)), ?_⟩
      refine S_splitF 83 rfl rfl rfl (by simp) ?_
      first | refine L_rs ?_ | refine L_reg ?_ | skip
      refine S_Ed [] rfl rfl (EWd.callP [0, 1, 2] (hO) rfl rfl (by decide) (by repeat' (first | exact trivial | refine ⟨rfl, ?_⟩ | fail)) rfl rfl) (disj_nil _) (nm_nilE _) (nm_nilT _) ?_
      rintro _ _ ⟨rfl, rfl⟩
      refine ⟨(by repeat' (first | exact trivial | refine ⟨⟨qsafe_ok (st := []) rfl, Sure.of rfl⟩, ?_⟩ | refine ⟨.inl rfl, ?_⟩ | refine ⟨.inr ⟨qsafe_ok (st := []) rfl, Sure.of rfl⟩, ?_⟩ | refine ⟨.inr ⟨QY.neqB rfl (by kernel_rfl) rfl rfl, Sure.of rfl⟩, ?_⟩ | refine ⟨.inr ⟨QY.eqlB rfl (by kernel_rfl) rfl rfl, Sure.of rfl⟩, ?_⟩ | refine ⟨.inr ⟨QY.neqS (bs := [x.kd == x.kd, x.bits == x.bits]) rfl rfl rfl (by kernel_rfl), Sure.of rfl⟩, ?_⟩ | fail)), ?_⟩
      refine S_Q [] rfl rfl (QY.neqB rfl (by kernel_rfl) rfl rfl) ?_
      refine S_done [] rfl (Nx.go (L_ifp rfl (by first | exact bD | exact bE | exact bN | exact bNB | exact bEB | exact bNot bD | exact bNot bE | exact bNot bN | exact bNot bV | exact bV) (fun h => absurd rfl h) (fun _ => L_skip (Nx.go ?_))))
      refine L_reg (S_Q [] rfl rfl (QY.add (c := k + 1) rfl rfl rfl (by omega) (by omega)) (S_done [] rfl ?_))
      refine Nx.pick [0, 1, 5] [0, 1, 2, 3, 4, 5] rfl rfl rfl ⟨((t.l.length : Int) + 1 - (k + 1)).toNat, by omega, k + 1, rfl, by omega, by omega, rfl, rfl⟩
  · repeat' (first
      | refine L_rs ?_
      | refine S_done [] rfl (Nx.go ?_)
      | refine S_done [] rfl (RetQ.keepN rfl rfl rfl rfl ?_)
      | refine L_block ?_
      | refine L_ret (RetQ.keep rfl rfl rfl rfl ?_)
      | refine L_true rfl ?_
      | refine L_false rfl ?_
      | refine L_skip (Nx.go ?_)
      | refine L_ifp rfl (by first | exact bD | exact bE | exact bN | exact bNB | exact bEB | exact bNot bD | exact bNot bE | exact bNot bN) (fun h => ?_) (fun h => ?_)
      | refine S_Q [] rfl rfl (QY.idxN rfl rfl (by omega)) ?_
      | refine L_reg ?_
      | refine L_seq ?_
      | exact ⟨rfl, rfl⟩
      | fail)
    refine LWp.pick [0, 1, 9] [0, 1, 2, 3, 4, 5] rfl rfl rfl ?_
    refine (L_loop (fun r l L => ∃ k : Int, r = ((t.mu.length : Int) + 1 - k).toNat ∧ -1 ≤ k ∧ k ≤ t.mu.length + 1 ∧ l = [(0, tp), (1, rp), (9, .int .i64 k)] ∧ L = PL t) (t.mu.length + 2) ⟨-1, by omega, by omega, by omega, rfl, rfl⟩ ?_)
    rintro r _ _ ⟨k, rfl, hk1, hk2, rfl, rfl⟩
    refine L_seq (L_rs (S_done [] rfl (Nx.go (L_ifp rfl (by first | exact bD | exact bE | exact bN | exact bNB | exact bEB | exact bNot bD | exact bNot bE | exact bNot bN | exact bNot bV | exact bV) (fun h => L_skip (Nx.go ?_)) (fun h => L_exit (Nx.go ?_))))))
    · refine L_seq (L_block ?_)
      have hH := Holder_tr t k
      first | refine L_rs ?_ | refine L_reg ?_ | skip
      refine S_Ed [] rfl rfl (EWd.callP [0, 1, 2] (hH) rfl rfl (by decide) (by repeat' (first | exact trivial | refine ⟨rfl, ?_⟩ | fail)) rfl rfl) (disj_nil _) (nm_nilE _) (nm_nilT _) ?_
      rintro _ _ ⟨rfl, rfl⟩
      refine ⟨(by repeat' (first | exact trivial | refine ⟨⟨qsafe_ok (st := []) rfl, Sure.of rfl⟩, ?_⟩ | refine ⟨.inl rfl, ?_⟩ | refine ⟨.inr ⟨qsafe_ok (st := []) rfl, Sure.of rfl⟩, ?_⟩ | refine ⟨.inr ⟨QY.neqB rfl (by kernel_rfl) rfl rfl, Sure.of rfl⟩, ?_⟩ | refine ⟨.inr ⟨QY.eqlB rfl (by kernel_rfl) rfl rfl, Sure.of rfl⟩, ?_⟩ | fail)), ?_⟩
      refine S_done [] rfl (Nx.go (L_rs (S_done [] rfl (Nx.go ?_))))
      refine L_cut (fun l L => l = [(0, tp), (1, rp), (9, .int .i64 k), (10, .int .i64 (if whoAt t k = -1 then 0 else whoAt t k)), (11, .bool (decide (whoAt t k ≠ -1))), (12, .int .i64 (whoAt t k + 1))] ∧ L = PL t) ?_ ?_
      · refine L_rs (S_splitp 109 rfl rfl rfl (by first | exact bD | exact bE | exact bN | exact bNB | exact bEB | exact bNot bD | exact bNot bE | exact bNot bN | exact bNot bV | exact bV) (fun h1 => ?_) (fun h1 => ?_))
        · refine S_done [] rfl (Nx.go (L_ifp rfl (by first | exact bD | exact bE | exact bN | exact bNB | exact bEB | exact bNot bD | exact bNot bE | exact bNot bN | exact bNot bV | exact bV) (fun h2 => ?_) (fun h2 => ?_)))
          · obtain ⟨j, rfl⟩ := Int.eq_ofNat_of_zero_le h1
            obtain ⟨x, hx⟩ : ∃ x, t.mu[j]? = some x := ⟨_, List.getElem?_eq_getElem (by omega)⟩
            have e : whoAt t j = x := whoAt_get hx
            refine L_reg (S_Q [] rfl rfl (QY.idxN rfl rfl (by omega)) (S_Q [] rfl rfl (QY.ldI rfl rfl (up_get hx)) ?_))
            refine S_done [] rfl (Nx.pick [0, 1, 9, 10, 11, 12] [0, 1, 2, 3, 4, 5] rfl rfl rfl ⟨?_, rfl⟩)
            rw [e]; rfl
          · refine L_skip (Nx.pick [0, 1, 9, 10, 11, 12] [0, 1, 2, 3, 4, 5] rfl rfl rfl ⟨?_, rfl⟩)
            rw [show whoAt t k = -1 by rw [whoAt, if_neg (by omega)]]; rfl
        · refine S_done [] rfl (Nx.go (L_false rfl (L_skip (Nx.pick [0, 1, 9, 10, 11, 12] [0, 1, 2, 3, 4, 5] rfl rfl rfl ⟨?_, rfl⟩))))
          rw [show whoAt t k = -1 by rw [whoAt, if_neg (by omega)]]; rfl
      · rintro _ _ ⟨rfl, rfl⟩
        have hb : -1 ≤ whoAt t k ∧ whoAt t k ≤ 64 := by
          unfold whoAt
          split
          · rename_i hc
            obtain ⟨j, rfl⟩ := Int.eq_ofNat_of_zero_le hc.1
            obtain ⟨x, hx⟩ : ∃ x, t.mu[j]? = some x := ⟨_, List.getElem?_eq_getElem (by omega)⟩
            have := ht.mu x (List.mem_of_getElem? hx)
            simp only [Int.toNat_natCast, List.getD_eq_getElem?_getD, hx, Option.getD_some]
            omega
          · omega
        generalize whoAt t k = x at hb
        refine L_rs (S_Q [] rfl rfl (QY.neqB rfl (by kernel_rfl) rfl rfl) ?_)
        have hx1 : (x ≠ -1) ↔ (x + 1 > 0) := by omega
        refine S_splitF 129 rfl rfl rfl (by simp [hx1]) ?_
        have next : ∀ (l : Env) (L : LH), eget l 0 = some tp → eget l 1 = some rp → eget l 9 = some (.int .i64 k) → L = PL t →
            LWp Try.prog ⟨(PL t).length, [], seqN 0 (PL t).length⟩ (.reg [.q 0 (some 99) none (.mov (.tmp 9)) false, .q 0 (some 100) none (.bin .add (.tmp 99) (.const (.int .i64 1))) false, .q 0 (some 9) none (.mov (.tmp 100)) false]) (thenL (Nx ⟨(PL t).length, [], seqN 0 (PL t).length⟩ fun l L => ∃ m, m < ((t.mu.length : Int) + 1 - k).toNat ∧ ∃ k : Int, m = ((t.mu.length : Int) + 1 - k).toNat ∧ -1 ≤ k ∧ k ≤ t.mu.length + 1 ∧ l = [(0, tp), (1, rp), (9, .int .i64 k)] ∧ L = PL t) (fun _ _ _ => False)) l L := by
          rintro l _ h0 h1 h9 rfl
          refine LWp.drop [0, 1, 9] ?_
          rw [show repick l [0, 1, 9] = [(0, tp), (1, rp), (9, .int .i64 k)] by simp only [repick, h0, h1, h9]]
          refine L_reg (S_Q [] rfl rfl (QY.add (c := k + 1) rfl rfl rfl (by omega) (by omega)) (S_done [] rfl ?_))
          exact Nx.pick [0, 1, 9] [0, 1, 2, 3, 4, 5] rfl rfl rfl ⟨((t.mu.length : Int) + 1 - (k + 1)).toNat, by omega, k + 1, rfl, by omega, by omega, rfl, rfl⟩
        refine S_splitp 131 rfl rfl rfl (by first | exact bD | exact bE | exact bN | exact bNB | exact bEB | exact bNot bD | exact bNot bE | exact bNot bN | exact bNot bV | exact bV) (fun h1 => ?_) (fun h1 => ?_)
        · refine S_Q [] rfl rfl (QY.sub (c := x) rfl rfl (by omega) (by omega) (by omega)) ?_
          refine S_splitF 138 rfl rfl rfl (by simp [h1]) ?_
          refine S_splitF 141 rfl rfl rfl (by simp [h1]) ?_
          refine S_done [] rfl (Nx.go (L_false rfl (L_skip (Nx.go ?_))))
          refine (next _ _ rfl rfl rfl rfl).mono (fun e l L h => ?_)
          cases e <;> first | exact h | exact h.elim
        · have h1 : x = -1 := Classical.not_not.1 h1
          subst h1
          refine S_splitT 141 rfl rfl rfl (by simp) ?_
          refine S_done [] rfl (Nx.go (L_ifp rfl (by first | exact bD | exact bE | exact bN | exact bNB | exact bEB | exact bNot bD | exact bNot bE | exact bNot bN | exact bNot bV | exact bV) (fun h => absurd rfl h) (fun _ => L_skip (Nx.go ?_))))
          refine (next _ _ rfl rfl rfl rfl).mono (fun e l L h => ?_)
          cases e <;> first | exact h | exact h.elim
    · repeat' (first
        | refine L_rs ?_
        | refine S_done [] rfl (Nx.go ?_)
        | refine S_done [] rfl (RetQ.keepN rfl rfl rfl rfl ?_)
        | refine L_block ?_
        | refine L_ret (RetQ.keep rfl rfl rfl rfl ?_)
        | refine L_true rfl ?_
        | refine L_false rfl ?_
        | refine L_skip (Nx.go ?_)
        | refine L_ifp rfl (by first | exact bD | exact bE | exact bN | exact bNB | exact bEB | exact bNot bD | exact bNot bE | exact bNot bN) (fun h => ?_) (fun h => ?_)
        | refine S_Q [] rfl rfl (QY.idxN rfl rfl (by omega)) ?_
        | refine L_reg ?_
        | refine L_seq ?_
        | exact ⟨rfl, rfl⟩
        | fail)
end Go.Proofs.Ytcchfefbolmlbaa
