/-
  Layer 12: contracts of the document's mail: all, thread by thread.
-/
import Derived.Test.YtgfkadmpakgmeaaRemoteR2
namespace Go.Proofs.Ytgfkadmpakgmeaa
open Go Go.Tum

def AL (m : RM) (acc : List Int) : LH := RL m ++ [.gro 1 (rowsC intC acc)]
abbrev a2 (acc : List Int) : Value := .slice (some ⟨2, 0, none⟩) acc.length acc.length
abbrev l1 (m : RM) : Value := .slice (some ⟨1, 0, none⟩) m.l.length m.l.length
def fC (t n : Int) : It → Bool := fun x => decide (x.to = t ∧ x.come = n)
def fH (f t : Int) : It → Bool := fun x => decide (x.fr = f ∧ x.to = t ∧ x.come = 0)
theorem ats_take (p : It → Bool) {l : List It} {k : Nat} {x : It} (hx : l[k]? = some x) : ((l.take (k + 1)).filter p).map It.at_ = ((l.take k).filter p).map It.at_ ++ if p x then [x.at_] else [] := by
  rw [filter_take p hx, List.map_append]
  split <;> rfl
theorem ats_len (p : It → Bool) (l : List It) (k : Nat) : (((l.take k).filter p).map It.at_).length ≤ l.length := by
  rw [List.length_map]
  exact Nat.le_trans (List.length_filter_le _ _) (by simp; omega)

set_option maxHeartbeats 1000000 in
theorem RAll_tr (m : RM) (n N : Nat) (hn : m.n = n) (hN : m.N = N) (hn64 : n ≤ 64) (hN2 : N ≤ 1000) (hl : m.l.length ≤ 1000) :
    TrK Try.prog [] [0] 28 [tp] (RL m) (fun v K => v = a2 (allR m n N n) ∧ K = AL m (allR m n N n)) := by
  have hb : ∀ t k, t ≤ n → k ≤ N → (allR m n N t).length + (comeTo m t k).length ≤ 200000000 := by
    intro t k ht hk
    have h1 := allR_le m n N t
    have h2 := comeTo_le m t k
    have h3 : t * ((N + n) * m.l.length) ≤ 64 * ((1000 + 64) * 1000) := Nat.mul_le_mul (by omega) (Nat.mul_le_mul (by omega) hl)
    have h4 : k * m.l.length ≤ 1000 * 1000 := Nat.mul_le_mul (by omega) hl
    omega
  have hb2 : ∀ t k, k ≤ n → (heldToR m t k).length ≤ 64000 := by
    intro t k hk
    have h2 := heldToR_le m t k
    have h4 : k * m.l.length ≤ 64 * 1000 := Nat.mul_le_mul (by omega) hl
    omega
  refine Tr.of row_tumbrelref12_Mail_All_ok rfl ?_
  repeat' (first
    | refine L_rs ?_
    | refine S_done [] rfl (Nx.goL ?_)
    | refine S_done [] rfl (RetQ.keepN rfl rfl rfl rfl ?_)
    | refine S_done [] rfl ?_
    | refine L_block ?_
    | refine L_ret (RetQ.keep rfl rfl rfl rfl ?_)
    | refine L_true rfl ?_
    | refine L_false rfl ?_
    | refine L_skip (Nx.goL ?_)
    | refine L_skip ?_
    | refine L_exit (Nx.goL ?_)
    | refine L_exit ?_
    | refine L_ifp rfl (by first | exact bD | exact bE | exact bN | exact bNB | exact bEB | exact bNot bD | exact bNot bE | exact bNot bN) (fun h => ?_) (fun h => ?_)
    | refine S_Q [] rfl rfl (QY.idxN rfl rfl (by omega)) ?_
    | refine L_reg ?_
    | refine L_seq ?_
    | exact ⟨rfl, rfl⟩
    | fail)
  refine LWp.nilE 3 1 rfl ?_
  refine LWp.pick [0, 3, 4] [0, 1, 2] rfl rfl rfl ?_
  refine L_loop (fun r l L => ∃ t : Nat, r = n - t ∧ t ≤ n ∧ l = [(0, tp), (3, a2 (allR m n N t)), (4, .int .i64 t)] ∧ L = AL m (allR m n N t)) n ⟨0, rfl, by omega, rfl, rfl⟩ ?_
  rintro r _ _ ⟨t, rfl, ht, rfl, rfl⟩
  repeat' (first
    | refine L_rs ?_
    | refine S_done [] rfl (Nx.goL ?_)
    | refine S_done [] rfl (RetQ.keepN rfl rfl rfl rfl ?_)
    | refine S_done [] rfl ?_
    | refine L_block ?_
    | refine L_ret (RetQ.keep rfl rfl rfl rfl ?_)
    | refine L_true rfl ?_
    | refine L_false rfl ?_
    | refine L_skip (Nx.goL ?_)
    | refine L_skip ?_
    | refine L_exit (Nx.goL ?_)
    | refine L_exit ?_
    | refine L_ifp rfl (by first | exact bD | exact bE | exact bN | exact bNB | exact bEB | exact bNot bD | exact bNot bE | exact bNot bN) (fun h => ?_) (fun h => ?_)
    | refine S_Q [] rfl rfl (QY.idxN rfl rfl (by omega)) ?_
    | refine L_reg ?_
    | refine L_seq ?_
    | exact ⟨rfl, rfl⟩
    | fail)
  · -- what has come
    refine LWp.pick [0, 3, 4, 5] [0, 1, 2] rfl rfl rfl ?_
    refine L_loop (fun r l L => ∃ (j : Nat) (acc : List Int), r = N - j ∧ j ≤ N ∧ acc = allR m n N t ++ comeTo m t j ∧ l = [(0, tp), (3, a2 acc), (4, .int .i64 t), (5, .int .i64 ((j + 1 : Nat) : Int))] ∧ L = AL m acc) N ⟨0, allR m n N t, rfl, by omega, by simp [comeTo], rfl, rfl⟩ ?_
    rintro r _ _ ⟨j, acc, rfl, hj, hacc, rfl, rfl⟩
    repeat' (first
      | refine L_rs ?_
      | refine S_done [] rfl (Nx.goL ?_)
      | refine S_done [] rfl (RetQ.keepN rfl rfl rfl rfl ?_)
      | refine S_done [] rfl ?_
      | refine L_block ?_
      | refine L_ret (RetQ.keep rfl rfl rfl rfl ?_)
      | refine L_true rfl ?_
      | refine L_false rfl ?_
      | refine L_skip (Nx.goL ?_)
      | refine L_skip ?_
      | refine L_exit (Nx.goL ?_)
      | refine L_exit ?_
      | refine L_ifp rfl (by first | exact bD | exact bE | exact bN | exact bNB | exact bEB | exact bNot bD | exact bNot bE | exact bNot bN) (fun h => ?_) (fun h => ?_)
      | refine S_Q [] rfl rfl (QY.idxN rfl rfl (by omega)) ?_
      | refine L_reg ?_
      | refine L_seq ?_
      | exact ⟨rfl, rfl⟩
      | fail)
    · have hjN : j < N := by omega
      have hbb := hb t j ht hj
      refine LWp.pick [0, 3, 4, 5, 30, 31, 32] [0, 1, 2] rfl rfl rfl ?_
      refine L_loop (fun r l L => ∃ (k : Nat) (acc : List Int), r = m.l.length - k ∧ k ≤ m.l.length ∧ acc = allR m n N t ++ comeTo m t j ++ ((m.l.take k).filter (fC t (j + 1 : Nat))).map It.at_ ∧ l = [(0, tp), (3, a2 acc), (4, .int .i64 t), (5, .int .i64 ((j + 1 : Nat) : Int)), (30, l1 m), (31, .int .i64 m.l.length), (32, .int .i64 k)] ∧ L = AL m acc) m.l.length ⟨0, acc, rfl, by omega, by simp [hacc], rfl, rfl⟩ ?_
      clear hacc acc
      rintro r _ _ ⟨k, acc, rfl, hk, hacc, rfl, rfl⟩
      repeat' (first
        | refine L_rs ?_
        | refine S_done [] rfl (Nx.goL ?_)
        | refine S_done [] rfl (RetQ.keepN rfl rfl rfl rfl ?_)
        | refine S_done [] rfl ?_
        | refine L_block ?_
        | refine L_ret (RetQ.keep rfl rfl rfl rfl ?_)
        | refine L_true rfl ?_
        | refine L_false rfl ?_
        | refine L_skip (Nx.goL ?_)
        | refine L_skip ?_
        | refine L_exit (Nx.goL ?_)
        | refine L_exit ?_
        | refine L_ifp rfl (by first | exact bD | exact bE | exact bN | exact bNB | exact bEB | exact bNot bD | exact bNot bE | exact bNot bN) (fun h => ?_) (fun h => ?_)
        | refine S_Q [] rfl rfl (QY.idxN rfl rfl (by omega)) ?_
        | refine L_reg ?_
        | refine L_seq ?_
        | exact ⟨rfl, rfl⟩
        | fail)
      · obtain ⟨x, hx⟩ : ∃ x, m.l[k]? = some x := ⟨_, List.getElem?_eq_getElem (by omega)⟩
        have hs := ats_take (fC t (j + 1 : Nat)) hx
        have hlen : acc.length ≤ 300000000 := by
          have := ats_len (fC t (j + 1 : Nat)) m.l k
          rw [hacc]; simp only [List.length_append]; omega
        refine S_Q [] rfl rfl (QY.ldRow It.ok rfl rfl hx (by decide)) ?_
        repeat' (first
          | refine L_rs ?_
          | refine S_done [] rfl (Nx.goL ?_)
          | refine S_done [] rfl (RetQ.keepN rfl rfl rfl rfl ?_)
          | refine S_done [] rfl ?_
          | refine L_block ?_
          | refine L_ret (RetQ.keep rfl rfl rfl rfl ?_)
          | refine L_true rfl ?_
          | refine L_false rfl ?_
          | refine L_skip (Nx.goL ?_)
          | refine L_skip ?_
          | refine L_exit (Nx.goL ?_)
          | refine L_exit ?_
          | refine L_ifp rfl (by first | exact bD | exact bE | exact bN | exact bNB | exact bEB | exact bNot bD | exact bNot bE | exact bNot bN) (fun h => ?_) (fun h => ?_)
          | refine S_Q [] rfl rfl (QY.idxN rfl rfl (by omega)) ?_
          | refine S_splitp 40 rfl rfl rfl (by first | exact bD | exact bE | exact bN | exact bNB | exact bEB | exact bNot bD | exact bNot bE | exact bNot bN) (fun h => ?_) (fun h => ?_)
          | refine L_reg ?_
          | refine L_seq ?_
          | exact ⟨rfl, rfl⟩
          | fail)
        · have e : fC t (j + 1 : Nat) x = true := by simp only [fC, decide_eq_true_eq]; omega
          rw [e] at hs
          refine S_E [] rfl rfl (EW.appR1 (bytes := 8) (a := x.at_) intC_ok rfl (by kernel_rfl) rfl rfl rfl rfl rfl (by omega)) ?_
          rintro _ _ ⟨rfl, rfl⟩
          refine ⟨trivial, S_done [] rfl (Nx.goL ?_)⟩
          refine L_reg (S_Q [] rfl rfl (QY.add (c := ((k + 1 : Nat) : Int)) rfl rfl rfl (by omega) (by omega)) (S_done [] rfl ?_))
          refine Nx.pick [0, 3, 4, 5, 30, 31, 32] [0, 1, 5] rfl rfl rfl ⟨m.l.length - (k + 1), by omega, k + 1, acc ++ [x.at_], rfl, by omega, by rw [hs, hacc]; simp, ?_, rfl⟩
          simp only [a2, List.length_append, List.length_cons, List.length_nil]
          rfl
        all_goals
          have e : fC t (j + 1 : Nat) x = false := by simp only [fC, decide_eq_false_iff_not]; omega
          rw [e] at hs
          refine S_Q [] rfl rfl (QY.add (c := ((k + 1 : Nat) : Int)) rfl rfl rfl (by omega) (by omega)) (S_done [] rfl ?_)
          exact Nx.pick [0, 3, 4, 5, 30, 31, 32] [0, 1, 2] rfl rfl rfl ⟨m.l.length - (k + 1), by omega, k + 1, acc, rfl, by omega, by rw [hs, hacc]; simp, rfl, rfl⟩
      · have e : k = m.l.length := by omega
        subst e
        rw [List.take_length] at hacc
        repeat' (first
          | refine L_rs ?_
          | refine S_done [] rfl (Nx.goL ?_)
          | refine S_done [] rfl (RetQ.keepN rfl rfl rfl rfl ?_)
          | refine S_done [] rfl ?_
          | refine L_block ?_
          | refine L_ret (RetQ.keep rfl rfl rfl rfl ?_)
          | refine L_true rfl ?_
          | refine L_false rfl ?_
          | refine L_skip (Nx.goL ?_)
          | refine L_skip ?_
          | refine L_exit (Nx.goL ?_)
          | refine L_exit ?_
          | refine L_ifp rfl (by first | exact bD | exact bE | exact bN | exact bNB | exact bEB | exact bNot bD | exact bNot bE | exact bNot bN) (fun h => ?_) (fun h => ?_)
          | refine S_Q [] rfl rfl (QY.idxN rfl rfl (by omega)) ?_
          | refine L_reg ?_
          | refine L_seq ?_
          | exact ⟨rfl, rfl⟩
          | fail)
        refine S_Q [] rfl rfl (QY.add (c := ((j + 1 + 1 : Nat) : Int)) rfl rfl rfl (by omega) (by omega)) (S_done [] rfl ?_)
        exact Nx.pick [0, 3, 4, 5] [0, 1, 2] rfl rfl rfl ⟨N - (j + 1), by omega, j + 1, acc, rfl, by omega, by rw [hacc, comeTo, ← List.append_assoc]; rfl, rfl, rfl⟩
    · have e : j = N := by omega
      subst e
      repeat' (first
        | refine L_rs ?_
        | refine S_done [] rfl (Nx.goL ?_)
        | refine S_done [] rfl (RetQ.keepN rfl rfl rfl rfl ?_)
        | refine S_done [] rfl ?_
        | refine L_block ?_
        | refine L_ret (RetQ.keep rfl rfl rfl rfl ?_)
        | refine L_true rfl ?_
        | refine L_false rfl ?_
        | refine L_skip (Nx.goL ?_)
        | refine L_skip ?_
        | refine L_exit (Nx.goL ?_)
        | refine L_exit ?_
        | refine L_ifp rfl (by first | exact bD | exact bE | exact bN | exact bNB | exact bEB | exact bNot bD | exact bNot bE | exact bNot bN) (fun h => ?_) (fun h => ?_)
        | refine S_Q [] rfl rfl (QY.idxN rfl rfl (by omega)) ?_
        | refine L_reg ?_
        | refine L_seq ?_
        | exact ⟨rfl, rfl⟩
        | fail)
      -- what is held
      have hbb := hb t j ht (Nat.le_refl _)
      refine LWp.pick [0, 3, 4, 8] [0, 1, 2] rfl rfl rfl ?_
      refine L_loop (fun r l L => ∃ (u : Nat) (acc : List Int), r = n - u ∧ u ≤ n ∧ acc = allR m n j t ++ comeTo m t j ++ heldToR m t u ∧ l = [(0, tp), (3, a2 acc), (4, .int .i64 t), (8, .int .i64 u)] ∧ L = AL m acc) n ⟨0, acc, rfl, by omega, by simp [heldToR, hacc], rfl, rfl⟩ ?_
      clear hacc acc
      rintro r _ _ ⟨u, acc, rfl, hu, hacc, rfl, rfl⟩
      repeat' (first
        | refine L_rs ?_
        | refine S_done [] rfl (Nx.goL ?_)
        | refine S_done [] rfl (RetQ.keepN rfl rfl rfl rfl ?_)
        | refine S_done [] rfl ?_
        | refine L_block ?_
        | refine L_ret (RetQ.keep rfl rfl rfl rfl ?_)
        | refine L_true rfl ?_
        | refine L_false rfl ?_
        | refine L_skip (Nx.goL ?_)
        | refine L_skip ?_
        | refine L_exit (Nx.goL ?_)
        | refine L_exit ?_
        | refine L_ifp rfl (by first | exact bD | exact bE | exact bN | exact bNB | exact bEB | exact bNot bD | exact bNot bE | exact bNot bN) (fun h => ?_) (fun h => ?_)
        | refine S_Q [] rfl rfl (QY.idxN rfl rfl (by omega)) ?_
        | refine L_reg ?_
        | refine L_seq ?_
        | exact ⟨rfl, rfl⟩
        | fail)
      · have hun : u < n := by omega
        have hbh := hb2 t u hu
        refine LWp.pick [0, 3, 4, 8, 63, 64, 65] [0, 1, 2] rfl rfl rfl ?_
        refine L_loop (fun r l L => ∃ (k : Nat) (acc : List Int), r = m.l.length - k ∧ k ≤ m.l.length ∧ acc = allR m n j t ++ comeTo m t j ++ heldToR m t u ++ ((m.l.take k).filter (fH t u)).map It.at_ ∧ l = [(0, tp), (3, a2 acc), (4, .int .i64 t), (8, .int .i64 u), (63, l1 m), (64, .int .i64 m.l.length), (65, .int .i64 k)] ∧ L = AL m acc) m.l.length ⟨0, acc, rfl, by omega, by simp [hacc], rfl, rfl⟩ ?_
        clear hacc acc
        rintro r _ _ ⟨k, acc, rfl, hk, hacc, rfl, rfl⟩
        repeat' (first
          | refine L_rs ?_
          | refine S_done [] rfl (Nx.goL ?_)
          | refine S_done [] rfl (RetQ.keepN rfl rfl rfl rfl ?_)
          | refine S_done [] rfl ?_
          | refine L_block ?_
          | refine L_ret (RetQ.keep rfl rfl rfl rfl ?_)
          | refine L_true rfl ?_
          | refine L_false rfl ?_
          | refine L_skip (Nx.goL ?_)
          | refine L_skip ?_
          | refine L_exit (Nx.goL ?_)
          | refine L_exit ?_
          | refine L_ifp rfl (by first | exact bD | exact bE | exact bN | exact bNB | exact bEB | exact bNot bD | exact bNot bE | exact bNot bN) (fun h => ?_) (fun h => ?_)
          | refine S_Q [] rfl rfl (QY.idxN rfl rfl (by omega)) ?_
          | refine L_reg ?_
          | refine L_seq ?_
          | exact ⟨rfl, rfl⟩
          | fail)
        · obtain ⟨x, hx⟩ : ∃ x, m.l[k]? = some x := ⟨_, List.getElem?_eq_getElem (by omega)⟩
          have hs := ats_take (fH t u) hx
          have hlen : acc.length ≤ 300000000 := by
            have := ats_len (fH t u) m.l k
            rw [hacc]; simp only [List.length_append]; omega
          refine S_Q [] rfl rfl (QY.ldRow It.ok rfl rfl hx (by decide)) ?_
          repeat' (first
            | refine L_rs ?_
            | refine S_done [] rfl (Nx.goL ?_)
            | refine S_done [] rfl (RetQ.keepN rfl rfl rfl rfl ?_)
            | refine S_done [] rfl ?_
            | refine L_block ?_
            | refine L_ret (RetQ.keep rfl rfl rfl rfl ?_)
            | refine L_true rfl ?_
            | refine L_false rfl ?_
            | refine L_skip (Nx.goL ?_)
            | refine L_skip ?_
            | refine L_exit (Nx.goL ?_)
            | refine L_exit ?_
            | refine L_ifp rfl (by first | exact bD | exact bE | exact bN | exact bNB | exact bEB | exact bNot bD | exact bNot bE | exact bNot bN) (fun h => ?_) (fun h => ?_)
            | refine S_Q [] rfl rfl (QY.idxN rfl rfl (by omega)) ?_
            | refine S_splitp 73 rfl rfl rfl (by first | exact bD | exact bE | exact bN | exact bNB | exact bEB | exact bNot bD | exact bNot bE | exact bNot bN) (fun h => ?_) (fun h => ?_)
            | refine S_splitp 79 rfl rfl rfl (by first | exact bD | exact bE | exact bN | exact bNB | exact bEB | exact bNot bD | exact bNot bE | exact bNot bN) (fun h => ?_) (fun h => ?_)
            | refine L_reg ?_
            | refine L_seq ?_
            | exact ⟨rfl, rfl⟩
            | fail)
          · have e : fH t u x = true := by simp only [fH, decide_eq_true_eq]; omega
            rw [e] at hs
            refine S_E [] rfl rfl (EW.appR1 (bytes := 8) (a := x.at_) intC_ok rfl (by kernel_rfl) rfl rfl rfl rfl rfl (by omega)) ?_
            rintro _ _ ⟨rfl, rfl⟩
            refine ⟨trivial, S_done [] rfl (Nx.goL ?_)⟩
            refine L_reg (S_Q [] rfl rfl (QY.add (c := ((k + 1 : Nat) : Int)) rfl rfl rfl (by omega) (by omega)) (S_done [] rfl ?_))
            refine Nx.pick [0, 3, 4, 8, 63, 64, 65] [0, 1, 5] rfl rfl rfl ⟨m.l.length - (k + 1), by omega, k + 1, acc ++ [x.at_], rfl, by omega, by rw [hs, hacc]; simp, ?_, rfl⟩
            simp only [a2, List.length_append, List.length_cons, List.length_nil]
            rfl
          all_goals
            have e : fH t u x = false := by simp only [fH, decide_eq_false_iff_not]; omega
            rw [e] at hs
            refine S_Q [] rfl rfl (QY.add (c := ((k + 1 : Nat) : Int)) rfl rfl rfl (by omega) (by omega)) (S_done [] rfl ?_)
            exact Nx.pick [0, 3, 4, 8, 63, 64, 65] [0, 1, 2] rfl rfl rfl ⟨m.l.length - (k + 1), by omega, k + 1, acc, rfl, by omega, by rw [hs, hacc]; simp, rfl, rfl⟩
        · have e : k = m.l.length := by omega
          subst e
          rw [List.take_length] at hacc
          repeat' (first
            | refine L_rs ?_
            | refine S_done [] rfl (Nx.goL ?_)
            | refine S_done [] rfl (RetQ.keepN rfl rfl rfl rfl ?_)
            | refine S_done [] rfl ?_
            | refine L_block ?_
            | refine L_ret (RetQ.keep rfl rfl rfl rfl ?_)
            | refine L_true rfl ?_
            | refine L_false rfl ?_
            | refine L_skip (Nx.goL ?_)
            | refine L_skip ?_
            | refine L_exit (Nx.goL ?_)
            | refine L_exit ?_
            | refine L_ifp rfl (by first | exact bD | exact bE | exact bN | exact bNB | exact bEB | exact bNot bD | exact bNot bE | exact bNot bN) (fun h => ?_) (fun h => ?_)
            | refine S_Q [] rfl rfl (QY.idxN rfl rfl (by omega)) ?_
            | refine L_reg ?_
            | refine L_seq ?_
            | exact ⟨rfl, rfl⟩
            | fail)
          refine S_Q [] rfl rfl (QY.add (c := ((u + 1 : Nat) : Int)) rfl rfl rfl (by omega) (by omega)) (S_done [] rfl ?_)
          exact Nx.pick [0, 3, 4, 8] [0, 1, 2] rfl rfl rfl ⟨n - (u + 1), by omega, u + 1, acc, rfl, by omega, by rw [hacc, heldToR, ← List.append_assoc]; rfl, rfl, rfl⟩
      · have e : u = n := by omega
        subst e
        repeat' (first
          | refine L_rs ?_
          | refine S_done [] rfl (Nx.goL ?_)
          | refine S_done [] rfl (RetQ.keepN rfl rfl rfl rfl ?_)
          | refine S_done [] rfl ?_
          | refine L_block ?_
          | refine L_ret (RetQ.keep rfl rfl rfl rfl ?_)
          | refine L_true rfl ?_
          | refine L_false rfl ?_
          | refine L_skip (Nx.goL ?_)
          | refine L_skip ?_
          | refine L_exit (Nx.goL ?_)
          | refine L_exit ?_
          | refine L_ifp rfl (by first | exact bD | exact bE | exact bN | exact bNB | exact bEB | exact bNot bD | exact bNot bE | exact bNot bN) (fun h => ?_) (fun h => ?_)
          | refine S_Q [] rfl rfl (QY.idxN rfl rfl (by omega)) ?_
          | refine L_reg ?_
          | refine L_seq ?_
          | exact ⟨rfl, rfl⟩
          | fail)
        refine S_Q [] rfl rfl (QY.add (c := ((t + 1 : Nat) : Int)) rfl rfl rfl (by omega) (by omega)) (S_done [] rfl ?_)
        have e2 : acc = allR m u j (t + 1) := by rw [hacc, allR, List.append_assoc]
        subst e2
        exact Nx.pick [0, 3, 4] [0, 1, 2] rfl rfl rfl ⟨u - (t + 1), by omega, t + 1, rfl, by omega, rfl, rfl⟩
  · have e : t = n := by omega
    subst e
    repeat' (first
      | refine L_rs ?_
      | refine S_done [] rfl (Nx.goL ?_)
      | refine S_done [] rfl (RetQ.keepN rfl rfl rfl rfl ?_)
      | refine S_done [] rfl ?_
      | refine L_block ?_
      | refine L_ret (RetQ.keep rfl rfl rfl rfl ?_)
      | refine L_true rfl ?_
      | refine L_false rfl ?_
      | refine L_skip (Nx.goL ?_)
      | refine L_skip ?_
      | refine L_exit (Nx.goL ?_)
      | refine L_exit ?_
      | refine L_ifp rfl (by first | exact bD | exact bE | exact bN | exact bNB | exact bEB | exact bNot bD | exact bNot bE | exact bNot bN) (fun h => ?_) (fun h => ?_)
      | refine S_Q [] rfl rfl (QY.idxN rfl rfl (by omega)) ?_
      | refine L_reg ?_
      | refine L_seq ?_
      | exact ⟨rfl, rfl⟩
      | fail)
    refine L_ret (RetQ.pick [0, 1, 2] rfl rfl rfl rfl ⟨rfl, rfl⟩)
end Go.Proofs.Ytgfkadmpakgmeaa
