/-
  Layer 12: contracts of the document's mail: sending, taking.
-/
import Derived.Test.YtgfkadmpakgmeaaRemoteR
namespace Go.Proofs.Ytgfkadmpakgmeaa
open Go Go.Tum

def sendR (m : RM) (f : Int) : Nat → RM
  | 0 => m
  | k + 1 => passR (sendR m f k) f k
def sendC (m : RM) (f : Int) : Nat → Nat
  | 0 => 0
  | k + 1 => sendC m f k + (sendR m f k).l.countP (isP f k)
theorem sendR_len (m : RM) (f : Int) : ∀ k, (sendR m f k).l.length = m.l.length ∧ (sendR m f k).n = m.n ∧ (sendR m f k).bt = m.bt ∧ m.N ≤ (sendR m f k).N ∧ (sendR m f k).N ≤ m.N + k * m.l.length ∧ sendC m f k ≤ k * m.l.length
  | 0 => ⟨rfl, rfl, rfl, by simp [sendR], by simp [sendR], by simp [sendC]⟩
  | k + 1 => by
    obtain ⟨h1, h2, h3, h4, h5, h6⟩ := sendR_len m f k
    have hc : (sendR m f k).l.countP (isP f k) ≤ m.l.length := by rw [← h1]; exact List.countP_le_length
    refine ⟨by simp only [sendR, passR, passL_length, h1], h2, h3, ?_, ?_, ?_⟩
    · simp only [sendR, passR]; omega
    · simp only [sendR, passR]
      have : ((k + 1 : Nat) : Int) * (m.l.length : Int) = (k : Int) * m.l.length + m.l.length := by rw [Int.natCast_add, Int.add_mul]; simp
      omega
    · simp only [sendC, Nat.add_mul]; omega
theorem Send_tr (m : RM) (n : Nat) (hn : m.n = n) (hn64 : n ≤ 64) (hl : m.l.length ≤ 1000) (hN : 0 ≤ m.N) (hN2 : m.N ≤ 1000000) (f : Int) : TrK Try.prog [] [0] 17 [tp, .int .i64 f] (RL m) (fun v K => v = .int .i64 (sendC m f n) ∧ K = RL (sendR m f n)) := by
  refine Tr.of row_tumbrelref12_Mail_Send_ok rfl ?_
  repeat' (first
    | refine L_rs ?_
    | refine S_done [] rfl (Nx.goL ?_)
    | refine S_done [] rfl (RetQ.keepN rfl rfl rfl rfl ?_)
    | refine S_done [] rfl ?_
    | refine L_block ?_
    | refine L_ret (RetQ.keep rfl rfl rfl rfl ?_)
    | refine L_true rfl ?_
    | refine L_false rfl ?_
    | refine L_skip (Nx.goL ?_)
    | refine L_skip ?_
    | refine L_exit (Nx.goL ?_)
    | refine L_exit ?_
    | refine L_ifp rfl (by first | exact bD | exact bE | exact bN | exact bNB | exact bEB | exact bNot bD | exact bNot bE | exact bNot bN) (fun h => ?_) (fun h => ?_)
    | refine S_Q [] rfl rfl (QY.idxN rfl rfl (by omega)) ?_
    | refine L_reg ?_
    | refine L_seq ?_
    | exact ⟨rfl, rfl⟩
    | fail)
  refine LWp.pick [0, 1, 5, 6] [0, 1] rfl rfl rfl ?_
  refine L_loop (fun r l L => ∃ k : Nat, r = n - k ∧ k ≤ n ∧ l = [(0, tp), (1, .int .i64 f), (5, .int .i64 (sendC m f k)), (6, .int .i64 k)] ∧ L = RL (sendR m f k)) n ⟨0, rfl, by omega, rfl, rfl⟩ ?_
  rintro r _ _ ⟨k, rfl, hk, rfl, rfl⟩
  obtain ⟨h1, h2, h3, h4, h5, h6⟩ := sendR_len m f k
  have hb : (k : Int) * m.l.length ≤ 64000 := by
    have : k * m.l.length ≤ 64 * 1000 := Nat.mul_le_mul (by omega) hl
    omega
  repeat' (first
    | refine L_rs ?_
    | refine S_done [] rfl (Nx.goL ?_)
    | refine S_done [] rfl (RetQ.keepN rfl rfl rfl rfl ?_)
    | refine S_done [] rfl ?_
    | refine L_block ?_
    | refine L_ret (RetQ.keep rfl rfl rfl rfl ?_)
    | refine L_true rfl ?_
    | refine L_false rfl ?_
    | refine L_skip (Nx.goL ?_)
    | refine L_skip ?_
    | refine L_exit (Nx.goL ?_)
    | refine L_exit ?_
    | refine L_ifp rfl (by first | exact bD | exact bE | exact bN | exact bNB | exact bEB | exact bNot bD | exact bNot bE | exact bNot bN) (fun h => ?_) (fun h => ?_)
    | refine S_Q [] rfl rfl (QY.idxN rfl rfl (by omega)) ?_
    | refine L_reg ?_
    | refine L_seq ?_
    | exact ⟨rfl, rfl⟩
    | fail)
  · have hc : (sendR m f k).l.countP (isP f k) ≤ m.l.length := by rw [← h1]; exact List.countP_le_length
    first | refine LSt.drop [0, 1, 5, 6] (LSt.nf ?_) | refine LWp.drop [0, 1, 5, 6] (LWp.nf ?_)
    conv => whnf
    first | refine L_rs ?_ | refine L_reg ?_ | skip
    refine S_Ed [] rfl rfl (EWd.callF [0, 1] (pass_tr (sendR m f k) (by omega) (by omega) (by omega) f k) rfl rfl (by decide) (by repeat' (first | exact trivial | refine ⟨rfl, ?_⟩ | fail)) rfl rfl rfl) rfl rfl rfl ?_
    rintro _ _ ⟨rfl, rfl⟩
    refine ⟨(by repeat' (first | exact trivial | refine ⟨⟨qsafe_ok (st := []) rfl, Sure.of rfl⟩, ?_⟩ | refine ⟨.inl rfl, ?_⟩ | refine ⟨.inr ⟨qsafe_ok (st := []) rfl, Sure.of rfl⟩, ?_⟩ | refine ⟨.inr ⟨QY.neqB rfl (by kernel_rfl) rfl rfl, Sure.of rfl⟩, ?_⟩ | refine ⟨.inr ⟨QY.eqlB rfl (by kernel_rfl) rfl rfl, Sure.of rfl⟩, ?_⟩ | fail)), LSt.nf ?_⟩
    conv => whnf
    refine S_Q [] rfl rfl (QY.add (c := (sendC m f (k + 1) : Int)) rfl rfl rfl (by omega) (by simp only [sendC]; omega)) ?_
    refine S_done [] rfl (Nx.goL ?_)
    refine L_reg (S_Q [] rfl rfl (QY.add (c := ((k + 1 : Nat) : Int)) rfl rfl rfl (by omega) (by omega)) (S_done [] rfl ?_))
    exact Nx.pick [0, 1, 5, 6] [0, 1] rfl rfl rfl ⟨n - (k + 1), by omega, k + 1, rfl, by omega, rfl, rfl⟩
  · have e : k = n := by omega
    subst e
    repeat' (first
      | refine L_rs ?_
      | refine S_done [] rfl (Nx.goL ?_)
      | refine S_done [] rfl (RetQ.keepN rfl rfl rfl rfl ?_)
      | refine S_done [] rfl ?_
      | refine L_block ?_
      | refine L_ret (RetQ.keep rfl rfl rfl rfl ?_)
      | refine L_true rfl ?_
      | refine L_false rfl ?_
      | refine L_skip (Nx.goL ?_)
      | refine L_skip ?_
      | refine L_exit (Nx.goL ?_)
      | refine L_exit ?_
      | refine L_ifp rfl (by first | exact bD | exact bE | exact bN | exact bNB | exact bEB | exact bNot bD | exact bNot bE | exact bNot bN) (fun h => ?_) (fun h => ?_)
      | refine S_Q [] rfl rfl (QY.idxN rfl rfl (by omega)) ?_
      | refine L_reg ?_
      | refine L_seq ?_
      | exact ⟨rfl, rfl⟩
      | fail)

/-- the place of the first one that has come, of the first k -/
def fstAt (t : Int) (l : List It) : Nat → Int
  | 0 => -1
  | k + 1 => match l[k]? with
    | none => fstAt t l k
    | some x => if x.to = t ∧ x.come > 0 ∧ (fstAt t l k < 0 ∨ x.come < (l.getD (fstAt t l k).toNat ⟨0, 0, 0, 0⟩).come) then k else fstAt t l k
theorem fstAt_in (t : Int) (l : List It) : ∀ k, k ≤ l.length → fstAt t l k = -1 ∨ ∃ j y, j < k ∧ fstAt t l k = (j : Int) ∧ l[j]? = some y
  | 0, _ => .inl rfl
  | k + 1, h => by
    obtain ⟨x, hx⟩ : ∃ x, l[k]? = some x := ⟨_, List.getElem?_eq_getElem (by omega)⟩
    simp only [fstAt, hx]
    split
    · exact .inr ⟨k, x, by omega, rfl, hx⟩
    · rcases fstAt_in t l k (by omega) with h1 | ⟨j, y, h1, h2, h3⟩
      · exact .inl h1
      · exact .inr ⟨j, y, by omega, h2, h3⟩
theorem first_tr (m : RM) (hl : m.l.length ≤ 1000000) (t : Int) : Tr Try.prog 26 [tp, .int .i64 t] (RL m) (fun v K => v = .int .i64 (fstAt t m.l m.l.length) ∧ K = RL m) := by
  refine Tr.of row_tumbrelref12_Mail_first_ok rfl ?_
  repeat' (first
    | refine L_rs ?_
    | refine S_done [] rfl (Nx.goL ?_)
    | refine S_done [] rfl (RetQ.keepN rfl rfl rfl rfl ?_)
    | refine S_done [] rfl ?_
    | refine L_block ?_
    | refine L_ret (RetQ.keep rfl rfl rfl rfl ?_)
    | refine L_true rfl ?_
    | refine L_false rfl ?_
    | refine L_skip (Nx.goL ?_)
    | refine L_skip ?_
    | refine L_exit (Nx.goL ?_)
    | refine L_exit ?_
    | refine L_ifp rfl (by first | exact bD | exact bE | exact bN | exact bNB | exact bEB | exact bNot bD | exact bNot bE | exact bNot bN) (fun h => ?_) (fun h => ?_)
    | refine S_Q [] rfl rfl (QY.idxN rfl rfl (by omega)) ?_
    | refine L_reg ?_
    | refine L_seq ?_
    | exact ⟨rfl, rfl⟩
    | fail)
  refine LWp.pick [0, 1, 5, 11, 12, 13] [0, 1] rfl rfl rfl ?_
  refine L_loop (fun r l L => ∃ k : Nat, r = m.l.length - k ∧ k ≤ m.l.length ∧ l = [(0, tp), (1, .int .i64 t), (5, .int .i64 (fstAt t m.l k)), (11, .slice (some ⟨1, 0, none⟩) m.l.length m.l.length), (12, .int .i64 m.l.length), (13, .int .i64 k)] ∧ L = RL m) m.l.length ⟨0, rfl, by omega, rfl, rfl⟩ ?_
  rintro r _ _ ⟨k, rfl, hk, rfl, rfl⟩
  repeat' (first
    | refine L_rs ?_
    | refine S_done [] rfl (Nx.goL ?_)
    | refine S_done [] rfl (RetQ.keepN rfl rfl rfl rfl ?_)
    | refine S_done [] rfl ?_
    | refine L_block ?_
    | refine L_ret (RetQ.keep rfl rfl rfl rfl ?_)
    | refine L_true rfl ?_
    | refine L_false rfl ?_
    | refine L_skip (Nx.goL ?_)
    | refine L_skip ?_
    | refine L_exit (Nx.goL ?_)
    | refine L_exit ?_
    | refine L_ifp rfl (by first | exact bD | exact bE | exact bN | exact bNB | exact bEB | exact bNot bD | exact bNot bE | exact bNot bN) (fun h => ?_) (fun h => ?_)
    | refine S_Q [] rfl rfl (QY.idxN rfl rfl (by omega)) ?_
    | refine L_reg ?_
    | refine L_seq ?_
    | exact ⟨rfl, rfl⟩
    | fail)
  · obtain ⟨x, hx⟩ : ∃ x, m.l[k]? = some x := ⟨_, List.getElem?_eq_getElem (by omega)⟩
    have hs : fstAt t m.l (k + 1) = if x.to = t ∧ x.come > 0 ∧ (fstAt t m.l k < 0 ∨ x.come < (m.l.getD (fstAt t m.l k).toNat ⟨0, 0, 0, 0⟩).come) then (k : Int) else fstAt t m.l k := by simp only [fstAt, hx]
    refine S_Q [] rfl rfl (QY.ldRow It.ok rfl rfl hx (by decide)) ?_
    rcases fstAt_in t m.l k hk with hf | ⟨j, y, hj, hf, hy⟩
    · rw [hf] at hs ⊢
      repeat' (first
        | refine L_rs ?_
        | refine S_done [] rfl (Nx.goL ?_)
        | refine S_done [] rfl (RetQ.keepN rfl rfl rfl rfl ?_)
        | refine S_done [] rfl ?_
        | refine L_block ?_
        | refine L_ret (RetQ.keep rfl rfl rfl rfl ?_)
        | refine L_true rfl ?_
        | refine L_false rfl ?_
        | refine L_skip (Nx.goL ?_)
        | refine L_skip ?_
        | refine L_exit (Nx.goL ?_)
        | refine L_exit ?_
        | refine L_ifp rfl (by first | exact bD | exact bE | exact bN | exact bNB | exact bEB | exact bNot bD | exact bNot bE | exact bNot bN) (fun h => ?_) (fun h => ?_)
        | refine S_Q [] rfl rfl (QY.idxN rfl rfl (by omega)) ?_
        | refine S_splitp 22 rfl rfl rfl (by first | exact bD | exact bE | exact bN | exact bNB | exact bEB | exact bNot bD | exact bNot bE | exact bNot bN) (fun h => ?_) (fun h => ?_)
        | refine S_splitp 27 rfl rfl rfl (by first | exact bD | exact bE | exact bN | exact bNB | exact bEB | exact bNot bD | exact bNot bE | exact bNot bN) (fun h => ?_) (fun h => ?_)
        | refine L_reg ?_
        | refine L_seq ?_
        | exact ⟨rfl, rfl⟩
        | fail)
      all_goals
        refine S_Q [] rfl rfl (QY.add (c := ((k + 1 : Nat) : Int)) rfl rfl rfl (by omega) (by omega)) (S_done [] rfl ?_)
        refine Nx.pick [0, 1, 5, 11, 12, 13] [0, 1] rfl rfl rfl ⟨m.l.length - (k + 1), by omega, k + 1, rfl, by omega, ?_, rfl⟩
        first
        | (rw [hs, if_pos (by omega)]; rfl)
        | (rw [hs, if_neg (by omega)]; rfl)
    · rw [hf] at hs ⊢
      simp only [Int.toNat_natCast, List.getD_eq_getElem?_getD, hy, Option.getD_some] at hs
      repeat' (first
        | refine L_rs ?_
        | refine S_done [] rfl (Nx.goL ?_)
        | refine S_done [] rfl (RetQ.keepN rfl rfl rfl rfl ?_)
        | refine S_done [] rfl ?_
        | refine L_block ?_
        | refine L_ret (RetQ.keep rfl rfl rfl rfl ?_)
        | refine L_true rfl ?_
        | refine L_false rfl ?_
        | refine L_skip (Nx.goL ?_)
        | refine L_skip ?_
        | refine L_exit (Nx.goL ?_)
        | refine L_exit ?_
        | refine L_ifp rfl (by first | exact bD | exact bE | exact bN | exact bNB | exact bEB | exact bNot bD | exact bNot bE | exact bNot bN) (fun h => ?_) (fun h => ?_)
        | refine S_Q [] rfl rfl (QY.idxN rfl rfl (by omega)) ?_
        | refine S_Q [] rfl rfl (QY.ldF (j := 3) It.ok rfl rfl hy rfl rfl) ?_
        | refine S_splitp 22 rfl rfl rfl (by first | exact bD | exact bE | exact bN | exact bNB | exact bEB | exact bNot bD | exact bNot bE | exact bNot bN) (fun h => ?_) (fun h => ?_)
        | refine S_splitp 27 rfl rfl rfl (by first | exact bD | exact bE | exact bN | exact bNB | exact bEB | exact bNot bD | exact bNot bE | exact bNot bN) (fun h => ?_) (fun h => ?_)
        | refine S_splitp 30 rfl rfl rfl (by first | exact bD | exact bE | exact bN | exact bNB | exact bEB | exact bNot bD | exact bNot bE | exact bNot bN) (fun h => ?_) (fun h => ?_)
        | refine L_reg ?_
        | refine L_seq ?_
        | exact ⟨rfl, rfl⟩
        | fail)
      all_goals
        refine S_Q [] rfl rfl (QY.add (c := ((k + 1 : Nat) : Int)) rfl rfl rfl (by omega) (by omega)) (S_done [] rfl ?_)
        refine Nx.pick [0, 1, 5, 11, 12, 13] [0, 1] rfl rfl rfl ⟨m.l.length - (k + 1), by omega, k + 1, rfl, by omega, ?_, rfl⟩
        first
        | (rw [hs, if_pos (by omega)]; rfl)
        | (rw [hs, if_neg (by omega)]; rfl)
  · have e : k = m.l.length := by omega
    subst e
    repeat' (first
      | refine L_rs ?_
      | refine S_done [] rfl (Nx.goL ?_)
      | refine S_done [] rfl (RetQ.keepN rfl rfl rfl rfl ?_)
      | refine S_done [] rfl ?_
      | refine L_block ?_
      | refine L_ret (RetQ.keep rfl rfl rfl rfl ?_)
      | refine L_true rfl ?_
      | refine L_false rfl ?_
      | refine L_skip (Nx.goL ?_)
      | refine L_skip ?_
      | refine L_exit (Nx.goL ?_)
      | refine L_exit ?_
      | refine L_ifp rfl (by first | exact bD | exact bE | exact bN | exact bNB | exact bEB | exact bNot bD | exact bNot bE | exact bNot bN) (fun h => ?_) (fun h => ?_)
      | refine S_Q [] rfl rfl (QY.idxN rfl rfl (by omega)) ?_
      | refine L_reg ?_
      | refine L_seq ?_
      | exact ⟨rfl, rfl⟩
      | fail)

def nextR (m : RM) (t : Int) : RM := if fstAt t m.l m.l.length < 0 then m else { m with l := m.l.eraseIdx (fstAt t m.l m.l.length).toNat }
def nextA (m : RM) (t : Int) : Int := if fstAt t m.l m.l.length < 0 then 0 else (m.l.getD (fstAt t m.l m.l.length).toNat ⟨0, 0, 0, 0⟩).at_
theorem Next_tr (m : RM) (hl : m.l.length ≤ 1000) (t : Int) : TrK Try.prog [] [0] 18 [tp, .int .i64 t] (RL m) (fun v K => v = .tuple ⟨[.int .i64 (nextA m t), .bool (decide (¬ fstAt t m.l m.l.length < 0))]⟩ ∧ K = RL (nextR m t)) := by
  refine Tr.of row_tumbrelref12_Mail_Next_ok rfl ?_
  repeat' (first
    | refine L_rs ?_
    | refine S_done [] rfl (Nx.goL ?_)
    | refine S_done [] rfl (RetQ.keepN rfl rfl rfl rfl ?_)
    | refine S_done [] rfl ?_
    | refine L_block ?_
    | refine L_ret (RetQ.keep rfl rfl rfl rfl ?_)
    | refine L_true rfl ?_
    | refine L_false rfl ?_
    | refine L_skip (Nx.goL ?_)
    | refine L_skip ?_
    | refine L_exit (Nx.goL ?_)
    | refine L_exit ?_
    | refine L_ifp rfl (by first | exact bD | exact bE | exact bN | exact bNB | exact bEB | exact bNot bD | exact bNot bE | exact bNot bN) (fun h => ?_) (fun h => ?_)
    | refine S_Q [] rfl rfl (QY.idxN rfl rfl (by omega)) ?_
    | refine L_reg ?_
    | refine L_seq ?_
    | exact ⟨rfl, rfl⟩
    | fail)
  first | refine L_rs ?_ | refine L_reg ?_ | skip
  refine S_Ed [] rfl rfl (EWd.callP [0, 1] (first_tr m (by omega) t) rfl rfl (by decide) (by repeat' (first | exact trivial | refine ⟨rfl, ?_⟩ | fail)) rfl rfl) (disj_nil _) (nm_nilE _) (nm_nilT _) ?_
  rintro _ _ ⟨rfl, rfl⟩
  refine ⟨(by repeat' (first | exact trivial | refine ⟨⟨qsafe_ok (st := []) rfl, Sure.of rfl⟩, ?_⟩ | refine ⟨.inl rfl, ?_⟩ | refine ⟨.inr ⟨qsafe_ok (st := []) rfl, Sure.of rfl⟩, ?_⟩ | refine ⟨.inr ⟨QY.neqB rfl (by kernel_rfl) rfl rfl, Sure.of rfl⟩, ?_⟩ | refine ⟨.inr ⟨QY.eqlB rfl (by kernel_rfl) rfl rfl, Sure.of rfl⟩, ?_⟩ | fail)), ?_⟩
  repeat' (first
    | refine L_rs ?_
    | refine S_done [] rfl (Nx.goL ?_)
    | refine S_done [] rfl (RetQ.keepN rfl rfl rfl rfl ?_)
    | refine S_done [] rfl ?_
    | refine L_block ?_
    | refine L_ret (RetQ.keep rfl rfl rfl rfl ?_)
    | refine L_true rfl ?_
    | refine L_false rfl ?_
    | refine L_skip (Nx.goL ?_)
    | refine L_skip ?_
    | refine L_exit (Nx.goL ?_)
    | refine L_exit ?_
    | refine L_ifp rfl (by first | exact bD | exact bE | exact bN | exact bNB | exact bEB | exact bNot bD | exact bNot bE | exact bNot bN) (fun h => ?_) (fun h => ?_)
    | refine S_Q [] rfl rfl (QY.idxN rfl rfl (by omega)) ?_
    | refine L_reg ?_
    | refine L_seq ?_
    | exact ⟨rfl, rfl⟩
    | fail)
  · rw [nextA, nextR, if_pos h, if_pos h, decide_eq_false (Classical.not_not.2 h)]; exact ⟨rfl, rfl⟩
  · obtain ⟨j, y, hj, hf, hy⟩ : ∃ j y, j < m.l.length ∧ fstAt t m.l m.l.length = (j : Int) ∧ m.l[j]? = some y := by
      rcases fstAt_in t m.l m.l.length (Nat.le_refl _) with h1 | h1
      · omega
      · exact h1
    rw [hf] at h ⊢
    have e1 : nextA m t = y.at_ := by rw [nextA, hf, if_neg (by omega)]; simp [hy]
    have e2 : nextR m t = { m with l := m.l.eraseIdx j } := by rw [nextR, hf, if_neg (by omega)]; rfl
    refine S_Q [] rfl rfl (QY.idxN rfl rfl hj) (S_Q [] rfl rfl (QY.ldF (j := 2) It.ok rfl rfl hy rfl rfl) (S_done [] rfl (Nx.goL ?_)))
    first | refine LSt.drop [0, 6, 7] (LSt.nf ?_) | refine LWp.drop [0, 6, 7] (LWp.nf ?_)
    conv => whnf
    refine L_rs (S_Q [] rfl rfl (QY.slc (lo' := 0) (hi' := j) rfl rfl rfl (by omega) (by omega)) ?_)
    refine S_Q [] rfl rfl (QY.add (c := ((j + 1 : Nat) : Int)) rfl rfl rfl (by omega) (by omega)) ?_
    refine S_Q [] rfl rfl (QY.slc (lo' := j + 1) (hi' := m.l.length) rfl rfl rfl (by omega) (by omega)) ?_
    have hne : m.l.length ≠ 0 := by omega
    refine S_E [] rfl rfl (esafe_ok rfl) ?_
    rintro _ _ ⟨rfl, rfl⟩
    refine ⟨⟨⟨qsafe_ok (st := []) rfl, Sure.slice hne⟩, ⟨qsafe_ok (st := []) rfl, Sure.slice hne⟩, trivial⟩, ?_⟩
    refine S_wk [] rfl (wk_gro0 (b := 2) 4 rfl) ?_
    refine S_E [] rfl rfl (EW.appRS (bytes := 32) (i := 0) (xs := []) (ys := m.l) It.ok rfl (by kernel_rfl) rfl rfl rfl rfl rfl rfl (by omega) (by decide) (by omega)) ?_
    rintro _ _ ⟨rfl, rfl⟩
    refine ⟨⟨⟨qsafe_ok (st := []) rfl, Sure.slice hne⟩, ⟨qsafe_ok (st := []) rfl, Sure.slice hne⟩, trivial⟩, LSt.nf ?_⟩
    conv => whnf
    refine S_E [] rfl rfl (EW.appRS (bytes := 32) (i := j + 1) (ys := m.l) It.ok rfl (by kernel_rfl) rfl rfl rfl rfl (by omega) (by simp; omega) (by omega) (by decide) (by omega)) ?_
    rintro _ _ ⟨rfl, rfl⟩
    refine ⟨⟨⟨qsafe_ok (st := []) rfl, Sure.slice hne⟩, ⟨qsafe_ok (st := []) rfl, Sure.slice hne⟩, trivial⟩, LSt.nf ?_⟩
    conv => whnf
    refine S_done [] rfl (Nx.goL (L_rs (S_done [] rfl (Nx.goL ?_))))
    refine L_ret (RetQ.pick [0, 4] rfl rfl rfl rfl ?_)
    rw [e1, e2, decide_eq_true h]
    refine ⟨rfl, ?_⟩
    have e3 : (m.l.drop 0).take (j - 0) ++ (m.l.drop (j + 1)).take (m.l.length - (j + 1)) = m.l.eraseIdx j := by
      rw [List.eraseIdx_eq_take_drop_succ, List.drop_zero, Nat.sub_zero, List.take_of_length_le (l := m.l.drop (j + 1)) (by simp)]
    have e4 : (m.l.eraseIdx j).length = 0 + (j - 0) + (m.l.length - (j + 1)) := by rw [← e3]; simp; omega
    simp only [RL]
    rw [e4, ← e3]
    rfl

/-! ### all, thread by thread -/
def atsC (t n : Int) (l : List It) : List Int := (l.filter fun x => decide (x.to = t ∧ x.come = n)).map It.at_
def atsH (f t : Int) (l : List It) : List Int := (l.filter fun x => decide (x.fr = f ∧ x.to = t ∧ x.come = 0)).map It.at_
theorem filter_take {α : Type} (p : α → Bool) {l : List α} {k : Nat} {x : α} (hx : l[k]? = some x) : (l.take (k + 1)).filter p = (l.take k).filter p ++ if p x then [x] else [] := by
  have hk := (List.getElem?_eq_some_iff.1 hx).1
  have e : l[k] = x := by rw [List.getElem?_eq_getElem hk] at hx; exact Option.some.inj hx
  rw [← List.take_append_getElem hk, List.filter_append, e]
  congr 1
  simp only [List.filter_cons, List.filter_nil]
def comeTo (m : RM) (t : Int) : Nat → List Int
  | 0 => []
  | k + 1 => comeTo m t k ++ atsC t (k + 1 : Nat) m.l
def heldToR (m : RM) (f : Int) : Nat → List Int
  | 0 => []
  | k + 1 => heldToR m f k ++ atsH f k m.l
def allR (m : RM) (n N : Nat) : Nat → List Int
  | 0 => []
  | k + 1 => allR m n N k ++ (comeTo m k N ++ heldToR m k n)
theorem atsC_le (t n : Int) (l : List It) : (atsC t n l).length ≤ l.length := by simp only [atsC, List.length_map]; exact List.length_filter_le _ _
theorem atsH_le (f t : Int) (l : List It) : (atsH f t l).length ≤ l.length := by simp only [atsH, List.length_map]; exact List.length_filter_le _ _
theorem comeTo_le (m : RM) (t : Int) : ∀ k, (comeTo m t k).length ≤ k * m.l.length
  | 0 => by simp [comeTo]
  | k + 1 => by
    have := atsC_le t ((k + 1 : Nat) : Int) m.l
    have := comeTo_le m t k
    simp only [comeTo, List.length_append, Nat.add_mul]; omega
theorem heldToR_le (m : RM) (f : Int) : ∀ k, (heldToR m f k).length ≤ k * m.l.length
  | 0 => by simp [heldToR]
  | k + 1 => by
    have := atsH_le f (k : Int) m.l
    have := heldToR_le m f k
    simp only [heldToR, List.length_append, Nat.add_mul]; omega
theorem allR_le (m : RM) (n N : Nat) : ∀ k, (allR m n N k).length ≤ k * ((N + n) * m.l.length)
  | 0 => by simp [allR]
  | k + 1 => by
    have h1 := comeTo_le m (k : Int) N
    have h2 := heldToR_le m (k : Int) n
    have h3 := allR_le m n N k
    simp only [allR, List.length_append, Nat.add_mul] at *
    omega
end Go.Proofs.Ytgfkadmpakgmeaa
