/-
  Layer 12: contracts of the document's mail: one list of all that is under way.
-/
import Derived.Test.YtgfkadmpakgmeaaTab
import Derived.Test.YtgfkadmpakgmeaaLw6
namespace Go.Proofs.Ytgfkadmpakgmeaa
open Go Go.Tum

structure It where
  fr : Int
  to : Int
  at_ : Int
  come : Int
def It.cells (x : It) : List Value := [.int .i64 x.fr, .int .i64 x.to, .int .i64 x.at_, .int .i64 x.come]
theorem It.ok : RowOk It.cells 4 := ⟨fun _ => rfl, fun _ => rfl⟩
structure RM where
  n : Int
  bt : Int
  l : List It
  N : Int
def RL (m : RM) : LH := [.cells 0 [.int .i64 m.n, .int .i64 m.bt, .slice (some ⟨1, 0, none⟩) m.l.length m.l.length, .int .i64 m.N], .gro 4 (rowsC It.cells m.l)]
abbrev tp : Value := .pointer (some ⟨0, 0, none⟩)

theorem In_tr (m : RM) (t : Int) : Tr Try.prog 23 [tp, .int .i64 t] (RL m) (fun v K => v = .bool (decide (0 ≤ t ∧ t < m.n)) ∧ K = RL m) := by
  refine Tr.of row_tumbrelref12_Mail_In_ok rfl ?_
  repeat' (first
    | refine L_rs ?_
    | refine S_done [] rfl (Nx.goL ?_)
    | refine S_done [] rfl (RetQ.keepN rfl rfl rfl rfl ?_)
    | refine S_done [] rfl ?_
    | refine L_block ?_
    | refine L_ret (RetQ.keep rfl rfl rfl rfl ?_)
    | refine L_true rfl ?_
    | refine L_false rfl ?_
    | refine L_skip (Nx.goL ?_)
    | refine L_skip ?_
    | refine L_exit (Nx.goL ?_)
    | refine L_exit ?_
    | refine L_ifp rfl (by first | exact bD | exact bE | exact bN | exact bNB | exact bEB | exact bNot bD | exact bNot bE | exact bNot bN) (fun h => ?_) (fun h => ?_)
    | refine S_Q [] rfl rfl (QY.idxN rfl rfl (by omega)) ?_
    | refine S_splitp 7 rfl rfl rfl (by first | exact bD | exact bE | exact bN | exact bNB | exact bEB | exact bNot bD | exact bNot bE | exact bNot bN) (fun h => ?_) (fun h => ?_)
    | refine L_reg ?_
    | refine L_seq ?_
    | exact ⟨rfl, rfl⟩
    | fail)
  · exact ⟨by simp [lret, rnV, rn1, rnS, rn0, show 0 ≤ t from h], rfl⟩
  · exact ⟨by simp [lret, rnV, rn1, rnS, rn0, show ¬ 0 ≤ t from h], rfl⟩

def isHeld (f t : Int) (x : It) : Bool := decide (x.fr = f ∧ x.come = 0 ∧ (t < 0 ∨ x.to = t))
theorem take_count {α : Type} (p : α → Bool) {l : List α} {k : Nat} {x : α} (hx : l[k]? = some x) : (l.take (k + 1)).countP p = (l.take k).countP p + if p x then 1 else 0 := by
  have hk := (List.getElem?_eq_some_iff.1 hx).1
  have e : l[k] = x := by rw [List.getElem?_eq_getElem hk] at hx; exact Option.some.inj hx
  rw [← List.take_append_getElem hk, List.countP_append, e]
  simp [List.countP_cons, List.countP_nil]
theorem Held_tr (m : RM) (hl : m.l.length ≤ 1000000) (f t : Int) : Tr Try.prog 24 [tp, .int .i64 f, .int .i64 t] (RL m) (fun v K => v = .int .i64 (m.l.countP (isHeld f t)) ∧ K = RL m) := by
  refine Tr.of row_tumbrelref12_Mail_Held_ok rfl ?_
  repeat' (first
    | refine L_rs ?_
    | refine S_done [] rfl (Nx.goL ?_)
    | refine S_done [] rfl (RetQ.keepN rfl rfl rfl rfl ?_)
    | refine S_done [] rfl ?_
    | refine L_block ?_
    | refine L_ret (RetQ.keep rfl rfl rfl rfl ?_)
    | refine L_true rfl ?_
    | refine L_false rfl ?_
    | refine L_skip (Nx.goL ?_)
    | refine L_skip ?_
    | refine L_exit (Nx.goL ?_)
    | refine L_exit ?_
    | refine L_ifp rfl (by first | exact bD | exact bE | exact bN | exact bNB | exact bEB | exact bNot bD | exact bNot bE | exact bNot bN) (fun h => ?_) (fun h => ?_)
    | refine S_Q [] rfl rfl (QY.idxN rfl rfl (by omega)) ?_
    | refine L_reg ?_
    | refine L_seq ?_
    | exact ⟨rfl, rfl⟩
    | fail)
  refine LWp.pick [0, 1, 2, 7, 13, 14, 15] [0, 1] rfl rfl rfl ?_
  refine L_loop (fun r l L => ∃ k : Nat, r = m.l.length - k ∧ k ≤ m.l.length ∧ l = [(0, tp), (1, .int .i64 f), (2, .int .i64 t), (7, .int .i64 ((m.l.take k).countP (isHeld f t))), (13, .slice (some ⟨1, 0, none⟩) m.l.length m.l.length), (14, .int .i64 m.l.length), (15, .int .i64 k)] ∧ L = RL m) m.l.length ⟨0, rfl, by omega, rfl, rfl⟩ ?_
  rintro r _ _ ⟨k, rfl, hk, rfl, rfl⟩
  repeat' (first
    | refine L_rs ?_
    | refine S_done [] rfl (Nx.goL ?_)
    | refine S_done [] rfl (RetQ.keepN rfl rfl rfl rfl ?_)
    | refine S_done [] rfl ?_
    | refine L_block ?_
    | refine L_ret (RetQ.keep rfl rfl rfl rfl ?_)
    | refine L_true rfl ?_
    | refine L_false rfl ?_
    | refine L_skip (Nx.goL ?_)
    | refine L_skip ?_
    | refine L_exit (Nx.goL ?_)
    | refine L_exit ?_
    | refine L_ifp rfl (by first | exact bD | exact bE | exact bN | exact bNB | exact bEB | exact bNot bD | exact bNot bE | exact bNot bN) (fun h => ?_) (fun h => ?_)
    | refine S_Q [] rfl rfl (QY.idxN rfl rfl (by omega)) ?_
    | refine L_reg ?_
    | refine L_seq ?_
    | exact ⟨rfl, rfl⟩
    | fail)
  · obtain ⟨x, hx⟩ : ∃ x, m.l[k]? = some x := ⟨_, List.getElem?_eq_getElem (by omega)⟩
    have hc := take_count (isHeld f t) hx
    have hle : (m.l.take (k + 1)).countP (isHeld f t) ≤ k + 1 := Nat.le_trans (List.countP_le_length) (by simp; omega)
    refine S_Q [] rfl rfl (QY.ldRow It.ok rfl rfl hx (by decide)) ?_
    repeat' (first
      | refine L_rs ?_
      | refine S_done [] rfl (Nx.goL ?_)
      | refine S_done [] rfl (RetQ.keepN rfl rfl rfl rfl ?_)
      | refine S_done [] rfl ?_
      | refine L_block ?_
      | refine L_ret (RetQ.keep rfl rfl rfl rfl ?_)
      | refine L_true rfl ?_
      | refine L_false rfl ?_
      | refine L_skip (Nx.goL ?_)
      | refine L_skip ?_
      | refine L_exit (Nx.goL ?_)
      | refine L_exit ?_
      | refine L_ifp rfl (by first | exact bD | exact bE | exact bN | exact bNB | exact bEB | exact bNot bD | exact bNot bE | exact bNot bN) (fun h => ?_) (fun h => ?_)
      | refine S_Q [] rfl rfl (QY.idxN rfl rfl (by omega)) ?_
      | refine S_splitp 23 rfl rfl rfl (by first | exact bD | exact bE | exact bN | exact bNB | exact bEB | exact bNot bD | exact bNot bE | exact bNot bN) (fun h => ?_) (fun h => ?_)
      | refine S_splitp 28 rfl rfl rfl (by first | exact bD | exact bE | exact bN | exact bNB | exact bEB | exact bNot bD | exact bNot bE | exact bNot bN) (fun h => ?_) (fun h => ?_)
      | refine S_splitp 31 rfl rfl rfl (by first | exact bD | exact bE | exact bN | exact bNB | exact bEB | exact bNot bD | exact bNot bE | exact bNot bN) (fun h => ?_) (fun h => ?_)
      | refine L_reg ?_
      | refine L_seq ?_
      | exact ⟨rfl, rfl⟩
      | fail)
    all_goals
      first
      | (have e : isHeld f t x = true := by simp [isHeld]; omega
         rw [e] at hc
         refine S_Q [] rfl rfl (QY.add (c := (((m.l.take k).countP (isHeld f t) + 1 : Nat) : Int)) rfl rfl rfl (by omega) (by omega)) (S_done [] rfl (Nx.goL ?_))
         refine L_reg (S_Q [] rfl rfl (QY.add (c := ((k + 1 : Nat) : Int)) rfl rfl rfl (by omega) (by omega)) (S_done [] rfl ?_))
         refine Nx.pick [0, 1, 2, 7, 13, 14, 15] [0, 1] rfl rfl rfl ⟨m.l.length - (k + 1), by omega, k + 1, rfl, by omega, ?_, rfl⟩
         rw [hc]; rfl)
      | (have e : isHeld f t x = false := by simp [isHeld]; omega
         rw [e] at hc
         refine S_Q [] rfl rfl (QY.add (c := ((k + 1 : Nat) : Int)) rfl rfl rfl (by omega) (by omega)) (S_done [] rfl ?_)
         refine Nx.pick [0, 1, 2, 7, 13, 14, 15] [0, 1] rfl rfl rfl ⟨m.l.length - (k + 1), by omega, k + 1, rfl, by omega, ?_, rfl⟩
         rw [hc]; rfl)
  · have e : k = m.l.length := by omega
    subst e
    repeat' (first
      | refine L_rs ?_
      | refine S_done [] rfl (Nx.goL ?_)
      | refine S_done [] rfl (RetQ.keepN rfl rfl rfl rfl ?_)
      | refine S_done [] rfl ?_
      | refine L_block ?_
      | refine L_ret (RetQ.keep rfl rfl rfl rfl ?_)
      | refine L_true rfl ?_
      | refine L_false rfl ?_
      | refine L_skip (Nx.goL ?_)
      | refine L_skip ?_
      | refine L_exit (Nx.goL ?_)
      | refine L_exit ?_
      | refine L_ifp rfl (by first | exact bD | exact bE | exact bN | exact bNB | exact bEB | exact bNot bD | exact bNot bE | exact bNot bN) (fun h => ?_) (fun h => ?_)
      | refine S_Q [] rfl rfl (QY.idxN rfl rfl (by omega)) ?_
      | refine L_reg ?_
      | refine L_seq ?_
      | exact ⟨rfl, rfl⟩
      | fail)
    rw [List.take_length]; exact ⟨rfl, rfl⟩

def hasCome (t : Int) (x : It) : Bool := decide (x.to = t ∧ x.come > 0)
theorem Waits_tr (m : RM) (hl : m.l.length ≤ 1000000) (t : Int) : Tr Try.prog 27 [tp, .int .i64 t] (RL m) (fun v K => v = .int .i64 (m.l.countP (hasCome t)) ∧ K = RL m) := by
  refine Tr.of row_tumbrelref12_Mail_Waits_ok rfl ?_
  repeat' (first
    | refine L_rs ?_
    | refine S_done [] rfl (Nx.goL ?_)
    | refine S_done [] rfl (RetQ.keepN rfl rfl rfl rfl ?_)
    | refine S_done [] rfl ?_
    | refine L_block ?_
    | refine L_ret (RetQ.keep rfl rfl rfl rfl ?_)
    | refine L_true rfl ?_
    | refine L_false rfl ?_
    | refine L_skip (Nx.goL ?_)
    | refine L_skip ?_
    | refine L_exit (Nx.goL ?_)
    | refine L_exit ?_
    | refine L_ifp rfl (by first | exact bD | exact bE | exact bN | exact bNB | exact bEB | exact bNot bD | exact bNot bE | exact bNot bN) (fun h => ?_) (fun h => ?_)
    | refine S_Q [] rfl rfl (QY.idxN rfl rfl (by omega)) ?_
    | refine L_reg ?_
    | refine L_seq ?_
    | exact ⟨rfl, rfl⟩
    | fail)
  refine LWp.pick [0, 1, 5, 11, 12, 13] [0, 1] rfl rfl rfl ?_
  refine L_loop (fun r l L => ∃ k : Nat, r = m.l.length - k ∧ k ≤ m.l.length ∧ l = [(0, tp), (1, .int .i64 t), (5, .int .i64 ((m.l.take k).countP (hasCome t))), (11, .slice (some ⟨1, 0, none⟩) m.l.length m.l.length), (12, .int .i64 m.l.length), (13, .int .i64 k)] ∧ L = RL m) m.l.length ⟨0, rfl, by omega, rfl, rfl⟩ ?_
  rintro r _ _ ⟨k, rfl, hk, rfl, rfl⟩
  repeat' (first
    | refine L_rs ?_
    | refine S_done [] rfl (Nx.goL ?_)
    | refine S_done [] rfl (RetQ.keepN rfl rfl rfl rfl ?_)
    | refine S_done [] rfl ?_
    | refine L_block ?_
    | refine L_ret (RetQ.keep rfl rfl rfl rfl ?_)
    | refine L_true rfl ?_
    | refine L_false rfl ?_
    | refine L_skip (Nx.goL ?_)
    | refine L_skip ?_
    | refine L_exit (Nx.goL ?_)
    | refine L_exit ?_
    | refine L_ifp rfl (by first | exact bD | exact bE | exact bN | exact bNB | exact bEB | exact bNot bD | exact bNot bE | exact bNot bN) (fun h => ?_) (fun h => ?_)
    | refine S_Q [] rfl rfl (QY.idxN rfl rfl (by omega)) ?_
    | refine L_reg ?_
    | refine L_seq ?_
    | exact ⟨rfl, rfl⟩
    | fail)
  · obtain ⟨x, hx⟩ : ∃ x, m.l[k]? = some x := ⟨_, List.getElem?_eq_getElem (by omega)⟩
    have hc := take_count (hasCome t) hx
    have hle : (m.l.take k).countP (hasCome t) ≤ k := Nat.le_trans (List.countP_le_length) (by simp; omega)
    refine S_Q [] rfl rfl (QY.ldRow It.ok rfl rfl hx (by decide)) ?_
    repeat' (first
      | refine L_rs ?_
      | refine S_done [] rfl (Nx.goL ?_)
      | refine S_done [] rfl (RetQ.keepN rfl rfl rfl rfl ?_)
      | refine S_done [] rfl ?_
      | refine L_block ?_
      | refine L_ret (RetQ.keep rfl rfl rfl rfl ?_)
      | refine L_true rfl ?_
      | refine L_false rfl ?_
      | refine L_skip (Nx.goL ?_)
      | refine L_skip ?_
      | refine L_exit (Nx.goL ?_)
      | refine L_exit ?_
      | refine L_ifp rfl (by first | exact bD | exact bE | exact bN | exact bNB | exact bEB | exact bNot bD | exact bNot bE | exact bNot bN) (fun h => ?_) (fun h => ?_)
      | refine S_Q [] rfl rfl (QY.idxN rfl rfl (by omega)) ?_
      | refine S_splitp 21 rfl rfl rfl (by first | exact bD | exact bE | exact bN | exact bNB | exact bEB | exact bNot bD | exact bNot bE | exact bNot bN) (fun h => ?_) (fun h => ?_)
      | refine L_reg ?_
      | refine L_seq ?_
      | exact ⟨rfl, rfl⟩
      | fail)
    all_goals
      first
      | (have e : hasCome t x = true := by simp [hasCome]; omega
         rw [e] at hc
         refine S_Q [] rfl rfl (QY.add (c := (((m.l.take k).countP (hasCome t) + 1 : Nat) : Int)) rfl rfl rfl (by omega) (by omega)) (S_done [] rfl (Nx.goL ?_))
         refine L_reg (S_Q [] rfl rfl (QY.add (c := ((k + 1 : Nat) : Int)) rfl rfl rfl (by omega) (by omega)) (S_done [] rfl ?_))
         refine Nx.pick [0, 1, 5, 11, 12, 13] [0, 1] rfl rfl rfl ⟨m.l.length - (k + 1), by omega, k + 1, rfl, by omega, ?_, rfl⟩
         rw [hc]; rfl)
      | (have e : hasCome t x = false := by simp [hasCome]; omega
         rw [e] at hc
         refine S_Q [] rfl rfl (QY.add (c := ((k + 1 : Nat) : Int)) rfl rfl rfl (by omega) (by omega)) (S_done [] rfl ?_)
         refine Nx.pick [0, 1, 5, 11, 12, 13] [0, 1] rfl rfl rfl ⟨m.l.length - (k + 1), by omega, k + 1, rfl, by omega, ?_, rfl⟩
         rw [hc]; rfl)
  · have e : k = m.l.length := by omega
    subst e
    repeat' (first
      | refine L_rs ?_
      | refine S_done [] rfl (Nx.goL ?_)
      | refine S_done [] rfl (RetQ.keepN rfl rfl rfl rfl ?_)
      | refine S_done [] rfl ?_
      | refine L_block ?_
      | refine L_ret (RetQ.keep rfl rfl rfl rfl ?_)
      | refine L_true rfl ?_
      | refine L_false rfl ?_
      | refine L_skip (Nx.goL ?_)
      | refine L_skip ?_
      | refine L_exit (Nx.goL ?_)
      | refine L_exit ?_
      | refine L_ifp rfl (by first | exact bD | exact bE | exact bN | exact bNB | exact bEB | exact bNot bD | exact bNot bE | exact bNot bN) (fun h => ?_) (fun h => ?_)
      | refine S_Q [] rfl rfl (QY.idxN rfl rfl (by omega)) ?_
      | refine L_reg ?_
      | refine L_seq ?_
      | exact ⟨rfl, rfl⟩
      | fail)
    rw [List.take_length]; exact ⟨rfl, rfl⟩

/-! ### what is held has come -/
def isP (f t : Int) (x : It) : Bool := decide (x.fr = f ∧ x.to = t ∧ x.come = 0)
def passL (f t : Int) : List It → Int → List It
  | [], _ => []
  | x :: r, N => if isP f t x then { x with come := N + 1 } :: passL f t r (N + 1) else x :: passL f t r N
theorem passL_append (f t : Int) : ∀ (a b : List It) (N : Int), passL f t (a ++ b) N = passL f t a N ++ passL f t b (N + a.countP (isP f t))
  | [], b, N => by simp [passL]
  | x :: r, b, N => by
    by_cases h : isP f t x = true
    · rw [List.countP_cons_of_pos h]
      simp only [List.cons_append, passL, h, if_true, passL_append f t r b (N + 1)]
      rw [show N + 1 + (r.countP (isP f t) : Int) = N + ((r.countP (isP f t) + 1 : Nat) : Int) by omega]
    · rw [List.countP_cons_of_neg h]
      simp only [List.cons_append, passL, h, passL_append f t r b N]
      rfl
theorem passL_length (f t : Int) : ∀ (a : List It) (N : Int), (passL f t a N).length = a.length
  | [], _ => rfl
  | x :: r, N => by simp only [passL]; split <;> simp [passL_length f t r]
theorem passL_take (f t : Int) {l : List It} {k : Nat} {x : It} (hx : l[k]? = some x) (N : Int) : passL f t (l.take (k + 1)) N = passL f t (l.take k) N ++ [if isP f t x then { x with come := N + (l.take k).countP (isP f t) + 1 } else x] := by
  have hk := (List.getElem?_eq_some_iff.1 hx).1
  have e : l[k] = x := by rw [List.getElem?_eq_getElem hk] at hx; exact Option.some.inj hx
  rw [← List.take_append_getElem hk, passL_append, e]
  simp only [passL]
  split <;> rfl
def passR (m : RM) (f t : Int) : RM := { m with l := passL f t m.l m.N, N := m.N + m.l.countP (isP f t) }
theorem pass_tr (m : RM) (hl : m.l.length ≤ 1000000) (hN : 0 ≤ m.N) (hN2 : m.N ≤ 1000000000) (f t : Int) : TrK Try.prog [] [0] 25 [tp, .int .i64 f, .int .i64 t] (RL m) (fun v K => v = .int .i64 (m.l.countP (isP f t)) ∧ K = RL (passR m f t)) := by
  refine Tr.of row_tumbrelref12_Mail_pass_ok rfl ?_
  repeat' (first
    | refine L_rs ?_
    | refine S_done [] rfl (Nx.goL ?_)
    | refine S_done [] rfl (RetQ.keepN rfl rfl rfl rfl ?_)
    | refine S_done [] rfl ?_
    | refine L_block ?_
    | refine L_ret (RetQ.keep rfl rfl rfl rfl ?_)
    | refine L_true rfl ?_
    | refine L_false rfl ?_
    | refine L_skip (Nx.goL ?_)
    | refine L_skip ?_
    | refine L_exit (Nx.goL ?_)
    | refine L_exit ?_
    | refine L_ifp rfl (by first | exact bD | exact bE | exact bN | exact bNB | exact bEB | exact bNot bD | exact bNot bE | exact bNot bN) (fun h => ?_) (fun h => ?_)
    | refine S_Q [] rfl rfl (QY.idxN rfl rfl (by omega)) ?_
    | refine L_reg ?_
    | refine L_seq ?_
    | exact ⟨rfl, rfl⟩
    | fail)
  refine LWp.nilE 8 4 rfl ?_
  refine LWp.pick [0, 1, 2, 7, 8, 14, 15, 16] [0, 1, 2] rfl rfl rfl ?_
  refine L_loop (fun r l L => ∃ k : Nat, r = m.l.length - k ∧ k ≤ m.l.length ∧ l = [(0, tp), (1, .int .i64 f), (2, .int .i64 t), (7, .int .i64 ((m.l.take k).countP (isP f t))), (8, .slice (some ⟨2, 0, none⟩) k k), (14, .slice (some ⟨1, 0, none⟩) m.l.length m.l.length), (15, .int .i64 m.l.length), (16, .int .i64 k)] ∧ L = [.cells 0 [.int .i64 m.n, .int .i64 m.bt, .slice (some ⟨1, 0, none⟩) m.l.length m.l.length, .int .i64 (m.N + (m.l.take k).countP (isP f t))], .gro 4 (rowsC It.cells m.l), .gro 4 (rowsC It.cells (passL f t (m.l.take k) m.N))]) m.l.length ⟨0, rfl, by omega, rfl, by rw [show m.N + ((m.l.take 0).countP (isP f t) : Int) = m.N by simp]; rfl⟩ ?_
  rintro r _ _ ⟨k, rfl, hk, rfl, rfl⟩
  repeat' (first
    | refine L_rs ?_
    | refine S_done [] rfl (Nx.goL ?_)
    | refine S_done [] rfl (RetQ.keepN rfl rfl rfl rfl ?_)
    | refine S_done [] rfl ?_
    | refine L_block ?_
    | refine L_ret (RetQ.keep rfl rfl rfl rfl ?_)
    | refine L_true rfl ?_
    | refine L_false rfl ?_
    | refine L_skip (Nx.goL ?_)
    | refine L_skip ?_
    | refine L_exit (Nx.goL ?_)
    | refine L_exit ?_
    | refine L_ifp rfl (by first | exact bD | exact bE | exact bN | exact bNB | exact bEB | exact bNot bD | exact bNot bE | exact bNot bN) (fun h => ?_) (fun h => ?_)
    | refine S_Q [] rfl rfl (QY.idxN rfl rfl (by omega)) ?_
    | refine L_reg ?_
    | refine L_seq ?_
    | exact ⟨rfl, rfl⟩
    | fail)
  · obtain ⟨x, hx⟩ : ∃ x, m.l[k]? = some x := ⟨_, List.getElem?_eq_getElem (by omega)⟩
    have hc := take_count (isP f t) hx
    have hp := passL_take f t hx m.N
    have hle : (m.l.take (k + 1)).countP (isP f t) ≤ k + 1 := Nat.le_trans (List.countP_le_length) (by simp; omega)
    have hpl : (passL f t (m.l.take k) m.N).length = k := by rw [passL_length]; simp; omega
    have hle0 : (m.l.take k).countP (isP f t) ≤ k := Nat.le_trans (List.countP_le_length) (by simp; omega)
    refine S_Q [] rfl rfl (QY.ldRow It.ok rfl rfl hx (by decide)) ?_
    repeat' (first
      | refine L_rs ?_
      | refine S_done [] rfl (Nx.goL ?_)
      | refine S_done [] rfl (RetQ.keepN rfl rfl rfl rfl ?_)
      | refine S_done [] rfl ?_
      | refine L_block ?_
      | refine L_ret (RetQ.keep rfl rfl rfl rfl ?_)
      | refine L_true rfl ?_
      | refine L_false rfl ?_
      | refine L_skip (Nx.goL ?_)
      | refine L_skip ?_
      | refine L_exit (Nx.goL ?_)
      | refine L_exit ?_
      | refine L_ifp rfl (by first | exact bD | exact bE | exact bN | exact bNB | exact bEB | exact bNot bD | exact bNot bE | exact bNot bN) (fun h => ?_) (fun h => ?_)
      | refine S_Q [] rfl rfl (QY.idxN rfl rfl (by omega)) ?_
      | refine S_splitp 24 rfl rfl rfl (by first | exact bD | exact bE | exact bN | exact bNB | exact bEB | exact bNot bD | exact bNot bE | exact bNot bN) (fun h => ?_) (fun h => ?_)
      | refine S_splitp 30 rfl rfl rfl (by first | exact bD | exact bE | exact bN | exact bNB | exact bEB | exact bNot bD | exact bNot bE | exact bNot bN) (fun h => ?_) (fun h => ?_)
      | refine L_reg ?_
      | refine L_seq ?_
      | exact ⟨rfl, rfl⟩
      | fail)
    · have e : isP f t x = true := by simp [isP]; omega
      simp only [e, if_true] at hc hp
      refine S_Q [] rfl rfl (QY.add (c := m.N + (m.l.take k).countP (isP f t) + 1) rfl rfl rfl (by omega) (by omega)) (S_done [] rfl (Nx.goL ?_))
      refine L_rs (S_done [] rfl (Nx.goL ?_))
      refine L_reg (S_Q [] rfl rfl (QY.add (c := (((m.l.take k).countP (isP f t) + 1 : Nat) : Int)) rfl rfl rfl (by omega) (by omega)) (S_done [] rfl (Nx.goL ?_)))
      refine L_reg (S_E [] rfl rfl (EW.appR1 (bytes := 32) (a := { x with come := m.N + (m.l.take k).countP (isP f t) + 1 }) It.ok rfl (by kernel_rfl) rfl rfl rfl rfl hpl (by omega)) ?_)
      rintro _ _ ⟨rfl, rfl⟩
      refine ⟨trivial, S_done [] rfl (Nx.goL ?_)⟩
      refine L_reg (S_Q [] rfl rfl (QY.add (c := ((k + 1 : Nat) : Int)) rfl rfl rfl (by omega) (by omega)) (S_done [] rfl ?_))
      refine Nx.pick [0, 1, 2, 7, 8, 14, 15, 16] [0, 1, 5] rfl rfl rfl ⟨m.l.length - (k + 1), by omega, k + 1, rfl, by omega, ?_, ?_⟩
      · rw [hc]; rfl
      · rw [hc, hp, show m.N + (((m.l.take k).countP (isP f t) + 1 : Nat) : Int) = m.N + (m.l.take k).countP (isP f t) + 1 by omega]; rfl
    all_goals
      have e : isP f t x = false := by simp [isP]; omega
      simp only [e, if_false, Bool.false_eq_true] at hc hp
      refine S_E [] rfl rfl (EW.appR1 (bytes := 32) (a := x) It.ok rfl (by kernel_rfl) rfl rfl rfl rfl hpl (by omega)) ?_
      rintro _ _ ⟨rfl, rfl⟩
      refine ⟨trivial, S_done [] rfl (Nx.goL ?_)⟩
      refine L_reg (S_Q [] rfl rfl (QY.add (c := ((k + 1 : Nat) : Int)) rfl rfl rfl (by omega) (by omega)) (S_done [] rfl ?_))
      refine Nx.pick [0, 1, 2, 7, 8, 14, 15, 16] [0, 1, 5] rfl rfl rfl ⟨m.l.length - (k + 1), by omega, k + 1, rfl, by omega, ?_, ?_⟩
      · rw [hc]; rfl
      · rw [hc, hp]; rfl
  · have e : k = m.l.length := by omega
    subst e
    repeat' (first
      | refine L_rs ?_
      | refine S_done [] rfl (Nx.goL ?_)
      | refine S_done [] rfl (RetQ.keepN rfl rfl rfl rfl ?_)
      | refine S_done [] rfl ?_
      | refine L_block ?_
      | refine L_ret (RetQ.keep rfl rfl rfl rfl ?_)
      | refine L_true rfl ?_
      | refine L_false rfl ?_
      | refine L_skip (Nx.goL ?_)
      | refine L_skip ?_
      | refine L_exit (Nx.goL ?_)
      | refine L_exit ?_
      | refine L_ifp rfl (by first | exact bD | exact bE | exact bN | exact bNB | exact bEB | exact bNot bD | exact bNot bE | exact bNot bN) (fun h => ?_) (fun h => ?_)
      | refine S_Q [] rfl rfl (QY.idxN rfl rfl (by omega)) ?_
      | refine L_reg ?_
      | refine L_seq ?_
      | exact ⟨rfl, rfl⟩
      | fail)
    refine L_ret (RetQ.pick [0, 2] rfl rfl rfl rfl ?_)
    rw [List.take_length]
    refine ⟨rfl, ?_⟩
    simp only [RL, passR, passL_length]
    rfl

def inR (m : RM) (t : Int) : Prop := 0 ≤ t ∧ t < m.n
instance (m : RM) (t : Int) : Decidable (inR m t) := inferInstanceAs (Decidable (_ ∧ _))
def addR (m : RM) (f t a : Int) : RM := { m with l := m.l ++ [⟨f, t, a, 0⟩] }
def postB (m : RM) (f t : Int) : Prop := (0 ≤ f ∧ f < m.n) ∧ (0 ≤ t ∧ t < m.n) ∧ f ≠ t
instance (m : RM) (f t : Int) : Decidable (postB m f t) := inferInstanceAs (Decidable (_ ∧ _))
def postR (m : RM) (f t a : Int) : RM := if postB m f t then (if ((addR m f t a).l.countP (isHeld f t) : Int) ≥ m.bt then passR (addR m f t a) f t else addR m f t a) else m
theorem Post_tr (m : RM) (hl : m.l.length ≤ 1000) (hN : 0 ≤ m.N) (hN2 : m.N ≤ 1000000000) (f t a : Int) : TrK Try.prog [] [0] 16 [tp, .int .i64 f, .int .i64 t, .int .i64 a] (RL m) (fun v K => v = .bool (decide (postB m f t)) ∧ K = RL (postR m f t a)) := by
  refine Tr.of row_tumbrelref12_Mail_Post_ok rfl ?_
  have no : ¬ postB m f t → decide (postB m f t) = false ∧ postR m f t a = m := fun h => ⟨decide_eq_false h, by rw [postR, if_neg h]⟩
  repeat' (first
    | refine L_rs ?_
    | refine S_done [] rfl (Nx.goL ?_)
    | refine S_done [] rfl (RetQ.keepN rfl rfl rfl rfl ?_)
    | refine S_done [] rfl ?_
    | refine L_block ?_
    | refine L_ret (RetQ.keep rfl rfl rfl rfl ?_)
    | refine L_true rfl ?_
    | refine L_false rfl ?_
    | refine L_skip (Nx.goL ?_)
    | refine L_skip ?_
    | refine L_exit (Nx.goL ?_)
    | refine L_exit ?_
    | refine L_ifp rfl (by first | exact bD | exact bE | exact bN | exact bNB | exact bEB | exact bNot bD | exact bNot bE | exact bNot bN) (fun h => ?_) (fun h => ?_)
    | refine S_Q [] rfl rfl (QY.idxN rfl rfl (by omega)) ?_
    | refine L_reg ?_
    | refine L_seq ?_
    | exact ⟨rfl, rfl⟩
    | fail)
  first | refine L_rs ?_ | refine L_reg ?_ | skip
  refine S_Ed [] rfl rfl (EWd.callP [0, 1] (In_tr m f) rfl rfl (by decide) (by repeat' (first | exact trivial | refine ⟨rfl, ?_⟩ | fail)) rfl rfl) (disj_nil _) (nm_nilE _) (nm_nilT _) ?_
  rintro _ _ ⟨rfl, rfl⟩
  refine ⟨(by repeat' (first | exact trivial | refine ⟨⟨qsafe_ok (st := []) rfl, Sure.of rfl⟩, ?_⟩ | refine ⟨.inl rfl, ?_⟩ | refine ⟨.inr ⟨qsafe_ok (st := []) rfl, Sure.of rfl⟩, ?_⟩ | refine ⟨.inr ⟨QY.neqB rfl (by kernel_rfl) rfl rfl, Sure.of rfl⟩, ?_⟩ | refine ⟨.inr ⟨QY.eqlB rfl (by kernel_rfl) rfl rfl, Sure.of rfl⟩, ?_⟩ | fail)), ?_⟩
  repeat' (first
    | refine L_rs ?_
    | refine S_done [] rfl (Nx.goL ?_)
    | refine S_done [] rfl (RetQ.keepN rfl rfl rfl rfl ?_)
    | refine S_done [] rfl ?_
    | refine L_block ?_
    | refine L_ret (RetQ.keep rfl rfl rfl rfl ?_)
    | refine L_true rfl ?_
    | refine L_false rfl ?_
    | refine L_skip (Nx.goL ?_)
    | refine L_skip ?_
    | refine L_exit (Nx.goL ?_)
    | refine L_exit ?_
    | refine L_ifp rfl (by first | exact bD | exact bE | exact bN | exact bNB | exact bEB | exact bNot bD | exact bNot bE | exact bNot bN) (fun h => ?_) (fun h => ?_)
    | refine S_Q [] rfl rfl (QY.idxN rfl rfl (by omega)) ?_
    | refine S_splitp 13 rfl rfl rfl (by first | exact bD | exact bE | exact bN | exact bNB | exact bEB | exact bNot bD | exact bNot bE | exact bNot bN) (fun h => ?_) (fun h => ?_)
    | refine L_reg ?_
    | refine L_seq ?_
    | exact ⟨rfl, rfl⟩
    | fail)
  · obtain ⟨e1, e2⟩ := no fun hp => h hp.1
    rw [e1, e2]; exact ⟨rfl, rfl⟩
  · have h1 := Classical.not_not.1 h
    first | refine L_rs ?_ | refine L_reg ?_ | skip
    refine S_Ed [] rfl rfl (EWd.callP [0, 1] (In_tr m t) rfl rfl (by decide) (by repeat' (first | exact trivial | refine ⟨rfl, ?_⟩ | fail)) rfl rfl) (disj_nil _) (nm_nilE _) (nm_nilT _) ?_
    rintro _ _ ⟨rfl, rfl⟩
    refine ⟨(by repeat' (first | exact trivial | refine ⟨⟨qsafe_ok (st := []) rfl, Sure.of rfl⟩, ?_⟩ | refine ⟨.inl rfl, ?_⟩ | refine ⟨.inr ⟨qsafe_ok (st := []) rfl, Sure.of rfl⟩, ?_⟩ | refine ⟨.inr ⟨QY.neqB rfl (by kernel_rfl) rfl rfl, Sure.of rfl⟩, ?_⟩ | refine ⟨.inr ⟨QY.eqlB rfl (by kernel_rfl) rfl rfl, Sure.of rfl⟩, ?_⟩ | fail)), ?_⟩
    repeat' (first
      | refine L_rs ?_
      | refine S_done [] rfl (Nx.goL ?_)
      | refine S_done [] rfl (RetQ.keepN rfl rfl rfl rfl ?_)
      | refine S_done [] rfl ?_
      | refine L_block ?_
      | refine L_ret (RetQ.keep rfl rfl rfl rfl ?_)
      | refine L_true rfl ?_
      | refine L_false rfl ?_
      | refine L_skip (Nx.goL ?_)
      | refine L_skip ?_
      | refine L_exit (Nx.goL ?_)
      | refine L_exit ?_
      | refine L_ifp rfl (by first | exact bD | exact bE | exact bN | exact bNB | exact bEB | exact bNot bD | exact bNot bE | exact bNot bN) (fun h => ?_) (fun h => ?_)
      | refine S_Q [] rfl rfl (QY.idxN rfl rfl (by omega)) ?_
      | refine S_splitp 19 rfl rfl rfl (by first | exact bD | exact bE | exact bN | exact bNB | exact bEB | exact bNot bD | exact bNot bE | exact bNot bN) (fun h => ?_) (fun h => ?_)
      | refine L_reg ?_
      | refine L_seq ?_
      | exact ⟨rfl, rfl⟩
      | fail)
    · obtain ⟨e1, e2⟩ := no fun hp => h hp.2.1
      rw [e1, e2]; exact ⟨rfl, rfl⟩
    · obtain ⟨e1, e2⟩ := no fun hp => hp.2.2 h
      rw [e1, e2]; exact ⟨rfl, rfl⟩
    · rename_i h2
      have hp : postB m f t := ⟨h1, Classical.not_not.1 h2, h⟩
      have ed : decide (postB m f t) = true := decide_eq_true hp
      first | refine LSt.drop [0, 1, 2, 3] (LSt.nf ?_) | refine LWp.drop [0, 1, 2, 3] (LWp.nf ?_)
      conv => whnf
      refine S_wk [] rfl (wk_gro0 (b := 2) 4 rfl) ?_
      refine S_E [] rfl rfl (EW.appRR (bytes := 32) (xs := []) (ys := m.l) It.ok rfl (by kernel_rfl) rfl rfl rfl rfl rfl rfl (by decide) (by omega)) ?_
      rintro _ _ ⟨rfl, rfl⟩
      refine ⟨trivial, LSt.nf ?_⟩
      conv => whnf
      refine S_E [] rfl rfl (EW.appR1 (bytes := 32) (a := ⟨f, t, a, 0⟩) It.ok rfl (by kernel_rfl) rfl rfl rfl rfl (by simp) (by omega)) ?_
      rintro _ _ ⟨rfl, rfl⟩
      refine ⟨trivial, LSt.nf ?_⟩
      conv => whnf
      refine S_done [] rfl (Nx.goL ?_)
      refine LWp.pick [0, 1, 2] [0, 5] rfl rfl rfl ?_
      have hadd : ∀ {m0 : MC} {Q : Exit → Env → LH → Prop} {l : Env}, LWp Try.prog ⟨(RL m).length, [], [0]⟩ m0 Q l (RL (addR m f t a)) → LWp Try.prog ⟨(RL m).length, [], [0]⟩ m0 Q l [.cells 0 [.int .i64 m.n, .int .i64 m.bt, .slice (some ⟨1, 0, none⟩) (0 + m.l.length + 1) (0 + m.l.length + 1), .int .i64 m.N], .gro 4 (rowsC It.cells ([] ++ m.l ++ [⟨f, t, a, 0⟩]))] := by
        intro m0 Q l h
        rw [Nat.zero_add]
        have : (addR m f t a).l.length = m.l.length + 1 := by simp [addR]
        simp only [RL, this] at h
        exact h
      refine hadd ?_
      have hal : (addR m f t a).l.length = m.l.length + 1 := by simp [addR]
      refine L_seq ?_
      first | refine L_rs ?_ | refine L_reg ?_ | skip
      refine S_Ed [] rfl rfl (EWd.callP [0, 1] (Held_tr (addR m f t a) (by omega) f t) rfl rfl (by decide) (by repeat' (first | exact trivial | refine ⟨rfl, ?_⟩ | fail)) rfl rfl) (disj_nil _) (nm_nilE _) (nm_nilT _) ?_
      rintro _ _ ⟨rfl, rfl⟩
      refine ⟨(by repeat' (first | exact trivial | refine ⟨⟨qsafe_ok (st := []) rfl, Sure.of rfl⟩, ?_⟩ | refine ⟨.inl rfl, ?_⟩ | refine ⟨.inr ⟨qsafe_ok (st := []) rfl, Sure.of rfl⟩, ?_⟩ | refine ⟨.inr ⟨QY.neqB rfl (by kernel_rfl) rfl rfl, Sure.of rfl⟩, ?_⟩ | refine ⟨.inr ⟨QY.eqlB rfl (by kernel_rfl) rfl rfl, Sure.of rfl⟩, ?_⟩ | fail)), ?_⟩
      repeat' (first
        | refine L_rs ?_
        | refine S_done [] rfl (Nx.goL ?_)
        | refine S_done [] rfl (RetQ.keepN rfl rfl rfl rfl ?_)
        | refine S_done [] rfl ?_
        | refine L_block ?_
        | refine L_ret (RetQ.keep rfl rfl rfl rfl ?_)
        | refine L_true rfl ?_
        | refine L_false rfl ?_
        | refine L_skip (Nx.goL ?_)
        | refine L_skip ?_
        | refine L_exit (Nx.goL ?_)
        | refine L_exit ?_
        | refine L_ifp rfl (by first | exact bD | exact bE | exact bN | exact bNB | exact bEB | exact bNot bD | exact bNot bE | exact bNot bN) (fun h => ?_) (fun h => ?_)
        | refine S_Q [] rfl rfl (QY.idxN rfl rfl (by omega)) ?_
        | refine L_reg ?_
        | refine L_seq ?_
        | exact ⟨rfl, rfl⟩
        | fail)
      · first | refine L_rs ?_ | refine L_reg ?_ | skip
        refine S_Ed [] rfl rfl (EWd.callF [0, 1] (pass_tr (addR m f t a) (by omega) hN hN2 f t) rfl rfl (by decide) (by repeat' (first | exact trivial | refine ⟨rfl, ?_⟩ | fail)) rfl rfl rfl) rfl rfl rfl ?_
        rintro _ _ ⟨rfl, rfl⟩
        refine ⟨(by repeat' (first | exact trivial | refine ⟨⟨qsafe_ok (st := []) rfl, Sure.of rfl⟩, ?_⟩ | refine ⟨.inl rfl, ?_⟩ | refine ⟨.inr ⟨qsafe_ok (st := []) rfl, Sure.of rfl⟩, ?_⟩ | refine ⟨.inr ⟨QY.neqB rfl (by kernel_rfl) rfl rfl, Sure.of rfl⟩, ?_⟩ | refine ⟨.inr ⟨QY.eqlB rfl (by kernel_rfl) rfl rfl, Sure.of rfl⟩, ?_⟩ | fail)), LSt.nf ?_⟩
        conv => whnf
        repeat' (first
          | refine L_rs ?_
          | refine S_done [] rfl (Nx.goL ?_)
          | refine S_done [] rfl (RetQ.keepN rfl rfl rfl rfl ?_)
          | refine S_done [] rfl ?_
          | refine L_block ?_
          | refine L_ret (RetQ.keep rfl rfl rfl rfl ?_)
          | refine L_true rfl ?_
          | refine L_false rfl ?_
          | refine L_skip (Nx.goL ?_)
          | refine L_skip ?_
          | refine L_exit (Nx.goL ?_)
          | refine L_exit ?_
          | refine L_ifp rfl (by first | exact bD | exact bE | exact bN | exact bNB | exact bEB | exact bNot bD | exact bNot bE | exact bNot bN) (fun h => ?_) (fun h => ?_)
          | refine S_Q [] rfl rfl (QY.idxN rfl rfl (by omega)) ?_
          | refine L_reg ?_
          | refine L_seq ?_
          | exact ⟨rfl, rfl⟩
          | fail)
        have h : ((addR m f t a).l.countP (isHeld f t) : Int) ≥ m.bt := h
        rw [ed, postR, if_pos hp, if_pos h]; exact ⟨rfl, rfl⟩
      · have h : ¬ ((addR m f t a).l.countP (isHeld f t) : Int) ≥ m.bt := h
        rw [ed, postR, if_pos hp, if_neg h]; exact ⟨rfl, rfl⟩

theorem RNew_tr (threads batch : Int) : Tr Try.prog 15 [.int .i64 threads, .int .i64 batch] [] (fun v K => v = tp ∧ K = RL ⟨min (max threads 0) 64, min (max batch 1) 64, [], 0⟩) := by
  refine Tr.of row_tumbrelref12_New_ok rfl ?_
  refine L_rs (S_done [] rfl (Nx.goL ?_))
  refine L_cut (fun l L => l = [(0, .int .i64 (max threads 0)), (1, .int .i64 batch)] ∧ L = []) ?_ ?_
  · repeat' (first
      | refine L_rs ?_
      | refine S_done [] rfl (Nx.goL ?_)
      | refine S_done [] rfl (RetQ.keepN rfl rfl rfl rfl ?_)
      | refine S_done [] rfl ?_
      | refine L_block ?_
      | refine L_ret (RetQ.keep rfl rfl rfl rfl ?_)
      | refine L_true rfl ?_
      | refine L_false rfl ?_
      | refine L_skip (Nx.goL ?_)
      | refine L_skip ?_
      | refine L_exit (Nx.goL ?_)
      | refine L_exit ?_
      | refine L_ifp rfl (by first | exact bD | exact bE | exact bN | exact bNB | exact bEB | exact bNot bD | exact bNot bE | exact bNot bN) (fun h => ?_) (fun h => ?_)
      | refine S_Q [] rfl rfl (QY.idxN rfl rfl (by omega)) ?_
      | refine L_reg ?_
      | refine L_seq ?_
      | exact ⟨rfl, rfl⟩
      | fail)
    · exact Nx.pick [0, 1] [] rfl rfl rfl ⟨by rw [show max threads 0 = 0 by omega]; rfl, rfl⟩
    · exact Nx.pick [0, 1] [] rfl rfl rfl ⟨by rw [show max threads 0 = threads by omega]; rfl, rfl⟩
  rintro _ _ ⟨rfl, rfl⟩
  refine L_cut (fun l L => l = [(0, .int .i64 (min (max threads 0) 64)), (1, .int .i64 batch)] ∧ L = []) ?_ ?_
  · repeat' (first
      | refine L_rs ?_
      | refine S_done [] rfl (Nx.goL ?_)
      | refine S_done [] rfl (RetQ.keepN rfl rfl rfl rfl ?_)
      | refine S_done [] rfl ?_
      | refine L_block ?_
      | refine L_ret (RetQ.keep rfl rfl rfl rfl ?_)
      | refine L_true rfl ?_
      | refine L_false rfl ?_
      | refine L_skip (Nx.goL ?_)
      | refine L_skip ?_
      | refine L_exit (Nx.goL ?_)
      | refine L_exit ?_
      | refine L_ifp rfl (by first | exact bD | exact bE | exact bN | exact bNB | exact bEB | exact bNot bD | exact bNot bE | exact bNot bN) (fun h => ?_) (fun h => ?_)
      | refine S_Q [] rfl rfl (QY.idxN rfl rfl (by omega)) ?_
      | refine L_reg ?_
      | refine L_seq ?_
      | exact ⟨rfl, rfl⟩
      | fail)
    · exact Nx.pick [0, 1] [] rfl rfl rfl ⟨by rw [show min (max threads 0) 64 = 64 by omega]; rfl, rfl⟩
    · exact Nx.pick [0, 1] [] rfl rfl rfl ⟨by rw [show min (max threads 0) 64 = max threads 0 by omega]; rfl, rfl⟩
  rintro _ _ ⟨rfl, rfl⟩
  refine L_cut (fun l L => l = [(0, .int .i64 (min (max threads 0) 64)), (1, .int .i64 (max batch 1))] ∧ L = []) ?_ ?_
  · repeat' (first
      | refine L_rs ?_
      | refine S_done [] rfl (Nx.goL ?_)
      | refine S_done [] rfl (RetQ.keepN rfl rfl rfl rfl ?_)
      | refine S_done [] rfl ?_
      | refine L_block ?_
      | refine L_ret (RetQ.keep rfl rfl rfl rfl ?_)
      | refine L_true rfl ?_
      | refine L_false rfl ?_
      | refine L_skip (Nx.goL ?_)
      | refine L_skip ?_
      | refine L_exit (Nx.goL ?_)
      | refine L_exit ?_
      | refine L_ifp rfl (by first | exact bD | exact bE | exact bN | exact bNB | exact bEB | exact bNot bD | exact bNot bE | exact bNot bN) (fun h => ?_) (fun h => ?_)
      | refine S_Q [] rfl rfl (QY.idxN rfl rfl (by omega)) ?_
      | refine L_reg ?_
      | refine L_seq ?_
      | exact ⟨rfl, rfl⟩
      | fail)
    · exact Nx.pick [0, 1] [] rfl rfl rfl ⟨by rw [show max batch 1 = 1 by omega]; rfl, rfl⟩
    · exact Nx.pick [0, 1] [] rfl rfl rfl ⟨by rw [show max batch 1 = batch by omega]; rfl, rfl⟩
  rintro _ _ ⟨rfl, rfl⟩
  refine L_cut (fun l L => l = [(0, .int .i64 (min (max threads 0) 64)), (1, .int .i64 (min (max batch 1) 64))] ∧ L = []) ?_ ?_
  · repeat' (first
      | refine L_rs ?_
      | refine S_done [] rfl (Nx.goL ?_)
      | refine S_done [] rfl (RetQ.keepN rfl rfl rfl rfl ?_)
      | refine S_done [] rfl ?_
      | refine L_block ?_
      | refine L_ret (RetQ.keep rfl rfl rfl rfl ?_)
      | refine L_true rfl ?_
      | refine L_false rfl ?_
      | refine L_skip (Nx.goL ?_)
      | refine L_skip ?_
      | refine L_exit (Nx.goL ?_)
      | refine L_exit ?_
      | refine L_ifp rfl (by first | exact bD | exact bE | exact bN | exact bNB | exact bEB | exact bNot bD | exact bNot bE | exact bNot bN) (fun h => ?_) (fun h => ?_)
      | refine S_Q [] rfl rfl (QY.idxN rfl rfl (by omega)) ?_
      | refine L_reg ?_
      | refine L_seq ?_
      | exact ⟨rfl, rfl⟩
      | fail)
    · exact Nx.pick [0, 1] [] rfl rfl rfl ⟨by rw [show min (max batch 1) 64 = 64 by omega]; rfl, rfl⟩
    · exact Nx.pick [0, 1] [] rfl rfl rfl ⟨by rw [show min (max batch 1) 64 = max batch 1 by omega]; rfl, rfl⟩
  rintro _ _ ⟨rfl, rfl⟩
  refine L_rs (S_done [] rfl (Nx.goL ?_))
  refine LWp.nilG (b := 0) (o := 2) 4 rfl rfl ?_
  exact L_ret (RetQ.pick [0, 1] rfl rfl rfl rfl ⟨rfl, rfl⟩)
end Go.Proofs.Ytgfkadmpakgmeaa
