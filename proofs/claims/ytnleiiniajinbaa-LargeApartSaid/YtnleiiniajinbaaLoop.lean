/-
  Loops that count: 'for i := range n', as the translation lays it.
-/
import Derived.Test.YtnleiiniajinbaaWalk
namespace Go.Tum
open Go

abbrev rangeQ (b0 b1 i n : Nat) (N : Int) (Q : Exit → Env → World → Prop) (J : Nat → Env → World → Prop) (k : Nat) (e : Exit) (l' : Env) (w' : World) : Prop :=
  match e with
  | .normal => eget l' i = some (.int .i64 k) ∧ eget l' n = some (.int .i64 N) ∧ ∃ l0, Sub l0 l' ∧ J (k + 1) l0 w'
  | .exit j => if j = b1 then (eget l' i = some (.int .i64 k) ∧ eget l' n = some (.int .i64 N) ∧ ∃ l0, Sub l0 l' ∧ J (k + 1) l0 w') else if j = b0 then Q .normal l' w' else Q (.exit j) l' w'
  | e => Q e l' w'

theorem eget_hit (t : Nat) (v : Value) (r : Env) : eget ((t, v) :: r) t = some v := by rw [eget_cons, if_pos rfl]
theorem eget_miss {k t : Nat} (v : Value) (r : Env) (h : Nat.beq k t = false) : eget ((k, v) :: r) t = eget r t := by
  rw [eget_cons, if_neg fun e => by subst e; simp at h]

theorem Sub.twice (c : Nat) (x y : Value) (A : Env) : Sub ((c, x) :: A) ((c, x) :: (c, y) :: A) := by
  intro t v h
  rw [eget_cons] at h ⊢
  by_cases e : c = t
  · rw [if_pos e] at h ⊢; exact h
  · rw [if_neg e] at h ⊢; rw [eget_cons, if_neg e]; exact h

theorem w_range {P : Program} {Q : Exit → Env → World → Prop} {l : Env} {w : World} {b0 b1 i n c d : Nat} {body : MC} {N : Int} (J : Nat → Env → World → Prop) (hN : N ≤ 9223372036854775807) (hne : Nat.beq b0 b1 = false) (_hci : Nat.beq c i = false) (_hcn : Nat.beq c n = false) (hin : Nat.beq i n = false) (hdn : Nat.beq d n = false)
    (hi : eget l i = some (.int .i64 0)) (hn : eget l n = some (.int .i64 N)) {l0 : Env} (hs : Sub l0 l) (h0 : J 0 l0 w) (hJd : ∀ k l0 w, J k l0 w → eget l0 d = none)
    (hbody : ∀ (k : Nat) (l0 : Env) (w : World), (k : Int) < N → J k l0 w → MWp P body (rangeQ b0 b1 i n N Q J k) ((c, .bool true) :: (i, .int .i64 k) :: (n, .int .i64 N) :: l0) w)
    (hend : ∀ (k : Nat) (l0 : Env) (w : World), ¬ (k : Int) < N → J k l0 w → Q .normal ((c, .bool false) :: (c, .bool (decide ((k : Int) < N))) :: (i, .int .i64 k) :: (n, .int .i64 N) :: l0) w) :
    ∃ l'', Sub l'' l ∧ MWp P (.block b0 (.loop (.seq (.reg [.q 0 (some c) none (.bin .lss (.tmp i) (.tmp n)) false]) (.seq (.cond (.tmp c) .skip (.exit b0)) (.seq (.block b1 body)
      (.reg [.q 0 (some d) none (.bin .add (.tmp i) (.const (.int .i64 1))) false, .q 0 (some i) none (.mov (.tmp d)) false])))))) Q l'' w := by
  refine ⟨(i, .int .i64 0) :: (n, .int .i64 N) :: l0, Sub.cons hi (Sub.cons hn hs), ?_⟩
  refine w_block (w_loop (fun m l w => ∃ (k : Nat) (l0 : Env), m = (N - k).toNat ∧ l = (i, .int .i64 k) :: (n, .int .i64 N) :: l0 ∧ J k l0 w) (N - (0 : Nat)).toNat ⟨0, l0, rfl, rfl, h0⟩ ?_)
  rintro m l w ⟨k, l0, rfl, rfl, hJ⟩
  have e1 : ev ((i, Value.int .i64 k) :: (n, .int .i64 N) :: l0) (.tmp i) = some (.int .i64 k) := eget_hit ..
  have e2 : ev ((i, Value.int .i64 k) :: (n, .int .i64 N) :: l0) (.tmp n) = some (.int .i64 N) := by
    show eget _ n = _
    rw [eget_miss _ _ hin]; exact eget_hit ..
  have hcmp : (QOp.bin .lss (.tmp i) (.tmp n)).Y P ((i, Value.int .i64 k) :: (n, .int .i64 N) :: l0) (.bool (decide ((k : Int) < N))) w := ⟨.i64, k, N, e1, e2, rfl⟩
  refine w_rs (Exists.intro (.bool (decide ((k : Int) < N))) (And.intro hcmp (n_all ?_)))
  refine w_seq (w_if (t := decide ((k : Int) < N)) (eget_hit ..) (fun ht => ?_) (fun ht => ?_))
  · have hk : (k : Int) < N := by simpa using ht
    have hb := hbody k l0 w hk hJ
    refine w_skip ⟨(c, .bool true) :: (i, .int .i64 k) :: (n, .int .i64 N) :: l0, ?_, ?_⟩
    · exact Sub.twice _ _ _ _
    · refine w_seq (w_block ?_)
      refine MWp.mono body (fun e l' w' hq => ?_) hb
      have fin : ∀ l' w', (eget l' i = some (.int .i64 k) ∧ eget l' n = some (.int .i64 N) ∧ ∃ l0, Sub l0 l' ∧ J (k + 1) l0 w') →
          ∃ l'', Sub l'' l' ∧ MWp P (.reg [.q 0 (some d) none (.bin .add (.tmp i) (.const (.int .i64 1))) false, .q 0 (some i) none (.mov (.tmp d)) false])
            (thenQ (fun l' w' => ∃ m, m < (N - k).toNat ∧ ∃ l'', Sub l'' l' ∧ ∃ (k : Nat) (l0 : Env), m = (N - k).toNat ∧ l'' = (i, Value.int .i64 k) :: (n, .int .i64 N) :: l0 ∧ J k l0 w') (blkQ b0 Q)) l'' w' := by
        rintro l' w' ⟨h1, h2, l1, h3, h4⟩
        refine n_all (w_reg ?_)
        have hadd : (QOp.bin .add (.tmp i) (.const (.int .i64 1))).Y P l' (.int .i64 ((k + 1 : Nat) : Int)) w' := by
          refine ⟨.i64, k, 1, h1, rfl, ?_⟩
          simp only [ibin]
          rw [wrap64_id (by omega) (by omega)]
          rfl
        refine Exists.intro _ (And.intro hadd (Exists.intro _ (And.intro (eget_hit ..) ?_)))
        refine ⟨(N - (k + 1 : Nat)).toNat, by omega, (i, .int .i64 ((k + 1 : Nat) : Int)) :: (n, .int .i64 N) :: l1, ?_, k + 1, l1, rfl, rfl, h4⟩
        have nd : d ≠ n := fun e => by subst e; simp at hdn
        have ni : i ≠ n := fun e => by subst e; simp at hin
        intro t v ht'
        show eget ((i, .int .i64 ((k + 1 : Nat) : Int)) :: (d, .int .i64 ((k + 1 : Nat) : Int)) :: l') t = some v
        rw [eget_cons] at ht' ⊢
        by_cases e : i = t
        · rw [if_pos e] at ht' ⊢; exact ht'
        · rw [if_neg e] at ht' ⊢
          rw [eget_cons] at ht' ⊢
          by_cases e2 : n = t
          · subst e2
            rw [if_pos rfl] at ht'
            rw [if_neg nd, h2]; exact ht'
          · rw [if_neg e2] at ht'
            by_cases e3 : d = t
            · subst e3; rw [hJd _ _ _ h4] at ht'; cases ht'
            · rw [if_neg e3]; exact h3 t v ht'
      have hb01 : b0 ≠ b1 := fun e => by subst e; simp at hne
      cases e with
      | normal => exact fin l' w' hq
      | exit j =>
        simp only [rangeQ] at hq
        by_cases e1 : j = b1
        · rw [if_pos e1] at hq
          show blkQ b1 _ (.exit j) l' w'
          simp only [blkQ, if_pos e1]
          exact fin l' w' hq
        · rw [if_neg e1] at hq
          show blkQ b1 _ (.exit j) l' w'
          simp only [blkQ, if_neg e1, thenQ]
          exact hq
      | ret => exact hq
      | goto j => exact hq
      | panic ch => exact hq
      | outgrown => exact hq
  · have hk : ¬ (k : Int) < N := by simpa using ht
    refine w_exit ?_
    show (if b0 = b0 then Q .normal _ w else _)
    rw [if_pos rfl]
    exact hend k l0 w hk hJ

/-- what a piece of code comes to, whichever way it goes: the slots of l1 are known behind it, the world has stayed -/
theorem w_cut {P : Program} {Q : Exit → Env → World → Prop} {l : Env} {w : World} {a b : MC} (l1 : Env) (ha : MWp P a (thenQ (fun l' w' => Sub l1 l' ∧ w' = w) Q) l w) (hb : MWp P b Q l1 w) : MWp P (.seq a b) Q l w :=
  w_seq (MWp.mono a (thenQ_mono (fun l' w' ⟨h1, h2⟩ => ⟨l1, h1, by rw [h2]; exact hb⟩) (fun _ _ _ h => h)) ha)

/-- .. and the world, and what else is left open, is of K -/
theorem w_cutK {P : Program} {Q : Exit → Env → World → Prop} {l : Env} {w : World} {a b : MC} (K : Env → World → Prop) (ha : MWp P a (thenQ (fun l' w' => ∃ l1, Sub l1 l' ∧ K l1 w') Q) l w) (hb : ∀ l1 w1, K l1 w1 → MWp P b Q l1 w1) : MWp P (.seq a b) Q l w :=
  w_seq (MWp.mono a (thenQ_mono (fun _ w' ⟨l1, h1, h2⟩ => ⟨l1, h1, hb l1 w' h2⟩) (fun _ _ _ h => h)) ha)

theorem w_while {P : Program} {Q : Exit → Env → World → Prop} {l : Env} {w : World} {b0 : Nat} {body : MC} (I : Nat → Env → World → Prop) (n : Nat) {l0 : Env} (hs : Sub l0 l) (h0 : I n l0 w)
    (h : ∀ n l w, I n l w → MWp P body (thenQ (fun l' w' => ∃ m, m < n ∧ ∃ l'', Sub l'' l' ∧ I m l'' w') (blkQ b0 Q)) l w) : ∃ l'', Sub l'' l ∧ MWp P (.block b0 (.loop body)) Q l'' w :=
  ⟨l0, hs, w_block (w_loop I n h0 h)⟩

end Go.Tum
