/-
  A logic over blocks by their own names: what a code comes to, told of its slots and blocks alone; wherever the blocks lie, and whatever else there is.
-/
import Derived.Test.YtnleiiniajinbaaJoin2
namespace Go.Tum
open Go

/-- what comes in with a law's call: plain values, and rows of such, to the bottom -/
inductive AV where
  | v (u : Value)
  | s (n m : Nat) (get : Nat → AV)

/-- row: its m cells lie in blocks of w0 that nobody may change -/
def AV.is (X : Nat → Prop) (w0 : World) : AV → Value → Prop
  | .v u, x => x = u
  | .s n m get, x => ∃ a c, x = .slice a n c ∧ (0 < m → ∃ b o, a = some ⟨b, o, none⟩ ∧ b < w0.heap.size ∧ ¬ X b ∧ ∀ i, i < m → ∃ y, w0.cell? ⟨b, o + i, none⟩ = some y ∧ (get i).is X w0 y)

abbrev Args := List (Nat × Nat × (Nat → AV))
def ArgAt (X : Nat → Prop) (w0 : World) (E0 : Emb) (k m : Nat) (get : Nat → AV) : Prop :=
  0 < m → ∃ r, E0[k]? = some r ∧ r.1 < w0.heap.size ∧ ¬ X r.1 ∧ ∀ i, i < m → ∃ y, w0.cell? ⟨r.1, r.2.1 + i, none⟩ = some y ∧ (get i).is X w0 y
/-- how many blocks a function was handed; which of their names stand for rows that came in with the law's call -/
structure NA where
  n : Nat
  A : Args
  /-- the names that must stay what they are -/
  keep : List Nat
def NA.Ok (n0 : NA) (X : Nat → Prop) (w0 : World) (E0 : Emb) : Prop := E0.length = n0.n ∧ ∀ x ∈ n0.A, inL x.1 n0.keep = true ∧ ArgAt X w0 E0 x.1 x.2.1 x.2.2
def NA.Ext (n0 : NA) (E0 E : Emb) : Prop := ∀ (k : Nat) (r : Nat × Nat × Nat), inL k n0.keep = true → E0[k]? = some r → E[k]? = some r
theorem NA.Ext.trans {n0 : NA} {E0 E E1 : Emb} (h : n0.Ext E0 E) (k : Tum.Ext E E1) : n0.Ext E0 E1 := fun i r hi hr => k i r (h i r hi hr)
theorem NA.Ext.refl (n0 : NA) (E : Emb) : n0.Ext E E := fun _ _ _ h => h
/-- sel leaves the names in ks at their places -/
def keepOk (sel : List Nat) : List Nat → Bool
  | [] => true
  | k :: ks => (match sel[k]? with
    | some j => Nat.beq j k
    | none => false) && keepOk sel ks
theorem keepOk_ok {sel : List Nat} : ∀ {ks : List Nat} {k : Nat}, keepOk sel ks = true → inL k ks = true → sel[k]? = some k
  | [], k, _, h => by cases h
  | a :: ks, k, h, hk => by
    simp only [keepOk, Bool.and_eq_true] at h
    simp only [inL] at hk
    cases hq : Nat.beq a k
    · rw [hq] at hk; exact keepOk_ok h.2 hk
    · have := Nat.eq_of_beq_eq_true hq
      subst this
      have h1 := h.1
      split at h1
      · rename_i j hj; rw [hj, Nat.eq_of_beq_eq_true h1]
      · cases h1
theorem NA.Ext.sub {n0 : NA} {E0 E : Emb} {sel : List Nat} (h : n0.Ext E0 E) (hs : keepOk sel n0.keep = true) : n0.Ext E0 (subE E sel) := by
  intro k r hk hr
  have h1 := keepOk_ok hs hk
  have h2 := h k r hk hr
  simp [subE, h1, h2]

def Fin (n0 : NA) (X : Nat → Prop) (w0 : World) (E0 : Emb) (Q : Env → LH → Prop) (l' : Env) (w : World) : Prop := ∃ E l L, n0.Ext E0 E ∧ Rep X w0 E L w ∧ ER E l l' ∧ Q l L

structure LWp (P : Program) (n0 : NA) (m : MC) (Q : Exit → Env → LH → Prop) (l : Env) (L : LH) : Prop where
  go : ∀ (X : Nat → Prop) (w0 : World) (E0 : Emb) (w : World) (E : Emb) (l' : Env), n0.Ok X w0 E0 → n0.Ext E0 E → Rep X w0 E L w → ER E l l' → MWp P m (fun e => Fin n0 X w0 E0 (Q e)) l' w

structure LSt (P : Program) (n0 : NA) (ss : List Step) (K : Env → LH → Prop) (l : Env) (T : Taken) (L : LH) : Prop where
  go : ∀ (X : Nat → Prop) (w0 : World) (E0 : Emb) (w : World) (E : Emb) (l' : Env) (F : Facts), n0.Ok X w0 E0 → n0.Ext E0 E → Rep X w0 E L w → ER E l l' → TR P E T F → stepsWp P ss (Fin n0 X w0 E0 K) l' F w

def LPt (P : Program) (n0 : NA) (t : PT) (K : Env → LH → Prop) (l : Env) (T : Taken) (L : LH) : Prop :=
  ∀ (X : Nat → Prop) (w0 : World) (E0 : Emb) (w : World) (E : Emb) (l' : Env) (F : Facts), n0.Ok X w0 E0 → n0.Ext E0 E → Rep X w0 E L w → ER E l l' → TR P E T F → ptWp P t (Fin n0 X w0 E0 K) l' F w

/-- what comes next, whichever slots and blocks are kept, under whichever names -/
def Nx (n0 : NA) (k : Env → LH → Prop) (l : Env) (L : LH) : Prop :=
  ∀ (X : Nat → Prop) (w0 : World) (E0 : Emb) (w : World) (E : Emb) (l' : Env), n0.Ok X w0 E0 → n0.Ext E0 E → Rep X w0 E L w → ER E l l' → ∃ l'', Sub l'' l' ∧ Fin n0 X w0 E0 k l'' w

theorem idUpto_self : ∀ (n i m : Nat), n ≤ m → idUpto n i (seqN i m) = true
  | 0, _, _, _ => by simp [idUpto]
  | n + 1, i, 0, h => by omega
  | n + 1, i, m + 1, h => by simp only [seqN, idUpto, Nat.beq_refl, Bool.true_and]; exact idUpto_self n (i + 1) m (by omega)

abbrev thenL (next : Env → LH → Prop) (Q : Exit → Env → LH → Prop) : Exit → Env → LH → Prop
  | .normal, l, L => next l L
  | e, l, L => Q e l L
abbrev blkL (id : Nat) (Q : Exit → Env → LH → Prop) : Exit → Env → LH → Prop
  | .exit id', l, L => if id' = id then Q .normal l L else Q (.exit id') l L
  | e, l, L => Q e l L

section
variable {P : Program} {n0 : NA} {Q : Exit → Env → LH → Prop} {K : Env → LH → Prop} {l : Env} {L : LH} {T : Taken}

theorem Nx.go {k : Env → LH → Prop} (h : k l L) : Nx n0 k l L := fun _ _ _ _ E l' _ hE hR hl => ⟨l', Sub.refl _, E, l, L, hE, hR, hl, h⟩
theorem Nx.pickN {k : Env → LH → Prop} {l1 : Env} {L1 : LH} (ks sel : List Nat) (g0 : keepOk sel n0.keep = true) (g1 : letGoE sel L (repick l ks) = some l1) (g2 : letGo sel L = some L1) (h : Nx n0 k l1 L1) : Nx n0 k l L := by
  intro X w0 E0 w E l' h0 hE hR hl
  obtain ⟨l2, h5, h6⟩ := repick_ok hl ks
  obtain ⟨l3, h7, h8⟩ := h X w0 E0 w (subE E sel) l2 h0 (hE.sub g0) (letGo_ok g2 hR) (letGoE_ok g1 hR h6)
  exact ⟨l3, fun t v ht => h5 t v (h7 t v ht), h8⟩
theorem Nx.pick {k : Env → LH → Prop} {l1 : Env} {L1 : LH} (ks sel : List Nat) (h0 : keepOk sel n0.keep = true) (h1 : letGoE sel L (repick l ks) = some l1) (h2 : letGo sel L = some L1) (h : k l1 L1) : Nx n0 k l L := Nx.pickN ks sel h0 h1 h2 (Nx.go h)

theorem Nx.fin {k : Env → LH → Prop} {X : Nat → Prop} {w0 w : World} {E0 E : Emb} {l' : Env} (h : Nx n0 k l L) (h0 : n0.Ok X w0 E0) (hE : n0.Ext E0 E) (hR : Rep X w0 E L w) (hl : ER E l l') : ∃ l'', Sub l'' l' ∧ Fin n0 X w0 E0 k l'' w := h X w0 E0 w E l' h0 hE hR hl

theorem Fin.mono {X : Nat → Prop} {w0 w : World} {E0 : Emb} {K K' : Env → LH → Prop} {l' : Env} (h : Fin n0 X w0 E0 K l' w) (hk : ∀ l L, K l L → K' l L) : Fin n0 X w0 E0 K' l' w := by
  obtain ⟨E, l, L, h1, h2, h3, h4⟩ := h; exact ⟨E, l, L, h1, h2, h3, hk _ _ h4⟩
theorem Nx.mono {k k' : Env → LH → Prop} (h : Nx n0 k l L) (hk : ∀ l L, k l L → k' l L) : Nx n0 k' l L := fun X w0 E0 w E l' h0 hE hR hl => let ⟨l'', h1, h2⟩ := h X w0 E0 w E l' h0 hE hR hl; ⟨l'', h1, h2.mono hk⟩

/-- fewer slots -/
theorem LWp.drop {m : MC} (ks : List Nat) (h : LWp P n0 m Q (repick l ks) L) : LWp P n0 m Q l L := ⟨fun X w0 E0 w E l' h0 hE hR hl => h.go X w0 E0 w E l' h0 hE hR (hl.repick ks)⟩
theorem LSt.drop {ss : List Step} (ks : List Nat) (h : LSt P n0 ss K (repick l ks) T L) : LSt P n0 ss K l T L := ⟨fun X w0 E0 w E l' F h0 hE hR hl hT => h.go X w0 E0 w E l' F h0 hE hR (hl.repick ks) hT⟩
/-- fewer slots, and the blocks sel alone, by other names -/
theorem LWp.pick {m : MC} {l1 : Env} {L1 : LH} (ks sel : List Nat) (g0 : keepOk sel n0.keep = true) (g1 : letGoE sel L (repick l ks) = some l1) (g2 : letGo sel L = some L1) (h : LWp P n0 m Q l1 L1) : LWp P n0 m Q l L :=
  ⟨fun X w0 E0 w E l' h0 hE hR hl => h.go X w0 E0 w (subE E sel) l' h0 (hE.sub g0) (letGo_ok g2 hR) (letGoE_ok g1 hR (hl.repick ks))⟩
theorem L_skip (h : Q .normal l L) : LWp P n0 .skip Q l L := ⟨fun _ _ _ _ E _ _ hE hR hl => ⟨E, l, L, hE, hR, hl, h⟩⟩
theorem L_ret (h : Q .ret l L) : LWp P n0 .ret Q l L := ⟨fun _ _ _ _ E _ _ hE hR hl => ⟨E, l, L, hE, hR, hl, h⟩⟩
theorem L_exit {id : Nat} (h : Q (.exit id) l L) : LWp P n0 (.exit id) Q l L := ⟨fun _ _ _ _ E _ _ hE hR hl => ⟨E, l, L, hE, hR, hl, h⟩⟩
theorem LWp.mono {m : MC} {Q' : Exit → Env → LH → Prop} (h : LWp P n0 m Q l L) (hq : ∀ e l L, Q e l L → Q' e l L) : LWp P n0 m Q' l L :=
  ⟨fun X w0 E0 w E l' h0 hE hR hl => MWp.mono m (fun e _ _ hf => hf.mono (hq e)) (h.go X w0 E0 w E l' h0 hE hR hl)⟩
theorem L_reg {ss : List Step} (h : LSt P n0 ss (Q .normal) l [] L) : LWp P n0 (.reg ss) Q l L := ⟨fun X w0 E0 w E l' h0 hE hR hl => h.go X w0 E0 w E l' [] h0 hE hR hl trivial⟩
theorem L_regT {t : PT} (h : LPt P n0 t (Q .normal) l [] L) : LWp P n0 (.regT t) Q l L := ⟨fun X w0 E0 w E l' h0 hE hR hl => h X w0 E0 w E l' [] h0 hE hR hl trivial⟩

theorem L_seq {a b : MC} (h : LWp P n0 a (thenL (Nx n0 (LWp P n0 b Q)) Q) l L) : LWp P n0 (.seq a b) Q l L := by
  refine ⟨fun X w0 E0 w E l' h0 hE hR hl => ?_⟩
  refine MWp.mono a (fun e l1 w1 hf => ?_) (h.go X w0 E0 w E l' h0 hE hR hl)
  obtain ⟨E1, l2, L2, k1, k2, k3, k4⟩ := hf
  cases e with
  | normal =>
    obtain ⟨l3, h3, E3, l4, L4, g1, g2, g3, g4⟩ := Nx.fin k4 h0 k1 k2 k3
    exact ⟨l3, h3, g4.go X w0 E0 w1 E3 l3 h0 g1 g2 g3⟩
  | ret => exact ⟨E1, l2, L2, k1, k2, k3, k4⟩
  | exit i => exact ⟨E1, l2, L2, k1, k2, k3, k4⟩
  | goto i => exact ⟨E1, l2, L2, k1, k2, k3, k4⟩
  | panic c => exact ⟨E1, l2, L2, k1, k2, k3, k4⟩
  | outgrown => exact ⟨E1, l2, L2, k1, k2, k3, k4⟩
theorem L_rs {ss : List Step} {b : MC} (h : LSt P n0 ss (Nx n0 (LWp P n0 b Q)) l [] L) : LWp P n0 (.seq (.reg ss) b) Q l L := L_seq (L_reg h)
theorem L_rT {t : PT} {b : MC} (h : LPt P n0 t (Nx n0 (LWp P n0 b Q)) l [] L) : LWp P n0 (.seq (.regT t) b) Q l L := L_seq (L_regT h)

theorem L_if {c : Operand} {x y : MC} {t : Bool} (hc : lv l c = some (.bool t)) (ht : t = true → LWp P n0 x Q (knows c true l) L) (hf : t = false → LWp P n0 y Q (knows c false l) L) : LWp P n0 (.cond c x y) Q l L := by
  refine ⟨fun X w0 E0 w E l' h0 hE hR hl => ?_⟩
  obtain ⟨_, h1, rfl⟩ := lv_ev hl hc
  exact ⟨t, h1, fun e => (ht e).go X w0 E0 w E _ h0 hE hR (hl.knows c true), fun e => (hf e).go X w0 E0 w E _ h0 hE hR (hl.knows c false)⟩
theorem L_true {c : Operand} {x y : MC} (hc : lv l c = some (.bool true)) (h : LWp P n0 x Q (knows c true l) L) : LWp P n0 (.cond c x y) Q l L := L_if hc (fun _ => h) (fun e => by cases e)
theorem L_false {c : Operand} {x y : MC} (hc : lv l c = some (.bool false)) (h : LWp P n0 y Q (knows c false l) L) : LWp P n0 (.cond c x y) Q l L := L_if hc (fun e => by cases e) (fun _ => h)

theorem L_block {id : Nat} {b : MC} (h : LWp P n0 b (blkL id Q) l L) : LWp P n0 (.block id b) Q l L := by
  refine ⟨fun X w0 E0 w E l' h0 hE hR hl => ?_⟩
  refine MWp.mono b (fun e l1 w1 hf => ?_) (h.go X w0 E0 w E l' h0 hE hR hl)
  obtain ⟨E1, l2, L2, k1, k2, k3, k4⟩ := hf
  cases e with
  | exit i =>
    simp only [blkQ]
    simp only [blkL] at k4
    by_cases e : i = id
    · rw [if_pos e] at k4 ⊢; exact ⟨E1, l2, L2, k1, k2, k3, k4⟩
    · rw [if_neg e] at k4 ⊢; exact ⟨E1, l2, L2, k1, k2, k3, k4⟩
  | normal => exact ⟨E1, l2, L2, k1, k2, k3, k4⟩
  | ret => exact ⟨E1, l2, L2, k1, k2, k3, k4⟩
  | goto i => exact ⟨E1, l2, L2, k1, k2, k3, k4⟩
  | panic c => exact ⟨E1, l2, L2, k1, k2, k3, k4⟩
  | outgrown => exact ⟨E1, l2, L2, k1, k2, k3, k4⟩

theorem L_loop {b : MC} (I : Nat → Env → LH → Prop) (n : Nat) (h0 : I n l L) (h : ∀ n l L, I n l L → LWp P n0 b (thenL (Nx n0 (fun l L => ∃ m, m < n ∧ I m l L)) Q) l L) : LWp P n0 (.loop b) Q l L := by
  refine ⟨fun X w0 E0 w E l' hn hE hR hl => ?_⟩
  refine ⟨fun n l' w => Fin n0 X w0 E0 (I n) l' w, n, ⟨E, l, L, hE, hR, hl, h0⟩, ?_⟩
  rintro n l' w ⟨E, l, L, hE, hR, hl, hI⟩
  refine MWp.mono b (fun e l1 w1 hf => ?_) ((h n l L hI).go X w0 E0 w E l' hn hE hR hl)
  obtain ⟨E1, l2, L2, k1, k2, k3, k4⟩ := hf
  cases e with
  | normal =>
    obtain ⟨l3, h3, E3, l4, L4, g1, g2, g3, m, g4, g5⟩ := Nx.fin k4 hn k1 k2 k3
    exact ⟨m, g4, l3, h3, E3, l4, L4, g1, g2, g3, g5⟩
  | ret => exact ⟨E1, l2, L2, k1, k2, k3, k4⟩
  | exit i => exact ⟨E1, l2, L2, k1, k2, k3, k4⟩
  | goto i => exact ⟨E1, l2, L2, k1, k2, k3, k4⟩
  | panic c => exact ⟨E1, l2, L2, k1, k2, k3, k4⟩
  | outgrown => exact ⟨E1, l2, L2, k1, k2, k3, k4⟩

/-! ### steps -/
def QY (P : Program) (n0 : NA) (L : LH) (l : Env) (q : QOp) (v : Value) : Prop :=
  ∀ (X : Nat → Prop) (w0 : World) (E0 : Emb) (w : World) (E : Emb) (l' : Env), n0.Ok X w0 E0 → n0.Ext E0 E → Rep X w0 E L w → ER E l l' → ∃ v', q.Y P l' v' w ∧ VR E v v'
theorem QY.of {q : QOp} {v : Value} (h : lq (rawQ1 P) L l q = some v) : QY P n0 L l q v := fun _ _ _ _ _ _ _ _ hR hl => lq_ok (rawQ1_ok P) h hR hl

def Sure (v : Value) : Prop := ∀ (E : Emb) (a b : Value), VR E v a → VR E v b → a = b
theorem Sure.of {v : Value} (h : sure v = true) : Sure v := fun _ _ _ h1 h2 => VR.fn h h1 h2
theorem Sure.slice {a : Option Addr} {n c : Nat} (h : n ≠ 0) : Sure (.slice a n c) := by
  intro E x y hx hy
  have : sureS (.slice a n c) = true := by cases a <;> cases n <;> first | rfl | exact absurd rfl h
  exact SR.fn this (hx.sr rfl) (hy.sr rfl)

/-- what was read ahead is still so -/
def chkP (P : Program) (n0 : NA) (T : Taken) (L : LH) : List Nat → Prop
  | [] => True
  | k :: ks => (match tfind T k with
    | some (q, l, v) => QY P n0 L l q v ∧ Sure v
    | none => True) ∧ chkP P n0 T L ks
theorem chkP_ok {X : Nat → Prop} {w0 w w' : World} {E0 E : Emb} {F : Facts} (h0 : n0.Ok X w0 E0) (hE : n0.Ext E0 E) (hR : Rep X w0 E L w') (hT : TR P E T F) : ∀ (ks : List Nat), chkP P n0 T L ks → pendOk F w w' ks
  | [], _ => trivial
  | k :: ks, h => by
    refine ⟨?_, chkP_ok h0 hE hR hT ks h.2⟩
    rcases hT.find k with ⟨h1, h2⟩ | ⟨q, l, v, l', v', h1, h2, h3, h4⟩
    · rw [h2]; trivial
    · rw [h2]
      have h5 := h.1
      rw [h1] at h5
      intro _
      obtain ⟨v'', h6, h7⟩ := h5.1 X w0 E0 w' E l' h0 hE hR h3
      rw [h5.2 E _ _ h4 h7]
      exact h6

def EW (P : Program) (n0 : NA) (L : LH) (l : Env) (e : EOp) (R : Value → LH → Prop) : Prop :=
  ∀ (X : Nat → Prop) (w0 : World) (E0 : Emb) (w : World) (E : Emb) (l' : Env) (Kf : Value → World → Prop), n0.Ok X w0 E0 → n0.Ext E0 E → Rep X w0 E L w → ER E l l' → (∀ w' E' v' v L', R v L' → Ext E E' → Rep X w0 E' L' w' → VR E' v v' → Kf v' w') → e.W P Kf l' w
theorem EW.of {e : EOp} {v : Value} {L' : LH} (h : le (fun _ _ _ => none) (rawE2 P) L l e = some (v, L')) : EW P n0 L l e (fun u K => u = v ∧ K = L') := by
  intro X w0 E0 w E l' Kf h0 hE hR hl hK
  refine le_ok (P := P) (X := X) (w0 := w0) (fun _ _ _ _ _ _ _ _ h => by cases h) (rawE2_ok P) h hR hl fun w' E' v' h1 h2 h3 => hK w' E' v' v L' ⟨rfl, rfl⟩ h1 h2 h3
theorem EW.mono {e : EOp} {R R' : Value → LH → Prop} (h : EW P n0 L l e R) (hr : ∀ v L', R v L' → R' v L') : EW P n0 L l e R' :=
  fun X w0 E0 w E l' Kf h0 hE hR hl hK => h X w0 E0 w E l' Kf h0 hE hR hl fun w' E' v' v L' h1 => hK w' E' v' v L' (hr v L' h1)

variable {k : Nat} {d : Option Nat} {g : Option (Nat × Bool)} {op : QOp} {eo : EOp} {rd : Bool} {r : List Step} {pend : List Nat} {v : Value}

theorem S_end (h : K l L) : LSt P n0 [] K l T L := ⟨fun _ _ _ _ E _ _ _ hE hR hl _ => ⟨E, l, L, hE, hR, hl, h⟩⟩
theorem S_q (hg : gw g l = some true) (hy : QY P n0 L l op v) (h : LSt P n0 r K (dpush d v l) (bif rd then (k, op, l, v) :: T else T) L) : LSt P n0 (.q k d g op rd :: r) K l T L := by
  refine ⟨fun X w0 E0 w E l' F h0 hE hR hl hT => ?_⟩
  simp only [stepsWp]
  refine gw_ok hl hg (fun _ => ?_) (fun e => by cases e)
  obtain ⟨v', h1, h2⟩ := hy X w0 E0 w E l' h0 hE hR hl
  refine ⟨v', h1, ?_⟩
  cases rd
  · exact h.go X w0 E0 w E _ _ h0 hE hR (hl.dpush h2 d) hT
  · exact h.go X w0 E0 w E _ _ h0 hE hR (hl.dpush h2 d) ⟨rfl, ⟨l', v', rfl, hl, h2⟩, hT⟩
theorem S_e {R : Value → LH → Prop} (hg : gw g l = some true) (hw : EW P n0 L l eo R) (h : ∀ v L', R v L' → chkP P n0 T L' pend ∧ LSt P n0 r K (dpush d v l) T L') : LSt P n0 (.e d g eo pend :: r) K l T L := by
  refine ⟨fun X w0 E0 w E l' F h0 hE hR hl hT => ?_⟩
  simp only [stepsWp]
  refine gw_ok hl hg (fun _ => ?_) (fun e => by cases e)
  refine hw X w0 E0 w E l' _ h0 hE hR hl fun w' E' v' v L' hr h1 h2 h3 => ?_
  obtain ⟨hc, hn⟩ := h v L' hr
  exact ⟨chkP_ok h0 (hE.trans h1) h2 (hT.ext h1) _ hc, hn.go X w0 E0 w' E' _ _ h0 (hE.trans h1) h2 ((hl.ext h1).dpush h3 d) (hT.ext h1)⟩
theorem S_qno (hg : gw g l = some false) (h : LSt P n0 r K (dpush d undef l) T L) : LSt P n0 (.q k d g op rd :: r) K l T L := by
  refine ⟨fun X w0 E0 w E l' F h0 hE hR hl hT => ?_⟩
  simp only [stepsWp]
  exact gw_ok hl hg (fun e => by cases e) (fun _ => h.go X w0 E0 w E _ _ h0 hE hR (hl.dpush VR.undef d) hT)
theorem S_eno (hg : gw g l = some false) (h : LSt P n0 r K (dpush d undef l) T L) : LSt P n0 (.e d g eo pend :: r) K l T L := by
  refine ⟨fun X w0 E0 w E l' F h0 hE hR hl hT => ?_⟩
  simp only [stepsWp]
  exact gw_ok hl hg (fun e => by cases e) (fun _ => h.go X w0 E0 w E _ _ h0 hE hR (hl.dpush VR.undef d) hT)
/-! ### what can be run by looking -/
def noRaw : RawQ := fun _ _ _ => none
theorem noRaw_ok (P : Program) : RawOk P noRaw := fun _ _ _ _ _ _ _ _ _ h => by cases h

def qsafe (st : List Nat) (L : LH) (l : Env) : QOp → Option Value
  | .mov x => lv l x
  | .pick c a b => match c with
    | .tmp t => match inL t st with
      | true => none
      | false => match lv l (.tmp t) with
        | some (.bool true) => lv l a
        | some (.bool false) => lv l b
        | _ => none
    | _ => none
  | .nilc x => lq noRaw L l (.nilc x)
  | .fld x off => match lptr l x with
    | some ⟨b, o, none⟩ => some (.pointer (some ⟨b, o + off, none⟩))
    | _ => none
  | .fldv x off => lq noRaw L l (.fldv x off)
  | .fldn x off n => lq noRaw L l (.fldn x off n)
  | .ext x k => lq noRaw L l (.ext x k)
  | .bin op x y => match op with
    | .quo => none
    | .rem => none
    | .add => none
    | .sub => none
    | .mul => none
    | .and => none
    | .or => none
    | .xor => none
    | .andNot => none
    | op => lq noRaw L l (.bin op x y)
  | .nilp neg x => match lv l x with
    | some (.pointer (some _)) => match neg with
      | true => some (.bool true)
      | false => some (.bool false)
    | some (.pointer none) => match neg with
      | true => some (.bool false)
      | false => some (.bool true)
    | _ => none
  | .un op x => lq noRaw L l (.un op x)
  | .len x => lq noRaw L l (.len x)
  | .bld z ps => lq noRaw L l (.bld z ps)
  | .mm mx x y => lq noRaw L l (.mm mx x y)
  | .xorn x => lq noRaw L l (.xorn x)
  | .mkf f a c => lq noRaw L l (.mkf f a c)
  | .ld x => match lptr l x with
    | some ⟨b, o, none⟩ => match L[b]? with
      | some (.cells _ vs) => vs[o]?
      | _ => none
    | _ => none
  | .ldn x n => match lptr l x with
    | some ⟨b, o, none⟩ => match L[b]? with
      | some (.cells _ vs) => bif Nat.ble (o + n) vs.length then some (.agg ⟨(vs.drop o).take n⟩) else none
      | _ => none
    | _ => none
  | _ => none

theorem qsafe_ok {st : List Nat} (h : qsafe st L l op = some v) : QY P n0 L l op v := by
  intro X w0 E0 w E l' h0 hE hR hl
  have via : lq noRaw L l op = some v → ∃ v', op.Y P l' v' w ∧ VR E v v' := fun h => lq_ok (noRaw_ok P) h hR hl
  cases op <;> simp only [qsafe] at h <;> first | exact via h | (cases h; done) | skip
  case pick c a b =>
    cases c <;> first | (cases h; done) | skip
    case tmp t =>
    simp only at h
    split at h <;> first | (cases h; done) | skip
    split at h <;> first | (cases h; done) | skip
    · rename_i hc; exact via (by simp only [lq, hc]; exact h)
    · rename_i hc; exact via (by simp only [lq, hc]; exact h)
  case fld x off =>
    split at h <;> first | (cases h; done) | skip
    rename_i b o hp
    cases h
    exact via (by simp only [lq, hp, add_none])
  case bin op x y => cases op <;> first | exact via h | cases h
  case nilp neg x =>
    split at h <;> first | (cases h; done) | skip
    · rename_i p hp; cases neg <;> cases h <;> exact via (by simp [lq, hp])
    · rename_i hp; cases neg <;> cases h <;> exact via (by simp [lq, hp])
  case ld x =>
    split at h <;> first | (cases h; done) | skip
    rename_i b o hp
    split at h <;> first | (cases h; done) | skip
    rename_i sz vs hb
    exact via (by simp only [lq, hp, lcell, hb]; exact h)
  case ldn x n =>
    split at h <;> first | (cases h; done) | skip
    rename_i b o hp
    split at h <;> first | (cases h; done) | skip
    rename_i sz vs hb
    cases hc : Nat.ble (o + n) vs.length
    · rw [hc] at h; cases h
    rw [hc] at h; cases h
    exact via (by simp only [lq, hp, lcells, hb, hc, cond_true])

def esafe (L : LH) (l : Env) : EOp → Option (Value × LH)
  | .st x v => match lptr l x, lv l v with
    | some ⟨b, o, none⟩, some u => match one u with
      | true => match L[b]? with
        | some (.cells sz vs) => bif Nat.blt o vs.length then some (undef, L.set b (.cells sz (vs.set o u))) else none
        | _ => none
      | false => none
    | _, _ => none
  | .stn x v n => match lptr l x, lv l v with
    | some ⟨b, o, none⟩, some (.agg ⟨us⟩) => bif Nat.beq us.length n then (match L[b]? with
      | some (.cells sz vs) => bif Nat.ble (o + n) vs.length then some (undef, L.set b (.cells sz (lspl vs o us))) else none
      | _ => none) else none
    | _, _ => none
  | .new _ zero => bif zero.all stillS then some (.pointer (some ⟨L.length, 0, none⟩), L ++ [.cells 0 zero]) else none
  | .box _ x => match lv l x with
    | some u => bif notTup u then some (.pointer (some ⟨L.length, 0, none⟩), L ++ [.cells 0 u.cells.toList]) else none
    | none => none
  | .bs0 _ => some (.slice (some ⟨L.length, 0, none⟩) 0 0, L ++ [.cells 0 []])
  | .bs1 _ n x => match lv l x with
    | some u => bif notTup u && Nat.beq u.cells.toList.length n then some (.slice (some ⟨L.length, 0, none⟩) 1 1, L ++ [.cells 0 u.cells.toList]) else none
    | none => none
  | _ => none
theorem esafe_ok {L' : LH} (h : esafe L l eo = some (v, L')) : EW P n0 L l eo (fun u K => u = v ∧ K = L') := by
  refine EW.of ?_
  cases eo <;> simp only [esafe] at h <;> first | (cases h; done) | skip
  case st x y =>
    simp only [le, fL_eq]
    split at h <;> first | (cases h; done) | skip
    rename_i b o u hx hy
    rw [hx, hy]
    simp only
    split at h <;> first | (cases h; done) | skip
    rename_i h1
    rw [h1]
    simp only [cond_true]
    split at h <;> first | (cases h; done) | skip
    rename_i sz vs hb
    rw [hb]
    exact h
  case stn x y n => simp only [le, fL_eq]; exact h
  case new t z => simp only [le, fL_eq, fV_eq]; exact h
  case box t x => simp only [le, fL_eq, fV_eq]; exact h
  case bs0 t => exact h
  case bs1 t n x => exact h

def gsafe (st : List Nat) (g : Option (Nat × Bool)) (l : Env) : Option Bool :=
  match g with
  | none => some true
  | some (s, want) => match inL s st with
    | true => none
    | false => match eget l s with
      | some (.bool true) => some want
      | some (.bool false) => some (!want)
      | some (.tuple _) => some false
      | _ => none
theorem gsafe_ok {st : List Nat} {b : Bool} (h : gsafe st g l = some b) : gw g l = some b := by
  cases g with
  | none => exact h
  | some sw =>
    obtain ⟨s, want⟩ := sw
    simp only [gsafe] at h
    split at h <;> first | (cases h; done) | skip
    split at h <;> first | (cases h; done) | skip
    · rename_i hs; cases h; simp only [gw, hs]; cases b <;> rfl
    · rename_i hs; cases h; simp only [gw, hs]; cases want <;> rfl
    · rename_i hs; cases h; simp only [gw, hs]

def arun (st : List Nat) : List Step → Env → Taken → LH → List Step × Env × Taken × LH
  | [], l, T, L => ([], l, T, L)
  | .q k d g op rd :: r, l, T, L => match gsafe st g l with
    | some true => match qsafe st L l op with
      | some v => match rd with
        | true => arun st r (dpush d v l) ((k, op, l, v) :: T) L
        | false => arun st r (dpush d v l) T L
      | none => (.q k d g op rd :: r, l, T, L)
    | some false => arun st r (dpush d undef l) T L
    | none => (.q k d g op rd :: r, l, T, L)
  | .e d g op pend :: r, l, T, L => match gsafe st g l with
    | some true => match pend with
      | [] => match esafe L l op with
        | some (v, L') => arun st r (dpush d v l) T L'
        | none => (.e d g op pend :: r, l, T, L)
      | _ :: _ => (.e d g op pend :: r, l, T, L)
    | some false => arun st r (dpush d undef l) T L
    | none => (.e d g op pend :: r, l, T, L)

theorem arun_ok (st : List Nat) : ∀ (ss : List Step) (l : Env) (T : Taken) (L : LH) {ss1 : List Step} {l1 : Env} {T1 : Taken} {L1 : LH}, arun st ss l T L = (ss1, l1, T1, L1) → LSt P n0 ss1 K l1 T1 L1 → LSt P n0 ss K l T L
  | [], l, T, L, _, _, _, _, h, k => by cases h; exact k
  | .q k d g op rd :: r, l, T, L, _, _, _, _, h, hk => by
    simp only [arun] at h
    split at h
    · rename_i hg
      split at h
      · rename_i v hv
        split at h
        · exact S_q (gsafe_ok hg) (qsafe_ok hv) (arun_ok st r _ _ L h hk)
        · exact S_q (gsafe_ok hg) (qsafe_ok hv) (arun_ok st r _ _ L h hk)
      · cases h; exact hk
    · rename_i hg; exact S_qno (gsafe_ok hg) (arun_ok st r _ _ L h hk)
    · cases h; exact hk
  | .e d g op pend :: r, l, T, L, _, _, _, _, h, hk => by
    simp only [arun] at h
    split at h
    · rename_i hg
      split at h
      · split at h
        · rename_i v L' hv
          exact S_e (gsafe_ok hg) (esafe_ok hv) fun v L' ⟨e1, e2⟩ => by subst e1; subst e2; exact ⟨trivial, arun_ok st r _ _ _ h hk⟩
        · cases h; exact hk
      · cases h; exact hk
    · rename_i hg; exact S_eno (gsafe_ok hg) (arun_ok st r _ _ L h hk)
    · cases h; exact hk

variable {ss ss1 : List Step} {l1 : Env} {T1 : Taken} {L1 : LH}

/-- run to the end of the region -/
theorem S_done (st : List Nat) (h : arun st ss l T L = ([], l1, T1, L1)) (hk : K l1 L1) : LSt P n0 ss K l T L := arun_ok st ss l T L h (S_end hk)
/-- run up to an operation of which is told what it yields -/
theorem S_Q (st : List Nat) (h : arun st ss l T L = (.q k d g op rd :: r, l1, T1, L1)) (hg : gw g l1 = some true) (hy : QY P n0 L1 l1 op v) (hn : LSt P n0 r K (dpush d v l1) (bif rd then (k, op, l1, v) :: T1 else T1) L1) : LSt P n0 ss K l T L :=
  arun_ok st ss l T L h (S_q hg hy hn)
theorem S_E (st : List Nat) {R : Value → LH → Prop} (h : arun st ss l T L = (.e d g eo pend :: r, l1, T1, L1)) (hg : gw g l1 = some true) (hw : EW P n0 L1 l1 eo R) (hn : ∀ v L', R v L' → chkP P n0 T1 L' pend ∧ LSt P n0 r K (dpush d v l1) T1 L') : LSt P n0 ss K l T L :=
  arun_ok st ss l T L h (S_e hg hw hn)
/-- run up to a guard over a truth that is not known: both ways -/
theorem S_split (s : Nat) {b : Bool} (h0 : arun [s] ss l T L = (ss1, l1, T1, L1)) (hh : headGuard ss1 = some s) (hb : eget l1 s = some (.bool b))
    (ht : b = true → LSt P n0 ss1 K ((s, .bool true) :: l1) T1 L1) (hf : b = false → LSt P n0 ss1 K ((s, .bool false) :: l1) T1 L1) : LSt P n0 ss K l T L := by
  refine arun_ok [s] ss l T L h0 ?_
  refine ⟨fun X w0 E0 w E l' F hn hE hR hl hT => ?_⟩
  obtain ⟨_, hb', rfl⟩ := hl.get hb
  have key : stepsWp P ss1 (Fin n0 X w0 E0 K) ((s, .bool b) :: l') F w := by
    cases b
    · exact (hf rfl).go X w0 E0 w E _ F hn hE hR (ER.cons _ rfl hl) hT
    · exact (ht rfl).go X w0 E0 w E _ F hn hE hR (ER.cons _ rfl hl) hT
  cases ss1 with
  | nil => cases hh
  | cons st r =>
    cases st with
    | q k d g op rd =>
      cases g with
      | none => cases hh
      | some sw => obtain ⟨s', want⟩ := sw; cases hh; simp only [stepsWp] at *; exact gcase_sub hb' key
    | e d g op pend =>
      cases g with
      | none => cases hh
      | some sw => obtain ⟨s', want⟩ := sw; cases hh; simp only [stepsWp] at *; exact gcase_sub hb' key

/-! ### single operations -/
theorem QY.idx {x i : Operand} {size b o n c : Nat} {kd : IntKind} {j : Int} (hx : lv l x = some (.slice (some ⟨b, o, none⟩) n c)) (hi : lv l i = some (.int kd j)) (hj : 0 ≤ j) (h1 : j < (n : Int)) : QY P n0 L l (.idx x i size) (.pointer (some ⟨b, o + j.toNat * size, none⟩)) := by
  intro X w0 E0 w E l' h0 hE hR hl
  obtain ⟨_, g1, g2, r, g3, ⟨a', c', rfl, g4⟩ | ⟨g4, _⟩⟩ := lv_ev hl hx
  · obtain ⟨_, g5, rfl⟩ := lv_ev hl hi
    rcases g4 with ⟨g4, _⟩ | ⟨g4, _⟩
    · refine ⟨_, ⟨_, n, _, kd, j, g1, g5, hj, h1, rfl⟩, _, rfl, ?_⟩
      have := AR.add (a := ⟨b, o, none⟩) (a' := a') ⟨rfl, r, g3, g4⟩ (j.toNat * size)
      rwa [add_none] at this
    · omega
  · omega
theorem QY.ldd {x : Operand} {b o : Nat} {vs : List Value} (hx : lv l x = some (.pointer (some ⟨b, o, none⟩))) (hb : L[b]? = some (.data vs)) (hv : vs[o]? = some v) (hs : stillS v = true) : QY P n0 L l (.ld x) v :=
  QY.of (by simp [lq, lptr, hx, lcell, hb, hv, hs])
theorem QY.ldnd {x : Operand} {b o n : Nat} {vs us : List Value} (hx : lv l x = some (.pointer (some ⟨b, o, none⟩))) (hb : L[b]? = some (.data vs)) (hle : o + n ≤ vs.length) (hv : (vs.drop o).take n = us) (hs : us.all stillS = true) : QY P n0 L l (.ldn x n) (.agg ⟨us⟩) := by
  refine QY.of ?_
  have h1 : Nat.ble (o + n) vs.length = true := Nat.ble_eq_true_of_le hle
  simp only [lq, lptr, hx, lcells, hb, hv, h1, hs, Bool.and_self, cond_true]
theorem QY.ldg {x : Operand} {b o sz : Nat} {vs : List Value} (hx : lv l x = some (.pointer (some ⟨b, o, none⟩))) (hb : L[b]? = some (.gro sz vs)) (hv : vs[o]? = some v) (hs : stillS v = true) : QY P n0 L l (.ld x) v :=
  QY.of (by simp [lq, lptr, hx, lcell, hb, hv, hs])
theorem QY.arith {x y : Operand} {bop : BinOp} {kd : IntKind} {a b : Int} {c : Value} (hx : lv l x = some (.int kd a)) (hy : lv l y = some (.int kd b)) (hc : ibin bop kd a b = some c) (hs : still c = true) : QY P n0 L l (.bin bop x y) c := by
  refine QY.of ?_
  have : ikEq kd kd = true := by simp [ikEq]
  simp only [lq, hx, hy, this, cond_true, hc, hs]
theorem QY.add {x y : Operand} {a b c : Int} (hx : lv l x = some (.int .i64 a)) (hy : lv l y = some (.int .i64 b)) (hc : a + b = c) (h0 : -9223372036854775808 ≤ c) (h1 : c ≤ 9223372036854775807) : QY P n0 L l (.bin .add x y) (.int .i64 c) :=
  QY.arith hx hy (by simp only [ibin]; rw [hc, wrap64_id h0 h1]) rfl
theorem QY.sub {x y : Operand} {a b c : Int} (hx : lv l x = some (.int .i64 a)) (hy : lv l y = some (.int .i64 b)) (hc : a - b = c) (h0 : -9223372036854775808 ≤ c) (h1 : c ≤ 9223372036854775807) : QY P n0 L l (.bin .sub x y) (.int .i64 c) :=
  QY.arith hx hy (by simp only [ibin]; rw [hc, wrap64_id h0 h1]) rfl
theorem QY.mul {x y : Operand} {a b c : Int} (hx : lv l x = some (.int .i64 a)) (hy : lv l y = some (.int .i64 b)) (hc : a * b = c) (h0 : -9223372036854775808 ≤ c) (h1 : c ≤ 9223372036854775807) : QY P n0 L l (.bin .mul x y) (.int .i64 c) :=
  QY.arith hx hy (by simp only [ibin]; rw [hc, wrap64_id h0 h1]) rfl
theorem QY.quo {x y : Operand} {a b c : Int} (hx : lv l x = some (.int .i64 a)) (hy : lv l y = some (.int .i64 b)) (hb : b ≠ 0) (hc : a.tdiv b = c) (h0 : -9223372036854775808 ≤ c) (h1 : c ≤ 9223372036854775807) : QY P n0 L l (.bin .quo x y) (.int .i64 c) :=
  QY.arith hx hy (by simp only [ibin]; rw [if_neg hb, hc, wrap64_id h0 h1]) rfl
theorem QY.rem {x y : Operand} {a b c : Int} (hx : lv l x = some (.int .i64 a)) (hy : lv l y = some (.int .i64 b)) (hb : b ≠ 0) (hc : a.tmod b = c) : QY P n0 L l (.bin .rem x y) (.int .i64 c) :=
  QY.arith hx hy (by simp only [ibin]; rw [if_neg hb, hc]) rfl
theorem QY.shift {lft : Bool} {x y : Operand} {kd k' : IntKind} {a n c : Int} (hx : lv l x = some (.int kd a)) (hy : lv l y = some (.int k' n)) (hn : 0 ≤ n) (hc : ishift lft kd a n = c) : QY P n0 L l (.sh lft x y) (.int kd c) := by
  intro X w0 E0 w E l' h0 hE hR hl
  obtain ⟨_, g1, rfl⟩ := lv_ev hl hx
  obtain ⟨_, g2, rfl⟩ := lv_ev hl hy
  exact ⟨_, ⟨kd, a, k', n, g1, g2, hn, rfl⟩, by rw [hc]; rfl⟩
theorem QY.slc {x : Operand} {lo hi : Option Operand} {size b o n c lo' hi' : Nat} (hx : lv l x = some (.slice (some ⟨b, o, none⟩) n c)) (h1 : lbound l lo 0 = some lo') (h2 : lbound l hi n = some hi') (h3 : lo' ≤ hi') (h4 : hi' ≤ c) :
    QY P n0 L l (.slc x lo hi size) (.slice (some ⟨b, o + lo' * size, none⟩) (hi' - lo') (c - lo')) := by
  refine QY.of ?_
  have e1 : Nat.ble lo' hi' = true := Nat.ble_eq_true_of_le h3
  have e2 : Nat.ble hi' c = true := Nat.ble_eq_true_of_le h4
  simp only [lq, hx, h1, h2, e1, e2, Bool.and_self, cond_true, add_none]

/-- a cell of a block without addresses -/
theorem EW.std {x y : Operand} {b o : Nat} {vs : List Value} {u : Value} (hx : lv l x = some (.pointer (some ⟨b, o, none⟩))) (hy : lv l y = some u) (hb : L[b]? = some (.data vs)) (hu : stillS u = true) (ho : o < vs.length) :
    EW P n0 L l (.st x y) (fun w K => w = undef ∧ K = L.set b (.data (vs.set o u))) := by
  intro X w0 E0 w E l' Kf h0 hE hR hl hK
  obtain ⟨_, h1, a', rfl, _, r, hr, rfl⟩ := lv_ev hl hx
  obtain ⟨u', h2, h3⟩ := lv_ev hl hy
  have h1' := SR.still (E := E) hu
  have hsr : SR E u u' := h3.sr h1'.one.1
  obtain rfl : u' = u := SR.eq_still hu hsr
  obtain ⟨hB, hr0⟩ := hR.blk b _ r hb hr
  obtain ⟨r1, r2⟩ := r
  simp only at hr0 hB; subst hr0
  refine ⟨_, _, h1, h2, h1'.one.1, hB.some (by simpa using ho), hB.frozen _, hK _ E _ _ _ ⟨rfl, rfl⟩ (Ext.refl E) (hR.upd hb hr (Fr.setCell w ⟨r1, o + 0, none⟩ u') ⟨hB.set _ _, rfl⟩ (fun _ h => .inl h)) VR.undef⟩
theorem EW.stnd {x y : Operand} {b o n : Nat} {vs us : List Value} (hx : lv l x = some (.pointer (some ⟨b, o, none⟩))) (hy : lv l y = some (.agg ⟨us⟩)) (hn : us.length = n) (hb : L[b]? = some (.data vs)) (hu : us.all stillS = true) (ho : o + n ≤ vs.length) :
    EW P n0 L l (.stn x y n) (fun w K => w = undef ∧ K = L.set b (.data (splice vs o us))) := by
  intro X w0 E0 w E l' Kf h0 hE hR hl hK
  obtain ⟨_, h1, a', rfl, _, r, hr, rfl⟩ := lv_ev hl hx
  obtain ⟨u', h2, us', rfl, h3⟩ := lv_ev hl hy
  obtain rfl : us' = us := L2.eq_still hu h3
  obtain ⟨hB, hr0⟩ := hR.blk b _ r hb hr
  obtain ⟨r1, r2⟩ := r
  simp only at hr0 hB; subst hr0
  have hcl : o + 0 + 0 + us'.length ≤ vs.length := by omega
  have hpb := putCells_blk (o := o + 0) us' 0 w _ hB hcl
  refine ⟨_, _, h1, h2, by simpa using hn, fun u hu' => (SR.still (E := E) (List.all_eq_true.1 hu u (by simpa using hu'))).one.1, fun i hi => by rw [add_none]; exact ⟨hB.some (by show o + 0 + i < vs.length; omega), hB.frozen _⟩, hK _ E _ _ _ ⟨rfl, rfl⟩ (Ext.refl E) (hR.upd hb hr (putCells_fr (p := ⟨r1, o + 0, none⟩) us' 0 w) ⟨?_, rfl⟩ (fun _ h => .inl h)) VR.undef⟩
  simpa using hpb

/-! ### functions -/
def TrK (P : Program) (A : Args) (keep : List Nat) (f : FuncId) (vs : List Value) (L : LH) (R : Value → LH → Prop) : Prop :=
  ∀ (X : Nat → Prop) (w0 w : World) (E : Emb) (vs' : List Value), (NA.mk L.length A keep).Ok X w0 E → Rep X w0 E L w → L2 (VR E) vs vs' → callable P f = true ∧ Does P f vs'.toArray w fun v' w' => ∃ E' v L', (NA.mk L.length A keep).Ext E E' ∧ L.length ≤ L'.length ∧ VR E' v v' ∧ Rep X w0 E' L' w' ∧ R v L'
/-- a contract: all names that were handed stay -/
abbrev Tr (P : Program) (f : FuncId) (vs : List Value) (L : LH) (R : Value → LH → Prop) : Prop := TrK P [] (seqN 0 L.length) f vs L R
theorem Tr.mono {A : Args} {keep : List Nat} {f : FuncId} {vs : List Value} {R R' : Value → LH → Prop} (h : TrK P A keep f vs L R) (hr : ∀ v L', R v L' → R' v L') : TrK P A keep f vs L R' :=
  fun X w0 w E vs' hA hR hv => ⟨(h X w0 w E vs' hA hR hv).1, (h X w0 w E vs' hA hR hv).2.mono fun _ _ ⟨E', v, L', h1, h0, h2, h3, h4⟩ => ⟨E', v, L', h1, h0, h2, h3, hr _ _ h4⟩⟩

/-- what a function hands back, and which blocks it leaves: all, or those of sel -/
def RetQ (n0 : NA) (res : List RV) (R : Value → LH → Prop) (e : Exit) (l : Env) (L : LH) : Prop :=
  (e = .ret ∨ e = .normal) ∧ ∃ us, lres l L res = some us ∧ ((Nat.ble n0.n L.length = true ∧ R (lret us) L) ∨ ∃ sel v L1, Nat.ble n0.n sel.length = true ∧ keepOk sel n0.keep = true ∧ letGoV sel L (lret us) = some v ∧ letGo sel L = some L1 ∧ R v L1)
theorem RetQ.all {res : List RV} {R : Value → LH → Prop} {us : List Value} (h : lres l L res = some us) (hr : R (lret us) L) (hn : Nat.ble n0.n L.length = true := by rfl) : RetQ n0 res R .ret l L := ⟨.inl rfl, us, h, .inl ⟨hn, hr⟩⟩
theorem RetQ.pick {res : List RV} {R : Value → LH → Prop} {us : List Value} (sel : List Nat) (h : lres l L res = some us) (h0 : keepOk sel n0.keep = true) (h1 : letGoV sel L (lret us) = some v) (h2 : letGo sel L = some L1) (hr : R v L1) (hn : Nat.ble n0.n sel.length = true := by rfl) : RetQ n0 res R .ret l L := ⟨.inl rfl, us, h, .inr ⟨sel, v, L1, hn, h0, h1, h2, hr⟩⟩
theorem RetQ.end {res : List RV} {R : Value → LH → Prop} {us : List Value} (sel : List Nat) (h : lres l L res = some us) (h0 : keepOk sel n0.keep = true) (h1 : letGoV sel L (lret us) = some v) (h2 : letGo sel L = some L1) (hr : R v L1) (hn : Nat.ble n0.n sel.length = true := by rfl) : RetQ n0 res R .normal l L := ⟨.inr rfl, us, h, .inr ⟨sel, v, L1, hn, h0, h1, h2, hr⟩⟩

theorem letGo_length {sel : List Nat} {L K : LH} (h : letGo sel L = some K) : K.length = sel.length := by
  unfold letGo at h
  split at h <;> first | (cases h; done) | skip
  rename_i t ht
  cases hc : (t.all (okB (invN sel sel.length 0 L.length) sel.length) && ndup sel)
  · rw [hc] at h; cases h
  rw [hc] at h; cases h
  simp [(pickG_ok ht).1]
theorem Tr.of {A : Args} {keep : List Nat} {x : FnRow} {vs : List Value} {R : Value → LH → Prop} (hx : x.Ok P) (hn : Nat.ble vs.length x.np = true) (h : LWp P ⟨L.length, A, keep⟩ x.m (RetQ ⟨L.length, A, keep⟩ x.res R) (initEnv 0 vs) L) : TrK P A keep x.f vs L R := by
  intro X w0 w E vs' hA hR hvs
  obtain ⟨hcl, fn, hl, hr, hrk, hd⟩ := hx
  refine ⟨hcl, hd _ w _ (by rw [hvs.length]; exact hn) ?_⟩
  refine MWp.mono x.m (fun e l' w' hf => ?_) (h.go X w0 E w E _ hA (NA.Ext.refl _ E) hR (ER.init 0 hvs))
  obtain ⟨E1, l1, L1, k1, k2, k3, he, us, hus, hcase⟩ := hf
  rcases hcase with ⟨hn1, hr1⟩ | ⟨sel, v, L2, hn1, g0, g1, g2, g3⟩
  · exact lret_ok hl hr hrk k2 k3 he hus fun v' hv' => ⟨E1, _, L1, k1, Nat.le_of_ble_eq_true hn1, hv', k2, hr1⟩
  · exact lret_ok hl hr hrk k2 k3 he hus fun v' hv' => ⟨subE E1 sel, v, L2, k1.sub g0, by rw [letGo_length g2]; exact Nat.le_of_ble_eq_true hn1, letGoV_ok g1 k2 hv', letGo_ok g2 k2, g3⟩

/-- which rows that came in a call is handed on -/
def handed (φ keep : List Nat) (A A' : Args) : Prop := ∀ x ∈ A', inL x.1 keep = true ∧ ∃ k, φ[x.1]? = some k ∧ (k, x.2) ∈ A
theorem AV.keep {X X' : Nat → Prop} {w0 w : World} (hf : Fr X w0 w) (hX : ∀ b, b < w0.heap.size → ¬ X b → ¬ X' b) : ∀ (a : AV) (y : Value), a.is X w0 y → a.is X' w y := by
  intro a
  induction a with
  | v u => intro y h; exact h
  | s n m get ih =>
    rintro y ⟨a, c, rfl, h⟩
    refine ⟨a, c, rfl, fun hm => ?_⟩
    obtain ⟨b, o, h1, h2, h3, h4⟩ := h hm
    refine ⟨b, o, h1, Nat.lt_of_lt_of_le h2 hf.size, hX b h2 h3, fun i hi => ?_⟩
    obtain ⟨y, h5, h6⟩ := h4 i hi
    exact ⟨y, by rw [← h5]; simp only [World.cell?, hf.keep b h2 h3], ih i y h6⟩
theorem handed_ok {n0 : NA} {A' : Args} {φ keep : List Nat} {X : Nat → Prop} {w0 w : World} {E0 E : Emb} {M Lc : LH} (hd : handed φ keep n0.A A') (hp : Part φ M Lc) (h0 : n0.Ok X w0 E0) (hE : n0.Ext E0 E) (hR : Rep X w0 E M w) : (NA.mk Lc.length A' keep).Ok (footL (subE E φ) Lc) w (subE E φ) := by
  refine ⟨by rw [(hp.sub hR).len], fun x hx => ⟨(hd x hx).1, fun hm => ?_⟩⟩
  obtain ⟨_, k, h1, h2⟩ := hd x hx
  obtain ⟨hk0, hA0⟩ := h0.2 _ h2
  obtain ⟨r, h3, h4, h5, h6⟩ := hA0 hm
  have hX : ∀ b, b < w0.heap.size → ¬ X b → ¬ footL (subE E φ) Lc b := by
    rintro b hb hx ⟨k, x, r, h7, h8, h9⟩
    rcases ((hp.sub hR).rng k x r h7 h8 b h9).1 with h | h
    · omega
    · exact hx h
  refine ⟨r, ?_, Nat.lt_of_lt_of_le h4 hR.fr.size, hX _ h4 h5, fun i hi => ?_⟩
  · simp [subE, h1, hE _ _ hk0 h3]
  · obtain ⟨y, h7, h8⟩ := h6 i hi
    exact ⟨y, by rw [← h7]; simp only [World.cell?, hR.fr.keep _ h4 h5], AV.keep hR.fr hX _ _ h8⟩
theorem handed_nil {φ keep : List Nat} {A : Args} : handed φ keep A [] := fun x hx => by cases hx

/-- beside the blocks of fr nothing has changed, really -/
def Left (fr : List Nat) (E : Emb) (L : LH) (w w' : World) : Prop := ∀ (k : Nat) (x : LB) (r : Nat × Nat × Nat) (b : Nat), inL k fr = false → L[k]? = some x → E[k]? = some r → foot r x b → w'.heap[b]? = w.heap[b]?
/-- an effect on the blocks fr alone, behind which the names in dr may be other ones -/
def EWd (P : Program) (n0 : NA) (fr dr : List Nat) (L : LH) (l : Env) (e : EOp) (R : Value → LH → Prop) : Prop :=
  ∀ (X : Nat → Prop) (w0 : World) (E0 : Emb) (w : World) (E : Emb) (l' : Env) (Kf : Value → World → Prop), n0.Ok X w0 E0 → n0.Ext E0 E → Rep X w0 E L w → ER E l l' → (∀ w' E' v' v L', R v L' → ExtD dr E E' → Left fr E L w w' → Rep X w0 E' L' w' → VR E' v v' → Kf v' w') → e.W P Kf l' w
theorem EWd.mono {fr dr : List Nat} {e : EOp} {R R' : Value → LH → Prop} (h : EWd P n0 fr dr L l e R) (hr : ∀ v L', R v L' → R' v L') : EWd P n0 fr dr L l e R' :=
  fun X w0 E0 w E l' Kf h0 hE hR hl hK => h X w0 E0 w E l' Kf h0 hE hR hl fun w' E' v' v L' h1 => hK w' E' v' v L' (hr v L' h1)
/-- what was read ahead out of a block beside fr -/
def frOk (fr : List Nat) (T : Taken) (L : LH) (k : Nat) : Bool := match tfind T k with
  | some (.ld x, l, _) => (match lptr l x with
    | some ⟨b, _, none⟩ => !inL b fr && (match L[b]? with
      | some (.cells _ _) => true
      | _ => false)
    | _ => false)
  | some (.ldn x _, l, _) => (match lptr l x with
    | some ⟨b, _, none⟩ => !inL b fr && (match L[b]? with
      | some (.cells _ _) => true
      | _ => false)
    | _ => false)
  | some _ => false
  | none => true
def chkG (P : Program) (n0 : NA) (fr : List Nat) (T : Taken) (L L' : LH) : List Nat → Prop
  | [] => True
  | k :: ks => (frOk fr T L k = true ∨ (match tfind T k with
    | some (q, l, v) => QY P n0 L' l q v ∧ Sure v
    | none => True)) ∧ chkG P n0 fr T L L' ks
theorem left_ld {fr : List Nat} {w w' : World} {E : Emb} {l l' : Env} {x : Operand} {b o : Nat} {sz : Nat} {vs : List Value} (hL : Left fr E L w w') (hl : ER E l l') (hx : lptr l x = some ⟨b, o, none⟩) (hb : inL b fr = false) (hc : L[b]? = some (.cells sz vs)) :
    ∃ p, ev l' x = some (.pointer (some p)) ∧ w'.heap[p.block]? = w.heap[p.block]? := by
  obtain ⟨p', h1, _, r, h3, rfl⟩ := lptr_ok hl hx
  exact ⟨_, h1, hL b _ r r.1 hb hc h3 rfl⟩
theorem chkG_ok {fr : List Nat} {X : Nat → Prop} {w0 w w' : World} {E0 E E' : Emb} {L' : LH} {F : Facts} (h0 : n0.Ok X w0 E0) (hE' : n0.Ext E0 E') (hL : Left fr E L w w') (hR' : Rep X w0 E' L' w') (hT : TR P E T F) (hT' : TR P E' T F) : ∀ (ks : List Nat), chkG P n0 fr T L L' ks → pendOk F w w' ks
  | [], _ => trivial
  | k :: ks, h => by
    refine ⟨?_, chkG_ok h0 hE' hL hR' hT hT' ks h.2⟩
    rcases h.1 with h5 | h5
    · rcases hT.find k with ⟨h1, h2⟩ | ⟨q, l, v, l', v', h1, h2, h3, h4⟩
      · rw [h2]; trivial
      · rw [h2]
        intro hF
        unfold frOk at h5
        rw [h1] at h5
        cases q <;> simp only [reduceCtorEq] at h5 <;> first | (cases h5; done) | skip
        case ld x =>
          split at h5 <;> first | (cases h5; done) | skip
          rename_i b o hp
          simp only [Bool.and_eq_true, Bool.not_eq_true'] at h5
          split at h5
          · rename_i sz vs hb
            obtain ⟨p, g1, g2⟩ := left_ld hL h3 hp h5.1 hb
            obtain ⟨p2, g3, g4⟩ := hF
            rw [g1] at g3; cases g3
            exact ⟨p, g1, by rw [← g4]; simp only [World.cell?, g2]⟩
          · cases h5.2
        case ldn x n =>
          split at h5 <;> first | (cases h5; done) | skip
          rename_i b o hp
          simp only [Bool.and_eq_true, Bool.not_eq_true'] at h5
          split at h5
          · rename_i sz vs hb
            obtain ⟨p, g1, g2⟩ := left_ld hL h3 hp h5.1 hb
            obtain ⟨p2, us, g3, g4, g5, g6⟩ := hF
            rw [g1] at g3; cases g3
            have hpb : ∀ i, (p.add i).block = p.block := fun i => by unfold Addr.add; split <;> rfl
            exact ⟨p, us, g1, g4, fun i hi => by rw [← g5 i hi]; simp only [World.cell?, hpb, g2], g6⟩
          · cases h5.2
    · rcases hT'.find k with ⟨h1, h2⟩ | ⟨q, l, v, l', v', h1, h2, h3, h4⟩
      · rw [h2]; trivial
      · rw [h2]
        rw [h1] at h5
        intro _
        obtain ⟨v'', h6, h7⟩ := h5.1 X w0 E0 w' E' l' h0 hE' hR' h3
        rw [h5.2 E' _ _ h4 h7]
        exact h6
def disj (dr : List Nat) : List Nat → Bool
  | [] => true
  | k :: ks => !inL k dr && disj dr ks
theorem disj_ok {dr : List Nat} : ∀ {ks : List Nat} {k : Nat}, disj dr ks = true → inL k ks = true → inL k dr = false
  | [], k, _, h => by cases h
  | a :: ks, k, h, hk => by
    simp only [disj, Bool.and_eq_true, Bool.not_eq_true'] at h
    simp only [inL] at hk
    cases hq : Nat.beq a k
    · rw [hq] at hk; exact disj_ok h.2 hk
    · have := Nat.eq_of_beq_eq_true hq; subst this; exact h.1
theorem S_ed {fr dr : List Nat} {R : Value → LH → Prop} (hg : gw g l = some true) (hw : EWd P n0 fr dr L l eo R) (hd : disj dr n0.keep = true) (hn : nmE dr l = true) (ht : nmT dr T = true) (h : ∀ v L', R v L' → chkG P n0 fr T L L' pend ∧ LSt P n0 r K (dpush d v l) T L') : LSt P n0 (.e d g eo pend :: r) K l T L := by
  refine ⟨fun X w0 E0 w E l' F h0 hE hR hl hT => ?_⟩
  simp only [stepsWp]
  refine gw_ok hl hg (fun _ => ?_) (fun e => by cases e)
  refine hw X w0 E0 w E l' _ h0 hE hR hl fun w' E' v' v L' hr h1 hL h2 h3 => ?_
  obtain ⟨hc, hn'⟩ := h v L' hr
  have hE' : n0.Ext E0 E' := fun k r hk hr => h1 k r (disj_ok hd hk) (hE k r hk hr)
  exact ⟨chkG_ok h0 hE' hL h2 hT (hT.extD h1 ht) _ hc, hn'.go X w0 E0 w' E' _ _ h0 hE' h2 ((hl.extD h1 hn).dpush h3 d) (hT.extD h1 ht)⟩
theorem S_Ed (st : List Nat) {fr dr : List Nat} {R : Value → LH → Prop} (h : arun st ss l T L = (.e d g eo pend :: r, l1, T1, L1)) (hg : gw g l1 = some true) (hw : EWd P n0 fr dr L1 l1 eo R) (hd : disj dr n0.keep = true) (hn : nmE dr l1 = true) (ht : nmT dr T1 = true) (hk : ∀ v L', R v L' → chkG P n0 fr T1 L1 L' pend ∧ LSt P n0 r K (dpush d v l1) T1 L') : LSt P n0 ss K l T L :=
  arun_ok st ss l T L h (S_ed hg hw hd hn ht hk)

theorem call_core {A : Args} {keep : List Nat} {f : FuncId} {vs' us : List Value} {Lc : LH} {R : Value → LH → Prop} {φ : List Nat} (ht : TrK P A keep f us Lc R) (hp : Part φ L Lc) (hd : handed φ keep n0.A A) (hm : nmL (dropped keep 0 φ) φ 0 L = true)
    {X : Nat → Prop} {w0 w : World} {E0 E : Emb} {Kf : Value → World → Prop} (h0 : n0.Ok X w0 E0) (hE : n0.Ext E0 E) (hR : Rep X w0 E L w) (h3 : L2 (VR (subE E φ)) us vs')
    (hK : ∀ w' E' v' v L', (∃ v1 L1, R v1 L1 ∧ v = rnV (L.length + L1.length) (phi2 φ L.length L1) v1 ∧ L' = joinL φ L L1) → ExtD (dropped keep 0 φ) E E' → Left φ E L w w' → Rep X w0 E' L' w' → VR E' v v' → Kf v' w') : callable P f = true ∧ Does P f vs'.toArray w Kf := by
  have hsub := (hp.sub hR).base
  have hc := ht _ _ _ _ _ (handed_ok hd hp h0 hE hR) hsub h3
  refine ⟨hc.1, hc.2.mono ?_⟩
  rintro v' w' ⟨E1, v1, L1, g1, g0, g2, g3, g4⟩
  obtain ⟨E', k1, k2, k3⟩ := Rep.joinW (keep := keep) hp hR (fun k r hk hr => g1 k r hk hr) g0 hm g3
  refine hK w' E' v' _ _ ⟨v1, L1, g4, rfl, rfl⟩ k1 (fun k x r b hk hx hr hb => ?_) k3 (g2.into k2)
  refine g3.fr.keep b (hR.rng k x r hx hr b hb).2 ?_
  rintro ⟨k2, x2, r2, e1, e2, e3⟩
  obtain ⟨j, e4, e5⟩ := hp.blk k2 x2 e1
  obtain ⟨rj, e6⟩ := hR.ent e5
  have e7 : (subE E φ)[k2]? = some rj := by simp [subE, e4, e6]
  rw [e2] at e7; cases e7
  have e8 := hR.inj k j x _ r r2 b hx e5 hr e6 hb (by rw [foot_rn]; exact e3)
  subst e8
  have := inL_mem.2 (List.mem_of_getElem? e4)
  rw [hk] at this; cases this
/-- a call, by its contract: the blocks that it is handed are those of φ -/
theorem EWd.call {A : Args} {keep : List Nat} {f : FuncId} {args : List Operand} {vs us : List Value} {Lc : LH} {R : Value → LH → Prop} (φ : List Nat) (ht : TrK P A keep f us Lc R) (hv : lvs l args = some vs) (he : us.map (rnV L.length φ) = vs) (hp : Part φ L Lc) (hd : handed φ keep n0.A A) (hm : nmL (dropped keep 0 φ) φ 0 L = true) :
    EWd P n0 φ (dropped keep 0 φ) L l (.call f args) (fun v K => ∃ v1 L1, R v1 L1 ∧ v = rnV (L.length + L1.length) (phi2 φ L.length L1) v1 ∧ K = joinL φ L L1) := by
  intro X w0 E0 w E l' Kf h0 hE hR hl hK
  obtain ⟨vs', h1, h2⟩ := lvs_evs hl hv
  have h3 : L2 (VR (subE E φ)) us vs' := by
    subst he
    rw [← hR.len] at h2
    exact L2.sub (f := rnV E.length φ) (fun _ _ h => VR.sub h) h2
  exact ⟨vs', h1, (call_core ht hp hd hm h0 hE hR h3 hK).2⟩
/-- a call of a function value -/
theorem EWd.callv {A : Args} {keep : List Nat} {f : FuncId} {x : Operand} {args : List Operand} {a c vs us : List Value} {Lc : LH} {R : Value → LH → Prop} (φ : List Nat) (ht : TrK P A keep f us Lc R) (hx : lv l x = some (.func (.func f) ⟨a⟩ ⟨c⟩)) (hv : lvs l args = some vs) (he : us.map (rnV L.length φ) = a ++ vs ++ c) (hp : Part φ L Lc) (hd : handed φ keep n0.A A) (hm : nmL (dropped keep 0 φ) φ 0 L = true) :
    EWd P n0 φ (dropped keep 0 φ) L l (.callv x args) (fun v K => ∃ v1 L1, R v1 L1 ∧ v = rnV (L.length + L1.length) (phi2 φ L.length L1) v1 ∧ K = joinL φ L L1) := by
  intro X w0 E0 w E l' Kf h0 hE hR hl hK
  obtain ⟨vs', h1, h2⟩ := lvs_evs hl hv
  obtain ⟨_, h4, a', c', rfl, h5, h6⟩ := lv_ev hl hx
  have h3 : L2 (VR (subE E φ)) us (a' ++ vs' ++ c') := by
    have : L2 (VR E) (us.map (rnV E.length φ)) (a' ++ vs' ++ c') := by
      rw [hR.len, he]
      exact ((h5.mono fun _ _ => S0.vr).append h2).append (h6.mono fun _ _ => S0.vr)
    exact L2.sub (f := rnV E.length φ) (fun _ _ h => VR.sub h) this
  have := call_core ht hp hd hm h0 hE hR h3 hK
  refine ⟨f, ⟨a'⟩, ⟨c'⟩, vs', h4, h1, this.1, ?_⟩
  have e : (⟨a'⟩ : Array Value) ++ vs'.toArray ++ ⟨c'⟩ = (a' ++ vs' ++ c').toArray := by simp
  rw [e]; exact this.2
theorem dropped_seq : ∀ (φ : List Nat) (i n : Nat), i + φ.length ≤ n → dropped (seqN 0 n) i φ = []
  | [], _, _, _ => rfl
  | k :: φ, i, n, h => by
    simp only [List.length_cons] at h
    have hi : inL i (seqN 0 n) = true := by
      rw [inL_mem]
      have := seqN_get n 0 i (by omega)
      rw [Nat.zero_add] at this
      exact List.mem_of_getElem? this
    simp only [dropped, hi, cond_true]
    exact dropped_seq φ (i + 1) n (by omega)
theorem nm_nil0 (v : Value) : nm0 [] v = true := by
  cases v <;> first | rfl | skip
  case pointer a => cases a <;> rfl
  case slice a _ _ => cases a <;> rfl
  case map a => cases a <;> rfl
theorem nm_nilS (v : Value) : nmS [] v = true := by
  unfold nmS
  split
  · simp [nm_nil0]
  · exact nm_nil0 _
theorem nm_nil1 (v : Value) : nm1 [] v = true := by
  unfold nm1
  split
  · simp [nm_nilS]
  · exact nm_nilS _
theorem nm_nilB (x : LB) : nmB [] x = true := by
  cases x <;> first | rfl | skip
  case cells sz vs => simp [nmB, nm_nilS]
  case map m c => simp [nmB, nm_nil1]
  case iter m a b c => cases m <;> rfl
theorem nm_nilL (φ : List Nat) : ∀ (i : Nat) (L : LH), nmL [] φ i L = true
  | _, [] => rfl
  | i, x :: r => by simp [nmL, nm_nilB, nm_nilL φ]
/-- .. all names stay -/
theorem EW.callA {A : Args} {f : FuncId} {args : List Operand} {vs us : List Value} {Lc : LH} {R : Value → LH → Prop} (φ : List Nat) (ht : TrK P A (seqN 0 Lc.length) f us Lc R) (hv : lvs l args = some vs) (he : us.map (rnV L.length φ) = vs) (hp : Part φ L Lc) (hd : handed φ (seqN 0 Lc.length) n0.A A) :
    EW P n0 L l (.call f args) (fun v K => ∃ v1 L1, R v1 L1 ∧ v = rnV (L.length + L1.length) (phi2 φ L.length L1) v1 ∧ K = joinL φ L L1) := by
  have e := dropped_seq φ 0 Lc.length (by rw [hp.len]; omega)
  have h := EWd.call φ ht hv he hp hd (by rw [e]; exact nm_nilL φ 0 L)
  rw [e] at h
  exact fun X w0 E0 w E l' Kf h0 hE hR hl hK => h X w0 E0 w E l' Kf h0 hE hR hl fun w' E' v' v L' hr hx _ => hK w' E' v' v L' hr fun k r hk => hx k r rfl hk
end
end Go.Tum
