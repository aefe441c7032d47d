/-
  Layer 12, plainly: what one thread posts to another one comes in its order.
-/
import Derived.Test.YtgfkadmpakgmeaaRemotePlain
namespace Go.Tum.Remote
open Go Go.Tum

structure ROp where
  kind : Int
  f : Int
  t : Int
  a : Int
instance : Inhabited ROp := ⟨⟨0, 0, 0, 0⟩⟩
def ROp.cells (o : ROp) : List Value := [.int .i64 o.kind, .int .i64 o.f, .int .i64 o.t, .int .i64 o.a]

/-- what was posted from one thread to another one -/
def sentP (f t : Nat) (l : List ROp) : List Int := (l.filter fun (o : ROp) => decide (o.f = (f : Int) ∧ o.t = (t : Int))).map (·.a)
theorem sentP_append (f t : Nat) (a b : List ROp) : sentP f t (a ++ b) = sentP f t a ++ sentP f t b := by simp [sentP]
theorem sentP_cons (f t : Nat) (o : ROp) (l : List ROp) : sentP f t (o :: l) = (if o.f = (f : Int) ∧ o.t = (t : Int) then [o.a] else []) ++ sentP f t l := by
  simp only [sentP, List.filter_cons, decide_eq_true_eq]
  split <;> rfl
theorem sentP_one (f t : Nat) (o : ROp) : sentP f t [o] = if o.f = (f : Int) ∧ o.t = (t : Int) then [o.a] else [] := by
  rw [sentP_cons]; simp [sentP]

structure Ord (s : Mail) (l : List ROp) (j : Nat) : Prop where
  n4 : s.n = 4
  ok : s.Ok j
  len : l.length ≤ j
  inn : ∀ o ∈ l, (0 ≤ o.f ∧ o.f < 4) ∧ 0 ≤ o.t ∧ o.t < 4
  sub : ∀ f t : Nat, f < 4 → t < 4 → ∃ a, sentP f t l = a ++ s.held ((f : Int), (t : Int)) ∧ List.Sublist a (s.row t)
  load : ∀ t : Nat, t < 4 → s.load t = l.countP fun (o : ROp) => decide (o.t = (t : Int))

theorem Ord.mono {s : Mail} {l : List ROp} {j j' : Nat} (h : Ord s l j) (hj : j ≤ j') : Ord s l j' := ⟨h.n4, h.ok.mono hj, by have := h.len; omega, h.inn, h.sub, h.load⟩
theorem Ord.new (b : Int) : Ord (Mail.new 4 b) [] 0 := by
  refine ⟨rfl, new_ok 4 b, by simp, by simp, fun f t _ _ => ⟨[], rfl, by simp⟩, fun t ht => ?_⟩
  have := (new_ok 4 b).load t ht
  simp; omega
theorem Ord.put {s : Mail} {l : List ROp} {j : Nat} (h : Ord s l j) (kd : Int) {f t : Nat} (a : Int) (hf : f < 4) (ht : t < 4) : Ord (s.put f t a) (l ++ [⟨kd, f, t, a⟩]) (j + 1) := by
  have hn := h.n4
  refine ⟨hn, put_ok h.ok (by omega), by have := h.len; simp; omega, fun o ho => ?_, fun f' t' hf' ht' => ?_, fun t' ht' => ?_⟩
  · rcases List.mem_append.1 ho with ho | ho
    · exact h.inn o ho
    · rw [List.mem_singleton] at ho; subst ho; simp only; omega
  · obtain ⟨b, h1, h2⟩ := h.sub f' t' hf' ht'
    refine ⟨b, ?_, h2⟩
    rw [sentP_append, h1, put_held, sentP_one]
    by_cases e : f' = f ∧ t' = t
    · rw [if_pos (by simp only; omega), if_pos (by rw [e.1, e.2]), e.1, e.2, List.append_assoc]
    · rw [if_neg (by simp only; omega), if_neg (by intro q; apply e; simp only [Prod.mk.injEq] at q; omega), List.append_nil]
  · rw [put_load (by omega), h.load t' ht', List.countP_append, List.countP_cons]
    by_cases e : t' = t
    · rw [if_pos e, if_pos (by simp only [decide_eq_true_eq]; omega)]; simp
    · rw [if_neg e, if_neg (by simp only [decide_eq_true_eq]; omega)]; simp
theorem Ord.pass {s : Mail} {l : List ROp} {j : Nat} (h : Ord s l j) {f t : Nat} (hf : f < 4) (ht : t < 4) : Ord (s.pass f t) l j := by
  have hn := h.n4
  have hc := h.ok.clen
  refine ⟨hn, pass_ok' h.ok (by omega) (by omega), h.len, h.inn, fun f' t' hf' ht' => ?_, fun t' ht' => ?_⟩
  · obtain ⟨b, h1, h2⟩ := h.sub f' t' hf' ht'
    rw [pass_held, pass_row (by omega)]
    by_cases e : t = t'
    · subst e
      rw [if_pos rfl]
      by_cases e2 : f' = f
      · subst e2
        rw [if_pos rfl]
        exact ⟨b ++ s.held ((f' : Int), (t : Int)), by rw [h1, List.append_nil], h2.append (List.Sublist.refl _)⟩
      · rw [if_neg (by intro q; simp only [Prod.mk.injEq] at q; omega)]
        exact ⟨b, h1, h2.trans (List.sublist_append_left _ _)⟩
    · rw [if_neg e, if_neg (by intro q; simp only [Prod.mk.injEq] at q; omega)]
      exact ⟨b, h1, h2⟩
  · rw [pass_load (by omega) (by omega), h.load t' ht']
theorem Ord.post {s : Mail} {l : List ROp} {j : Nat} (h : Ord s l j) (kd : Int) {f t : Nat} (a : Int) (hf : f < 4) (ht : t < 4) : Ord (s.post f t a) (l ++ [⟨kd, f, t, a⟩]) (j + 1) := by
  unfold Mail.post
  split
  · exact (h.put kd a hf ht).pass hf ht
  · exact h.put kd a hf ht
theorem Ord.sendTo {s : Mail} {l : List ROp} {j : Nat} (h : Ord s l j) {f : Nat} (hf : f < 4) : ∀ k, k ≤ 4 → Ord (s.sendTo f k) l j ∧ ∀ f' t' : Nat, (s.sendTo f k).held ((f' : Int), (t' : Int)) = if f' = f ∧ t' < k then [] else s.held ((f' : Int), (t' : Int))
  | 0, _ => ⟨h, fun f' t' => by rw [if_neg (by omega)]; rfl⟩
  | k + 1, hk => by
    obtain ⟨h1, h2⟩ := h.sendTo hf k (by omega)
    refine ⟨h1.pass hf (by omega), fun f' t' => ?_⟩
    show ((s.sendTo f k).pass f k).held _ = _
    rw [pass_held]
    by_cases e : f' = f ∧ t' = k
    · rw [if_pos (by rw [e.1, e.2]), if_pos (by omega)]
    · rw [if_neg (by intro q; simp only [Prod.mk.injEq] at q; omega), h2 f' t']
      by_cases e2 : f' = f ∧ t' < k
      · rw [if_pos e2, if_pos (by omega)]
      · rw [if_neg e2, if_neg (by omega)]

/-- the first threads have sent all -/
structure OrdS (s : Mail) (l : List ROp) (k : Nat) : Prop where
  ord : Ord s l 40
  none : ∀ f t : Nat, f < k → t < 4 → s.held ((f : Int), (t : Int)) = []
theorem OrdS.send {s : Mail} {l : List ROp} {k : Nat} (h : OrdS s l k) (hk : k < 4) : OrdS (s.sendTo k s.n) l (k + 1) := by
  rw [h.ord.n4]
  obtain ⟨h1, h2⟩ := h.ord.sendTo hk 4 (Nat.le_refl _)
  refine ⟨h1, fun f t hf ht => ?_⟩
  rw [h2 f t]
  split
  · rfl
  · exact h.none f t (by omega) ht

/-- all is sent; the first threads have taken theirs -/
structure OrdT (s0 s : Mail) (l : List ROp) (k : Nat) : Prop where
  n4 : s.n = 4
  ok : s.Ok 40
  len : l.length ≤ 40
  inn : ∀ o ∈ l, (0 ≤ o.f ∧ o.f < 4) ∧ 0 ≤ o.t ∧ o.t < 4
  none : ∀ f t : Nat, f < 4 → t < 4 → s.held ((f : Int), (t : Int)) = []
  row : ∀ t : Nat, t < 4 → s.row t = if t < k then [] else s0.row t
  sub : ∀ f t : Nat, f < 4 → t < 4 → List.Sublist (sentP f t l) (s0.row t)
  cnt : ∀ t : Nat, t < 4 → (s0.row t).length = l.countP fun (o : ROp) => decide (o.t = (t : Int))
theorem OrdS.taken {s : Mail} {l : List ROp} (h : OrdS s l 4) : OrdT s s l 0 := by
  refine ⟨h.ord.n4, h.ord.ok, h.ord.len, h.ord.inn, h.none, fun t _ => by simp, fun f t hf ht => ?_, fun t ht => ?_⟩
  · obtain ⟨a, h1, h2⟩ := h.ord.sub f t hf ht
    rw [h1, h.none f t hf ht, List.append_nil]; exact h2
  · have h1 := h.ord.load t ht
    rw [← h1]
    unfold Mail.load
    rw [sumN_zero s.n fun i hi => by rw [h.none i t (by have := h.ord.n4; omega) ht]; rfl]
    rfl
/-- one thread takes: so many are taken -/
structure OrdU (s0 s : Mail) (l : List ROp) (k i : Nat) : Prop where
  n4 : s.n = 4
  ok : s.Ok 40
  len : l.length ≤ 40
  inn : ∀ o ∈ l, (0 ≤ o.f ∧ o.f < 4) ∧ 0 ≤ o.t ∧ o.t < 4
  none : ∀ f t : Nat, f < 4 → t < 4 → s.held ((f : Int), (t : Int)) = []
  row : ∀ t : Nat, t < 4 → s.row t = if t < k then [] else if t = k then (s0.row k).drop i else s0.row t
  sub : ∀ f t : Nat, f < 4 → t < 4 → List.Sublist (sentP f t l) (s0.row t)
  cnt : ∀ t : Nat, t < 4 → (s0.row t).length = l.countP fun (o : ROp) => decide (o.t = (t : Int))
theorem OrdT.begin {s0 s : Mail} {l : List ROp} {k : Nat} (h : OrdT s0 s l k) : OrdU s0 s l k 0 :=
  ⟨h.n4, h.ok, h.len, h.inn, h.none, fun t ht => by
    rw [h.row t ht]
    by_cases e : t = k
    · subst e; simp
    · rw [if_neg e], h.sub, h.cnt⟩
theorem OrdU.rlen {s0 s : Mail} {l : List ROp} {k i : Nat} (h : OrdU s0 s l k i) (hk : k < 4) : (s0.row k).length ≤ 40 := by
  rw [h.cnt k hk]; exact Nat.le_trans List.countP_le_length h.len
theorem OrdU.over {s0 s : Mail} {l : List ROp} {k i : Nat} (h : OrdU s0 s l k i) (hi : (s0.row k).length ≤ i) : OrdT s0 s l (k + 1) :=
  ⟨h.n4, h.ok, h.len, h.inn, h.none, fun t ht => by
    rw [h.row t ht]
    by_cases e : t < k
    · rw [if_pos e, if_pos (by omega)]
    · by_cases e2 : t = k
      · subst e2; rw [if_neg e, if_pos rfl, if_pos (by omega), List.drop_of_length_le hi]
      · rw [if_neg e, if_neg e2, if_neg (by omega)], h.sub, h.cnt⟩
theorem OrdU.cur {s0 s : Mail} {l : List ROp} {k i : Nat} (h : OrdU s0 s l k i) (hk : k < 4) : s.row k = (s0.row k).drop i := by
  rw [h.row k hk, if_neg (by omega), if_pos rfl]
theorem OrdU.idle {s0 s : Mail} {l : List ROp} {k i : Nat} (h : OrdU s0 s l k i) (hi : (s0.row k).length ≤ i) : OrdU s0 s l k (i + 1) :=
  ⟨h.n4, h.ok, h.len, h.inn, h.none, fun t ht => by
    rw [h.row t ht, List.drop_of_length_le hi, List.drop_of_length_le (by omega)], h.sub, h.cnt⟩
theorem OrdU.next {s0 s : Mail} {l : List ROp} {k i : Nat} (h : OrdU s0 s l k i) (hk : k < 4) (hi : i < (s0.row k).length) : OrdU s0 (s.next k) l k (i + 1) := by
  have hc := h.ok.clen
  have hn := h.n4
  have hcur := h.cur hk
  have hne : s.row k ≠ [] := by rw [hcur]; intro e; have := congrArg List.length e; simp at this; omega
  obtain ⟨h1, _, h3⟩ := next_ok h.ok (by omega) hne
  refine ⟨by rw [h3, hn], h1, h.len, h.inn, h.none, fun t ht => ?_, h.sub, h.cnt⟩
  rw [next_row (by omega), h.row t ht]
  by_cases e : k = t
  · subst e
    rw [if_pos rfl, if_neg (by omega), if_pos rfl, hcur, List.drop_drop]
  · rw [if_neg e, if_neg (show ¬ t = k by omega), if_neg (show ¬ t = k by omega)]
theorem OrdT.none_all {s0 s : Mail} {l : List ROp} (h : OrdT s0 s l 4) : s.allTo s.n = [] := by
  have h1 : ∀ f : Nat, f < 4 → ∀ k, k ≤ 4 → s.heldAll f k = [] := by
    intro f hf k
    induction k with
    | zero => intro _; rfl
    | succ k ih => intro hk; rw [Mail.heldAll, ih (by omega), h.none f k hf (by omega)]; rfl
  have h2 : ∀ k, k ≤ 4 → s.allTo k = [] := by
    intro k
    induction k with
    | zero => intro _; rfl
    | succ k ih => intro hk; rw [Mail.allTo, ih (by omega), h.row k (by omega), if_pos (by omega), h.n4, h1 k (by omega) 4 (Nat.le_refl _)]; rfl
  rw [h.n4]; exact h2 4 (Nat.le_refl _)

/-- how many are counted for one receiver: of the first senders, and of one among the first posts -/
def cntO (l : List ROp) (t f j : Nat) : Nat := (l.countP fun (o : ROp) => decide (o.t = (t : Int) ∧ o.f < (f : Int))) + ((l.take j).countP fun (o : ROp) => decide (o.t = (t : Int) ∧ o.f = (f : Int)))
theorem cntO_zero (l : List ROp) (t : Nat) (h : ∀ o ∈ l, 0 ≤ o.f) : cntO l t 0 0 = 0 := by
  simp only [cntO, List.take_zero, List.countP_nil, Nat.add_zero, List.countP_eq_zero, decide_eq_true_eq]
  intro o ho; have := h o ho; omega
theorem cntO_next (l : List ROp) (t f : Nat) : cntO l t f l.length = cntO l t (f + 1) 0 := by
  simp only [cntO, List.take_zero, List.countP_nil, Nat.add_zero, List.take_length]
  induction l with
  | nil => rfl
  | cons o r ih =>
    simp only [List.countP_cons, decide_eq_true_eq]
    have : ((if o.t = (t : Int) ∧ o.f < (f : Int) then 1 else 0) + if o.t = (t : Int) ∧ o.f = (f : Int) then 1 else 0) = (if o.t = (t : Int) ∧ o.f < ((f + 1 : Nat) : Int) then 1 else 0 : Nat) := by
      by_cases h1 : o.t = (t : Int)
      · by_cases h2 : o.f < (f : Int)
        · rw [if_pos ⟨h1, h2⟩, if_neg (by omega), if_pos (by omega)]
        · by_cases h3 : o.f = (f : Int)
          · rw [if_neg (by omega), if_pos ⟨h1, h3⟩, if_pos (by omega)]
          · rw [if_neg (by omega), if_neg (by omega), if_neg (by omega)]
      · rw [if_neg (by omega), if_neg (by omega), if_neg (by omega)]
    omega
theorem cntO_all (l : List ROp) (t : Nat) (h : ∀ o ∈ l, o.f < 4) : cntO l t 4 0 = l.countP fun (o : ROp) => decide (o.t = (t : Int)) := by
  simp only [cntO, List.take_zero, List.countP_nil, Nat.add_zero]
  apply List.countP_congr
  intro o ho; have := h o ho
  simp only [decide_eq_true_eq]; omega
theorem cntO_step {l : List ROp} {t f j : Nat} {o : ROp} (hj : l[j]? = some o) : cntO l t f (j + 1) = cntO l t f j + if o.t = (t : Int) ∧ o.f = (f : Int) then 1 else 0 := by
  obtain ⟨hlt, rfl⟩ := List.getElem?_eq_some_iff.1 hj
  unfold cntO
  rw [List.take_succ_eq_append_getElem hlt, List.countP_append, List.countP_singleton]
  simp only [decide_eq_true_eq]; omega
theorem cntO_le (l : List ROp) (t f j : Nat) : cntO l t f j ≤ 2 * l.length := by
  have h1 : (l.countP fun (o : ROp) => decide (o.t = (t : Int) ∧ o.f < (f : Int))) ≤ l.length := List.countP_le_length
  have h2 : ((l.take j).countP fun (o : ROp) => decide (o.t = (t : Int) ∧ o.f = (f : Int))) ≤ (l.take j).length := List.countP_le_length
  rw [List.length_take] at h2
  unfold cntO; omega
theorem sub_skip {a x : Int} {r g : List Int} (h : List.Sublist (a :: r) (x :: g)) (hne : x ≠ a) : List.Sublist (a :: r) g := by
  cases h with
  | cons _ h => exact h
  | cons_cons _ h => exact absurd rfl hne
theorem sub_take {a x : Int} {r g : List Int} (h : List.Sublist (a :: r) (x :: g)) : List.Sublist r g := by
  cases h with
  | cons _ h => exact (List.sublist_cons_self _ _).trans h
  | cons_cons _ h => exact h
end Go.Tum.Remote
