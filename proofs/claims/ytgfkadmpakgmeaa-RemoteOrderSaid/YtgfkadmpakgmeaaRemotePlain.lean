/-
  Layer 12, plainly: how many are under way; which order they come in.
-/
import Derived.Test.YtgfkadmpakgmeaaRemoteSpec
namespace Go.Tum.Remote
open Go Go.Tum

def sumN (g : Nat → Nat) : Nat → Nat
  | 0 => 0
  | k + 1 => sumN g k + g k
theorem sumN_congr {g g' : Nat → Nat} : ∀ (k : Nat), (∀ i, i < k → g i = g' i) → sumN g k = sumN g' k
  | 0, _ => rfl
  | k + 1, h => by simp only [sumN]; rw [sumN_congr k fun i hi => h i (by omega), h k (by omega)]
theorem sumN_one {g g' : Nat → Nat} {i : Nat} : ∀ (k : Nat), i < k → (∀ j, j < k → j ≠ i → g j = g' j) → sumN g k + g' i = sumN g' k + g i
  | 0, h, _ => by omega
  | k + 1, h, hj => by
    simp only [sumN]
    by_cases e : i = k
    · subst e
      rw [sumN_congr i fun j hjk => hj j (by omega) (by omega)]; omega
    · have := sumN_one (g := g) (g' := g') (i := i) k (by omega) fun j hjk hne => hj j (by omega) hne
      rw [hj k (by omega) (Ne.symm e)]; omega
theorem sumN_le {g : Nat → Nat} {i : Nat} : ∀ (k : Nat), i < k → g i ≤ sumN g k
  | 0, h => by omega
  | k + 1, h => by
    simp only [sumN]
    by_cases e : i = k
    · subst e; omega
    · have := sumN_le (g := g) k (i := i) (by omega); omega
theorem sumN_add (g h : Nat → Nat) : ∀ k, sumN (fun i => g i + h i) k = sumN g k + sumN h k
  | 0 => rfl
  | k + 1 => by simp only [sumN]; rw [sumN_add g h k]; omega

theorem heldTo_sum (s : Mail) (f : Int) : ∀ k, s.heldTo f k = sumN (fun t => (s.held (f, (t : Int))).length) k
  | 0 => rfl
  | k + 1 => by simp only [Mail.heldTo, sumN]; rw [heldTo_sum s f k]

/-- how many are under way to one thread -/
def Mail.load (s : Mail) (t : Nat) : Nat := (s.row t).length + sumN (fun f => (s.held ((f : Int), (t : Int))).length) s.n
/-- .. at all -/
def Mail.tot (s : Mail) : Nat := sumN (fun t => (s.row t).length) s.n + sumN (fun f => sumN (fun t => (s.held ((f : Int), (t : Int))).length) s.n) s.n

structure Mail.Ok (s : Mail) (j : Nat) : Prop where
  n64 : s.n ≤ 64
  clen : s.come.length = s.n
  load : ∀ t, t < s.n → s.load t ≤ j

theorem Mail.Ok.small {s : Mail} {j : Nat} (h : s.Ok j) (hj : j ≤ 1000000) : s.Small := by
  refine ⟨h.n64, fun f t hf ht => ?_⟩
  have h1 := h.load t ht
  unfold Mail.load at h1
  have h2 := sumN_le (g := fun f => (s.held ((f : Int), (t : Int))).length) s.n hf
  omega
theorem Mail.Ok.mono {s : Mail} {j j' : Nat} (h : s.Ok j) (hj : j ≤ j') : s.Ok j' := ⟨h.n64, h.clen, fun t ht => Nat.le_trans (h.load t ht) hj⟩

theorem new_row (a b : Int) (t : Nat) : (Mail.new a b).row t = [] := by
  unfold Mail.row Mail.new
  simp only [List.getD_eq_getElem?_getD, List.getElem?_replicate]
  split <;> rfl
theorem sumN_zero {g : Nat → Nat} : ∀ k, (∀ i, i < k → g i = 0) → sumN g k = 0
  | 0, _ => rfl
  | k + 1, h => by simp only [sumN]; rw [sumN_zero k fun i hi => h i (by omega), h k (by omega)]
theorem new_ok (a b : Int) : (Mail.new a b).Ok 0 := by
  refine ⟨by simp only [Mail.new]; omega, by simp [Mail.new], fun t _ => ?_⟩
  unfold Mail.load
  have e : sumN (fun f => ((Mail.new a b).held ((f : Int), (t : Int))).length) (Mail.new a b).n = 0 := sumN_zero _ fun i _ => rfl
  rw [new_row, e]; simp
theorem new_tot (a b : Int) : (Mail.new a b).tot = 0 := by
  unfold Mail.tot
  have e1 : sumN (fun t => ((Mail.new a b).row t).length) (Mail.new a b).n = 0 := sumN_zero _ fun i _ => by rw [new_row]; rfl
  have e2 : sumN (fun f => sumN (fun t => ((Mail.new a b).held ((f : Int), (t : Int))).length) (Mail.new a b).n) (Mail.new a b).n = 0 := sumN_zero _ fun i _ => sumN_zero _ fun j _ => rfl
  rw [e1, e2]

theorem put_held (s : Mail) (f t a : Int) (x : Int × Int) : (s.put f t a).held x = if x = (f, t) then s.held (f, t) ++ [a] else s.held x := rfl
theorem pass_held (s : Mail) (f t : Int) (x : Int × Int) : (s.pass f t).held x = if x = (f, t) then [] else s.held x := rfl
theorem pass_row {s : Mail} {f : Int} {t : Nat} (hl : t < s.come.length) (t' : Nat) : (s.pass f t).row t' = if t = t' then s.row t ++ s.held (f, (t : Int)) else s.row t' := by
  simp only [Mail.row, Mail.pass, Int.toNat_natCast, List.getD_eq_getElem?_getD]
  by_cases e : t = t'
  · subst e; rw [if_pos rfl, List.getElem?_set_self hl]; rfl
  · rw [if_neg e, List.getElem?_set_ne e]

theorem pair_ne {f f' t t' : Nat} (h : f' ≠ f ∨ t' ≠ t) : ((f' : Int), (t' : Int)) ≠ ((f : Int), (t : Int)) := by
  intro e; simp at e; omega

theorem put_load {s : Mail} {f t : Nat} {a : Int} (hf : f < s.n) (t' : Nat) : (s.put f t a).load t' = if t' = t then s.load t' + 1 else s.load t' := by
  unfold Mail.load
  show (s.row t').length + sumN (fun f' => ((s.put f t a).held ((f' : Int), (t' : Int))).length) s.n = _
  by_cases e : t' = t
  · subst e
    rw [if_pos rfl]
    have := sumN_one (g := fun f' => ((s.put f t' a).held ((f' : Int), (t' : Int))).length) (g' := fun f' => (s.held ((f' : Int), (t' : Int))).length) (i := f) s.n hf (fun j _ hne => by
      show ((s.put f t' a).held ((j : Int), (t' : Int))).length = _
      rw [put_held, if_neg (pair_ne (.inl hne))])
    simp only [put_held, if_pos, List.length_append, List.length_cons, List.length_nil] at this ⊢
    omega
  · rw [if_neg e]
    congr 1
    refine sumN_congr _ fun j _ => ?_
    rw [put_held, if_neg (pair_ne (.inr e))]

theorem pass_load {s : Mail} {f t : Nat} (hf : f < s.n) (hl : t < s.come.length) (t' : Nat) : (s.pass f t).load t' = s.load t' := by
  unfold Mail.load
  show ((s.pass f t).row t').length + sumN (fun f' => ((s.pass f t).held ((f' : Int), (t' : Int))).length) s.n = _
  rw [pass_row hl]
  by_cases e : t = t'
  · subst e
    rw [if_pos rfl, List.length_append]
    have := sumN_one (g := fun f' => ((s.pass f t).held ((f' : Int), (t : Int))).length) (g' := fun f' => (s.held ((f' : Int), (t : Int))).length) (i := f) s.n hf (fun j _ hne => by
      show ((s.pass f t).held ((j : Int), (t : Int))).length = _
      rw [pass_held, if_neg (pair_ne (.inl hne))])
    simp only [pass_held, if_pos, List.length_nil] at this ⊢
    omega
  · rw [if_neg e]
    congr 1
    refine sumN_congr _ fun j _ => ?_
    rw [pass_held, if_neg (pair_ne (.inr (Ne.symm e)))]

theorem put_tot {s : Mail} {f t : Nat} {a : Int} (hf : f < s.n) (ht : t < s.n) : (s.put f t a).tot = s.tot + 1 := by
  unfold Mail.tot
  show sumN (fun t => (s.row t).length) s.n + sumN (fun f' => sumN (fun t' => ((s.put f t a).held ((f' : Int), (t' : Int))).length) s.n) s.n = _
  have h1 := sumN_one (g := fun f' => sumN (fun t' => ((s.put f t a).held ((f' : Int), (t' : Int))).length) s.n) (g' := fun f' => sumN (fun t' => (s.held ((f' : Int), (t' : Int))).length) s.n) (i := f) s.n hf (fun j _ hne => sumN_congr _ fun i _ => by
    rw [put_held, if_neg (pair_ne (.inl hne))])
  have h2 := sumN_one (g := fun t' => ((s.put f t a).held ((f : Int), (t' : Int))).length) (g' := fun t' => (s.held ((f : Int), (t' : Int))).length) (i := t) s.n ht (fun j _ hne => by
    show ((s.put f t a).held ((f : Int), (j : Int))).length = _
    rw [put_held, if_neg (pair_ne (.inr hne))])
  simp only [put_held, if_pos, List.length_append, List.length_cons, List.length_nil] at h1 h2 ⊢
  omega

theorem pass_tot {s : Mail} {f t : Nat} (hf : f < s.n) (ht : t < s.n) (hl : s.come.length = s.n) : (s.pass f t).tot = s.tot := by
  unfold Mail.tot
  show sumN (fun t' => ((s.pass f t).row t').length) s.n + sumN (fun f' => sumN (fun t' => ((s.pass f t).held ((f' : Int), (t' : Int))).length) s.n) s.n = _
  have h0 := sumN_one (g := fun t' => ((s.pass f t).row t').length) (g' := fun t' => (s.row t').length) (i := t) s.n ht (fun j _ hne => by
    show ((s.pass f t).row j).length = _
    rw [pass_row (by omega), if_neg (Ne.symm hne)])
  have h1 := sumN_one (g := fun f' => sumN (fun t' => ((s.pass f t).held ((f' : Int), (t' : Int))).length) s.n) (g' := fun f' => sumN (fun t' => (s.held ((f' : Int), (t' : Int))).length) s.n) (i := f) s.n hf (fun j _ hne => sumN_congr _ fun i _ => by
    rw [pass_held, if_neg (pair_ne (.inl hne))])
  have h2 := sumN_one (g := fun t' => ((s.pass f t).held ((f : Int), (t' : Int))).length) (g' := fun t' => (s.held ((f : Int), (t' : Int))).length) (i := t) s.n ht (fun j _ hne => by
    show ((s.pass f t).held ((f : Int), (j : Int))).length = _
    rw [pass_held, if_neg (pair_ne (.inr hne))])
  have hr : ((s.pass f t).row t).length = (s.row t).length + (s.held ((f : Int), (t : Int))).length := by
    rw [pass_row (by omega), if_pos rfl, List.length_append]
  simp only [hr] at h0
  simp only [pass_held, if_pos, List.length_nil] at h1 h2 ⊢
  omega

theorem put_ok {s : Mail} {j f t : Nat} {a : Int} (h : s.Ok j) (hf : f < s.n) : (s.put f t a).Ok (j + 1) := by
  refine ⟨h.n64, h.clen, fun t' ht' => ?_⟩
  rw [put_load hf]
  have := h.load t' ht'
  split <;> omega
theorem pass_ok' {s : Mail} {j f t : Nat} (h : s.Ok j) (hf : f < s.n) (ht : t < s.n) : (s.pass f t).Ok j := by
  refine ⟨h.n64, by show (s.come.set _ _).length = s.n; simp [h.clen], fun t' ht' => ?_⟩
  rw [pass_load hf (by rw [h.clen]; exact ht)]
  exact h.load t' ht'
theorem post_ok {s : Mail} {j f t : Nat} {a : Int} (h : s.Ok j) (hf : f < s.n) (ht : t < s.n) : (s.post f t a).Ok (j + 1) ∧ (s.post f t a).tot = s.tot + 1 ∧ (s.post f t a).n = s.n := by
  unfold Mail.post
  split
  · exact ⟨pass_ok' (put_ok h hf) hf ht, by rw [pass_tot (s := s.put f t a) hf ht h.clen, put_tot hf ht], rfl⟩
  · exact ⟨put_ok h hf, put_tot hf ht, rfl⟩
theorem sendTo_ok {s : Mail} {j f : Nat} (h : s.Ok j) (hf : f < s.n) : ∀ k, k ≤ s.n → (s.sendTo f k).Ok j ∧ (s.sendTo f k).tot = s.tot ∧ (s.sendTo f k).n = s.n
  | 0, _ => ⟨h, rfl, rfl⟩
  | k + 1, hk => by
    obtain ⟨h1, h2, h3⟩ := sendTo_ok h hf k (by omega)
    exact ⟨pass_ok' h1 (by rw [h3]; exact hf) (by rw [h3]; omega), (pass_tot (by rw [h3]; exact hf) (by rw [h3]; omega) h1.clen).trans h2, h3⟩
theorem next_row {s : Mail} {t : Nat} (hl : t < s.come.length) (t' : Nat) : (s.next t).row t' = if t = t' then (s.row t).drop 1 else s.row t' := by
  simp only [Mail.row, Mail.next, Int.toNat_natCast, List.getD_eq_getElem?_getD]
  by_cases e : t = t'
  · subst e; rw [if_pos rfl, List.getElem?_set_self hl]; rfl
  · rw [if_neg e, List.getElem?_set_ne e]
theorem next_ok {s : Mail} {j t : Nat} (h : s.Ok j) (ht : t < s.n) (hr : s.row t ≠ []) : (s.next t).Ok j ∧ (s.next t).tot + 1 = s.tot ∧ (s.next t).n = s.n := by
  have hpos : 1 ≤ (s.row t).length := by cases hq : s.row t with | nil => exact absurd hq hr | cons x r => simp
  refine ⟨⟨h.n64, by show (s.come.set _ _).length = s.n; simp [h.clen], fun t' ht' => ?_⟩, ?_, rfl⟩
  · have := h.load t' ht'
    unfold Mail.load at *
    show ((s.next t).row t').length + sumN (fun f' => (s.held ((f' : Int), (t' : Int))).length) s.n ≤ j
    rw [next_row (by rw [h.clen]; exact ht)]
    split
    · rename_i e; subst e; rw [List.length_drop]; omega
    · exact this
  · unfold Mail.tot
    show sumN (fun t' => ((s.next t).row t').length) s.n + sumN (fun f' => sumN (fun t' => (s.held ((f' : Int), (t' : Int))).length) s.n) s.n + 1 = _
    have h0 := sumN_one (g := fun t' => ((s.next t).row t').length) (g' := fun t' => (s.row t').length) (i := t) s.n ht (fun j _ hne => by
      show ((s.next t).row j).length = _
      rw [next_row (by rw [h.clen]; exact ht), if_neg (Ne.symm hne)])
    have hr2 : ((s.next t).row t).length + 1 = (s.row t).length := by
      rw [next_row (by rw [h.clen]; exact ht), if_pos rfl, List.length_drop]; omega
    omega
theorem allTo_sum (s : Mail) : ∀ k, (s.allTo k).length = sumN (fun t => (s.row t).length) k + sumN (fun f => sumN (fun t => (s.held ((f : Int), (t : Int))).length) s.n) k
  | 0 => rfl
  | k + 1 => by
    simp only [Mail.allTo, List.length_append, sumN, heldAll_length, heldTo_sum]
    rw [allTo_sum s k]; omega
end Go.Tum.Remote
