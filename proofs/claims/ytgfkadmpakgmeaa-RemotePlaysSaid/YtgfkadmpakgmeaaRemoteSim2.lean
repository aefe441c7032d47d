/-
  Layer 12: the plain law: post, send, next, and what is told.
-/
import Derived.Test.YtgfkadmpakgmeaaRemoteSim
namespace Go.Proofs.Ytgfkadmpakgmeaa
open Go Go.Tum Go.Tum.Remote

theorem Rel.post {s : Mail} {m : RM} {j : Nat} (h : Rel s m j) {f t : Nat} (hf : f < s.n) (ht : t < s.n) (hft : f ≠ t) (a : Int) : Rel (s.post f t a) (postR m f t a) (j + 1) := by
  have hp : postB m f t := by refine ⟨⟨by omega, ?_⟩, ⟨by omega, ?_⟩, by omega⟩ <;> rw [h.n] <;> omega
  have h1 := h.put hf ht a
  have hc : (addR m f t a).l.countP (isHeld f t) = ((s.put f t a).held ((f : Int), (t : Int))).length := by rw [countP_isHeld _ _ (by omega), h1.held f t hf ht]
  rw [Mail.post, postR, if_pos hp, hc]
  by_cases e : s.bt ≤ ((s.put f t a).held ((f : Int), (t : Int))).length
  · rw [if_pos e, if_pos (by rw [h.bt]; omega)]
    exact h1.pass hf ht
  · rw [if_neg e, if_neg (by rw [h.bt]; omega)]
    exact h1

theorem Rel.send {s : Mail} {m : RM} {j : Nat} (h : Rel s m j) {f : Nat} (hf : f < s.n) : ∀ k, k ≤ s.n → Rel (s.sendTo f k) (sendR m f k) j ∧ sendC m f k = s.heldTo f k
  | 0, _ => ⟨h, rfl⟩
  | k + 1, hk => by
    obtain ⟨h1, h2⟩ := h.send hf k (by omega)
    have hn := (sendTo_n s f k).1
    refine ⟨h1.pass (by rw [hn]; exact hf) (by rw [hn]; omega), ?_⟩
    rw [sendC, h2, Mail.heldTo, countP_isP, ← h1.held f k (by rw [hn]; exact hf) (by rw [hn]; omega), sendTo_held, if_neg (by simp)]
theorem passR_none {m : RM} {f t : Int} (h : ∀ x ∈ m.l, x.fr ≠ f) : passR m f t = m ∧ m.l.countP (isP f t) = 0 := by
  have hc : m.l.countP (isP f t) = 0 := by
    rw [List.countP_eq_zero]
    intro x hx
    simp only [isP, decide_eq_true_eq]
    intro e; exact h x hx e.1
  have hl : ∀ (l : List It) (N : Int), (∀ x ∈ l, x.fr ≠ f) → passL f t l N = l := by
    intro l
    induction l with
    | nil => intro N _; rfl
    | cons x r ih =>
      intro N hh
      have : isP f t x = false := by
        simp only [isP, decide_eq_false_iff_not]
        intro e; exact hh x (List.mem_cons_self ..) e.1
      simp only [passL, this]
      rw [if_neg (by simp), ih N fun y hy => hh y (List.mem_cons_of_mem _ hy)]
  refine ⟨?_, hc⟩
  obtain ⟨n, bt, l, N⟩ := m
  simp only [passR] at *
  rw [hl l N h, hc]; simp
theorem send_none {m : RM} {f : Int} (h : ∀ x ∈ m.l, x.fr ≠ f) : ∀ k, sendR m f k = m ∧ sendC m f k = 0
  | 0 => ⟨rfl, rfl⟩
  | k + 1 => by
    obtain ⟨h1, h2⟩ := send_none h k
    rw [sendR, sendC, h1, h2]
    obtain ⟨h3, h4⟩ := passR_none (t := (k : Int)) h
    exact ⟨h3, by rw [h4]⟩

/-! ### the first one that has come -/
theorem fst_spec (t : Int) (l : List It) : ∀ k, k ≤ l.length → (fstAt t l k = -1 ∧ ∀ (i : Nat) (x : It), i < k → l[i]? = some x → ¬ (x.to = t ∧ 0 < x.come)) ∨
    ∃ (i : Nat) (y : It), fstAt t l k = (i : Int) ∧ i < k ∧ l[i]? = some y ∧ y.to = t ∧ 0 < y.come ∧ ∀ (i' : Nat) (x : It), i' < k → l[i']? = some x → x.to = t → 0 < x.come → y.come ≤ x.come
  | 0, _ => .inl ⟨rfl, fun i x hi => by omega⟩
  | k + 1, h => by
    obtain ⟨x, hx⟩ : ∃ x, l[k]? = some x := ⟨_, List.getElem?_eq_getElem (by omega)⟩
    have last : ∀ (i : Nat) (z : It), i < k + 1 → l[i]? = some z → (i < k ∧ l[i]? = some z) ∨ (i = k ∧ z = x) := fun i z hi hz => by
      by_cases e : i = k
      · subst e; rw [hx] at hz; cases hz; exact .inr ⟨rfl, rfl⟩
      · exact .inl ⟨by omega, hz⟩
    rcases fst_spec t l k (by omega) with ⟨h1, h2⟩ | ⟨i, y, h1, h2, h3, h4, h5, h6⟩
    · have e : fstAt t l (k + 1) = if x.to = t ∧ x.come > 0 then (k : Int) else -1 := by simp [fstAt, hx, h1]
      by_cases hc : x.to = t ∧ x.come > 0
      · rw [e, if_pos hc]
        refine .inr ⟨k, x, rfl, by omega, hx, hc.1, hc.2, fun i' z hi' hz ht hp => ?_⟩
        rcases last i' z hi' hz with ⟨h7, h8⟩ | ⟨_, rfl⟩
        · exact absurd ⟨ht, hp⟩ (h2 i' z h7 h8)
        · omega
      · rw [e, if_neg hc]
        refine .inl ⟨rfl, fun i' z hi' hz => ?_⟩
        rcases last i' z hi' hz with ⟨h7, h8⟩ | ⟨_, rfl⟩
        · exact h2 i' z h7 h8
        · exact hc
    · have e : fstAt t l (k + 1) = if x.to = t ∧ x.come > 0 ∧ x.come < y.come then (k : Int) else (i : Int) := by
        simp only [fstAt, hx, h1, Int.toNat_natCast, List.getD_eq_getElem?_getD, h3, Option.getD_some]
        have : ¬ ((i : Int) < 0) := by omega
        simp only [this, false_or]
      by_cases hc : x.to = t ∧ x.come > 0 ∧ x.come < y.come
      · rw [e, if_pos hc]
        refine .inr ⟨k, x, rfl, by omega, hx, hc.1, hc.2.1, fun i' z hi' hz ht hp => ?_⟩
        rcases last i' z hi' hz with ⟨h7, h8⟩ | ⟨_, rfl⟩
        · have := h6 i' z h7 h8 ht hp; omega
        · omega
      · rw [e, if_neg hc]
        refine .inr ⟨i, y, rfl, by omega, h3, h4, h5, fun i' z hi' hz ht hp => ?_⟩
        rcases last i' z hi' hz with ⟨h7, h8⟩ | ⟨_, rfl⟩
        · exact h6 i' z h7 h8 ht hp
        · apply Classical.byContradiction; intro h9; exact hc ⟨ht, hp, by omega⟩

theorem atsC_nil {t n : Int} {l : List It} (h : ∀ x ∈ l, ¬ (x.to = t ∧ x.come = n)) : atsC t n l = [] := by
  simp only [atsC, List.map_eq_nil_iff, List.filter_eq_nil_iff, decide_eq_true_eq]
  exact h
theorem comeTo_nil {m : RM} {t : Int} : ∀ k, (∀ i : Nat, i < k → atsC t (i + 1 : Nat) m.l = []) → comeTo m t k = []
  | 0, _ => rfl
  | k + 1, h => by rw [comeTo, comeTo_nil k fun i hi => h i (by omega), h k (by omega)]; rfl

section
variable {s : Mail} {m : RM} {j : Nat}
theorem Rel.none (h : Rel s m j) {t : Nat} (ht : t < s.n) (hf : fstAt t m.l m.l.length < 0) : s.row t = [] := by
  rw [h.row t ht]
  rcases fst_spec t m.l m.l.length (Nat.le_refl _) with ⟨_, h2⟩ | ⟨i, y, h1, _⟩
  · refine comeTo_nil _ fun i _ => atsC_nil fun x hx e => ?_
    obtain ⟨k, hk⟩ := List.getElem?_of_mem hx
    exact h2 k x (List.getElem?_eq_some_iff.1 hk).1 hk ⟨e.1, by omega⟩
  · omega
theorem Rel.next (h : Rel s m j) {t : Nat} (ht : t < s.n) (hf : ¬ fstAt t m.l m.l.length < 0) :
    s.row t = nextA m t :: (s.row t).drop 1 ∧ Rel (s.next t) (nextR m t) j := by
  obtain ⟨i, y, h1, h2, h3, h4, h5, h6⟩ : ∃ (i : Nat) (y : It), fstAt t m.l m.l.length = (i : Int) ∧ i < m.l.length ∧ m.l[i]? = some y ∧ y.to = t ∧ 0 < y.come ∧ ∀ (i' : Nat) (x : It), i' < m.l.length → m.l[i']? = some x → x.to = t → 0 < x.come → y.come ≤ x.come := by
    rcases fst_spec t m.l m.l.length (Nat.le_refl _) with ⟨h1, _⟩ | h1
    · omega
    · exact h1
  have eA : nextA m t = y.at_ := by rw [nextA, if_neg hf, h1]; simp [h3]
  have eR : nextR m t = { m with l := m.l.eraseIdx i } := by rw [nextR, if_neg hf, h1]; rfl
  have hyN := (h.come y (List.mem_of_getElem? h3)).2
  have hlt := (List.getElem?_eq_some_iff.1 h3).1
  have hyi : m.l[i] = y := by rw [List.getElem?_eq_getElem hlt] at h3; exact Option.some.inj h3
  have split : m.l = m.l.take i ++ y :: m.l.drop (i + 1) := by rw [← hyi, ← List.drop_eq_getElem_cons hlt, List.take_append_drop]
  have hers : m.l.eraseIdx i = m.l.take i ++ m.l.drop (i + 1) := List.eraseIdx_eq_take_drop_succ ..
  have other : ∀ (t' n : Int), ¬ (y.to = t' ∧ y.come = n) → atsC t' n (m.l.eraseIdx i) = atsC t' n m.l := fun t' n hn => by
    rw [hers]
    conv => rhs; rw [split]
    rw [atsC_append, atsC_append, atsC_cons, if_neg hn]; rfl
  have gone : ∀ x ∈ m.l.eraseIdx i, x.come ≠ y.come := fun x hx e => by
    rw [hers] at hx
    rcases List.mem_append.1 hx with hx | hx
    · obtain ⟨k, hk⟩ := List.getElem?_of_mem hx
      have hki : k < i := by have := (List.getElem?_eq_some_iff.1 hk).1; simp at this; omega
      rw [List.getElem?_take, if_pos hki] at hk
      have := h.uniq k i x y hk h3 e (by omega)
      omega
    · obtain ⟨k, hk⟩ := List.getElem?_of_mem hx
      rw [List.getElem?_drop] at hk
      have := h.uniq _ i x y hk h3 e (by omega)
      omega
  have hit : atsC t y.come m.l = [y.at_] := by
    conv => lhs; rw [split]
    have h7 : atsC t y.come (m.l.take i) = [] := atsC_nil fun x hx e => gone x (by rw [hers]; exact List.mem_append_left _ hx) e.2
    have h8 : atsC t y.come (m.l.drop (i + 1)) = [] := atsC_nil fun x hx e => gone x (by rw [hers]; exact List.mem_append_right _ hx) e.2
    rw [atsC_append, atsC_cons, if_pos ⟨h4, rfl⟩, h7, h8]; rfl
  have hit' : atsC t y.come (m.l.eraseIdx i) = [] := atsC_nil fun x hx e => gone x hx e.2
  obtain ⟨c, hc⟩ : ∃ c : Nat, y.come = (c + 1 : Nat) := ⟨y.come.toNat - 1, by omega⟩
  obtain ⟨b, hb⟩ : ∃ b : Nat, m.N.toNat = c + (b + 1) := ⟨m.N.toNat - c - 1, by omega⟩
  have low : ∀ q : Nat, q < c → atsC t (q + 1 : Nat) m.l = [] := fun q hq => atsC_nil fun x hx e => by
    obtain ⟨k, hk⟩ := List.getElem?_of_mem hx
    have := h6 k x (List.getElem?_eq_some_iff.1 hk).1 hk e.1 (by omega)
    omega
  have rest : ∀ q : Nat, atsC t (c + (q + 1) + 1 : Nat) (m.l.eraseIdx i) = atsC t (c + (q + 1) + 1 : Nat) m.l := fun q => other _ _ (by omega)
  have e1 : comeTo m t m.N.toNat = y.at_ :: (List.range b).flatMap fun q => atsC t (c + (q + 1) + 1 : Nat) m.l := by
    rw [hb, comeTo_add, comeTo_nil c low, List.range_succ_eq_map, List.flatMap_cons, List.flatMap_map]
    rw [show ((c + 0 + 1 : Nat) : Int) = y.come by rw [hc], hit]; rfl
  have e2 : comeTo { m with l := m.l.eraseIdx i } t m.N.toNat = (List.range b).flatMap fun q => atsC t (c + (q + 1) + 1 : Nat) m.l := by
    rw [hb, comeTo_add, comeTo_nil c (fun q hq => by show atsC _ _ (m.l.eraseIdx i) = _; rw [other _ _ (by omega)]; exact low q hq), List.range_succ_eq_map, List.flatMap_cons, List.flatMap_map]
    show [] ++ (atsC t ((c + 0 + 1 : Nat) : Int) (m.l.eraseIdx i) ++ _) = _
    rw [show ((c + 0 + 1 : Nat) : Int) = y.come by rw [hc], hit']
    simp only [List.nil_append]
    congr 1
    funext q
    exact rest q
  have hrow : s.row t = y.at_ :: (List.range b).flatMap fun q => atsC t (c + (q + 1) + 1 : Nat) m.l := by rw [h.row t ht, e1]
  have hmem : ∀ x ∈ m.l.eraseIdx i, x ∈ m.l := fun x hx => List.mem_of_mem_eraseIdx hx
  refine ⟨by rw [eA, hrow]; rfl, ?_⟩
  rw [eR]
  refine ⟨h.n, h.n64, h.bt, by simp [Mail.next, h.clen], h.N0, fun f' t' hf' ht' => ?_, fun t' ht' => ?_, fun x hx => h.come x (hmem x hx), fun x hx => h.inn x (hmem x hx), fun a k x z hx hz he hp => ?_, ?_, ?_⟩
  · show s.held _ = atsH f' t' (m.l.eraseIdx i)
    rw [h.held f' t' hf' ht', hers]
    conv => lhs; rw [split]
    rw [atsH_append, atsH_append, atsH_cons, if_neg (by omega)]; rfl
  · rw [next_row (by rw [h.clen]; exact ht)]
    by_cases e : t = t'
    · subst e
      rw [if_pos rfl]
      show _ = comeTo { m with l := m.l.eraseIdx i } t m.N.toNat
      rw [e2, hrow]; rfl
    · rw [if_neg e, h.row t' ht']
      exact (comeTo_congr _ fun q _ => other _ _ (by omega)).symm
  · have g : ∀ (a : Nat) (x : It), (m.l.eraseIdx i)[a]? = some x → m.l[if a < i then a else a + 1]? = some x := fun a x hx => by
      rw [List.getElem?_eraseIdx] at hx
      split at hx <;> rename_i ha
      · rw [if_pos ha]; exact hx
      · rw [if_neg ha]; exact hx
    have := h.uniq _ _ x z (g a x hx) (g k z hz) he hp
    split at this <;> split at this <;> omega
  · simp only [List.length_eraseIdx]
    have := h.len
    split <;> omega
  · have := h.all
    have h9 : ((m.l.eraseIdx i).countP fun x => decide (x.come = 0)) ≤ m.l.countP fun x => decide (x.come = 0) := (List.eraseIdx_sublist ..).countP_le
    show m.N + (((m.l.eraseIdx i).countP fun x => decide (x.come = 0) : Nat) : Int) ≤ _
    omega

/-! ### what is told -/
theorem come_count (m : RM) (t : Int) : ∀ k : Nat, (comeTo m t k).length = m.l.countP fun x => decide (x.to = t ∧ 0 < x.come ∧ x.come ≤ (k : Int))
  | 0 => by
    rw [comeTo, List.length_nil, eq_comm, List.countP_eq_zero]
    intro x _; simp only [decide_eq_true_eq]; omega
  | k + 1 => by
    rw [comeTo, List.length_append, come_count m t k, atsC, List.length_map, ← List.countP_eq_length_filter]
    generalize m.l = l
    induction l with
    | nil => rfl
    | cons x r ih =>
      simp only [List.countP_cons]
      have e : (if decide (x.to = t ∧ 0 < x.come ∧ x.come ≤ ((k + 1 : Nat) : Int)) = true then 1 else 0) = (if decide (x.to = t ∧ 0 < x.come ∧ x.come ≤ (k : Int)) = true then 1 else 0) + (if decide (x.to = t ∧ x.come = ((k + 1 : Nat) : Int)) = true then 1 else 0) := by
        simp only [decide_eq_true_eq]
        split <;> split <;> split <;> omega
      omega
theorem Rel.waits (h : Rel s m j) (t : Int) : m.l.countP (hasCome t) = s.waits t := by
  have e : ∀ p : It → Bool, (∀ x ∈ m.l, p x = decide (x.to = t ∧ 0 < x.come ∧ x.come ≤ (m.N.toNat : Int))) → m.l.countP p = m.l.countP fun x => decide (x.to = t ∧ 0 < x.come ∧ x.come ≤ (m.N.toNat : Int)) := fun p hp => List.countP_congr fun x hx => by rw [hp x hx]
  rw [e (hasCome t) fun x hx => by
    have := h.come x hx; have := h.N0
    simp only [hasCome, decide_eq_decide]; omega, ← come_count, Mail.waits]
  by_cases ht : 0 ≤ t ∧ t < s.n
  · obtain ⟨u, rfl⟩ := Int.eq_ofNat_of_zero_le ht.1
    rw [if_pos ht, Int.toNat_natCast, h.row u (by omega)]
  · rw [if_neg ht, come_count, List.countP_eq_zero]
    intro x hx
    have := (h.inn x hx).2
    simp only [decide_eq_true_eq]; omega
theorem held_count (l : List It) (f : Int) : ∀ k : Nat, (List.range k).foldl (fun n (t : Nat) => n + (atsH f t l).length) 0 = l.countP fun x => decide (x.fr = f ∧ x.come = 0 ∧ 0 ≤ x.to ∧ x.to < (k : Int))
  | 0 => by
    rw [List.range_zero, List.foldl_nil, eq_comm, List.countP_eq_zero]
    intro x _; simp only [decide_eq_true_eq]; omega
  | k + 1 => by
    rw [List.range_succ, List.foldl_append, held_count l f k, List.foldl_cons, List.foldl_nil, ← countP_isP]
    induction l with
    | nil => rfl
    | cons x r ih =>
      simp only [List.countP_cons]
      have e : (if decide (x.fr = f ∧ x.come = 0 ∧ 0 ≤ x.to ∧ x.to < ((k + 1 : Nat) : Int)) = true then 1 else 0) = (if decide (x.fr = f ∧ x.come = 0 ∧ 0 ≤ x.to ∧ x.to < (k : Int)) = true then 1 else 0) + (if isP f k x = true then 1 else 0) := by
        simp only [decide_eq_true_eq, isP]
        split <;> split <;> split <;> omega
      omega
theorem Rel.heldTo (h : Rel s m j) {f : Nat} (hf : f < s.n) : ∀ k, k ≤ s.n → s.heldTo f k = (List.range k).foldl (fun n (t : Nat) => n + (atsH f t m.l).length) 0
  | 0, _ => rfl
  | k + 1, hk => by rw [List.range_succ, List.foldl_append, ← h.heldTo hf k (by omega), List.foldl_cons, List.foldl_nil, Mail.heldTo, h.held f k hf (by omega)]
theorem Rel.heldN (h : Rel s m j) (f : Int) : m.l.countP (isHeld f (-1)) = s.heldN f := by
  rw [Mail.heldN]
  by_cases hf : 0 ≤ f ∧ f < s.n
  · obtain ⟨u, rfl⟩ := Int.eq_ofNat_of_zero_le hf.1
    rw [if_pos hf, h.heldTo (by omega) s.n (Nat.le_refl _), held_count]
    refine List.countP_congr fun x hx => ?_
    have := (h.inn x hx).2
    simp only [isHeld, decide_eq_true_eq]; omega
  · rw [if_neg hf, List.countP_eq_zero]
    intro x hx
    have := (h.inn x hx).1
    simp only [isHeld, decide_eq_true_eq]; omega
theorem Rel.heldAll (h : Rel s m j) {f : Nat} (hf : f < s.n) : ∀ k, k ≤ s.n → s.heldAll f k = heldToR m f k
  | 0, _ => rfl
  | k + 1, hk => by rw [Mail.heldAll, heldToR, h.heldAll hf k (by omega), h.held f k hf (by omega)]
theorem Rel.allTo (h : Rel s m j) : ∀ k, k ≤ s.n → s.allTo k = allR m s.n m.N.toNat k
  | 0, _ => rfl
  | k + 1, hk => by rw [Mail.allTo, allR, h.allTo k (by omega), h.row k (by omega), h.heldAll (by omega) s.n (Nat.le_refl _), List.append_assoc]
end
end Go.Proofs.Ytgfkadmpakgmeaa
