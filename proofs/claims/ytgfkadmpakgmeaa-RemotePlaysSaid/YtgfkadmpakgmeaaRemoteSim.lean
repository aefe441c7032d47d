/-
  Layer 12: the mail's rows, and one list of all that is under way: the plain law.
-/
import Derived.Test.YtgfkadmpakgmeaaRemoteR2
import Derived.Test.YtgfkadmpakgmeaaRemotePlain
namespace Go.Proofs.Ytgfkadmpakgmeaa
open Go Go.Tum Go.Tum.Remote

/-! ### lists -/
theorem atsH_append (f t : Int) (a b : List It) : atsH f t (a ++ b) = atsH f t a ++ atsH f t b := by simp [atsH]
theorem atsC_append (t n : Int) (a b : List It) : atsC t n (a ++ b) = atsC t n a ++ atsC t n b := by simp [atsC]
theorem atsH_cons (f t : Int) (x : It) (l : List It) : atsH f t (x :: l) = (if x.fr = f ∧ x.to = t ∧ x.come = 0 then [x.at_] else []) ++ atsH f t l := by
  simp only [atsH, List.filter_cons, decide_eq_true_eq]
  split <;> rfl
theorem atsC_cons (t n : Int) (x : It) (l : List It) : atsC t n (x :: l) = (if x.to = t ∧ x.come = n then [x.at_] else []) ++ atsC t n l := by
  simp only [atsC, List.filter_cons, decide_eq_true_eq]
  split <;> rfl
theorem countP_isP (f t : Int) (l : List It) : l.countP (isP f t) = (atsH f t l).length := by
  rw [atsH, List.length_map, List.countP_eq_length_filter]; rfl
theorem countP_isHeld (f t : Int) (ht : 0 ≤ t) (l : List It) : l.countP (isHeld f t) = (atsH f t l).length := by
  rw [← countP_isP]
  congr 1
  funext x
  simp only [isHeld, isP, decide_eq_decide]
  omega
theorem comeTo_congr {m m' : RM} {t t' : Int} : ∀ k, (∀ i : Nat, i < k → atsC t (i + 1 : Nat) m.l = atsC t' (i + 1 : Nat) m'.l) → comeTo m t k = comeTo m' t' k
  | 0, _ => rfl
  | k + 1, h => by rw [comeTo, comeTo, comeTo_congr k fun i hi => h i (by omega), h k (by omega)]
theorem comeTo_add (m : RM) (t : Int) (a : Nat) : ∀ b, comeTo m t (a + b) = comeTo m t a ++ (List.range b).flatMap fun i => atsC t (a + i + 1 : Nat) m.l
  | 0 => by simp
  | b + 1 => by
    rw [← Nat.add_assoc, comeTo, comeTo_add m t a b, List.range_succ, List.flatMap_append, List.append_assoc]
    simp
theorem flat_get {α : Type} (xs : List α) : ((List.range xs.length).flatMap fun i => (xs[i]?).toList) = xs := by
  induction xs with
  | nil => rfl
  | cons x r ih =>
    rw [List.length_cons, List.range_succ_eq_map, List.flatMap_cons, List.flatMap_map]
    simpa using ih

/-! ### what is held has come -/
theorem passL_held (f t f' t' : Int) : ∀ (l : List It) (N : Int), 0 ≤ N → atsH f' t' (passL f t l N) = if f' = f ∧ t' = t then [] else atsH f' t' l
  | [], _, _ => by simp [passL, atsH]
  | x :: r, N, h => by
    by_cases hp : isP f t x = true
    · have hx : x.fr = f ∧ x.to = t ∧ x.come = 0 := by simpa [isP] using hp
      simp only [passL, hp, if_true]
      rw [atsH_cons, passL_held f t f' t' r (N + 1) (by omega), if_neg (by simp only; omega)]
      split
      · rfl
      · rw [atsH_cons, if_neg (by omega)]
    · have hx : ¬ (x.fr = f ∧ x.to = t ∧ x.come = 0) := by simpa [isP] using hp
      simp only [passL, hp]
      rw [if_neg (by simp), atsH_cons, passL_held f t f' t' r N h, atsH_cons]
      by_cases e : f' = f ∧ t' = t
      · rw [if_pos e, if_pos e, if_neg (by omega)]; rfl
      · rw [if_neg e, if_neg e]
theorem passL_old (f t t' : Int) {n : Int} : ∀ (l : List It) (N : Int), 0 < n → n ≤ N → atsC t' n (passL f t l N) = atsC t' n l
  | [], _, _, _ => rfl
  | x :: r, N, h0, h => by
    by_cases hp : isP f t x = true
    · have hx : x.fr = f ∧ x.to = t ∧ x.come = 0 := by simpa [isP] using hp
      simp only [passL, hp, if_true]
      rw [atsC_cons, passL_old f t t' r (N + 1) h0 (by omega), atsC_cons, if_neg (by simp only; omega), if_neg (by omega)]
    · simp only [passL, hp]
      rw [if_neg (by simp), atsC_cons, passL_old f t t' r N h0 h, atsC_cons]
theorem passL_new (f t t' : Int) : ∀ (l : List It) (N : Int) (i : Nat), 0 ≤ N → (∀ x ∈ l, x.come ≤ N) → atsC t' (N + i + 1) (passL f t l N) = if t' = t then ((atsH f t l)[i]?).toList else []
  | [], _, i, _, _ => by simp [passL, atsC, atsH]
  | x :: r, N, i, h, hc => by
    by_cases hp : isP f t x = true
    · have hx : x.fr = f ∧ x.to = t ∧ x.come = 0 := by simpa [isP] using hp
      simp only [passL, hp, if_true]
      rw [atsC_cons, atsH_cons, if_pos hx]
      cases i with
      | zero =>
        have hold : atsC t' (N + 1) (passL f t r (N + 1)) = [] := by
          rw [passL_old f t t' r (N + 1) (by omega) (by omega)]
          simp only [atsC, List.map_eq_nil_iff, List.filter_eq_nil_iff, decide_eq_true_eq]
          intro y hy e
          have := hc y (List.mem_cons_of_mem _ hy); omega
        simp only [Int.ofNat_zero, Int.add_zero, hx.2.1]
        rw [hold]
        by_cases e : t' = t
        · subst e; simp
        · rw [if_neg (by intro h; exact e h.1.symm), if_neg e]; rfl
      | succ i =>
        have := passL_new f t t' r (N + 1) i (by omega) (fun y hy => by have := hc y (List.mem_cons_of_mem _ hy); omega)
        rw [if_neg (by simp only; omega), show N + ((i + 1 : Nat) : Int) + 1 = N + 1 + i + 1 by omega, this]
        simp
    · have hx : ¬ (x.fr = f ∧ x.to = t ∧ x.come = 0) := by simpa [isP] using hp
      simp only [passL, hp]
      have hcx := hc x (List.mem_cons_self ..)
      rw [if_neg (by simp), atsC_cons, if_neg (by omega), passL_new f t t' r N i h (fun y hy => hc y (List.mem_cons_of_mem _ hy)), atsH_cons, if_neg hx]
      rfl

/-! ### both alike -/
structure Rel (s : Mail) (m : RM) (j : Nat) : Prop where
  n : m.n = s.n
  n64 : s.n ≤ 64
  bt : m.bt = s.bt
  clen : s.come.length = s.n
  N0 : 0 ≤ m.N
  held : ∀ f t : Nat, f < s.n → t < s.n → s.held ((f : Int), (t : Int)) = atsH f t m.l
  row : ∀ t : Nat, t < s.n → s.row t = comeTo m t m.N.toNat
  come : ∀ x ∈ m.l, 0 ≤ x.come ∧ x.come ≤ m.N
  inn : ∀ x ∈ m.l, (0 ≤ x.fr ∧ x.fr < s.n) ∧ (0 ≤ x.to ∧ x.to < s.n)
  uniq : ∀ (i k : Nat) (x y : It), m.l[i]? = some x → m.l[k]? = some y → x.come = y.come → 0 < x.come → i = k
  len : m.l.length ≤ j
  all : m.N + (m.l.countP fun x => decide (x.come = 0)) ≤ j

theorem Rel.new (threads batch : Int) : Rel (Mail.new threads batch) ⟨min (max threads 0) 64, min (max batch 1) 64, [], 0⟩ 0 := by
  refine ⟨by simp [Mail.new]; omega, by simp [Mail.new]; omega, by simp [Mail.new]; omega, by simp [Mail.new], by simp, fun f t _ _ => rfl, fun t _ => ?_, by simp, by simp, by simp, by simp, by simp⟩
  rw [new_row]; rfl

theorem comeTo_addR (m : RM) (f t a : Int) (t' : Int) : ∀ k, comeTo (addR m f t a) t' k = comeTo m t' k
  | k => comeTo_congr k fun i _ => by
    show atsC t' _ (m.l ++ [⟨f, t, a, 0⟩]) = _
    rw [atsC_append, atsC_cons, if_neg (by simp only; omega)]
    simp [atsC]
theorem get_append_one {α : Type} {l : List α} {a x : α} {i : Nat} (h : (l ++ [a])[i]? = some x) : l[i]? = some x ∨ (i = l.length ∧ x = a) := by
  rcases Nat.lt_or_ge i l.length with hi | hi
  · rw [List.getElem?_append_left hi] at h; exact .inl h
  · rw [List.getElem?_append_right hi] at h
    have : i - l.length = 0 := by
      have := (List.getElem?_eq_some_iff.1 h).1
      simp at this; omega
    rw [this] at h
    simp at h
    exact .inr ⟨by omega, h.symm⟩
theorem Rel.put {s : Mail} {m : RM} {j : Nat} (h : Rel s m j) {f t : Nat} (hf : f < s.n) (ht : t < s.n) (a : Int) : Rel (s.put f t a) (addR m f t a) (j + 1) := by
  refine ⟨h.n, h.n64, h.bt, h.clen, h.N0, fun f' t' hf' ht' => ?_, fun t' ht' => ?_, fun x hx => ?_, fun x hx => ?_, fun i k x y hx hy he hp => ?_, by simp [addR]; exact h.len, ?_⟩
  · show (s.put f t a).held _ = atsH f' t' (m.l ++ [⟨f, t, a, 0⟩])
    rw [put_held, atsH_append, atsH_cons, ← h.held f' t' hf' ht']
    by_cases e : f' = f ∧ t' = t
    · obtain ⟨rfl, rfl⟩ := e
      rw [if_pos rfl, if_pos ⟨rfl, rfl, rfl⟩]; simp [atsH]
    · rw [if_neg (by intro e2; apply e; simp only [Prod.mk.injEq] at e2; omega), if_neg (by simp only; omega)]; simp [atsH]
  · rw [comeTo_addR]; exact h.row t' ht'
  · rcases List.mem_append.1 hx with hx | hx
    · exact h.come x hx
    · rw [List.mem_singleton] at hx; subst hx; exact ⟨by simp, h.N0⟩
  · rcases List.mem_append.1 hx with hx | hx
    · exact h.inn x hx
    · rw [List.mem_singleton] at hx; subst hx
      exact ⟨⟨by simp only; omega, by simp only [Mail.put]; omega⟩, by simp only; omega, by simp only [Mail.put]; omega⟩
  · rcases get_append_one hx with hx | ⟨_, rfl⟩
    · rcases get_append_one hy with hy | ⟨_, rfl⟩
      · exact h.uniq i k x y hx hy he hp
      · simp only at he; omega
    · simp only at hp; omega
  · show m.N + (((m.l ++ [(⟨f, t, a, 0⟩ : It)]).countP fun x => decide (x.come = 0) : Nat) : Int) ≤ _
    rw [List.countP_append]
    have := h.all
    simp; omega

theorem passL_get (f t : Int) : ∀ (l : List It) (N : Int) (i : Nat) (y : It), (passL f t l N)[i]? = some y → ∃ x, l[i]? = some x ∧ y.fr = x.fr ∧ y.to = x.to ∧ y.at_ = x.at_ ∧ ((isP f t x = true ∧ y.come = N + (l.take i).countP (isP f t) + 1) ∨ (isP f t x = false ∧ y.come = x.come))
  | [], _, i, y, h => by simp [passL] at h
  | x :: r, N, i, y, h => by
    by_cases hp : isP f t x = true
    · simp only [passL, hp, if_true] at h
      cases i with
      | zero => simp at h; subst h; exact ⟨x, rfl, rfl, rfl, rfl, .inl ⟨hp, by simp⟩⟩
      | succ i =>
        simp only [List.getElem?_cons_succ] at h
        obtain ⟨x', h1, h2, h3, h4, h5⟩ := passL_get f t r (N + 1) i y h
        refine ⟨x', by simpa using h1, h2, h3, h4, ?_⟩
        rcases h5 with ⟨h5, h6⟩ | h5
        · refine .inl ⟨h5, ?_⟩
          rw [List.take_succ_cons, List.countP_cons_of_pos hp]; omega
        · exact .inr h5
    · simp only [passL, hp] at h
      rw [if_neg (by simp)] at h
      cases i with
      | zero => simp at h; subst h; exact ⟨x, rfl, rfl, rfl, rfl, .inr ⟨by simpa using hp, rfl⟩⟩
      | succ i =>
        simp only [List.getElem?_cons_succ] at h
        obtain ⟨x', h1, h2, h3, h4, h5⟩ := passL_get f t r N i y h
        refine ⟨x', by simpa using h1, h2, h3, h4, ?_⟩
        rcases h5 with ⟨h5, h6⟩ | h5
        · refine .inl ⟨h5, ?_⟩
          rw [List.take_succ_cons, List.countP_cons_of_neg hp]; exact h6
        · exact .inr h5
theorem count_zero (f t : Int) : ∀ (l : List It) (N : Int), 0 ≤ N → ((passL f t l N).countP fun x => decide (x.come = 0)) + l.countP (isP f t) = l.countP fun x => decide (x.come = 0)
  | [], _, _ => by simp [passL]
  | x :: r, N, h => by
    by_cases hp : isP f t x = true
    · have hx : x.fr = f ∧ x.to = t ∧ x.come = 0 := by simpa [isP] using hp
      have := count_zero f t r (N + 1) (by omega)
      simp only [passL, hp, if_true]
      rw [List.countP_cons_of_neg (by simp only [decide_eq_true_eq]; omega), List.countP_cons_of_pos hp, List.countP_cons_of_pos (by simp [hx.2.2])]
      omega
    · have := count_zero f t r N h
      simp only [passL, hp]
      rw [if_neg (by simp), List.countP_cons_of_neg hp]
      by_cases hz : x.come = 0
      · rw [List.countP_cons_of_pos (by simp [hz]), List.countP_cons_of_pos (by simp [hz])]; omega
      · rw [List.countP_cons_of_neg (by simp [hz]), List.countP_cons_of_neg (by simp [hz])]; omega
theorem take_count_lt (p : It → Bool) {l : List It} {i k : Nat} {x : It} (hx : l[i]? = some x) (hp : p x = true) (h : i < k) : (l.take i).countP p < (l.take k).countP p := by
  have h1 := take_count p hx
  rw [hp] at h1
  have h2 : (l.take (i + 1)).countP p ≤ (l.take k).countP p := by
    have e : l.take k = l.take (i + 1) ++ (l.drop (i + 1)).take (k - (i + 1)) := by
      rw [← List.take_add]; congr 1; omega
    rw [e, List.countP_append]; omega
  simp at h1; omega
theorem take_count_le (p : It → Bool) (l : List It) (i : Nat) : (l.take i).countP p ≤ l.countP p := by
  have e : l.countP p = (l.take i).countP p + (l.drop i).countP p := by rw [← List.countP_append, List.take_append_drop]
  omega
theorem Rel.pass {s : Mail} {m : RM} {j : Nat} (h : Rel s m j) {f t : Nat} (hf : f < s.n) (ht : t < s.n) : Rel (s.pass f t) (passR m f t) j := by
  have hN := h.N0
  have hc : m.l.countP (isP f t) = (s.held ((f : Int), (t : Int))).length := by rw [countP_isP, h.held f t hf ht]
  refine ⟨h.n, h.n64, h.bt, by simp [Mail.pass, h.clen], by simp only [passR]; omega, fun f' t' hf' ht' => ?_, fun t' ht' => ?_, fun y hy => ?_, fun y hy => ?_, fun i k y z hy hz he hp => ?_, by simp only [passR, passL_length]; exact h.len, ?_⟩
  · show (s.pass f t).held _ = atsH f' t' (passL f t m.l m.N)
    rw [pass_held, passL_held _ _ _ _ _ _ hN, ← h.held f' t' hf' ht']
    by_cases e : f' = f ∧ t' = t
    · rw [if_pos (by simp [e.1, e.2]), if_pos (by omega)]
    · rw [if_neg (by intro e2; apply e; simp only [Prod.mk.injEq] at e2; omega), if_neg (by omega)]
  · rw [pass_row (by rw [h.clen]; exact ht), h.row t' ht']
    have e1 : (passR m f t).N.toNat = m.N.toNat + (s.held ((f : Int), (t : Int))).length := by simp only [passR, hc]; omega
    rw [e1, comeTo_add]
    have hold : comeTo (passR m f t) t' m.N.toNat = comeTo m t' m.N.toNat := comeTo_congr _ fun i hi => passL_old f t t' m.l m.N (by omega) (by omega)
    have hnew : ∀ i : Nat, atsC t' ((m.N.toNat + i + 1 : Nat) : Int) (passR m f t).l = if (t' : Int) = t then ((s.held ((f : Int), (t : Int)))[i]?).toList else [] := fun i => by
      have := passL_new f t t' m.l m.N i hN (fun x hx => (h.come x hx).2)
      rw [← h.held f t hf ht] at this
      rw [← this]
      show atsC _ _ (passL f t m.l m.N) = _
      congr 1; omega
    rw [hold]
    simp only [hnew]
    by_cases e : t = t'
    · subst e
      rw [if_pos rfl, h.row t ht]
      simp only [if_true]
      rw [flat_get]
    · rw [if_neg e]
      have : ¬ (t' : Int) = t := by omega
      simp [this]
  · obtain ⟨i, hi⟩ := List.getElem?_of_mem hy
    obtain ⟨x, hx, _, _, _, h5⟩ := passL_get f t m.l m.N i y hi
    have hxc := h.come x (List.mem_of_getElem? hx)
    rcases h5 with ⟨h5, h6⟩ | ⟨_, h6⟩
    · have h7 := take_count_lt (isP f t) hx h5 (k := m.l.length) (List.getElem?_eq_some_iff.1 hx).1
      rw [List.take_length] at h7
      simp only [passR]; omega
    · simp only [passR]; omega
  · obtain ⟨i, hi⟩ := List.getElem?_of_mem hy
    obtain ⟨x, hx, h2, h3, _, _⟩ := passL_get f t m.l m.N i y hi
    have := h.inn x (List.mem_of_getElem? hx)
    rw [h2, h3]; exact this
  · obtain ⟨x, hx, _, _, _, h5⟩ := passL_get f t m.l m.N i y hy
    obtain ⟨x', hx', _, _, _, h5'⟩ := passL_get f t m.l m.N k z hz
    have c1 := h.come x (List.mem_of_getElem? hx)
    have c2 := h.come x' (List.mem_of_getElem? hx')
    rcases h5 with ⟨h5, h6⟩ | ⟨h5, h6⟩
    · rcases h5' with ⟨h5', h6'⟩ | ⟨h5', h6'⟩
      · rcases Nat.lt_trichotomy i k with hlt | heq | hgt
        · have := take_count_lt (isP f t) hx h5 hlt; omega
        · exact heq
        · have := take_count_lt (isP f t) hx' h5' hgt; omega
      · omega
    · rcases h5' with ⟨h5', h6'⟩ | ⟨h5', h6'⟩
      · omega
      · exact h.uniq i k x x' hx hx' (by omega) (by omega)
  · have h1 := h.all
    have h2 := count_zero f t m.l m.N hN
    simp only [passR]; omega
end Go.Proofs.Ytgfkadmpakgmeaa
