/-
  A call's blocks among those of its caller: taken out by names of their own, put back behind the call; blocks that nobody needs any more are let go.
-/
import Derived.Test.YtnleiiniajinbaaRunIter
namespace Go.Tum
open Go

/-! ### the other way: names of the part are names of the whole -/
section
variable {E E' : Emb} {N : Nat} {φ : List Nat}

def Into (E E' : Emb) (N : Nat) (φ : List Nat) : Prop := ∀ (b : Nat) (r : Nat × Nat × Nat), E[b]? = some r → E'[rn N φ b]? = some r

theorem S0.into (h : Into E E' N φ) {v v' : Value} (k : S0 E v v') : S0 E' (rn0 N φ v) v' := by
  cases v <;> first | exact k | skip
  case pointer a =>
    cases a with
    | none => exact k
    | some a => obtain ⟨a', h1, h2, r, h3, h4⟩ := k; exact ⟨a', h1, h2, r, h _ _ h3, h4⟩
  case slice a n c =>
    cases a with
    | none => exact k
    | some a => obtain ⟨h1, r, h2, h3⟩ := k; exact ⟨h1, r, h _ _ h2, h3⟩
  case map a =>
    cases a with
    | none => exact k
    | some a => obtain ⟨r, h1, h2⟩ := k; exact ⟨r, h _ _ h1, h2⟩
theorem L2.into {R S : Value → Value → Prop} {f : Value → Value} (h : ∀ v v', R v v' → S (f v) v') : ∀ {x y : List Value}, L2 R x y → L2 S (x.map f) y
  | [], [], _ => trivial
  | _ :: _, _ :: _, k => ⟨h _ _ k.1, L2.into h k.2⟩
  | [], _ :: _, k => k.elim
  | _ :: _, [], k => k.elim
theorem SR.into (h : Into E E' N φ) {v v' : Value} (k : SR E v v') : SR E' (rnS N φ v) v' := by
  cases v <;> first | exact k | skip
  case pointer a => (cases a with | none => exact S0.into (φ := φ) h (v := .pointer none) k | some a => exact S0.into (φ := φ) h (v := .pointer (some a)) k)
  case slice a n c => (cases a with | none => exact S0.into (φ := φ) h (v := .slice none n c) k | some a => exact S0.into (φ := φ) h (v := .slice (some a) n c) k)
  case map a => (cases a with | none => exact S0.into (φ := φ) h (v := .map none) k | some a => exact S0.into (φ := φ) h (v := .map (some a)) k)
  case func f a c =>
    obtain ⟨a⟩ := a
    obtain ⟨c⟩ := c
    obtain ⟨a', c', h1, h2, h3⟩ := k
    exact ⟨a', c', h1, L2.into (f := rn0 N φ) (fun _ _ k => S0.into h k) h2, L2.into (f := rn0 N φ) (fun _ _ k => S0.into h k) h3⟩
theorem V1.into (h : Into E E' N φ) {v v' : Value} (k : V1 E v v') : V1 E' (rn1 N φ v) v' := by
  cases v <;> first | exact k | skip
  case pointer a => (cases a with | none => exact SR.into (φ := φ) h (v := .pointer none) k | some a => exact SR.into (φ := φ) h (v := .pointer (some a)) k)
  case slice a n c => (cases a with | none => exact SR.into (φ := φ) h (v := .slice none n c) k | some a => exact SR.into (φ := φ) h (v := .slice (some a) n c) k)
  case map a => (cases a with | none => exact SR.into (φ := φ) h (v := .map none) k | some a => exact SR.into (φ := φ) h (v := .map (some a)) k)
  case func f a c => exact SR.into h (v := .func f a c) k
  case agg cs => obtain ⟨cs⟩ := cs; obtain ⟨cs', h1, h2⟩ := k; exact ⟨cs', h1, L2.into (f := rnS N φ) (fun _ _ k => SR.into h k) h2⟩
theorem VR.into (h : Into E E' N φ) {v v' : Value} (k : VR E v v') : VR E' (rnV N φ v) v' := by
  cases v <;> first | exact k | skip
  case pointer a => (cases a with | none => exact V1.into (φ := φ) h (v := .pointer none) k | some a => exact V1.into (φ := φ) h (v := .pointer (some a)) k)
  case slice a n c => (cases a with | none => exact V1.into (φ := φ) h (v := .slice none n c) k | some a => exact V1.into (φ := φ) h (v := .slice (some a) n c) k)
  case map a => (cases a with | none => exact V1.into (φ := φ) h (v := .map none) k | some a => exact V1.into (φ := φ) h (v := .map (some a)) k)
  case func f a c => exact V1.into h (v := .func f a c) k
  case agg cs => exact V1.into h (v := .agg cs) k
  case tuple cs => obtain ⟨cs⟩ := cs; obtain ⟨cs', h1, h2⟩ := k; exact ⟨cs', h1, L2.into (f := rn1 N φ) (fun _ _ k => V1.into h k) h2⟩
theorem M2.into (h : Into E E' N φ) : ∀ {m : List (Value × Value × Nat)} {es : List MapEntry}, M2 E m es → M2 E' (m.map fun x => (rn1 N φ x.1, rn1 N φ x.2.1, x.2.2)) es
  | [], [], _ => trivial
  | _ :: _, _ :: _, k => ⟨⟨k.1.1.into h, k.1.2.1.into h, k.1.2.2⟩, M2.into h k.2⟩
  | [], _ :: _, k => k.elim
  | _ :: _, [], k => k.elim
theorem LBis.into (h : Into E E' N φ) {w : World} {r : Nat × Nat × Nat} {x : LB} (k : LBis E w r x) : LBis E' w r (rnB N φ x) := by
  cases x with
  | cells sz vs =>
    obtain ⟨cs, h1, h2, h3⟩ := k
    refine ⟨cs, h1, ?_, ?_⟩
    · rw [List.length_map]; exact L2.into (f := rnS N φ) (fun _ _ k => SR.into h k) h2
    · rw [List.length_map]; exact h3
  | map m c => obtain ⟨es, h1, h2⟩ := k; exact ⟨es, h1, h2.into h⟩
  | iter m a l b =>
    obtain ⟨h0, m', h1, h2⟩ := k
    refine ⟨h0, m', h1, ?_⟩
    cases m with
    | none => exact h2
    | some b => obtain ⟨q, h3, h4⟩ := h2; exact ⟨q, h _ _ h3, h4⟩
  | data vs => exact k
  | bytes n x => exact k
  | gro sz vs => exact k
  | dead => exact k
  | abs A F => exact k
  | imap G c => exact k
end

/-! ### a part of the blocks, and back -/
def seqN : Nat → Nat → List Nat
  | _, 0 => []
  | a, n + 1 => a :: seqN (a + 1) n
theorem seqN_get : ∀ (n a k : Nat), k < n → (seqN a n)[k]? = some (a + k)
  | 0, _, _, h => by omega
  | n + 1, a, 0, _ => by simp [seqN]
  | n + 1, a, k + 1, h => by
    simp only [seqN, List.getElem?_cons_succ]
    rw [seqN_get n (a + 1) k (by omega)]
    congr 1; omega
theorem seqN_length : ∀ (n a : Nat), (seqN a n).length = n
  | 0, _ => rfl
  | n + 1, a => by simp [seqN, seqN_length n]

def jset : LH → List Nat → LH → LH
  | M, k :: φ, x :: r => jset (M.set k x) φ r
  | M, _, _ => M
/-- the names behind a call: those that were handed, then new ones -/
def phi2 (φ : List Nat) (N : Nat) (L1 : LH) : List Nat := φ ++ seqN N (L1.length - φ.length)
/-- what the caller has behind a call that was handed the blocks φ and left L1 -/
def joinL (φ : List Nat) (M L1 : LH) : LH :=
  jset M φ ((L1.take φ.length).map (rnB (M.length + L1.length) (phi2 φ M.length L1))) ++ (L1.drop φ.length).map (rnB (M.length + L1.length) (phi2 φ M.length L1))

theorem jset_length : ∀ (φ : List Nat) (M r : LH), (jset M φ r).length = M.length
  | [], M, r => by simp [jset]
  | k :: φ, M, [] => by simp [jset]
  | k :: φ, M, x :: r => by simp only [jset]; rw [jset_length φ]; simp
theorem jset_other : ∀ (φ : List Nat) (M r : LH) (k : Nat), k ∉ φ → (jset M φ r)[k]? = M[k]?
  | [], M, r, k, _ => by simp [jset]
  | j :: φ, M, [], k, _ => by simp [jset]
  | j :: φ, M, x :: r, k, h => by
    simp only [List.mem_cons, not_or] at h
    simp only [jset]
    rw [jset_other φ _ r k h.2, List.getElem?_set, if_neg (fun e => h.1 e.symm)]
theorem jset_at : ∀ (φ : List Nat) (M r : LH) (j k : Nat) (x : LB), φ.Nodup → φ[j]? = some k → r[j]? = some x → k < M.length → (jset M φ r)[k]? = some x
  | [], M, r, j, k, x, _, h, _, _ => by simp at h
  | i :: φ, M, [], j, k, x, _, _, h, _ => by simp at h
  | i :: φ, M, y :: r, 0, k, x, hn, h1, h2, hk => by
    simp at h1 h2; subst h1; subst h2
    simp only [jset]
    rw [jset_other φ _ r i (List.nodup_cons.1 hn).1, List.getElem?_set, if_pos rfl, if_pos hk]
  | i :: φ, M, y :: r, j + 1, k, x, hn, h1, h2, hk => by
    simp at h1 h2
    simp only [jset]
    exact jset_at φ _ r j k x (List.nodup_cons.1 hn).2 h1 h2 (by simpa using hk)

/-- what a call's blocks reach -/
def footL (E : Emb) (L : LH) (b : Nat) : Prop := ∃ (k : Nat) (x : LB) (r : Nat × Nat × Nat), L[k]? = some x ∧ E[k]? = some r ∧ foot r x b

theorem Rep.base {X : Nat → Prop} {w0 w : World} {E : Emb} {L : LH} (h : Rep X w0 E L w) : Rep (footL E L) w E L w :=
  ⟨Fr.refl _ w, h.len, fun k x r hx hr b hf => ⟨.inr ⟨k, x, r, hx, hr, hf⟩, (h.rng k x r hx hr b hf).2⟩, h.blk, h.inj⟩

structure Part (φ : List Nat) (M L : LH) : Prop where
  len : φ.length = L.length
  nodup : φ.Nodup
  blk : ∀ (k : Nat) (x : LB), L[k]? = some x → ∃ j, φ[k]? = some j ∧ M[j]? = some (rnB M.length φ x)

theorem Part.sub {X : Nat → Prop} {w0 w : World} {E : Emb} {M L : LH} {φ : List Nat} (hp : Part φ M L) (h : Rep X w0 E M w) : Rep X w0 (subE E φ) L w :=
  h.sub hp.len (fun k x hx => .inr (hp.blk k x hx)) fun k k' j x x' h1 h2 _ _ _ _ => by
    have e1 := (List.getElem?_eq_some_iff.1 h1)
    have e2 := (List.getElem?_eq_some_iff.1 h2)
    obtain ⟨l1, e1⟩ := e1
    obtain ⟨l2, e2⟩ := e2
    exact (List.getElem_inj hp.nodup).1 (by rw [e1, e2])

theorem Rep.join {X : Nat → Prop} {w0 w w' : World} {E E1 : Emb} {M L L1 : LH} {φ : List Nat} (hp : Part φ M L) (h : Rep X w0 E M w) (hx : Ext (subE E φ) E1) (h1 : Rep (footL (subE E φ) L) w E1 L1 w') :
    ∃ E', Ext E E' ∧ Into E1 E' (M.length + L1.length) (phi2 φ M.length L1) ∧ Rep X w0 E' (joinL φ M L1) w' := by
  have hE1 : φ.length ≤ E1.length := by
    rcases Nat.lt_or_ge E1.length φ.length with hlt | hge
    · exfalso
      have : E1.length < (subE E φ).length := by simpa [subE] using hlt
      have h2 := hx E1.length _ (List.getElem?_eq_getElem this)
      simp at h2
    · exact hge
  have hsub := hp.sub h
  -- where each of the part's blocks lies
  have atφ : ∀ (j k : Nat), φ[j]? = some k → ∃ r, E[k]? = some r ∧ E1[j]? = some r ∧ k < M.length := by
    intro j k hj
    have hjl : j < L.length := by rw [← hp.len]; exact (List.getElem?_eq_some_iff.1 hj).1
    obtain ⟨k', hk', hM⟩ := hp.blk j _ (List.getElem?_eq_getElem hjl)
    rw [hj] at hk'; cases hk'
    obtain ⟨r, hr⟩ := h.ent hM
    refine ⟨r, hr, hx j r ?_, (List.getElem?_eq_some_iff.1 hM).1⟩
    simp [subE, hj, hr]
  let E' := E ++ E1.drop φ.length
  have hEE : Ext E E' := fun k r hk => by
    show (E ++ E1.drop φ.length)[k]? = some r
    rw [List.getElem?_append_left (List.getElem?_eq_some_iff.1 hk).1]; exact hk
  have hnew : ∀ (i : Nat), E'[M.length + i]? = E1[φ.length + i]? := by
    intro i
    show (E ++ E1.drop φ.length)[M.length + i]? = _
    rw [List.getElem?_append_right (by rw [h.len]; omega), h.len, List.getElem?_drop]
    congr 1; omega
  have rnv : ∀ (b : Nat), b < L1.length → (b < φ.length ∧ φ[b]? = some (rn (M.length + L1.length) (phi2 φ M.length L1) b)) ∨ (φ.length ≤ b ∧ rn (M.length + L1.length) (phi2 φ M.length L1) b = M.length + (b - φ.length)) := by
    intro b hb
    unfold rn phi2
    rcases Nat.lt_or_ge b φ.length with hlt | hge
    · left
      refine ⟨hlt, ?_⟩
      rw [List.getElem?_append_left hlt, List.getElem?_eq_getElem hlt]
      rfl
    · right
      refine ⟨hge, ?_⟩
      rw [List.getElem?_append_right hge, seqN_get _ _ _ (by omega)]
      rfl
  have hinto : Into E1 E' (M.length + L1.length) (phi2 φ M.length L1) := by
    intro b r hb
    have hbl : b < L1.length := by rw [← h1.len]; exact (List.getElem?_eq_some_iff.1 hb).1
    rcases rnv b hbl with ⟨hlt, hφ⟩ | ⟨hge, hφ⟩
    · obtain ⟨r', e1, e2, _⟩ := atφ b _ hφ
      rw [hb] at e2; cases e2
      exact hEE _ _ e1
    · rw [hφ, hnew]
      rw [show φ.length + (b - φ.length) = b by omega]; exact hb
  -- each block of the whole is one of the part, or as it was
  have hlenJ : (joinL φ M L1).length = M.length + (L1.length - φ.length) := by
    unfold joinL
    simp only [List.length_append, jset_length, List.length_map, List.length_drop]
  have hL1 : φ.length ≤ L1.length := by rw [← h1.len]; exact hE1
  have cut : ∀ (k : Nat) (z : LB) (r : Nat × Nat × Nat), (joinL φ M L1)[k]? = some z → E'[k]? = some r →
      (∃ j x, L1[j]? = some x ∧ E1[j]? = some r ∧ z = rnB (M.length + L1.length) (phi2 φ M.length L1) x ∧ k = rn (M.length + L1.length) (phi2 φ M.length L1) j) ∨ (k ∉ φ ∧ M[k]? = some z ∧ E[k]? = some r) := by
    intro k z r hz hr
    unfold joinL at hz
    rcases Nat.lt_or_ge k M.length with hlt | hge
    · rw [List.getElem?_append_left (by rw [jset_length]; exact hlt)] at hz
      have hr' : E[k]? = some r := by
        have : (E ++ E1.drop φ.length)[k]? = some r := hr
        rwa [List.getElem?_append_left (by rw [h.len]; exact hlt)] at this
      by_cases hm : k ∈ φ
      · left
        obtain ⟨j, hj⟩ := List.getElem?_of_mem hm
        have hjφ := (List.getElem?_eq_some_iff.1 hj).1
        have hjl : j < L1.length := by omega
        refine ⟨j, L1[j], List.getElem?_eq_getElem hjl, ?_, ?_, ?_⟩
        · obtain ⟨r', e1, e2, _⟩ := atφ j k hj
          rw [hr'] at e1; cases e1; exact e2
        · have := jset_at φ M ((L1.take φ.length).map (rnB (M.length + L1.length) (phi2 φ M.length L1))) j k (rnB (M.length + L1.length) (phi2 φ M.length L1) L1[j]) hp.nodup hj (by simp [hjφ, hjl]) hlt
          rw [this] at hz; cases hz; rfl
        · rcases rnv j hjl with ⟨_, e⟩ | ⟨e, _⟩
          · rw [hj] at e; cases e; rfl
          · omega
      · right
        rw [jset_other φ M _ k hm] at hz
        exact ⟨hm, hz, hr'⟩
    · left
      rw [List.getElem?_append_right (by rw [jset_length]; exact hge), jset_length] at hz
      simp only [List.getElem?_map, List.getElem?_drop] at hz
      cases hq : L1[φ.length + (k - M.length)]? with
      | none => rw [hq] at hz; cases hz
      | some x =>
        rw [hq] at hz; cases hz
        have hjl := (List.getElem?_eq_some_iff.1 hq).1
        refine ⟨φ.length + (k - M.length), x, hq, ?_, rfl, ?_⟩
        · have := hnew (k - M.length)
          rw [show M.length + (k - M.length) = k by omega] at this
          rw [← this]; exact hr
        · rcases rnv _ hjl with ⟨e, _⟩ | ⟨_, e⟩
          · omega
          · rw [e]; omega
  have own : ∀ b, footL (subE E φ) L b → ∃ k x r, k ∈ φ ∧ M[k]? = some x ∧ E[k]? = some r ∧ foot r x b := by
    rintro b ⟨k, x, r, hx, hr, hf⟩
    obtain ⟨j, hj, hM⟩ := hp.blk k x hx
    obtain ⟨r', e1, e2, _⟩ := atφ k j hj
    have hr' : (subE E φ)[k]? = some r' := by simp [subE, hj, e1]
    rw [hr] at hr'; cases hr'
    exact ⟨j, _, r, List.mem_of_getElem? hj, hM, e1, by rw [foot_rn]; exact hf⟩
  have hbsize : w.heap.size ≤ w'.heap.size := h1.fr.size
  refine ⟨E', hEE, hinto, ⟨h.fr.trans h1.fr fun b hb hf => ?_, ?_, fun k z r hz hr b hf => ?_, fun k z r hz hr => ?_, fun k k' z z' r r' b hz hz' hr hr' hf hf' => ?_⟩⟩
  · obtain ⟨k, x, r, _, hM, hE, hf⟩ := own b hf
    rcases (h.rng k x r hM hE b hf).1 with h2 | h2
    · omega
    · exact h2
  · show (E ++ E1.drop φ.length).length = _
    rw [hlenJ, List.length_append, List.length_drop, h.len, h1.len]
  · rcases cut k z r hz hr with ⟨j, x, hx', hr1, rfl, _⟩ | ⟨_, hM, hE⟩
    · rw [foot_rn] at hf
      have := h1.rng j x r hx' hr1 b hf
      refine ⟨?_, this.2⟩
      rcases this.1 with h2 | h2
      · have := h.fr.size; exact .inl (by omega)
      · obtain ⟨k2, x2, r2, _, hM2, hE2, hf2⟩ := own b h2
        exact (h.rng k2 x2 r2 hM2 hE2 b hf2).1
    · have := h.rng k z r hM hE b hf
      exact ⟨this.1, by omega⟩
  · rcases cut k z r hz hr with ⟨j, x, hx', hr1, rfl, _⟩ | ⟨hm, hM, hE⟩
    · exact (h1.blk j x r hx' hr1).into hinto
    · refine ((h.blk k z r hM hE).fr h1.fr (fun b hb => (h.rng k z r hM hE b hb).2) fun b hb hf => ?_).ext hEE
      obtain ⟨k2, x2, r2, hm2, hM2, hE2, hf2⟩ := own b hf
      have := h.inj k k2 z x2 r r2 b hM hM2 hE hE2 hb hf2
      subst this; exact hm hm2
  · have mixed : ∀ (j : Nat) (x : LB) (r1 : Nat × Nat × Nat) (k : Nat) (z : LB) (r2 : Nat × Nat × Nat), L1[j]? = some x → E1[j]? = some r1 → foot r1 x b → k ∉ φ → M[k]? = some z → E[k]? = some r2 → foot r2 z b → False := by
      intro j x r1 k z r2 hx' hr1 hf1 hm hM hE hf2
      rcases (h1.rng j x r1 hx' hr1 b hf1).1 with h2 | h2
      · have := (h.rng k z r2 hM hE b hf2).2; omega
      · obtain ⟨k2, x2, r3, hm2, hM2, hE2, hf3⟩ := own b h2
        have := h.inj k k2 z x2 r2 r3 b hM hM2 hE hE2 hf2 hf3
        subst this; exact hm hm2
    rcases cut k z r hz hr with ⟨j, x, hx', hr1, rfl, hk⟩ | ⟨hm, hM, hE⟩
    · rw [foot_rn] at hf
      rcases cut k' z' r' hz' hr' with ⟨j', x', hx2, hr2, rfl, hk'⟩ | ⟨hm', hM', hE'⟩
      · rw [foot_rn] at hf'
        have := h1.inj j j' x x' r r' b hx' hx2 hr1 hr2 hf hf'
        subst this; rw [hk, hk']
      · exact (mixed j x r k' z' r' hx' hr1 hf hm' hM' hE' hf').elim
    · rcases cut k' z' r' hz' hr' with ⟨j', x', hx2, hr2, rfl, hk'⟩ | ⟨hm', hM', hE'⟩
      · rw [foot_rn] at hf'
        exact (mixed j' x' r' k z r hx2 hr2 hf' hm hM hE hf).elim
      · exact h.inj k k' z z' r r' b hM hM' hE hE' hf hf'

/-! ### blocks that nobody needs are let go -/
/-- the place of b in a list, from k on; N: it is not there -/
def posN (N b : Nat) : Nat → List Nat → Nat
  | _, [] => N
  | k, j :: r => bif Nat.beq j b then k else posN N b (k + 1) r
/-- where each of the blocks from b on, k of them, has gone -/
def invN (sel : List Nat) (N : Nat) : Nat → Nat → List Nat
  | _, 0 => []
  | b, k + 1 => posN N b 0 sel :: invN sel N (b + 1) k

/-- is the block that a value names among those that stay? -/
def okN (ψ : List Nat) (n b : Nat) : Bool := match ψ[b]? with
  | some k => Nat.blt k n
  | none => false
def ok0 (ψ : List Nat) (n : Nat) : Value → Bool
  | .pointer (some a) => okN ψ n a.block
  | .slice (some a) _ _ => okN ψ n a.block
  | .map (some b) => okN ψ n b
  | _ => true
def okS (ψ : List Nat) (n : Nat) : Value → Bool
  | .func _ ⟨a⟩ ⟨c⟩ => a.all (ok0 ψ n) && c.all (ok0 ψ n)
  | v => ok0 ψ n v
def ok1 (ψ : List Nat) (n : Nat) : Value → Bool
  | .agg ⟨cs⟩ => cs.all (okS ψ n)
  | v => okS ψ n v
def okV (ψ : List Nat) (n : Nat) : Value → Bool
  | .tuple ⟨vs⟩ => vs.all (ok1 ψ n)
  | v => ok1 ψ n v
def okB (ψ : List Nat) (n : Nat) : LB → Bool
  | .cells _ vs => vs.all (okS ψ n)
  | .map m _ => m.all fun x => ok1 ψ n x.1 && ok1 ψ n x.2.1
  | .iter (some b) _ _ _ => okN ψ n b
  | _ => true
def okE (ψ : List Nat) (n : Nat) : Env → Bool
  | [] => true
  | (_, v) :: r => okV ψ n v && okE ψ n r

theorem posN_ok (N b : Nat) : ∀ (sel : List Nat) (k : Nat), posN N b k sel = N ∨ ∃ i, posN N b k sel = k + i ∧ sel[i]? = some b
  | [], k => .inl rfl
  | j :: r, k => by
    simp only [posN]
    cases hb : Nat.beq j b
    · rcases posN_ok N b r (k + 1) with h | ⟨i, h1, h2⟩
      · exact .inl h
      · exact .inr ⟨i + 1, by simp only [cond_false]; omega, by simpa using h2⟩
    · exact .inr ⟨0, rfl, by simp [Nat.eq_of_beq_eq_true hb]⟩
theorem invN_get (sel : List Nat) (N : Nat) : ∀ (n b k : Nat), k < n → (invN sel N b n)[k]? = some (posN N (b + k) 0 sel)
  | 0, _, _, h => by omega
  | n + 1, b, 0, _ => by simp [invN]
  | n + 1, b, k + 1, h => by
    simp only [invN, List.getElem?_cons_succ]
    rw [invN_get sel N n (b + 1) k (by omega), show b + 1 + k = b + (k + 1) by omega]
theorem invN_none (sel : List Nat) (N : Nat) : ∀ (n b k : Nat), n ≤ k → (invN sel N b n)[k]? = none
  | 0, _, _, _ => by simp [invN]
  | n + 1, b, 0, h => by omega
  | n + 1, b, k + 1, h => by
    simp only [invN, List.getElem?_cons_succ]
    exact invN_none sel N n (b + 1) k (by omega)

section
variable {sel : List Nat} {n M : Nat}
/-- there and back -/
theorem okN_ok {b : Nat} (_hs : sel.length = n) (h : okN (invN sel n 0 M) n b = true) : rn M sel (rn n (invN sel n 0 M) b) = b := by
  unfold okN at h
  split at h
  · rename_i k hk
    have hlt : k < n := Nat.le_of_ble_eq_true h
    rcases Nat.lt_or_ge b M with hb | hb
    · rw [invN_get _ _ _ _ _ hb, Nat.zero_add] at hk
      simp only [Option.some.injEq] at hk
      unfold rn
      rw [invN_get _ _ _ _ _ hb, Nat.zero_add]
      simp only [Option.getD_some]
      rcases posN_ok n b sel 0 with e | ⟨i, e1, e2⟩
      · omega
      · rw [e1, Nat.zero_add, e2]; rfl
    · rw [invN_none _ _ _ _ _ hb] at hk; cases hk
  · cases h
theorem ok0_ok {v : Value} (hs : sel.length = n) (h : ok0 (invN sel n 0 M) n v = true) : rn0 M sel (rn0 n (invN sel n 0 M) v) = v := by
  cases v <;> first | rfl | skip
  case pointer a =>
    cases a with
    | none => rfl
    | some a => obtain ⟨b, o, s⟩ := a; simp only [rn0, rnA, okN_ok hs h]
  case slice a _ _ =>
    cases a with
    | none => rfl
    | some a => obtain ⟨b, o, s⟩ := a; simp only [rn0, rnA, okN_ok hs h]
  case map a =>
    cases a with
    | none => rfl
    | some a => simp only [rn0, okN_ok hs h]
theorem map_back {f g : Value → Value} {p : Value → Bool} (hfg : ∀ v, p v = true → f (g v) = v) : ∀ {l : List Value}, l.all p = true → (l.map g).map f = l
  | [], _ => rfl
  | a :: r, h => by
    simp only [List.all_cons, Bool.and_eq_true] at h
    simp only [List.map_cons, hfg a h.1, map_back hfg h.2]
theorem okS_ok {v : Value} (hs : sel.length = n) (h : okS (invN sel n 0 M) n v = true) : rnS M sel (rnS n (invN sel n 0 M) v) = v := by
  cases v <;> first | rfl | skip
  case pointer a => (cases a with | none => rfl | some a => exact ok0_ok (v := .pointer (some a)) hs h)
  case slice a n' c => (cases a with | none => rfl | some a => exact ok0_ok (v := .slice (some a) n' c) hs h)
  case map a => (cases a with | none => rfl | some a => exact ok0_ok (v := .map (some a)) hs h)
  case func f a c =>
    obtain ⟨a⟩ := a
    obtain ⟨c⟩ := c
    simp only [okS, Bool.and_eq_true] at h
    simp only [rnS, map_back (fun v hv => ok0_ok hs hv) h.1, map_back (fun v hv => ok0_ok hs hv) h.2]
theorem ok1_ok {v : Value} (hs : sel.length = n) (h : ok1 (invN sel n 0 M) n v = true) : rn1 M sel (rn1 n (invN sel n 0 M) v) = v := by
  cases v <;> first | rfl | skip
  case pointer a => (cases a with | none => rfl | some a => exact okS_ok (v := .pointer (some a)) hs h)
  case slice a n' c => (cases a with | none => rfl | some a => exact okS_ok (v := .slice (some a) n' c) hs h)
  case map a => (cases a with | none => rfl | some a => exact okS_ok (v := .map (some a)) hs h)
  case agg cs =>
    obtain ⟨cs⟩ := cs
    simp only [rn1, map_back (fun v hv => okS_ok hs hv) h]
  case func f a c => exact okS_ok (v := .func f a c) hs h
theorem okV_ok {v : Value} (hs : sel.length = n) (h : okV (invN sel n 0 M) n v = true) : rnV M sel (rnV n (invN sel n 0 M) v) = v := by
  cases v <;> first | rfl | skip
  case pointer a => (cases a with | none => rfl | some a => exact ok1_ok (v := .pointer (some a)) hs h)
  case slice a n' c => (cases a with | none => rfl | some a => exact ok1_ok (v := .slice (some a) n' c) hs h)
  case map a => (cases a with | none => rfl | some a => exact ok1_ok (v := .map (some a)) hs h)
  case tuple cs =>
    obtain ⟨cs⟩ := cs
    simp only [rnV, map_back (fun v hv => ok1_ok hs hv) h]
  case func f a c => exact ok1_ok (v := .func f a c) hs h
  case agg cs => exact ok1_ok (v := .agg cs) hs h
theorem okE_ok (hs : sel.length = n) : ∀ {l : Env}, okE (invN sel n 0 M) n l = true → rnE M sel (rnE n (invN sel n 0 M) l) = l
  | [], _ => rfl
  | (k, v) :: r, h => by
    simp only [okE, Bool.and_eq_true] at h
    simp only [rnE, okV_ok hs h.1, okE_ok hs h.2]
theorem okB_ok {x : LB} (hs : sel.length = n) (h : okB (invN sel n 0 M) n x = true) : rnB M sel (rnB n (invN sel n 0 M) x) = x := by
  cases x <;> first | rfl | skip
  case cells sz vs => simp only [rnB, map_back (fun v hv => okS_ok hs hv) h]
  case map m c =>
    simp only [rnB, List.map_map, LB.map.injEq, and_true]
    have : ∀ (m : List (Value × Value × Nat)), (m.all fun x => ok1 (invN sel n 0 M) n x.1 && ok1 (invN sel n 0 M) n x.2.1) = true → List.map ((fun x => (rn1 M sel x.1, rn1 M sel x.2.1, x.2.2)) ∘ fun x => (rn1 n (invN sel n 0 M) x.1, rn1 n (invN sel n 0 M) x.2.1, x.2.2)) m = m := by
      intro m
      induction m with
      | nil => intro _; rfl
      | cons a r ih =>
        intro h
        simp only [List.all_cons, Bool.and_eq_true] at h
        simp only [List.map_cons, Function.comp, ok1_ok hs h.1.1, ok1_ok hs h.1.2]
        exact congrArg (a :: ·) (ih h.2)
    exact this m h
  case iter m a l b =>
    cases m with
    | none => rfl
    | some q => simp only [rnB, Option.map_some, okN_ok hs h]
end

def pickG (L : LH) : List Nat → Option LH
  | [] => some []
  | j :: r => match L[j]? with
    | some x => match pickG L r with
      | some t => some (x :: t)
      | none => none
    | none => none
theorem pickG_ok {L : LH} : ∀ {sel : List Nat} {t : LH}, pickG L sel = some t → t.length = sel.length ∧ ∀ (k : Nat) (x : LB), t[k]? = some x → ∃ j, sel[k]? = some j ∧ L[j]? = some x
  | [], t, h => by cases h; exact ⟨rfl, fun k x hx => by simp at hx⟩
  | j :: r, t, h => by
    simp only [pickG] at h
    cases hj : L[j]? with
    | none => rw [hj] at h; cases h
    | some x =>
      rw [hj] at h
      cases hr : pickG L r with
      | none => rw [hr] at h; cases h
      | some s =>
        rw [hr] at h; cases h
        obtain ⟨h1, h2⟩ := pickG_ok hr
        refine ⟨by simp [h1], fun k y hy => ?_⟩
        cases k with
        | zero => simp at hy; subst hy; exact ⟨j, rfl, hj⟩
        | succ k => simp at hy; simpa using h2 k y hy

/-- those blocks of L that sel names, by their places in sel -/
def letGo (sel : List Nat) (L : LH) : Option LH := match pickG L sel with
  | some t => bif t.all (okB (invN sel sel.length 0 L.length) sel.length) && ndup sel then some (t.map (rnB sel.length (invN sel sel.length 0 L.length))) else none
  | none => none
def letGoE (sel : List Nat) (L : LH) (l : Env) : Option Env := bif okE (invN sel sel.length 0 L.length) sel.length l then some (rnE sel.length (invN sel sel.length 0 L.length) l) else none
def letGoV (sel : List Nat) (L : LH) (v : Value) : Option Value := bif okV (invN sel sel.length 0 L.length) sel.length v then some (rnV sel.length (invN sel sel.length 0 L.length) v) else none

theorem letGo_ok {X : Nat → Prop} {w0 w : World} {E : Emb} {L K : LH} {sel : List Nat} (h : letGo sel L = some K) (hR : Rep X w0 E L w) : Rep X w0 (subE E sel) K w := by
  unfold letGo at h
  split at h <;> first | (cases h; done) | skip
  rename_i t ht
  cases hc : (t.all (okB (invN sel sel.length 0 L.length) sel.length) && ndup sel)
  · rw [hc] at h; cases h
  rw [hc] at h; cases h
  rw [Bool.and_eq_true] at hc
  obtain ⟨h1, h2⟩ := pickG_ok ht
  have hnd := ndup_ok hc.2
  refine hR.sub (by simp [h1]) (fun k x hx => .inr ?_) fun k k' j x x' e1 e2 _ _ _ _ => ?_
  · simp only [List.getElem?_map] at hx
    cases hq : t[k]? with
    | none => rw [hq] at hx; cases hx
    | some y =>
      rw [hq] at hx; cases hx
      obtain ⟨j, h3, h4⟩ := h2 k y hq
      refine ⟨j, h3, ?_⟩
      rw [okB_ok rfl (List.all_eq_true.1 hc.1 y (List.mem_of_getElem? hq))]; exact h4
  · obtain ⟨l1, e1⟩ := List.getElem?_eq_some_iff.1 e1
    obtain ⟨l2, e2⟩ := List.getElem?_eq_some_iff.1 e2
    exact (List.getElem_inj hnd).1 (by rw [e1, e2])
theorem letGoE_ok {X : Nat → Prop} {w0 w : World} {E : Emb} {L : LH} {sel : List Nat} {l l1 l' : Env} (h : letGoE sel L l = some l1) (hR : Rep X w0 E L w) (hl : ER E l l') : ER (subE E sel) l1 l' := by
  unfold letGoE at h
  cases hc : okE (invN sel sel.length 0 L.length) sel.length l
  · rw [hc] at h; cases h
  rw [hc] at h; cases h
  refine ER.sub ?_
  rw [hR.len, okE_ok rfl hc]; exact hl
theorem letGoV_ok {X : Nat → Prop} {w0 w : World} {E : Emb} {L : LH} {sel : List Nat} {v v1 v' : Value} (h : letGoV sel L v = some v1) (hR : Rep X w0 E L w) (hv : VR E v v') : VR (subE E sel) v1 v' := by
  unfold letGoV at h
  cases hc : okV (invN sel sel.length 0 L.length) sel.length v
  · rw [hc] at h; cases h
  rw [hc] at h; cases h
  refine VR.sub ?_
  rw [hR.len, okV_ok rfl hc]; exact hv
end Go.Tum
