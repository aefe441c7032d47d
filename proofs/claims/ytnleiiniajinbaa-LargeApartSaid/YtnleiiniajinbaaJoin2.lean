/-
  A call that keeps only some of the names that it was handed (an object's inner blocks may be other ones behind it): nobody else names them.
-/
import Derived.Test.YtnleiiniajinbaaJoin
namespace Go.Tum
open Go

def inL (t : Nat) : List Nat → Bool
  | [] => false
  | a :: r => bif Nat.beq a t then true else inL t r

/-- but for the names in dr, all names stay -/
def ExtD (dr : List Nat) (E E' : Emb) : Prop := ∀ (k : Nat) (r : Nat × Nat × Nat), inL k dr = false → E[k]? = some r → E'[k]? = some r

/-- does a value name none of dr? -/
def nm0 (dr : List Nat) : Value → Bool
  | .pointer (some a) => !inL a.block dr
  | .slice (some a) _ _ => !inL a.block dr
  | .map (some b) => !inL b dr
  | _ => true
def nmS (dr : List Nat) : Value → Bool
  | .func _ ⟨a⟩ ⟨c⟩ => a.all (nm0 dr) && c.all (nm0 dr)
  | v => nm0 dr v
def nm1 (dr : List Nat) : Value → Bool
  | .agg ⟨cs⟩ => cs.all (nmS dr)
  | v => nmS dr v
def nmV (dr : List Nat) : Value → Bool
  | .tuple ⟨vs⟩ => vs.all (nm1 dr)
  | v => nm1 dr v
def nmB (dr : List Nat) : LB → Bool
  | .cells _ vs => vs.all (nmS dr)
  | .map m _ => m.all fun x => nm1 dr x.1 && nm1 dr x.2.1
  | .iter (some b) _ _ _ => !inL b dr
  | _ => true
def nmE (dr : List Nat) : Env → Bool
  | [] => true
  | (_, v) :: r => nmV dr v && nmE dr r
def nmT (dr : List Nat) : Taken → Bool
  | [] => true
  | (_, _, l, v) :: r => nmE dr l && nmV dr v && nmT dr r

section
variable {E E' : Emb} {dr : List Nat}
theorem S0.extD (h : ExtD dr E E') {v v' : Value} (hn : nm0 dr v = true) (k : S0 E v v') : S0 E' v v' := by
  cases v <;> first | exact k | skip
  case pointer a =>
    cases a with
    | none => exact k
    | some a => simp only [nm0, Bool.not_eq_true'] at hn; obtain ⟨a', h1, h2, r, h3, h4⟩ := k; exact ⟨a', h1, h2, r, h _ _ hn h3, h4⟩
  case slice a n c =>
    cases a with
    | none => exact k
    | some a => simp only [nm0, Bool.not_eq_true'] at hn; obtain ⟨h0, r, h1, h2⟩ := k; exact ⟨h0, r, h _ _ hn h1, h2⟩
  case map a =>
    cases a with
    | none => exact k
    | some a => simp only [nm0, Bool.not_eq_true'] at hn; obtain ⟨r, h1, h2⟩ := k; exact ⟨r, h _ _ hn h1, h2⟩
theorem L2.monoM {R S : Value → Value → Prop} {p : Value → Bool} (h : ∀ a b, p a = true → R a b → S a b) : ∀ {x y : List Value}, x.all p = true → L2 R x y → L2 S x y
  | [], [], _, _ => trivial
  | a :: r, b :: s, hp, k => by
    simp only [List.all_cons, Bool.and_eq_true] at hp
    exact ⟨h _ _ hp.1 k.1, L2.monoM h hp.2 k.2⟩
  | [], _ :: _, _, k => k.elim
  | _ :: _, [], _, k => k.elim
theorem SR.extD (h : ExtD dr E E') {v v' : Value} (hn : nmS dr v = true) (k : SR E v v') : SR E' v v' := by
  cases v <;> first | exact k | skip
  case pointer a => exact S0.extD h (v := .pointer a) hn k
  case slice a n c => exact S0.extD h (v := .slice a n c) hn k
  case map a => exact S0.extD h (v := .map a) hn k
  case func f a c =>
    obtain ⟨a⟩ := a; obtain ⟨c⟩ := c; obtain ⟨a', c', h1, h2, h3⟩ := k
    simp only [nmS, Bool.and_eq_true] at hn
    exact ⟨a', c', h1, L2.monoM (p := nm0 dr) (fun _ _ hp k => S0.extD h hp k) hn.1 h2, L2.monoM (p := nm0 dr) (fun _ _ hp k => S0.extD h hp k) hn.2 h3⟩
theorem V1.extD (h : ExtD dr E E') {v v' : Value} (hn : nm1 dr v = true) (k : V1 E v v') : V1 E' v v' := by
  cases v <;> first | exact k | skip
  case pointer a => exact SR.extD h (v := .pointer a) hn k
  case slice a n c => exact SR.extD h (v := .slice a n c) hn k
  case map a => exact SR.extD h (v := .map a) hn k
  case func f a c => exact SR.extD h (v := .func f a c) hn k
  case agg cs => obtain ⟨cs⟩ := cs; obtain ⟨cs', h1, h2⟩ := k; exact ⟨cs', h1, L2.monoM (p := nmS dr) (fun _ _ hp k => SR.extD h hp k) hn h2⟩
theorem VR.extD (h : ExtD dr E E') {v v' : Value} (hn : nmV dr v = true) (k : VR E v v') : VR E' v v' := by
  cases v <;> first | exact k | skip
  case pointer a => exact V1.extD h (v := .pointer a) hn k
  case slice a n c => exact V1.extD h (v := .slice a n c) hn k
  case map a => exact V1.extD h (v := .map a) hn k
  case func f a c => exact V1.extD h (v := .func f a c) hn k
  case agg cs => exact V1.extD h (v := .agg cs) hn k
  case tuple cs => obtain ⟨cs⟩ := cs; obtain ⟨cs', h1, h2⟩ := k; exact ⟨cs', h1, L2.monoM (p := nm1 dr) (fun _ _ hp k => V1.extD h hp k) hn h2⟩
theorem nmE_get {dr : List Nat} : ∀ {l : Env} {t : Nat} {v : Value}, nmE dr l = true → eget l t = some v → nmV dr v = true
  | [], t, v, _, h => by cases h
  | (k, u) :: r, t, v, hn, h => by
    simp only [nmE, Bool.and_eq_true] at hn
    rw [eget_cons] at h
    by_cases e : k = t
    · rw [if_pos e] at h; cases h; exact hn.1
    · rw [if_neg e] at h; exact nmE_get hn.2 h
theorem ER.extD (h : ExtD dr E E') {l l' : Env} (hn : nmE dr l = true) (k : ER E l l') : ER E' l l' := fun t v ht => let ⟨v', h1, h2⟩ := k t v ht; ⟨v', h1, h2.extD h (nmE_get hn ht)⟩
theorem M2.extD (h : ExtD dr E E') : ∀ {m : List (Value × Value × Nat)} {es : List MapEntry}, (m.all fun x => nm1 dr x.1 && nm1 dr x.2.1) = true → M2 E m es → M2 E' m es
  | [], [], _, _ => trivial
  | _ :: _, _ :: _, hn, k => by
    simp only [List.all_cons, Bool.and_eq_true] at hn
    exact ⟨⟨k.1.1.extD h hn.1.1, k.1.2.1.extD h hn.1.2, k.1.2.2⟩, k.2.extD h hn.2⟩
  | [], _ :: _, _, k => k.elim
  | _ :: _, [], _, k => k.elim
theorem LBis.extD {w : World} {r : Nat × Nat × Nat} {x : LB} (h : LBis E w r x) (hn : nmB dr x = true) (he : ExtD dr E E') : LBis E' w r x := by
  cases x with
  | cells sz vs => obtain ⟨cs, h1, h2, h3⟩ := h; exact ⟨cs, h1, L2.monoM (p := nmS dr) (fun _ _ hp k => SR.extD he hp k) hn h2, h3⟩
  | data vs => exact h
  | bytes n x => exact h
  | gro sz vs => exact h
  | map m c => obtain ⟨es, h1, h2⟩ := h; exact ⟨es, h1, h2.extD he hn⟩
  | iter m a b c =>
    obtain ⟨h0, es, h1, h2⟩ := h
    refine ⟨h0, es, h1, ?_⟩
    cases m with
    | none => exact h2
    | some b => simp only [nmB, Bool.not_eq_true'] at hn; obtain ⟨q, h3, h4⟩ := h2; exact ⟨q, he _ _ hn h3, h4⟩
  | dead => trivial
  | abs A F => exact h
  | imap G c => exact h
theorem TR.extD {P : Program} (h : ExtD dr E E') : ∀ {T : Taken} {F : Facts}, nmT dr T = true → TR P E T F → TR P E' T F
  | [], [], _, _ => trivial
  | (_, _, _, _) :: _, (_, _) :: _, hn, k => by
    simp only [nmT, Bool.and_eq_true] at hn
    obtain ⟨h1, ⟨l', v', h2, h3, h4⟩, h5⟩ := k
    exact ⟨h1, ⟨l', v', h2, h3.extD h hn.1.1, h4.extD h hn.1.2⟩, h5.extD h hn.2⟩
  | [], _ :: _, _, k => k.elim
  | _ :: _, [], _, k => k.elim
end

/-- the names φ are those of E1 -/
def eset : Emb → List Nat → Emb → Emb
  | E, k :: φ, x :: r => eset (E.set k x) φ r
  | E, _, _ => E
theorem eset_length : ∀ (φ : List Nat) (E r : Emb), (eset E φ r).length = E.length
  | [], E, r => by simp [eset]
  | k :: φ, E, [] => by simp [eset]
  | k :: φ, E, x :: r => by simp only [eset]; rw [eset_length φ]; simp
theorem eset_other : ∀ (φ : List Nat) (E r : Emb) (k : Nat), k ∉ φ → (eset E φ r)[k]? = E[k]?
  | [], E, r, k, _ => by simp [eset]
  | j :: φ, E, [], k, _ => by simp [eset]
  | j :: φ, E, x :: r, k, h => by
    simp only [List.mem_cons, not_or] at h
    simp only [eset]
    rw [eset_other φ _ r k h.2, List.getElem?_set, if_neg (fun e => h.1 e.symm)]
theorem eset_at : ∀ (φ : List Nat) (E r : Emb) (j k : Nat) (x : Nat × Nat × Nat), φ.Nodup → φ[j]? = some k → r[j]? = some x → k < E.length → (eset E φ r)[k]? = some x
  | [], E, r, j, k, x, _, h, _, _ => by simp at h
  | i :: φ, E, [], j, k, x, _, _, h, _ => by simp at h
  | i :: φ, E, y :: r, 0, k, x, hn, h1, h2, hk => by
    simp at h1 h2; subst h1; subst h2
    simp only [eset]
    rw [eset_other φ _ r i (List.nodup_cons.1 hn).1, List.getElem?_set, if_pos rfl, if_pos hk]
  | i :: φ, E, y :: r, j + 1, k, x, hn, h1, h2, hk => by
    simp at h1 h2
    simp only [eset]
    exact eset_at φ _ r j k x (List.nodup_cons.1 hn).2 h1 h2 (by simpa using hk)

/-- which of the names that were handed need not stay -/
def dropped (keep : List Nat) : Nat → List Nat → List Nat
  | _, [] => []
  | i, k :: φ => bif inL i keep then dropped keep (i + 1) φ else k :: dropped keep (i + 1) φ
theorem inL_mem : ∀ {t : Nat} {l : List Nat}, inL t l = true ↔ t ∈ l
  | t, [] => by simp [inL]
  | t, a :: r => by
    simp only [inL, List.mem_cons]
    cases h : Nat.beq a t
    · have : ¬ t = a := by intro e; subst e; simp at h
      simp [this, inL_mem (l := r)]
    · have := Nat.eq_of_beq_eq_true h
      simp [this]
theorem dropped_no {keep : List Nat} : ∀ {φ : List Nat} {i j k : Nat}, φ[j]? = some k → inL k (dropped keep i φ) = false → inL (i + j) keep = true
  | [], i, j, k, h, _ => by simp at h
  | a :: φ, i, 0, k, h, hd => by
    simp at h; subst h
    simp only [dropped] at hd
    cases hk : inL i keep
    · rw [hk] at hd; simp [inL] at hd
    · rfl
  | a :: φ, i, j + 1, k, h, hd => by
    simp at h
    simp only [dropped] at hd
    have hd' : inL k (dropped keep (i + 1) φ) = false := by
      cases hk : inL i keep
      · rw [hk] at hd
        simp only [cond_false, inL] at hd
        cases hq : Nat.beq a k
        · rw [hq] at hd; exact hd
        · rw [hq] at hd; cases hd
      · rw [hk] at hd; exact hd
    have := dropped_no h hd'
    rwa [show i + 1 + j = i + (j + 1) by omega] at this

/-- blocks beside those of φ name none of dr -/
def nmL (dr φ : List Nat) : Nat → LH → Bool
  | _, [] => true
  | i, x :: r => (inL i φ || nmB dr x) && nmL dr φ (i + 1) r
theorem nmL_ok {dr φ : List Nat} : ∀ {L : LH} {i k : Nat} {x : LB}, nmL dr φ i L = true → L[k]? = some x → i + k ∉ φ → nmB dr x = true
  | [], i, k, x, _, h, _ => by simp at h
  | y :: r, i, 0, x, h, hx, hn => by
    simp at hx; subst hx
    simp only [nmL, Bool.and_eq_true, Bool.or_eq_true] at h
    rcases h.1 with h1 | h1
    · exact absurd (inL_mem.1 h1) hn
    · exact h1
  | y :: r, i, k + 1, x, h, hx, hn => by
    simp at hx
    simp only [nmL, Bool.and_eq_true] at h
    exact nmL_ok h.2 hx (by rwa [show i + 1 + k = i + (k + 1) by omega])

theorem Rep.joinW {X : Nat → Prop} {w0 w w' : World} {E E1 : Emb} {M L L1 : LH} {φ keep : List Nat} (hp : Part φ M L) (h : Rep X w0 E M w) (hx : ∀ k r, inL k keep = true → (subE E φ)[k]? = some r → E1[k]? = some r) (hlen1 : L.length ≤ L1.length) (hm : nmL (dropped keep 0 φ) φ 0 M = true)
    (h1 : Rep (footL (subE E φ) L) w E1 L1 w') :
    ∃ E', ExtD (dropped keep 0 φ) E E' ∧ Into E1 E' (M.length + L1.length) (phi2 φ M.length L1) ∧ Rep X w0 E' (joinL φ M L1) w' := by
  have hL1 : φ.length ≤ L1.length := by rw [hp.len]; exact hlen1
  have hE1 : φ.length ≤ E1.length := by rw [h1.len]; exact hL1
  have atφ : ∀ (j k : Nat), φ[j]? = some k → ∃ r, E[k]? = some r ∧ (subE E φ)[j]? = some r ∧ k < M.length := by
    intro j k hj
    have hjl : j < L.length := by rw [← hp.len]; exact (List.getElem?_eq_some_iff.1 hj).1
    obtain ⟨k', hk', hM⟩ := hp.blk j _ (List.getElem?_eq_getElem hjl)
    rw [hj] at hk'; cases hk'
    obtain ⟨r, hr⟩ := h.ent hM
    exact ⟨r, hr, by simp [subE, hj, hr], (List.getElem?_eq_some_iff.1 hM).1⟩
  let E' := eset E φ E1 ++ E1.drop φ.length
  have hlenE : (eset E φ E1).length = M.length := by rw [eset_length, h.len]
  have old : ∀ k, k < M.length → E'[k]? = (eset E φ E1)[k]? := fun k hk => by
    show (eset E φ E1 ++ E1.drop φ.length)[k]? = _
    rw [List.getElem?_append_left (by rw [hlenE]; exact hk)]
  have atφ' : ∀ (j k : Nat) (r : Nat × Nat × Nat), φ[j]? = some k → E1[j]? = some r → E'[k]? = some r := by
    intro j k r hj hr
    obtain ⟨_, _, _, hk⟩ := atφ j k hj
    rw [old k hk]
    exact eset_at φ E E1 j k r hp.nodup hj hr (by rw [h.len]; exact hk)
  have hEE : ExtD (dropped keep 0 φ) E E' := by
    intro k r hn hk
    have hkl : k < M.length := by rw [← h.len]; exact (List.getElem?_eq_some_iff.1 hk).1
    by_cases hmem : k ∈ φ
    · obtain ⟨j, hj⟩ := List.getElem?_of_mem hmem
      obtain ⟨r', e1, e2, _⟩ := atφ j k hj
      rw [hk] at e1; cases e1
      have := dropped_no hj hn
      rw [Nat.zero_add] at this
      exact atφ' j k r hj (hx j r this e2)
    · rw [old k hkl, eset_other φ E E1 k hmem]; exact hk
  have hnew : ∀ (i : Nat), E'[M.length + i]? = E1[φ.length + i]? := by
    intro i
    show (eset E φ E1 ++ E1.drop φ.length)[M.length + i]? = _
    rw [List.getElem?_append_right (by rw [hlenE]; omega), hlenE, List.getElem?_drop]
    congr 1; omega
  have rnv : ∀ (b : Nat), b < L1.length → (b < φ.length ∧ φ[b]? = some (rn (M.length + L1.length) (phi2 φ M.length L1) b)) ∨ (φ.length ≤ b ∧ rn (M.length + L1.length) (phi2 φ M.length L1) b = M.length + (b - φ.length)) := by
    intro b hb
    unfold rn phi2
    rcases Nat.lt_or_ge b φ.length with hlt | hge
    · left
      refine ⟨hlt, ?_⟩
      rw [List.getElem?_append_left hlt, List.getElem?_eq_getElem hlt]
      rfl
    · right
      refine ⟨hge, ?_⟩
      rw [List.getElem?_append_right hge, seqN_get _ _ _ (by omega)]
      rfl
  have hinto : Into E1 E' (M.length + L1.length) (phi2 φ M.length L1) := by
    intro b r hb
    have hbl : b < L1.length := by rw [← h1.len]; exact (List.getElem?_eq_some_iff.1 hb).1
    rcases rnv b hbl with ⟨hlt, hφ⟩ | ⟨hge, hφ⟩
    · exact atφ' b _ r hφ hb
    · rw [hφ, hnew]
      rw [show φ.length + (b - φ.length) = b by omega]; exact hb
  have hlenJ : (joinL φ M L1).length = M.length + (L1.length - φ.length) := by
    unfold joinL
    simp only [List.length_append, jset_length, List.length_map, List.length_drop]
  have cut : ∀ (k : Nat) (z : LB) (r : Nat × Nat × Nat), (joinL φ M L1)[k]? = some z → E'[k]? = some r →
      (∃ j x, L1[j]? = some x ∧ E1[j]? = some r ∧ z = rnB (M.length + L1.length) (phi2 φ M.length L1) x ∧ k = rn (M.length + L1.length) (phi2 φ M.length L1) j) ∨ (k ∉ φ ∧ M[k]? = some z ∧ E[k]? = some r) := by
    intro k z r hz hr
    unfold joinL at hz
    rcases Nat.lt_or_ge k M.length with hlt | hge
    · rw [List.getElem?_append_left (by rw [jset_length]; exact hlt)] at hz
      rw [old k hlt] at hr
      by_cases hmm : k ∈ φ
      · left
        obtain ⟨j, hj⟩ := List.getElem?_of_mem hmm
        have hjφ := (List.getElem?_eq_some_iff.1 hj).1
        have hjl : j < L1.length := by omega
        have hje : j < E1.length := by omega
        refine ⟨j, L1[j], List.getElem?_eq_getElem hjl, ?_, ?_, ?_⟩
        · have := eset_at φ E E1 j k E1[j] hp.nodup hj (List.getElem?_eq_getElem hje) (by rw [h.len]; exact hlt)
          rw [this] at hr; cases hr
          exact List.getElem?_eq_getElem hje
        · have := jset_at φ M ((L1.take φ.length).map (rnB (M.length + L1.length) (phi2 φ M.length L1))) j k (rnB (M.length + L1.length) (phi2 φ M.length L1) L1[j]) hp.nodup hj (by simp [hjφ, hjl]) hlt
          rw [this] at hz; cases hz; rfl
        · rcases rnv j hjl with ⟨_, e⟩ | ⟨e, _⟩
          · rw [hj] at e; cases e; rfl
          · omega
      · right
        rw [jset_other φ M _ k hmm] at hz
        rw [eset_other φ E E1 k hmm] at hr
        exact ⟨hmm, hz, hr⟩
    · left
      rw [List.getElem?_append_right (by rw [jset_length]; exact hge), jset_length] at hz
      simp only [List.getElem?_map, List.getElem?_drop] at hz
      cases hq : L1[φ.length + (k - M.length)]? with
      | none => rw [hq] at hz; cases hz
      | some x =>
        rw [hq] at hz; cases hz
        have hjl := (List.getElem?_eq_some_iff.1 hq).1
        refine ⟨φ.length + (k - M.length), x, hq, ?_, rfl, ?_⟩
        · have := hnew (k - M.length)
          rw [show M.length + (k - M.length) = k by omega] at this
          rw [← this]; exact hr
        · rcases rnv _ hjl with ⟨e, _⟩ | ⟨_, e⟩
          · omega
          · rw [e]; omega
  have own : ∀ b, footL (subE E φ) L b → ∃ k x r, k ∈ φ ∧ M[k]? = some x ∧ E[k]? = some r ∧ foot r x b := by
    rintro b ⟨k, x, r, hx, hr, hf⟩
    obtain ⟨j, hj, hM⟩ := hp.blk k x hx
    obtain ⟨r', e1, e2, _⟩ := atφ k j hj
    rw [hr] at e2; cases e2
    exact ⟨j, _, r, List.mem_of_getElem? hj, hM, e1, by rw [foot_rn]; exact hf⟩
  have hbsize : w.heap.size ≤ w'.heap.size := h1.fr.size
  refine ⟨E', hEE, hinto, ⟨h.fr.trans h1.fr fun b hb hf => ?_, ?_, fun k z r hz hr b hf => ?_, fun k z r hz hr => ?_, fun k k' z z' r r' b hz hz' hr hr' hf hf' => ?_⟩⟩
  · obtain ⟨k, x, r, _, hM, hE, hf⟩ := own b hf
    rcases (h.rng k x r hM hE b hf).1 with h2 | h2
    · omega
    · exact h2
  · show (eset E φ E1 ++ E1.drop φ.length).length = _
    rw [hlenJ, List.length_append, List.length_drop, hlenE, h1.len]
  · rcases cut k z r hz hr with ⟨j, x, hx', hr1, rfl, _⟩ | ⟨_, hM, hE⟩
    · rw [foot_rn] at hf
      have := h1.rng j x r hx' hr1 b hf
      refine ⟨?_, this.2⟩
      rcases this.1 with h2 | h2
      · have := h.fr.size; exact .inl (by omega)
      · obtain ⟨k2, x2, r2, _, hM2, hE2, hf2⟩ := own b h2
        exact (h.rng k2 x2 r2 hM2 hE2 b hf2).1
    · have := h.rng k z r hM hE b hf
      exact ⟨this.1, by omega⟩
  · rcases cut k z r hz hr with ⟨j, x, hx', hr1, rfl, _⟩ | ⟨hmm, hM, hE⟩
    · exact (h1.blk j x r hx' hr1).into hinto
    · refine LBis.extD ((h.blk k z r hM hE).fr h1.fr (fun b hb => (h.rng k z r hM hE b hb).2) fun b hb hf => ?_) (nmL_ok hm hM (by rw [Nat.zero_add]; exact hmm)) hEE
      obtain ⟨k2, x2, r2, hm2, hM2, hE2, hf2⟩ := own b hf
      have := h.inj k k2 z x2 r r2 b hM hM2 hE hE2 hb hf2
      subst this; exact hmm hm2
  · have mixed : ∀ (j : Nat) (x : LB) (r1 : Nat × Nat × Nat) (k : Nat) (z : LB) (r2 : Nat × Nat × Nat), L1[j]? = some x → E1[j]? = some r1 → foot r1 x b → k ∉ φ → M[k]? = some z → E[k]? = some r2 → foot r2 z b → False := by
      intro j x r1 k z r2 hx' hr1 hf1 hmm hM hE hf2
      rcases (h1.rng j x r1 hx' hr1 b hf1).1 with h2 | h2
      · have := (h.rng k z r2 hM hE b hf2).2; omega
      · obtain ⟨k2, x2, r3, hm2, hM2, hE2, hf3⟩ := own b h2
        have := h.inj k k2 z x2 r2 r3 b hM hM2 hE hE2 hf2 hf3
        subst this; exact hmm hm2
    rcases cut k z r hz hr with ⟨j, x, hx', hr1, rfl, hk⟩ | ⟨hmm, hM, hE⟩
    · rw [foot_rn] at hf
      rcases cut k' z' r' hz' hr' with ⟨j', x', hx2, hr2, rfl, hk'⟩ | ⟨hm', hM', hE'⟩
      · rw [foot_rn] at hf'
        have := h1.inj j j' x x' r r' b hx' hx2 hr1 hr2 hf hf'
        subst this; rw [hk, hk']
      · exact (mixed j x r k' z' r' hx' hr1 hf hm' hM' hE' hf').elim
    · rcases cut k' z' r' hz' hr' with ⟨j', x', hx2, hr2, rfl, hk'⟩ | ⟨hm', hM', hE'⟩
      · rw [foot_rn] at hf'
        exact (mixed j' x' r' k z r hx2 hr2 hf' hmm hM hE hf).elim
      · exact h.inj k k' z z' r r' b hM hM' hE hE' hf hf'
end Go.Tum
