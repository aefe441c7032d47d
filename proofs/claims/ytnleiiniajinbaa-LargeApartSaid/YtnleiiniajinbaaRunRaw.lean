/-
  Runs by reckoning: append, make, equality, min and max.
-/
import Derived.Test.YtnleiiniajinbaaRunCode
namespace Go.Tum
open Go

section
variable {P : Program} {w : World} {l : Env} {K : Value → World → Prop}

theorem append_any {d : Option Tmp} {pos : String} {af : Array Edge} {g : Option (Nat × Bool)} {s x : Operand} {sT xT ty e : TypeId} {sz bytes n m c : Nat} {base : Option Addr} {vx : Value} {cells cells2 : List Value} (he : ElemT P sT e sz bytes) (hxT : ∃ e', P.underlying xT = some (.slice e'))
    (hs : ev l s = some (.slice base n c)) (hx : ev l x = some vx) (hS : Rd w sz (.slice base n c) n cells) (hR : Rd w sz vx m cells2) (hb : (2 * (n + m) + 2048) * bytes ≤ 281474976710656) (hby : 0 < bytes)
    (h1 : n + m ≤ c → ∀ a, base = some a → (cells2 = [] ∧ K (.slice base (n + m) c) w) ∨ ∃ b o cs, a = ⟨b, o, none⟩ ∧ Blk w b cs ∧ o + n * sz + cells2.length ≤ cs.length ∧ K (.slice base (n + m) c) (putCells w ⟨b, o + n * sz, none⟩ 0 cells2))
    (h0 : n + m ≤ c → base = none → K (.slice base (n + m) c) w)
    (h2 : c < n + m → ∀ c' zs, n + m ≤ c' → (cells ++ cells2 ++ zs).length = c' * sz → K (.slice (some ⟨w.heap.size, 0, none⟩) (n + m) c') (w.alloc (.cells (cells ++ cells2 ++ zs).toArray e))) :
    (EOp.raw ⟨d, .call ⟨.builtin .append, #[s, x], #[sT, xT]⟩, ty, pos, af, g⟩).W P K l w := by
  intro ρ w0 ha hsim
  have hexec : execOp ρ ⟨d, .call ⟨.builtin .append, #[s, x], #[sT, xT]⟩, ty, pos, af, g⟩ = (do let r ← Builtin.append_ #[sT, xT] ty #[.slice base n c, vx]; pure (Next.value r)) := by
    simp [execOp, resolve, invoke, builtin, ha s _ hs, ha x _ hx]
  have hrun := append_run (P := P) (w := w0) (ty := ty) he hxT (hS.sim hsim) (hR.sim hsim) hb hby
  rcases hrun with ⟨hle, k1, k2⟩ | ⟨hlt, c', zs, w', hc', hlz, hsw, hr⟩
  · cases base with
    | none =>
      refine Eff.value (v := .slice none (n + m) c) (w' := w0) ?_ ⟨w, hsim, h0 hle rfl⟩
      rw [hexec]
      simp [k2 rfl]
    | some a =>
      rcases h1 hle a rfl with ⟨rfl, hK⟩ | ⟨b, o, cs, rfl, hB, hcl, hK⟩
      · refine Eff.value (v := .slice (some a) (n + m) c) (w' := w0) ?_ ⟨w, hsim, hK⟩
        rw [hexec]
        simp [k1 _ rfl, storeCells]
      have hst := storeCells_blk (P := P) (w := w0) (hB.sim hsim) hcl hR.2.1
      refine Eff.value (v := .slice (some ⟨b, o, none⟩) (n + m) c) (w' := putCells w0 ⟨b, o + n * sz, none⟩ 0 cells2) ?_ ⟨_, putCells_sim hsim _ _ _, hK⟩
      rw [hexec]
      simp only [Sem.run_bind, k1 _ rfl, add_none, hst]
      simp
  · refine Eff.value (v := .slice (some ⟨w0.heap.size, 0, none⟩) (n + m) c') (w' := w') ?_ ⟨_, hsw.trans (hsim.push _), ?_⟩
    · rw [hexec]
      simp [hr]
    · rw [hsim.heap]
      exact h2 hlt c' zs hc' hlz

/-! ### append -/
def lslc (L : LH) (sz : Nat) : Value → Option (List Value)
  | .slice none 0 0 => some []
  | .slice (some a) n _ => match n with
    | 0 => match a with
      | ⟨_, _, none⟩ => some []
      | _ => none
    | n + 1 => lcells L a ((n + 1) * sz)
  | _ => none

theorem lslc_ok {X : Nat → Prop} {w0 : World} {E : Emb} {L : LH} {sz n : Nat} {a : Option Addr} {c : Nat} {v' : Value} {vs : List Value} (hR : Rep X w0 E L w) (hv : SR E (.slice a n c) v') (h : lslc L sz (.slice a n c) = some vs) :
    ∃ vs', Rd w sz v' n vs' ∧ L2 (SR E) vs vs' := by
  cases a with
  | none =>
    cases hv
    cases n with
    | succ n => cases h
    | zero =>
    cases c with
    | succ c => cases h
    | zero =>
    cases h
    exact ⟨[], ⟨by simp, fun u hu => by (cases hu), .inl ⟨⟨_, _, rfl⟩, rfl⟩⟩, trivial⟩
  | some a =>
    obtain ⟨hsp, r, hr, hcase⟩ := hv
    obtain ⟨b, o, s⟩ := a
    cases hsp
    simp only [lslc] at h
    cases n with
    | zero =>
      cases h
      refine ⟨[], ⟨by simp, fun u hu => by (cases hu), .inl ⟨?_, rfl⟩⟩, trivial⟩
      rcases hcase with ⟨a', c', rfl, _⟩ | ⟨_, _, _, rfl⟩ <;> exact ⟨_, _, rfl⟩
    | succ n =>
      simp only at h
      rcases hcase with ⟨a', c', rfl, ⟨rfl, rfl⟩ | ⟨h0, _⟩⟩ | ⟨h0, _⟩
      · obtain ⟨cs, vs', hB, _, hle, hvs, h4, h5⟩ := lcells_ok hR (a := ⟨b, o, none⟩) (a' := ⟨r.1, o + r.2.1, none⟩) ⟨rfl, r, hr, rfl⟩ h
        refine ⟨vs', ⟨h5, fun u hu => ?_, .inr ⟨_, _, _, cs, rfl, hB, hle, hvs.symm⟩⟩, h4⟩
        obtain ⟨u0, _, h0⟩ := h4.mem u hu
        exact h0.one.2
      · omega
      · omega
end

def lapp (L : LH) (sz bytes : Nat) (s x : Value) : Option (Value × LH) :=
  match s, x with
  | .slice base n c, .slice bx m cx => match lslc L sz (.slice base n c), lslc L sz (.slice bx m cx) with
    | some cells, some cells2 => bif Nat.ble ((2 * (n + m) + 2048) * bytes) 281474976710656 then (match base with
      | none => bif Nat.beq m 0 then some (.slice none 0 0, L) else fL (L ++ [.cells sz cells2]) fun L' => some (.slice (some ⟨L.length, 0, none⟩) m m, L')
      | some ⟨b, o, _⟩ => match L[b]? with
        | some (.cells bsz vs) => bif Nat.ble (n + m) c then
            (bif Nat.ble (o + c * sz) vs.length then fL (lspl vs (o + n * sz) cells2) fun us => fL (L.set b (.cells bsz us)) fun L => some (.slice (some ⟨b, o, none⟩) (n + m) c, L) else none)
          else bif Nat.beq bsz 0 then fL (cells ++ cells2) fun us => fL (L ++ [.cells sz us]) fun L' => some (.slice (some ⟨L.length, 0, none⟩) (n + m) (n + m), L')
          else bif Nat.beq bsz sz && Nat.ble (o + c * sz) vs.length && Nat.ble n c then fL (cells ++ cells2) fun us => fL (L.set b .dead ++ [.cells sz us]) fun L' => some (.slice (some ⟨L.length, 0, none⟩) (n + m) (n + m), L') else none
        | some (.gro bsz vs) => bif Nat.beq bsz sz && Nat.beq o 0 && Nat.beq n c && Nat.beq vs.length (n * sz) && vs.all stillS && cells2.all stillS then some (.slice (some ⟨L.length, 0, none⟩) (n + m) (n + m), L.set b .dead ++ [.gro sz (vs ++ cells2)]) else none
        | _ => none) else none
    | _, _ => none
  | _, _ => none

section
variable {X : Nat → Prop} {w0 w w' : World} {E : Emb} {L : LH}

theorem Rep.kill (h : Rep X w0 E L w) (b : Nat) : Rep X w0 E (L.set b .dead) w := by
  refine h.weak (by simp) fun k z hz => ?_
  rw [List.getElem?_set] at hz
  split at hz
  · split at hz <;> cases hz; exact .inl rfl
  · exact .inr hz

/-- the block r.1, whose own number is dead, comes by a new number -/
theorem Rep.again {b : Nat} {y x : LB} {r r' : Nat × Nat × Nat} (h : Rep X w0 E L w) (hy : L[b]? = some y) (hr : E[b]? = some r) (hf : Fr (foot r y) w w') (hft : ∀ c, foot r' x c → foot r y c ∨ (w.heap.size ≤ c ∧ c < w'.heap.size)) (hx : LBis (E ++ [r']) w' r' x) : Rep X w0 (E ++ [r']) (L.set b .dead ++ [x]) w' := by
  have hk : Rep X w0 E (L.set b .dead) w' := h.upd hy hr hf trivial (fun c hc => hc.elim)
  have hlt := (List.getElem?_eq_some_iff.1 hy).1
  have cut : ∀ (k : Nat) (z : LB) (q : Nat × Nat × Nat), (L.set b .dead ++ [x])[k]? = some z → (E ++ [r'])[k]? = some q → ((L.set b .dead)[k]? = some z ∧ E[k]? = some q) ∨ (k = E.length ∧ z = x ∧ q = r') := by
    intro k z q hz hq
    rw [List.getElem?_append] at hz hq
    rw [List.length_set, ← h.len] at hz
    split at hq
    · rename_i hlt; rw [if_pos hlt] at hz; exact .inl ⟨hz, hq⟩
    · rename_i hlt
      rw [if_neg hlt] at hz
      have : k = E.length := by
        have := (List.getElem?_eq_some_iff.1 hq).1
        simp at this; omega
      subst this
      simp at hq hz
      exact .inr ⟨rfl, hz.symm, hq.symm⟩
  have alive : ∀ (k : Nat) (z : LB) (q : Nat × Nat × Nat) (c : Nat), (L.set b .dead)[k]? = some z → E[k]? = some q → foot q z c → foot r' x c → False := by
    intro k z q c hz hq h1 h2
    have hzz := hz
    rw [List.getElem?_set] at hz
    by_cases hbk : b = k
    · subst hbk
      rw [if_pos rfl, if_pos hlt] at hz; cases hz; exact h1
    · rw [if_neg hbk] at hz
      rcases hft c h2 with h3 | h3
      · exact hbk (h.inj b k y z r q c hy hz hr hq h3 h1)
      · have := (h.rng k z q hz hq c h1).2; omega
  have frs := h.fr.size
  refine ⟨hk.fr, by simp [h.len], fun k z q hz hq c hc => ?_, fun k z q hz hq => ?_, fun k k' z z' r1 r2 c hz hz' h1 h2 e1 e2 => ?_⟩
  · rcases cut k z q hz hq with ⟨a0, a1⟩ | ⟨_, rfl, rfl⟩
    · exact hk.rng k z q a0 a1 c hc
    · rcases hft c hc with h3 | h3
      · have := h.rng b y r hy hr c h3; exact ⟨this.1, Nat.lt_of_lt_of_le this.2 hf.size⟩
      · exact ⟨.inl (by omega), h3.2⟩
  · rcases cut k z q hz hq with ⟨g0, g1⟩ | ⟨rfl, rfl, rfl⟩
    · exact (hk.blk k z q g0 g1).ext (Ext.push E r')
    · exact hx
  · rcases cut k z r1 hz h1 with ⟨a0, a1⟩ | ⟨rfl, rfl, rfl⟩
    · rcases cut k' z' r2 hz' h2 with ⟨b0, b1⟩ | ⟨rfl, rfl, rfl⟩
      · exact hk.inj k k' z z' r1 r2 c a0 b0 a1 b1 e1 e2
      · exact (alive k z r1 c a0 a1 e1 e2).elim
    · rcases cut k' z' r2 hz' h2 with ⟨b0, b1⟩ | ⟨rfl, rfl, rfl⟩
      · exact (alive k' z' r2 c b0 b1 e2 e1).elim
      · rfl

theorem lapp_ok {P : Program} {l : Env} {K : Value → World → Prop} {d : Option Tmp} {pos : String} {af : Array Edge} {g : Option (Nat × Bool)} {s x : Operand} {sT xT ty e : TypeId} {sz bytes : Nat} {vs vx vs' vx' v : Value} {L' : LH} (he : ElemT P sT e sz bytes) (hxT : ∃ e', P.underlying xT = some (.slice e')) (hby : 0 < bytes)
    (hsz : 0 < sz) (hR : Rep X w0 E L w) (hs : ev l s = some vs') (hx : ev l x = some vx') (hsr : VR E vs vs') (hxr : VR E vx vx') (h : lapp L sz bytes vs vx = some (v, L'))
    (hK : ∀ w' E' v', Ext E E' → Rep X w0 E' L' w' → VR E' v v' → K v' w') : (EOp.raw ⟨d, .call ⟨.builtin .append, #[s, x], #[sT, xT]⟩, ty, pos, af, g⟩).W P K l w := by
  unfold lapp at h
  simp only [fL_eq] at h
  split at h <;> first | (cases h; done) | skip
  rename_i base n c bx m cx
  split at h <;> first | (cases h; done) | skip
  rename_i cells cells2 hc1 hc2
  cases hbd : Nat.ble ((2 * (n + m) + 2048) * bytes) 281474976710656
  · rw [hbd] at h; cases h
  rw [hbd] at h
  simp only [cond_true] at h
  have hbd := Nat.le_of_ble_eq_true hbd
  obtain ⟨us, hrd1, hl1⟩ := lslc_ok hR (hsr.sr rfl) hc1
  obtain ⟨us2, hrd2, hl2⟩ := lslc_ok hR (hxr.sr rfl) hc2
  have hlen1 : us.length = n * sz := hrd1.1
  have hlen2 : us2.length = m * sz := hrd2.1
  -- what a new block is
  have fresh : ∀ (Lb : LH), Rep X w0 E Lb w → ∀ (c' : Nat) (zs : List Value), n + m ≤ c' → (us ++ us2 ++ zs).length = c' * sz →
      Rep X w0 (E ++ [(w.heap.size, 0, c' - (n + m))]) (Lb ++ [.cells sz (cells ++ cells2)]) (w.alloc (.cells (us ++ us2 ++ zs).toArray e)) := by
    intro Lb hRb c' zs hc' hlz
    refine hRb.push1 (Fr.alloc _ _ _) rfl (alloc_size _ _) (fun _ h => h) ⟨_, Blk.new w _ e, ?_, ?_, fun e => by omega⟩
    · have hl := (hl1.append hl2).length
      simp only [List.drop_zero]
      rw [← hl, List.take_append_of_le_length (Nat.le_refl _), List.take_length]
      exact (hl1.append hl2).mono fun _ _ => SR.ext (Ext.push E _)
    · have hl := (hl1.append hl2).length
      rw [← hl, hlz]
      simp only [List.length_append, hlen1, hlen2]
      rw [Nat.zero_add, ← Nat.add_mul, ← Nat.add_mul]
      exact Nat.mul_le_mul_right _ (by omega)
  have freshG : ∀ (Lb : LH) (xs : List Value), Rep X w0 E Lb w → us ++ us2 = xs → xs ≠ [] → ∀ (c' : Nat) (zs : List Value), n + m ≤ c' → (us ++ us2 ++ zs).length = c' * sz →
      Rep X w0 (E ++ [(w.heap.size, 0, c' - (n + m))]) (Lb ++ [.gro sz xs]) (w.alloc (.cells (us ++ us2 ++ zs).toArray e)) := by
    intro Lb xs hRb hxs hne c' zs hc' hlz
    subst hxs
    refine hRb.push1 (Fr.alloc _ _ _) rfl (alloc_size _ _) (fun b hb => ?_) (.inr ⟨hne, hsz, _, Blk.new w _ e, ?_, ?_⟩)
    · cases hq : us ++ us2 with
      | nil => exact absurd hq hne
      | cons y ys => rw [hq] at hb; exact hb
    · simp only [List.drop_zero]
      rw [List.take_append_of_le_length (Nat.le_refl _), List.take_length]
    · rw [hlz]
      simp only [List.length_append, hlen1, hlen2]
      rw [Nat.zero_add, ← Nat.add_mul, ← Nat.add_mul]
      exact Nat.mul_le_mul_right _ (by omega)
  have slcNew : ∀ (Lb : LH), Rep X w0 E Lb w → ∀ c', n + m ≤ c' → VR (E ++ [(w.heap.size, 0, c' - (n + m))]) (.slice (some ⟨Lb.length, 0, none⟩) (n + m) (n + m)) (.slice (some ⟨w.heap.size, 0, none⟩) (n + m) c') := by
    intro Lb hRb c' hc'
    exact ⟨rfl, _, hRb.last _, .inl ⟨_, _, rfl, .inl ⟨by simp, by simp; omega⟩⟩⟩
  cases base with
  | none =>
    have hvs := hsr.sr rfl
    cases hvs
    obtain ⟨rfl, rfl⟩ : n = 0 ∧ c = 0 := by
      cases n with
      | succ n => cases hc1
      | zero => cases c with
        | succ c => cases hc1
        | zero => exact ⟨rfl, rfl⟩
    refine append_any he hxT hs hx hrd1 hrd2 hbd hby (fun _ a ha => by cases ha) (fun hle _ => ?_) (fun hlt c' zs hc' hlz => ?_)
    · have : m = 0 := by omega
      subst this
      simp only [Nat.beq_refl, cond_true] at h
      cases h
      exact hK _ _ _ (Ext.refl E) hR rfl
    · have hm : Nat.beq m 0 = false := by
        cases hq : Nat.beq m 0
        · rfl
        · have := Nat.eq_of_beq_eq_true hq; omega
      simp only [hm, cond_false] at h
      cases h
      have hce : cells = [] := by
        have := hl1.length
        simp at hlen1
        subst hlen1
        cases cells with
        | nil => rfl
        | cons => simp at this
      have k1 := fresh L hR c' zs hc' hlz
      have k2 := slcNew L hR c' hc'
      rw [hce] at k1
      simp only [Nat.zero_add, List.nil_append] at k1 k2 ⊢
      exact hK _ _ _ (Ext.push E _) k1 k2
  | some a =>
    obtain ⟨b, o, s0⟩ := a
    obtain ⟨hsp, r, hr, ⟨a', c', rfl, hcase⟩ | ⟨hn0, hc0, hnil⟩⟩ := hsr.sr rfl
    rotate_left
    · -- it is nil
      cases hsp
      obtain ⟨ax, rfl⟩ := hnil
      subst hn0; subst hc0
      simp only at h hr
      have hce : cells = [] := by
        have := hl1.length
        simp at hlen1
        subst hlen1
        cases cells with
        | nil => rfl
        | cons => simp at this
      subst hce
      cases hb : L[b]? with
      | none => rw [hb] at h; cases h
      | some y =>
        rw [hb] at h
        cases y <;> first | (cases h; done) | skip
        case gro bsz gs =>
          simp only at h
          cases hck : (Nat.beq bsz sz && Nat.beq o 0 && Nat.beq 0 0 && Nat.beq gs.length (0 * sz) && gs.all stillS && cells2.all stillS)
          · rw [hck] at h; cases h
          rw [hck] at h
          cases h
          simp only [Bool.and_eq_true] at hck
          have hgs : gs = [] := List.length_eq_zero_iff.1 (by have := Nat.eq_of_beq_eq_true hck.1.1.2; simpa using this)
          subst hgs
          have hu2 : us2 = cells2 := L2.eq_still hck.2 hl2
          have hu1 : us = [] := List.length_eq_zero_iff.1 (by rw [hlen1]; simp)
          subst hu1
          have none0 : 0 + m ≤ 0 → us2 = [] ∧ K (.slice ax (0 + m) 0) w := fun hle => by
            have : m = 0 := by omega
            subst this
            have hc2e : cells2 = [] := List.length_eq_zero_iff.1 (by rw [← hu2, hlen2]; simp)
            subst hc2e
            exact ⟨hu2, hK _ (E ++ [(0, 0, 0)]) _ (Ext.push E _) (hR.again hb hr (Fr.refl _ w) (fun c hc => hc.elim) (.inl ⟨rfl, rfl⟩)) ⟨rfl, _, hR.last _, .inr ⟨rfl, rfl, ax, rfl⟩⟩⟩
          refine append_any he hxT hs hx hrd1 hrd2 hbd hby (fun hle _ _ => .inl (none0 hle)) (fun hle _ => (none0 hle).2) (fun hlt c' zs hc' hlz => ?_)
          · have hne : cells2 ≠ [] := by
              intro e
              rw [← hu2] at e
              rw [e] at hlen2
              have : 0 < m * sz := Nat.mul_pos (by omega) hsz
              simp at hlen2
              omega
            have k1 := freshG _ ([] ++ cells2) (hR.kill b) (by rw [hu2]) hne c' zs hc' hlz
            have k2 := slcNew _ (hR.kill b) c' hc'
            simp only [List.length_set] at k2
            exact hK _ _ _ (Ext.push E _) k1 k2
        case cells bsz bs =>
        simp only at h
        have none0 : 0 + m ≤ 0 → us2 = [] ∧ K (.slice ax (0 + m) 0) w := fun hle => by
          have : m = 0 := by omega
          subst this
          have hu2 : us2 = [] := List.length_eq_zero_iff.1 (by rw [hlen2]; simp)
          subst hu2
          have hc2e : cells2 = [] := List.length_eq_zero_iff.1 (by have := hl2.length; simpa using this.symm)
          subst hc2e
          have h00 : Nat.ble (0 + 0) 0 = true := rfl
          rw [h00] at h
          simp only [Nat.add_zero, cond_true, Nat.zero_mul] at h
          cases hck : Nat.ble o bs.length
          · rw [hck] at h; cases h
          rw [hck] at h
          cases h
          have hsame : lspl bs o [] = bs := by unfold lspl; simp
          rw [hsame] at hK
          refine ⟨rfl, hK _ _ _ (Ext.refl E) ?_ ⟨rfl, r, hr, .inr ⟨rfl, rfl, ax, rfl⟩⟩⟩
          have : L.set b (.cells bsz bs) = L := by
            apply List.ext_getElem?
            intro i
            rw [List.getElem?_set]
            split
            · rename_i e; subst e; rw [hb, if_pos (List.getElem?_eq_some_iff.1 hb).1]
            · rfl
          rw [this]; exact hR
        refine append_any he hxT hs hx hrd1 hrd2 hbd hby (fun hle _ _ => .inl (none0 hle)) (fun hle _ => (none0 hle).2) (fun hlt c' zs hc' hlz => ?_)
        · have hm : Nat.ble (0 + m) 0 = false := by
            cases hq : Nat.ble (0 + m) 0
            · rfl
            · have := Nat.le_of_ble_eq_true hq; omega
          rw [hm] at h
          simp only [cond_false] at h
          cases hex : Nat.beq bsz 0
          · rw [hex] at h
            simp only [cond_false] at h
            cases hck : (Nat.beq bsz sz && Nat.ble (o + 0 * sz) bs.length && Nat.ble 0 0)
            · rw [hck] at h; cases h
            rw [hck] at h
            simp only [cond_true] at h
            cases h
            have k1 := fresh _ (hR.kill b) c' zs hc' hlz
            have k2 := slcNew _ (hR.kill b) c' hc'
            simp only [List.length_set] at k2
            exact hK _ _ _ (Ext.push E _) k1 k2
          · rw [hex] at h
            simp only [cond_true] at h
            cases h
            exact hK _ _ _ (Ext.push E _) (fresh L hR c' zs hc' hlz) (slcNew L hR c' hc')
    cases hsp
    simp only at h hr
    cases hb : L[b]? with
    | none => rw [hb] at h; cases h
    | some y =>
      rw [hb] at h
      cases y <;> first | (cases h; done) | skip
      case gro bsz gs =>
        simp only at h
        cases hck : (Nat.beq bsz sz && Nat.beq o 0 && Nat.beq n c && Nat.beq gs.length (n * sz) && gs.all stillS && cells2.all stillS)
        · rw [hck] at h; cases h
        rw [hck] at h
        cases h
        simp only [Bool.and_eq_true] at hck
        have e1 := Nat.eq_of_beq_eq_true hck.1.1.1.1.1
        have e2 := Nat.eq_of_beq_eq_true hck.1.1.1.1.2
        have e3 := Nat.eq_of_beq_eq_true hck.1.1.1.2
        have e4 := Nat.eq_of_beq_eq_true hck.1.1.2
        subst e1; subst e2; subst e3
        have hu2 : us2 = cells2 := L2.eq_still hck.2 hl2
        rcases hR.blk b _ r hb hr with ⟨rfl, hr2⟩ | ⟨hne, _, cs, hB, hcs, hroom⟩
        · have hn0 : n = 0 := by
            rcases Nat.eq_zero_or_pos n with h0 | h0
            · exact h0
            · have : 0 < n * bsz := Nat.mul_pos h0 hsz
              simp at e4; omega
          subst hn0
          have hc0 : c' = 0 := by rcases hcase with ⟨_, rfl⟩ | ⟨_, _, rfl, _⟩ <;> omega
          subst hc0
          have hu1 : us = [] := List.length_eq_zero_iff.1 (by rw [hlen1]; simp)
          subst hu1
          have hblk : a'.spot = none := by rcases hcase with ⟨rfl, _⟩ | ⟨_, _, _, o', rfl, _⟩ <;> rfl
          have hab : ∃ o', a' = ⟨r.1, o', none⟩ ∧ o' ≤ 0 + r.2.1 := by 
            rcases hcase with ⟨rfl, _⟩ | ⟨_, _, _, o', rfl, ho⟩
            · exact ⟨_, rfl, Nat.le_refl _⟩
            · exact ⟨_, rfl, ho⟩
          refine append_any he hxT hs hx hrd1 hrd2 hbd hby (fun hle a ha => .inl ?_) (fun _ ha => by cases ha) (fun hlt c'' zs hc'' hlz => ?_)
          · have : m = 0 := by omega
            subst this
            have hc2e : cells2 = [] := List.length_eq_zero_iff.1 (by rw [← hu2, hlen2]; simp)
            subst hc2e
            refine ⟨hu2, hK _ (E ++ [r]) _ (Ext.push E _) (hR.again hb hr (Fr.refl _ w) (fun c hc => hc.elim) (.inl ⟨rfl, hr2⟩)) ?_⟩
            obtain ⟨o', rfl, ho'⟩ := hab
            exact ⟨rfl, r, hR.last _, .inl ⟨_, _, rfl, .inr ⟨rfl, rfl, rfl, o', rfl, by simpa using ho'⟩⟩⟩
          · have hne : cells2 ≠ [] := by
              intro e
              rw [← hu2] at e
              rw [e] at hlen2
              have : 0 < m * bsz := Nat.mul_pos (by omega) hsz
              simp at hlen2
              omega
            have k1 := freshG _ ([] ++ cells2) (hR.kill b) (by rw [hu2]) hne c'' zs hc'' hlz
            have k2 := slcNew _ (hR.kill b) c'' hc''
            simp only [List.length_set] at k2
            exact hK _ _ _ (Ext.push E _) k1 k2
        · have hn0 : 0 < n := by
            rcases Nat.eq_zero_or_pos n with h0 | h0
            · subst h0; simp at e4; exact absurd e4 hne
            · exact h0
          rcases hcase with ⟨rfl, rfl⟩ | ⟨h0, _⟩
          rotate_left
          · omega
          have hus : us = gs := by
            rcases hrd1.2.2 with ⟨⟨_, _, e⟩, h0⟩ | ⟨b1, o1, c1, cs1, e, hB1, _, h5⟩
            · omega
            · cases e
              rw [← h5, ← hB.eq hB1, ← e4]
              simpa using hcs
          subst hus
          have hne2 : us ++ cells2 ≠ [] := by
            intro e
            rw [List.append_eq_nil_iff] at e
            exact hne e.1
          refine append_any he hxT hs hx hrd1 hrd2 hbd hby (fun hle' a ha => .inr ?_) (fun _ ha => by cases ha) (fun hlt' c'' zs hc'' hlz => ?_)
          · cases ha
            have hsp : n * bsz + m * bsz ≤ n * bsz + r.2.2 * bsz := by
              rw [← Nat.add_mul, ← Nat.add_mul]; exact Nat.mul_le_mul_right _ hle'
            have hcl : 0 + r.2.1 + n * bsz + us2.length ≤ cs.length := by omega
            refine ⟨_, _, cs, rfl, hB, hcl, hK _ (E ++ [(r.1, 0 + r.2.1, n + r.2.2 - (n + m))]) _ (Ext.push E _) ?_ ?_⟩
            · refine hR.again hb hr ((putCells_fr (p := ⟨r.1, 0 + r.2.1 + n * bsz, none⟩) us2 0 w).mono fun c _ hc => ?_) (fun c hc => .inl ?_) (.inr ⟨hne2, hsz, _, putCells_blk us2 0 w cs hB (by omega), ?_, ?_⟩)
              · cases us with
                | nil => exact absurd rfl hne
                | cons => exact hc
              · cases us with
                | nil => exact absurd rfl hne
                | cons => exact hc
              · have := take_splice (cs := cs) (o := 0 + r.2.1) (k := n * bsz) (b := us2) (a := us) hcl (by rw [← e4]; simpa using hcs)
                rw [← hu2, List.length_append, hlen1, Nat.add_zero]
                exact this
              · rw [← hu2, List.length_append, hlen1, hlen2, Nat.add_zero, splice_length hcl]
                have e5 : n * bsz + m * bsz + (n + r.2.2 - (n + m)) * bsz = n * bsz + r.2.2 * bsz := by
                  rw [← Nat.add_mul, ← Nat.add_mul, ← Nat.add_mul]; congr 1; omega
                show 0 + r.2.1 + (n * bsz + m * bsz) + (n + r.2.2 - (n + m)) * bsz ≤ cs.length
                omega
            · exact ⟨rfl, (r.1, 0 + r.2.1, n + r.2.2 - (n + m)), hR.last _, .inl ⟨_, _, rfl, .inl ⟨by simp, by simp; omega⟩⟩⟩
          · have k1 := freshG _ (us ++ cells2) (hR.kill b) (by rw [hu2]) hne2 c'' zs hc'' hlz
            have k2 := slcNew _ (hR.kill b) c'' hc''
            simp only [List.length_set] at k2
            exact hK _ _ _ (Ext.push E _) k1 k2
      case cells bsz bs =>
      simp only at h
      obtain ⟨cs, hB, hbl, hroom, hz⟩ := hR.blk b _ r hb hr
      have hbll := hbl.length
      cases hle : Nat.ble (n + m) c
      · have hlt : c < n + m := by
          rcases Nat.lt_or_ge c (n + m) with h1 | h1
          · exact h1
          · rw [Nat.ble_eq_true_of_le h1] at hle; cases hle
        rw [hle] at h
        simp only [cond_false] at h
        cases hex : Nat.beq bsz 0
        · -- there may be room
          rw [hex] at h
          simp only [cond_false] at h
          cases hck : (Nat.beq bsz sz && Nat.ble (o + c * sz) bs.length && Nat.ble n c)
          · rw [hck] at h; cases h
          rw [hck] at h
          simp only [cond_true] at h
          cases h
          simp only [Bool.and_eq_true] at hck
          have e1 := Nat.eq_of_beq_eq_true hck.1.1
          have e2 := Nat.le_of_ble_eq_true hck.1.2
          have e3 := Nat.le_of_ble_eq_true hck.2
          subst e1
          refine append_any he hxT hs hx hrd1 hrd2 hbd hby (fun hle' a ha => .inr ?_) (fun _ ha => by cases ha) (fun hlt' c'' zs hc'' hlz => ?_)
          · cases ha
            rcases hcase with ⟨rfl, rfl⟩ | ⟨rfl, rfl, rfl, _⟩
            · have hsp : n * bsz + m * bsz ≤ c * bsz + r.2.2 * bsz := by
                rw [← Nat.add_mul, ← Nat.add_mul]; exact Nat.mul_le_mul_right _ hle'
              have hcl : o + r.2.1 + n * bsz + us2.length ≤ cs.length := by omega
              refine ⟨_, _, cs, rfl, hB, hcl, hK _ (E ++ [(r.1, o + r.2.1, c + r.2.2 - (n + m))]) _ (Ext.push E _) ?_ ?_⟩
              · refine hR.again hb hr (putCells_fr (p := ⟨r.1, o + r.2.1 + n * bsz, none⟩) us2 0 w) (fun c hc => .inl hc) ⟨_, putCells_blk us2 0 w cs hB (by omega), ?_, ?_, fun e => by omega⟩
                · have hll := (hl1.append hl2).length
                  have hus : us = (cs.drop (o + r.2.1)).take (n * bsz) := by
                    rcases hrd1.2.2 with ⟨_, h0⟩ | ⟨b1, o1, c1, cs1, e, hB1, _, h5⟩
                    · subst h0; simp at hlen1; subst hlen1; simp
                    · cases e
                      rw [hB.eq hB1]; exact h5.symm
                  have := take_splice (cs := cs) (o := o + r.2.1) (k := n * bsz) (b := us2) (a := us) hcl hus.symm
                  rw [← hll, List.length_append, hlen1]
                  rw [Nat.add_zero, this]
                  exact (hl1.append hl2).mono fun _ _ => SR.ext (Ext.push E _)
                · have hll := (hl1.append hl2).length
                  rw [← hll, List.length_append, hlen1, hlen2, Nat.add_zero, splice_length hcl]
                  have e4 : n * bsz + m * bsz + (c + r.2.2 - (n + m)) * bsz = c * bsz + r.2.2 * bsz := by
                    rw [← Nat.add_mul, ← Nat.add_mul, ← Nat.add_mul]; congr 1; omega
                  show o + r.2.1 + (n * bsz + m * bsz) + (c + r.2.2 - (n + m)) * bsz ≤ cs.length
                  omega
              · exact ⟨rfl, (r.1, o + r.2.1, c + r.2.2 - (n + m)), hR.last _, .inl ⟨_, _, rfl, .inl ⟨by simp, by simp; omega⟩⟩⟩
            · omega
          · have k1 := fresh _ (hR.kill b) c'' zs hc'' hlz
            have k2 := slcNew _ (hR.kill b) c'' hc''
            simp only [List.length_set] at k2
            exact hK _ _ _ (Ext.push E _) k1 k2
        · -- there is none
          rw [hex] at h
          simp only [cond_true] at h
          cases h
          have hd0 := hz (Nat.eq_of_beq_eq_true hex)
          refine append_any he hxT hs hx hrd1 hrd2 hbd hby (fun hle' a ha => ?_) (fun _ ha => by cases ha) (fun hlt' c'' zs hc'' hlz => ?_)
          · rcases hcase with ⟨_, rfl⟩ | ⟨rfl, rfl, rfl, _⟩ <;> omega
          · exact hK _ _ _ (Ext.push E _) (fresh L hR c'' zs hc'' hlz) (slcNew L hR c'' hc'')
      · -- in its place
        rw [hle] at h
        have hle := Nat.le_of_ble_eq_true hle
        simp only [cond_true] at h
        cases hck : Nat.ble (o + c * sz) bs.length
        · rw [hck] at h; cases h
        rw [hck] at h
        cases h
        have e2 := Nat.le_of_ble_eq_true hck
        have hcm : n * sz + m * sz ≤ c * sz := by rw [← Nat.add_mul]; exact Nat.mul_le_mul_right _ hle
        refine append_any he hxT hs hx hrd1 hrd2 hbd hby (fun hle' a ha => .inr ?_) (fun _ ha => by cases ha) (fun hlt' c'' zs hc'' hlz => ?_)
        · cases ha
          rcases hcase with ⟨rfl, rfl⟩ | ⟨rfl, rfl, rfl, o', rfl, ho'⟩
          · have hcl : o + r.2.1 + n * sz + us2.length ≤ cs.length := by omega
            refine ⟨_, _, cs, rfl, hB, hcl, hK _ E _ (Ext.refl E) ?_ ⟨rfl, r, hr, .inl ⟨_, _, rfl, .inl ⟨rfl, rfl⟩⟩⟩⟩
            have hc2l := hl2.length
            have hll : (lspl bs (o + n * sz) cells2).length = bs.length := by
              unfold lspl; simp; omega
            refine hR.upd hb hr (putCells_fr (p := ⟨r.1, o + r.2.1 + n * sz, none⟩) us2 0 w) ⟨_, putCells_blk us2 0 w cs hB (by omega), ?_, ?_, hz⟩ (fun _ h => .inl h)
            · have h3 := L2_splice (o := o + n * sz) hbl hl2
              have e : ((splice cs (o + r.2.1 + n * sz + 0) us2).drop r.2.1).take bs.length = splice ((cs.drop r.2.1).take bs.length) (o + n * sz) us2 := by
                rw [Nat.add_zero, splice_drop hcl (by omega), show o + r.2.1 + n * sz - r.2.1 = o + n * sz by omega, splice_take (by omega) (by simp; omega)]
              rw [hll, e]; exact h3
            · rw [hll, Nat.add_zero, splice_length hcl]; exact hroom
          · have hm : m = 0 := by omega
            subst hm
            have hu2 : us2 = [] := List.length_eq_zero_iff.1 (by rw [hlen2]; simp)
            subst hu2
            have hc2e : cells2 = [] := List.length_eq_zero_iff.1 (by have := hl2.length; simpa using this.symm)
            subst hc2e
            have hsame : lspl bs (o + 0 * sz) [] = bs := by unfold lspl; simp
            rw [hsame] at hK
            refine ⟨_, _, cs, rfl, hB, by simp; simp at ho'; omega, hK _ E _ (Ext.refl E) ?_ ⟨rfl, r, hr, .inl ⟨_, _, rfl, .inr ⟨rfl, rfl, rfl, o', rfl, ho'⟩⟩⟩⟩
            exact hR.upd hb hr (Fr.refl _ w) (hR.blk b _ r hb hr) (fun _ h => .inl h)
        · rcases hcase with ⟨_, rfl⟩ | ⟨rfl, rfl, rfl, _⟩ <;> omega
end
end Go.Tum
