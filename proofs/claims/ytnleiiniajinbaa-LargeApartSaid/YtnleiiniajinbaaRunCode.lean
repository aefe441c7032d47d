/-
  Runs by reckoning: operations that change the world; regions; code; calls.
-/
import Derived.Test.YtnleiiniajinbaaSub
namespace Go.Tum
open Go

/-! ### effects -/
abbrev CallF := FuncId → List Value → LH → Option (Value × LH)
abbrev RawQ := LH → Env → Oper → Option Value
abbrev RawE := LH → Env → Oper → Option (Value × LH)

theorem S0.vr {E : Emb} {v v' : Value} (h : S0 E v v') : VR E v v' := by
  cases v <;> first | exact h | exact h.elim

def lspl (cs : List Value) (o : Nat) (vs : List Value) : List Value := cs.take o ++ vs ++ cs.drop (o + vs.length)

def le (call : CallF) (rawE : RawE) (L : LH) (l : Env) : EOp → Option (Value × LH)
  | .st x v => match lptr l x, lv l v with
    | some ⟨b, o, none⟩, some u => bif one u then (match L[b]? with
      | some (.cells sz vs) => bif Nat.blt o vs.length then fL (vs.set o u) fun us => fL (L.set b (.cells sz us)) fun L => some (undef, L) else none
      | some (.bytes n x) => (match u with
        | .int .u8 (.ofNat c) => bif Nat.blt o n && Nat.blt c 256 then fN (bset x o c) fun x => fL (L.set b (.bytes n x)) fun L => some (undef, L) else none
        | _ => none)
      | _ => none) else none
    | _, _ => none
  | .stn x v n => match lptr l x, lv l v with
    | some ⟨b, o, none⟩, some (.agg ⟨us⟩) => bif Nat.beq us.length n then (match L[b]? with
      | some (.cells sz vs) => bif Nat.ble (o + n) vs.length then fL (lspl vs o us) fun us => fL (L.set b (.cells sz us)) fun L => some (undef, L) else none
      | _ => none) else none
    | _, _ => none
  | .new _ zero => bif zero.all stillS then fV (.pointer (some ⟨L.length, 0, none⟩)) fun p => fL (L ++ [.cells 0 zero]) fun L => some (p, L) else none
  | .box _ x => match lv l x with
    | some u => bif notTup u then fV (.pointer (some ⟨L.length, 0, none⟩)) fun p => fL u.cells.toList fun us => fL (L ++ [.cells 0 us]) fun L => some (p, L) else none
    | none => none
  | .bs0 _ => some (.slice (some ⟨L.length, 0, none⟩) 0 0, L ++ [.cells 0 []])
  | .bs1 _ n x => match lv l x with
    | some u => bif notTup u && Nat.beq u.cells.toList.length n then some (.slice (some ⟨L.length, 0, none⟩) 1 1, L ++ [.cells 0 u.cells.toList]) else none
    | none => none
  | .call f args => match lvs l args with
    | some vs => call f vs L
    | none => none
  | .callv x args => match lv l x, lvs l args with
    | some (.func (.func f) ⟨a⟩ ⟨c⟩), some vs => call f (a ++ vs ++ c) L
    | _, _ => none
  | .raw o => rawE L l o

abbrev HypW := (Nat → Prop) → World → Prop
/-- H: what is known of the world in which it began -/
def CallAt (X : Nat → Prop) (w0 : World) (P : Program) (call : CallF) : Prop :=
  ∀ w E L f vs vs' v L', call f vs L = some (v, L') → Rep X w0 E L w → L2 (VR E) vs vs' → callable P f = true ∧ Does P f vs'.toArray w fun v' w' => ∃ E', Ext E E' ∧ VR E' v v' ∧ Rep X w0 E' L' w'
def CallOk (H : HypW) (P : Program) (call : CallF) : Prop := ∀ X w0, H X w0 → CallAt X w0 P call
def RawEOk (P : Program) (rawE : RawE) : Prop :=
  ∀ X w0 w E L l l' o v L' K, rawE L l o = some (v, L') → Rep X w0 E L w → ER E l l' → (∀ w' E' v', Ext E E' → Rep X w0 E' L' w' → VR E' v v' → K v' w') → (EOp.raw o).W P K l' w

theorem alloc_size (w : World) (o : Obj) : (w.alloc o).heap.size = w.heap.size + 1 := by show (w.heap.push o).size = _; simp
theorem setCell_size (w : World) (p : Addr) (v : Value) : (w.setCell p v).heap.size = w.heap.size := by simp [World.setCell]
theorem putCells_size (p : Addr) : ∀ (vs : List Value) (i : Nat) (w : World), (putCells w p i vs).heap.size = w.heap.size
  | [], _, _ => rfl
  | v :: r, i, w => by simp only [putCells]; rw [putCells_size p r (i + 1), setCell_size]

theorem splice_drop {cs vs : List Value} {o k : Nat} (h : k + vs.length ≤ cs.length) (hk : o ≤ k) : (splice cs k vs).drop o = splice (cs.drop o) (k - o) vs := by
  unfold splice
  rw [List.drop_append, List.drop_append, List.drop_take, List.drop_drop]
  have h1 : (cs.take k).length = k := by simp; omega
  rw [h1, Nat.sub_eq_zero_of_le hk, List.drop_zero]
  congr 1
  simp only [List.length_append, h1]
  have : o - (k + vs.length) = 0 := by omega
  rw [this, List.drop_drop]
  congr 1; omega
theorem splice_take {cs vs : List Value} {k n : Nat} (h : k + vs.length ≤ n) (hn : n ≤ cs.length) : (splice cs k vs).take n = splice (cs.take n) k vs := by
  unfold splice
  have h1 : (cs.take k).length = k := by simp; omega
  have h2 : (cs.take k ++ vs).length = k + vs.length := by simp [h1]
  have e1 : (cs.take k).take n = (cs.take n).take k := by rw [List.take_take, List.take_take, Nat.min_comm]
  rw [List.take_append, List.take_append, e1, h1, h2, List.drop_take, List.take_of_length_le (l := vs) (by omega)]

theorem L2_splice {R : Value → Value → Prop} {vs vs' us us' : List Value} {o : Nat} (h : L2 R vs vs') (k : L2 R us us') : L2 R (lspl vs o us) (splice vs' o us') := by
  unfold lspl splice
  rw [k.length]
  exact ((h.take o).append k).append (h.drop _)

theorem new_rep {X : Nat → Prop} {w0 w : World} {E : Emb} {L : LH} (hR : Rep X w0 E L w) {cs : Array Value} {t : TypeId} {vs : List Value} (h : L2 (SR E) vs cs.toList) : Rep X w0 (E ++ [(w.heap.size, 0, 0)]) (L ++ [.cells 0 vs]) (w.alloc (.cells cs t)) := by
  refine hR.push1 (Fr.alloc _ _ _) rfl (alloc_size _ _) (fun _ h => h) ⟨cs.toList, Blk.newA w cs t, ?_, ?_, fun _ => rfl⟩
  · have hl := h.length
    simp only [List.drop_zero]
    rw [List.take_of_length_le (by omega)]
    exact h.mono fun _ _ => SR.ext (Ext.push E _)
  · have hl := h.length
    simp at hl ⊢; omega
theorem Rep.last {X : Nat → Prop} {w0 w : World} {E : Emb} {L : LH} (hR : Rep X w0 E L w) (r : Nat × Nat × Nat) : (E ++ [r])[L.length]? = some r := by rw [← hR.len]; simp

theorem le_ok {P : Program} {call : CallF} {rawE : RawE} {X : Nat → Prop} {w0 : World} (hc : CallAt X w0 P call) (hr : RawEOk P rawE) {w : World} {E : Emb} {L L' : LH} {l l' : Env} {e : EOp} {v : Value} {K : Value → World → Prop} (h : le call rawE L l e = some (v, L')) (hR : Rep X w0 E L w)
    (hl : ER E l l') (hK : ∀ w' E' v', Ext E E' → Rep X w0 E' L' w' → VR E' v v' → K v' w') : e.W P K l' w := by
  cases e with
  | st x y =>
    simp only [le, fL_eq] at h
    cases hx : lptr l x with
    | none => rw [hx] at h; cases h
    | some p =>
      rw [hx] at h
      obtain ⟨b, o, s⟩ := p
      cases s <;> first | (cases h; done) | skip
      cases hy : lv l y with
      | none => rw [hy] at h; cases h
      | some u =>
        rw [hy] at h
        simp only at h
        cases h1 : one u
        · rw [h1] at h; cases h
        · rw [h1] at h
          simp only [cond_true] at h
          cases hb : L[b]? with
          | none => rw [hb] at h; cases h
          | some x' =>
            rw [hb] at h
            cases x' <;> first | (cases h; done) | skip
            case bytes n x0 =>
              simp only at h
              split at h <;> first | (cases h; done) | skip
              rename_i c
              cases hlt : (Nat.blt o n && Nat.blt c 256)
              · rw [hlt] at h; cases h
              · rw [hlt] at h
                simp only [cond_true, fN_eq] at h
                cases h
                rw [Bool.and_eq_true] at hlt
                have ho : o < n := Nat.le_of_ble_eq_true hlt.1
                have hc : c < 256 := Nat.le_of_ble_eq_true hlt.2
                obtain ⟨p', hp, _, r, hrr, rfl⟩ := lptr_ok hl hx
                simp only at hrr
                obtain ⟨u', hu, huv⟩ := lv_ev hl hy
                obtain rfl : u' = .int .u8 (.ofNat c) := huv
                obtain ⟨hB, hr0⟩ := hR.blk b _ r hb hrr
                obtain ⟨r1, r2⟩ := r
                simp only at hr0 hB; subst hr0
                refine ⟨_, _, hp, hu, rfl, hB.some (by rw [bl_length]; simpa using ho), hB.frozen _, hK _ E _ (Ext.refl E) ?_ VR.undef⟩
                exact hR.upd hb hrr (Fr.setCell w ⟨r1, o + 0, none⟩ _) ⟨by rw [bset_bl hc]; exact hB.set _ _, rfl⟩ (fun _ h => .inl h)
            case cells sz vs =>
            simp only at h
            cases hlt : Nat.blt o vs.length
            · rw [hlt] at h; cases h
            · rw [hlt] at h; cases h
              have hlt : o < vs.length := Nat.le_of_ble_eq_true hlt
              obtain ⟨p', hp, _, r, hrr, rfl⟩ := lptr_ok hl hx
              simp only at hrr
              obtain ⟨u', hu, huv⟩ := lv_ev hl hy
              have hus := huv.sr h1
              obtain ⟨cs, hB, hl2, hle, hz⟩ := hR.blk b _ r hb hrr
              have ho : o + r.2.1 < cs.length := by have := hl2.length; omega
              refine ⟨_, _, hp, hu, hus.one.2, hB.some ho, hB.frozen _, hK _ E _ (Ext.refl E) ?_ VR.undef⟩
              refine hR.upd hb hrr (Fr.setCell w ⟨r.1, o + r.2.1, none⟩ u') ⟨cs.set (o + r.2.1) u', hB.set _ _, ?_, ?_, hz⟩ (fun _ h => .inl h)
              · have h3 := hl2.set o hus
                rw [List.length_set]
                have e : ((cs.set (o + r.2.1) u').drop r.2.1).take vs.length = ((cs.drop r.2.1).take vs.length).set o u' := by
                  rw [List.drop_set, if_neg (by omega), List.take_set]
                  congr 1; omega
                rw [e]; exact h3
              · simp only [List.length_set]; omega
  | stn x y n =>
    simp only [le, fL_eq] at h
    cases hx : lptr l x with
    | none => rw [hx] at h; cases h
    | some p =>
      rw [hx] at h
      obtain ⟨b, o, s⟩ := p
      cases s <;> first | (cases h; done) | skip
      cases hy : lv l y with
      | none => rw [hy] at h; cases h
      | some u =>
        rw [hy] at h
        cases u <;> first | (cases h; done) | skip
        case agg us =>
        obtain ⟨us⟩ := us
        simp only at h
        cases h1 : Nat.beq us.length n
        · rw [h1] at h; cases h
        · rw [h1] at h
          simp only [cond_true] at h
          have hlen := Nat.eq_of_beq_eq_true h1
          cases hb : L[b]? with
          | none => rw [hb] at h; cases h
          | some x' =>
            rw [hb] at h
            cases x' <;> first | (cases h; done) | skip
            case cells sz vs =>
            simp only at h
            cases hlt : Nat.ble (o + n) vs.length
            · rw [hlt] at h; cases h
            · rw [hlt] at h; cases h
              have hlt : o + n ≤ vs.length := Nat.le_of_ble_eq_true hlt
              obtain ⟨p', hp, _, r, hrr, rfl⟩ := lptr_ok hl hx
              simp only at hrr
              obtain ⟨u', hu, us', rfl, hus⟩ := lv_ev hl hy
              obtain ⟨cs, hB, hl2, hle, hz⟩ := hR.blk b _ r hb hrr
              have hul := hus.length
              have hvl := hl2.length
              have hcl : o + r.2.1 + us'.length ≤ cs.length := by omega
              refine ⟨_, _, hp, hu, by simp [hul, hlen], ?_, fun i hi => ?_, hK _ E _ (Ext.refl E) ?_ VR.undef⟩
              · intro u hu'
                obtain ⟨u0, _, h0⟩ := hus.mem u (by simpa using hu')
                exact h0.one.2
              · rw [add_none]; exact ⟨hB.some (by show o + r.2.1 + i < cs.length; omega), hB.frozen _⟩
              · have hpb := putCells_blk (o := o + r.2.1) us' 0 w _ hB (by omega)
                simp only [Nat.add_zero] at hpb
                refine hR.upd hb hrr (putCells_fr (p := ⟨r.1, o + r.2.1, none⟩) us' 0 w) ⟨_, hpb, ?_, ?_, hz⟩ (fun _ h => .inl h)
                · have h3 := L2_splice (o := o) hl2 hus
                  have hll : (lspl vs o us).length = vs.length := by
                    unfold lspl; simp; omega
                  rw [hll]
                  have e : ((splice cs (o + r.2.1) us').drop r.2.1).take vs.length = splice ((cs.drop r.2.1).take vs.length) o us' := by
                    rw [splice_drop hcl (by omega), show o + r.2.1 - r.2.1 = o by omega, splice_take (by omega) (by simp; omega)]
                  rw [e]; exact h3
                · have hll : (lspl vs o us).length = vs.length := by
                    unfold lspl; simp; omega
                  rw [hll, splice_length hcl]; exact hle
  | new t zero =>
    simp only [le, fL_eq, fV_eq] at h
    cases hz : zero.all stillS
    · rw [hz] at h; cases h
    · rw [hz] at h; cases h
      exact hK _ _ _ (Ext.push E _) (new_rep hR (L2.self fun a ha => SR.still (List.all_eq_true.1 hz a ha))) ⟨_, rfl, rfl, _, hR.last _, by simp⟩
  | box t x =>
    simp only [le, fL_eq, fV_eq] at h
    cases hx : lv l x with
    | none => rw [hx] at h; cases h
    | some u =>
      rw [hx] at h
      simp only at h
      cases hf : notTup u
      · rw [hf] at h; cases h
      · rw [hf] at h; cases h
        obtain ⟨u', hu, huv⟩ := lv_ev hl hx
        exact ⟨_, hu, hK _ _ _ (Ext.push E _) (new_rep hR (huv.cells hf)) ⟨_, rfl, rfl, _, hR.last _, by simp⟩⟩
  | bs0 t =>
    simp only [le] at h
    cases h
    exact hK _ _ _ (Ext.push E _) (new_rep hR (cs := #[]) (vs := []) trivial) ⟨rfl, _, hR.last _, .inl ⟨_, _, rfl, .inl ⟨by simp, by simp⟩⟩⟩
  | bs1 t n x =>
    simp only [le] at h
    cases hx : lv l x with
    | none => rw [hx] at h; cases h
    | some u =>
      rw [hx] at h
      simp only at h
      cases hf : (notTup u && Nat.beq u.cells.toList.length n)
      · rw [hf] at h; cases h
      · rw [hf] at h; cases h
        rw [Bool.and_eq_true] at hf
        obtain ⟨u', hu, huv⟩ := lv_ev hl hx
        have hce := huv.cells hf.1
        refine ⟨_, hu, ?_, hK _ _ _ (Ext.push E _) (new_rep hR hce) ⟨rfl, _, hR.last _, .inl ⟨_, _, rfl, .inl ⟨by simp, by simp⟩⟩⟩⟩
        have := Nat.eq_of_beq_eq_true hf.2
        have h2 := hce.length
        simp at h2 this
        omega
  | call f args =>
    simp only [le] at h
    cases hx : lvs l args with
    | none => rw [hx] at h; cases h
    | some vs =>
      rw [hx] at h
      obtain ⟨vs', h1, h2⟩ := lvs_evs hl hx
      refine ⟨_, h1, (hc _ _ _ _ _ _ _ _ h hR h2).2.mono ?_⟩
      rintro v' w' ⟨E', h3, h4, h5⟩
      exact hK w' E' v' h3 h5 h4
  | callv x args =>
    simp only [le] at h
    split at h <;> first | (cases h; done) | skip
    rename_i f a c vs hx hvs
    obtain ⟨_, g1, a', c', rfl, g2, g3⟩ := lv_ev hl hx
    obtain ⟨vs', h1, h2⟩ := lvs_evs hl hvs
    have up : ∀ {x y : List Value}, L2 (S0 E) x y → L2 (VR E) x y := fun h => h.mono fun _ _ => S0.vr
    have hcall := hc _ _ _ _ _ _ _ _ h hR (((up g2).append h2).append (up g3))
    refine ⟨f, ⟨a'⟩, ⟨c'⟩, vs', g1, h1, hcall.1, ?_⟩
    have e : (⟨a'⟩ : Array Value) ++ vs'.toArray ++ ⟨c'⟩ = (a' ++ vs' ++ c').toArray := by simp
    rw [e]
    refine hcall.2.mono ?_
    rintro v' w' ⟨E', h3, h4, h5⟩
    exact hK w' E' v' h3 h5 h4
  | raw o => exact hr _ _ _ _ _ _ _ _ _ _ K h hR hl hK

/-! ### regions -/
abbrev Taken := List (Nat × QOp × Env × Value)

def sureS : Value → Bool
  | .slice (some _) 0 _ => false
  | .func _ ⟨a⟩ ⟨c⟩ => a.isEmpty && c.isEmpty
  | _ => true
def sure : Value → Bool
  | .agg ⟨cs⟩ => cs.all sureS
  | .tuple _ => false
  | v => sureS v
theorem SR.fn {E : Emb} {v a b : Value} (hs : sureS v = true) (h : SR E v a) (k : SR E v b) : a = b := by
  cases v <;> first | (cases h; cases k; rfl) | exact h.elim | skip
  case pointer p =>
    cases p with
    | none => cases h; cases k; rfl
    | some p =>
      obtain ⟨a', rfl, _, r, h1, rfl⟩ := h
      obtain ⟨b', rfl, _, r', h2, rfl⟩ := k
      rw [h1] at h2; cases h2; rfl
  case slice p n c =>
    cases p with
    | none => cases h; cases k; rfl
    | some p =>
      have hn : n ≠ 0 := by intro e; subst e; cases hs
      obtain ⟨_, r, h1, ⟨a', c', rfl, h3⟩ | ⟨h3, _⟩⟩ := h
      · obtain ⟨_, r', h2, ⟨b', c'', rfl, h4⟩ | ⟨h4, _⟩⟩ := k
        · rw [h1] at h2; cases h2
          rcases h3 with ⟨rfl, rfl⟩ | ⟨h3, _⟩
          · rcases h4 with ⟨rfl, rfl⟩ | ⟨h4, _⟩
            · rfl
            · exact absurd h4 hn
          · exact absurd h3 hn
        · exact absurd h4 hn
      · exact absurd h3 hn
  case map p =>
    cases p with
    | none => cases h; cases k; rfl
    | some p =>
      obtain ⟨r, h1, rfl⟩ := h
      obtain ⟨r', h2, rfl⟩ := k
      rw [h1] at h2; cases h2; rfl
  case func f p c =>
    have h0 : stillS (.func f p c) = true := by obtain ⟨p⟩ := p; obtain ⟨c⟩ := c; exact hs
    rw [SR.eq_still h0 h, SR.eq_still h0 k]
theorem L2.fn {E : Emb} : ∀ {x a b : List Value}, x.all sureS = true → L2 (SR E) x a → L2 (SR E) x b → a = b
  | [], [], [], _, _, _ => rfl
  | v :: r, a :: s, b :: t, hs, h, k => by
    simp only [List.all_cons, Bool.and_eq_true] at hs
    rw [SR.fn hs.1 h.1 k.1, L2.fn hs.2 h.2 k.2]
  | [], _ :: _, _, _, h, _ => h.elim
  | _ :: _, [], _, _, h, _ => h.elim
  | [], _, _ :: _, _, _, k => k.elim
  | _ :: _, _, [], _, _, k => k.elim
theorem VR.fn {E : Emb} {v a b : Value} (hs : sure v = true) (h : VR E v a) (k : VR E v b) : a = b := by
  cases v <;> first | (cases h; cases k; rfl) | (cases hs; done) | skip
  case agg cs =>
    obtain ⟨cs⟩ := cs
    obtain ⟨a', rfl, h⟩ := h
    obtain ⟨b', rfl, k⟩ := k
    rw [L2.fn hs h k]
  case pointer p => exact SR.fn (v := .pointer p) hs h k
  case slice p n c => exact SR.fn (v := .slice p n c) hs h k
  case map p => exact SR.fn (v := .map p) hs h k
  case func f p c => exact SR.fn (v := .func f p c) hs h k

def tfind : Taken → Nat → Option (QOp × Env × Value)
  | [], _ => none
  | (k, x) :: r, t => bif Nat.beq k t then some x else tfind r t
def chk (rawQ : RawQ) (T : Taken) (L : LH) : List Nat → Bool
  | [] => true
  | k :: ks => (match tfind T k with
    | some (q, l, v) => (match lq rawQ L l q with
      | some u => veq u v && sure v
      | none => false)
    | none => true) && chk rawQ T L ks
def TR (P : Program) (E : Emb) : Taken → Facts → Prop
  | [], [] => True
  | (k, q, l, v) :: r, (k', F) :: s => k' = k ∧ (∃ l' v', F = q.Y P l' v' ∧ ER E l l' ∧ VR E v v') ∧ TR P E r s
  | _, _ => False
theorem TR.ext {P : Program} {E E' : Emb} (h : Ext E E') : ∀ {T : Taken} {F : Facts}, TR P E T F → TR P E' T F
  | [], [], _ => trivial
  | (_, _, _, _) :: _, (_, _) :: _, ⟨h1, ⟨l', v', h2, h3, h4⟩, h5⟩ => ⟨h1, ⟨l', v', h2, h3.ext h, h4.ext h⟩, h5.ext h⟩
  | [], _ :: _, k => k.elim
  | _ :: _, [], k => k.elim
theorem TR.find {P : Program} {E : Emb} : ∀ {T : Taken} {F : Facts} (k : Nat), TR P E T F → (tfind T k = none ∧ flook F k = none) ∨ (∃ q l v l' v', tfind T k = some (q, l, v) ∧ flook F k = some (q.Y P l' v') ∧ ER E l l' ∧ VR E v v')
  | [], [], k, _ => .inl ⟨rfl, rfl⟩
  | (i, q, l, v) :: r, (j, F) :: s, k, ⟨h1, ⟨l', v', h2, h3, h4⟩, h5⟩ => by
    subst h1
    simp only [tfind, flook]
    cases hb : Nat.beq j k
    · exact TR.find k h5
    · exact .inr ⟨q, l, v, l', v', rfl, by rw [h2]; rfl, h3, h4⟩
  | [], _ :: _, _, k => k.elim
  | _ :: _, [], _, k => k.elim
theorem chk_ok {P : Program} {rawQ : RawQ} (hq : RawOk P rawQ) {X : Nat → Prop} {w0 w w' : World} {E : Emb} {L : LH} {T : Taken} {F : Facts} (hR : Rep X w0 E L w') (hT : TR P E T F) : ∀ (ks : List Nat), chk rawQ T L ks = true → pendOk F w w' ks
  | [], _ => trivial
  | k :: ks, h => by
    simp only [chk, Bool.and_eq_true] at h
    refine ⟨?_, chk_ok hq hR hT ks h.2⟩
    rcases hT.find k with ⟨h1, h2⟩ | ⟨q, l, v, l', v', h1, h2, h3, h4⟩
    · rw [h2]; trivial
    · rw [h2]
      have h5 := h.1
      rw [h1] at h5
      simp only at h5
      intro _
      cases hlq : lq rawQ L l q with
      | none => rw [hlq] at h5; cases h5
      | some u =>
        rw [hlq] at h5
        simp only [Bool.and_eq_true] at h5
        have := veq_ok h5.1
        subst this
        obtain ⟨v'', h6, h7⟩ := lq_ok hq hlq hR h3
        rw [VR.fn h5.2 h4 h7]
        exact h6

def lsteps (call : CallF) (rawQ : RawQ) (rawE : RawE) : List Step → Env → Taken → LH → Option (Env × LH)
  | [], l, _, L => some (l, L)
  | .q k d g op rd :: r, l, T, L => match gw g l with
    | some true => match lq rawQ L l op with
      | some v => fQ op v fun v => lsteps call rawQ rawE r (dpush d v l) (bif rd then (k, op, l, v) :: T else T) L
      | none => none
    | some false => lsteps call rawQ rawE r (dpush d undef l) T L
    | none => none
  | .e d g op pend :: r, l, T, L => match gw g l with
    | some true => match le call rawE L l op with
      | some (v, L') => bif chk rawQ T L' pend then lsteps call rawQ rawE r (dpush d v l) T L' else none
      | none => none
    | some false => lsteps call rawQ rawE r (dpush d undef l) T L
    | none => none

theorem gw_ok {E : Emb} {g : Option (Nat × Bool)} {l l' : Env} {b : Bool} (hl : ER E l l') (h : gw g l = some b) {run skip : Env → Prop} (h1 : b = true → run l') (h0 : b = false → skip l') : gcase g l' run skip := by
  cases g with
  | none => simp only [gw] at h; cases h; exact h1 rfl
  | some sw =>
    obtain ⟨s, want⟩ := sw
    simp only [gw] at h
    simp only [gcase]
    cases hs : eget l s with
    | none => rw [hs] at h; cases h
    | some v =>
      rw [hs] at h
      obtain ⟨v', hv, hvr⟩ := hl.get hs
      rw [hv]
      cases v <;> first | (cases h; done) | skip
      case bool t =>
        cases h; cases hvr
        refine ⟨fun e => ⟨_, Sub.refl _, h1 (by simp [e])⟩, fun e => ⟨_, Sub.refl _, h0 (by subst e; cases want <;> rfl)⟩⟩
      case tuple t => cases h; obtain ⟨t⟩ := t; obtain ⟨_, rfl, _⟩ := hvr; exact h0 rfl

theorem lsteps_ok {P : Program} {call : CallF} {rawQ : RawQ} {rawE : RawE} {X : Nat → Prop} {w0 : World} (hc : CallAt X w0 P call) (hq : RawOk P rawQ) (he : RawEOk P rawE) {E0 : Emb} {K : Env → World → Prop} {l1 : Env} {L1 : LH} (hK : ∀ w' E' l', Ext E0 E' → Rep X w0 E' L1 w' → ER E' l1 l' → K l' w') :
    ∀ (ss : List Step) (l l' : Env) (T : Taken) (F : Facts) (E : Emb) (L : LH) (w : World), lsteps call rawQ rawE ss l T L = some (l1, L1) → Ext E0 E → Rep X w0 E L w → ER E l l' → TR P E T F → stepsWp P ss K l' F w
  | [], l, l', T, F, E, L, w, h, hE, hR, hl, hT => by simp only [lsteps] at h; cases h; exact hK w E l' hE hR hl
  | .q k d g op rd :: r, l, l', T, F, E, L, w, h, hE, hR, hl, hT => by
    simp only [lsteps, fQ_eq] at h
    simp only [stepsWp]
    cases hg : gw g l with
    | none => rw [hg] at h; cases h
    | some b =>
      rw [hg] at h
      refine gw_ok hl hg (fun e => ?_) (fun e => ?_)
      · subst e
        simp only at h
        cases hv : lq rawQ L l op with
        | none => rw [hv] at h; cases h
        | some v =>
          rw [hv] at h
          obtain ⟨v', h1, h2⟩ := lq_ok hq hv hR hl
          refine ⟨v', h1, ?_⟩
          cases rd
          · exact lsteps_ok hc hq he hK r _ _ _ _ E _ w h hE hR (hl.dpush h2 d) hT
          · exact lsteps_ok hc hq he hK r _ _ _ _ E _ w h hE hR (hl.dpush h2 d) ⟨rfl, ⟨l', v', rfl, hl, h2⟩, hT⟩
      · subst e
        exact lsteps_ok hc hq he hK r _ _ _ _ E _ w h hE hR (hl.dpush VR.undef d) hT
  | .e d g op pend :: r, l, l', T, F, E, L, w, h, hE, hR, hl, hT => by
    simp only [lsteps] at h
    simp only [stepsWp]
    cases hg : gw g l with
    | none => rw [hg] at h; cases h
    | some b =>
      rw [hg] at h
      refine gw_ok hl hg (fun e => ?_) (fun e => ?_)
      · subst e
        simp only at h
        cases hv : le call rawE L l op with
        | none => rw [hv] at h; cases h
        | some vL =>
          obtain ⟨v, L2⟩ := vL
          rw [hv] at h
          simp only at h
          cases hk : chk rawQ T L2 pend
          · rw [hk] at h; cases h
          · rw [hk] at h
            refine le_ok hc he hv hR hl fun w' E' v' h3 h4 h5 => ⟨chk_ok hq h4 (hT.ext h3) _ hk, ?_⟩
            exact lsteps_ok hc hq he hK r _ _ _ _ E' _ w' h (hE.trans h3) h4 ((hl.ext h3).dpush h5 d) (hT.ext h3)
      · subst e
        exact lsteps_ok hc hq he hK r _ _ _ _ E _ w h hE hR (hl.dpush VR.undef d) hT

def dkeys : List Nat → Env → List Nat
  | ks, [] => ks
  | ks, (k, _) :: r => bif ks.any (Nat.beq k) then dkeys ks r else dkeys (k :: ks) r
def repick (l : Env) : List Nat → Env
  | [] => []
  | k :: ks => match eget l k with
    | some v => (k, v) :: repick l ks
    | none => repick l ks
theorem repick_get (l : Env) : ∀ (ks : List Nat) (t : Nat) (v : Value), eget (repick l ks) t = some v → eget l t = some v
  | [], t, v, h => by cases h
  | k :: ks, t, v, h => by
    simp only [repick] at h
    cases hk : eget l k with
    | none => rw [hk] at h; exact repick_get l ks t v h
    | some u =>
      rw [hk] at h
      simp only at h
      rw [eget_cons] at h
      by_cases e : k = t
      · rw [if_pos e] at h; cases h; subst e; exact hk
      · rw [if_neg e] at h; exact repick_get l ks t v h
theorem ER.repick {E : Emb} {l l' : Env} (hl : ER E l l') (ks : List Nat) : ER E (repick l ks) l' := fun t v h => hl t v (repick_get l ks t v h)
theorem repick_ok {E : Emb} {l l' : Env} (hl : ER E l l') (ks : List Nat) : ∃ l'', Sub l'' l' ∧ ER E (repick l ks) l'' := ⟨l', Sub.refl _, hl.repick ks⟩

def lpt (call : CallF) (rawQ : RawQ) (rawE : RawE) : PT → Env → Taken → LH → Option (Env × LH)
  | .done, l, _, L => some (l, L)
  | .q k d g op rd r, l, T, L => match gw g l with
    | some true => match lq rawQ L l op with
      | some v => fQ op v fun v => lpt call rawQ rawE r (dpush d v l) (bif rd then (k, op, l, v) :: T else T) L
      | none => none
    | some false => lpt call rawQ rawE r (dpush d undef l) T L
    | none => none
  | .e d g op pend r, l, T, L => match gw g l with
    | some true => match le call rawE L l op with
      | some (v, L') => bif chk rawQ T L' pend then lpt call rawQ rawE r (dpush d v l) T L' else none
      | none => none
    | some false => lpt call rawQ rawE r (dpush d undef l) T L
    | none => none
  | .alt a b, l, T, L => match lpt call rawQ rawE a l T L, lpt call rawQ rawE b l T L with
    | some (l1, L1), some (l2, L2) => match same2 L.length (repick l1 (dkeys [] l1)) L1 (repick l2 (dkeys [] l1)) L2 with
      | some K => some (repick l1 (dkeys [] l1), K)
      | none => none
    | _, _ => none

theorem lpt_ok {P : Program} {call : CallF} {rawQ : RawQ} {rawE : RawE} {X : Nat → Prop} {w0 : World} (hc : CallAt X w0 P call) (hq : RawOk P rawQ) (he : RawEOk P rawE) :
    ∀ (t : PT) (l l' : Env) (T : Taken) (F : Facts) (E : Emb) (L : LH) (w : World) (l1 : Env) (L1 : LH) (K : Env → World → Prop), (∀ w' E' l', Ext E E' → Rep X w0 E' L1 w' → ER E' l1 l' → K l' w') →
      lpt call rawQ rawE t l T L = some (l1, L1) → Rep X w0 E L w → ER E l l' → TR P E T F → ptWp P t (fun l w => ∃ l'', Sub l'' l ∧ K l'' w) l' F w
  | .done, l, l', T, F, E, L, w, l1, L1, K, hK, h, hR, hl, hT => by simp only [lpt] at h; cases h; exact ⟨l', Sub.refl _, hK w E l' (Ext.refl E) hR hl⟩
  | .q k d g op rd r, l, l', T, F, E, L, w, l1, L1, K, hK, h, hR, hl, hT => by
    simp only [lpt, fQ_eq] at h
    simp only [ptWp]
    cases hg : gw g l with
    | none => rw [hg] at h; cases h
    | some b =>
      rw [hg] at h
      refine gw_ok hl hg (fun e => ?_) (fun e => ?_)
      · subst e
        simp only at h
        cases hv : lq rawQ L l op with
        | none => rw [hv] at h; cases h
        | some v =>
          rw [hv] at h
          obtain ⟨v', h1, h2⟩ := lq_ok hq hv hR hl
          refine ⟨v', h1, ?_⟩
          cases rd
          · exact lpt_ok hc hq he r _ _ _ _ E _ w _ _ K hK h hR (hl.dpush h2 d) hT
          · exact lpt_ok hc hq he r _ _ _ _ E _ w _ _ K hK h hR (hl.dpush h2 d) ⟨rfl, ⟨l', v', rfl, hl, h2⟩, hT⟩
      · subst e
        exact lpt_ok hc hq he r _ _ _ _ E _ w _ _ K hK h hR (hl.dpush VR.undef d) hT
  | .e d g op pend r, l, l', T, F, E, L, w, l1, L1, K, hK, h, hR, hl, hT => by
    simp only [lpt] at h
    simp only [ptWp]
    cases hg : gw g l with
    | none => rw [hg] at h; cases h
    | some b =>
      rw [hg] at h
      refine gw_ok hl hg (fun e => ?_) (fun e => ?_)
      · subst e
        simp only at h
        cases hv : le call rawE L l op with
        | none => rw [hv] at h; cases h
        | some vL =>
          obtain ⟨v, L2⟩ := vL
          rw [hv] at h
          simp only at h
          cases hk : chk rawQ T L2 pend
          · rw [hk] at h; cases h
          · rw [hk] at h
            refine le_ok hc he hv hR hl fun w' E' v' h3 h4 h5 => ⟨chk_ok hq h4 (hT.ext h3) _ hk, ?_⟩
            exact lpt_ok hc hq he r _ _ _ _ E' _ w' _ _ K (fun w2 E2 l2 k1 k2 k3 => hK w2 E2 l2 (h3.trans k1) k2 k3) h h4 ((hl.ext h3).dpush h5 d) (hT.ext h3)
      · subst e
        exact lpt_ok hc hq he r _ _ _ _ E _ w _ _ K hK h hR (hl.dpush VR.undef d) hT
  | .alt a b, l, l', T, F, E, L, w, l1, L1, K, hK, h, hR, hl, hT => by
    simp only [lpt] at h
    cases ha : lpt call rawQ rawE a l T L with
    | none => rw [ha] at h; cases h
    | some x =>
      obtain ⟨la, La⟩ := x
      rw [ha] at h
      cases hb : lpt call rawQ rawE b l T L with
      | none => rw [hb] at h; cases h
      | some y =>
        obtain ⟨lb, Lb⟩ := y
        rw [hb] at h
        simp only at h
        cases hs : same2 L.length (repick la (dkeys [] la)) La (repick lb (dkeys [] la)) Lb with
        | none => rw [hs] at h; cases h
        | some K0 =>
          rw [hs] at h; cases h
          rw [← hR.len] at hs
          refine ⟨ptWp_mono (fun l2 w2 h2 => ?_) a l' F w (lpt_ok hc hq he a l l' T F E L w _ _ (fun l2 w2 => ∃ l3, Sub l3 l2 ∧ K l3 w2) (fun w' E' l2 k1 k2 k3 => ?_) ha hR hl hT),
            ptWp_mono (fun l2 w2 h2 => ?_) b l' F w (lpt_ok hc hq he b l l' T F E L w _ _ (fun l2 w2 => ∃ l3, Sub l3 l2 ∧ K l3 w2) (fun w' E' l2 k1 k2 k3 => ?_) hb hR hl hT)⟩
          · obtain ⟨l3, h3, l4, h4, h5⟩ := h2
            exact ⟨l4, fun t v hv => h3 t v (h4 t v hv), h5⟩
          · obtain ⟨l3, h4, h5⟩ := repick_ok k3 (dkeys [] la)
            exact ⟨l3, h4, hK w' E' l3 k1 (same2_kill hs k2) h5⟩
          · obtain ⟨l3, h3, l4, h4, h5⟩ := h2
            exact ⟨l4, fun t v hv => h3 t v (h4 t v hv), h5⟩
          · obtain ⟨l3, h4, h5⟩ := repick_ok k3 (dkeys [] la)
            obtain ⟨E3, g1, g2, g3⟩ := same2_ok hs k1 k2 h5
            exact ⟨l3, h4, hK w' E3 l3 g1 g2 g3⟩

inductive RV where
  | tmp (t : Nat)
  | cell (a : Nat) (ty : TypeId) (n : Nat)
def RV.real : RV → ResultVar
  | .tmp t => .tmp t
  | .cell a ty _ => .cell a ty
def RV.Ok (P : Program) : RV → Prop
  | .tmp _ => True
  | .cell _ ty n => aggT P ty = some n

structure FnRow where
  f : Nat
  np : Nat
  res : List RV
  m : MC

def FnRow.Ok (P : Program) (x : FnRow) : Prop :=
  callable P x.f = true ∧ ∃ fn : Func, x.res.length ≤ 4 ∧ fn.results = (x.res.map RV.real).toArray ∧ (∀ r ∈ x.res, r.Ok P) ∧ ∀ (args : List Value) (w : World) (R : Value → World → Prop), Nat.ble args.length x.np = true → MWp P x.m (RQ P fn R) (initEnv 0 args) w → Does P x.f args.toArray w R

def lresOne (l : Env) (L : LH) : RV → Option Value
  | .tmp t => match eget l t with
    | some v => bif notTup v then some v else none
    | none => none
  | .cell a _ n => match eget l a with
    | some (.pointer (some p)) => match lcells L p n with
      | some vs => some (.agg ⟨vs⟩)
      | none => none
    | _ => none
def lres (l : Env) (L : LH) : List RV → Option (List Value)
  | [] => some []
  | t :: ts => match lresOne l L t with
    | some v => match lres l L ts with
      | some vs => some (v :: vs)
      | none => none
    | none => none
def lret : List Value → Value
  | [v] => v
  | vs => .tuple ⟨vs⟩

def rowOf : List FnRow → Nat → Option FnRow
  | [], _ => none
  | x :: r, f => bif Nat.beq x.f f then some x else rowOf r f

def lrun (ov : CallF) (tab : List FnRow) (rawQ : RawQ) (rawE : RawE) : Nat → MC → Env → LH → Option (Exit × Env × LH)
  | 0, _, _, _ => none
  | fuel + 1, m, l, L => match m with
    | .skip => some (.normal, l, L)
    | .reg s => match lsteps (fun f vs L => match ov f vs L with
        | some r => some r
        | none => match rowOf tab f with
        | some x => bif Nat.ble vs.length x.np then (match lrun ov tab rawQ rawE fuel x.m (initEnv 0 vs) L with
          | some (.ret, l', L') => match lres l' L' x.res with
            | some us => some (lret us, L')
            | none => none
          | some (.normal, l', L') => match lres l' L' x.res with
            | some us => some (lret us, L')
            | none => none
          | _ => none) else none
        | none => none) rawQ rawE s l [] L with
      | some (l', L') => some (.normal, l', L')
      | none => none
    | .regT t => match lpt (fun f vs L => match ov f vs L with
        | some r => some r
        | none => match rowOf tab f with
        | some x => bif Nat.ble vs.length x.np then (match lrun ov tab rawQ rawE fuel x.m (initEnv 0 vs) L with
          | some (.ret, l', L') => match lres l' L' x.res with
            | some us => some (lret us, L')
            | none => none
          | some (.normal, l', L') => match lres l' L' x.res with
            | some us => some (lret us, L')
            | none => none
          | _ => none) else none
        | none => none) rawQ rawE t l [] L with
      | some (l', L') => some (.normal, l', L')
      | none => none
    | .seq a b => match lrun ov tab rawQ rawE fuel a l L with
      | some (.normal, l', L') => lrun ov tab rawQ rawE fuel b l' L'
      | r => r
    | .cond c x y => match lv l c with
      | some (.bool true) => lrun ov tab rawQ rawE fuel x (knows c true l) L
      | some (.bool false) => lrun ov tab rawQ rawE fuel y (knows c false l) L
      | _ => none
    | .block id b => match lrun ov tab rawQ rawE fuel b l L with
      | some (.exit i, l', L') => bif Nat.beq i id then some (.normal, l', L') else some (.exit i, l', L')
      | r => r
    | .loop b => match lrun ov tab rawQ rawE fuel b l L with
      | some (.normal, l', L') => lrun ov tab rawQ rawE fuel (.loop b) (repick l' (dkeys [] l)) L'
      | r => r
    | .exit id => some (.exit id, l, L)
    | .ret => some (.ret, l, L)

def lcall (ov : CallF) (tab : List FnRow) (rawQ : RawQ) (rawE : RawE) (fuel : Nat) : CallF := fun f vs L => match ov f vs L with
  | some r => some r
  | none => match rowOf tab f with
  | some x => bif Nat.ble vs.length x.np then (match lrun ov tab rawQ rawE fuel x.m (initEnv 0 vs) L with
    | some (.ret, l', L') => match lres l' L' x.res with
      | some us => some (lret us, L')
      | none => none
    | some (.normal, l', L') => match lres l' L' x.res with
      | some us => some (lret us, L')
      | none => none
    | _ => none) else none
  | none => none

theorem rowOf_mem : ∀ {tab : List FnRow} {f : Nat} {x : FnRow}, rowOf tab f = some x → x ∈ tab ∧ x.f = f
  | [], f, x, h => by cases h
  | y :: r, f, x, h => by
    simp only [rowOf] at h
    cases hb : Nat.beq y.f f
    · rw [hb] at h; obtain ⟨h1, h2⟩ := rowOf_mem h; exact ⟨List.mem_cons_of_mem _ h1, h2⟩
    · rw [hb] at h; cases h; exact ⟨List.mem_cons_self .., Nat.eq_of_beq_eq_true hb⟩

theorem ER.init {E : Emb} : ∀ (i : Nat) {vs vs' : List Value}, L2 (VR E) vs vs' → ER E (initEnv i vs) (initEnv i vs')
  | _, [], [], _ => ER.nil _ _
  | i, _ :: _, _ :: _, h => ER.cons i h.1 (ER.init (i + 1) h.2)
  | _, [], _ :: _, h => h.elim
  | _, _ :: _, [], h => h.elim
theorem ER.knows {E : Emb} {l l' : Env} (h : ER E l l') (c : Operand) (b : Bool) : ER E (knows c b l) (knows c b l') := by
  cases c <;> first | exact h | exact ER.cons _ rfl h

def resOne (tmps : Array Value) : ResultVar → Sem Value
  | .tmp t => pure (tmps.getD t undef)
  | .cell a t => do loadVar t (← asAddr (tmps.getD a undef))

theorem loadVar_cells {P : Program} {w : World} {ty : TypeId} {n b o : Nat} {cs : List Value} (ht : aggT P ty = some n) (hB : Blk w b cs) (hn : o + n ≤ cs.length) : (loadVar ty ⟨b, o, none⟩).run P w = .ok (.agg ((cs.drop o).take n).toArray) w := by
  have := loadCells_blk (P := P) hB hn
  unfold loadCells at this
  simp [loadVar, (isAgg_true ht).1, (isAgg_true ht).2, loadCells, this, go_sem]

theorem lresOne_ok {P : Program} {X : Nat → Prop} {w0 w : World} {E : Emb} {l l' : Env} {L : LH} {r : RV} {v : Value} (hr : r.Ok P) (hR : Rep X w0 E L w) (hl : ER E l l') (h : lresOne l L r = some v) :
    notTup v = true ∧ ∃ v', VR E v v' ∧ ∀ (N : Nat) (a : Act) (w1 : World), At N l' a → Sim w1 w → (resOne a.tmps r.real).run P w1 = .ok v' w1 := by
  cases r with
  | tmp t =>
    simp only [lresOne] at h
    cases ht : eget l t with
    | none => rw [ht] at h; cases h
    | some u =>
      rw [ht] at h
      simp only at h
      cases hf : notTup u
      · rw [hf] at h; cases h
      · rw [hf] at h; cases h
        obtain ⟨v', h1, h2⟩ := hl.get ht
        refine ⟨hf, v', h2, fun N a w1 ha _ => ?_⟩
        have := ha.get t v' h1
        simp only [RV.real, resOne, this]; rfl
  | cell x ty n =>
    simp only [lresOne] at h
    cases hx : eget l x with
    | none => rw [hx] at h; cases h
    | some u =>
      rw [hx] at h
      cases u <;> first | (cases h; done) | skip
      case pointer p =>
      cases p <;> first | (cases h; done) | skip
      case some p =>
      simp only at h
      cases hc : lcells L p n with
      | none => rw [hc] at h; cases h
      | some vs =>
        rw [hc] at h; cases h
        obtain ⟨v', h1, ⟨b, o, s⟩, rfl, h2⟩ := hl.get hx
        obtain ⟨cs, vs', hB, hs0, hle, rfl, h3, h4⟩ := lcells_ok hR h2 hc
        cases hs0
        refine ⟨rfl, _, ⟨_, rfl, h3⟩, fun N a w1 ha hs => ?_⟩
        have h5 := ha.get x _ h1
        have h6 := loadVar_cells (P := P) hr (hB.sim hs) (o := o) hle
        have h7 : resOne a.tmps (RV.cell x ty n).real = loadVar ty ⟨b, o, none⟩ := by
          simp only [RV.real, resOne, h5, asAddr]; rfl
        rw [h7, h6]

theorem lres_ok {P : Program} {X : Nat → Prop} {w0 w : World} {E : Emb} {l l' : Env} {L : LH} (hR : Rep X w0 E L w) (hl : ER E l l') : ∀ {ts : List RV} {vs : List Value}, (∀ r ∈ ts, r.Ok P) → lres l L ts = some vs → vs.length = ts.length ∧ (∀ v ∈ vs, notTup v = true) ∧
    ∃ vs', L2 (VR E) vs vs' ∧ ∀ (i : Nat) (r : RV) (v' : Value), ts[i]? = some r → vs'[i]? = some v' → ∀ (N : Nat) (a : Act) (w1 : World), At N l' a → Sim w1 w → (resOne a.tmps r.real).run P w1 = .ok v' w1
  | [], vs, _, h => by cases h; exact ⟨rfl, fun v hv => by (cases hv), [], trivial, fun i r v h1 => by simp at h1⟩
  | t :: ts, vs, hk, h => by
    simp only [lres] at h
    cases ht : lresOne l L t with
    | none => rw [ht] at h; cases h
    | some v =>
      rw [ht] at h
      simp only at h
      cases hr : lres l L ts with
      | none => rw [hr] at h; cases h
      | some us =>
        rw [hr] at h; cases h
        obtain ⟨h1, h2, us', h3, h4⟩ := lres_ok hR hl (fun r hr => hk r (List.mem_cons_of_mem _ hr)) hr
        obtain ⟨g1, v', g2, g3⟩ := lresOne_ok (hk t (List.mem_cons_self ..)) hR hl ht
        refine ⟨by simp [h1], fun u hu => ?_, v' :: us', ⟨g2, h3⟩, fun i r u hi hu => ?_⟩
        · rcases List.mem_cons.1 hu with rfl | hu
          · exact g1
          · exact h2 u hu
        · cases i with
          | zero => simp at hi hu; subst hi; subst hu; exact g3
          | succ i => simp at hi hu; exact h4 i r u hi hu

theorem lret_ok {P : Program} {fn : Func} {R : Value → World → Prop} {e : Exit} {E : Emb} {l l' : Env} {L : LH} {ts : List RV} {us : List Value} {X : Nat → Prop} {w0 w : World} (hlen : ts.length ≤ 4) (hr : fn.results = (ts.map RV.real).toArray) (hk : ∀ r ∈ ts, r.Ok P) (hRp : Rep X w0 E L w)
    (hl : ER E l l') (he : e = .ret ∨ e = .normal) (h : lres l L ts = some us) (hR : ∀ v', VR E (lret us) v' → R v' w) : RQ P fn R e l' w := by
  obtain ⟨h1, h2, us', h3, h4⟩ := lres_ok hRp hl hk h
  have hret : VR E (lret us) (lret us') := by
    match us, us', h2, h3 with
    | [], [], _, _ => exact ⟨[], rfl, trivial⟩
    | [v], [v'], _, h3 => exact h3.1
    | v :: u :: r, v' :: u' :: r', h2, h3 =>
      refine ⟨_, rfl, ?_⟩
      have : ∀ (x y : List Value), (∀ v ∈ x, notTup v = true) → L2 (VR E) x y → L2 (V1 E) x y := by
        intro x
        induction x with
        | nil => intro y _ h; cases y <;> exact h
        | cons a r ih =>
          intro y hf h
          cases y with
          | nil => exact h
          | cons b s => exact ⟨h.1.v1 (hf a (List.mem_cons_self ..)), ih s (fun v hv => hf v (List.mem_cons_of_mem _ hv)) h.2⟩
      exact this _ _ h2 h3
  refine ⟨he, lret us', fun a w1 ha hs => ?_, hR _ hret⟩
  have hm : ∀ (i : Nat) (r : RV) (v : Value), ts[i]? = some r → us'[i]? = some v → (resOne a.tmps r.real).run P w1 = .ok v w1 := fun i r v hi hv => h4 i r v hi hv _ a w1 ha hs
  have hl' : us'.length = ts.length := by rw [h3.length, h1]
  clear h h4 hR h1 h2 h3 hret
  have hres : results fn a.tmps = (do
      let vs ← fn.results.mapM (resOne a.tmps)
      pure (if h : vs.size = 1 then vs[0] else .tuple vs)) := rfl
  rw [hres, hr]
  clear hr hk hres
  match ts, us', hlen, hl', hm with
  | [], [], _, _, hm => simp [lret, go_sem]
  | [t], [v], _, _, hm => simp [hm 0 t v rfl rfl, lret, go_sem]
  | [t, t'], [v, v'], _, _, hm => simp [hm 0 t v rfl rfl, hm 1 t' v' rfl rfl, lret, go_sem]
  | [t, t', t''], [v, v', v''], _, _, hm => simp [hm 0 t v rfl rfl, hm 1 t' v' rfl rfl, hm 2 t'' v'' rfl rfl, lret, go_sem]
  | [t, t', t'', t3], [v, v', v'', v3], _, _, hm => simp [hm 0 t v rfl rfl, hm 1 t' v' rfl rfl, hm 2 t'' v'' rfl rfl, hm 3 t3 v3 rfl rfl, lret, go_sem]
  | _ :: _ :: _ :: _ :: _ :: _, _, hl, _, _ => simp at hl

theorem RQ.sub {P : Program} {fn : Func} {R : Value → World → Prop} {e : Exit} {l l2 : Env} {w : World} (hs : Sub l2 l) (h : RQ P fn R e l2 w) : RQ P fn R e l w := by
  obtain ⟨h1, v, h2, h3⟩ := h
  exact ⟨h1, v, fun a w0 ha => h2 a w0 (ha.sub hs), h3⟩

def subQ (Q : Exit → Env → World → Prop) (e : Exit) (l : Env) (w : World) : Prop := ∃ l2, Sub l2 l ∧ Q e l2 w

def RunOk (H : HypW) (P : Program) (ov : CallF) (tab : List FnRow) (rawQ : RawQ) (rawE : RawE) (fuel : Nat) : Prop :=
  ∀ (m : MC) (l : Env) (L : LH) (e : Exit) (l1 : Env) (L1 : LH), lrun ov tab rawQ rawE fuel m l L = some (e, l1, L1) → ∀ (X : Nat → Prop) (w0 w : World) (E : Emb) (l' : Env) (Q : Exit → Env → World → Prop), H X w0 → Rep X w0 E L w → ER E l l' →
      (∀ w' E' l1', Ext E E' → Rep X w0 E' L1 w' → ER E' l1 l1' → Q e l1' w') → MWp P m (subQ Q) l' w

theorem lrun_ok {H : HypW} {P : Program} {ov : CallF} {tab : List FnRow} {rawQ : RawQ} {rawE : RawE} (ho : CallOk H P ov) (ht : ∀ x ∈ tab, x.Ok P) (hq : RawOk P rawQ) (he : RawEOk P rawE) : ∀ (fuel : Nat),
    CallOk H P (lcall ov tab rawQ rawE fuel) ∧ RunOk H P ov tab rawQ rawE fuel := by
  intro fuel
  have call : ∀ fuel, RunOk H P ov tab rawQ rawE fuel → CallOk H P (lcall ov tab rawQ rawE fuel) := by
    intro fuel ih X w0 hH w E L f vs vs' v L' h hR hvs
    simp only [lcall] at h
    cases hov : ov f vs L with
    | some r => rw [hov] at h; cases h; exact ho X w0 hH w E L f vs vs' v L' hov hR hvs
    | none =>
    rw [hov] at h
    simp only at h
    cases hx : rowOf tab f with
    | none => rw [hx] at h; cases h
    | some x =>
      rw [hx] at h
      simp only at h
      cases hb : Nat.ble vs.length x.np
      · rw [hb] at h; cases h
      · rw [hb] at h
        simp only [cond_true] at h
        obtain ⟨hm, rfl⟩ := rowOf_mem hx
        obtain ⟨hcl, fn, hl, hr, hrk, hd⟩ := ht x hm
        refine ⟨hcl, hd _ w _ (by rw [hvs.length]; exact hb) ?_⟩
        cases hrun : lrun ov tab rawQ rawE fuel x.m (initEnv 0 vs) L with
        | none => rw [hrun] at h; cases h
        | some y =>
          obtain ⟨e, l1, L1⟩ := y
          rw [hrun] at h
          have fin : ∀ (he' : e = .ret ∨ e = .normal), (match lres l1 L1 x.res with
              | some us => some (lret us, L1)
              | none => none) = some (v, L') → MWp P x.m (RQ P fn fun v' w' => ∃ E', Ext E E' ∧ VR E' v v' ∧ Rep X w0 E' L' w') (initEnv 0 vs') w := by
            intro he' h
            cases hres : lres l1 L1 x.res with
            | none => rw [hres] at h; cases h
            | some us =>
              rw [hres] at h; cases h
              refine MWp.mono _ (fun e l w ⟨l2, h1, h2⟩ => RQ.sub h1 h2) (ih _ _ _ _ _ _ hrun X w0 w E _ _ hH hR (ER.init 0 hvs) fun w' E' l1' h1 h2 h3 => lret_ok hl hr hrk h2 h3 he' hres fun v' hv' => ⟨E', h1, hv', h2⟩)
          cases e <;> first | (cases h; done) | skip
          · exact fin (.inr rfl) h
          · exact fin (.inl rfl) h
  induction fuel using Nat.strongRecOn with
  | ind fuel ihs =>
  cases fuel with
  | zero =>
    have z : RunOk H P ov tab rawQ rawE 0 := fun m l L e l' L' h => by simp only [lrun] at h; cases h
    exact ⟨call 0 z, z⟩
  | succ fuel =>
    obtain ⟨ihc, ih⟩ := ihs fuel (Nat.lt_succ_self _)
    have s : RunOk H P ov tab rawQ rawE (fuel + 1) := by
      intro m l L e l1 L1 h X w0 w E l' Q hH hR hl hQ
      cases m with
      | skip => simp only [lrun] at h; cases h; exact ⟨l', Sub.refl _, hQ w E l' (Ext.refl E) hR hl⟩
      | exit id => simp only [lrun] at h; cases h; exact ⟨l', Sub.refl _, hQ w E l' (Ext.refl E) hR hl⟩
      | ret => simp only [lrun] at h; cases h; exact ⟨l', Sub.refl _, hQ w E l' (Ext.refl E) hR hl⟩
      | reg ss =>
        simp only [lrun] at h
        have h' : (match lsteps (lcall ov tab rawQ rawE fuel) rawQ rawE ss l [] L with
          | some (l', L') => some (Exit.normal, l', L')
          | none => none) = some (e, l1, L1) := h
        cases hs : lsteps (lcall ov tab rawQ rawE fuel) rawQ rawE ss l [] L with
        | none => rw [hs] at h'; cases h'
        | some y =>
          obtain ⟨l2, L2⟩ := y
          rw [hs] at h'; cases h'
          exact lsteps_ok (ihc X w0 hH) hq he (fun w' E' l2 h1 h2 h3 => ⟨l2, Sub.refl _, hQ w' E' l2 h1 h2 h3⟩) ss l l' [] [] E L w hs (Ext.refl E) hR hl trivial
      | regT t =>
        simp only [lrun] at h
        have h' : (match lpt (lcall ov tab rawQ rawE fuel) rawQ rawE t l [] L with
          | some (l', L') => some (Exit.normal, l', L')
          | none => none) = some (e, l1, L1) := h
        cases hs : lpt (lcall ov tab rawQ rawE fuel) rawQ rawE t l [] L with
        | none => rw [hs] at h'; cases h'
        | some y =>
          obtain ⟨l2, L2⟩ := y
          rw [hs] at h'; cases h'
          exact lpt_ok (ihc X w0 hH) hq he t l l' [] [] E L w _ _ (fun l w => Q .normal l w) hQ hs hR hl trivial
      | seq a b =>
        simp only [lrun] at h
        cases ha : lrun ov tab rawQ rawE fuel a l L with
        | none => rw [ha] at h; cases h
        | some y =>
          obtain ⟨e1, l2, L2⟩ := y
          rw [ha] at h
          refine MWp.mono a ?_ (ih a _ _ _ _ _ ha X w0 w E l' (thenQ (fun l' w' => MWp P b (subQ Q) l' w') Q) hH hR hl fun w' E' l2' h1 h2 h3 => ?_)
          · rintro e2 l3 w3 ⟨l4, h4, h5⟩
            cases e2 <;> exact ⟨l4, h4, h5⟩
          cases e1 <;> simp only at h
          case normal => exact ih b _ _ _ _ _ h X w0 w' E' _ Q hH h2 h3 fun w'' E'' l'' k1 k2 k3 => hQ w'' E'' l'' (h1.trans k1) k2 k3
          all_goals (cases h; exact hQ w' E' l2' h1 h2 h3)
      | cond c x y =>
        simp only [lrun] at h
        cases hc : lv l c with
        | none => rw [hc] at h; cases h
        | some t =>
          rw [hc] at h
          cases t <;> first | (cases h; done) | skip
          case bool t =>
          obtain ⟨_, h1, rfl⟩ := lv_ev hl hc
          refine ⟨t, h1, fun e1 => ?_, fun e1 => ?_⟩
          · subst e1
            exact ih x _ _ _ _ _ h X w0 w E _ Q hH hR (hl.knows c true) hQ
          · subst e1
            exact ih y _ _ _ _ _ h X w0 w E _ Q hH hR (hl.knows c false) hQ
      | block id b =>
        simp only [lrun] at h
        cases hb : lrun ov tab rawQ rawE fuel b l L with
        | none => rw [hb] at h; cases h
        | some y =>
          obtain ⟨e1, l2, L2⟩ := y
          rw [hb] at h
          refine MWp.mono b ?_ (ih b _ _ _ _ _ hb X w0 w E l' (blkQ id Q) hH hR hl fun w' E' l2' h1 h2 h3 => ?_)
          · rintro e2 l3 w3 ⟨l4, h4, h5⟩
            cases e2 <;> first | exact ⟨l4, h4, h5⟩ | skip
            rename_i i
            simp only [blkQ] at h5 ⊢
            by_cases e : i = id
            · rw [if_pos e] at h5 ⊢; exact ⟨l4, h4, h5⟩
            · rw [if_neg e] at h5 ⊢; exact ⟨l4, h4, h5⟩
          cases e1 <;> simp only at h
          case exit i =>
            simp only [blkQ]
            cases hi : Nat.beq i id
            · rw [hi] at h; cases h
              rw [if_neg fun e => by rw [e, Nat.beq_refl] at hi; cases hi]
              exact hQ w' E' l2' h1 h2 h3
            · rw [hi] at h; cases h
              rw [if_pos (Nat.eq_of_beq_eq_true hi)]
              exact hQ w' E' l2' h1 h2 h3
          all_goals (cases h; exact hQ w' E' l2' h1 h2 h3)
      | loop b =>
        refine ⟨fun k lr w1 => k ≤ fuel + 1 ∧ ∃ l0 L0 E0, Ext E E0 ∧ ER E0 l0 lr ∧ Rep X w0 E0 L0 w1 ∧ lrun ov tab rawQ rawE k (.loop b) l0 L0 = some (e, l1, L1), fuel + 1, ⟨Nat.le_refl _, l, L, E, Ext.refl E, hl, hR, h⟩, ?_⟩
        rintro k lr w1 ⟨hk, l0, L0, E0, hE0, hl0, hR0, h0⟩
        cases k with
        | zero => simp only [lrun] at h0; cases h0
        | succ k =>
          simp only [lrun] at h0
          cases hb : lrun ov tab rawQ rawE k b l0 L0 with
          | none => rw [hb] at h0; cases h0
          | some y =>
            obtain ⟨e1, l2, L2⟩ := y
            rw [hb] at h0
            refine MWp.mono b ?_ ((ihs k (by omega)).2 b _ _ _ _ _ hb X w0 w1 E0 lr (thenQ (fun l' w' => ∃ m, m < k + 1 ∧ ∃ l'', Sub l'' l' ∧ (m ≤ fuel + 1 ∧ ∃ l0 L0 E0, Ext E E0 ∧ ER E0 l0 l'' ∧ Rep X w0 E0 L0 w' ∧ lrun ov tab rawQ rawE m (.loop b) l0 L0 = some (e, l1, L1))) Q) hH hR0 hl0 fun w' E' l2' h1 h2 h3 => ?_)
            · rintro e2 l3 w3 ⟨l4, h4, h5⟩
              cases e2 <;> first | exact ⟨l4, h4, h5⟩ | skip
              obtain ⟨m, h6, l5, h7, h8⟩ := h5
              exact ⟨m, h6, l5, h7.trans h4, h8⟩
            cases e1 <;> simp only at h0
            case normal =>
              obtain ⟨l3, h4, h5⟩ := repick_ok h3 (dkeys [] l0)
              exact ⟨k, Nat.lt_succ_self _, l3, h4, by omega, _, _, E', hE0.trans h1, h5, h2, h0⟩
            all_goals (cases h0; exact hQ w' E' l2' (hE0.trans h1) h2 h3)
    exact ⟨call _ s, s⟩

/-- nothing is told otherwise -/
def noOv : CallF := fun _ _ _ => none
theorem noOv_ok (H : HypW) (P : Program) : CallOk H P noOv := fun _ _ _ _ _ _ _ _ _ _ _ h => by cases h

/-- a closed call that answers v with no block of its own, given H of the world -/
theorem closed_callH {H : HypW} {P : Program} {ov : CallF} {tab : List FnRow} {rawQ : RawQ} {rawE : RawE} (ho : CallOk H P ov) (ht : ∀ x ∈ tab, x.Ok P) (hq : RawOk P rawQ) (he : RawEOk P rawE) {fuel : Nat} {f : FuncId} {vs : List Value} {v : Value}
    (hvs : vs.all still = true) (hv : still v = true) (hs : sure v = true) (h : ((lcall ov tab rawQ rawE fuel f vs []).map (·.1)) = some v) (w : World) (hH : H (fun _ => False) w) : Does P f vs.toArray w fun v' w' => v' = v ∧ Fr (fun _ => False) w w' := by
  cases hc : lcall ov tab rawQ rawE fuel f vs [] with
  | none => rw [hc] at h; cases h
  | some y =>
    obtain ⟨u, L⟩ := y
    rw [hc] at h; cases h
    refine ((lrun_ok ho ht hq he fuel).1 (fun _ => False) w hH w [] [] f vs vs _ L hc (Rep.nil _ w) (L2.self fun a ha => VR.still (List.all_eq_true.1 hvs a ha))).2.mono ?_
    rintro v' w' ⟨E', _, h1, h2⟩
    exact ⟨VR.fn hs h1 (VR.still hv), h2.fr⟩
/-- a closed call that answers v with no block of its own -/
theorem closed_call {P : Program} {tab : List FnRow} {rawQ : RawQ} {rawE : RawE} (ht : ∀ x ∈ tab, x.Ok P) (hq : RawOk P rawQ) (he : RawEOk P rawE) {fuel : Nat} {f : FuncId} {vs : List Value} {v : Value}
    (hvs : vs.all still = true) (hv : still v = true) (hs : sure v = true) (h : ((lcall noOv tab rawQ rawE fuel f vs []).map (·.1)) = some v) (w : World) : Does P f vs.toArray w fun v' w' => v' = v ∧ Fr (fun _ => False) w w' :=
  closed_callH (H := fun _ _ => True) (noOv_ok _ P) ht hq he hvs hv hs h w trivial
end Go.Tum
