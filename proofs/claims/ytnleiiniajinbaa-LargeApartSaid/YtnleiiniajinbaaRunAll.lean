/-
  Runs by reckoning: equality; all that is known of the rest, in one.
-/
import Derived.Test.YtnleiiniajinbaaRunRaw
namespace Go.Tum
open Go

def lpart (P : Program) (t : TypeId) (cs : List Value) (o : Nat) : Option Value :=
  bif scalarT P t then cs[o]? else match aggT P t with
    | some n => some (.agg ⟨(cs.take (o + n)).drop o⟩)
    | none => none

def leqf (P : Program) (rec : TypeId → Value → Value → Option Bool) (xs ys : List Value) : List Field → Option Bool
  | [] => some true
  | f :: fs => bif decide (f.name = "_") then leqf P rec xs ys fs else match lpart P f.type xs f.offset, lpart P f.type ys f.offset with
    | some a, some b => match rec f.type a b with
      | some true => leqf P rec xs ys fs
      | some false => some false
      | none => none
    | _, _ => none

def leqv (P : Program) : Nat → TypeId → Value → Value → Option Bool
  | 0, _, _, _ => none
  | d + 1, t, x, y => match P.underlying t, x, y with
    | some .bool, .bool a, .bool b => some (a == b)
    | some (.int _), .int k a, .int k' b => bif ikEq k k' then some (a == b) else none
    | some (.pointer _), .pointer none, .pointer b => some b.isNone
    | some (.pointer _), .pointer (some _), .pointer none => some false
    | some (.slice _), .slice none _ _, .slice none _ _ => some true
    | some (.slice _), .slice none _ _, .slice (some _) (_ + 1) _ => some false
    | some (.slice _), .slice (some _) (_ + 1) _, .slice none _ _ => some false
    | some (.struct fs), .agg ⟨xs⟩, .agg ⟨ys⟩ => bif P.stoodInHeld t then none else leqf P (leqv P d) xs ys fs.toList
    | _, _, _ => none

section
variable {P : Program} {w : World} {E : Emb}

theorem lpart_ok {t : TypeId} {cs cs' : List Value} {o : Nat} {v : Value} (hc : L2 (SR E) cs cs') (h : lpart P t cs o = some v) : ∃ v', (part t ⟨cs'⟩ o).run P w = .ok v' w ∧ VR E v v' := by
  unfold lpart at h
  cases hs : scalarT P t
  · rw [hs] at h
    simp only [cond_false] at h
    cases ha : aggT P t with
    | none => rw [ha] at h; cases h
    | some n =>
      rw [ha] at h; cases h
      refine ⟨.agg ⟨(cs'.take (o + n)).drop o⟩, ?_, _, rfl, (hc.take _).drop _⟩
      simp [part, (isAgg_true ha).1, (isAgg_true ha).2, List.drop_take]
  · rw [hs] at h
    obtain ⟨v', h1, h2⟩ := hc.get h
    exact ⟨v', part_scalar hs (by simpa using h1), h2.vr⟩

theorem leqv_ok : ∀ (d : Nat) (t : TypeId) (x y : Value) (r : Bool), leqv P d t x y = some r → ∀ (x' y' : Value), VR E x x' → VR E y y' → ∀ k, (Op.equalIn (d + k) t x' y').run P w = .ok r w
  | 0, _, _, _, _, h => by cases h
  | d + 1, t, x, y, r, h => by
    intro x' y' hx hy k
    rw [show d + 1 + k = d + k + 1 by omega]
    unfold leqv at h
    split at h <;> first | (cases h; done) | skip
    · rename_i a b hu
      cases h; cases hx; cases hy
      exact run_equalIn_bool w _ t a b hu
    · rename_i k0 k1 a k2 b hu
      cases hk : ikEq k1 k2
      · rw [hk] at h; cases h
      · rw [hk] at h; cases h; cases hx; cases hy
        have := of_decide_eq_true hk
        subst this
        exact equalIn_int hu
    · rename_i e b hu
      cases h; cases hx
      unfold Op.equalIn
      cases b with
      | none => cases hy; simp [run_underlying hu]
      | some b => obtain ⟨b', rfl, _⟩ := hy; simp [run_underlying hu]
    · rename_i e a hu
      cases h; cases hy
      obtain ⟨a', rfl, _⟩ := hx
      unfold Op.equalIn
      simp [run_underlying hu]
    · rename_i hu
      cases h; cases hx; cases hy
      unfold Op.equalIn
      simp [run_underlying hu]
    · rename_i hu
      cases h; cases hx
      obtain ⟨_, r, _, ⟨a', c', rfl, _⟩ | ⟨h0, _⟩⟩ := hy
      · unfold Op.equalIn
        simp [run_underlying hu]
      · omega
    · rename_i hu
      cases h; cases hy
      obtain ⟨_, r, _, ⟨a', c', rfl, _⟩ | ⟨h0, _⟩⟩ := hx
      · unfold Op.equalIn
        simp [run_underlying hu]
      · omega
    · rename_i fs xs ys hu
      cases hst : P.stoodInHeld t
      · rw [hst] at h
        simp only [cond_false] at h
        obtain ⟨xs', rfl, hxs⟩ := hx
        obtain ⟨ys', rfl, hys⟩ := hy
        have hfo : P.fieldsOf t = fs := by simp [Program.fieldsOf, hu]
        rw [run_equalIn_struct w (d + k) t ⟨xs'⟩ ⟨ys'⟩ (by rw [hfo]; exact hu) hst, hfo]
        generalize fs.toList = fl at h
        clear hu hfo
        induction fl with
        | nil => cases h; rfl
        | cons f fl ih =>
          simp only [leqf] at h
          by_cases hn : f.name = "_"
          · simp only [hn, decide_true, cond_true] at h
            simp only [Op.eqFields, hn, ne_eq, not_true, if_false]
            exact ih h
          · simp only [hn, decide_false, cond_false] at h
            cases ha : lpart P f.type xs f.offset with
            | none => rw [ha] at h; cases h
            | some a =>
              rw [ha] at h
              cases hb : lpart P f.type ys f.offset with
              | none => rw [hb] at h; cases h
              | some b =>
                rw [hb] at h
                simp only at h
                obtain ⟨a', h1, h2⟩ := lpart_ok (w := w) hxs ha
                obtain ⟨b', h3, h4⟩ := lpart_ok (w := w) hys hb
                cases hr : leqv P d f.type a b with
                | none => rw [hr] at h; cases h
                | some q =>
                  rw [hr] at h
                  have h5 := leqv_ok d f.type a b q hr a' b' h2 h4 k
                  simp only [Op.eqFields, if_pos hn, Sem.run_bind, h1, h3, h5, Result.andThen_ok, ne_eq]
                  cases q
                  · cases h; rfl
                  · simp only [Bool.not_true, Bool.false_eq_true, if_false]
                    exact ih h
      · rw [hst] at h; cases h

/-- neither is an int: those go another way -/
def noInt : Value → Bool
  | .bool _ => true
  | .pointer _ => true
  | .agg _ => true
  | .slice _ _ _ => true
  | _ => false

def rawQ0 (P : Program) : RawQ := fun _ l o =>
  match o.op with
  | .binOp op t x y _ => match lv l x, lv l y with
    | some a, some b => bif noInt a && noInt b && !P.eqGuardType P.depth t then (match leqv P 20 t a b with
      | some r => match op with
        | .eql => some (.bool r)
        | .neq => some (.bool (!r))
        | _ => none
      | none => none) else none
    | _, _ => none
  | .call ⟨.builtin .min, ⟨[x, y]⟩, _⟩ => match lv l x, lv l y with
    | some (.int k a), some (.int k' b) => bif ikEq k k' then some (.int k (min a b)) else none
    | _, _ => none
  | .call ⟨.builtin .max, ⟨[x, y]⟩, _⟩ => match lv l x, lv l y with
    | some (.int k a), some (.int k' b) => bif ikEq k k' then some (.int k (max a b)) else none
    | _, _ => none
  | _ => none

theorem noInt_vr {v v' : Value} (h : noInt v = true) (hv : VR E v v') : (∃ b, v' = .bool b) ∨ (∃ p, v' = .pointer p) ∨ (∃ cs, v' = .agg cs) ∨ (∃ p n c, v' = .slice p n c) := by
  cases v <;> first | (cases h; done) | skip
  case bool b => cases hv; exact .inl ⟨b, rfl⟩
  case pointer p =>
    cases p with
    | none => cases hv; exact .inr (.inl ⟨_, rfl⟩)
    | some p => obtain ⟨p', rfl, _⟩ := hv; exact .inr (.inl ⟨_, rfl⟩)
  case agg cs => obtain ⟨cs⟩ := cs; obtain ⟨cs', rfl, _⟩ := hv; exact .inr (.inr (.inl ⟨_, rfl⟩))
  case slice p n c =>
    cases p with
    | none => cases hv; exact .inr (.inr (.inr ⟨_, _, _, rfl⟩))
    | some p => obtain ⟨_, r, _, ⟨a', c', rfl, _⟩ | ⟨_, _, _, rfl⟩⟩ := hv <;> exact .inr (.inr (.inr ⟨_, _, _, rfl⟩))

theorem eq_run {d : Option Tmp} {ty : TypeId} {pos : String} {af : Array Edge} {g : Option (Nat × Bool)} {ρ : Operand → Value} {t t' : TypeId} {x y : Operand} {a b : Value} {r : Bool} (ha : (∃ b, a = .bool b) ∨ (∃ p, a = .pointer p) ∨ (∃ cs, a = .agg cs) ∨ (∃ p n c, a = .slice p n c)) (hb : (∃ x, b = .bool x) ∨ (∃ p, b = .pointer p) ∨ (∃ cs, b = .agg cs) ∨ (∃ p n c, b = .slice p n c))
    (hx : ρ x = a) (hy : ρ y = b) (hg : P.eqGuardType P.depth t = false) (he : (Op.equalIn 10000 t a b).run P w = .ok r w) :
    (execOp ρ ⟨d, .binOp .eql t x y t', ty, pos, af, g⟩).run P w = .ok (.value (.bool r)) w ∧ (execOp ρ ⟨d, .binOp .neq t x y t', ty, pos, af, g⟩).run P w = .ok (.value (.bool (!r))) w := by
  have he' : (Op.equal t a b).run P w = .ok r w := he
  have hgd : ∀ op, (eqGuard op t x y a b).run P w = .ok () w := by
    intro op
    rcases ha with ⟨_, rfl⟩ | ⟨_, rfl⟩ | ⟨_, rfl⟩ | ⟨_, _, _, rfl⟩ <;> rcases hb with ⟨_, rfl⟩ | ⟨_, rfl⟩ | ⟨_, rfl⟩ | ⟨_, _, _, rfl⟩ <;> first | exact run_eqGuard_agg w op t x y _ _ hg | (cases op <;> simp [eqGuard])
  constructor
  · have hbn : binOp .eql t a b = (do pure (.bool (← Op.equal t a b))) := by
      rcases ha with ⟨_, rfl⟩ | ⟨_, rfl⟩ | ⟨_, rfl⟩ | ⟨_, _, _, rfl⟩ <;> rcases hb with ⟨_, rfl⟩ | ⟨_, rfl⟩ | ⟨_, rfl⟩ | ⟨_, _, _, rfl⟩ <;> rfl
    simp only [execOp, hx, hy, hbn]
    simp [hgd, he']
  · have hbn : binOp .neq t a b = (do pure (.bool (!(← Op.equal t a b)))) := by
      rcases ha with ⟨_, rfl⟩ | ⟨_, rfl⟩ | ⟨_, rfl⟩ | ⟨_, _, _, rfl⟩ <;> rcases hb with ⟨_, rfl⟩ | ⟨_, rfl⟩ | ⟨_, rfl⟩ | ⟨_, _, _, rfl⟩ <;> rfl
    simp only [execOp, hx, hy, hbn]
    simp [hgd, he']

theorem rawQ0_ok (P : Program) : RawOk P (rawQ0 P) := by
  intro X w0 w E L l l' o v h hR hl
  unfold rawQ0 at h
  obtain ⟨d, op, ty, pos, af, g⟩ := o
  simp only at h
  split at h <;> first | (cases h; done) | skip
  · rename_i bop t x y t'
    cases hx : lv l x with
    | none => rw [hx] at h; cases h
    | some a =>
      rw [hx] at h
      cases hy : lv l y with
      | none => rw [hy] at h; cases h
      | some b =>
        rw [hy] at h
        simp only at h
        cases hc : (noInt a && noInt b && !P.eqGuardType P.depth t)
        · rw [hc] at h; cases h
        rw [hc] at h
        simp only [cond_true] at h
        simp only [Bool.and_eq_true, Bool.not_eq_true'] at hc
        obtain ⟨a', ha1, ha2⟩ := lv_ev hl hx
        obtain ⟨b', hb1, hb2⟩ := lv_ev hl hy
        cases hq : leqv P 20 t a b with
        | none => rw [hq] at h; cases h
        | some r =>
          rw [hq] at h
          have run : ∀ (ρ : Operand → Value) (w1 : World), Agr l' ρ → _ := fun ρ w1 hag =>
            eq_run (P := P) (w := w1) (d := d) (ty := ty) (pos := pos) (af := af) (g := g) (t' := t') (noInt_vr hc.1.1 ha2) (noInt_vr hc.1.2 hb2) (hag x _ ha1) (hag y _ hb1) hc.2 (leqv_ok (w := w1) 20 t a b r hq a' b' ha2 hb2 9980)
          cases bop <;> first | (cases h; done) | skip
          · cases h; exact ⟨_, fun ρ w1 hag _ => (run ρ w1 hag).1, rfl⟩
          · cases h; exact ⟨_, fun ρ w1 hag _ => (run ρ w1 hag).2, rfl⟩
  · rename_i x y ts
    split at h <;> first | (cases h; done) | skip
    rename_i k a k' b hx hy
    cases hk : ikEq k k'
    · rw [hk] at h; cases h
    rw [hk] at h; cases h
    have := of_decide_eq_true hk
    subst this
    obtain ⟨_, hx1, rfl⟩ := lv_ev hl hx
    obtain ⟨_, hy1, rfl⟩ := lv_ev hl hy
    refine ⟨.int k (min a b), fun ρ w1 ha _ => ?_, rfl⟩
    have : (if b < a then b else a) = min a b := by rw [Int.min_def]; split <;> split <;> omega
    simp [execOp, resolve, invoke, builtin, Builtin.min_, Builtin.min2, ha x _ hx1, ha y _ hy1, this]
  · rename_i x y ts
    split at h <;> first | (cases h; done) | skip
    rename_i k a k' b hx hy
    cases hk : ikEq k k'
    · rw [hk] at h; cases h
    rw [hk] at h; cases h
    have := of_decide_eq_true hk
    subst this
    obtain ⟨_, hx1, rfl⟩ := lv_ev hl hx
    obtain ⟨_, hy1, rfl⟩ := lv_ev hl hy
    refine ⟨.int k (max a b), fun ρ w1 ha _ => ?_, rfl⟩
    simp [execOp, resolve, invoke, builtin, Builtin.max_, Builtin.max2, ha x _ hx1, ha y _ hy1]
    omega

/-! ### effects -/
def elemOf (P : Program) (sT : TypeId) : Option (TypeId × TypeInfo × Value) :=
  match P.underlying sT with
  | some (.slice e) => match P.info? e with
    | some i => match i.zero with
      | some z => some (e, i, z)
      | none => none
    | none => none
  | _ => none
theorem elemOf_ok {sT e : TypeId} {i : TypeInfo} {z : Value} (h : elemOf P sT = some (e, i, z)) : P.underlying sT = some (.slice e) ∧ P.info? e = some i ∧ i.zero = some z := by
  unfold elemOf at h
  split at h <;> first | (cases h; done) | skip
  rename_i e' hu
  split at h <;> first | (cases h; done) | skip
  rename_i i' hi
  split at h <;> cases h
  rename_i hz
  exact ⟨hu, hi, hz⟩

def isSl (P : Program) (t : TypeId) : Bool :=
  match P.underlying t with
  | some (.slice _) => true
  | _ => false
theorem isSl_ok {t : TypeId} (h : isSl P t = true) : ∃ e, P.underlying t = some (.slice e) := by
  unfold isSl at h
  split at h
  · rename_i e he; exact ⟨e, he⟩
  · cases h

def rawE0 (P : Program) : RawE := fun L l o =>
  match o.op with
  | .call ⟨.builtin .append, ⟨[s, x]⟩, ⟨[sT, xT]⟩⟩ => match elemOf P sT, lv l s, lv l x with
    | some (_, i, z), some vs, some vx => bif isSl P xT && Nat.beq z.cells.toList.length i.size && z.cells.toList.all one && Nat.blt 0 i.bytes && Nat.blt 0 i.size then lapp L i.size i.bytes vs vx else none
    | _, _, _ => none
  | .makeSlice sT n c => match elemOf P sT, lv l n, lv l c with
    | some (_, i, z), some (.int .i64 (.ofNat k)), some (.int .i64 (.ofNat k')) => bif Nat.beq k k' && Nat.beq i.size 1 && stillS z && Nat.ble (i.bytes * k) 281474976710656 && Nat.ble k 9223372036854775807 then
        some (.slice (some ⟨L.length, 0, none⟩) k k, L ++ [.cells 0 (List.replicate k z)]) else none
    | _, _, _ => none
  | _ => none

theorem rawE0_ok (P : Program) : RawEOk P (rawE0 P) := by
  intro X w0 w E L l l' o v L' K h hR hl hK
  unfold rawE0 at h
  obtain ⟨d, op, ty, pos, af, g⟩ := o
  simp only at h
  split at h <;> first | (cases h; done) | skip
  · rename_i s x sT xT
    split at h <;> first | (cases h; done) | skip
    rename_i e i z vs vx he hs hx
    cases hc : (isSl P xT && Nat.beq z.cells.toList.length i.size && z.cells.toList.all one && Nat.blt 0 i.bytes && Nat.blt 0 i.size)
    · rw [hc] at h; cases h
    rw [hc] at h
    simp only [Bool.and_eq_true] at hc
    obtain ⟨hu, hi, hz⟩ := elemOf_ok he
    obtain ⟨vs', h1, h2⟩ := lv_ev hl hs
    obtain ⟨vx', h3, h4⟩ := lv_ev hl hx
    exact lapp_ok ⟨hu, i, z, hi, rfl, rfl, hz, by simpa using Nat.eq_of_beq_eq_true hc.1.1.1.2, fun u hu => List.all_eq_true.1 hc.1.1.2 u hu⟩ (isSl_ok hc.1.1.1.1) (Nat.le_of_ble_eq_true hc.1.2) (Nat.le_of_ble_eq_true hc.2) hR h1 h3 h2 h4 h hK
  · rename_i sT n c
    split at h <;> first | (cases h; done) | skip
    rename_i e i z k k' he hn hcc
    cases hc : (Nat.beq k k' && Nat.beq i.size 1 && stillS z && Nat.ble (i.bytes * k) 281474976710656 && Nat.ble k 9223372036854775807)
    · rw [hc] at h; cases h
    rw [hc] at h
    cases h
    simp only [Bool.and_eq_true] at hc
    have hkk := Nat.eq_of_beq_eq_true hc.1.1.1.1
    subst hkk
    obtain ⟨hu, hi, hz⟩ := elemOf_ok he
    obtain ⟨_, h1, rfl⟩ := lv_ev hl hn
    obtain ⟨_, h3, rfl⟩ := lv_ev hl hcc
    have hz1 := SR.still (E := E) hc.1.1.2
    exact makeSlice_W (ty := ty) hu ⟨i, hi, rfl, rfl, hz⟩ (one_cells hz1.one.1) hz1.one.1 (Nat.eq_of_beq_eq_true hc.1.1.1.2) (Nat.le_of_ble_eq_true hc.1.2) (Nat.le_of_ble_eq_true hc.2) h1 h3 (fun w' v' _ hf hsz hv hB => by
      subst hv
      refine hK w' (E ++ [(w.heap.size, 0, 0)]) _ (Ext.push E _) (hR.push1 hf rfl hsz (fun _ h => h) ⟨_, hB, ?_, ?_, fun _ => rfl⟩) ⟨rfl, _, hR.last _, .inl ⟨_, _, rfl, .inl ⟨by simp, by simp⟩⟩⟩
      · simp only [List.drop_zero]
        rw [List.take_of_length_le (Nat.le_refl _)]
        exact L2.self fun a ha => by rw [List.eq_of_mem_replicate ha]; exact SR.still hc.1.1.2
      · simp)
end
end Go.Tum
