/-
  The logic over named blocks: growing rows (append, make, stores), weaker blocks, calls with told answers.
-/
import Derived.Test.YtnleiiniajinbaaLw
import Derived.Test.YtnleiiniajinbaaOv
namespace Go.Tum
open Go

section
variable {P : Program} {n0 : NA} {Q : Exit → Env → LH → Prop} {l : Env} {L : LH}

/-! ### growing rows -/
theorem QY.ldng {x : Operand} {b o n sz : Nat} {vs us : List Value} (hx : lv l x = some (.pointer (some ⟨b, o, none⟩))) (hb : L[b]? = some (.gro sz vs)) (hle : o + n ≤ vs.length) (hn : 0 < n) (hv : (vs.drop o).take n = us) (hs : us.all stillS = true) : QY P n0 L l (.ldn x n) (.agg ⟨us⟩) := by
  refine QY.of ?_
  have h1 : Nat.ble (o + n) vs.length = true := Nat.ble_eq_true_of_le hle
  have h2 : vs.isEmpty = false := by cases vs with
    | nil => simp at hle; omega
    | cons => rfl
  simp only [lq, lptr, hx, lcells, hb, hv, h1, hs, h2, Bool.and_self, Bool.not_false, cond_true]

theorem gro_foot {r : Nat × Nat × Nat} {sz : Nat} {vs : List Value} (h : vs ≠ []) : foot r (.gro sz vs) = (· = r.1) := by
  cases vs with
  | nil => exact absurd rfl h
  | cons => rfl

theorem EW.stg {x y : Operand} {b o sz : Nat} {vs : List Value} {u : Value} (hx : lv l x = some (.pointer (some ⟨b, o, none⟩))) (hy : lv l y = some u) (hb : L[b]? = some (.gro sz vs)) (hu : stillS u = true) (ho : o < vs.length) :
    EW P n0 L l (.st x y) (fun w K => w = undef ∧ K = L.set b (.gro sz (vs.set o u))) := by
  intro X w0 E0 w E l' Kf h0 hE hR hl hK
  obtain ⟨_, h1, a', rfl, _, r, hr, rfl⟩ := lv_ev hl hx
  obtain ⟨u', h2, h3⟩ := lv_ev hl hy
  have h1' := SR.still (E := E) hu
  obtain rfl : u' = u := SR.eq_still hu (h3.sr h1'.one.1)
  rcases hR.blk b _ r hb hr with ⟨rfl, _⟩ | ⟨hne, hsz, cs, hB, hcs, hroom⟩
  · simp at ho
  · have hne2 : vs.set o u' ≠ [] := by intro e; apply hne; have := congrArg List.length e; simp at this; exact this
    have hoc : o + r.2.1 < cs.length := by omega
    refine ⟨_, _, h1, h2, h1'.one.1, hB.some hoc, hB.frozen _, hK _ E _ _ _ ⟨rfl, rfl⟩ (Ext.refl E) (hR.upd hb hr ?_ (.inr ⟨hne2, hsz, cs.set (o + r.2.1) u', hB.set _ _, ?_, ?_⟩) ?_) VR.undef⟩
    · rw [gro_foot hne]; exact Fr.setCell w ⟨r.1, o + r.2.1, none⟩ u'
    · rw [List.length_set, List.drop_set, if_neg (by omega), List.take_set, hcs]
      congr 1; omega
    · simp only [List.length_set]; exact hroom
    · rw [gro_foot hne, gro_foot hne2]; exact fun _ h => .inl h

theorem EW.stng {x y : Operand} {b o n sz : Nat} {vs us : List Value} (hx : lv l x = some (.pointer (some ⟨b, o, none⟩))) (hy : lv l y = some (.agg ⟨us⟩)) (hn : us.length = n) (hb : L[b]? = some (.gro sz vs)) (hu : us.all stillS = true) (ho : o + n ≤ vs.length) (hn0 : 0 < n) :
    EW P n0 L l (.stn x y n) (fun w K => w = undef ∧ K = L.set b (.gro sz (splice vs o us))) := by
  intro X w0 E0 w E l' Kf h0 hE hR hl hK
  obtain ⟨_, h1, a', rfl, _, r, hr, rfl⟩ := lv_ev hl hx
  obtain ⟨u', h2, us', rfl, h3⟩ := lv_ev hl hy
  obtain rfl : us' = us := L2.eq_still hu h3
  rcases hR.blk b _ r hb hr with ⟨rfl, _⟩ | ⟨hne, hsz, cs, hB, hcs, hroom⟩
  · simp at ho; omega
  · have hcl : o + r.2.1 + us'.length ≤ cs.length := by omega
    have hls : (splice vs o us').length = vs.length := splice_length (by omega)
    have hne2 : splice vs o us' ≠ [] := by intro e; apply hne; have := congrArg List.length e; rw [hls] at this; exact List.length_eq_zero_iff.1 (by simpa using this)
    have hpb := putCells_blk (o := o + r.2.1) us' 0 w _ hB (by omega)
    refine ⟨_, _, h1, h2, by simpa using hn, fun u hu' => (SR.still (E := E) (List.all_eq_true.1 hu u (by simpa using hu'))).one.1, fun i hi => by rw [add_none]; exact ⟨hB.some (by show o + r.2.1 + i < cs.length; omega), hB.frozen _⟩, hK _ E _ _ _ ⟨rfl, rfl⟩ (Ext.refl E) (hR.upd hb hr ?_ (.inr ⟨hne2, hsz, _, hpb, ?_, ?_⟩) ?_) VR.undef⟩
    · rw [gro_foot hne]; exact putCells_fr (p := ⟨r.1, o + r.2.1, none⟩) us' 0 w
    · rw [hls, Nat.add_zero, splice_drop hcl (by omega), show o + r.2.1 - r.2.1 = o by omega, splice_take (by omega) (by simp; omega), hcs]
    · rw [hls, Nat.add_zero, splice_length hcl]; exact hroom
    · rw [gro_foot hne, gro_foot hne2]; exact fun _ h => .inl h

/-- the size and the bytes of an element, where append may be told -/
def appT (P : Program) (sT xT : TypeId) : Option (Nat × Nat) :=
  match elemOf P sT with
  | some (_, i, z) => bif isSl P xT && Nat.beq z.cells.toList.length i.size && z.cells.toList.all one && Nat.blt 0 i.bytes && Nat.blt 0 i.size then some (i.size, i.bytes) else none
  | none => none
theorem appT_raw {o : Oper} {s x : Operand} {sT xT : TypeId} {sz bytes : Nat} {vs vx : Value} (ho : o.op = .call ⟨.builtin .append, ⟨[s, x]⟩, ⟨[sT, xT]⟩⟩) (ht : appT P sT xT = some (sz, bytes)) (hs : lv l s = some vs) (hx : lv l x = some vx) : rawE2 P L l o = lapp L sz bytes vs vx := by
  unfold appT at ht
  have h1 : rawE2 P L l o = rawE0 P L l o := by unfold rawE2 rawE1; rw [ho]
  rw [h1]
  unfold rawE0
  rw [ho]
  simp only [hs, hx]
  split at ht
  · rename_i e i z he
    rw [he]
    simp only
    cases hc : (isSl P xT && Nat.beq z.cells.toList.length i.size && z.cells.toList.all one && Nat.blt 0 i.bytes && Nat.blt 0 i.size)
    · rw [hc] at ht; cases ht
    · rw [hc] at ht; cases ht; rfl
  · cases ht

theorem EW.appg {o : Oper} {s x : Operand} {sT xT : TypeId} {sz bytes b n m cx : Nat} {bx : Option Addr} {vs us : List Value} (ho : o.op = .call ⟨.builtin .append, ⟨[s, x]⟩, ⟨[sT, xT]⟩⟩) (ht : appT P sT xT = some (sz, bytes)) (hs : lv l s = some (.slice (some ⟨b, 0, none⟩) n n)) (hx : lv l x = some (.slice bx m cx))
    (hb : L[b]? = some (.gro sz vs)) (hn : vs.length = n * sz) (hv : vs.all stillS = true) (hsrc : lslc L sz (.slice bx m cx) = some us) (hus : us.all stillS = true) (hbd : (2 * (n + m) + 2048) * bytes ≤ 281474976710656) :
    EW P n0 L l (.raw o) (fun v K => v = .slice (some ⟨L.length, 0, none⟩) (n + m) (n + m) ∧ K = L.set b .dead ++ [.gro sz (vs ++ us)]) := by
  refine EW.of ?_
  have hc : ∃ cells, lslc L sz (.slice (some ⟨b, 0, none⟩) n n) = some cells := by
    cases n with
    | zero => exact ⟨[], rfl⟩
    | succ n =>
      have h1 : Nat.ble (0 + (n + 1) * sz) vs.length = true := Nat.ble_eq_true_of_le (by omega)
      by_cases h0 : vs = []
      · subst h0
        have hz : sz = 0 := by
          rcases Nat.eq_zero_or_pos sz with h | h
          · exact h
          · have : 0 < (n + 1) * sz := Nat.mul_pos (by omega) h
            simp at hn; omega
        -- an element has a size
        unfold appT at ht
        split at ht
        · rename_i e i z he
          cases hc : (isSl P xT && Nat.beq z.cells.toList.length i.size && z.cells.toList.all one && Nat.blt 0 i.bytes && Nat.blt 0 i.size)
          · rw [hc] at ht; cases ht
          · rw [hc] at ht; cases ht
            simp only [Bool.and_eq_true] at hc
            have : 0 < i.size := Nat.le_of_ble_eq_true hc.2
            omega
        · cases ht
      · have h2 : vs.isEmpty = false := by cases vs with
          | nil => exact absurd rfl h0
          | cons => rfl
        have h3 : ((vs.drop 0).take ((n + 1) * sz)).all stillS = true := List.all_eq_true.2 fun a ha => List.all_eq_true.1 hv a (List.mem_of_mem_drop (List.mem_of_mem_take ha))
        exact ⟨(vs.drop 0).take ((n + 1) * sz), by simp only [lslc, lcells, hb, h1, h2, h3, Bool.and_self, Bool.not_false, cond_true]⟩
  obtain ⟨cells, hc⟩ := hc
  have e1 : Nat.ble ((2 * (n + m) + 2048) * bytes) 281474976710656 = true := Nat.ble_eq_true_of_le hbd
  have e2 : Nat.beq vs.length (n * sz) = true := by rw [hn]; exact Nat.beq_refl _
  show rawE2 P L l o = _
  rw [appT_raw ho ht hs hx]
  unfold lapp
  simp only [hc, hsrc, e1, hb, Nat.beq_refl, e2, hv, hus, Bool.and_self, cond_true]

/-! ### weaker blocks -/
theorem LWp.wk {m : MC} {L' : LH} (hw : ∀ X w0 E w, Rep X w0 E L w → Rep X w0 E L' w) (h : LWp P n0 m Q l L') : LWp P n0 m Q l L :=
  ⟨fun X w0 E0 w E l' h0 hE hR hl => h.go X w0 E0 w E l' h0 hE (hw _ _ _ _ hR) hl⟩

theorem wk_gro {b sz : Nat} {vs : List Value} (hb : L[b]? = some (.cells sz vs)) (hne : vs ≠ []) (hsz : 0 < sz) (hs : vs.all stillS = true) : ∀ X w0 E w, Rep X w0 E L w → Rep X w0 E (L.set b (.gro sz vs)) w := by
  intro X w0 E w hR
  obtain ⟨r, hr⟩ := hR.ent hb
  obtain ⟨cs, hB, hl2, hroom, _⟩ := hR.blk b _ r hb hr
  refine hR.upd hb hr (Fr.refl _ w) (.inr ⟨hne, hsz, cs, hB, ?_, hroom⟩) (by rw [gro_foot hne]; exact fun _ h => .inl h)
  exact L2.eq_still hs hl2
theorem wk_data {b sz : Nat} {vs : List Value} (hb : L[b]? = some (.data vs)) (hsz : 0 < sz) : ∀ X w0 E w, Rep X w0 E L w → Rep X w0 E (L.set b (.gro sz vs)) w := by
  intro X w0 E w hR
  obtain ⟨r, hr⟩ := hR.ent hb
  obtain ⟨hB, hr0⟩ := hR.blk b _ r hb hr
  obtain ⟨r1, r2⟩ := r
  simp only at hr0 hB; subst hr0
  by_cases h0 : vs = []
  · subst h0
    exact hR.upd hb hr (Fr.refl _ w) (.inl ⟨rfl, rfl⟩) (fun _ h => h.elim)
  · exact hR.upd hb hr (Fr.refl _ w) (.inr ⟨h0, hsz, vs, hB, by simp, by simp⟩) (by rw [gro_foot h0]; exact fun _ h => .inl h)

/-- a cell that holds no row: an empty one that may grow -/
theorem LWp.nilG {m : MC} {b o sz0 : Nat} {vs : List Value} (sz : Nat) (hb : L[b]? = some (.cells sz0 vs)) (hv : vs[o]? = some (.slice none 0 0)) (h : LWp P n0 m Q l (L.set b (.cells sz0 (vs.set o (.slice (some ⟨L.length, 0, none⟩) 0 0))) ++ [.gro sz []])) : LWp P n0 m Q l L := by
  refine ⟨fun X w0 E0 w E l' h0 hE hR hl => ?_⟩
  refine h.go X w0 E0 w (E ++ [(0, 0, 0)]) l' h0 (hE.trans (Ext.push E _)) ?_ (hl.ext (Ext.push E _))
  obtain ⟨r, hr⟩ := hR.ent hb
  have h1 : Rep X w0 (E ++ [(0, 0, 0)]) (L ++ [.gro sz []]) w := hR.push (Fr.refl _ w) (fun _ h => h.elim) (.inl ⟨rfl, rfl⟩)
  have hblt := (List.getElem?_eq_some_iff.1 hb).1
  have hb' : (L ++ [LB.gro sz []])[b]? = some (.cells sz0 vs) := by rw [List.getElem?_append_left hblt]; exact hb
  have hr' : (E ++ [(0, 0, 0)])[b]? = some r := Ext.push E _ b r hr
  obtain ⟨cs, hB, hl2, hroom, hz⟩ := h1.blk b _ r hb' hr'
  have h2 := h1.upd (x := .cells sz0 (vs.set o (.slice (some ⟨L.length, 0, none⟩) 0 0))) hb' hr' (Fr.refl _ w) ⟨cs, hB, ?_, by simpa using hroom, hz⟩ (fun _ h => .inl h)
  · rw [List.set_append_left _ _ hblt] at h2; exact h2
  · rw [List.length_set]
    obtain ⟨v', g1, g2⟩ := hl2.get hv
    have g2 : v' = .slice none 0 0 := g2
    subst g2
    have hset : ((cs.drop r.2.1).take vs.length) = ((cs.drop r.2.1).take vs.length).set o (.slice none 0 0) := by
      apply List.ext_getElem?
      intro i
      rw [List.getElem?_set]
      split
      · rename_i e; subst e
        rw [if_pos (List.getElem?_eq_some_iff.1 g1).1]; exact g1
      · rfl
    rw [hset]
    refine hl2.set o ?_
    have hlast : (E ++ [(0, 0, 0)])[L.length]? = some (0, 0, 0) := by rw [← hR.len]; simp
    exact ⟨rfl, _, hlast, .inr ⟨rfl, rfl, _, rfl⟩⟩

/-! ### make -/
def mkT (P : Program) (sT : TypeId) : Option (Nat × Nat × List Value) :=
  match elemOf P sT with
  | some (_, i, z) => bif Nat.beq z.cells.toList.length i.size && Nat.blt 0 i.size && z.cells.toList.all stillS then some (i.size, i.bytes, z.cells.toList) else none
  | none => none
theorem EW.mk {o : Oper} {n c : Operand} {sT : TypeId} {sz bytes k : Nat} {zs : List Value} (ho : o.op = .makeSlice sT n c) (ht : mkT P sT = some (sz, bytes, zs)) (hn : lv l n = some (.int .i64 k)) (hc : lv l c = some (.int .i64 k)) (hk : bytes * k ≤ 140737488355328) (hk2 : k ≤ 9223372036854775807) :
    EW P n0 L l (.raw o) (fun v K => v = .slice (some ⟨L.length, 0, none⟩) k k ∧ K = L ++ [.gro sz (repC k zs)]) := by
  intro X w0 E0 w E l' Kf h0 hE hR hl hK
  unfold mkT at ht
  split at ht
  rotate_left
  · cases ht
  rename_i e i z he
  cases hq : (Nat.beq z.cells.toList.length i.size && Nat.blt 0 i.size && z.cells.toList.all stillS)
  · rw [hq] at ht; cases ht
  rw [hq] at ht; cases ht
  simp only [Bool.and_eq_true] at hq
  obtain ⟨hu, hi, hz⟩ := elemOf_ok he
  obtain ⟨_, h1, rfl⟩ := lv_ev hl hn
  obtain ⟨_, h3, rfl⟩ := lv_ev hl hc
  obtain ⟨d, op, ty, pos, af, g⟩ := o
  simp only at ho
  subst ho
  have hzl := Nat.eq_of_beq_eq_true hq.1.1
  have hsz : 0 < i.size := Nat.le_of_ble_eq_true hq.1.2
  refine makeSlice_any (ty := ty) hu hi hz (by simpa using hzl) hsz (Nat.le_refl _) hk hk2 h1 h3
    (hK _ (E ++ [(w.heap.size, 0, 0)]) _ _ _ ⟨rfl, rfl⟩ (Ext.push E _) (hR.push1 (Fr.alloc _ w _) rfl (alloc_size _ _) (fun b hb => ?_) ?_) ⟨rfl, _, hR.last _, .inl ⟨_, _, rfl, .inl ⟨by simp, by simp⟩⟩⟩)
  · cases hrc : repC k z.cells.toList with
    | nil => rw [hrc] at hb; exact hb.elim
    | cons => rw [hrc] at hb; exact hb
  · by_cases h0 : repC k z.cells.toList = []
    · rw [h0]; exact .inl ⟨rfl, rfl⟩
    · exact .inr ⟨h0, hsz, _, Blk.new w _ _, by simp, by simp⟩

/-! ### calls -/
def partL (M : LH) (Φ : List Nat) : List Nat → LH → Prop
  | [], [] => True
  | j :: φ, x :: L => M[j]? = some (rnB M.length Φ x) ∧ partL M Φ φ L
  | _, _ => False
theorem partL_get {M : LH} {Φ : List Nat} : ∀ {φ : List Nat} {L : LH}, partL M Φ φ L → φ.length = L.length ∧ ∀ (k : Nat) (x : LB), L[k]? = some x → ∃ j, φ[k]? = some j ∧ M[j]? = some (rnB M.length Φ x)
  | [], [], _ => ⟨rfl, fun k x h => by simp at h⟩
  | j :: φ, y :: L, h => by
    obtain ⟨h1, h2⟩ := h
    obtain ⟨h3, h4⟩ := partL_get h2
    refine ⟨by simp [h3], fun k x hk => ?_⟩
    cases k with
    | zero => simp at hk; subst hk; exact ⟨j, rfl, h1⟩
    | succ k => simp only [List.getElem?_cons_succ] at hk ⊢; exact h4 k x hk
  | [], _ :: _, h => h.elim
  | _ :: _, [], h => h.elim
theorem Part.of {φ : List Nat} {M L : LH} (hn : φ.Nodup) (h : partL M φ φ L) : Part φ M L := ⟨(partL_get h).1, hn, (partL_get h).2⟩

/-- a call whose answer and blocks are told -/
theorem EW.callF {f : FuncId} {args : List Operand} {vs us : List Value} {Lc L1 K2 : LH} {v1 v2 : Value} (φ : List Nat) (ht : Tr P f us Lc (fun v K => v = v1 ∧ K = L1)) (hv : lvs l args = some vs) (he : us.map (rnV L.length φ) = vs) (hn : φ.Nodup) (hp : partL L φ φ Lc)
    (h2 : rnV (L.length + L1.length) (phi2 φ L.length L1) v1 = v2) (hK : joinL φ L L1 = K2) : EW P n0 L l (.call f args) (fun v K => v = v2 ∧ K = K2) :=
  (EW.callA φ ht hv he (Part.of hn hp) handed_nil).mono fun v K ⟨v', L', ⟨h3, h4⟩, h5, h6⟩ => by subst h3; subst h4; exact ⟨h5.trans h2, h6.trans hK⟩
end
end Go.Tum
