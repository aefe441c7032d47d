/-
  The logic over named blocks: bytes as strings.
-/
import Derived.Test.YtnleiiniajinbaaLw10
namespace Go.Tum
open Go

/-- the string of some bytes -/
def bytesS (bs : List (BitVec 8)) : ByteArray := ⟨(bs.map fun b => UInt8.ofNat b.toNat).toArray⟩
theorem ofNat_toNat_inj {a b : BitVec 8} (h : UInt8.ofNat a.toNat = UInt8.ofNat b.toNat) : a = b := by
  have h1 := congrArg UInt8.toNat h
  simp only [UInt8.toNat_ofNat'] at h1
  rw [Nat.mod_eq_of_lt a.isLt, Nat.mod_eq_of_lt b.isLt] at h1
  exact BitVec.eq_of_toNat_eq h1
theorem bytesS_inj {a b : List (BitVec 8)} (h : bytesS a = bytesS b) : a = b := by
  unfold bytesS at h
  injection h with h
  have h2 : a.map (fun b => UInt8.ofNat b.toNat) = b.map fun b => UInt8.ofNat b.toNat := by
    have := congrArg Array.toList h
    simpa using this
  clear h
  induction a generalizing b with
  | nil => cases b with
    | nil => rfl
    | cons => simp at h2
  | cons x r ih => cases b with
    | nil => simp at h2
    | cons y s =>
      simp only [List.map_cons, List.cons.injEq] at h2
      rw [ofNat_toNat_inj h2.1, ih h2.2]
theorem bytesS_eq (a b : List (BitVec 8)) : (bytesS a == bytesS b) = decide (a = b) := by
  have e : (bytesS a == bytesS b) = ((bytesS a).data == (bytesS b).data) := rfl
  rw [e, Bool.eq_iff_iff, beq_iff_eq, decide_eq_true_eq]
  exact ⟨fun h => bytesS_inj (by cases hx : bytesS a; cases hy : bytesS b; rw [hx, hy] at h; simp only at h; rw [h]), fun h => by rw [h]⟩

section
variable {P : Program} {w : World}
theorem str_loop {f : Value → ByteArray → Sem (ForInStep ByteArray)} (hf : ∀ (n : Int) (s : ByteArray), f (.int .u8 n) s = pure (ForInStep.yield (s.push (UInt8.ofNat n.toNat)))) (bs : List (BitVec 8)) : ∀ s : ByteArray, (forIn (bs.map fun b => Value.int .u8 (b.toNat : Int)) s f).run P w = .ok (⟨s.data ++ (bs.map fun b => UInt8.ofNat b.toNat).toArray⟩) w := by
  induction bs with
  | nil => intro s; simp
  | cons b r ih =>
    intro s
    simp only [List.map_cons, List.forIn_cons, hf, Sem.run_bind, Sem.run_pure, Result.andThen_ok]
    rw [ih]
    congr 2
    simp [ByteArray.push]
theorem bytesToString_run {a : Addr} {n c : Nat} {bs : List (BitVec 8)} (h : (loadCells a n).run P w = .ok (bs.map fun b => Value.int .u8 (b.toNat : Int)).toArray w) : (Conv.bytesToString (.slice (some a) n c)).run P w = .ok (.string (bytesS bs)) w := by
  unfold Conv.bytesToString
  simp only [Sem.run_bind, h, Result.andThen_ok, List.forIn_toArray, Sem.run_pure]
  rw [str_loop (fun _ _ => rfl) bs]
  simp [bytesS, ByteArray.empty, ByteArray.emptyWithCapacity]
  rfl
end
theorem byteC_map (bs : List (BitVec 8)) : rowsC byteC bs = bs.map fun b => Value.int .u8 (b.toNat : Int) := by
  induction bs with
  | nil => rfl
  | cons x r ih => simp only [rowsC, byteC, ih, List.map_cons]; rfl

section
variable {P : Program} {n0 : NA} {l : Env} {L : LH}
/-- a conversion of bytes to a string -/
def strT (P : Program) (src dst : TypeId) : Bool := match P.underlying src, P.underlying dst with
  | some (.slice e), some .string => match P.underlying e with
    | some (.int .u8) => true
    | _ => false
  | _, _ => false
theorem QY.str {o : Oper} {src dst : TypeId} {x : Operand} {b i m c : Nat} {ys : List (BitVec 8)} (ho : o.op = .convert src dst x) (ht : strT P src dst = true) (hx : lv l x = some (.slice (some ⟨b, i * 1, none⟩) m c)) (hb : L[b]? = some (.gro 1 (rowsC byteC ys))) (hm : i + m ≤ ys.length) :
    QY P n0 L l (.raw o) (.string (bytesS ((ys.drop i).take m))) := by
  intro X w0 E0 w E l' _ hE hR hl
  unfold strT at ht
  split at ht
  rotate_left
  · cases ht
  rename_i e hs hd
  split at ht
  rotate_left
  · cases ht
  rename_i he
  obtain ⟨vx, h1, h2⟩ := lv_ev hl hx
  obtain ⟨d, op, ty, pos, af, g⟩ := o
  simp only at ho
  subst ho
  have key : ∀ w1 : World, Sim w1 w → (convert src dst vx).run P w1 = .ok (.string (bytesS ((ys.drop i).take m))) w1 := by
    intro w1 hs1
    obtain ⟨_, r, hr, ⟨a', c', rfl, hcase⟩ | ⟨rfl, _, a', rfl⟩⟩ := h2
    · simp only [convert, Sem.run_bind, run_underlying hs, run_underlying hd, run_underlying he, Result.andThen_ok]
      refine bytesToString_run ?_
      rcases Nat.eq_zero_or_pos m with rfl | hm0
      · simp [loadCells_none]
      · rcases hcase with ⟨rfl, _⟩ | ⟨h0, _⟩
        rotate_left
        · omega
        have hcs := lcells_rows (L := L) (k := i) (m := m) byteC_ok hb hm (by omega) hm0
        obtain ⟨ss, us, hS, _, hsl, hus, hL, hul⟩ := lcells_ok hR (a := ⟨b, i * 1, none⟩) (a' := ⟨r.1, i * 1 + r.2.1, none⟩) ⟨rfl, r, hr, rfl⟩ hcs
        have hue : us = _ := L2.eq_still (rowsC_still byteC_ok _) hL
        simp only at hS hsl hus
        simp only [Nat.mul_one] at hsl hus hS ⊢
        rw [loadCells_blk (hS.sim hs1) (o := i + r.2.1) (n := m) hsl, ← hus, hue, byteC_map]
    · simp only [convert, Sem.run_bind, run_underlying hs, run_underlying hd, run_underlying he, Result.andThen_ok]
      cases a' with
      | none => simp [Conv.bytesToString, bytesS]; rfl
      | some a' =>
        refine bytesToString_run ?_
        simp [loadCells_none]
  refine ⟨_, fun ρ w1 ha hs1 => ?_, rfl⟩
  simp only [execOp, ha x _ h1, Sem.run_bind, key w1 hs1]
  rfl

theorem toList_bytesS (a b : List (BitVec 8)) : ((bytesS a).toList == (bytesS b).toList) = decide (a = b) := by
  rw [ByteArray.toList_eq, ByteArray.toList_eq, Bool.eq_iff_iff, beq_iff_eq, decide_eq_true_eq]
  refine ⟨fun h => bytesS_inj ?_, fun h => by rw [h]⟩
  cases hx : bytesS a with
  | mk da => cases hy : bytesS b with
    | mk db =>
      rw [hx, hy] at h
      simp only at h
      congr 1
      exact Array.toList_inj.1 h
theorem QY.eqlStr {o : Oper} {t ty : TypeId} {x y : Operand} {a b : List (BitVec 8)} (ho : o.op = .binOp .eql t x y ty) (hx : lv l x = some (.string (bytesS a))) (hy : lv l y = some (.string (bytesS b))) : QY P n0 L l (.raw o) (.bool (decide (a = b))) := by
  intro X w0 E0 w E l' _ hE hR hl
  obtain ⟨_, h1, rfl⟩ := lv_ev hl hx
  obtain ⟨_, h2, rfl⟩ := lv_ev hl hy
  obtain ⟨d, op, ty', pos, af, g⟩ := o
  simp only at ho
  subst ho
  refine ⟨_, fun ρ w1 ha hs1 => ?_, rfl⟩
  simp [execOp, ha x _ h1, ha y _ h2, eqGuard, binOp, Op.stringOp, toList_bytesS]
theorem QY.neqStr {o : Oper} {t ty : TypeId} {x y : Operand} {a b : List (BitVec 8)} (ho : o.op = .binOp .neq t x y ty) (hx : lv l x = some (.string (bytesS a))) (hy : lv l y = some (.string (bytesS b))) : QY P n0 L l (.raw o) (.bool (!decide (a = b))) := by
  intro X w0 E0 w E l' _ hE hR hl
  obtain ⟨_, h1, rfl⟩ := lv_ev hl hx
  obtain ⟨_, h2, rfl⟩ := lv_ev hl hy
  obtain ⟨d, op, ty', pos, af, g⟩ := o
  simp only at ho
  subst ho
  refine ⟨_, fun ρ w1 ha hs1 => ?_, rfl⟩
  simp [execOp, ha x _ h1, ha y _ h2, eqGuard, binOp, Op.stringOp, toList_bytesS]

/-! ### a part of a row, from its begin -/
theorem QY.slc0 {x : Operand} {lo hi : Option Operand} {size b n c lo' hi' : Nat} (hx : lv l x = some (.slice (some ⟨b, 0, none⟩) n c)) (h1 : lbound l lo 0 = some lo') (h2 : lbound l hi n = some hi') (h3 : lo' ≤ hi') (h4 : hi' ≤ c) :
    QY P n0 L l (.slc x lo hi size) (.slice (some ⟨b, lo' * size, none⟩) (hi' - lo') (c - lo')) := by
  have := QY.slc (P := P) (n0 := n0) (L := L) (size := size) hx h1 h2 h3 h4
  rwa [Nat.zero_add] at this
theorem QY.ldYo {x : Operand} {b o k : Nat} {xs : List (BitVec 8)} {a : BitVec 8} (hx : lv l x = some (.pointer (some ⟨b, o, none⟩))) (ho : o = k) (hb : L[b]? = some (.gro 1 (rowsC byteC xs))) (hk : xs[k]? = some a) : QY P n0 L l (.ld x) (.int .u8 (a.toNat : Int)) :=
  QY.ldY (by rw [hx, ho, Nat.mul_one]) hb hk

theorem QY.idxO {x i : Operand} {b o n c k sz : Nat} {kd : IntKind} (hx : lv l x = some (.slice (some ⟨b, o, none⟩) n c)) (hi : lv l i = some (.int kd (k : Int))) (h1 : k < n) : QY P n0 L l (.idx x i sz) (.pointer (some ⟨b, o + k * sz, none⟩)) := by
  have := QY.idx (P := P) (n0 := n0) (L := L) (size := sz) hx hi (by omega) (by omega)
  simpa using this

/-! ### is a slice nil? -/
variable {K : Env → LH → Prop} {T T1 : Taken} {ss r : List Step} {l1 : Env} {L1 : LH} {k : Nat} {d : Option Nat} {g : Option (Nat × Bool)} {op : QOp} {rd : Bool}
def QY2 (P : Program) (n0 : NA) (L : LH) (l : Env) (q : QOp) (v u : Value) : Prop :=
  ∀ (X : Nat → Prop) (w0 : World) (E0 : Emb) (w : World) (E : Emb) (l' : Env), n0.Ok X w0 E0 → n0.Ext E0 E → Rep X w0 E L w → ER E l l' → ∃ v', q.Y P l' v' w ∧ (VR E v v' ∨ VR E u v')
/-- an operation that yields the one, or the other one -/
theorem S_Q2 {v u : Value} (st : List Nat) (h : arun st ss l T L = (.q k d g op rd :: r, l1, T1, L1)) (hg : gw g l1 = some true) (hy : QY2 P n0 L1 l1 op v u) (h1 : LSt P n0 r K (dpush d v l1) (bif rd then (k, op, l1, v) :: T1 else T1) L1) (h2 : LSt P n0 r K (dpush d u l1) (bif rd then (k, op, l1, u) :: T1 else T1) L1) : LSt P n0 ss K l T L := by
  refine arun_ok st ss l T L h ?_
  refine ⟨fun X w0 E0 w E l' F h0 hE hR hl hT => ?_⟩
  simp only [stepsWp]
  refine gw_ok hl hg (fun _ => ?_) (fun e => by cases e)
  obtain ⟨v', e1, e2⟩ := hy X w0 E0 w E l' h0 hE hR hl
  refine ⟨v', e1, ?_⟩
  rcases e2 with e2 | e2
  · cases rd
    · exact h1.go X w0 E0 w E _ _ h0 hE hR (hl.dpush e2 d) hT
    · exact h1.go X w0 E0 w E _ _ h0 hE hR (hl.dpush e2 d) ⟨rfl, ⟨l', v', rfl, hl, e2⟩, hT⟩
  · cases rd
    · exact h2.go X w0 E0 w E _ _ h0 hE hR (hl.dpush e2 d) hT
    · exact h2.go X w0 E0 w E _ _ h0 hE hR (hl.dpush e2 d) ⟨rfl, ⟨l', v', rfl, hl, e2⟩, hT⟩
def sliceT (P : Program) (t : TypeId) : Bool := match P.underlying t with
  | some (.slice _) => true
  | _ => false
theorem nil_run {t : TypeId} {a : Option Addr} {n c : Nat} {w : World} (ht : sliceT P t = true) : (Op.equal t (.slice a n c) (.slice none 0 0)).run P w = .ok a.isNone w := by
  unfold sliceT at ht
  split at ht
  · rename_i e hu
    unfold Op.equal Op.maxDepth
    unfold Op.equalIn
    simp only [Sem.run_bind, run_underlying hu, Result.andThen_ok]
    cases a <;> rfl
  · cases ht
/-- a slice with an element is not nil -/
theorem QY.nilS {o : Oper} {t ty : TypeId} {x : Operand} {b off n c : Nat} (ho : o.op = .binOp .eql t x (.const (.slice none 0 0)) ty) (ht : sliceT P t = true) (hx : lv l x = some (.slice (some ⟨b, off, none⟩) n c)) (hn : 0 < n) : QY P n0 L l (.raw o) (.bool false) := by
  intro X w0 E0 w E l' _ hE hR hl
  obtain ⟨vx, h1, h2⟩ := lv_ev hl hx
  obtain ⟨_, r, hr, ⟨a', c', rfl, _⟩ | ⟨h0, _⟩⟩ := h2
  rotate_left
  · omega
  obtain ⟨d, op, ty', pos, af, g⟩ := o
  simp only at ho
  subst ho
  refine ⟨_, fun ρ w1 ha hs1 => ?_, rfl⟩
  have hc : ρ (.const (.slice none 0 0)) = .slice none 0 0 := ha _ _ rfl
  simp [execOp, ha x _ h1, hc, eqGuard, binOp, nil_run ht]
theorem QY.nilS2 {o : Oper} {t ty : TypeId} {x : Operand} {b off n c : Nat} (ho : o.op = .binOp .eql t x (.const (.slice none 0 0)) ty) (ht : sliceT P t = true) (hx : lv l x = some (.slice (some ⟨b, off, none⟩) n c)) : QY2 P n0 L l (.raw o) (.bool true) (.bool false) := by
  intro X w0 E0 w E l' _ hE hR hl
  obtain ⟨vx, h1, h2⟩ := lv_ev hl hx
  obtain ⟨a', c', rfl⟩ := form_slice h2
  obtain ⟨d, op, ty', pos, af, g⟩ := o
  simp only at ho
  subst ho
  refine ⟨.bool a'.isNone, fun ρ w1 ha hs1 => ?_, ?_⟩
  · have hc : ρ (.const (.slice none 0 0)) = .slice none 0 0 := ha _ _ rfl
    simp [execOp, ha x _ h1, hc, eqGuard, binOp, nil_run ht]
  · cases a'
    · exact .inl rfl
    · exact .inr rfl
end
end Go.Tum
