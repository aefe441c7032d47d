/-
  The logic over named blocks: copies and clearings of parts of rows.
-/
import Derived.Test.YtnleiiniajinbaaLw8
namespace Go.Tum
open Go

section
variable {P : Program} {n0 : NA} {l : Env} {L : LH}
theorem set_self {α : Type} {l : List α} {i : Nat} {a : α} (h : l[i]? = some a) : l.set i a = l := by
  obtain ⟨hi, rfl⟩ := List.getElem?_eq_some_iff.1 h
  exact List.set_getElem_self hi
/-- cells are written over a part of a row -/
theorem Rep.putg {X : Nat → Prop} {w0 w : World} {E : Emb} {b sz o : Nat} {vs us : List Value} {r : Nat × Nat × Nat} (hR : Rep X w0 E L w) (hb : L[b]? = some (.gro sz vs)) (hr : E[b]? = some r) (hu : us.all stillS = true) (ho : o + us.length ≤ vs.length) (hn0 : 0 < us.length) :
    ∃ cs, Blk w r.1 cs ∧ o + r.2.1 + us.length ≤ cs.length ∧ Rep X w0 E (L.set b (.gro sz (splice vs o us))) (putCells w ⟨r.1, o + r.2.1, none⟩ 0 us) := by
  rcases hR.blk b _ r hb hr with ⟨rfl, _⟩ | ⟨hne, hsz, cs, hB, hcs, hroom⟩
  · simp only [List.length_nil] at ho; omega
  · have hcl : o + r.2.1 + us.length ≤ cs.length := by omega
    have hls : (splice vs o us).length = vs.length := splice_length (by omega)
    have hne2 : splice vs o us ≠ [] := by intro e; apply hne; have := congrArg List.length e; rw [hls] at this; exact List.length_eq_zero_iff.1 (by simpa using this)
    have hpb := putCells_blk (o := o + r.2.1) us 0 w _ hB (by omega)
    refine ⟨cs, hB, hcl, hR.upd hb hr ?_ (.inr ⟨hne2, hsz, _, hpb, ?_, ?_⟩) ?_⟩
    · rw [gro_foot hne]; exact putCells_fr (p := ⟨r.1, o + r.2.1, none⟩) us 0 w
    · rw [hls, Nat.add_zero, splice_drop hcl (by omega), show o + r.2.1 - r.2.1 = o by omega, splice_take (by omega) (by simp; omega), hcs]
    · rw [hls, Nat.add_zero, splice_length hcl]; exact hroom
    · rw [gro_foot hne, gro_foot hne2]; exact fun _ h => .inl h

variable {α : Type} {g : α → List Value} {sz : Nat}
theorem rowsC_splice (h : RowOk g sz) {xs ys : List α} {k : Nat} : splice (rowsC g xs) (k * sz) (rowsC g ys) = rowsC g (xs.take k ++ ys ++ xs.drop (k + ys.length)) := by
  rw [splice, rowsC_length h, ← Nat.add_mul, rowsC_take h, rowsC_drop h, rowsC_append, rowsC_append]
theorem lcells_rows {b k m : Nat} {xs : List α} (h : RowOk g sz) (hb : L[b]? = some (.gro sz (rowsC g xs))) (hm : k + m ≤ xs.length) (hz : 0 < sz) (hm0 : 0 < m) : lcells L ⟨b, k * sz, none⟩ (m * sz) = some (rowsC g ((xs.drop k).take m)) := by
  have := lslc_rows (L := L) (c := m) h hb (rfl : k * sz = k * sz) hm hz
  cases m with
  | zero => omega
  | succ m => simpa [lslc] using this

/-- whose elements a type of slices has: so many cells -/
def cpyT (P : Program) (dT : TypeId) : Option Nat :=
  match elemOf P dT with
  | some (_, i, _) => some i.size
  | none => none
theorem form_slice {E : Emb} {a : Option Addr} {n c : Nat} {v : Value} (hv : VR E (.slice a n c) v) : ∃ a' c', v = .slice a' n c' := by
  cases a with
  | none => cases hv; exact ⟨_, _, rfl⟩
  | some a => obtain ⟨_, r, _, ⟨a', c', rfl, _⟩ | ⟨rfl, _, _, rfl⟩⟩ := hv <;> exact ⟨_, _, rfl⟩

theorem EW.copyg {o : Oper} {x y : Operand} {dT sT : TypeId} {b i dn dc bx j sn sc : Nat} {xs ys : List α} (h : RowOk g sz) (ho : o.op = .call ⟨.builtin .copy, ⟨[x, y]⟩, ⟨[dT, sT]⟩⟩) (ht : cpyT P dT = some sz)
    (hx : lv l x = some (.slice (some ⟨b, i * sz, none⟩) dn dc)) (hy : lv l y = some (.slice (some ⟨bx, j * sz, none⟩) sn sc)) (hb : L[b]? = some (.gro sz (rowsC g xs))) (hbx : L[bx]? = some (.gro sz (rowsC g ys)))
    (hd : i + dn ≤ xs.length) (hs : j + sn ≤ ys.length) (hz : 0 < sz) :
    EW P n0 L l (.raw o) (fun v K => v = .int .i64 (min sn dn : Nat) ∧ K = L.set b (.gro sz (rowsC g (xs.take i ++ (ys.drop j).take (min sn dn) ++ xs.drop (i + min sn dn))))) := by
  intro X w0 E0 w E l' Kf h0 hE hR hl hK
  unfold cpyT at ht
  split at ht
  rotate_left
  · cases ht
  rename_i e ie z he
  cases ht
  obtain ⟨hu, hi, _⟩ := elemOf_ok he
  obtain ⟨vd', h1, h2⟩ := lv_ev hl hx
  obtain ⟨vs', h3, h4⟩ := lv_ev hl hy
  obtain ⟨d, op, ty, pos, af, gg⟩ := o
  simp only at ho
  subst ho
  obtain ⟨base', dc', rfl⟩ := form_slice h2
  obtain ⟨sb', sc', rfl⟩ := form_slice h4
  refine copy_any (ty := ty) hu hi h1 h3 (fun hm => ?_) (fun hp => ?_)
  · refine hK w E _ _ _ ⟨rfl, rfl⟩ (Ext.refl E) ?_ (by rw [hm]; rfl)
    rw [hm]
    have e : xs.take i ++ (ys.drop j).take 0 ++ xs.drop (i + 0) = xs := by simp
    rw [e, set_self hb]
    exact hR
  · have hdn : dn ≠ 0 := by omega
    have hsn : sn ≠ 0 := by omega
    obtain ⟨_, r, hr, ⟨a1, c1, e1, hcase⟩ | ⟨hz0, _⟩⟩ := h2
    rotate_left
    · exact absurd hz0 hdn
    rcases hcase with ⟨rfl, rfl⟩ | ⟨hz0, _⟩
    rotate_left
    · exact absurd hz0 hdn
    cases e1
    obtain ⟨hsp, q, hq, ⟨a2, c2, e2, hcase⟩ | ⟨hz0, _⟩⟩ := h4
    rotate_left
    · exact absurd hz0 hsn
    rcases hcase with ⟨rfl, rfl⟩ | ⟨hz0, _⟩
    rotate_left
    · exact absurd hz0 hsn
    cases e2
    have hcs := lcells_rows (L := L) (k := j) (m := min sn dn) h hbx (by omega) hz hp
    obtain ⟨ss, us, hS, _, hsl, hus, hL, hul⟩ := lcells_ok hR (a := ⟨bx, j * ie.size, none⟩) (a' := ⟨q.1, j * ie.size + q.2.1, none⟩) ⟨hsp, q, hq, rfl⟩ hcs
    simp only at hS hsl hus
    have hst := rowsC_still h ((ys.drop j).take (min sn dn))
    have hue : us = rowsC g ((ys.drop j).take (min sn dn)) := L2.eq_still hst hL
    have hlen : us.length = min sn dn * ie.size := hul
    have hle : (i + min sn dn) * ie.size ≤ xs.length * ie.size := Nat.mul_le_mul_right _ (by omega)
    rw [Nat.add_mul] at hle
    have hpos : 0 < min sn dn * ie.size := Nat.mul_pos hp hz
    obtain ⟨cs, hB, hcl, hR'⟩ := hR.putg (o := i * ie.size) (us := us) hb hr (by rw [hue]; exact hst) (by rw [hlen, rowsC_length h]; exact hle) (by omega)
    refine ⟨_, _, _, _, cs, ss, rfl, rfl, hB, hS, by rw [← hlen]; exact hcl, hsl, fun u hu => ?_, hK _ E _ _ _ ⟨rfl, rfl⟩ (Ext.refl E) ?_ rfl⟩
    · rw [← hus] at hu
      obtain ⟨u0, _, h5⟩ := hL.mem u hu
      exact h5.one.2
    · rw [← hus]
      have e := rowsC_splice h (xs := xs) (ys := (ys.drop j).take (min sn dn)) (k := i)
      rw [hue] at hR'
      rw [e] at hR'
      have e2 : ((ys.drop j).take (min sn dn)).length = min sn dn := by simp; omega
      rw [e2] at hR'
      rw [hue]
      exact hR'

/-- the zero of an element, cell by cell -/
def clrT (P : Program) (dT : TypeId) : Option (Nat × List Value) :=
  match elemOf P dT with
  | some (_, i, z) => bif Nat.blt 0 z.cells.toList.length && Nat.beq z.cells.toList.length i.size && z.cells.toList.all stillS then some (i.size, z.cells.toList) else none
  | none => none
theorem EW.clearg {o : Oper} {x : Operand} {dT : TypeId} {b i dn dc : Nat} {xs : List α} {zs : List Value} {z0 : α} (h : RowOk g sz) (ho : o.op = .call ⟨.builtin .clear, ⟨[x]⟩, ⟨[dT]⟩⟩) (ht : clrT P dT = some (sz, zs)) (hg0 : g z0 = zs)
    (hx : lv l x = some (.slice (some ⟨b, i * sz, none⟩) dn dc)) (hb : L[b]? = some (.gro sz (rowsC g xs))) (hd : i + dn ≤ xs.length) :
    EW P n0 L l (.raw o) (fun v K => v = .tuple #[] ∧ K = L.set b (.gro sz (rowsC g (xs.take i ++ List.replicate dn z0 ++ xs.drop (i + dn))))) := by
  intro X w0 E0 w E l' Kf h0 hE hR hl hK
  unfold clrT at ht
  split at ht
  rotate_left
  · cases ht
  rename_i e ie z he
  cases hc : (Nat.blt 0 z.cells.toList.length && Nat.beq z.cells.toList.length ie.size && z.cells.toList.all stillS)
  · rw [hc] at ht; cases ht
  rw [hc] at ht; cases ht
  simp only [Bool.and_eq_true] at hc
  obtain ⟨hu, hi, hzz⟩ := elemOf_ok he
  have hzp : 0 < z.cells.toList.length := Nat.le_of_ble_eq_true hc.1.1
  have hzl := Nat.eq_of_beq_eq_true hc.1.2
  have hzsz : z.cells.size = ie.size := by simpa using hzl
  obtain ⟨vd', h1, h2⟩ := lv_ev hl hx
  obtain ⟨d, op, ty, pos, af, gg⟩ := o
  simp only at ho
  subst ho
  obtain ⟨base', dc', rfl⟩ := form_slice h2
  have hone : ∀ u ∈ z.cells.toList, one u = true := fun u hu => (SR.still (E := E) (List.all_eq_true.1 hc.2 u hu)).one.1
  refine clear_any (ty := ty) hu hi hzz (by simpa using hzp) hone h1 (fun hm => ?_) (fun hp => ?_)
  · subst hm
    refine hK w E _ _ _ ⟨rfl, rfl⟩ (Ext.refl E) ?_ ⟨[], rfl, trivial⟩
    have e : xs.take i ++ List.replicate 0 z0 ++ xs.drop (i + 0) = xs := by simp
    rw [e, set_self hb]
    exact hR
  · obtain ⟨_, r, hr, ⟨a1, c1, e1, hcase⟩ | ⟨hz0, _⟩⟩ := h2
    rotate_left
    · exact absurd hz0 (by omega)
    rcases hcase with ⟨rfl, rfl⟩ | ⟨hz0, _⟩
    rotate_left
    · exact absurd hz0 (by omega)
    cases e1
    have hrows : repC dn z.cells.toList = rowsC g (List.replicate dn z0) := by rw [← hg0]; exact repC_rows z0 dn
    have hst := rowsC_still h (List.replicate dn z0)
    have hlen : (repC dn z.cells.toList).length = dn * ie.size := by rw [hrows, rowsC_length h, List.length_replicate]
    have hle : (i + dn) * ie.size ≤ xs.length * ie.size := Nat.mul_le_mul_right _ hd
    rw [Nat.add_mul] at hle
    have hpos : 0 < dn * ie.size := Nat.mul_pos hp (by omega)
    obtain ⟨cs, hB, hcl, hR'⟩ := hR.putg (o := i * ie.size) (us := repC dn z.cells.toList) hb hr (by rw [hrows]; exact hst) (by rw [hlen, rowsC_length h]; exact hle) (by omega)
    refine ⟨_, _, cs, rfl, hB, by rw [hzsz, ← hlen]; exact hcl, hK _ E _ _ _ ⟨rfl, rfl⟩ (Ext.refl E) ?_ ⟨[], rfl, trivial⟩⟩
    rw [hrows] at hR' ⊢
    have e := rowsC_splice h (xs := xs) (ys := List.replicate dn z0) (k := i)
    rw [e] at hR'
    rw [List.length_replicate] at hR'
    exact hR'
end
end Go.Tum
