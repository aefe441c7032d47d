/-
  The logic over named blocks: rows that came in with a law's call; appends to rows that are empty; cuts.
-/
import Derived.Test.YtnleiiniajinbaaLw2
namespace Go.Tum
open Go

section
variable {P : Program} {n0 : NA} {Q : Exit → Env → LH → Prop} {l : Env} {L : LH} {K : Env → LH → Prop}

/-! ### rows that came in -/
theorem arg_cell {X : Nat → Prop} {w0 w : World} {E0 E : Emb} {k m : Nat} {get : Nat → AV} (h0 : n0.Ok X w0 E0) (hE : n0.Ext E0 E) (hR : Rep X w0 E L w) (hA : (k, m, get) ∈ n0.A) {i : Nat} (hi : i < m) :
    ∃ r y, E[k]? = some r ∧ w.cell? ⟨r.1, r.2.1 + i, none⟩ = some y ∧ (get i).is X w0 y := by
  obtain ⟨hk, hA'⟩ := h0.2 _ hA
  obtain ⟨r, h1, h2, h3, h4⟩ := hA' (by simp only; omega)
  obtain ⟨y, h5, h6⟩ := h4 i hi
  exact ⟨r, y, hE _ _ hk h1, by rw [← h5]; simp only [World.cell?, hR.fr.keep _ h2 h3], h6⟩
theorem QY.ldA {x : Operand} {k o m j : Nat} {get : Nat → AV} {u : Value} (hx : lv l x = some (.pointer (some ⟨k, o, none⟩))) (hA : n0.A[j]? = some (k, m, get)) (ho : o < m) (hg : get o = .v u) (hs : stillS u = true) : QY P n0 L l (.ld x) u := by
  intro X w0 E0 w E l' h0 hE hR hl
  obtain ⟨_, h1, a', rfl, _, r, hr, rfl⟩ := lv_ev hl hx
  obtain ⟨r', y, h2, h3, h4⟩ := arg_cell h0 hE hR (List.mem_of_getElem? hA) ho
  have hr : E[k]? = some r := hr
  rw [hr] at h2; cases h2
  rw [hg] at h4
  have h4 : y = u := h4
  subst h4
  exact ⟨y, ⟨_, h1, by rw [Nat.add_comm] at h3; exact h3⟩, (SR.still hs).vr⟩
/-- rows of sz cells, one after the other -/
def rowG (sz : Nat) (f : Nat → List Value) : Nat → AV := fun i => .v ((f (i / sz)).getD (i % sz) undef)
theorem rowG_at {sz i j : Nat} {f : Nat → List Value} {u : Value} (hl : (f i).length = sz) (hu : (f i)[j]? = some u) : rowG sz f (i * sz + j) = .v u := by
  have hj : j < sz := by rw [← hl]; exact (List.getElem?_eq_some_iff.1 hu).1
  have h1 : (i * sz + j) / sz = i := by rw [Nat.mul_comm, Nat.mul_add_div (by omega), Nat.div_eq_of_lt hj, Nat.add_zero]
  have h2 : (i * sz + j) % sz = j := by rw [Nat.mul_comm, Nat.mul_add_mod, Nat.mod_eq_of_lt hj]
  simp [rowG, h1, h2, hu]
theorem QY.rowA {x : Operand} {k o n sz j : Nat} {f : Nat → List Value} (i : Nat) (hx : lv l x = some (.pointer (some ⟨k, o, none⟩))) (hA : n0.A[j]? = some (k, n * sz, rowG sz f)) (ho : o = i * sz) (hi : i < n) (hl : (f i).length = sz) (hs : (f i).all stillS = true) : QY P n0 L l (.ldn x sz) (.agg ⟨f i⟩) := by
  intro X w0 E0 w E l' h0 hE hR hl'
  obtain ⟨_, h1, a', rfl, _, r, hr, rfl⟩ := lv_ev hl' hx
  have hr : E[k]? = some r := hr
  subst ho
  refine ⟨.agg ⟨f i⟩, ⟨_, ⟨f i⟩, h1, hl, fun j' hj' => ?_, rfl⟩, VR.still (v := .agg ⟨f i⟩) hs⟩
  have hlt : i * sz + j' < n * sz := by
    have : (i + 1) * sz ≤ n * sz := Nat.mul_le_mul_right _ hi
    rw [Nat.add_mul] at this; omega
  obtain ⟨r', y, h2, h3, h4⟩ := arg_cell h0 hE hR (List.mem_of_getElem? hA) hlt
  rw [hr] at h2; cases h2
  have hu : (f i)[j']? = some (f i)[j'] := List.getElem?_eq_getElem (by omega)
  rw [rowG_at hl hu] at h4
  have h4 : y = (f i)[j'] := h4
  rw [add_none]
  rw [List.getElem?_toArray, hu, ← h4, ← h3]
  congr 2; show i * sz + r.2.1 + j' = _; omega

/-! ### cuts -/
theorem L_cut {a b : MC} (K : Env → LH → Prop) (ha : LWp P n0 a (thenL (Nx n0 K) Q) l L) (hb : ∀ l L, K l L → LWp P n0 b Q l L) : LWp P n0 (.seq a b) Q l L := by
  refine L_seq (ha.mono fun e l L h => ?_)
  cases e with
  | normal => exact Nx.mono h hb
  | ret => exact h
  | exit i => exact h
  | goto i => exact h
  | panic c => exact h
  | outgrown => exact h
theorem L_mono {m : MC} {Q' : Exit → Env → LH → Prop} (hq : ∀ e l L, Q e l L → Q' e l L) (h : LWp P n0 m Q l L) : LWp P n0 m Q' l L := h.mono hq

/-! ### nil, as an empty row that may grow -/
theorem Nx.nilE {k : Env → LH → Prop} (t sz : Nat) (ht : eget l t = some (.slice none 0 0)) (h : Nx n0 k ((t, .slice (some ⟨L.length, 0, none⟩) 0 0) :: l) (L ++ [.gro sz []])) : Nx n0 k l L := by
  intro X w0 E0 w E l' h0 hE hR hl
  have h1 : Rep X w0 (E ++ [(0, 0, 0)]) (L ++ [.gro sz []]) w := hR.push (Fr.refl _ w) (fun _ h => h.elim) (.inl ⟨rfl, rfl⟩)
  obtain ⟨_, h2, h3⟩ := hl.get ht
  have h3 : _ = Value.slice none 0 0 := h3
  subst h3
  have hlast : (E ++ [(0, 0, 0)])[L.length]? = some (0, 0, 0) := by rw [← hR.len]; simp
  exact h X w0 E0 w (E ++ [(0, 0, 0)]) l' h0 (hE.trans (Ext.push E _)) h1 (ER.more ⟨rfl, _, hlast, .inr ⟨rfl, rfl, _, rfl⟩⟩ h2 (hl.ext (Ext.push E _)))
/-- .. where a code begins -/
theorem LWp.nilE {m : MC} (t sz : Nat) (ht : eget l t = some (.slice none 0 0)) (h : LWp P n0 m Q ((t, .slice (some ⟨L.length, 0, none⟩) 0 0) :: l) (L ++ [.gro sz []])) : LWp P n0 m Q l L := by
  refine ⟨fun X w0 E0 w E l' h0 hE hR hl => ?_⟩
  have h1 : Rep X w0 (E ++ [(0, 0, 0)]) (L ++ [.gro sz []]) w := hR.push (Fr.refl _ w) (fun _ h => h.elim) (.inl ⟨rfl, rfl⟩)
  obtain ⟨_, h2, h3⟩ := hl.get ht
  have h3 : _ = Value.slice none 0 0 := h3
  subst h3
  have hlast : (E ++ [(0, 0, 0)])[L.length]? = some (0, 0, 0) := by rw [← hR.len]; simp
  exact h.go X w0 E0 w (E ++ [(0, 0, 0)]) l' h0 (hE.trans (Ext.push E _)) h1 (ER.more ⟨rfl, _, hlast, .inr ⟨rfl, rfl, _, rfl⟩⟩ h2 (hl.ext (Ext.push E _)))
theorem Nx.wk {k : Env → LH → Prop} {L' : LH} (hw : ∀ X w0 E w, Rep X w0 E L w → Rep X w0 E L' w) (h : Nx n0 k l L') : Nx n0 k l L :=
  fun X w0 E0 w E l' h0 hE hR hl => h X w0 E0 w E l' h0 hE (hw _ _ _ _ hR) hl
theorem wk_gro0 {b : Nat} (sz : Nat) (hb : L[b]? = some (.cells 0 [])) : ∀ X w0 E w, Rep X w0 E L w → Rep X w0 E (L.set b (.gro sz [])) w := by
  intro X w0 E w hR
  obtain ⟨r, hr⟩ := hR.ent hb
  obtain ⟨cs, hB, hl2, hroom, hz⟩ := hR.blk b _ r hb hr
  exact hR.upd hb hr (Fr.refl _ w) (.inl ⟨rfl, hz rfl⟩) (fun _ h => h.elim)
end
end Go.Tum
