/-
  From contracts over blocks to a law's call: what comes in, as rows that nobody changes.
-/
import Derived.Test.YtnleiiniajinbaaLw4
import Derived.Test.YtnleiiniajinbaaArgs
namespace Go.Tum
open Go Go.RowKit Go.WideShapes Go.ChangeShapes Go.Deep

section
variable {P : Program}
/-- a call that was told by itself -/
theorem Tr.closed {f : FuncId} {vs : List Value} {v : Value} (hc : callable P f = true) (hvs : vs.all stillS = true) (hs : stillT v = true) (h : ∀ w, Does P f vs.toArray w fun v' w' => v' = v ∧ Fr (fun _ => False) w w') : Tr P f vs [] (fun u K => u = v ∧ K = []) := by
  intro X w0 w E vs' hA hR hv
  obtain rfl := L2.vr_still hvs hv
  refine ⟨hc, (h w).mono ?_⟩
  rintro _ w' ⟨rfl, hf⟩
  exact ⟨E, _, [], NA.Ext.refl _ E, Nat.le_refl _, VR.selfT hs, hR.keep hf, rfl, rfl⟩

theorem Rep.deads (X : Nat → Prop) (w : World) (E : Emb) : Rep X w E (List.replicate E.length .dead) w :=
  ⟨Fr.refl _ w, by simp, fun k x r hx hr b hf => by
      have := List.mem_of_getElem? hx
      rw [List.eq_of_mem_replicate this] at hf; exact hf.elim, fun k x r hx hr => by
      have := List.mem_of_getElem? hx
      rw [List.eq_of_mem_replicate this]; trivial, fun k k' x x' r r' b hx _ _ _ hf _ => by
      have := List.mem_of_getElem? hx
      rw [List.eq_of_mem_replicate this] at hf; exact hf.elim⟩

theorem TrK.does {A : Args} {keep : List Nat} {f : FuncId} {vs vs' : List Value} {L : LH} {R : Value → LH → Prop} (h : TrK P A keep f vs L R) (E : Emb) (w : World) (hL : L = List.replicate E.length .dead) (hA : ∀ x ∈ A, inL x.1 keep = true ∧ ArgAt (fun _ => False) w E x.1 x.2.1 x.2.2) (hv : L2 (VR E) vs vs') :
    Does P f vs'.toArray w fun v' w' => ∃ E' v L', VR E' v v' ∧ R v L' ∧ Fr (fun _ => False) w w' := by
  subst hL
  refine (h (fun _ => False) w w E vs' ⟨by simp, hA⟩ (Rep.deads _ w E) hv).2.mono ?_
  rintro v' w' ⟨E', v, L', _, _, h3, h4, h5⟩
  exact ⟨E', v, L', h3, h5, h4.fr⟩
theorem TrK.law {A : Args} {keep : List Nat} {f : FuncId} {vs vs' : List Value} {L : LH} (h : TrK P A keep f vs L (fun v _ => v = .bool true)) (E : Emb) (w : World) (hL : L = List.replicate E.length .dead) (hA : ∀ x ∈ A, inL x.1 keep = true ∧ ArgAt (fun _ => False) w E x.1 x.2.1 x.2.2) (hv : L2 (VR E) vs vs') :
    Does P f vs'.toArray w fun v' w' => v' = .bool true ∧ Fr (fun _ => False) w w' :=
  (h.does E w hL hA hv).mono fun v' w' ⟨E', v, L', h1, h2, h3⟩ => by
    subst h2
    exact ⟨h1, h3⟩
end

section
variable {H : Type} {enc : TypeId × Value → H} {P : Program} {w : World}
/-- A slice that came in: where it lies, and how its cells read. -/
def SlIn (w : World) (sz : Nat) (v : Value) (n : Nat) (get : Nat → List Value) : Prop :=
  n ≤ 9223372036854775807 ∧ ∃ r : Nat × Nat × Nat, ∀ (E : Emb) (k : Nat), E[k]? = some r → VR E (.slice (some ⟨k, 0, none⟩) n n) v ∧ ArgAt (fun _ => False) w E k (n * sz) (rowG sz get)

theorem open_in {t e : TypeId} {d : Nat} {ks : List CK} {v : Value} {dd : DataW H} {p : List MemPlace} (ht : P.underlying t = some (.slice e)) (hk : flat P d e = some ks) (hc : P.cellsOf e = ks.length) (hpos : 0 < ks.length)
    (hv : ∃ a len cap, v = .slice a len cap) (h : DataW.Trod enc P w 0 (fun _ => true) true t v dd p) : ∃ n get, SlIn w ks.length v n get ∧ ∀ i, i < n → Fits ks (get i) := by
  obtain ⟨a0, len, cap, rfl⟩ := hv
  obtain ⟨fuel, hf⟩ := h
  have hf' : DataW.trod enc P w 0 (fun _ => true) true fuel t [.slice a0 len cap] = some (dd, p) := hf
  rcases open_slice ht hf' with ⟨h0, _⟩ | ⟨a, len', cap', m, nn, D, Pl, h0, _, hl, hm, hmm, hx, hel⟩
  · cases h0
    exact ⟨0, fun _ => [], ⟨by omega, (0, 0, 0), fun E k hE => ⟨⟨rfl, _, hE, .inr ⟨rfl, rfl, _, rfl⟩⟩, fun h0 => by omega⟩⟩, fun i hi => absurd hi (by omega)⟩
  · cases h0
    have hm' : m = cap := by rw [hmm]; simp
    subst hm'
    obtain ⟨get, hget⟩ := choose_lt (n := m) (p := fun i cs' => w.cells? 0 (a.add (i * P.cellsOf e)) (P.cellsOf e) = some cs' ∧ DataW.trod enc P w 0 (fun _ => true) true nn e cs' = some (D i, Pl i)) (fun i hi => hel i (by omega))
    have hmax : len ≤ 9223372036854775807 := by unfold maxLen at hm; omega
    have hfit : ∀ i, i < m → Fits ks (get i) := fun i hi => flat_fits d e ks hk nn _ _ (hget i hi).2
    obtain ⟨b, o, sp⟩ := a
    have hcell : ∀ i, i < m → ∀ (j : Nat) (u : Value), (get i)[j]? = some u → w.cell? ((⟨b, o, sp⟩ : Addr).add (i * ks.length + j)) = some u := by
      intro i hi j u hu
      have := (cells_cell (hget i hi).1).2 j u hu
      rw [add_add, hc] at this
      exact this
    rcases Nat.eq_zero_or_pos m with hm0 | hm0
    · subst hm0
      have hl0 : len = 0 := by omega
      subst hl0
      exact ⟨0, get, ⟨by omega, (0, 0, 0), fun E k hE => ⟨⟨rfl, _, hE, .inr ⟨rfl, rfl, _, rfl⟩⟩, fun h0 => by omega⟩⟩, fun i hi => absurd hi (by omega)⟩
    · have h00 : ∃ u, (get 0)[0]? = some u := by
        have : 0 < (get 0).length := by rw [(hfit 0 hm0).1]; exact hpos
        exact ⟨_, List.getElem?_eq_getElem this⟩
      have hsp : sp = none := by
        obtain ⟨u, hu⟩ := h00
        have := hcell 0 hm0 0 u hu
        simp only [Nat.zero_mul, Nat.add_zero, Addr.add, if_true] at this
        cases sp with
        | none => rfl
        | some x =>
          unfold World.cell? at this
          split at this
          · simp at this
          · cases this
      subst hsp
      have hb : b < w.heap.size := by
        obtain ⟨u, hu⟩ := h00
        have := hcell 0 hm0 0 u hu
        rw [add_none] at this
        unfold World.cell? at this
        split at this
        · rename_i hq; exact (Array.getElem?_eq_some_iff.1 hq).1
        · cases this
      refine ⟨len, get, ⟨hmax, (b, o, m - len), fun E k hE => ⟨⟨rfl, _, hE, .inl ⟨_, _, rfl, .inl ⟨by simp, by simp; omega⟩⟩⟩, fun h0 => ⟨_, hE, hb, fun x => x, fun i hi => ?_⟩⟩⟩, fun i hi => hfit i (by omega)⟩
      have hdiv : i / ks.length < len := Nat.div_lt_of_lt_mul (by rw [Nat.mul_comm]; exact hi)
      have hmod : i % ks.length < ks.length := Nat.mod_lt _ hpos
      have hlen : (get (i / ks.length)).length = ks.length := (hfit _ (by omega)).1
      have hu : (get (i / ks.length))[i % ks.length]? = some (get (i / ks.length))[i % ks.length] := List.getElem?_eq_getElem (by omega)
      refine ⟨_, ?_, rfl⟩
      have := hcell (i / ks.length) (by omega) (i % ks.length) _ hu
      rw [add_none, Nat.mul_comm, Nat.div_add_mod] at this
      show w.cell? ⟨b, o + i, none⟩ = _
      rw [this, List.getD_eq_getElem?_getD, hu]; rfl
theorem open_agg {t : TypeId} {fs : Array Field} {d base : Nat} {r : Reach} {ks : List CK} {v : Value} {dd : DataW H} {p : List MemPlace} (ht : P.underlying t = some (.struct fs)) (hk : flat P d t = some ks) (hv : Value.okWide P w r base t v) (h : DataW.Trod enc P w 0 (fun _ => true) true t v dd p) : ∃ cs, v = .agg ⟨cs⟩ ∧ Fits ks cs := by
  simp only [Value.okWide, ht] at hv
  obtain ⟨⟨cs⟩, rfl, _, _⟩ := hv
  obtain ⟨fuel, hf⟩ := h
  exact ⟨cs, rfl, flat_fits d t ks hk fuel cs _ hf⟩
/-- the cells of a row, one by one -/
theorem Fits.nil {cs : List Value} (h : Fits [] cs) : cs = [] := List.length_eq_zero_iff.1 h.1
theorem Fits.int {k : IntKind} {ks : List CK} {cs : List Value} (h : Fits (some k :: ks) cs) : ∃ n r, cs = .int k n :: r ∧ (Lit.int k n).wf = true ∧ Fits ks r := by
  obtain ⟨hl, hf⟩ := h
  cases cs with
  | nil => cases hl
  | cons a r =>
    obtain ⟨v, h1, n, rfl, hw⟩ := hf 0 (some k) rfl
    simp at h1; subst h1
    exact ⟨n, r, rfl, hw, by simpa using hl, fun i k hk => by simpa using hf (i + 1) k (by simpa using hk)⟩
theorem Fits.bool {ks : List CK} {cs : List Value} (h : Fits (none :: ks) cs) : ∃ b r, cs = .bool b :: r ∧ Fits ks r := by
  obtain ⟨hl, hf⟩ := h
  cases cs with
  | nil => cases hl
  | cons a r =>
    obtain ⟨v, h1, b, rfl⟩ := hf 0 none rfl
    simp at h1; subst h1
    exact ⟨b, r, rfl, by simpa using hl, fun i k hk => by simpa using hf (i + 1) k (by simpa using hk)⟩
end
end Go.Tum
