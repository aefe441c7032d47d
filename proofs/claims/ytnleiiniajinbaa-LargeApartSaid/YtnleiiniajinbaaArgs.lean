/-
  What comes in: a slice whose elements are numbers and bools, or structs of these, to the bottom.
-/
import Derived.Test.YtnleiiniajinbaaFinal
import Derived.Deep.Slices
namespace Go.Tum
open Go Go.RowKit Go.WideShapes Go.ChangeShapes Go.Deep

/-- what a cell holds: a number of a kind, or a bool -/
abbrev CK := Option IntKind
def CkOk (k : CK) (v : Value) : Prop :=
  match k with
  | some k => ∃ n, v = .int k n ∧ (Lit.int k n).wf = true
  | none => ∃ b, v = .bool b

def flatF (P : Program) (g : TypeId → Option (List CK)) : List Field → Nat → Option (List CK)
  | [], _ => some []
  | f :: fs, off => match g f.type with
    | some ks => if f.offset = off ∧ P.cellsOf f.type = ks.length then (match flatF P g fs (off + ks.length) with
      | some r => some (ks ++ r)
      | none => none) else none
    | none => none

def flat (P : Program) : Nat → TypeId → Option (List CK)
  | 0, _ => none
  | d + 1, t => match P.underlying t with
    | some (.int k) => some [some k]
    | some .bool => some [none]
    | some (.struct fs) => match flatF P (flat P d) fs.toList 0 with
      | some ks => if P.cellsOf t = ks.length then some ks else none
      | none => none
    | _ => none

section
variable {H : Type} {enc : TypeId × Value → H} {P : Program} {w : World} {base : Nat} {spare : Nat → Bool} {held : Bool}

def Fits (ks : List CK) (cs : List Value) : Prop := cs.length = ks.length ∧ ∀ (i : Nat) (k : CK), ks[i]? = some k → ∃ v, cs[i]? = some v ∧ CkOk k v

theorem flatF_fits {g : TypeId → Option (List CK)} {fuel : Nat} (hg : ∀ t ks, g t = some ks → ∀ cs x, DataW.trod enc P w base spare held fuel t cs = some x → Fits ks cs) :
    ∀ (fs : List Field) (off : Nat) (ks : List CK) (cs : List Value) (xs : List (DataW H × List MemPlace)), flatF P g fs off = some ks → fs.mapM (fun f => DataW.trod enc P w base spare held fuel f.type ((cs.drop f.offset).take (P.cellsOf f.type))) = some xs →
      ∀ (i : Nat) (k : CK), ks[i]? = some k → ∃ v, cs[off + i]? = some v ∧ CkOk k v
  | [], off, ks, cs, xs, h, _, i, k, hk => by simp only [flatF, Option.some.injEq] at h; subst h; simp at hk
  | f :: fs, off, ks, cs, xs, h, hm, i, k, hk => by
    simp only [flatF] at h
    cases h1 : g f.type with
    | none => rw [h1] at h; cases h
    | some k1 =>
      rw [h1] at h
      simp only at h
      split at h
      · rename_i hc
        cases h2 : flatF P g fs (off + k1.length) with
        | none => rw [h2] at h; cases h
        | some k2 =>
          rw [h2] at h; cases h
          simp only [List.mapM_cons, Option.bind_eq_bind, Option.bind_eq_some_iff] at hm
          obtain ⟨x, hx, ys, hys, _⟩ := hm
          have hfit := hg f.type k1 h1 _ _ hx
          by_cases hi : i < k1.length
          · rw [List.getElem?_append_left hi] at hk
            obtain ⟨v, hv, hok⟩ := hfit.2 i k hk
            rw [List.getElem?_take] at hv
            split at hv
            · rw [List.getElem?_drop, hc.1] at hv; exact ⟨v, hv, hok⟩
            · cases hv
          · rw [List.getElem?_append_right (by omega)] at hk
            obtain ⟨v, hv, hok⟩ := flatF_fits hg fs (off + k1.length) k2 cs ys h2 hys (i - k1.length) k hk
            exact ⟨v, by rw [show off + i = off + k1.length + (i - k1.length) by omega]; exact hv, hok⟩
      · cases h

theorem flat_fits : ∀ (d : Nat) (t : TypeId) (ks : List CK), flat P d t = some ks → ∀ (fuel : Nat) (cs : List Value) (x : DataW H × List MemPlace), DataW.trod enc P w base spare held fuel t cs = some x → Fits ks cs := by
  intro d
  induction d with
  | zero => intro t ks h; cases h
  | succ d ih =>
    intro t ks h fuel cs x hx
    cases fuel with
    | zero => cases hx
    | succ fuel =>
      simp only [flat] at h
      cases hu : P.underlying t with
      | none => rw [hu] at h; cases h
      | some u =>
        rw [hu] at h
        cases u <;> simp only [reduceCtorEq] at h
        case int k =>
          cases h
          obtain ⟨n, e0, _, wn⟩ := DataW.trod_int hu hx
          subst e0
          refine ⟨rfl, fun i k' hk => ?_⟩
          cases i with
          | zero => simp at hk; subst hk; exact ⟨_, rfl, n, rfl, wn⟩
          | succ i => simp at hk
        case bool =>
          cases h
          obtain ⟨b, e0, _⟩ := DataW.trod_bool hu hx
          subst e0
          refine ⟨rfl, fun i k' hk => ?_⟩
          cases i with
          | zero => simp at hk; subst hk; exact ⟨_, rfl, b, rfl⟩
          | succ i => simp at hk
        case struct fs =>
          cases hf : flatF P (flat P d) fs.toList 0 with
          | none => rw [hf] at h; cases h
          | some k1 =>
            rw [hf] at h
            simp only at h
            split at h
            · rename_i hc
              cases h
              have hx' : (if cs.length = P.cellsOf t then (fs.toList.mapM fun f => DataW.trod enc P w base spare held fuel f.type ((cs.drop f.offset).take (P.cellsOf f.type))).map fun xs => ((DataW.agg (xs.map (·.1)), xs.flatMap (·.2)) : DataW H × List MemPlace) else none) = some x := by
                rw [← hx]; simp only [DataW.trod, hu]
              split at hx'
              · rename_i hl
                rw [Option.map_eq_some_iff] at hx'
                obtain ⟨xs, hxs, _⟩ := hx'
                refine ⟨by rw [hl, hc], fun i k hk => ?_⟩
                have := flatF_fits (enc := enc) (w := w) (base := base) (spare := spare) (held := held) (fuel := fuel) (fun t ks h cs x hx => ih t ks h fuel cs x hx) fs.toList 0 _ cs xs hf hxs i k hk
                simpa using this
              · cases hx'
            · cases h
/-- A slice of such elements: its i-th one's cells. -/
def ArgRows (w : World) (ks : List CK) (v : Value) (n : Nat) (get : Nat → List Value) : Prop :=
  n ≤ 9223372036854775807 ∧ ∃ a c, v = .slice a n c ∧ (0 < n → ∃ b o, a = some ⟨b, o, none⟩ ∧ b < w.heap.size ∧ ∀ i, i < n → ∀ j u, (get i)[j]? = some u → w.cell? ⟨b, o + i * ks.length + j, none⟩ = some u) ∧ ∀ i, i < n → Fits ks (get i)

theorem mapM_get {α β : Type} (f : α → Option β) : ∀ (l : List α) (r : List β), l.mapM f = some r → r.length = l.length ∧ ∀ (j : Nat) (u : β), r[j]? = some u → ∃ x, l[j]? = some x ∧ f x = some u
  | [], r, h => by
    simp only [List.mapM_nil, Option.pure_def, Option.some.injEq] at h
    subst h
    exact ⟨rfl, fun j u hu => by simp at hu⟩
  | x :: l, r, h => by
    simp only [List.mapM_cons, Option.bind_eq_bind, Option.bind_eq_some_iff, Option.pure_def, Option.some.injEq] at h
    obtain ⟨y, hy, ys, hys, rfl⟩ := h
    obtain ⟨h1, h2⟩ := mapM_get f l ys hys
    refine ⟨by simp [h1], fun j u hu => ?_⟩
    cases j with
    | zero => simp at hu; subst hu; exact ⟨x, rfl, hy⟩
    | succ j => simpa using h2 j u (by simpa using hu)

theorem cells_cell {n : Nat} {a : Addr} {cs : List Value} (h : w.cells? base a n = some cs) : cs.length = n ∧ ∀ (j : Nat) (u : Value), cs[j]? = some u → w.cell? (a.add j) = some u := by
  unfold World.cells? at h
  split at h
  · obtain ⟨h1, h2⟩ := mapM_get (fun i => w.cell? (a.add i)) (List.range n) cs h
    refine ⟨by simpa using h1, fun j u hu => ?_⟩
    obtain ⟨x, hx, hf⟩ := h2 j u hu
    have : x = j := by
      rw [List.getElem?_range (by
        have := (List.getElem?_eq_some_iff.1 hx).1
        simpa using this)] at hx
      cases hx; rfl
    rw [← this]; exact hf
  · cases h

theorem open_rows {t e : TypeId} {d : Nat} {ks : List CK} {v : Value} {dd : DataW H} {p : List MemPlace} (ht : P.underlying t = some (.slice e)) (hk : flat P d e = some ks) (hc : P.cellsOf e = ks.length) (hpos : 0 < ks.length)
    (hv : ∃ a len cap, v = .slice a len cap) (h : DataW.Trod enc P w 0 (fun _ => true) true t v dd p) : ∃ n get, ArgRows w ks v n get := by
  obtain ⟨a0, len, cap, rfl⟩ := hv
  obtain ⟨fuel, hf⟩ := h
  have hf' : DataW.trod enc P w 0 (fun _ => true) true fuel t [.slice a0 len cap] = some (dd, p) := hf
  rcases open_slice ht hf' with ⟨h0, _⟩ | ⟨a, len', cap', m, nn, D, Pl, h0, _, hl, hm, hmm, hx, hel⟩
  · cases h0
    exact ⟨0, fun _ => [], by omega, none, 0, rfl, fun h => absurd h (by omega), fun i hi => absurd hi (by omega)⟩
  · cases h0
    have hm' : len ≤ m := by rw [hmm]; split <;> omega
    obtain ⟨get, hget⟩ := choose_lt (n := len) (p := fun i cs' => w.cells? 0 (a.add (i * P.cellsOf e)) (P.cellsOf e) = some cs' ∧ DataW.trod enc P w 0 (fun _ => true) true nn e cs' = some (D i, Pl i)) (fun i hi => hel i (by omega))
    have hmax : len ≤ 9223372036854775807 := by unfold maxLen at hm; omega
    refine ⟨len, get, hmax, some a, cap, rfl, fun hlen => ?_, fun i hi => flat_fits d e ks hk nn _ _ (hget i hi).2⟩
    obtain ⟨b, o, sp⟩ := a
    have hcell : ∀ i, i < len → ∀ (j : Nat) (u : Value), (get i)[j]? = some u → w.cell? ((⟨b, o, sp⟩ : Addr).add (i * ks.length + j)) = some u := by
      intro i hi j u hu
      have := (cells_cell (hget i hi).1).2 j u hu
      rw [add_add, hc] at this
      exact this
    have hsp : sp = none := by
      have hfit := flat_fits d e ks hk nn _ _ (hget 0 hlen).2
      obtain ⟨u, hu⟩ : ∃ u, (get 0)[0]? = some u := by
        have : 0 < (get 0).length := by rw [hfit.1]; exact hpos
        exact ⟨_, List.getElem?_eq_getElem this⟩
      have := hcell 0 hlen 0 u hu
      simp only [Nat.zero_mul, Nat.add_zero, Addr.add, if_true] at this
      cases sp with
      | none => rfl
      | some x =>
        unfold World.cell? at this
        split at this
        · simp at this
        · cases this
    subst hsp
    refine ⟨b, o, rfl, ?_, fun i hi j u hu => ?_⟩
    · have hfit := flat_fits d e ks hk nn _ _ (hget 0 hlen).2
      obtain ⟨u, hu⟩ : ∃ u, (get 0)[0]? = some u := by
        have : 0 < (get 0).length := by rw [hfit.1]; exact hpos
        exact ⟨_, List.getElem?_eq_getElem this⟩
      have := hcell 0 hlen 0 u hu
      rw [add_none] at this
      unfold World.cell? at this
      split at this
      · rename_i hq; exact (Array.getElem?_eq_some_iff.1 hq).1
      · cases this
    · have := hcell i hi j u hu
      rw [add_none] at this
      rw [Nat.add_assoc]; exact this
end
/-- four numbers a row -/
theorem rows4 {w : World} {v : Value} {n : Nat} {get : Nat → List Value} (h : ArgRows w [some .i64, some .i64, some .i64, some .i64] v n get) :
    ∃ f : Nat → Int × Int × Int × Int, ∀ i, i < n → get i = [.int .i64 (f i).1, .int .i64 (f i).2.1, .int .i64 (f i).2.2.1, .int .i64 (f i).2.2.2] := by
  refine choose_lt (p := fun i (x : Int × Int × Int × Int) => get i = [.int .i64 x.1, .int .i64 x.2.1, .int .i64 x.2.2.1, .int .i64 x.2.2.2]) fun i hi => ?_
  obtain ⟨_, a, c, _, _, hF⟩ := h
  obtain ⟨hl, hf⟩ := hF i hi
  obtain ⟨v0, h0, n0, rfl, _⟩ := hf 0 (some .i64) rfl
  obtain ⟨v1, h1, n1, rfl, _⟩ := hf 1 (some .i64) rfl
  obtain ⟨v2, h2, n2, rfl, _⟩ := hf 2 (some .i64) rfl
  obtain ⟨v3, h3, n3, rfl, _⟩ := hf 3 (some .i64) rfl
  refine ⟨(n0, n1, n2, n3), ?_⟩
  match hg : get i, hl with
  | [a, b, c, d], _ =>
    rw [hg] at h0 h1 h2 h3
    simp at h0 h1 h2 h3
    simp [h0, h1, h2, h3]

/-- the row's cells, where one stands at it -/
theorem ArgRows.at {w : World} {ks : List CK} {v : Value} {n : Nat} {get : Nat → List Value} (h : ArgRows w ks v n get) {i : Nat} (hi : i < n) :
    ∃ b o c, v = .slice (some ⟨b, o, none⟩) n c ∧ b < w.heap.size ∧ ∀ (j : Nat) (u : Value), (get i)[j]? = some u → w.cell? ⟨b, o + i * ks.length + j, none⟩ = some u := by
  obtain ⟨_, a, c, rfl, h1, _⟩ := h
  obtain ⟨b, o, rfl, hb, hc⟩ := h1 (by omega)
  exact ⟨b, o, c, rfl, hb, hc i hi⟩
theorem ArgRows.form {w : World} {ks : List CK} {v : Value} {n : Nat} {get : Nat → List Value} (h : ArgRows w ks v n get) : ∃ a c, v = .slice a n c := by
  obtain ⟨_, a, c, rfl, h1, _⟩ := h; exact ⟨a, c, rfl⟩

end Go.Tum
