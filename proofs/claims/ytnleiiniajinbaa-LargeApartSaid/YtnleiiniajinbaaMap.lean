/-
  Maps: a block that is a map, read as a list of (key, value, when it was born); what the map's operations do to that list.
-/
import Derived.Test.YtnleiiniajinbaaSlice
namespace Go.Tum
open Go

section
variable {κ : Type} [DecidableEq κ]

def mkE (enc : κ → Value) (x : κ × Value × Nat) : MapEntry := ⟨enc x.1, x.2.1, x.2.2⟩

def Mp (enc : κ → Value) (w : World) (b : Nat) (m : List (κ × Value × Nat)) (c : Nat) : Prop := w.heap[b]? = some (.map (m.map (mkE enc)).toArray c)

/-- keys are one each, births are one each, all of them past -/
structure Wf (m : List (κ × Value × Nat)) (c : Nat) : Prop where
  keys : (m.map (·.1)).Nodup
  borns : (m.map (·.2.2)).Nodup
  past : ∀ x ∈ m, x.2.2 < c

def mfind (m : List (κ × Value × Nat)) (k : κ) : Option (κ × Value × Nat) := m.find? fun x => decide (x.1 = k)
def mix (m : List (κ × Value × Nat)) (k : κ) : Option Nat := m.findIdx? fun x => decide (x.1 = k)
def mput (m : List (κ × Value × Nat)) (k : κ) (v : Value) : List (κ × Value × Nat) := m.map fun x => if x.1 = k then (x.1, v, x.2.2) else x
def mdel (m : List (κ × Value × Nat)) (k : κ) : List (κ × Value × Nat) := m.filter fun x => !decide (x.1 = k)

structure KeyLaw (P : Program) (K : TypeId) (enc : κ → Value) : Prop where
  check : ∀ e k w, (Instr.checkKey e 10000 K (enc k)).run P w = .ok () w
  same : ∀ k, Instr.sameBits 10000 (enc k) (enc k) = true
  find : ∀ (k : κ) (m : List (κ × Value × Nat)) w, (Instr.findKey K (enc k) (m.map (mkE enc))).run P w = .ok (((mix m k).bind fun i => m[i]?.map fun x => (i, x.2.1))) w

omit [DecidableEq κ] in
theorem Mp.lt {enc : κ → Value} {w : World} {b : Nat} {m : List (κ × Value × Nat)} {c : Nat} (h : Mp enc w b m c) : b < w.heap.size := (Array.getElem?_eq_some_iff.1 h).1
omit [DecidableEq κ] in
theorem Mp.fr {enc : κ → Value} {w w' : World} {b : Nat} {m : List (κ × Value × Nat)} {c : Nat} {F : Nat → Prop} (h : Mp enc w b m c) (hf : Fr F w w') (hn : ¬ F b) : Mp enc w' b m c := (hf.keep b h.lt hn).trans h
omit [DecidableEq κ] in
theorem Mp.sim {enc : κ → Value} {w w0 : World} {b : Nat} {m : List (κ × Value × Nat)} {c : Nat} (h : Mp enc w b m c) (hs : Sim w0 w) : Mp enc w0 b m c := by
  unfold Mp at *; rw [hs.heap]; exact h
omit [DecidableEq κ] in
theorem Mp.new (enc : κ → Value) (w : World) : Mp enc (w.alloc (.map #[] 0)) w.heap.size [] 0 := by
  show (w.heap.push _)[w.heap.size]? = _; simp

theorem mix_find {m : List (κ × Value × Nat)} {k : κ} : ((mix m k).bind fun i => m[i]?) = mfind m k := by
  unfold mix mfind
  induction m with
  | nil => rfl
  | cons x r ih =>
    simp only [List.findIdx?_cons, List.find?_cons]
    by_cases h : x.1 = k
    · simp [h]
    · simp only [h, decide_false, Bool.false_eq_true, if_false]
      rw [← ih]
      cases List.findIdx? (fun x => decide (x.1 = k)) r <;> simp

theorem mix_some {m : List (κ × Value × Nat)} {k : κ} {i : Nat} (h : mix m k = some i) : ∃ x, m[i]? = some x ∧ x.1 = k ∧ mfind m k = some x := by
  have h2 := @mix_find κ _ m k
  rw [h] at h2
  simp only [Option.bind_some] at h2
  cases hx : m[i]? with
  | none =>
    have := (List.findIdx?_eq_some_iff_findIdx_eq.1 h).1
    simp at hx; omega
  | some x =>
    refine ⟨x, rfl, ?_, by rw [← h2, hx]⟩
    rw [hx] at h2
    have := List.find?_some h2.symm
    simpa using this

theorem mix_none {m : List (κ × Value × Nat)} {k : κ} (h : mix m k = none) : mfind m k = none ∧ ∀ x ∈ m, x.1 ≠ k := by
  have h2 := @mix_find κ _ m k
  rw [h] at h2
  refine ⟨h2.symm, fun x hx e => ?_⟩
  have := List.find?_eq_none.1 h2.symm x hx
  simp [e] at this

end

section
variable {κ : Type} [DecidableEq κ] {P : Program} {K E mT : TypeId} {enc : κ → Value} {w : World} {b c : Nat} {m : List (κ × Value × Nat)} {k : κ}

theorem getObj_run {r : Nat} {es : Array MapEntry} {c : Nat} (h : w.heap[r]? = some (.map es c)) : (getObj r).run P w = .ok (.map es c) w := by
  simp [getObj, Sem.run, h]
theorem setObj_run {r : Nat} {es : Array MapEntry} {c : Nat} {o : Obj} (h : w.heap[r]? = some (.map es c)) : (setObj r o).run P w = .ok () { w with heap := w.heap.setIfInBounds r o } := by
  simp [setObj, Sem.run, h]

theorem find_run (hk : KeyLaw P K enc) : (Instr.findKey K (enc k) (m.map (mkE enc)).toArray.toList).run P w = .ok (((mix m k).bind fun i => m[i]?.map fun x => (i, x.2.1))) w := hk.find k m w

theorem lookup_run {z : Value} (hT : P.underlying mT = some (.map K E)) (hk : KeyLaw P K enc) (hz : (zeroValue E).run P w = .ok z w) (hm : Mp enc w b m c) :
    (Instr.lookup mT (.map (some b)) (enc k) false).run P w = .ok (((mfind m k).map (·.2.1)).getD z) w := by
  unfold Instr.lookup
  simp only [Sem.run_bind, run_underlying hT, Result.andThen_ok, getObj_run hm, Sem.run_pure, hk.check, find_run hk]
  cases h : mix m k with
  | none => simp [(mix_none h).1, hz]
  | some i =>
    obtain ⟨x, h1, h2, h3⟩ := mix_some h
    simp [h1, h3]

theorem lookup_ok_run {z : Value} (hT : P.underlying mT = some (.map K E)) (hk : KeyLaw P K enc) (hz : (zeroValue E).run P w = .ok z w) (hm : Mp enc w b m c) :
    (Instr.lookup mT (.map (some b)) (enc k) true).run P w = .ok (.tuple #[((mfind m k).map (·.2.1)).getD z, .bool (mfind m k).isSome]) w := by
  unfold Instr.lookup
  simp only [Sem.run_bind, run_underlying hT, Result.andThen_ok, getObj_run hm, Sem.run_pure, hk.check, find_run hk]
  cases h : mix m k with
  | none => simp [(mix_none h).1, hz]
  | some i =>
    obtain ⟨x, h1, h2, h3⟩ := mix_some h
    simp [h1, h3]

omit [DecidableEq κ] in
theorem len_run {ty : TypeId} (hT : P.underlying mT = some (.map K E)) (hm : Mp enc w b m c) : (Builtin.len_ #[mT] ty #[.map (some b)]).run P w = .ok (.int .i64 m.length) w := by
  unfold Builtin.len_
  simp [run_underlying hT, getObj_run hm, goInt]

/-- the entry of a key: there, or made -/
def ment (m : List (κ × Value × Nat)) (k : κ) (z : Value) (c : Nat) : (κ × Value × Nat) × List (κ × Value × Nat) × Nat :=
  match mfind m k with
  | some x => (x, m, c)
  | none => ((k, z, c), m ++ [(k, z, c)], c + 1)

theorem stays_run (hk : KeyLaw P K enc) : (Instr.keyThatStays (enc k) (enc k)).run P w = .ok (enc k) w := by
  unfold Instr.keyThatStays
  rw [if_pos (hk.same k)]
  rfl
omit [DecidableEq κ] in
theorem modify_key {i : Nat} {x : κ × Value × Nat} (h1 : m[i]? = some x) (h2 : x.1 = k) : (List.map (mkE enc) m).modify i (fun e => { key := enc k, val := e.val, born := e.born }) = m.map (mkE enc) := by
  apply List.ext_getElem?
  intro j
  simp only [List.getElem?_modify, List.getElem?_map]
  by_cases hj : i = j
  · subst hj; simp [h1, mkE, h2]
  · simp [hj]

theorem mapEntry_run {z : Value} (hT : P.underlying mT = some (.map K E)) (hk : KeyLaw P K enc) (hz : (zeroValue E).run P w = .ok z w) (hm : Mp enc w b m c) :
    (Instr.mapEntry mT (.map (some b)) (enc k)).run P w =
      .ok (.tuple #[(ment m k z c).1.2.1, .int .i64 (ment m k z c).1.2.2]) { w with heap := w.heap.setIfInBounds b (.map ((ment m k z c).2.1.map (mkE enc)).toArray (ment m k z c).2.2) } := by
  unfold Instr.mapEntry ment
  simp only [Sem.run_bind, run_underlying hT, Result.andThen_ok, getObj_run hm, hk.check, find_run hk]
  cases h : mix m k with
  | none =>
    simp only [Option.bind_none, (mix_none h).1, Sem.run_bind, hz, Result.andThen_ok, setObj_run hm, Sem.run_pure, goInt]
    simp [mkE]
  | some i =>
    obtain ⟨x, h1, h2, h3⟩ := mix_some h
    have hi : i < m.length := (List.getElem?_eq_some_iff.1 h1).1
    have hx : m[i] = x := by simpa [List.getElem?_eq_getElem hi] using h1
    simp only [h1, h3, Option.bind_some, Option.map_some, Sem.run_bind, Sem.run_pure, goInt]
    simp [h1, mkE, h2]
    rw [stays_run hk]
    simp only [Result.andThen_ok]
    rw [modify_key h1 h2, setObj_run hm]
    rfl

omit [DecidableEq κ] in
theorem findIdx_born {i : Nat} {x : κ × Value × Nat} (hw : Wf m c) (hx : m[i]? = some x) : (m.map (mkE enc)).toArray.findIdx? (fun e => (e.born : Int) == (x.2.2 : Int)) = some i := by
  obtain ⟨hi, hxi⟩ := List.getElem?_eq_some_iff.1 hx
  rw [List.findIdx?_toArray]
  rw [List.findIdx?_eq_some_iff_findIdx_eq]
  simp only [List.length_map]
  refine ⟨hi, ?_⟩
  rw [List.findIdx_eq (by simpa using hi)]
  constructor
  · simp [mkE, hxi]
  · intro j hj
    have hjm : j < m.length := by omega
    simp only [List.getElem_map, mkE, beq_eq_false_iff_ne, ne_eq]
    intro e
    have := (List.getElem_inj (h₀ := by simpa using hjm) (h₁ := by simpa using hi) hw.borns).1 (by simp [hxi]; exact Int.ofNat_inj.1 e)
    omega

theorem modify_val {i : Nat} {x : κ × Value × Nat} (hw : Wf m c) (hx : m[i]? = some x) (v : Value) : (m.map (mkE enc)).toArray.modify i (fun e => { e with val := v }) = ((mput m x.1 v).map (mkE enc)).toArray := by
  obtain ⟨hi, hxi⟩ := List.getElem?_eq_some_iff.1 hx
  apply Array.ext_getElem?
  intro j
  rw [Array.getElem?_modify]
  by_cases hj : i = j
  · subst hj
    simp [mput, hx, mkE]
  · simp only [hj, if_false]
    simp only [mput, List.getElem?_toArray, List.getElem?_map]
    cases hmj : m[j]? with
    | none => simp
    | some y =>
      obtain ⟨hjl, hyj⟩ := List.getElem?_eq_some_iff.1 hmj
      have hne : y.1 ≠ x.1 := by
        intro e
        have := (List.getElem_inj (h₀ := by simpa using hjl) (h₁ := by simpa using hi) hw.keys).1 (by simp [hxi, hyj, e])
        omega
      simp [hne]

theorem entryStore_run {i : Nat} {x : κ × Value × Nat} {v : Value} (hm : Mp enc w b m c) (hw : Wf m c) (hx : m[i]? = some x) :
    (Instr.entryStore mT (.map (some b)) (.int .i64 x.2.2) v).run P w = .ok () { w with heap := w.heap.setIfInBounds b (.map ((mput m x.1 v).map (mkE enc)).toArray c) } := by
  unfold Instr.entryStore
  simp only [Sem.run_bind, getObj_run hm, Result.andThen_ok, asInt, asIntOf, Sem.run_pure, findIdx_born hw hx, modify_val hw hx, setObj_run hm]

theorem erase_key {i : Nat} (hw : Wf m c) (hi : mix m k = some i) : (m.map (mkE enc)).toArray.eraseIdxIfInBounds i = ((mdel m k).map (mkE enc)).toArray := by
  obtain ⟨x, hx, hxk, hfd⟩ := mix_some hi
  clear hfd
  obtain ⟨hil, hxi⟩ := List.getElem?_eq_some_iff.1 hx
  have e1 : m.eraseIdx i = mdel m k := by
    clear hi
    have hk := hw.keys
    clear hw
    unfold mdel
    induction m generalizing i with
    | nil => simp at hil
    | cons y r ih =>
      simp only [List.map_cons, List.nodup_cons] at hk
      cases i with
      | zero =>
        simp only [List.getElem_cons_zero] at hxi
        subst hxi
        simp only [List.eraseIdx_cons_zero, List.filter_cons, hxk, decide_true, Bool.not_true, Bool.false_eq_true, if_false]
        rw [List.filter_eq_self.2]
        intro z hz
        have : z.1 ≠ k := by
          intro e
          exact hk.1 (by rw [hxk, ← e]; exact List.mem_map_of_mem hz)
        simp [this]
      | succ i =>
        have hyk : y.1 ≠ k := by
          intro e
          simp only [List.getElem_cons_succ] at hxi
          exact hk.1 (by rw [e, ← hxk, ← hxi]; exact List.mem_map_of_mem (List.getElem_mem _))
        simp only [List.eraseIdx_cons_succ, List.filter_cons, hyk, decide_false, Bool.not_false, if_true]
        rw [ih (i := i) (by simpa using hx) (by simpa using hil) (by simpa using hxi) hk.2]
  rw [← e1]
  simp only [Array.eraseIdxIfInBounds, List.size_toArray, List.length_map, hil, dif_pos]
  apply Array.ext'
  simp only [List.eraseIdx_toArray]
  have : ∀ (r : List (κ × Value × Nat)) (i : Nat), (r.map (mkE enc)).eraseIdx i = (r.eraseIdx i).map (mkE enc) := by
    intro r
    induction r with
    | nil => intro i; rfl
    | cons y r ih => intro i; cases i <;> simp [ih]
  exact this m i

theorem delete_run {kT ty : TypeId} (hT : P.underlying mT = some (.map K E)) (hk : KeyLaw P K enc) (hm : Mp enc w b m c) (hw : Wf m c) :
    (Builtin.delete_ #[mT, kT] ty #[.map (some b), enc k]).run P w = .ok (.tuple #[]) { w with heap := w.heap.setIfInBounds b (.map ((mdel m k).map (mkE enc)).toArray c) } := by
  unfold Builtin.delete_
  simp only [List.getElem?_toArray, List.getElem?_cons_zero, List.getElem?_cons_succ, Sem.run_bind, run_underlying hT, Result.andThen_ok, getObj_run hm, hk.check, find_run hk]
  cases h : mix m k with
  | none =>
    have e : mdel m k = m := by
      unfold mdel
      rw [List.filter_eq_self.2]
      intro x hx
      simp [(mix_none h).2 x hx]
    simp [setObj_run hm, e]
  | some i =>
    obtain ⟨x, h1, h2, h3⟩ := mix_some h
    simp only [h1, Option.bind_some, Option.map_some, erase_key hw h, Sem.run_bind, setObj_run hm, Result.andThen_ok, Sem.run_pure]

theorem update_run {v : Value} (hT : P.underlying mT = some (.map K E)) (hk : KeyLaw P K enc) (hm : Mp enc w b m c) (hw : Wf m c) :
    (Instr.mapUpdate mT (.map (some b)) (enc k) v).run P w =
      .ok () { w with heap := w.heap.setIfInBounds b (match mfind m k with
        | some _ => .map ((mput m k v).map (mkE enc)).toArray c
        | none => .map ((m ++ [(k, v, c)]).map (mkE enc)).toArray (c + 1)) } := by
  unfold Instr.mapUpdate
  simp only [Sem.run_bind, run_underlying hT, Result.andThen_ok, getObj_run hm, hk.check, find_run hk]
  cases h : mix m k with
  | none => simp [(mix_none h).1, setObj_run hm, mkE]
  | some i =>
    obtain ⟨x, h1, h2, h3⟩ := mix_some h
    simp [h1, h3, mkE, h2]
    rw [stays_run hk]
    simp only [Result.andThen_ok]
    have e := modify_val (enc := enc) hw h1 v
    have e2 : (List.map (mkE enc) m).modify i (fun e => { key := enc k, val := v, born := e.born }) = (mput m k v).map (mkE enc) := by
      rw [h2] at e
      have e3 := congrArg Array.toList e
      simp only [Array.toList_modify] at e3
      rw [← e3]
      apply List.ext_getElem?
      intro j
      simp only [List.getElem?_modify, List.getElem?_map]
      by_cases hj : i = j
      · subst hj; simp [h1, mkE, h2]
      · simp [hj]
    rw [e2, setObj_run hm]

theorem Wf.put (hw : Wf m c) (v : Value) : Wf (mput m k v) c := by
  have e1 : (mput m k v).map (·.1) = m.map (·.1) := by
    unfold mput; rw [List.map_map]; apply List.map_congr_left; intro x _; simp only [Function.comp]; split <;> rfl
  have e2 : (mput m k v).map (·.2.2) = m.map (·.2.2) := by
    unfold mput; rw [List.map_map]; apply List.map_congr_left; intro x _; simp only [Function.comp]; split <;> rfl
  refine ⟨by rw [e1]; exact hw.keys, by rw [e2]; exact hw.borns, fun x hx => ?_⟩
  have : x.2.2 ∈ (mput m k v).map (·.2.2) := List.mem_map_of_mem hx
  rw [e2] at this
  obtain ⟨y, hy, he⟩ := List.mem_map.1 this
  rw [← he]; exact hw.past y hy
theorem Wf.del (hw : Wf m c) : Wf (mdel m k) c :=
  ⟨hw.keys.sublist (List.filter_sublist.map _), hw.borns.sublist (List.filter_sublist.map _), fun x hx => hw.past x (List.mem_filter.1 hx).1⟩
theorem Wf.push (hw : Wf m c) (hn : mfind m k = none) (v : Value) : Wf (m ++ [(k, v, c)]) (c + 1) := by
  refine ⟨?_, ?_, fun x hx => ?_⟩
  · rw [List.map_append, List.nodup_append]
    refine ⟨hw.keys, by simp, fun a ha b hb => ?_⟩
    simp only [List.map_cons, List.map_nil, List.mem_singleton] at hb
    subst hb
    obtain ⟨y, hy, rfl⟩ := List.mem_map.1 ha
    intro e
    have := List.find?_eq_none.1 hn y hy
    simp [e] at this
  · rw [List.map_append, List.nodup_append]
    refine ⟨hw.borns, by simp, fun a ha b hb => ?_⟩
    simp only [List.map_cons, List.map_nil, List.mem_singleton] at hb
    subst hb
    obtain ⟨y, hy, rfl⟩ := List.mem_map.1 ha
    have := hw.past y hy
    omega
  · rcases List.mem_append.1 hx with hx | hx
    · have := hw.past x hx; omega
    · simp at hx; subst hx; simp
theorem Wf.ent (hw : Wf m c) (z : Value) : Wf (ment m k z c).2.1 (ment m k z c).2.2 ∧ (ment m k z c).1 ∈ (ment m k z c).2.1 ∧ (ment m k z c).1.1 = k := by
  unfold ment
  cases h : mfind m k with
  | none => exact ⟨hw.push h z, by simp, rfl⟩
  | some x => exact ⟨hw, List.mem_of_find?_eq_some h, by have := List.find?_some h; simpa using this⟩
end
end Go.Tum
