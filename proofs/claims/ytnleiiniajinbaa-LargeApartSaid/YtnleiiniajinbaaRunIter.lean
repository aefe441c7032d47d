/-
  Runs by reckoning: a map is ranged over, so long as there is but one entry to come.
-/
import Derived.Test.YtnleiiniajinbaaRunMap
namespace Go.Tum
open Go

def leftOf (m : List (Value × Value × Nat)) (seen : List Nat) : List (Value × Value × Nat) := m.filter fun x => !(seen.any (Nat.beq x.2.2))

/-- what comes next: some none: nothing; none: it can't be told -/
def lnext (m : List (Value × Value × Nat)) (since : Nat) (seen : List Nat) (last : Nat) : Option (Option (Value × Value × Nat)) :=
  bif !seen.isEmpty && !m.isEmpty && m.all (fun x => Nat.ble last x.2.2) then none else match leftOf m seen with
    | [] => some none
    | [e] => bif Nat.blt e.2.2 since then some (some e) else none
    | _ => none

def rawE2 (P : Program) : RawE := fun L l o =>
  match o.op with
  | .range mT x => match keyKind P mT, lv l x with
    | some _, some (.map (some b)) => match L[b]? with
      | some (.map _ c) => some (.pointer (some ⟨L.length, 0, none⟩), L ++ [.iter (some b) c [] c])
      | _ => none
    | _, _ => none
  | .next it false => match lptr l it with
    | some ⟨b, 0, none⟩ => match L[b]? with
      | some (.iter (some q) since seen last) => match L[q]? with
        | some (.map m c) => match lnext m since seen last with
          | some (some e) => some (.tuple ⟨[.bool true, e.1, e.2.1]⟩, L.set b (.iter (some q) since (seen ++ [e.2.2]) c))
          | some none => some (.tuple ⟨[.bool false]⟩, L)
          | none => none
        | _ => none
      | _ => none
    | _ => none
  | .entry it => match lptr l it with
    | some ⟨b, 0, none⟩ => match L[b]? with
      | some (.iter (some q) _ seen last) => match L[q]?, seen.getLast? with
        | some (.map m c), some st => bif Nat.beq c last then (match m.find? (fun x => Nat.beq x.2.2 st) with
          | some e => some (.tuple ⟨[e.1, e.2.1]⟩, L)
          | none => none) else none
        | _, _ => none
      | _ => none
    | _ => none
  | _ => rawE1 P L l o

theorem M2.filter {E : Emb} (p : Nat → Bool) : ∀ {m : List (Value × Value × Nat)} {es : List MapEntry}, M2 E m es → M2 E (m.filter fun x => p x.2.2) (es.filter fun e => p e.born)
  | [], [], _ => trivial
  | a :: r, b :: s, h => by
    simp only [List.filter_cons, h.1.2.2]
    cases p a.2.2
    · exact M2.filter p h.2
    · exact ⟨h.1, M2.filter p h.2⟩
  | [], _ :: _, h => h.elim
  | _ :: _, [], h => h.elim
theorem M2.find {E : Emb} (p : Nat → Bool) : ∀ {m : List (Value × Value × Nat)} {es : List MapEntry} {x : Value × Value × Nat}, M2 E m es → m.find? (fun x => p x.2.2) = some x → ∃ e, es.find? (fun e => p e.born) = some e ∧ ME E x e
  | [], [], _, _, h => by cases h
  | a :: r, b :: s, x, h, hf => by
    simp only [List.find?_cons, h.1.2.2] at hf ⊢
    cases hp : p a.2.2
    · rw [hp] at hf; exact M2.find p h.2 hf
    · rw [hp] at hf; cases hf; exact ⟨b, rfl, h.1⟩
  | [], _ :: _, _, h, _ => h.elim
  | _ :: _, [], _, h, _ => h.elim
theorem M2.all {E : Emb} (p : Nat → Bool) : ∀ {m : List (Value × Value × Nat)} {es : List MapEntry}, M2 E m es → (es.all fun e => p e.born) = m.all fun x => p x.2.2
  | [], [], _ => rfl
  | a :: r, b :: s, h => by simp only [List.all_cons, h.1.2.2, M2.all p h.2]
  | [], _ :: _, h => h.elim
  | _ :: _, [], h => h.elim

theorem getObjI_run {P : Program} {w : World} {r : Nat} {o : Obj} (h : w.heap[r]? = some o) (hn : ∀ c e f, o ≠ .cells c e f) : (getObj r).run P w = .ok o w := by
  cases o <;> first | (exact absurd rfl (hn _ _ _)) | simp [getObj, Sem.run, h]
theorem setObjI_run {P : Program} {w : World} {r : Nat} {o o' : Obj} (h : w.heap[r]? = some o) (hn : ∀ c e f, o ≠ .cells c e f) : (setObj r o').run P w = .ok () { w with heap := w.heap.setIfInBounds r o' } := by
  cases o <;> first | (exact absurd rfl (hn _ _ _)) | simp [setObj, Sem.run, h]

theorem choose_one {P : Program} {w : World} : (choose (.mapNext 1)).run P w = .ok 0 w := by
  simp [choose, Sem.run, Question.forced]

theorem next_run {P : Program} {w : World} {r q : Nat} {since last c : Nat} {seen : List Nat} {es : List MapEntry} {ty : TypeId} (hi : w.heap[r]? = some (.mapIter (some q) since seen.toArray last)) (hm : w.heap[q]? = some (.map es.toArray c))
    (hu : (!seen.isEmpty && !es.isEmpty && es.all (fun e => Nat.ble last e.born)) = false) :
    (∀ e, (es.filter fun e => !(seen.any (Nat.beq e.born))) = [e] → e.born < since → (Instr.next (.pointer (some ⟨r, 0, none⟩)) false ty).run P w = .ok (.tuple #[.bool true, e.key, e.val]) { w with heap := w.heap.setIfInBounds r (.mapIter (some q) since (seen ++ [e.born]).toArray c) }) ∧
    ((es.filter fun e => !(seen.any (Nat.beq e.born))) = [] → (Instr.next (.pointer (some ⟨r, 0, none⟩)) false ty).run P w = .ok (.tuple #[.bool false]) w) := by
  have hg1 := getObjI_run (P := P) hi (fun _ _ _ h => by cases h)
  have hg2 := getObjI_run (P := P) hm (fun _ _ _ h => by cases h)
  have hcont : ∀ b : Nat, seen.toArray.contains b = seen.any (Nat.beq b) := by
    intro b
    rw [Array.contains_eq_any_beq, List.any_toArray]
    congr 1
    funext x
    cases hb : Nat.beq b x
    · have : b ≠ x := fun e => by rw [e, Nat.beq_refl] at hb; cases hb
      simpa using this
    · simpa using Nat.eq_of_beq_eq_true hb
  have hleft : (es.toArray.filter fun e => !seen.toArray.contains e.born) = (es.filter fun e => !(seen.any (Nat.beq e.born))).toArray := by
    simp only [hcont, List.filter_toArray]
  have hu' : (!seen.toArray.isEmpty && !es.toArray.isEmpty && es.toArray.all (fun e => decide (e.born ≥ last))) = false := by
    have e1 : seen.toArray.isEmpty = seen.isEmpty := by cases seen <;> rfl
    have e2 : es.toArray.isEmpty = es.isEmpty := by cases es <;> rfl
    have e3 : es.toArray.all (fun e => decide (e.born ≥ last)) = es.all (fun e => Nat.ble last e.born) := by
      rw [List.all_toArray]
      congr 1
      funext e
      rw [Bool.eq_iff_iff, decide_eq_true_eq]
      exact ⟨fun h => Nat.ble_eq_true_of_le h, fun h => Nat.le_of_ble_eq_true h⟩
    rw [e1, e2, e3]; exact hu
  constructor
  · intro e he hlt
    unfold Instr.next
    simp only [Sem.run_bind, hg1, Result.andThen_ok, hg2, hu', Bool.false_eq_true, if_false, hleft, he]
    have e1 : (#[e] : Array MapEntry).filter (fun e => decide (e.born < since)) = #[e] := by simp [hlt]
    have e2 : (#[e] : Array MapEntry).filter (fun e => decide (e.born ≥ since)) = #[] := by
      have : ¬ since ≤ e.born := by omega
      simp [this]
    simp only [e1, e2]
    simp only [show (#[e] : Array MapEntry).isEmpty = false from rfl, Bool.false_eq_true, if_false, Array.append_empty, Array.empty_append, List.map_toArray, List.map_cons, List.map_nil, List.size_toArray, List.length_cons, List.length_nil, Nat.zero_add, choose_one, Result.andThen_ok]
    simp [setObjI_run (P := P) hi (fun _ _ _ h => by cases h)]
  · intro he
    unfold Instr.next
    simp only [Sem.run_bind, hg1, Result.andThen_ok, hg2, hu', Bool.false_eq_true, if_false, hleft, he]
    simp only [Array.filter_empty]
    simp only [show (#[] : Array MapEntry).isEmpty = true from rfl, if_true, Array.append_empty, Array.map_empty, List.size_toArray, List.length_cons, List.length_nil, Nat.zero_add, choose_one, Result.andThen_ok]
    simp

theorem rawE2_ok (P : Program) : RawEOk P (rawE2 P) := by
  intro X w0 w E L l l' o v L' K h hR hl hK
  unfold rawE2 at h
  split at h
  · rename_i mT x hop
    split at h <;> first | (cases h; done) | skip
    rename_i et b hk hx
    split at h <;> first | (cases h; done) | skip
    rename_i m c hb
    cases h
    obtain ⟨kt, k', hT, hkt⟩ := keyKind_ok hk
    obtain ⟨_, h1, r, h2, rfl⟩ := lv_ev hl hx
    obtain ⟨es, h3, h4⟩ := hR.blk b _ r hb h2
    obtain ⟨d, op, ty, pos, af, g⟩ := o
    simp only at hop
    subst hop
    intro ρ w1 ha hs
    have h3' : w1.heap[r.1]? = some (.map es.toArray c) := by rw [hs.heap]; exact h3
    refine Eff.value (v := .pointer (some ⟨w1.heap.size, 0, none⟩)) (w' := w1.alloc (.mapIter (some r.1) c #[] c)) ?_ ⟨w.alloc (.mapIter (some r.1) c #[] c), hs.push _, ?_⟩
    · simp [execOp, Instr.range, ha x _ h1, run_underlying hT, getObj_run (P := P) h3']
    · rw [hs.heap]
      refine hK _ (E ++ [(w.heap.size, 0, 0)]) _ (Ext.push E _) (hR.push1 (Fr.alloc _ w _) rfl (alloc_size _ _) (fun _ h => h) ⟨rfl, some r.1, ?_, r, Ext.push E _ b r h2, rfl⟩) ⟨_, rfl, rfl, _, hR.last _, by simp⟩
      show (w.heap.push _)[w.heap.size]? = _
      simp
  · rename_i it hop
    split at h <;> first | (cases h; done) | skip
    rename_i b hit
    split at h <;> first | (cases h; done) | skip
    rename_i q since seen last hb
    split at h <;> first | (cases h; done) | skip
    rename_i m c hq
    obtain ⟨⟨b', o', s'⟩, h1, h2, r, h3, h4⟩ := lptr_ok hl hit
    simp only at h3 h4
    obtain ⟨hr0, m', h5, q', h6, rfl⟩ := hR.blk b _ r hb h3
    obtain ⟨r1, r2⟩ := r
    simp only at hr0 h5 h4
    subst hr0
    cases h4
    obtain ⟨es, h7, h8⟩ := hR.blk q _ q' hq h6
    obtain ⟨d, op, ty, pos, af, g⟩ := o
    simp only at hop
    subst hop
    unfold lnext at h
    cases hun : (!seen.isEmpty && !m.isEmpty && m.all (fun x => Nat.ble last x.2.2))
    rotate_left
    · rw [hun] at h; cases h
    rw [hun] at h
    simp only [cond_false] at h
    have hun' : (!seen.isEmpty && !es.isEmpty && es.all (fun e => Nat.ble last e.born)) = false := by
      rw [h8.all (fun b => Nat.ble last b)]
      have : es.isEmpty = m.isEmpty := by
        have := h8.length
        cases es <;> cases m <;> first | rfl | simp at this
      rw [this]; exact hun
    have hfil := h8.filter (fun b => !(seen.any (Nat.beq b)))
    split at h <;> first | (cases h; done) | skip
    · rename_i e hle
      split at hle <;> first | (cases hle; done) | skip
      rename_i e' hlf
      cases hlt : Nat.blt e'.2.2 since
      · rw [hlt] at hle; cases hle
      rw [hlt] at hle; cases hle
      cases h
      have hlt : e.2.2 < since := Nat.le_of_ble_eq_true hlt
      unfold leftOf at hlf
      rw [hlf] at hfil
      cases hes : (es.filter fun e => !(seen.any (Nat.beq e.born))) with
      | nil => rw [hes] at hfil; exact hfil.elim
      | cons e2 t =>
        rw [hes] at hfil
        cases t with
        | cons => exact hfil.2.elim
        | nil =>
          intro ρ w1 ha hs
          have h5' := h5
          rw [← hs.heap] at h5'
          have h7' := h7
          rw [← hs.heap] at h7'
          have hrun := (next_run (P := P) (ty := ty) h5' h7' hun').1 e2 hes (by rw [hfil.1.2.2]; exact hlt)
          refine Eff.value (v := .tuple #[.bool true, e2.key, e2.val]) ?_ ⟨_, hs.setObj b' (.mapIter (some q'.1) since (seen ++ [e2.born]).toArray c), ?_⟩
          · simp only [execOp, ha it _ h1, Sem.run_bind]
            rw [show (0 + 0) = 0 from rfl, hrun]; rfl
          · refine hK _ E _ (Ext.refl E) (hR.upd hb h3 (Fr.setObj w b' _) ⟨rfl, some q'.1, ?_, q', h6, rfl⟩ (fun _ h => .inl h)) ⟨[.bool true, e2.key, e2.val], rfl, rfl, hfil.1.1, hfil.1.2.1, trivial⟩
            rw [hfil.1.2.2]
            have hlt := (Array.getElem?_eq_some_iff.1 h5).1
            simp [hlt]
    · rename_i hle
      cases h
      split at hle <;> first | (cases hle; done) | skip
      · rename_i hlf
        unfold leftOf at hlf
        rw [hlf] at hfil
        have hes : (es.filter fun e => !(seen.any (Nat.beq e.born))) = [] := by
          cases hq2 : (es.filter fun e => !(seen.any (Nat.beq e.born))) with
          | nil => rfl
          | cons => rw [hq2] at hfil; exact hfil.elim
        intro ρ w1 ha hs
        have h5' := h5
        rw [← hs.heap] at h5'
        have h7' := h7
        rw [← hs.heap] at h7'
        have hrun := (next_run (P := P) (ty := ty) h5' h7' hun').2 hes
        refine Eff.value (v := .tuple #[.bool false]) (w' := w1) ?_ ⟨w, hs, hK w E _ (Ext.refl E) hR ⟨[.bool false], rfl, rfl, trivial⟩⟩
        simp only [execOp, ha it _ h1, Sem.run_bind]
        rw [show (0 + 0) = 0 from rfl, hrun]; rfl
      · rename_i e' hlf
        cases hlt : Nat.blt e'.2.2 since
        · rw [hlt] at hle; cases hle
        · rw [hlt] at hle; cases hle
  · rename_i it hop
    split at h <;> first | (cases h; done) | skip
    rename_i b hit
    split at h <;> first | (cases h; done) | skip
    rename_i q since seen last hb
    split at h <;> first | (cases h; done) | skip
    rename_i m c st hq hlast
    cases hc : Nat.beq c last
    · rw [hc] at h; cases h
    rw [hc] at h
    have hc := Nat.eq_of_beq_eq_true hc
    subst hc
    simp only [cond_true] at h
    split at h <;> first | (cases h; done) | skip
    rename_i e hf
    cases h
    obtain ⟨⟨b', o', s'⟩, h1, h2, r, h3, h4⟩ := lptr_ok hl hit
    simp only at h3 h4
    obtain ⟨hr0, m', h5, q', h6, rfl⟩ := hR.blk b _ r hb h3
    obtain ⟨r1, r2⟩ := r
    simp only at hr0 h5 h4
    subst hr0
    cases h4
    obtain ⟨es, h7, h8⟩ := hR.blk q _ q' hq h6
    obtain ⟨e2, h9, h10⟩ := h8.find (fun b => Nat.beq b st) hf
    obtain ⟨d, op, ty, pos, af, g⟩ := o
    simp only at hop
    subst hop
    intro ρ w1 ha hs
    have h5' := h5
    rw [← hs.heap] at h5'
    have h7' := h7
    rw [← hs.heap] at h7'
    have hg1 := getObjI_run (P := P) h5' (fun _ _ _ h => by cases h)
    have hg2 := getObjI_run (P := P) h7' (fun _ _ _ h => by cases h)
    have hbk : seen.toArray.back? = some st := by rw [List.back?_toArray]; exact hlast
    have hfd : es.toArray.find? (fun e => e.born == st) = some e2 := by
      rw [List.find?_toArray, ← h9]
      congr 1
      funext x
      cases hb : Nat.beq x.born st
      · have : x.born ≠ st := fun e => by rw [e, Nat.beq_refl] at hb; cases hb
        simpa using this
      · simpa using Nat.eq_of_beq_eq_true hb
    refine Eff.value (v := .tuple #[e2.key, e2.val]) (w' := w1) ?_ ⟨w, hs, hK w E _ (Ext.refl E) hR ⟨[e2.key, e2.val], rfl, h10.1, h10.2.1, trivial⟩⟩
    simp [execOp, ha it _ h1, Instr.entry, hg1, hg2, hbk, hfd]
  · exact rawE1_ok P _ _ _ _ _ _ _ _ _ _ K h hR hl hK
end Go.Tum
