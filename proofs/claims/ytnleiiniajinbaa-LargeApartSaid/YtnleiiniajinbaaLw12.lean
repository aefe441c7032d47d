/-
  The logic over named blocks: ranges over maps (in whichever order), copies out of rows that came in.
-/
import Derived.Test.YtnleiiniajinbaaLw11
namespace Go.Tum
open Go

section
variable {P : Program} {w : World}
theorem choose_any (n : Nat) (hn : 0 < n) : ∃ j w', (choose (.mapNext n)).run P w = .ok j w' ∧ j < n ∧ (w' = w ∨ w' = w.drew) := by
  by_cases h : n ≤ 1
  · exact ⟨0, w, by simp [choose, Sem.run, Question.forced, h], hn, .inl rfl⟩
  · exact ⟨w.tape w.drawn (.mapNext n) % n, w.drew, by simp [choose, Sem.run, Question.forced, h, Question.cut], Nat.mod_lt _ hn, .inr rfl⟩
theorem next_runM {r q c : Nat} {seen : List Nat} {es : List MapEntry} {ty : TypeId} (hi : w.heap[r]? = some (.mapIter (some q) c seen.toArray c)) (hm : w.heap[q]? = some (.map es.toArray c)) (hlt : ∀ e ∈ es, e.born < c) :
    ((∀ e ∈ es, e.born ∈ seen) ∧ (Instr.next (.pointer (some ⟨r, 0, none⟩)) false ty).run P w = .ok (.tuple #[.bool false]) w) ∨
    ∃ e ∈ es, e.born ∉ seen ∧ ∃ w', (w' = w ∨ w' = w.drew) ∧ (Instr.next (.pointer (some ⟨r, 0, none⟩)) false ty).run P w = .ok (.tuple #[.bool true, e.key, e.val]) { w' with heap := w'.heap.setIfInBounds r (.mapIter (some q) c (seen ++ [e.born]).toArray c) } := by
  have hg1 := getObjI_run (P := P) hi (fun _ _ _ h => by cases h)
  have hg2 := getObjI_run (P := P) hm (fun _ _ _ h => by cases h)
  have hleft : (es.toArray.filter fun e => !seen.toArray.contains e.born) = (es.filter fun e => decide (e.born ∉ seen)).toArray := by
    rw [List.filter_toArray]
    congr 1
    apply List.filter_congr
    intro e _
    simp
  have hu' : (!seen.toArray.isEmpty && !es.toArray.isEmpty && es.toArray.all (fun e => decide (e.born ≥ c))) = false := by
    cases es with
    | nil => simp
    | cons e t =>
      have : ¬ e.born ≥ c := by have := hlt e (List.mem_cons_self ..); omega
      simp [this]
  have hL : ∀ e ∈ es.filter (fun e => decide (e.born ∉ seen)), e ∈ es ∧ e.born ∉ seen := fun e he => by simpa using he
  have hold : ((es.filter fun e => decide (e.born ∉ seen)).toArray.filter fun e => decide (e.born < c)) = (es.filter fun e => decide (e.born ∉ seen)).toArray := by
    rw [List.filter_toArray]
    congr 1
    exact List.filter_eq_self.2 fun e he => by simpa using hlt e (hL e he).1
  have hnew : ((es.filter fun e => decide (e.born ∉ seen)).toArray.filter fun e => decide (e.born ≥ c)) = #[] := by
    rw [List.filter_toArray]
    congr 1
    exact List.filter_eq_nil_iff.2 fun e he => by have := hlt e (hL e he).1; simp; omega
  have key : (Instr.next (.pointer (some ⟨r, 0, none⟩)) false ty).run P w = (do
      let left := (es.filter fun e => decide (e.born ∉ seen)).toArray
      let candidates := (if left.isEmpty then #[none] else #[]) ++ left.map some
      match candidates[← choose (.mapNext candidates.size)]? with
      | some (some e) =>
        setObj r (.mapIter (some q) c (seen.toArray.push e.born) c)
        pure (.tuple #[.bool true, e.key, e.val])
      | some none => pure (.tuple #[.bool false])
      | none => stuck "Next: no such candidate" : Sem Value).run P w := by
    unfold Instr.next
    simp only [Sem.run_bind, hg1, Result.andThen_ok, hg2, hu', Bool.false_eq_true, if_false, hleft, hold, hnew, Array.append_empty]
    rfl
  rw [key]
  generalize hls : (es.filter fun e => decide (e.born ∉ seen)) = ls at hL
  cases ls with
  | nil =>
    refine .inl ⟨fun e he => ?_, ?_⟩
    · have := List.filter_eq_nil_iff.1 hls e he
      simpa using this
    · simp only [show ([] : List MapEntry).toArray.isEmpty = true from rfl, if_true, List.map_toArray, List.map_nil, Array.append_empty, Sem.run_bind, List.size_toArray, List.length_cons, List.length_nil, Nat.zero_add, choose_one, Result.andThen_ok]
      simp
  | cons e0 t =>
    obtain ⟨j, w', hj, hjl, hw⟩ := choose_any (P := P) (w := w) (e0 :: t).length (by simp)
    obtain ⟨he1, he2⟩ := hL (e0 :: t)[j] (List.getElem_mem hjl)
    refine .inr ⟨(e0 :: t)[j], he1, he2, w', hw, ?_⟩
    have hsz : ((#[] : Array (Option MapEntry)) ++ (e0 :: t).toArray.map some).size = (e0 :: t).length := by simp
    simp only [show (e0 :: t).toArray.isEmpty = false from rfl, Bool.false_eq_true, if_false, Sem.run_bind, hsz, hj, Result.andThen_ok]
    have hget : ((#[] : Array (Option MapEntry)) ++ (e0 :: t).toArray.map some)[j]? = some (some (e0 :: t)[j]) := by
      simp only [Array.empty_append, List.map_toArray, List.getElem?_toArray, List.getElem?_map]
      rw [List.getElem?_eq_getElem hjl]; rfl
    rw [hget]
    have hi' : w'.heap[r]? = some (.mapIter (some q) c seen.toArray c) := by rcases hw with rfl | rfl <;> exact hi
    simp only [Sem.run_bind, setObjI_run (P := P) hi' (fun _ _ _ h => by cases h), Result.andThen_ok, Sem.run_pure]
    simp
end
section
variable {P : Program} {n0 : NA} {l : Env} {L : LH}
theorem M2.memR {E : Emb} : ∀ {m : List (Value × Value × Nat)} {es : List MapEntry}, M2 E m es → ∀ e ∈ es, ∃ x ∈ m, ME E x e
  | [], [], _, e, he => by cases he
  | a :: r, b :: s, h, e, he => by
    rcases List.mem_cons.1 he with rfl | he
    · exact ⟨a, List.mem_cons_self .., h.1⟩
    · obtain ⟨x, h1, h2⟩ := M2.memR h.2 e he; exact ⟨x, List.mem_cons_of_mem _ h1, h2⟩
  | [], _ :: _, h, _, _ => h.elim
  | _ :: _, [], h, _, _ => h.elim
theorem M2.memL {E : Emb} : ∀ {m : List (Value × Value × Nat)} {es : List MapEntry}, M2 E m es → ∀ x ∈ m, ∃ e ∈ es, ME E x e
  | [], [], _, e, he => by cases he
  | a :: r, b :: s, h, e, he => by
    rcases List.mem_cons.1 he with rfl | he
    · exact ⟨b, List.mem_cons_self .., h.1⟩
    · obtain ⟨x, h1, h2⟩ := M2.memL h.2 e he; exact ⟨x, List.mem_cons_of_mem _ h1, h2⟩
  | [], _ :: _, h, _, _ => h.elim
  | _ :: _, [], h, _, _ => h.elim
/-- the next entry, whichever it is -/
theorem EW.nextM {o : Oper} {it : Operand} {b q c : Nat} {seen : List Nat} {m : List (Value × Value × Nat)} (ho : o.op = .next it false) (hit : lv l it = some (.pointer (some ⟨b, 0, none⟩))) (hb : L[b]? = some (.iter (some q) c seen c)) (hq : L[q]? = some (.map m c)) (hc : ∀ x ∈ m, x.2.2 < c) :
    EW P n0 L l (.raw o) (fun v K => (∃ e ∈ m, e.2.2 ∉ seen ∧ v = .tuple ⟨[.bool true, e.1, e.2.1]⟩ ∧ K = L.set b (.iter (some q) c (seen ++ [e.2.2]) c)) ∨ ((∀ e ∈ m, e.2.2 ∈ seen) ∧ v = .tuple ⟨[.bool false]⟩ ∧ K = L)) := by
  intro X w0 E0 w E l' Kf h0 hE hR hl hK
  obtain ⟨_, h1, a', rfl, _, r, h3, rfl⟩ := lv_ev hl hit
  have h3 : E[b]? = some r := h3
  obtain ⟨hr0, m', h5, q', h6, rfl⟩ := hR.blk b _ r hb h3
  obtain ⟨r1, r2⟩ := r
  simp only at hr0 h5
  subst hr0
  obtain ⟨es, h7, h8⟩ := hR.blk q _ q' hq h6
  obtain ⟨d, op, ty, pos, af, g⟩ := o
  simp only at ho
  subst ho
  have hlt : ∀ e ∈ es, e.born < c := fun e he => by
    obtain ⟨x, hx, h9⟩ := h8.memR e he
    rw [h9.2.2]; exact hc x hx
  intro ρ w1 ha hs
  have h5' := h5
  rw [← hs.heap] at h5'
  have h7' := h7
  rw [← hs.heap] at h7'
  have hlb := (Array.getElem?_eq_some_iff.1 h5).1
  rcases next_runM (P := P) (ty := ty) h5' h7' hlt with ⟨h9, hrun⟩ | ⟨e, he, hns, w2, hw2, hrun⟩
  · refine Eff.value (v := .tuple #[.bool false]) (w' := w1) ?_ ⟨w, hs, hK w E _ _ _ (.inr ⟨fun x hx => ?_, rfl, rfl⟩) (Ext.refl E) hR ⟨[.bool false], rfl, rfl, trivial⟩⟩
    · simp only [execOp, ha it _ h1, Sem.run_bind]
      rw [show (0 + 0) = 0 from rfl, hrun]; rfl
    · obtain ⟨e, he, h10⟩ := h8.memL x hx
      rw [← h10.2.2]; exact h9 e he
  · obtain ⟨x, hx, h10⟩ := h8.memR e he
    have hsim : Sim w2 w := by
      rcases hw2 with rfl | rfl
      · exact hs
      · exact ⟨hs.heap, hs.tape, hs.os, hs.output⟩
    refine Eff.value (v := .tuple #[.bool true, e.key, e.val]) ?_ ⟨_, hsim.setObj r1 (.mapIter (some q'.1) c (seen ++ [e.born]).toArray c), ?_⟩
    · simp only [execOp, ha it _ h1, Sem.run_bind]
      rw [show (0 + 0) = 0 from rfl, hrun]; rfl
    · refine hK _ E _ _ _ (.inl ⟨x, hx, by rw [← h10.2.2]; exact hns, rfl, rfl⟩) (Ext.refl E) (hR.upd hb h3 (Fr.setObj w r1 _) ⟨rfl, some q'.1, ?_, q', h6, rfl⟩ (fun _ h => .inl h)) ⟨[.bool true, e.key, e.val], rfl, rfl, h10.1, h10.2.1, trivial⟩
      rw [h10.2.2]
      simp [hlb]
/-- the entry that came last -/
theorem EW.entryM {o : Oper} {it : Operand} {b q c : Nat} {seen : List Nat} {m : List (Value × Value × Nat)} {e : Value × Value × Nat} (ho : o.op = .entry it) (hit : lv l it = some (.pointer (some ⟨b, 0, none⟩))) (hb : L[b]? = some (.iter (some q) c (seen ++ [e.2.2]) c)) (hq : L[q]? = some (.map m c)) (he : m.find? (fun x => Nat.beq x.2.2 e.2.2) = some e) :
    EW P n0 L l (.raw o) (fun v K => v = .tuple ⟨[e.1, e.2.1]⟩ ∧ K = L) := by
  refine EW.of ?_
  show rawE2 P L l o = _
  unfold rawE2
  rw [ho]
  simp only [lptr, hit, hb, hq, List.getLast?_append, List.getLast?_singleton, Option.some_or, Nat.beq_refl, cond_true, he]
theorem find_born {m : List (Int × Value × Nat)} {c : Nat} {k : IntKind} (hw : wfB m c = true) {x : Value × Value × Nat} (hx : x ∈ mBack k m) : (mBack k m).find? (fun y => Nat.beq y.2.2 x.2.2) = some x := by
  simp only [wfB, Bool.and_eq_true] at hw
  have hnd : (m.map (·.2.2)).Nodup := ndup_ok hw.1.2
  clear hw
  unfold mBack at *
  induction m with
  | nil => cases hx
  | cons a r ih =>
    simp only [List.map_cons, List.nodup_cons] at hnd
    simp only [List.map_cons, List.find?_cons]
    rcases List.mem_cons.1 hx with rfl | hx
    · simp
    · have hne : Nat.beq a.2.2 x.2.2 = false := by
        cases hb : Nat.beq a.2.2 x.2.2
        · rfl
        · exfalso
          have := Nat.eq_of_beq_eq_true hb
          obtain ⟨y, hy, rfl⟩ := List.mem_map.1 hx
          exact hnd.1 (by rw [this]; exact List.mem_map_of_mem hy)
      rw [hne]
      exact ih hx hnd.2
theorem born_lt {m : List (Int × Value × Nat)} {c : Nat} {k : IntKind} (hw : wfB m c = true) : ∀ x ∈ mBack k m, x.2.2 < c := by
  simp only [wfB, Bool.and_eq_true] at hw
  intro x hx
  obtain ⟨y, hy, rfl⟩ := List.mem_map.1 hx
  exact Nat.le_of_ble_eq_true (List.all_eq_true.1 hw.2 _ (List.mem_map_of_mem hy))

/-! ### a copy out of rows that came in -/
variable {α : Type} {g : α → List Value} {sz : Nat}
theorem copy_anyL {w : World} {Kw : Value → World → Prop} {d : Option Tmp} {pos : String} {af : Array Edge} {gg : Option (Nat × Bool)} {x y : Operand} {dT sT e ty : TypeId} {i : TypeInfo} {base sb : Option Addr} {dn dc sn sc : Nat} (he : P.underlying dT = some (.slice e)) (hi : P.info? e = some i)
    (hx : ev l x = some (.slice base dn dc)) (hy : ev l y = some (.slice sb sn sc))
    (h0 : min sn dn = 0 → Kw (.int .i64 0) w)
    (h1 : 0 < min sn dn → ∃ b o sa cs us, base = some ⟨b, o, none⟩ ∧ sb = some sa ∧ Blk w b cs ∧ o + min sn dn * i.size ≤ cs.length ∧ us.length = min sn dn * i.size ∧ (∀ j, j < min sn dn * i.size → w.cell? (sa.add j) = us[j]?) ∧ (∀ u ∈ us, one u = true) ∧
      Kw (.int .i64 (min sn dn : Nat)) (putCells w ⟨b, o, none⟩ 0 us)) :
    (EOp.raw ⟨d, .call ⟨.builtin .copy, #[x, y], #[dT, sT]⟩, ty, pos, af, gg⟩).W P Kw l w := by
  intro ρ w0 ha hs
  have hexec : execOp ρ ⟨d, .call ⟨.builtin .copy, #[x, y], #[dT, sT]⟩, ty, pos, af, gg⟩ = (do let r ← Builtin.copy_ #[dT, sT] ty #[.slice base dn dc, .slice sb sn sc]; pure (Next.value r)) := by
    simp [execOp, resolve, invoke, builtin, ha x _ hx, ha y _ hy]
  have hmin : ∀ a b : Nat, Nat.min a b = min a b := fun _ _ => rfl
  by_cases hz : min sn dn = 0
  · refine Eff.value (v := .int .i64 0) (w' := w0) ?_ ⟨w, hs, h0 hz⟩
    rw [hexec]
    cases sb <;> cases base <;> simp [Builtin.copy_, run_underlying he, Builtin.lenOf, sizeOf_run hi, Builtin.firstCells, hmin, hz, loadCells_none, storeCells, goInt]
  · obtain ⟨b, o, sa, cs, us, rfl, rfl, hB, hle, hul, hcell, hone, hK⟩ := h1 (by omega)
    have hload : (loadCells sa (min sn dn * i.size)).run P w0 = .ok us.toArray w0 :=
      loadCells_run _ 0 #[] us.toArray (by simpa using hul) (fun j _ hj => by rw [hs.cell]; rw [hcell j (by omega)]; simp) (by simp)
    have hst := storeCells_blk (P := P) (w := w0) (hB.sim hs) (o := o) (vs := us) (by omega) hone
    refine Eff.value (v := .int .i64 (min sn dn : Nat)) (w' := putCells w0 ⟨b, o, none⟩ 0 us) ?_ ⟨_, putCells_sim hs _ _ _, hK⟩
    rw [hexec]
    simp only [Builtin.copy_, List.getElem?_toArray, List.getElem?_cons_zero, List.getElem?_cons_succ, Sem.run_bind, run_underlying he, Result.andThen_ok, Builtin.lenOf, Sem.run_pure, sizeOf_run hi, Builtin.firstCells, hmin, hload, hst, goInt]

/-- so many of what came in -/
def takeA {α : Type} (op : Nat → α) (n : Nat) : List α := (List.range n).map op
theorem takeA_length {α : Type} (op : Nat → α) (n : Nat) : (takeA op n).length = n := by simp [takeA]
theorem EW.copyA {o : Oper} {x y : Operand} {dT sT : TypeId} {b i dn dc k j n sn sc : Nat} {xs : List α} {f : Nat → List Value} {op : Nat → α} (h : RowOk g sz) (hop : ∀ i, i < n → f i = g (op i)) (ho : o.op = .call ⟨.builtin .copy, ⟨[x, y]⟩, ⟨[dT, sT]⟩⟩) (ht : cpyT P dT = some sz)
    (hx : lv l x = some (.slice (some ⟨b, i * sz, none⟩) dn dc)) (hy : lv l y = some (.slice (some ⟨k, 0, none⟩) sn sc)) (hb : L[b]? = some (.gro sz (rowsC g xs))) (hA : n0.A[j]? = some (k, n * sz, rowG sz f))
    (hd : i + dn ≤ xs.length) (hs : sn ≤ n) (hz : 0 < sz) :
    EW P n0 L l (.raw o) (fun v K => v = .int .i64 (min sn dn : Nat) ∧ K = L.set b (.gro sz (rowsC g (xs.take i ++ takeA op (min sn dn) ++ xs.drop (i + min sn dn))))) := by
  intro X w0 E0 w E l' Kf h0 hE hR hl hK
  unfold cpyT at ht
  split at ht
  rotate_left
  · cases ht
  rename_i e ie z he
  cases ht
  obtain ⟨hu, hi, _⟩ := elemOf_ok he
  obtain ⟨vd', h1, h2⟩ := lv_ev hl hx
  obtain ⟨vs', h3, h4⟩ := lv_ev hl hy
  obtain ⟨d, opp, ty, pos, af, gg⟩ := o
  simp only at ho
  subst ho
  obtain ⟨base', dc', rfl⟩ := form_slice h2
  obtain ⟨sb', sc', rfl⟩ := form_slice h4
  refine copy_anyL (ty := ty) hu hi h1 h3 (fun hm => ?_) (fun hp => ?_)
  · refine hK w E _ _ _ ⟨rfl, rfl⟩ (Ext.refl E) ?_ (by rw [hm]; rfl)
    rw [hm]
    have e : xs.take i ++ takeA op 0 ++ xs.drop (i + 0) = xs := by simp [takeA]
    rw [e, set_self hb]
    exact hR
  · have hdn : dn ≠ 0 := by omega
    have hsn : sn ≠ 0 := by omega
    obtain ⟨_, r, hr, ⟨a1, c1, e1, hcase⟩ | ⟨hz0, _⟩⟩ := h2
    rotate_left
    · exact absurd hz0 hdn
    rcases hcase with ⟨rfl, rfl⟩ | ⟨hz0, _⟩
    rotate_left
    · exact absurd hz0 hdn
    cases e1
    obtain ⟨hsp, q, hq, ⟨a2, c2, e2, hcase⟩ | ⟨hz0, _⟩⟩ := h4
    rotate_left
    · exact absurd hz0 hsn
    rcases hcase with ⟨rfl, rfl⟩ | ⟨hz0, _⟩
    rotate_left
    · exact absurd hz0 hsn
    cases e2
    have hq : E[k]? = some q := hq
    have hlen := takeA_length op (min sn dn)
    have hst := rowsC_still h (takeA op (min sn dn))
    have hul : (rowsC g (takeA op (min sn dn))).length = min sn dn * ie.size := by rw [rowsC_length h, hlen]
    have hle : (i + min sn dn) * ie.size ≤ xs.length * ie.size := Nat.mul_le_mul_right _ (by omega)
    rw [Nat.add_mul] at hle
    have hpos : 0 < min sn dn * ie.size := Nat.mul_pos hp hz
    obtain ⟨cs, hB, hcl, hR'⟩ := hR.putg (o := i * ie.size) (us := rowsC g (takeA op (min sn dn))) hb hr hst (by rw [hul, rowsC_length h]; exact hle) (by omega)
    refine ⟨_, _, _, cs, rowsC g (takeA op (min sn dn)), rfl, rfl, hB, by rw [← hul]; exact hcl, hul, fun j' hj' => ?_, fun u hu => (SR.still (E := E) (List.all_eq_true.1 hst u hu)).one.1, hK _ E _ _ _ ⟨rfl, rfl⟩ (Ext.refl E) ?_ rfl⟩
    · have hdiv : j' / ie.size < min sn dn := Nat.div_lt_of_lt_mul (by rw [Nat.mul_comm]; exact hj')
      have hmod : j' % ie.size < ie.size := Nat.mod_lt _ hz
      have hj2 : j' < n * ie.size := Nat.lt_of_lt_of_le hj' (Nat.mul_le_mul_right _ (by omega))
      obtain ⟨r', y, g1, g2, g3⟩ := arg_cell h0 hE hR (List.mem_of_getElem? hA) hj2
      rw [hq] at g1; cases g1
      have hj3 : j' = j' / ie.size * ie.size + j' % ie.size := by rw [Nat.mul_comm, Nat.div_add_mod]
      have hfl : (f (j' / ie.size)).length = ie.size := by rw [hop _ (by omega)]; exact h.len _
      have hu : (f (j' / ie.size))[j' % ie.size]? = some ((f (j' / ie.size))[j' % ie.size]'(by omega)) := List.getElem?_eq_getElem (by omega)
      have hG := rowG_at (i := j' / ie.size) (j := j' % ie.size) hfl hu
      rw [← hj3] at hG
      rw [hG] at g3
      have g3 : y = _ := g3
      subst g3
      rw [add_none]
      have hget : (rowsC g (takeA op (min sn dn)))[j']? = (f (j' / ie.size))[j' % ie.size]? := by
        have ha : (takeA op (min sn dn))[j' / ie.size]? = some (op (j' / ie.size)) := by simp [takeA, hdiv]
        have := rowsC_cell h ha hmod
        rw [← hj3] at this
        rw [this, hop _ (by omega)]
      rw [hget, hu, ← g2]
      congr 2; show 0 + q.2.1 + j' = _; omega
    · have e := rowsC_splice h (xs := xs) (ys := takeA op (min sn dn)) (k := i)
      rw [e] at hR'
      rw [hlen] at hR'
      exact hR'
end
end Go.Tum
