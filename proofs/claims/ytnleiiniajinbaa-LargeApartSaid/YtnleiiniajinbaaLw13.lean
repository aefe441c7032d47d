/-
  The logic over named blocks: maps of whole numbers as blocks of their own.
-/
import Derived.Test.YtnleiiniajinbaaLw12
namespace Go.Tum
open Go

abbrev IMap := List (Int × Int × Nat)
def gfind (G : IMap) (a : Int) : Option (Int × Int × Nat) := G.find? fun x => decide (x.1 = a)
def gget (G : IMap) (a : Int) : Int := ((gfind G a).map (·.2.1)).getD 0
def ghas (G : IMap) (a : Int) : Bool := (gfind G a).isSome
def gput (G : IMap) (a n : Int) (c : Nat) : IMap := G ++ [(a, n, c)]
def gset (G : IMap) (a n : Int) : IMap := G.map fun x => if x.1 = a then (x.1, n, x.2.2) else x
def gdel (G : IMap) (a : Int) : IMap := G.filter fun x => !decide (x.1 = a)
theorem mfind_mI (G : IMap) (a : Int) : mfind (mI G) a = (gfind G a).map fun x => (x.1, .int .i64 x.2.1, x.2.2) := by
  simp only [mfind, mI, gfind, List.find?_map]
  rfl
theorem mdel_mI (G : IMap) (a : Int) : mdel (mI G) a = mI (gdel G a) := by
  simp only [mdel, mI, gdel, List.filter_map]
  rfl
theorem mset_none {G : IMap} {a n : Int} {c : Nat} (h : gfind G a = none) : mset (mI G) a (.int .i64 n) c = (mI (gput G a n c), c + 1) := by
  unfold mset
  rw [mfind_mI, h]
  simp [mI, gput]
theorem mset_some {G : IMap} {a n : Int} {c : Nat} {x : Int × Int × Nat} (h : gfind G a = some x) : mset (mI G) a (.int .i64 n) c = (mI (gset G a n), c) := by
  unfold mset
  rw [mfind_mI, h]
  simp only [Option.map_some, mput, mI, gset, List.map_map]
  congr 1
  apply List.map_congr_left
  intro y _
  simp only [Function.comp]
  split <;> rfl
theorem gfind_none {G : IMap} {a : Int} (h : gfind G a = none) : ∀ x ∈ G, x.1 ≠ a := by
  intro x hx
  have := List.find?_eq_none.1 h x hx
  simpa using this
theorem gfind_some {G : IMap} {a : Int} {x : Int × Int × Nat} (h : gfind G a = some x) : x ∈ G ∧ x.1 = a := ⟨List.mem_of_find?_eq_some h, by simpa using List.find?_some h⟩
theorem gfind_put (G : IMap) (a n : Int) (c : Nat) (b : Int) : gfind (gput G a n c) b = (gfind G b).or (if a = b then some (a, n, c) else none) := by
  simp only [gfind, gput, List.find?_append, List.find?_singleton, decide_eq_true_eq]
theorem gget_put {G : IMap} {a n : Int} {c : Nat} (h : gfind G a = none) (b : Int) : gget (gput G a n c) b = if b = a then n else gget G b := by
  rw [gget, gfind_put]
  by_cases e : b = a
  · subst e; rw [h]; simp
  · rw [if_neg (fun q => e q.symm), Option.or_none, if_neg e]; rfl
theorem gfind_del (G : IMap) (a b : Int) : gfind (gdel G a) b = if b = a then none else gfind G b := by
  induction G with
  | nil => simp [gfind, gdel]
  | cons x r ih =>
    simp only [gfind, gdel, List.filter_cons] at *
    by_cases e : x.1 = a
    · subst e
      simp only [decide_true, Bool.not_true, Bool.false_eq_true, if_false, List.find?_cons]
      rw [ih]
      by_cases e2 : b = x.1
      · rw [if_pos e2, if_pos e2]
      · rw [if_neg e2, if_neg e2]
        have : decide (x.1 = b) = false := by simpa using fun q : x.1 = b => e2 q.symm
        rw [this]
    · simp only [e, decide_false, Bool.not_false, if_true, List.find?_cons]
      by_cases e2 : x.1 = b
      · subst e2
        simp [e]
      · simp only [e2, decide_false]
        exact ih
/-- as a map is -/
structure GOk (G : IMap) (c : Nat) : Prop where
  keys : (G.map (·.1)).Nodup
  borns : (G.map (·.2.2)).Nodup
  lt : ∀ x ∈ G, x.2.2 < c
theorem GOk.of {G : IMap} {c : Nat} (h : Wf (mI G) c) : GOk G c := by
  obtain ⟨h1, h2, h3⟩ := h
  have e1 : (mI G).map (·.1) = G.map (·.1) := by simp [mI]
  have e2 : (mI G).map (·.2.2) = G.map (·.2.2) := by simp [mI]
  rw [e1] at h1
  rw [e2] at h2
  exact ⟨h1, h2, fun x hx => h3 (x.1, .int .i64 x.2.1, x.2.2) (List.mem_map.2 ⟨x, hx, rfl⟩)⟩
theorem GOk.nil : GOk [] 0 := ⟨by simp, by simp, by simp⟩
theorem GOk.put {G : IMap} {c : Nat} (h : GOk G c) {a n : Int} (hn : gfind G a = none) : GOk (gput G a n c) (c + 1) := by
  refine ⟨?_, ?_, fun x hx => ?_⟩
  · rw [gput, List.map_append, List.nodup_append]
    refine ⟨h.keys, by simp, fun b hb d hd e => ?_⟩
    obtain ⟨x, hx, rfl⟩ := List.mem_map.1 hb
    simp at hd
    exact gfind_none hn x hx (e.trans hd)
  · rw [gput, List.map_append, List.nodup_append]
    refine ⟨h.borns, by simp, fun b hb d hd e => ?_⟩
    obtain ⟨x, hx, rfl⟩ := List.mem_map.1 hb
    have := h.lt x hx
    simp at hd; omega
  · rcases List.mem_append.1 hx with hx | hx
    · have := h.lt x hx; omega
    · rw [List.mem_singleton] at hx; subst hx; simp
theorem GOk.del {G : IMap} {c : Nat} (h : GOk G c) (a : Int) : GOk (gdel G a) c :=
  ⟨h.keys.sublist (List.Sublist.map _ List.filter_sublist), h.borns.sublist (List.Sublist.map _ List.filter_sublist), fun x hx => h.lt x (List.mem_filter.1 hx).1⟩
theorem GOk.find {G : IMap} {c : Nat} (h : GOk G c) {x : Int × Int × Nat} (hx : x ∈ G) : gfind G x.1 = some x := by
  have hk := h.keys
  clear h
  induction G with
  | nil => cases hx
  | cons a r ih =>
    simp only [List.map_cons, List.nodup_cons] at hk
    simp only [gfind, List.find?_cons]
    rcases List.mem_cons.1 hx with rfl | hx
    · simp
    · have : a.1 ≠ x.1 := fun e => hk.1 (e ▸ List.mem_map_of_mem hx)
      simp only [this, decide_false]
      exact ih hx hk.2
theorem GOk.born {G : IMap} {c : Nat} (h : GOk G c) {x y : Int × Int × Nat} (hx : x ∈ G) (hy : y ∈ G) (e : x.2.2 = y.2.2) : x = y := by
  have hb := h.borns
  clear h
  induction G with
  | nil => cases hx
  | cons a r ih =>
    simp only [List.map_cons, List.nodup_cons] at hb
    rcases List.mem_cons.1 hx with hx1 | hx1
    · rcases List.mem_cons.1 hy with hy1 | hy1
      · rw [hx1, hy1]
      · refine absurd ?_ hb.1
        rw [← hx1, e]; exact List.mem_map_of_mem hy1
    · rcases List.mem_cons.1 hy with hy1 | hy1
      · refine absurd ?_ hb.1
        rw [← hy1, ← e]; exact List.mem_map_of_mem hx1
      · exact ih hx1 hy1 hb.2
/-- how many have not been seen -/
def unseen (G : IMap) (seen : List Nat) : Nat := (G.filter fun x => decide (x.2.2 ∉ seen)).length
theorem unseen_lt {G : IMap} {seen : List Nat} {x : Int × Int × Nat} (hx : x ∈ G) (hs : x.2.2 ∉ seen) : unseen G (seen ++ [x.2.2]) < unseen G seen := by
  unfold unseen
  induction G with
  | nil => cases hx
  | cons a r ih =>
    have hle : (r.filter fun y => decide (y.2.2 ∉ seen ++ [x.2.2])).length ≤ (r.filter fun y => decide (y.2.2 ∉ seen)).length := by
      rw [← List.countP_eq_length_filter, ← List.countP_eq_length_filter]
      apply List.countP_mono_left
      intro y _ hy
      simp only [decide_eq_true_eq, List.mem_append, not_or] at hy ⊢
      exact hy.1
    simp only [List.filter_cons]
    rcases List.mem_cons.1 hx with rfl | hx
    · rw [if_neg (by simp), if_pos (by simpa using hs), List.length_cons]; omega
    · have := ih hx
      by_cases h1 : a.2.2 ∈ seen
      · rw [if_neg (by simp [h1]), if_neg (by simp [h1])]; exact this
      · by_cases h2 : a.2.2 = x.2.2
        · rw [if_neg (by simp [h2]), if_pos (by simpa using h1), List.length_cons]; omega
        · rw [if_pos (by simp [h1, h2]), if_pos (by simpa using h1), List.length_cons, List.length_cons]; omega

section
variable {P : Program} {n0 : NA} {l : Env} {L : LH}
/-- a map's type: its keys, its elements are whole numbers -/
def imT (P : Program) (mT : TypeId) : Bool := match P.underlying mT with
  | some (.map kt et) => match P.underlying kt, zeroOf P et with
    | some (.int .i64), some (.int .i64 (.ofNat 0)) => true
    | _, _ => false
  | _ => false
theorem imT_ok {mT : TypeId} (h : imT P mT = true) : ∃ kt et, P.underlying mT = some (.map kt et) ∧ P.underlying kt = some (.int .i64) ∧ zeroOf P et = some (.int .i64 0) := by
  unfold imT at h
  split at h
  rotate_left
  · cases h
  rename_i kt et hu
  split at h
  · rename_i h1 h2; exact ⟨kt, et, hu, h1, h2⟩
  · cases h
theorem imap_at {X : Nat → Prop} {w0 w : World} {E : Emb} {l' : Env} {x : Operand} {b c : Nat} {G : IMap} (hR : Rep X w0 E L w) (hl : ER E l l') (hx : lv l x = some (.map (some b))) (hb : L[b]? = some (.imap G c)) :
    ∃ r, E[b]? = some r ∧ ev l' x = some (.map (some r.1)) ∧ Mp (Value.int .i64) w r.1 (mI G) c ∧ Wf (mI G) c := by
  obtain ⟨_, h1, r, h2, rfl⟩ := lv_ev hl hx
  obtain ⟨h3, h4⟩ := hR.blk b _ r hb h2
  exact ⟨r, h2, h1, h3, h4⟩
theorem QY.iget {o : Oper} {mT : TypeId} {x y : Operand} {b c : Nat} {G : IMap} {a n : Int} (ho : o.op = .lookup mT x y false) (ht : imT P mT = true) (hx : lv l x = some (.map (some b))) (hy : lv l y = some (.int .i64 a)) (hb : L[b]? = some (.imap G c)) (hn : gget G a = n) : QY P n0 L l (.raw o) (.int .i64 n) := by
  intro X w0 E0 w E l' _ hE hR hl
  obtain ⟨kt, et, hT, hkt, hz⟩ := imT_ok ht
  obtain ⟨r, h2, h3, h4, _⟩ := imap_at hR hl hx hb
  obtain ⟨_, h6, rfl⟩ := lv_ev hl hy
  obtain ⟨d, op, ty, pos, af, g⟩ := o
  simp only at ho
  subst ho
  refine ⟨_, lookup_Y (ty := ty) hT (keyLaw_int hkt) (zeroOf_ok hz) h3 h6 h4 rfl, ?_⟩
  rw [mfind_mI]
  show _ = _
  subst hn
  unfold gget
  cases gfind G a <;> rfl
theorem QY.igetok {o : Oper} {mT : TypeId} {x y : Operand} {b c : Nat} {G : IMap} {a n : Int} {t : Bool} (ho : o.op = .lookup mT x y true) (ht : imT P mT = true) (hx : lv l x = some (.map (some b))) (hy : lv l y = some (.int .i64 a)) (hb : L[b]? = some (.imap G c)) (hn : gget G a = n) (hh : ghas G a = t) : QY P n0 L l (.raw o) (.tuple ⟨[.int .i64 n, .bool t]⟩) := by
  intro X w0 E0 w E l' _ hE hR hl
  obtain ⟨kt, et, hT, hkt, hz⟩ := imT_ok ht
  obtain ⟨r, h2, h3, h4, _⟩ := imap_at hR hl hx hb
  obtain ⟨_, h6, rfl⟩ := lv_ev hl hy
  obtain ⟨d, op, ty, pos, af, g⟩ := o
  simp only at ho
  subst ho
  refine ⟨_, lookupOk_Y (ty := ty) hT (keyLaw_int hkt) (zeroOf_ok hz) h3 h6 h4 rfl, ?_⟩
  rw [mfind_mI]
  subst hn; subst hh
  refine ⟨_, rfl, ?_, ?_, trivial⟩
  · show _ = _
    unfold gget
    cases gfind G a <;> rfl
  · show _ = _
    unfold ghas
    cases gfind G a <;> rfl
theorem EW.iputN {o : Oper} {mT : TypeId} {x y u : Operand} {b c : Nat} {G : IMap} {a n : Int} (ho : o.op = .mapUpdate mT x y u) (ht : imT P mT = true) (hx : lv l x = some (.map (some b))) (hy : lv l y = some (.int .i64 a)) (hu : lv l u = some (.int .i64 n)) (hb : L[b]? = some (.imap G c)) (hn : gfind G a = none) :
    EW P n0 L l (.raw o) (fun w K => w = undef ∧ K = L.set b (.imap (gput G a n c) (c + 1))) := by
  intro X w0 E0 w E l' Kf h0 hE hR hl hK
  obtain ⟨kt, et, hT, hkt, hz⟩ := imT_ok ht
  obtain ⟨r, h2, h3, h4, h5⟩ := imap_at hR hl hx hb
  obtain ⟨_, h6, rfl⟩ := lv_ev hl hy
  obtain ⟨_, h7, rfl⟩ := lv_ev hl hu
  obtain ⟨d, op, ty, pos, af, g⟩ := o
  simp only at ho
  subst ho
  have hs := mset_none (n := n) (c := c) hn
  have hw := h5.mset (k := a) (.int .i64 n)
  rw [hs] at hw
  refine mapUpdate_W (ty := ty) (k := a) hT (keyLaw_int hkt) h3 h6 h7 h4 h5 (fun w' hM hf hsz => hK w' E _ _ _ ⟨rfl, rfl⟩ (Ext.refl E) (hR.upd hb h2 hf ⟨?_, hw⟩ (fun _ h => .inl h)) VR.undef)
  rw [hs] at hM; exact hM
theorem EW.iputS {o : Oper} {mT : TypeId} {x y u : Operand} {b c : Nat} {G : IMap} {a n : Int} {e : Int × Int × Nat} (ho : o.op = .mapUpdate mT x y u) (ht : imT P mT = true) (hx : lv l x = some (.map (some b))) (hy : lv l y = some (.int .i64 a)) (hu : lv l u = some (.int .i64 n)) (hb : L[b]? = some (.imap G c)) (hn : gfind G a = some e) :
    EW P n0 L l (.raw o) (fun w K => w = undef ∧ K = L.set b (.imap (gset G a n) c)) := by
  intro X w0 E0 w E l' Kf h0 hE hR hl hK
  obtain ⟨kt, et, hT, hkt, hz⟩ := imT_ok ht
  obtain ⟨r, h2, h3, h4, h5⟩ := imap_at hR hl hx hb
  obtain ⟨_, h6, rfl⟩ := lv_ev hl hy
  obtain ⟨_, h7, rfl⟩ := lv_ev hl hu
  obtain ⟨d, op, ty, pos, af, g⟩ := o
  simp only at ho
  subst ho
  have hs := mset_some (n := n) (c := c) hn
  have hw := h5.mset (k := a) (.int .i64 n)
  rw [hs] at hw
  refine mapUpdate_W (ty := ty) (k := a) hT (keyLaw_int hkt) h3 h6 h7 h4 h5 (fun w' hM hf hsz => hK w' E _ _ _ ⟨rfl, rfl⟩ (Ext.refl E) (hR.upd hb h2 hf ⟨?_, hw⟩ (fun _ h => .inl h)) VR.undef)
  rw [hs] at hM; exact hM
theorem EW.idel {o : Oper} {mT kT : TypeId} {x y : Operand} {b c : Nat} {G : IMap} {a : Int} (ho : o.op = .call ⟨.builtin .delete, ⟨[x, y]⟩, ⟨[mT, kT]⟩⟩) (ht : imT P mT = true) (hx : lv l x = some (.map (some b))) (hy : lv l y = some (.int .i64 a)) (hb : L[b]? = some (.imap G c)) :
    EW P n0 L l (.raw o) (fun w K => w = .tuple #[] ∧ K = L.set b (.imap (gdel G a) c)) := by
  intro X w0 E0 w E l' Kf h0 hE hR hl hK
  obtain ⟨kt, et, hT, hkt, hz⟩ := imT_ok ht
  obtain ⟨r, h2, h3, h4, h5⟩ := imap_at hR hl hx hb
  obtain ⟨_, h6, rfl⟩ := lv_ev hl hy
  obtain ⟨d, op, ty, pos, af, g⟩ := o
  simp only at ho
  subst ho
  have hw := Wf.del (k := a) h5
  rw [mdel_mI] at hw
  refine delete_W (ty := ty) (k := a) hT (keyLaw_int hkt) h3 h6 h4 h5 (fun w' hM hf hsz => hK w' E _ _ _ ⟨rfl, rfl⟩ (Ext.refl E) (hR.upd hb h2 hf ⟨?_, hw⟩ (fun _ h => .inl h)) ⟨[], rfl, trivial⟩)
  rw [mdel_mI] at hM; exact hM
theorem EW.imake {o : Oper} {mT : TypeId} (ho : o.op = .makeMap mT none) : EW P n0 L l (.raw o) (fun w K => w = .map (some L.length) ∧ K = L ++ [.imap [] 0]) := by
  intro X w0 E0 w E l' Kf h0 hE hR hl hK
  obtain ⟨d, op, ty, pos, af, g⟩ := o
  simp only at ho
  subst ho
  exact makeMap_W (ty := ty) (mT := mT) (Value.int .i64) (fun w' hM hf hsz => hK w' (E ++ [(w.heap.size, 0, 0)]) _ _ _ ⟨rfl, rfl⟩ (Ext.push E _) (hR.push1 hf rfl hsz (fun _ h => h) ⟨hM, by simp [mI], by simp [mI], by simp [mI]⟩) ⟨_, hR.last _, rfl⟩)
theorem EW.irange {o : Oper} {mT : TypeId} {x : Operand} {b c : Nat} {G : IMap} (ho : o.op = .range mT x) (ht : imT P mT = true) (hx : lv l x = some (.map (some b))) (hb : L[b]? = some (.imap G c)) :
    EW P n0 L l (.raw o) (fun v K => v = .pointer (some ⟨L.length, 0, none⟩) ∧ K = L ++ [.iter (some b) c [] c]) := by
  intro X w0 E0 w E l' Kf h0 hE hR hl hK
  obtain ⟨kt, et, hT, hkt, hz⟩ := imT_ok ht
  obtain ⟨r, h2, h1, h3, h4⟩ := imap_at hR hl hx hb
  obtain ⟨d, op, ty, pos, af, g⟩ := o
  simp only at ho
  subst ho
  intro ρ w1 ha hs
  have h3' : w1.heap[r.1]? = some (.map ((mI G).map (mkE (Value.int .i64))).toArray c) := by rw [hs.heap]; exact h3
  refine Eff.value (v := .pointer (some ⟨w1.heap.size, 0, none⟩)) (w' := w1.alloc (.mapIter (some r.1) c #[] c)) ?_ ⟨w.alloc (.mapIter (some r.1) c #[] c), hs.push _, ?_⟩
  · simp [execOp, Instr.range, ha x _ h1, run_underlying hT, getObj_run (P := P) h3']
  · rw [hs.heap]
    refine hK _ (E ++ [(w.heap.size, 0, 0)]) _ _ _ ⟨rfl, rfl⟩ (Ext.push E _) (hR.push1 (Fr.alloc _ w _) rfl (alloc_size _ _) (fun _ h => h) ⟨rfl, some r.1, ?_, r, Ext.push E _ b r h2, rfl⟩) ⟨_, rfl, rfl, _, hR.last _, by simp⟩
    show (w.heap.push _)[w.heap.size]? = _
    simp
theorem EW.inext {o : Oper} {it : Operand} {b q c : Nat} {seen : List Nat} {G : IMap} (ho : o.op = .next it false) (hit : lv l it = some (.pointer (some ⟨b, 0, none⟩))) (hb : L[b]? = some (.iter (some q) c seen c)) (hq : L[q]? = some (.imap G c)) :
    EW P n0 L l (.raw o) (fun v K => (∃ e ∈ G, e.2.2 ∉ seen ∧ v = .tuple ⟨[.bool true, .int .i64 e.1, .int .i64 e.2.1]⟩ ∧ K = L.set b (.iter (some q) c (seen ++ [e.2.2]) c)) ∨ ((∀ e ∈ G, e.2.2 ∈ seen) ∧ v = .tuple ⟨[.bool false]⟩ ∧ K = L)) := by
  intro X w0 E0 w E l' Kf h0 hE hR hl hK
  obtain ⟨_, h1, a', rfl, _, r, h3, rfl⟩ := lv_ev hl hit
  have h3 : E[b]? = some r := h3
  obtain ⟨hr0, m', h5, q', h6, rfl⟩ := hR.blk b _ r hb h3
  obtain ⟨r1, r2⟩ := r
  simp only at hr0 h5
  subst hr0
  obtain ⟨h7, h8⟩ := hR.blk q _ q' hq h6
  have hG := GOk.of h8
  obtain ⟨d, op, ty, pos, af, g⟩ := o
  simp only at ho
  subst ho
  have hmem : ∀ e ∈ (mI G).map (mkE (Value.int .i64)), ∃ y ∈ G, e = ⟨.int .i64 y.1, .int .i64 y.2.1, y.2.2⟩ := fun e he => by
    obtain ⟨z, hz, rfl⟩ := List.mem_map.1 he
    obtain ⟨y, hy, rfl⟩ := List.mem_map.1 hz
    exact ⟨y, hy, rfl⟩
  have hlt : ∀ e ∈ (mI G).map (mkE (Value.int .i64)), e.born < c := fun e he => by
    obtain ⟨y, hy, rfl⟩ := hmem e he
    exact hG.lt y hy
  intro ρ w1 ha hs
  have h5' := h5
  rw [← hs.heap] at h5'
  have h7' : w1.heap[q'.1]? = some (.map ((mI G).map (mkE (Value.int .i64))).toArray c) := by rw [hs.heap]; exact h7
  have hlb := (Array.getElem?_eq_some_iff.1 h5).1
  rcases next_runM (P := P) (ty := ty) h5' h7' hlt with ⟨h9, hrun⟩ | ⟨e, he, hns, w2, hw2, hrun⟩
  · refine Eff.value (v := .tuple #[.bool false]) (w' := w1) ?_ ⟨w, hs, hK w E _ _ _ (.inr ⟨fun x hx => ?_, rfl, rfl⟩) (Ext.refl E) hR ⟨[.bool false], rfl, rfl, trivial⟩⟩
    · simp only [execOp, ha it _ h1, Sem.run_bind]
      rw [show (0 + 0) = 0 from rfl, hrun]; rfl
    · exact h9 ⟨.int .i64 x.1, .int .i64 x.2.1, x.2.2⟩ (List.mem_map.2 ⟨(x.1, .int .i64 x.2.1, x.2.2), List.mem_map.2 ⟨x, hx, rfl⟩, rfl⟩)
  · obtain ⟨y, hy, rfl⟩ := hmem e he
    have hsim : Sim w2 w := by
      rcases hw2 with rfl | rfl
      · exact hs
      · exact ⟨hs.heap, hs.tape, hs.os, hs.output⟩
    refine Eff.value (v := .tuple #[.bool true, .int .i64 y.1, .int .i64 y.2.1]) ?_ ⟨_, hsim.setObj r1 (.mapIter (some q'.1) c (seen ++ [y.2.2]).toArray c), ?_⟩
    · simp only [execOp, ha it _ h1, Sem.run_bind]
      rw [show (0 + 0) = 0 from rfl, hrun]; rfl
    · refine hK _ E _ _ _ (.inl ⟨y, hy, hns, rfl, rfl⟩) (Ext.refl E) (hR.upd hb h3 (Fr.setObj w r1 _) ⟨rfl, some q'.1, ?_, q', h6, rfl⟩ (fun _ h => .inl h)) ⟨[.bool true, .int .i64 y.1, .int .i64 y.2.1], rfl, rfl, rfl, rfl, trivial⟩
      simp [hlb]
/-- the entry that came last -/
theorem EW.ientry {o : Oper} {it : Operand} {b q c : Nat} {seen : List Nat} {G : IMap} {e : Int × Int × Nat} (ho : o.op = .entry it) (hit : lv l it = some (.pointer (some ⟨b, 0, none⟩))) (hb : L[b]? = some (.iter (some q) c (seen ++ [e.2.2]) c)) (hq : L[q]? = some (.imap G c)) (he : e ∈ G) :
    EW P n0 L l (.raw o) (fun v K => v = .tuple ⟨[.int .i64 e.1, .int .i64 e.2.1]⟩ ∧ K = L) := by
  intro X w0 E0 w E l' Kf h0 hE hR hl hK
  obtain ⟨_, h1, a', rfl, _, r, h3, rfl⟩ := lv_ev hl hit
  have h3 : E[b]? = some r := h3
  obtain ⟨hr0, m', h5, q', h6, rfl⟩ := hR.blk b _ r hb h3
  obtain ⟨r1, r2⟩ := r
  simp only at hr0 h5
  subst hr0
  obtain ⟨h7, h8⟩ := hR.blk q _ q' hq h6
  have hG := GOk.of h8
  obtain ⟨d, op, ty, pos, af, g⟩ := o
  simp only at ho
  subst ho
  intro ρ w1 ha hs
  have h5' := h5
  rw [← hs.heap] at h5'
  have h7' : w1.heap[q'.1]? = some (.map ((mI G).map (mkE (Value.int .i64))).toArray c) := by rw [hs.heap]; exact h7
  have hg1 := getObjI_run (P := P) h5' (fun _ _ _ h => by cases h)
  have hg2 := getObjI_run (P := P) h7' (fun _ _ _ h => by cases h)
  have hbk : (seen ++ [e.2.2]).toArray.back? = some e.2.2 := by rw [List.back?_toArray, List.getLast?_append, List.getLast?_singleton]; rfl
  have hfd : ((mI G).map (mkE (Value.int .i64))).toArray.find? (fun x => x.born == e.2.2) = some ⟨.int .i64 e.1, .int .i64 e.2.1, e.2.2⟩ := by
    rw [List.find?_toArray]
    have hbn := hG.borns
    clear hG h7 h7' h8 hg2 hq h5 h5' hg1 hb hbk
    induction G with
    | nil => cases he
    | cons a t ih =>
      simp only [List.map_cons, List.nodup_cons] at hbn
      simp only [mI, List.map_cons, List.find?_cons, mkE]
      rcases List.mem_cons.1 he with rfl | he
      · simp
      · have hne : (a.2.2 == e.2.2) = false := by
          rw [beq_eq_false_iff_ne]
          intro q; exact hbn.1 (q ▸ List.mem_map_of_mem he)
        rw [hne]
        exact ih he hbn.2
  refine Eff.value (v := .tuple #[.int .i64 e.1, .int .i64 e.2.1]) (w' := w1) ?_ ⟨w, hs, hK w E _ _ _ ⟨rfl, rfl⟩ (Ext.refl E) hR ⟨_, rfl, rfl, rfl, trivial⟩⟩
  simp [execOp, ha it _ h1, Instr.entry, hg1, hg2, hbk, hfd]
/-- a truth that is known -/
theorem QY.tt {q : QOp} {t u : Bool} (h : QY P n0 L l q (.bool t)) (e : t = u) : QY P n0 L l q (.bool u) := by rwa [e] at h
end
end Go.Tum
