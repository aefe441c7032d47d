/-
  Memory: a block known whole; what is kept outside of some blocks; slices that own their block.
-/
import Derived.Test.YtnleiiniajinbaaWalk
namespace Go.Tum
open Go

/-- block b is a row of the cells cs, none of them frozen -/
def Blk (w : World) (b : Nat) (cs : List Value) : Prop := ∃ t, w.heap[b]? = some (.cells cs.toArray t (0, 0))

/-- outside of the blocks in F nothing that was there has changed -/
structure Fr (F : Nat → Prop) (w w' : World) : Prop where
  size : w.heap.size ≤ w'.heap.size
  keep : ∀ b, b < w.heap.size → ¬ F b → w'.heap[b]? = w.heap[b]?
  os : w'.os = w.os
  tape : w'.tape = w.tape
  output : w'.output = w.output

theorem Fr.refl (F : Nat → Prop) (w : World) : Fr F w w := ⟨Nat.le_refl _, fun _ _ _ => rfl, rfl, rfl, rfl⟩
theorem Fr.trans {F G : Nat → Prop} {w w1 w2 : World} (h : Fr F w w1) (k : Fr G w1 w2) (hg : ∀ b, b < w.heap.size → G b → F b) : Fr F w w2 :=
  ⟨Nat.le_trans h.size k.size, fun b hb hf => (k.keep b (Nat.lt_of_lt_of_le hb h.size) fun g => hf (hg b hb g)).trans (h.keep b hb hf), k.os.trans h.os, k.tape.trans h.tape, k.output.trans h.output⟩
theorem Fr.mono {F G : Nat → Prop} {w w' : World} (h : Fr F w w') (hg : ∀ b, b < w.heap.size → F b → G b) : Fr G w w' :=
  ⟨h.size, fun b hb hn => h.keep b hb fun f => hn (hg b hb f), h.os, h.tape, h.output⟩
theorem Fr.alloc (F : Nat → Prop) (w : World) (o : Obj) : Fr F w (w.alloc o) :=
  ⟨by show _ ≤ (w.heap.push o).size; simp, fun b hb _ => by show (w.heap.push o)[b]? = _; rw [Array.getElem?_push, if_neg (by omega)], rfl, rfl, rfl⟩
theorem Fr.setCell (w : World) (p : Addr) (v : Value) : Fr (· = p.block) w (w.setCell p v) :=
  ⟨by simp [World.setCell], fun b _ hn => by simp only [World.setCell, Array.getElem?_modify]; rw [if_neg fun e => hn e.symm], rfl, rfl, rfl⟩
theorem Fr.setObj (w : World) (r : Nat) (o : Obj) : Fr (· = r) w { w with heap := w.heap.setIfInBounds r o } :=
  ⟨by simp, fun b _ hn => by simp only [Array.getElem?_setIfInBounds]; rw [if_neg fun e => hn e.symm], rfl, rfl, rfl⟩
theorem Fr.blk {F : Nat → Prop} {w w' : World} (h : Fr F w w') {b : Nat} {cs : List Value} (hb : Blk w b cs) (hn : ¬ F b) : Blk w' b cs := by
  obtain ⟨t, ht⟩ := hb
  exact ⟨t, by rw [h.keep b (Array.getElem?_eq_some_iff.1 ht).1 hn, ht]⟩
theorem Fr.below {F : Nat → Prop} {w w' : World} {B : Nat} (h : Fr F w w') (hB : B ≤ w.heap.size) (hf : ∀ b, F b → B ≤ b) : RowKit.Below B w w' :=
  ⟨h.os, h.tape, h.output, h.size, fun k hk => h.keep k (by omega) fun f => by have := hf k f; omega⟩

theorem Blk.lt {w : World} {b : Nat} {cs : List Value} (h : Blk w b cs) : b < w.heap.size := by
  obtain ⟨t, ht⟩ := h; exact (Array.getElem?_eq_some_iff.1 ht).1
theorem Blk.cell {w : World} {b o : Nat} {cs : List Value} {v : Value} (h : Blk w b cs) (hv : cs[o]? = some v) : w.cell? ⟨b, o, none⟩ = some v := by
  obtain ⟨t, ht⟩ := h
  simp only [World.cell?, ht]
  simpa using hv
theorem Blk.cellEq {w : World} {b : Nat} {cs : List Value} (h : Blk w b cs) (o : Nat) : w.cell? ⟨b, o, none⟩ = cs[o]? := by
  obtain ⟨t, ht⟩ := h
  simp only [World.cell?, ht]
  simp
theorem Blk.some {w : World} {b o : Nat} {cs : List Value} (h : Blk w b cs) (ho : o < cs.length) : (w.cell? ⟨b, o, none⟩).isSome = true := by
  rw [h.cellEq]; simp [ho]
theorem Blk.frozen {w : World} {b : Nat} {cs : List Value} (h : Blk w b cs) (o : Nat) : w.frozen? ⟨b, o, none⟩ = false := by
  obtain ⟨t, ht⟩ := h
  simp [World.frozen?, ht]
theorem Blk.set {w : World} {b : Nat} {cs : List Value} (h : Blk w b cs) (o : Nat) (v : Value) : Blk (w.setCell ⟨b, o, none⟩ v) b (cs.set o v) := by
  obtain ⟨t, ht⟩ := h
  refine ⟨t, ?_⟩
  simp only [World.setCell, Array.getElem?_modify, ht]
  simp
theorem Blk.new (w : World) (cs : List Value) (t : TypeId) : Blk (w.alloc (.cells cs.toArray t)) w.heap.size cs := ⟨t, by show (w.heap.push _)[w.heap.size]? = _; simp⟩
theorem Blk.newA (w : World) (cs : Array Value) (t : TypeId) : Blk (w.alloc (.cells cs t)) w.heap.size cs.toList := ⟨t, by show (w.heap.push _)[w.heap.size]? = _; simp⟩
theorem Blk.eq {w : World} {b : Nat} {cs ds : List Value} (h : Blk w b cs) (k : Blk w b ds) : cs = ds := by
  obtain ⟨t, ht⟩ := h
  obtain ⟨u, hu⟩ := k
  rw [ht] at hu
  simp only [Option.some.injEq, Obj.cells.injEq] at hu
  simpa using congrArg Array.toList hu.1
theorem Blk.sim {w w0 : World} {b : Nat} {cs : List Value} (h : Blk w b cs) (hs : Sim w0 w) : Blk w0 b cs := by
  obtain ⟨t, ht⟩ := h; exact ⟨t, by rw [hs.heap]; exact ht⟩

/-- vs written over cs from k on -/
def splice (cs : List Value) (k : Nat) (vs : List Value) : List Value := cs.take k ++ vs ++ cs.drop (k + vs.length)

theorem splice_nil (cs : List Value) (k : Nat) : splice cs k [] = cs := by simp [splice]
theorem splice_length {cs : List Value} {k : Nat} {vs : List Value} (h : k + vs.length ≤ cs.length) : (splice cs k vs).length = cs.length := by
  simp [splice]; omega
theorem splice_cons {cs : List Value} {k : Nat} {v : Value} {vs : List Value} (h : k < cs.length) : splice (cs.set k v) (k + 1) vs = splice cs k (v :: vs) := by
  simp only [splice, List.length_cons]
  have e1 : (cs.set k v).take (k + 1) = cs.take k ++ [v] := by
    rw [List.take_add_one]
    simp [List.take_set_of_le, h]
  have e2 : (cs.set k v).drop (k + 1 + vs.length) = cs.drop (k + (vs.length + 1)) := by
    rw [List.drop_set_of_lt (by omega)]
    congr 1
    omega
  rw [e1, e2]
  simp

theorem putCells_blk {b o : Nat} : ∀ (vs : List Value) (i : Nat) (w : World) (cs : List Value), Blk w b cs → o + i + vs.length ≤ cs.length → Blk (putCells w ⟨b, o, none⟩ i vs) b (splice cs (o + i) vs) := by
  intro vs
  induction vs with
  | nil => intro i w cs h _; rw [splice_nil]; exact h
  | cons v r ih =>
    intro i w cs h hl
    simp only [putCells, add_none]
    simp only [List.length_cons] at hl
    have := ih (i + 1) _ _ (h.set (o + i) v) (by simp; omega)
    rw [show o + (i + 1) = o + i + 1 by omega, splice_cons (by omega)] at this
    exact this

theorem putCells_fr {p : Addr} : ∀ (vs : List Value) (i : Nat) (w : World), Fr (· = p.block) w (putCells w p i vs) := by
  intro vs
  induction vs with
  | nil => intro i w; exact Fr.refl _ w
  | cons v r ih =>
    intro i w
    have hp : (p.add i).block = p.block := by unfold Addr.add; split <;> rfl
    have h1 := Fr.setCell w (p.add i) v
    rw [hp] at h1
    exact h1.trans (ih (i + 1) _) fun b _ h => h

theorem loadCells_blk {P : Program} {w : World} {b o n : Nat} {cs : List Value} (h : Blk w b cs) (hn : o + n ≤ cs.length) : (loadCells ⟨b, o, none⟩ n).run P w = .ok ((cs.drop o).take n).toArray w := by
  refine loadCells_run n 0 #[] _ (by simp; omega) (fun j _ hj => ?_) (by simp)
  rw [add_none, h.cellEq]
  simp [show j < n by omega]

theorem storeCells_blk {P : Program} {w : World} {b o : Nat} {cs vs : List Value} (h : Blk w b cs) (hn : o + vs.length ≤ cs.length) (hv : ∀ u ∈ vs, one u = true) :
    (storeCells ⟨b, o, none⟩ vs).run P w = .ok () (putCells w ⟨b, o, none⟩ 0 vs) := by
  refine storeCells_run _ vs 0 w hv fun j hj => ?_
  rw [add_none, Nat.zero_add]
  exact ⟨h.some (by omega), h.frozen _⟩

end Go.Tum
