/-
  The operations that change the world, or call.
-/
import Derived.Test.YtnleiiniajinbaaOpsSound
namespace Go.Tum
open Go

/-- the value of one cell -/
def one : Value → Bool
  | .agg _ => false
  | .tuple _ => false
  | _ => true

theorem cell_setCell_isSome (w : World) (p : Addr) (v : Value) (q : Addr) (h : (w.cell? q).isSome = true) : ((w.setCell p v).cell? q).isSome = true := by
  unfold World.cell? World.setCell at *
  simp only [Array.getElem?_modify]
  by_cases e : p.block = q.block
  · rw [if_pos e]
    cases hb : w.heap[q.block]? with
    | none => rw [hb] at h; simp at h
    | some o =>
      rw [hb] at h
      cases o <;> simp only [Option.map_some] at * <;> first | (simp at h; done) | skip
      rename_i c t f
      cases hq : q.spot with
      | some s => rw [hq] at h; simp at h
      | none =>
        rw [hq] at h
        simp only [Option.isSome_none, Bool.false_eq_true, if_false] at *
        cases hp : p.spot with
        | some s => simpa [hp] using h
        | none => simpa [hp] using h
  · rw [if_neg e]; exact h

inductive EOp where
  | st (x v : Operand)
  | stn (x v : Operand) (n : Nat)
  | new (t : TypeId) (zero : List Value)
  | box (t : TypeId) (x : Operand)
  | bs0 (e : TypeId)
  | bs1 (e : TypeId) (n : Nat) (x : Operand)
  | call (f : FuncId) (args : List Operand)
  | callv (x : Operand) (args : List Operand)
  | raw (o : Oper)

def putCells (w : World) (p : Addr) : Nat → List Value → World
  | _, [] => w
  | i, v :: r => putCells (w.setCell (p.add i) v) p (i + 1) r

theorem putCells_sim {w0 w : World} (h : Sim w0 w) (p : Addr) : ∀ (vs : List Value) (i : Nat), Sim (putCells w0 p i vs) (putCells w p i vs) := by
  intro vs
  induction vs generalizing w0 w with
  | nil => intro i; exact h
  | cons v r ih => intro i; exact ih (h.setCell _ _) (i + 1)

/-- the function has a text of its own -/
def callable (P : Program) (f : FuncId) : Bool :=
  match P.funcs[f]? with
  | some fn => fn.body.isSome && fn.name != "runtime.NumGoroutine"
  | none => false

def EOp.W (P : Program) (e : EOp) (K : Value → World → Prop) (l : Env) (w : World) : Prop :=
  match e with
  | .st x v => ∃ p u, ev l x = some (.pointer (some p)) ∧ ev l v = some u ∧ one u = true ∧ (w.cell? p).isSome = true ∧ w.frozen? p = false ∧ K undef (w.setCell p u)
  | .stn x v n => ∃ p vs, ev l x = some (.pointer (some p)) ∧ ev l v = some (.agg vs) ∧ vs.size = n ∧ (∀ u ∈ vs.toList, one u = true) ∧
      (∀ i, i < n → (w.cell? (p.add i)).isSome = true ∧ w.frozen? (p.add i) = false) ∧ K undef (putCells w p 0 vs.toList)
  | .new t zero => K (.pointer (some ⟨w.heap.size, 0, none⟩)) (w.alloc (.cells zero.toArray t))
  | .box t x => ∃ u, ev l x = some u ∧ K (.pointer (some ⟨w.heap.size, 0, none⟩)) (w.alloc (.cells u.cells t))
  | .bs0 e => K (.slice (some ⟨w.heap.size, 0, none⟩) 0 0) (w.alloc (.cells #[] e))
  | .bs1 e n x => ∃ u, ev l x = some u ∧ u.cells.size = n ∧ K (.slice (some ⟨w.heap.size, 0, none⟩) 1 1) (w.alloc (.cells u.cells e))
  | .call f args => ∃ vs, evs l args = some vs ∧ Does P f vs.toArray w K
  | .callv x args => ∃ f a c vs, ev l x = some (.func (.func f) a c) ∧ evs l args = some vs ∧ callable P f = true ∧ Does P f (a ++ vs.toArray ++ c) w K
  | .raw o => ∀ ρ w0, Agr l ρ → Sim w0 w → Eff P (execOp ρ o) w0 fun v w' => ∃ w1, Sim w' w1 ∧ K v w1

def compE (P : Program) (o : Oper) : Option EOp :=
  match o.op with
  | .store t x v => match P.info? t with
    | some i => if scalarT P t then (if i.size = 1 then some (.st x v) else none) else match aggT P t with
      | some n => some (.stn x v n)
      | none => none
    | none => none
  | .alloc t => match P.info? t with
    | some i => match i.zero with
      | some z => some (.new t z.cells.toList)
      | none => none
    | none => none
  | .box t x => some (.box t x)
  | .buildSlice t n parts => match P.underlying t with
    | some (.slice e) => match P.info? e with
      | some ie => match n, parts.toList with
        | 0, [] => some (.bs0 e)
        | 1, [(0, x)] => match ie.zero with
          | some z => if z.cells.size = ie.size ∧ ie.size ≤ 2 ^ 24 ∧ 0 < ie.size then some (.bs1 e ie.size x) else some (.raw (strip o))
          | none => some (.raw (strip o))
        | _, _ => some (.raw (strip o))
      | none => none
    | _ => none
  | .call { callee := .value (.tmp t), args, .. } => some (.callv (.tmp t) args.toList)
  | .call { callee := .value (.func f), args, .. } => match P.funcs[f]? with
    | some fn => if fn.body.isSome && fn.name != "runtime.NumGoroutine" then some (.call f args.toList) else some (.raw (strip o))
    | none => none
  | _ => some (.raw (strip o))

section
variable {P : Program} {l : Env} {w w0 : World} {ρ : Operand → Value} {d : Option Tmp} {ty : TypeId} {pos : String} {af : Array Edge} {g : Option (Nat × Bool)} {K : Value → World → Prop}

theorem store_run {p : Addr} {v : Value} (hv : one v = true) (h3 : (w.cell? p).isSome = true) (h4 : w.frozen? p = false) : (store p v).run P w = .ok () (w.setCell p v) := by
  obtain ⟨u, hu⟩ := Option.isSome_iff_exists.1 h3
  cases v <;> first | (simp [one] at hv; done) | simp [store, Sem.run, hu, h4]

theorem storeCells_run (p : Addr) : ∀ (vs : List Value) (i : Nat) (w : World), (∀ u ∈ vs, one u = true) → (∀ j, j < vs.length → (w.cell? (p.add (i + j))).isSome = true ∧ w.frozen? (p.add (i + j)) = false) →
    (storeCells p vs i).run P w = .ok () (putCells w p i vs) := by
  intro vs
  induction vs with
  | nil => intro i w _ _; simp [storeCells, putCells, go_sem]
  | cons v r ih =>
    intro i w h1 h2
    have hv : one v = true := h1 v (by simp)
    obtain ⟨h3, h4⟩ := h2 0 (by simp)
    simp only [Nat.add_zero] at h3 h4
    have step : (store (p.add i) v).run P w = .ok () (w.setCell (p.add i) v) := store_run hv h3 h4
    have := ih (i + 1) (w.setCell (p.add i) v) (fun u hu => h1 u (by simp [hu])) (fun j hj => by
      obtain ⟨h5, h6⟩ := h2 (j + 1) (by simp; omega)
      rw [show i + 1 + j = i + (j + 1) by omega]
      constructor
      · exact cell_setCell_isSome _ _ _ _ h5
      · rw [World.frozen?_setCell]; exact h6)
    simp only [storeCells, putCells]
    simp [step, this, go_sem]

theorem one_cells {u : Value} (h : one u = true) : u.cells = #[u] := by
  cases u <;> first | rfl | (simp [one] at h)

theorem st_sound {t : TypeId} {i : TypeInfo} {x v : Operand} (hi : P.info? t = some i) (h1 : i.size = 1) (hw : (EOp.st x v).W P K l w) (ha : Agr l ρ) (hs : Sim w0 w) :
    Eff P (execOp ρ ⟨d, .store t x v, ty, pos, af, g⟩) w0 fun v w' => ∃ w1, Sim w' w1 ∧ K v w1 := by
  obtain ⟨p, u, hx, hv, h3, h4, h5, h6⟩ := hw
  have := @store_run P w0 p u h3 (by rw [hs.cell]; exact h4) (by rw [hs.frozen]; exact h5)
  refine Eff.skip (w' := w0.setCell p u) ?_ ⟨_, hs.setCell p u, h6⟩
  simp only [execOp, ha x _ hx, ha v _ hv, Instr.storeAt, Instr.sureAddr, storeVar, one_cells h3]
  simp [sizeOf_run hi, h1, this, storeCells, Addr.add, go_sem]

theorem stn_sound {t : TypeId} {n : Nat} {x v : Operand} (hn : aggT P t = some n) (hw : (EOp.stn x v n).W P K l w) (ha : Agr l ρ) (hs : Sim w0 w) :
    Eff P (execOp ρ ⟨d, .store t x v, ty, pos, af, g⟩) w0 fun v w' => ∃ w1, Sim w' w1 ∧ K v w1 := by
  obtain ⟨p, vs, hx, hv, h3, h4, h5, h6⟩ := hw
  have := @storeCells_run P p vs.toList 0 w0 h4 (fun j hj => by
    rw [hs.cell, hs.frozen, Nat.zero_add]
    exact h5 j (by simp at hj; omega))
  refine Eff.skip (w' := putCells w0 p 0 vs.toList) ?_ ⟨_, putCells_sim hs p _ 0, h6⟩
  simp only [execOp, ha x _ hx, ha v _ hv, Instr.storeAt, Instr.sureAddr, storeVar, Value.cells]
  simp [(isAgg_true hn).2, h3, this, go_sem]

theorem new_sound {t : TypeId} {i : TypeInfo} {z : Value} (hi : P.info? t = some i) (hz : i.zero = some z) (hw : (EOp.new t z.cells.toList).W P K l w) (hs : Sim w0 w) :
    Eff P (execOp ρ ⟨d, .alloc t, ty, pos, af, g⟩) w0 fun v w' => ∃ w1, Sim w' w1 ∧ K v w1 := by
  refine Eff.value (w' := w0.alloc (.cells z.cells t)) (v := .pointer (some ⟨w0.heap.size, 0, none⟩)) ?_ ?_
  · have hzv : (zeroValue t).run P w0 = .ok z w0 := by simp [zeroValue, typeInfo_run hi, hz, go_sem]
    simp only [execOp, Instr.alloc]
    simp [hzv, newVar, newRow, go_sem]
  · refine ⟨_, hs.push _, ?_⟩
    rw [hs.heap]
    simpa [EOp.W] using hw

theorem box_sound {t : TypeId} {x : Operand} (hw : (EOp.box t x).W P K l w) (ha : Agr l ρ) (hs : Sim w0 w) :
    Eff P (execOp ρ ⟨d, .box t x, ty, pos, af, g⟩) w0 fun v w' => ∃ w1, Sim w' w1 ∧ K v w1 := by
  obtain ⟨u, hx, h⟩ := hw
  refine Eff.value (w' := w0.alloc (.cells u.cells t)) (v := .pointer (some ⟨w0.heap.size, 0, none⟩)) ?_ ?_
  · simp only [execOp, Instr.box, ha x _ hx]
    simp [newVar, newRow, go_sem]
  · refine ⟨_, hs.push _, ?_⟩
    rw [hs.heap]
    exact h

theorem call_sound {f : FuncId} {fn : Func} {args : Array Operand} {ats : Array TypeId} (hf : P.funcs[f]? = some fn) (hb : (fn.body.isSome && fn.name != "runtime.NumGoroutine") = true)
    (hw : (EOp.call f args.toList).W P K l w) (ha : Agr l ρ) (hs : Sim w0 w) :
    Eff P (execOp ρ ⟨d, .call ⟨.value (.func f), args, ats⟩, ty, pos, af, g⟩) w0 fun v w' => ∃ w1, Sim w' w1 ∧ K v w1 := by
  obtain ⟨vs, hv, h⟩ := hw
  have hm : args.map ρ = vs.toArray := by
    apply Array.ext'
    rw [Array.toList_map]
    exact evs_map hv ha
  have hff : ρ (.func f) = .func (.func f) #[] #[] := ha _ _ rfl
  simp only [Bool.and_eq_true, bne_iff_ne, ne_eq] at hb
  obtain ⟨hb1, hb2⟩ := hb
  have hr : (execOp ρ ⟨d, .call ⟨.value (.func f), args, ats⟩, ty, pos, af, g⟩).run P w0 = .ok (.enter f vs.toArray) w0 := by
    obtain ⟨c, hc⟩ := Option.isSome_iff_exists.1 hb1
    simp only [execOp, resolve, hm, hff]
    simp [Deferred.ofValue, invoke, callFunc, hf, hb2, hc, go_sem]
  unfold Eff
  rw [hr]
  exact (h w0 hs).mono fun e w' ⟨w1, h1, v, h2, h3⟩ => ⟨v, h2, w1, h1, h3⟩

theorem callv_sound {x : Operand} {args : Array Operand} {ats : Array TypeId} (hw : (EOp.callv x args.toList).W P K l w) (ha : Agr l ρ) (hs : Sim w0 w) :
    Eff P (execOp ρ ⟨d, .call ⟨.value x, args, ats⟩, ty, pos, af, g⟩) w0 fun v w' => ∃ w1, Sim w' w1 ∧ K v w1 := by
  obtain ⟨f, a, c, vs, hx, hv, hb, h⟩ := hw
  have hm : args.map ρ = vs.toArray := by
    apply Array.ext'
    rw [Array.toList_map]
    exact evs_map hv ha
  unfold callable at hb
  split at hb
  · rename_i fn hf
    simp only [Bool.and_eq_true, bne_iff_ne, ne_eq] at hb
    obtain ⟨hb1, hb2⟩ := hb
    have hr : (execOp ρ ⟨d, .call ⟨.value x, args, ats⟩, ty, pos, af, g⟩).run P w0 = .ok (.enter f (a ++ vs.toArray ++ c)) w0 := by
      obtain ⟨cd, hc⟩ := Option.isSome_iff_exists.1 hb1
      simp only [execOp, resolve, hm, ha x _ hx]
      simp [Deferred.ofValue, invoke, callFunc, hf, hb2, hc, go_sem]
    unfold Eff
    rw [hr]
    exact (h w0 hs).mono fun e w' ⟨w1, h1, v, h2, h3⟩ => ⟨v, h2, w1, h1, h3⟩
  · cases hb

theorem bs0_sound {t e : TypeId} {ie : TypeInfo} {parts : Array (Nat × Operand)} (ht : P.underlying t = some (.slice e)) (he : P.info? e = some ie) (hp : parts.toList = []) (hw : (EOp.bs0 e).W P K l w) (hs : Sim w0 w) :
    Eff P (execOp ρ ⟨d, .buildSlice t 0 parts, ty, pos, af, g⟩) w0 fun v w' => ∃ w1, Sim w' w1 ∧ K v w1 := by
  obtain rfl : parts = #[] := by simpa using hp
  refine Eff.value (w' := w0.alloc (.cells #[] e)) (v := .slice (some ⟨w0.heap.size, 0, none⟩) 0 0) ?_ ?_
  · simp only [execOp, Instr.buildSlice]
    simp [run_underlying ht, sizeOf_run he, newRow, Instr.fill, go_sem]
  · refine ⟨_, hs.push _, ?_⟩
    rw [hs.heap]
    exact hw

theorem bs1_sound {t e : TypeId} {ie : TypeInfo} {z : Value} {x : Operand} {parts : Array (Nat × Operand)} (ht : P.underlying t = some (.slice e)) (he : P.info? e = some ie) (hz : ie.zero = some z) (hp : parts.toList = [(0, x)])
    (h3 : z.cells.size = ie.size ∧ ie.size ≤ 2 ^ 24 ∧ 0 < ie.size) (hw : (EOp.bs1 e ie.size x).W P K l w) (ha : Agr l ρ) (hs : Sim w0 w) :
    Eff P (execOp ρ ⟨d, .buildSlice t 1 parts, ty, pos, af, g⟩) w0 fun v w' => ∃ w1, Sim w' w1 ∧ K v w1 := by
  obtain rfl : parts = #[(0, x)] := by simpa using congrArg List.toArray hp
  obtain ⟨u, hx, hu, h⟩ := hw
  obtain ⟨_, hle, hpos⟩ := h3
  refine Eff.value (w' := w0.alloc (.cells u.cells e)) (v := .slice (some ⟨w0.heap.size, 0, none⟩) 1 1) ?_ ?_
  · have hzv : (zeroValue e).run P w0 = .ok z w0 := by simp [zeroValue, typeInfo_run he, hz, go_sem]
    have hfill : ∀ A : Array Value, A.size = ie.size → Instr.fill (fun i => some (i * ie.size, ie.size)) A [(0, u)] = some u.cells := by
      intro A hA
      simp only [Instr.fill, hu, hA, Nat.zero_mul, Nat.zero_add]
      rw [if_neg (by simp)]
      simp only [Option.some.injEq]
      apply Array.ext_getElem?
      intro i
      have := fill_fold 0 u.cells.toList 0 A i
      rw [← Array.foldl_toList, Array.toList_zipIdx]
      simp only [Nat.zero_add] at this ⊢
      rw [this]
      by_cases hi : i < u.cells.size
      · rw [if_pos ⟨by omega, by simpa using hi, by omega⟩]; simp
      · rw [if_neg (by simp; omega), Array.getElem?_eq_none (by omega), Array.getElem?_eq_none (by omega)]
    have hne : ie.size ≠ 0 := by omega
    have hb : (Instr.buildSlice t 1 #[(0, u)]).run P w0 = .ok (.slice (some ⟨w0.heap.size, 0, none⟩) 1 1) (w0.alloc (.cells u.cells e)) := by
      unfold Instr.buildSlice
      simp only [Sem.run_bind, run_underlying ht, Result.andThen_ok, sizeOf_run he, Nat.one_mul, if_neg (show ¬ (ie.size > 2 ^ 24) by omega), Sem.run_pure, if_neg hne, hzv]
      rw [hfill _ (by simp)]
      rfl
    have hm : (#[(0, x)] : Array (Nat × Operand)).map (fun (y : Nat × Operand) => (y.1, ρ y.2)) = #[(0, u)] := by simp [ha x _ hx]
    show Sem.run P (do let r ← Instr.buildSlice t 1 ((#[(0, x)] : Array (Nat × Operand)).map (fun (y : Nat × Operand) => (y.1, ρ y.2))); pure (Next.value r)) w0 = _
    rw [hm, Sem.run_bind, hb]
    rfl
  · refine ⟨_, hs.push _, ?_⟩
    rw [hs.heap]
    exact h

theorem rawE_sound {o : Oper} (hw : (EOp.raw o).W P K l w) (ha : Agr l ρ) (hs : Sim w0 w) : Eff P (execOp ρ o) w0 fun v w' => ∃ w1, Sim w' w1 ∧ K v w1 := hw ρ w0 ha hs

theorem compE_sound {o : Oper} {e : EOp} (hc : compE P o = some e) (hw : e.W P K l w) (ha : Agr l ρ) (hs : Sim w0 w) : Eff P (execOp ρ o) w0 fun v w' => ∃ w1, Sim w' w1 ∧ K v w1 := by
  obtain ⟨d, op, ty, pos, af, g⟩ := o
  have raw : ∀ {o' : Oper}, some (EOp.raw (strip o')) = some e → Eff P (execOp ρ o') w0 fun v w' => ∃ w1, Sim w' w1 ∧ K v w1 := by
    intro o' h
    cases h
    exact rawE_sound hw ha hs
  cases op <;> simp only [compE] at hc
  case store t x v =>
    split at hc
    · rename_i i hi
      split at hc
      · split at hc
        · rename_i h1; cases hc; exact st_sound hi h1 hw ha hs
        · cases hc
      · split at hc
        · rename_i n hn; cases hc; exact stn_sound hn hw ha hs
        · cases hc
    · cases hc
  case alloc t =>
    split at hc
    · rename_i i hi
      split at hc
      · rename_i z hz; cases hc; exact new_sound hi hz hw hs
      · cases hc
    · cases hc
  case box t x => cases hc; exact box_sound hw ha hs
  case buildSlice t n parts =>
    split at hc
    · rename_i e' ht
      split at hc
      · rename_i ie he
        split at hc
        · rename_i hp; cases hc; exact bs0_sound ht he hp hw hs
        · rename_i x hp
          split at hc
          · rename_i z hz
            split at hc
            · rename_i h3; cases hc; exact bs1_sound ht he hz hp h3 hw ha hs
            · exact raw hc
          · exact raw hc
        · exact raw hc
      · cases hc
    · cases hc
  case call c =>
    obtain ⟨callee, args, ats⟩ := c
    cases callee with
    | value f =>
      cases f with
      | func f =>
        simp only at hc
        split at hc
        · rename_i fn hf
          split at hc
          · rename_i hb; cases hc; exact call_sound hf hb hw ha hs
          · exact raw hc
        · cases hc
      | tmp t => cases hc; exact callv_sound hw ha hs
      | const c => exact raw hc
      | global c => exact raw hc
    | builtin b => exact raw hc
    | invoke r m => exact raw hc
  all_goals exact raw hc
end
end Go.Tum
