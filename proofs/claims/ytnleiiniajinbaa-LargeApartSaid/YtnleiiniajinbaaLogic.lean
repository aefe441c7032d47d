/-
  A small logic over the model's 'Code.wp': environments are lists of the live slots, worlds are taken up to draws, a region is walked in one order that a program of this text chooses and checks.
  Own work for this set; no statement of the seed is in it.
-/
import Derived.OrdersHeld
import Derived.Tactics
import Derived.KernelRfl
namespace Go.Tum

/-! ### environments -/
abbrev Env := List (Nat × Value)

def eget : Env → Nat → Option Value
  | [], _ => none
  | (k, v) :: r, t => bif Nat.beq k t then some v else eget r t

def ev (l : Env) : Operand → Option Value
  | .tmp t => eget l t
  | .const v => some v
  | .global g => some (.pointer (some ⟨g, 0, none⟩))
  | .func f => some (.func (.func f) #[] #[])

structure At (N : Nat) (l : Env) (a : Act) : Prop where
  defers : a.defers = []
  size : a.tmps.size = N
  get : ∀ t v, eget l t = some v → a.tmps.getD t undef = v

/-- what an evaluation agrees with -/
def Agr (l : Env) (ρ : Operand → Value) : Prop := ∀ x v, ev l x = some v → ρ x = v

theorem At.agr {N : Nat} {l : Env} {a : Act} (h : At N l a) : Agr l a.eval := by
  intro x v hx
  cases x with
  | tmp t => exact h.get t v hx
  | const u => simpa [ev, Act.eval] using hx
  | global g => simpa [ev, Act.eval] using hx
  | func f => simpa [ev, Act.eval] using hx

theorem eget_cons (k : Nat) (v : Value) (r : Env) (t : Nat) : eget ((k, v) :: r) t = if k = t then some v else eget r t := by
  simp only [eget]
  by_cases h : k = t
  · subst h; simp
  · rw [if_neg h]
    cases hb : Nat.beq k t
    · rfl
    · exact absurd (Nat.eq_of_beq_eq_true hb) h

theorem At.put {N : Nat} {l : Env} {a : Act} (h : At N l a) {d : Nat} (hd : d < N) (v : Value) : At N ((d, v) :: l) (a.put (some d) v) := by
  refine ⟨h.defers, by simp [Act.put, h.size], fun t u ht => ?_⟩
  rw [eget_cons] at ht
  by_cases e : d = t
  · subst e
    rw [if_pos rfl] at ht
    cases ht
    simp [Act.put, h.size, hd]
  · rw [if_neg e] at ht
    have := h.get t u ht
    simpa [Act.put, Array.getElem?_setIfInBounds_ne e] using this

theorem At.putNone {N : Nat} {l : Env} {a : Act} (h : At N l a) (v : Value) : At N l (a.put none v) := h

def dpush (d : Option Nat) (v : Value) (l : Env) : Env :=
  match d with
  | some d => (d, v) :: l
  | none => l

theorem At.putO {N : Nat} {l : Env} {a : Act} (h : At N l a) {d : Option Nat} (hd : ∀ x, d = some x → x < N) (v : Value) : At N (dpush d v l) (a.put d v) := by
  cases d with
  | none => exact h
  | some d => exact h.put (hd d rfl) v

/-- a smaller list of slots -/
def Sub (l' l : Env) : Prop := ∀ t v, eget l' t = some v → eget l t = some v
theorem At.sub {N : Nat} {l l' : Env} {a : Act} (h : At N l a) (hs : Sub l' l) : At N l' a := ⟨h.defers, h.size, fun t v ht => h.get t v (hs t v ht)⟩
theorem Sub.refl (l : Env) : Sub l l := fun _ _ h => h
theorem Sub.nil (l : Env) : Sub [] l := fun _ _ h => by cases h
theorem Sub.cons {l' l : Env} {t : Nat} {v : Value} (h : eget l t = some v) (hs : Sub l' l) : Sub ((t, v) :: l') l := by
  intro s u hs'
  rw [eget_cons] at hs'
  by_cases e : t = s
  · subst e; rw [if_pos rfl] at hs'; cases hs'; exact h
  · rw [if_neg e] at hs'; exact hs s u hs'

/-! ### worlds up to draws -/
structure Sim (w0 w : World) : Prop where
  heap : w0.heap = w.heap
  tape : w0.tape = w.tape
  os : w0.os = w.os
  output : w0.output = w.output

theorem Sim.refl (w : World) : Sim w w := ⟨rfl, rfl, rfl, rfl⟩
theorem Sim.trans {a b c : World} (h : Sim a b) (k : Sim b c) : Sim a c := ⟨h.heap.trans k.heap, h.tape.trans k.tape, h.os.trans k.os, h.output.trans k.output⟩
theorem Sim.symm {a b : World} (h : Sim a b) : Sim b a := ⟨h.heap.symm, h.tape.symm, h.os.symm, h.output.symm⟩
theorem Sim.drawn {w0 w : World} (h : Sim w0 w) (n : Nat) : Sim { w0 with drawn := n } w := ⟨h.heap, h.tape, h.os, h.output⟩
theorem Sim.cell {w0 w : World} (h : Sim w0 w) (p : Addr) : w0.cell? p = w.cell? p := by simp only [World.cell?, h.heap]
theorem Sim.frozen {w0 w : World} (h : Sim w0 w) (p : Addr) : w0.frozen? p = w.frozen? p := by simp only [World.frozen?, h.heap]
theorem Sim.setCell {w0 w : World} (h : Sim w0 w) (p : Addr) (v : Value) : Sim (w0.setCell p v) (w.setCell p v) := ⟨by simp only [World.setCell, h.heap], h.tape, h.os, h.output⟩
theorem Sim.push {w0 w : World} (h : Sim w0 w) (o : Obj) : Sim { w0 with heap := w0.heap.push o } { w with heap := w.heap.push o } := ⟨by simp only [h.heap], h.tape, h.os, h.output⟩
theorem Sim.setObj {w0 w : World} (h : Sim w0 w) (r : Nat) (o : Obj) : Sim { w0 with heap := w0.heap.setIfInBounds r o } { w with heap := w.heap.setIfInBounds r o } := ⟨by simp only [h.heap], h.tape, h.os, h.output⟩

/-! ### contracts -/
/-- From w, up to draws, the call returns some v, in a world of which R holds with v. -/
def Does (P : Program) (f : FuncId) (args : Array Value) (w : World) (R : Value → World → Prop) : Prop :=
  ∀ w0, Sim w0 w → Calls P f args w0 fun e w' => ∃ w1, Sim w' w1 ∧ ∃ v, e = .returned v ∧ R v w1

theorem Does.mono {P : Program} {f : FuncId} {args : Array Value} {w : World} {R R' : Value → World → Prop} (h : Does P f args w R) (hr : ∀ v w', R v w' → R' v w') : Does P f args w R' :=
  fun w0 hs => (h w0 hs).mono fun _ _ ⟨w1, h1, v, h2, h3⟩ => ⟨w1, h1, v, h2, hr _ _ h3⟩

/-- What an operation's meaning comes to, met by K. -/
def Eff (P : Program) (n : Sem Next) (w : World) (K : Value → World → Prop) : Prop :=
  match n.run P w with
  | .ok (.value v) w' => K v w'
  | .ok .skip w' => K undef w'
  | .ok (.enter f args) w' => Calls P f args w' fun e w'' => ∃ v, e = .returned v ∧ K v w''
  | _ => False

theorem Eff.mono {P : Program} {n : Sem Next} {w : World} {K K' : Value → World → Prop} (h : Eff P n w K) (hk : ∀ v w', K v w' → K' v w') : Eff P n w K' := by
  unfold Eff at *
  cases hr : n.run P w with
  | ok x w' =>
    rw [hr] at h
    cases x <;> first | exact h.elim | skip
    case value v => exact hk _ _ h
    case skip => exact hk _ _ h
    case enter f args => exact Calls.mono h fun e w'' ⟨v, he, hK⟩ => ⟨v, he, hk _ _ hK⟩
  | halt x w' => rw [hr] at h; exact h.elim

theorem Eff.value {P : Program} {n : Sem Next} {w w' : World} {v : Value} {K : Value → World → Prop} (h : n.run P w = .ok (.value v) w') (hk : K v w') : Eff P n w K := by
  unfold Eff; rw [h]; exact hk
theorem Eff.skip {P : Program} {n : Sem Next} {w w' : World} {K : Value → World → Prop} (h : n.run P w = .ok .skip w') (hk : K undef w') : Eff P n w K := by
  unfold Eff; rw [h]; exact hk

theorem Eff.wp {P : Program} {o : Oper} {a : Act} {w : World} {K : Act → World → Prop} {Q : Exit → Act → World → Prop}
    (h : Eff P (execOp a.eval o) w fun v w' => K (a.put o.dst v) w') : o.wp P a w K Q := by
  unfold Eff at h
  unfold Oper.wp
  cases hr : (execOp a.eval o).run P w with
  | ok x w' =>
    rw [hr] at h
    cases x <;> first | exact h.elim | skip
    case value v => exact h
    case skip => exact h
    case enter f args =>
      refine Calls.mono h fun e w'' ⟨v, he, hK⟩ => ?_
      subst he; exact hK
  | halt x w' => rw [hr] at h; exact h.elim

/-! ### the rules for code, over environments -/
/-- A condition on what is left, lifted to the model's states: no panic, no outgrowing. -/
def lift (N : Nat) (Q : Exit → Env → World → Prop) (e : Exit) (a : Act) (w : World) : Prop :=
  match e with
  | .panic _ => False
  | .outgrown => False
  | e => ∃ l w1, At N l a ∧ Sim w w1 ∧ Q e l w1

def V (P : Program) (N : Nat) (c : Code) (Q : Exit → Env → World → Prop) (l : Env) (w : World) : Prop :=
  ∀ a w0, At N l a → Sim w0 w → c.wp P (lift N Q) a w0

abbrev thenQ (next : Env → World → Prop) (Q : Exit → Env → World → Prop) : Exit → Env → World → Prop
  | .normal, l, w => next l w
  | e, l, w => Q e l w

abbrev blkQ (id : Nat) (Q : Exit → Env → World → Prop) : Exit → Env → World → Prop
  | .exit id', l, w => if id' = id then Q .normal l w else Q (.exit id') l w
  | e, l, w => Q e l w

section
variable {P : Program} {N : Nat} {Q : Exit → Env → World → Prop} {l : Env} {w : World}

theorem V.skip (h : Q .normal l w) : V P N .skip Q l w := fun _ _ ha hs => wp_skip ⟨l, w, ha, hs, h⟩
theorem V.exit {id : Nat} (h : Q (.exit id) l w) : V P N (.exit id) Q l w := fun _ _ ha hs => wp_exit ⟨l, w, ha, hs, h⟩
theorem V.ret (h : Q .ret l w) : V P N .ret Q l w := fun _ _ ha hs => wp_ret ⟨l, w, ha, hs, h⟩

theorem V.seq {x y : Code} (h : V P N x (thenQ (V P N y Q) Q) l w) : V P N (.seq x y) Q l w := fun a w0 ha hs =>
  wp_seq (wp_mono (h a w0 ha hs) fun e a' w' hq => by
    cases e with
    | normal => obtain ⟨l', w1, h1, h2, h3⟩ := hq; exact h3 a' w' h1 h2
    | panic c => exact hq
    | outgrown => exact hq
    | ret => exact hq
    | exit i => exact hq
    | goto i => exact hq)

theorem V.cond {c : Operand} {x y : Code} {t : Bool} (hc : ev l c = some (.bool t)) (ht : t = true → V P N x Q l w) (hf : t = false → V P N y Q l w) :
    V P N (.cond c x y) Q l w := fun a w0 ha hs =>
  wp_cond_split (ha.agr c _ hc) (fun h => ht h a w0 ha hs) (fun h => hf h a w0 ha hs)

theorem V.block {id : Nat} {c : Code} (h : V P N c (blkQ id Q) l w) : V P N (.block id c) Q l w := fun a w0 ha hs =>
  wp_block (wp_mono (h a w0 ha hs) fun e a' w' hq => by
    cases e with
    | exit i =>
      obtain ⟨l', w1, h1, h2, h3⟩ := hq
      simp only [Exit.inBlock]
      by_cases e : i = id
      · rw [if_pos e]; simp only [blkQ, if_pos e] at h3; exact ⟨l', w1, h1, h2, h3⟩
      · rw [if_neg e]; simp only [blkQ, if_neg e] at h3; exact ⟨l', w1, h1, h2, h3⟩
    | normal => exact hq
    | panic c => exact hq
    | outgrown => exact hq
    | ret => exact hq
    | goto i => exact hq)

/-- A loop by a rank that each round lowers. -/
theorem wp_loop_rank {c : Code} {Q : Exit → Act → World → Prop} {a : Act} {w : World} (J : Nat → Act → World → Prop) (n : Nat) (h0 : J n a w)
    (round : ∀ n a w, J n a w → c.wp P (Exit.then (fun a' w' => ∃ m, m < n ∧ J m a' w') Q) a w) : (Code.loop c).wp P Q a w := by
  intro b k cs
  have key : ∀ n a w, J n a w → ∃ e a' w', Q e a' w' ∧ Arrives P (lone (b.at a (.code c :: .inLoop c :: k)) cs w) b k cs e a' w' := by
    intro n
    induction n using Nat.strongRecOn with
    | _ n ih =>
      intro a w hJ
      obtain ⟨e, a1, w1, hq, harr⟩ := round n a w hJ b (.inLoop c :: k) cs
      cases e with
      | normal =>
        obtain ⟨m, hm, hJ1⟩ := hq
        obtain ⟨e2, a2, w2, hq2, harr2⟩ := ih m hm a1 w1 hJ1
        exact ⟨e2, a2, w2, hq2, .of_steps (Steps.trans harr (.one step_inLoop)) harr2⟩
      | exit id => exact ⟨_, a1, w1, hq, .pass (x := .inLoop c) rfl (fun _ _ => .inl (by simp)) harr⟩
      | goto l => exact ⟨_, a1, w1, hq, .pass (x := .inLoop c) rfl (fun _ _ => .inl (by simp)) harr⟩
      | ret => exact ⟨_, a1, w1, hq, .pass (x := .inLoop c) rfl (fun _ _ => .inl (by simp)) harr⟩
      | panic ch => exact ⟨_, a1, w1, hq, .pass (x := .inLoop c) rfl (fun _ _ => .inl (by simp)) harr⟩
      | outgrown => exact ⟨_, a1, w1, hq, .pass (x := .inLoop c) rfl (fun _ _ => .inl (by simp)) harr⟩
  obtain ⟨e, a', w', hq, harr⟩ := key n a w h0
  exact ⟨e, a', w', hq, .of_steps (.one step_loop) harr⟩

theorem V.loop {c : Code} (I : Nat → Env → World → Prop) (n : Nat) (h0 : I n l w)
    (round : ∀ n l w, I n l w → V P N c (thenQ (fun l' w' => ∃ m, m < n ∧ ∃ l'', Sub l'' l' ∧ I m l'' w') Q) l w) : V P N (.loop c) Q l w := fun a w0 ha hs =>
  wp_loop_rank (fun n a w0 => ∃ l w, At N l a ∧ Sim w0 w ∧ I n l w) n ⟨l, w, ha, hs, h0⟩ fun n a w0 ⟨l, w, ha, hs, hI⟩ =>
    wp_mono (round n l w hI a w0 ha hs) fun e a' w' hq => by
      cases e with
      | normal => obtain ⟨l', w1, h1, h2, m, hm, l'', hsub, hI'⟩ := hq; exact ⟨m, hm, l'', w1, h1.sub hsub, h2, hI'⟩
      | panic c => exact hq
      | outgrown => exact hq
      | ret => exact hq
      | exit i => exact hq
      | goto i => exact hq

theorem V.sub {c : Code} {l' : Env} (hs : Sub l' l) (h : V P N c Q l' w) : V P N c Q l w := fun a w0 ha hw => h a w0 (ha.sub hs) hw
end

end Go.Tum
