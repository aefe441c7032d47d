/-
  Runs with known inputs, by reckoning: the blocks that a run has laid, numbered from 0; how they lie in the world (E: for each its block there, how far it is shifted, how much room is behind it).
-/
import Derived.Test.YtcchfefbolmlbaaRaw
namespace Go.Tum
open Go

/-! ### two lists, one by one -/
def L2 (R : Value → Value → Prop) : List Value → List Value → Prop
  | [], [] => True
  | a :: r, b :: s => R a b ∧ L2 R r s
  | _, _ => False

section
variable {R S : Value → Value → Prop}
theorem L2.mono (h : ∀ a b, R a b → S a b) : ∀ {x y : List Value}, L2 R x y → L2 S x y
  | [], [], _ => trivial
  | _ :: _, _ :: _, k => ⟨h _ _ k.1, L2.mono h k.2⟩
  | [], _ :: _, k => k.elim
  | _ :: _, [], k => k.elim
theorem L2.length : ∀ {x y : List Value}, L2 R x y → y.length = x.length
  | [], [], _ => rfl
  | _ :: _, _ :: _, k => by simp [L2.length k.2]
  | [], _ :: _, k => k.elim
  | _ :: _, [], k => k.elim
theorem L2.get : ∀ {x y : List Value} {i : Nat} {a : Value}, L2 R x y → x[i]? = some a → ∃ b, y[i]? = some b ∧ R a b
  | [], _, i, a, _, h => by simp at h
  | _ :: _, [], _, _, k, _ => k.elim
  | a :: r, b :: s, 0, c, k, h => by simp at h; subst h; exact ⟨b, rfl, k.1⟩
  | a :: r, b :: s, i + 1, c, k, h => by
    simp at h
    obtain ⟨d, h1, h2⟩ := L2.get k.2 h
    exact ⟨d, by simpa using h1, h2⟩
theorem L2.take : ∀ {x y : List Value} (n : Nat), L2 R x y → L2 R (x.take n) (y.take n)
  | _, _, 0, _ => by simp [L2]
  | [], [], _ + 1, _ => by simp [L2]
  | _ :: _, _ :: _, n + 1, k => ⟨k.1, L2.take n k.2⟩
  | [], _ :: _, _ + 1, k => k.elim
  | _ :: _, [], _ + 1, k => k.elim
theorem L2.drop : ∀ {x y : List Value} (n : Nat), L2 R x y → L2 R (x.drop n) (y.drop n)
  | _, _, 0, k => by simpa using k
  | [], [], _ + 1, _ => by simp [L2]
  | _ :: _, _ :: _, n + 1, k => by simpa using L2.drop n k.2
  | [], _ :: _, _ + 1, k => k.elim
  | _ :: _, [], _ + 1, k => k.elim
theorem L2.append : ∀ {x y x' y' : List Value}, L2 R x y → L2 R x' y' → L2 R (x ++ x') (y ++ y')
  | [], [], _, _, _, h => h
  | _ :: _, _ :: _, _, _, k, h => ⟨k.1, L2.append k.2 h⟩
  | [], _ :: _, _, _, k, _ => k.elim
  | _ :: _, [], _, _, k, _ => k.elim
theorem L2.set : ∀ {x y : List Value} (n : Nat) {a b : Value}, L2 R x y → R a b → L2 R (x.set n a) (y.set n b)
  | [], [], n, _, _, _, _ => by simp [L2]
  | _ :: _, _ :: _, 0, _, _, k, h => ⟨h, k.2⟩
  | _ :: _, _ :: _, n + 1, _, _, k, h => ⟨k.1, L2.set n k.2 h⟩
  | [], _ :: _, _, _, _, k, _ => k.elim
  | _ :: _, [], _, _, _, k, _ => k.elim
theorem L2.mem : ∀ {x y : List Value}, L2 R x y → ∀ b ∈ y, ∃ a ∈ x, R a b
  | [], [], _, b, h => by cases h
  | a :: r, b :: s, k, c, h => by
    rcases List.mem_cons.1 h with rfl | h
    · exact ⟨a, List.mem_cons_self .., k.1⟩
    · obtain ⟨d, h1, h2⟩ := L2.mem k.2 c h; exact ⟨d, List.mem_cons_of_mem _ h1, h2⟩
  | [], _ :: _, k, _, _ => k.elim
  | _ :: _, [], k, _, _ => k.elim
theorem L2.self {x : List Value} (h : ∀ a ∈ x, R a a) : L2 R x x := by
  induction x with
  | nil => trivial
  | cons a r ih => exact ⟨h a (List.mem_cons_self ..), ih fun b hb => h b (List.mem_cons_of_mem _ hb)⟩
end

/-! ### values -/
abbrev Emb := List (Nat × Nat × Nat)

/-- a's block lies at b' , shifted -/
def AR (E : Emb) (a a' : Addr) : Prop := a.spot = none ∧ ∃ r, E[a.block]? = some r ∧ a' = ⟨r.1, a.off + r.2.1, none⟩

def SR (E : Emb) (v v' : Value) : Prop :=
  match v with
  | .pointer (some a) => ∃ a', v' = .pointer (some a') ∧ AR E a a'
  | .slice (some a) n c => a.spot = none ∧ ∃ r a' c', E[a.block]? = some r ∧ v' = .slice (some a') n c' ∧ ((a' = ⟨r.1, a.off + r.2.1, none⟩ ∧ c' = c + r.2.2) ∨ (n = 0 ∧ c = 0 ∧ c' = 0 ∧ ∃ o', a' = ⟨r.1, o', none⟩ ∧ o' ≤ a.off + r.2.1))
  | .map (some b) => ∃ r, E[b]? = some r ∧ v' = .map (some r.1)
  | .agg _ => False
  | .tuple _ => False
  | v => v' = v
def V1 (E : Emb) (v v' : Value) : Prop :=
  match v with
  | .agg ⟨cs⟩ => ∃ cs', v' = .agg ⟨cs'⟩ ∧ L2 (SR E) cs cs'
  | v => SR E v v'
def VR (E : Emb) (v v' : Value) : Prop :=
  match v with
  | .tuple ⟨vs⟩ => ∃ vs', v' = .tuple ⟨vs'⟩ ∧ L2 (V1 E) vs vs'
  | v => V1 E v v'

def Ext (E E' : Emb) : Prop := ∀ (k : Nat) (r : Nat × Nat × Nat), E[k]? = some r → E'[k]? = some r
theorem Ext.refl (E : Emb) : Ext E E := fun _ _ h => h
theorem Ext.trans {A B C : Emb} (h : Ext A B) (k : Ext B C) : Ext A C := fun i r hi => k i r (h i r hi)
theorem Ext.push (E : Emb) (r : Nat × Nat × Nat) : Ext E (E ++ [r]) := fun k x hk => by rw [List.getElem?_append_left (List.getElem?_eq_some_iff.1 hk).1]; exact hk

section
variable {E E' : Emb}
theorem AR.ext (h : Ext E E') {a a' : Addr} (k : AR E a a') : AR E' a a' := by obtain ⟨h1, r, h2, h3⟩ := k; exact ⟨h1, r, h _ _ h2, h3⟩
theorem SR.ext (h : Ext E E') {v v' : Value} (k : SR E v v') : SR E' v v' := by
  cases v <;> first | exact k | skip
  case pointer a => cases a <;> first | exact k | (obtain ⟨a', h1, h2⟩ := k; exact ⟨a', h1, h2.ext h⟩)
  case slice a n c => cases a <;> first | exact k | (obtain ⟨h0, r, a', c', h1, h2⟩ := k; exact ⟨h0, r, a', c', h _ _ h1, h2⟩)
  case map a => cases a <;> first | exact k | (obtain ⟨r, h1, h2⟩ := k; exact ⟨r, h _ _ h1, h2⟩)
theorem V1.ext (h : Ext E E') {v v' : Value} (k : V1 E v v') : V1 E' v v' := by
  cases v <;> first | exact k | skip
  case pointer a => exact SR.ext h (v := .pointer a) k
  case slice a n c => exact SR.ext h (v := .slice a n c) k
  case map a => exact SR.ext h (v := .map a) k
  case agg cs => obtain ⟨cs⟩ := cs; obtain ⟨cs', h1, h2⟩ := k; exact ⟨cs', h1, h2.mono fun _ _ => SR.ext h⟩
theorem VR.ext (h : Ext E E') {v v' : Value} (k : VR E v v') : VR E' v v' := by
  cases v <;> first | exact k | skip
  case pointer a => exact SR.ext h (v := .pointer a) k
  case slice a n c => exact SR.ext h (v := .slice a n c) k
  case map a => exact SR.ext h (v := .map a) k
  case agg cs => exact V1.ext h (v := .agg cs) k
  case tuple cs => obtain ⟨cs⟩ := cs; obtain ⟨cs', h1, h2⟩ := k; exact ⟨cs', h1, h2.mono fun _ _ => V1.ext h⟩

theorem SR.one {v v' : Value} (h : SR E v v') : one v = true ∧ one v' = true := by
  cases v <;> first | exact h.elim | skip
  case pointer a => cases a <;> first | (cases h; exact ⟨rfl, rfl⟩) | (obtain ⟨a', rfl, _⟩ := h; exact ⟨rfl, rfl⟩)
  case slice a _ _ => cases a <;> first | (cases h; exact ⟨rfl, rfl⟩) | (obtain ⟨_, r, a', c', _, rfl, _⟩ := h; exact ⟨rfl, rfl⟩)
  case map a => cases a <;> first | (cases h; exact ⟨rfl, rfl⟩) | (obtain ⟨r, _, rfl⟩ := h; exact ⟨rfl, rfl⟩)
  all_goals (cases h; exact ⟨rfl, rfl⟩)
theorem SR.vr {v v' : Value} (h : SR E v v') : VR E v v' := by
  cases v <;> first | exact h | exact h.elim
theorem VR.sr {v v' : Value} (h : VR E v v') (h1 : Tum.one v = true) : SR E v v' := by
  cases v <;> first | exact h | cases h1
theorem V1.vr {v v' : Value} (h : V1 E v v') : VR E v v' := by
  cases v <;> first | exact h | exact h.elim
end

def stillS : Value → Bool
  | .pointer (some _) => false
  | .slice (some _) _ _ => false
  | .map (some _) => false
  | .agg _ => false
  | .tuple _ => false
  | _ => true
def still : Value → Bool
  | .agg ⟨cs⟩ => cs.all stillS
  | v => stillS v
def notTup : Value → Bool
  | .tuple _ => false
  | _ => true

section
variable {E : Emb}
theorem SR.still {v : Value} (h : stillS v = true) : SR E v v := by
  cases v <;> first | rfl | skip
  case pointer a => cases a <;> first | rfl | cases h
  case slice a _ _ => cases a <;> first | rfl | cases h
  case map a => cases a <;> first | rfl | cases h
  case agg => cases h
  case tuple => cases h
theorem VR.still {v : Value} (h : Tum.still v = true) : VR E v v := by
  cases v <;> first | rfl | skip
  case pointer a => exact SR.still (v := .pointer a) h
  case slice a n c => exact SR.still (v := .slice a n c) h
  case map a => exact SR.still (v := .map a) h
  case agg cs => obtain ⟨cs⟩ := cs; exact ⟨cs, rfl, L2.self fun a ha => SR.still (List.all_eq_true.1 h a ha)⟩
  case tuple => cases h
theorem VR.v1 {v v' : Value} (h : VR E v v') (hf : notTup v = true) : V1 E v v' := by
  cases v <;> first | exact h | cases hf
theorem VR.undef : VR E undef undef := ⟨[], rfl, trivial⟩
theorem VR.cells {v v' : Value} (h : VR E v v') (hf : notTup v = true) : L2 (SR E) v.cells.toList v'.cells.toList := by
  cases v <;> first | (cases hf; done) | skip
  case agg cs => obtain ⟨cs⟩ := cs; obtain ⟨cs', rfl, h⟩ := h; exact h
  all_goals (have hs := VR.sr h rfl; have h1 := hs.one.2; rw [one_cells h1, one_cells hs.one.1]; exact ⟨hs, trivial⟩)
theorem VR.cellsL {v v' : Value} (h : VR E v v') (hf : notTup v = true) : L2 (SR E) (cellsL v) (cellsL v') := by
  have := h.cells hf
  have e : ∀ u : Value, Tum.cellsL u = u.cells.toList := by intro u; cases u <;> rfl
  rw [e, e]; exact this
theorem AR.add {a a' : Addr} (h : AR E a a') (k : Nat) : AR E (a.add k) (a'.add k) := by
  obtain ⟨b, o, s⟩ := a
  obtain ⟨h1, r, h2, rfl⟩ := h
  cases h1
  rw [add_none, add_none]
  exact ⟨rfl, r, h2, by simp; omega⟩
end

/-! ### slots -/
def ER (E : Emb) : Env → Env → Prop
  | [], [] => True
  | (k, v) :: r, (k', v') :: s => k' = k ∧ VR E v v' ∧ ER E r s
  | _, _ => False
theorem ER.ext {E E' : Emb} (h : Ext E E') : ∀ {l l' : Env}, ER E l l' → ER E' l l'
  | [], [], _ => trivial
  | (_, _) :: _, (_, _) :: _, k => ⟨k.1, k.2.1.ext h, k.2.2.ext h⟩
  | [], _ :: _, k => k.elim
  | _ :: _, [], k => k.elim
theorem ER.get {E : Emb} : ∀ {l l' : Env} {t : Nat} {v : Value}, ER E l l' → eget l t = some v → ∃ v', eget l' t = some v' ∧ VR E v v'
  | [], _, _, _, _, h => by cases h
  | _ :: _, [], _, _, k, _ => k.elim
  | (i, u) :: r, (j, u') :: s, t, v, ⟨h0, h1, h2⟩, h => by
    subst h0
    simp only [eget] at h ⊢
    cases hb : Nat.beq j t
    · rw [hb] at h; exact ER.get h2 h
    · rw [hb] at h; cases h; exact ⟨u', rfl, h1⟩
theorem ER.dpush {E : Emb} {l l' : Env} {v v' : Value} (h : ER E l l') (hv : VR E v v') (d : Option Nat) : ER E (dpush d v l) (dpush d v' l') := by
  cases d with
  | none => exact h
  | some d => exact ⟨rfl, hv, h⟩

def lv (l : Env) : Operand → Option Value
  | .tmp t => eget l t
  | .const v => bif still v then some v else none
  | .global _ => none
  | .func _ => none
theorem lv_ev {E : Emb} {l l' : Env} {x : Operand} {v : Value} (hl : ER E l l') (h : lv l x = some v) : ∃ v', ev l' x = some v' ∧ VR E v v' := by
  cases x with
  | tmp t => exact hl.get h
  | const u =>
    simp only [lv] at h
    cases hs : still u
    · rw [hs] at h; cases h
    · rw [hs] at h; cases h; exact ⟨v, rfl, VR.still hs⟩
  | global g => cases h
  | func f => cases h
def lvs (l : Env) : List Operand → Option (List Value)
  | [] => some []
  | x :: r => match lv l x with
    | some v => match lvs l r with
      | some vs => some (v :: vs)
      | none => none
    | none => none
theorem lvs_evs {E : Emb} {l l' : Env} (hl : ER E l l') : ∀ {xs : List Operand} {vs : List Value}, lvs l xs = some vs → ∃ vs', evs l' xs = some vs' ∧ L2 (VR E) vs vs'
  | [], vs, h => by cases h; exact ⟨[], rfl, trivial⟩
  | x :: r, vs, h => by
    simp only [lvs] at h
    cases hx : lv l x with
    | none => rw [hx] at h; cases h
    | some v =>
      rw [hx] at h
      cases hr : lvs l r with
      | none => rw [hr] at h; cases h
      | some us =>
        rw [hr] at h; cases h
        obtain ⟨v', h1, h2⟩ := lv_ev hl hx
        obtain ⟨us', h3, h4⟩ := lvs_evs hl hr
        exact ⟨v' :: us', by simp only [evs, h1, h3], h2, h4⟩

/-! ### the blocks -/
inductive LB where
  /-- cells; sz: the size of an element, if there may be room behind them (else 0) -/
  | cells (sz : Nat) (vs : List Value)
  | map (m : List (Value × Value × Nat)) (c : Nat)
  | dead
abbrev LH := List LB

def ME (E : Emb) (x : Value × Value × Nat) (e : MapEntry) : Prop := V1 E x.1 e.key ∧ V1 E x.2.1 e.val ∧ e.born = x.2.2
def M2 (E : Emb) : List (Value × Value × Nat) → List MapEntry → Prop
  | [], [] => True
  | a :: r, b :: s => ME E a b ∧ M2 E r s
  | _, _ => False
theorem M2.ext {E E' : Emb} (h : Ext E E') : ∀ {m : List (Value × Value × Nat)} {es : List MapEntry}, M2 E m es → M2 E' m es
  | [], [], _ => trivial
  | _ :: _, _ :: _, k => ⟨⟨k.1.1.ext h, k.1.2.1.ext h, k.1.2.2⟩, k.2.ext h⟩
  | [], _ :: _, k => k.elim
  | _ :: _, [], k => k.elim

def LBis (E : Emb) (w : World) (r : Nat × Nat × Nat) : LB → Prop
  | .cells sz vs => ∃ cs, Blk w r.1 cs ∧ L2 (SR E) vs ((cs.drop r.2.1).take vs.length) ∧ r.2.1 + vs.length + r.2.2 * sz ≤ cs.length ∧ (sz = 0 → r.2.2 = 0)
  | .map m c => ∃ es : List MapEntry, w.heap[r.1]? = some (.map es.toArray c) ∧ M2 E m es
  | .dead => True

theorem LBis.fr {E : Emb} {w w' : World} {r : Nat × Nat × Nat} {x : LB} {F : Nat → Prop} (h : LBis E w r x) (hf : Fr F w w') (hn : ¬ F r.1) : LBis E w' r x := by
  cases x with
  | cells sz vs => obtain ⟨cs, h1, h2⟩ := h; exact ⟨cs, hf.blk h1 hn, h2⟩
  | map m c => obtain ⟨es, h1, h2⟩ := h; exact ⟨es, (hf.keep _ (Array.getElem?_eq_some_iff.1 h1).1 hn).trans h1, h2⟩
  | dead => trivial
theorem LBis.ext {E E' : Emb} {w : World} {r : Nat × Nat × Nat} {x : LB} (h : LBis E w r x) (he : Ext E E') : LBis E' w r x := by
  cases x with
  | cells sz vs => obtain ⟨cs, h1, h2, h3⟩ := h; exact ⟨cs, h1, h2.mono fun _ _ => SR.ext he, h3⟩
  | map m c => obtain ⟨es, h1, h2⟩ := h; exact ⟨es, h1, h2.ext he⟩
  | dead => trivial

def LB.live : LB → Bool
  | .dead => false
  | _ => true

structure Rep (w0 : World) (E : Emb) (L : LH) (w : World) : Prop where
  fr : Fr (fun _ => False) w0 w
  len : E.length = L.length
  rng : ∀ (k : Nat) (r : Nat × Nat × Nat), E[k]? = some r → w0.heap.size ≤ r.1 ∧ r.1 < w.heap.size
  blk : ∀ (k : Nat) (x : LB) (r : Nat × Nat × Nat), L[k]? = some x → E[k]? = some r → LBis E w r x
  inj : ∀ (k k' : Nat) (x x' : LB) (r r' : Nat × Nat × Nat), L[k]? = some x → L[k']? = some x' → x.live = true → x'.live = true → E[k]? = some r → E[k']? = some r' → r.1 = r'.1 → k = k'

theorem Rep.nil (w : World) : Rep w [] [] w := ⟨Fr.refl _ w, rfl, fun k x h => by simp at h, fun k x r h => by simp at h, fun k k' x x' r r' h => by simp at h⟩

section
variable {w0 w w' : World} {E : Emb} {L : LH}

theorem Rep.ent (h : Rep w0 E L w) {b : Nat} {x : LB} (hx : L[b]? = some x) : ∃ r, E[b]? = some r :=
  ⟨_, List.getElem?_eq_getElem (by rw [h.len]; exact (List.getElem?_eq_some_iff.1 hx).1)⟩

/-- one live block has changed -/
theorem Rep.upd {b : Nat} {x y : LB} {r : Nat × Nat × Nat} (h : Rep w0 E L w) (hy : L[b]? = some y) (hyl : y.live = true) (hr : E[b]? = some r) (hf : Fr (· = r.1) w w') (hx : LBis E w' r x) : Rep w0 E (L.set b x) w' := by
  have hlt := (List.getElem?_eq_some_iff.1 hy).1
  refine ⟨h.fr.trans hf fun c hc e => by have := (h.rng b r hr).1; omega, by rw [h.len, List.length_set], fun k r' hk => ⟨(h.rng k r' hk).1, Nat.lt_of_lt_of_le (h.rng k r' hk).2 hf.size⟩, fun k z r' hz hr' => ?_, fun k k' z z' r1 r2 hz hz' hzl hzl' h1 h2 e => ?_⟩
  · rw [List.getElem?_set] at hz
    by_cases e : b = k
    · subst e
      rw [if_pos rfl, if_pos hlt] at hz; cases hz
      rw [hr] at hr'; cases hr'
      exact hx
    · rw [if_neg e] at hz
      cases hzl : z.live
      · cases z <;> first | trivial | cases hzl
      · refine (h.blk k z r' hz hr').fr hf fun e' => e ?_
        exact h.inj b k y z r r' hy hz hyl hzl hr hr' e'.symm
  · have live : ∀ (k : Nat) (z : LB), (L.set b x)[k]? = some z → z.live = true → ∃ z0, L[k]? = some z0 ∧ z0.live = true := by
      intro k z hz hl
      rw [List.getElem?_set] at hz
      by_cases e : b = k
      · subst e; exact ⟨y, hy, hyl⟩
      · rw [if_neg e] at hz; exact ⟨z, hz, hl⟩
    obtain ⟨z0, a1, a2⟩ := live k z hz hzl
    obtain ⟨z0', b1, b2⟩ := live k' z' hz' hzl'
    exact h.inj k k' z0 z0' r1 r2 a1 b1 a2 b2 h1 h2 e

/-- one more block -/
theorem Rep.push {x : LB} {r : Nat × Nat × Nat} (h : Rep w0 E L w) (hf : Fr (fun _ => False) w w') (hr : r.1 = w.heap.size) (hs : w'.heap.size = w.heap.size + 1) (hx : LBis (E ++ [r]) w' r x) : Rep w0 (E ++ [r]) (L ++ [x]) w' := by
  have cut : ∀ (k : Nat) (r' : Nat × Nat × Nat), (E ++ [r])[k]? = some r' → (k < E.length ∧ E[k]? = some r') ∨ (k = E.length ∧ r' = r) := by
    intro k r' hk
    rw [List.getElem?_append] at hk
    split at hk
    · rename_i hlt; exact .inl ⟨hlt, hk⟩
    · rename_i hlt
      have : k = E.length := by
        have := (List.getElem?_eq_some_iff.1 hk).1
        simp at this; omega
      subst this
      simp at hk
      exact .inr ⟨rfl, hk.symm⟩
  have cutL : ∀ (k : Nat) (z : LB), (L ++ [x])[k]? = some z → k < L.length → L[k]? = some z := by
    intro k z hz hk
    rwa [List.getElem?_append_left hk] at hz
  have lst : ∀ (z : LB), (L ++ [x])[E.length]? = some z → z = x := by
    intro z hz
    rw [h.len] at hz
    simp at hz; exact hz.symm
  refine ⟨h.fr.trans hf fun _ _ e => e, by simp [h.len], fun k r' hk => ?_, fun k z r' hz hk => ?_, fun k k' z z' r1 r2 hz hz' hl hl' h1 h2 e => ?_⟩
  · rcases cut k r' hk with ⟨_, h1⟩ | ⟨_, rfl⟩
    · have := h.rng k r' h1; omega
    · have := h.fr.size; omega
  · rcases cut k r' hk with ⟨h0, h1⟩ | ⟨rfl, rfl⟩
    · exact ((h.blk k z r' (cutL k z hz (by rw [← h.len]; exact h0)) h1).fr hf fun e => e).ext (Ext.push E r)
    · rw [lst z hz]; exact hx
  · rcases cut k r1 h1 with ⟨a0, a1⟩ | ⟨rfl, rfl⟩
    · rcases cut k' r2 h2 with ⟨b0, b1⟩ | ⟨rfl, rfl⟩
      · exact h.inj k k' z z' r1 r2 (cutL k z hz (by rw [← h.len]; exact a0)) (cutL k' z' hz' (by rw [← h.len]; exact b0)) hl hl' a1 b1 e
      · have := (h.rng k r1 a1).2; omega
    · rcases cut k' r2 h2 with ⟨b0, b1⟩ | ⟨rfl, rfl⟩
      · have := (h.rng k' r2 b1).2; omega
      · rfl

def lcell (L : LH) (a : Addr) : Option Value :=
  match a with
  | ⟨b, o, none⟩ => match L[b]? with
    | some (.cells _ vs) => vs[o]?
    | _ => none
  | _ => none

theorem lcell_ok (h : Rep w0 E L w) {a a' : Addr} {v : Value} (ha : AR E a a') (hc : lcell L a = some v) : ∃ v', w.cell? a' = some v' ∧ SR E v v' := by
  obtain ⟨b, o, s⟩ := a
  obtain ⟨h1, r, h2, rfl⟩ := ha
  cases h1
  simp only [lcell] at hc
  cases hb : L[b]? with
  | none => rw [hb] at hc; cases hc
  | some x =>
    rw [hb] at hc
    cases x <;> first | (cases hc; done) | skip
    case cells sz vs =>
    obtain ⟨cs, hB, hl, _, _⟩ := h.blk b _ r hb h2
    obtain ⟨v', h3, h4⟩ := hl.get hc
    refine ⟨v', hB.cell ?_, h4⟩
    rw [List.getElem?_take] at h3
    split at h3
    · rw [List.getElem?_drop] at h3; rw [← h3]; congr 1; simp; omega
    · cases h3

def lcells (L : LH) (a : Addr) (n : Nat) : Option (List Value) :=
  match a with
  | ⟨b, o, none⟩ => match L[b]? with
    | some (.cells _ vs) => bif Nat.ble (o + n) vs.length then some ((vs.drop o).take n) else none
    | _ => none
  | _ => none

theorem lcells_ok (h : Rep w0 E L w) {a a' : Addr} {n : Nat} {vs : List Value} (ha : AR E a a') (hc : lcells L a n = some vs) :
    ∃ cs vs' : List Value, Blk w a'.block cs ∧ a'.spot = none ∧ a'.off + n ≤ cs.length ∧ vs' = (cs.drop a'.off).take n ∧ L2 (SR E) vs vs' ∧ vs'.length = n := by
  obtain ⟨b, o, s⟩ := a
  obtain ⟨h1, r, h2, rfl⟩ := ha
  cases h1
  simp only [lcells] at hc
  cases hb : L[b]? with
  | none => rw [hb] at hc; cases hc
  | some x =>
    rw [hb] at hc
    cases x <;> first | (cases hc; done) | skip
    case cells sz us =>
    simp only at hc
    cases hl : Nat.ble (o + n) us.length
    · rw [hl] at hc; cases hc
    · rw [hl] at hc; cases hc
      have hle := Nat.le_of_ble_eq_true hl
      obtain ⟨cs, hB, h3, h4, _⟩ := h.blk b _ r hb h2
      have h5 := (h3.drop o).take n
      have e : (((cs.drop r.2.1).take us.length).drop o).take n = (cs.drop (o + r.2.1)).take n := by
        rw [List.drop_take, List.take_take, List.drop_drop]
        congr 1
        · omega
        · rw [Nat.add_comm]
      rw [e] at h5
      exact ⟨cs, _, hB, rfl, by simp; omega, rfl, h5, by simp; omega⟩
end
end Go.Tum
