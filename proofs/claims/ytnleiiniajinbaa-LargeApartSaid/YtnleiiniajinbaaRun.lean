/-
  Runs with known inputs, by reckoning: the blocks that a run has laid, numbered from 0; how they lie in the world (E: for each its block there, how far it is shifted, how much room is behind it).
-/
import Derived.Test.YtnleiiniajinbaaRaw
namespace Go.Tum
open Go

/-! ### two lists, one by one -/
def L2 (R : Value → Value → Prop) : List Value → List Value → Prop
  | [], [] => True
  | a :: r, b :: s => R a b ∧ L2 R r s
  | _, _ => False

section
variable {R S : Value → Value → Prop}
theorem L2.mono (h : ∀ a b, R a b → S a b) : ∀ {x y : List Value}, L2 R x y → L2 S x y
  | [], [], _ => trivial
  | _ :: _, _ :: _, k => ⟨h _ _ k.1, L2.mono h k.2⟩
  | [], _ :: _, k => k.elim
  | _ :: _, [], k => k.elim
theorem L2.length : ∀ {x y : List Value}, L2 R x y → y.length = x.length
  | [], [], _ => rfl
  | _ :: _, _ :: _, k => by simp [L2.length k.2]
  | [], _ :: _, k => k.elim
  | _ :: _, [], k => k.elim
theorem L2.get : ∀ {x y : List Value} {i : Nat} {a : Value}, L2 R x y → x[i]? = some a → ∃ b, y[i]? = some b ∧ R a b
  | [], _, i, a, _, h => by simp at h
  | _ :: _, [], _, _, k, _ => k.elim
  | a :: r, b :: s, 0, c, k, h => by simp at h; subst h; exact ⟨b, rfl, k.1⟩
  | a :: r, b :: s, i + 1, c, k, h => by
    simp at h
    obtain ⟨d, h1, h2⟩ := L2.get k.2 h
    exact ⟨d, by simpa using h1, h2⟩
theorem L2.take : ∀ {x y : List Value} (n : Nat), L2 R x y → L2 R (x.take n) (y.take n)
  | _, _, 0, _ => by simp [L2]
  | [], [], _ + 1, _ => by simp [L2]
  | _ :: _, _ :: _, n + 1, k => ⟨k.1, L2.take n k.2⟩
  | [], _ :: _, _ + 1, k => k.elim
  | _ :: _, [], _ + 1, k => k.elim
theorem L2.drop : ∀ {x y : List Value} (n : Nat), L2 R x y → L2 R (x.drop n) (y.drop n)
  | _, _, 0, k => by simpa using k
  | [], [], _ + 1, _ => by simp [L2]
  | _ :: _, _ :: _, n + 1, k => by simpa using L2.drop n k.2
  | [], _ :: _, _ + 1, k => k.elim
  | _ :: _, [], _ + 1, k => k.elim
theorem L2.append : ∀ {x y x' y' : List Value}, L2 R x y → L2 R x' y' → L2 R (x ++ x') (y ++ y')
  | [], [], _, _, _, h => h
  | _ :: _, _ :: _, _, _, k, h => ⟨k.1, L2.append k.2 h⟩
  | [], _ :: _, _, _, k, _ => k.elim
  | _ :: _, [], _, _, k, _ => k.elim
theorem L2.set : ∀ {x y : List Value} (n : Nat) {a b : Value}, L2 R x y → R a b → L2 R (x.set n a) (y.set n b)
  | [], [], n, _, _, _, _ => by simp [L2]
  | _ :: _, _ :: _, 0, _, _, k, h => ⟨h, k.2⟩
  | _ :: _, _ :: _, n + 1, _, _, k, h => ⟨k.1, L2.set n k.2 h⟩
  | [], _ :: _, _, _, _, k, _ => k.elim
  | _ :: _, [], _, _, _, k, _ => k.elim
theorem L2.mem : ∀ {x y : List Value}, L2 R x y → ∀ b ∈ y, ∃ a ∈ x, R a b
  | [], [], _, b, h => by cases h
  | a :: r, b :: s, k, c, h => by
    rcases List.mem_cons.1 h with rfl | h
    · exact ⟨a, List.mem_cons_self .., k.1⟩
    · obtain ⟨d, h1, h2⟩ := L2.mem k.2 c h; exact ⟨d, List.mem_cons_of_mem _ h1, h2⟩
  | [], _ :: _, k, _, _ => k.elim
  | _ :: _, [], k, _, _ => k.elim
theorem L2.self {x : List Value} (h : ∀ a ∈ x, R a a) : L2 R x x := by
  induction x with
  | nil => trivial
  | cons a r ih => exact ⟨h a (List.mem_cons_self ..), ih fun b hb => h b (List.mem_cons_of_mem _ hb)⟩
end

/-! ### values -/
abbrev Emb := List (Nat × Nat × Nat)

/-- a's block lies at b' , shifted -/
def AR (E : Emb) (a a' : Addr) : Prop := a.spot = none ∧ ∃ r, E[a.block]? = some r ∧ a' = ⟨r.1, a.off + r.2.1, none⟩

def S0 (E : Emb) (v v' : Value) : Prop :=
  match v with
  | .pointer (some a) => ∃ a', v' = .pointer (some a') ∧ AR E a a'
  | .slice (some a) n c => a.spot = none ∧ ∃ r, E[a.block]? = some r ∧ ((∃ a' c', v' = .slice (some a') n c' ∧ ((a' = ⟨r.1, a.off + r.2.1, none⟩ ∧ c' = c + r.2.2) ∨ (n = 0 ∧ c = 0 ∧ c' = 0 ∧ ∃ o', a' = ⟨r.1, o', none⟩ ∧ o' ≤ a.off + r.2.1))) ∨ (n = 0 ∧ c = 0 ∧ ∃ a', v' = .slice a' 0 0))
  | .map (some b) => ∃ r, E[b]? = some r ∧ v' = .map (some r.1)
  | .func _ _ _ => False
  | .agg _ => False
  | .tuple _ => False
  | v => v' = v
def SR (E : Emb) (v v' : Value) : Prop :=
  match v with
  | .func f ⟨a⟩ ⟨c⟩ => ∃ a' c', v' = .func f ⟨a'⟩ ⟨c'⟩ ∧ L2 (S0 E) a a' ∧ L2 (S0 E) c c'
  | v => S0 E v v'
def V1 (E : Emb) (v v' : Value) : Prop :=
  match v with
  | .agg ⟨cs⟩ => ∃ cs', v' = .agg ⟨cs'⟩ ∧ L2 (SR E) cs cs'
  | v => SR E v v'
def VR (E : Emb) (v v' : Value) : Prop :=
  match v with
  | .tuple ⟨vs⟩ => ∃ vs', v' = .tuple ⟨vs'⟩ ∧ L2 (V1 E) vs vs'
  | v => V1 E v v'

def Ext (E E' : Emb) : Prop := ∀ (k : Nat) (r : Nat × Nat × Nat), E[k]? = some r → E'[k]? = some r
theorem Ext.refl (E : Emb) : Ext E E := fun _ _ h => h
theorem Ext.trans {A B C : Emb} (h : Ext A B) (k : Ext B C) : Ext A C := fun i r hi => k i r (h i r hi)
theorem Ext.push (E : Emb) (r : Nat × Nat × Nat) : Ext E (E ++ [r]) := fun k x hk => by rw [List.getElem?_append_left (List.getElem?_eq_some_iff.1 hk).1]; exact hk

section
variable {E E' : Emb}
theorem AR.ext (h : Ext E E') {a a' : Addr} (k : AR E a a') : AR E' a a' := by obtain ⟨h1, r, h2, h3⟩ := k; exact ⟨h1, r, h _ _ h2, h3⟩
theorem S0.ext (h : Ext E E') {v v' : Value} (k : S0 E v v') : S0 E' v v' := by
  cases v <;> first | exact k | skip
  case pointer a => cases a <;> first | exact k | (obtain ⟨a', h1, h2⟩ := k; exact ⟨a', h1, h2.ext h⟩)
  case slice a n c => cases a <;> first | exact k | (obtain ⟨h0, r, h1, h2⟩ := k; exact ⟨h0, r, h _ _ h1, h2⟩)
  case map a => cases a <;> first | exact k | (obtain ⟨r, h1, h2⟩ := k; exact ⟨r, h _ _ h1, h2⟩)
theorem SR.ext (h : Ext E E') {v v' : Value} (k : SR E v v') : SR E' v v' := by
  cases v <;> first | exact k | skip
  case pointer a => exact S0.ext h (v := .pointer a) k
  case slice a n c => exact S0.ext h (v := .slice a n c) k
  case map a => exact S0.ext h (v := .map a) k
  case func f a c => obtain ⟨a⟩ := a; obtain ⟨c⟩ := c; obtain ⟨a', c', h1, h2, h3⟩ := k; exact ⟨a', c', h1, h2.mono fun _ _ => S0.ext h, h3.mono fun _ _ => S0.ext h⟩
theorem V1.ext (h : Ext E E') {v v' : Value} (k : V1 E v v') : V1 E' v v' := by
  cases v <;> first | exact k | skip
  case pointer a => exact SR.ext h (v := .pointer a) k
  case slice a n c => exact SR.ext h (v := .slice a n c) k
  case map a => exact SR.ext h (v := .map a) k
  case func f a c => exact SR.ext h (v := .func f a c) k
  case agg cs => obtain ⟨cs⟩ := cs; obtain ⟨cs', h1, h2⟩ := k; exact ⟨cs', h1, h2.mono fun _ _ => SR.ext h⟩
theorem VR.ext (h : Ext E E') {v v' : Value} (k : VR E v v') : VR E' v v' := by
  cases v <;> first | exact k | skip
  case pointer a => exact SR.ext h (v := .pointer a) k
  case slice a n c => exact SR.ext h (v := .slice a n c) k
  case map a => exact SR.ext h (v := .map a) k
  case func f a c => exact SR.ext h (v := .func f a c) k
  case agg cs => exact V1.ext h (v := .agg cs) k
  case tuple cs => obtain ⟨cs⟩ := cs; obtain ⟨cs', h1, h2⟩ := k; exact ⟨cs', h1, h2.mono fun _ _ => V1.ext h⟩

theorem SR.one {v v' : Value} (h : SR E v v') : one v = true ∧ one v' = true := by
  cases v <;> first | exact h.elim | skip
  case pointer a => cases a <;> first | (cases h; exact ⟨rfl, rfl⟩) | (obtain ⟨a', rfl, _⟩ := h; exact ⟨rfl, rfl⟩)
  case slice a _ _ => cases a <;> first | (cases h; exact ⟨rfl, rfl⟩) | (obtain ⟨_, r, _, ⟨a', c', rfl, _⟩ | ⟨_, _, _, rfl⟩⟩ := h <;> exact ⟨rfl, rfl⟩)
  case map a => cases a <;> first | (cases h; exact ⟨rfl, rfl⟩) | (obtain ⟨r, _, rfl⟩ := h; exact ⟨rfl, rfl⟩)
  case func f a c => obtain ⟨a⟩ := a; obtain ⟨c⟩ := c; obtain ⟨a', c', rfl, _⟩ := h; exact ⟨rfl, rfl⟩
  all_goals (cases h; exact ⟨rfl, rfl⟩)
theorem SR.vr {v v' : Value} (h : SR E v v') : VR E v v' := by
  cases v <;> first | exact h | exact h.elim
theorem VR.sr {v v' : Value} (h : VR E v v') (h1 : Tum.one v = true) : SR E v v' := by
  cases v <;> first | exact h | cases h1
theorem V1.vr {v v' : Value} (h : V1 E v v') : VR E v v' := by
  cases v <;> first | exact h | exact h.elim
end

def stillS : Value → Bool
  | .pointer (some _) => false
  | .slice (some _) _ _ => false
  | .map (some _) => false
  | .func _ ⟨a⟩ ⟨c⟩ => a.isEmpty && c.isEmpty
  | .agg _ => false
  | .tuple _ => false
  | _ => true
def still : Value → Bool
  | .agg ⟨cs⟩ => cs.all stillS
  | v => stillS v
def notTup : Value → Bool
  | .tuple _ => false
  | _ => true

section
variable {E : Emb}
theorem SR.still {v : Value} (h : stillS v = true) : SR E v v := by
  cases v <;> first | rfl | skip
  case pointer a => cases a <;> first | rfl | cases h
  case slice a _ _ => cases a <;> first | rfl | cases h
  case map a => cases a <;> first | rfl | cases h
  case func f a c =>
    obtain ⟨a⟩ := a; obtain ⟨c⟩ := c
    cases a with
    | cons => cases h
    | nil => cases c with
      | cons => cases h
      | nil => exact ⟨[], [], rfl, trivial, trivial⟩
  case agg => cases h
  case tuple => cases h
theorem SR.eq_still {v v' : Value} (h : stillS v = true) (k : SR E v v') : v' = v := by
  cases v <;> first | exact k | skip
  case pointer a => cases a <;> first | exact k | cases h
  case slice a _ _ => cases a <;> first | exact k | cases h
  case map a => cases a <;> first | exact k | cases h
  case func f a c =>
    obtain ⟨a⟩ := a; obtain ⟨c⟩ := c
    cases a with
    | cons => cases h
    | nil => cases c with
      | cons => cases h
      | nil =>
        obtain ⟨a', c', rfl, h1, h2⟩ := k
        cases a' with
        | cons => exact h1.elim
        | nil => cases c' with
          | cons => exact h2.elim
          | nil => rfl
  case agg => cases h
  case tuple => cases h
theorem L2.eq_still : ∀ {x y : List Value}, x.all stillS = true → L2 (SR E) x y → y = x
  | [], [], _, _ => rfl
  | a :: r, b :: s, h, k => by
    simp only [List.all_cons, Bool.and_eq_true] at h
    rw [SR.eq_still h.1 k.1, L2.eq_still h.2 k.2]
  | [], _ :: _, _, k => k.elim
  | _ :: _, [], _, k => k.elim
theorem VR.still {v : Value} (h : Tum.still v = true) : VR E v v := by
  cases v <;> first | rfl | skip
  case pointer a => exact SR.still (v := .pointer a) h
  case slice a n c => exact SR.still (v := .slice a n c) h
  case map a => exact SR.still (v := .map a) h
  case func f a c => exact SR.still (v := .func f a c) h
  case agg cs => obtain ⟨cs⟩ := cs; exact ⟨cs, rfl, L2.self fun a ha => SR.still (List.all_eq_true.1 h a ha)⟩
  case tuple => cases h
theorem VR.v1 {v v' : Value} (h : VR E v v') (hf : notTup v = true) : V1 E v v' := by
  cases v <;> first | exact h | cases hf
theorem VR.undef : VR E undef undef := ⟨[], rfl, trivial⟩
theorem VR.cells {v v' : Value} (h : VR E v v') (hf : notTup v = true) : L2 (SR E) v.cells.toList v'.cells.toList := by
  cases v <;> first | (cases hf; done) | skip
  case agg cs => obtain ⟨cs⟩ := cs; obtain ⟨cs', rfl, h⟩ := h; exact h
  all_goals (have hs := VR.sr h rfl; have h1 := hs.one.2; rw [one_cells h1, one_cells hs.one.1]; exact ⟨hs, trivial⟩)
theorem VR.cellsL {v v' : Value} (h : VR E v v') (hf : notTup v = true) : L2 (SR E) (cellsL v) (cellsL v') := by
  have := h.cells hf
  have e : ∀ u : Value, Tum.cellsL u = u.cells.toList := by intro u; cases u <;> rfl
  rw [e, e]; exact this
theorem AR.add {a a' : Addr} (h : AR E a a') (k : Nat) : AR E (a.add k) (a'.add k) := by
  obtain ⟨b, o, s⟩ := a
  obtain ⟨h1, r, h2, rfl⟩ := h
  cases h1
  rw [add_none, add_none]
  exact ⟨rfl, r, h2, by simp; omega⟩
end

/-! ### slots -/
/-- what is known of the slots -/
def ER (E : Emb) (l l' : Env) : Prop := ∀ (t : Nat) (v : Value), eget l t = some v → ∃ v', eget l' t = some v' ∧ VR E v v'
theorem ER.ext {E E' : Emb} (h : Ext E E') {l l' : Env} (k : ER E l l') : ER E' l l' := fun t v ht => let ⟨v', h1, h2⟩ := k t v ht; ⟨v', h1, h2.ext h⟩
theorem ER.get {E : Emb} {l l' : Env} {t : Nat} {v : Value} (k : ER E l l') (h : eget l t = some v) : ∃ v', eget l' t = some v' ∧ VR E v v' := k t v h
theorem ER.nil (E : Emb) (l' : Env) : ER E [] l' := fun _ _ h => by cases h
theorem ER.cons {E : Emb} {l l' : Env} {v v' : Value} (d : Nat) (hv : VR E v v') (h : ER E l l') : ER E ((d, v) :: l) ((d, v') :: l') := by
  intro t u ht
  rw [eget_cons] at ht ⊢
  by_cases e : d = t
  · rw [if_pos e] at ht ⊢; cases ht; exact ⟨v', rfl, hv⟩
  · rw [if_neg e] at ht ⊢; exact h t u ht
/-- a slot that is there already -/
theorem ER.more {E : Emb} {l l' : Env} {v v' : Value} {d : Nat} (hv : VR E v v') (hd : eget l' d = some v') (h : ER E l l') : ER E ((d, v) :: l) l' := by
  intro t u ht
  rw [eget_cons] at ht
  by_cases e : d = t
  · rw [if_pos e] at ht; cases ht; subst e; exact ⟨v', hd, hv⟩
  · rw [if_neg e] at ht; exact h t u ht
theorem ER.dpush {E : Emb} {l l' : Env} {v v' : Value} (h : ER E l l') (hv : VR E v v') (d : Option Nat) : ER E (dpush d v l) (dpush d v' l') := by
  cases d with
  | none => exact h
  | some d => exact ER.cons d hv h

def lv (l : Env) : Operand → Option Value
  | .tmp t => eget l t
  | .const v => bif still v then some v else none
  | .global _ => none
  | .func f => some (.func (.func f) #[] #[])
theorem lv_ev {E : Emb} {l l' : Env} {x : Operand} {v : Value} (hl : ER E l l') (h : lv l x = some v) : ∃ v', ev l' x = some v' ∧ VR E v v' := by
  cases x with
  | tmp t => exact hl.get h
  | const u =>
    simp only [lv] at h
    cases hs : still u
    · rw [hs] at h; cases h
    · rw [hs] at h; cases h; exact ⟨v, rfl, VR.still hs⟩
  | global g => cases h
  | func f => cases h; exact ⟨_, rfl, [], [], rfl, trivial, trivial⟩
def lvs (l : Env) : List Operand → Option (List Value)
  | [] => some []
  | x :: r => match lv l x with
    | some v => match lvs l r with
      | some vs => some (v :: vs)
      | none => none
    | none => none
theorem lvs_evs {E : Emb} {l l' : Env} (hl : ER E l l') : ∀ {xs : List Operand} {vs : List Value}, lvs l xs = some vs → ∃ vs', evs l' xs = some vs' ∧ L2 (VR E) vs vs'
  | [], vs, h => by cases h; exact ⟨[], rfl, trivial⟩
  | x :: r, vs, h => by
    simp only [lvs] at h
    cases hx : lv l x with
    | none => rw [hx] at h; cases h
    | some v =>
      rw [hx] at h
      cases hr : lvs l r with
      | none => rw [hr] at h; cases h
      | some us =>
        rw [hr] at h; cases h
        obtain ⟨v', h1, h2⟩ := lv_ev hl hx
        obtain ⟨us', h3, h4⟩ := lvs_evs hl hr
        exact ⟨v' :: us', by simp only [evs, h1, h3], h2, h4⟩

/-! ### rows of bytes, as one number -/
def bv (x i : Nat) : Value := .int .u8 (.ofNat (Nat.mod (Nat.shiftRight x (Nat.mul 8 i)) 256))
def bl (n x : Nat) : List Value := (List.range n).map (bv x)
def blF (x : Nat) : Nat → Nat → List Value
  | _, 0 => []
  | o, n + 1 => bv x o :: blF x (o + 1) n
def bset (x i u : Nat) : Nat := Nat.xor x (Nat.shiftLeft (Nat.xor (Nat.mod (Nat.shiftRight x (Nat.mul 8 i)) 256) u) (Nat.mul 8 i))
theorem bl_length (n x : Nat) : (bl n x).length = n := by simp [bl]
theorem bl_get {n x i : Nat} (h : i < n) : (bl n x)[i]? = some (bv x i) := by simp [bl, h]
theorem blF_length (x : Nat) : ∀ n o, (blF x o n).length = n
  | 0, _ => rfl
  | n + 1, o => by simp [blF, blF_length x n]
theorem blF_eq {x N : Nat} : ∀ n o, o + n ≤ N → ((bl N x).drop o).take n = blF x o n
  | 0, _, _ => by simp [blF]
  | n + 1, o, h => by
    have h1 : o < (bl N x).length := by rw [bl_length]; omega
    rw [List.drop_eq_getElem_cons h1, List.take_succ_cons, blF_eq n (o + 1) (by omega), blF]
    congr 1
    have := bl_get (n := N) (x := x) (i := o) (by omega)
    rw [List.getElem?_eq_getElem h1] at this
    exact Option.some.inj this
theorem bl_still (n x : Nat) : (bl n x).all stillS = true := by
  rw [List.all_eq_true]; intro u hu; obtain ⟨i, _, rfl⟩ := List.mem_map.1 hu; rfl
theorem bset_bv {x i u j : Nat} (hu : u < 256) : bv (bset x i u) j = if j = i then .int .u8 (.ofNat u) else bv x j := by
  show Value.int .u8 (.ofNat (((x ^^^ (((x >>> (8 * i)) % 256 ^^^ u) <<< (8 * i))) >>> (8 * j)) % 256)) = if j = i then .int .u8 (.ofNat u) else .int .u8 (.ofNat ((x >>> (8 * j)) % 256))
  have h8 : (256 : Nat) = 2 ^ 8 := rfl
  have hlt : ((x >>> (8 * i)) % 256 ^^^ u) < 2 ^ 8 := Nat.xor_lt_two_pow (Nat.mod_lt _ (by decide)) hu
  by_cases e : j = i
  · subst e
    rw [if_pos rfl]
    congr 2
    apply Nat.eq_of_testBit_eq
    intro k
    rw [h8]
    simp only [Nat.testBit_mod_two_pow, Nat.testBit_shiftRight, Nat.testBit_xor, Nat.testBit_shiftLeft]
    by_cases hk : k < 8
    · have h1 : 8 * j + k ≥ 8 * j := by omega
      have h2 : 8 * j + k - 8 * j = k := by omega
      simp [hk, h2]
    · have : u.testBit k = false := Nat.testBit_lt_two_pow (Nat.lt_of_lt_of_le hu (by rw [h8]; exact Nat.pow_le_pow_right (by decide) (by omega)))
      simp [hk, this]
  · rw [if_neg e]
    congr 2
    apply Nat.eq_of_testBit_eq
    intro k
    rw [h8] at hlt ⊢
    simp only [Nat.testBit_mod_two_pow, Nat.testBit_shiftRight]
    by_cases hk : k < 8
    · rw [Nat.testBit_xor, Nat.testBit_shiftLeft]
      by_cases hji : j < i
      · have : ¬ (8 * i ≤ 8 * j + k) := by omega
        simp [this]
      · have : ((x >>> (8 * i)) % 2 ^ 8 ^^^ u).testBit (8 * j + k - 8 * i) = false := Nat.testBit_lt_two_pow (Nat.lt_of_lt_of_le hlt (Nat.pow_le_pow_right (by decide) (by omega)))
        rw [this]; simp
    · simp [hk]
theorem bset_bl {n x i u : Nat} (hu : u < 256) : bl n (bset x i u) = (bl n x).set i (.int .u8 (.ofNat u)) := by
  apply List.ext_getElem?
  intro j
  rw [List.getElem?_set]
  by_cases hj : j < n
  · rw [bl_get hj, bl_get hj, bset_bv hu, bl_length]
    by_cases e : j = i
    · subst e; simp [hj]
    · rw [if_neg e, if_neg (Ne.symm e)]
  · rw [List.getElem?_eq_none (by rw [bl_length]; omega), List.getElem?_eq_none (l := bl n x) (by rw [bl_length]; omega), bl_length]
    split
    · rw [if_neg (by omega)]
    · rfl

/-! ### the blocks -/
inductive LB where
  /-- cells; sz: the size of an element, if there may be room behind them (else 0) -/
  | cells (sz : Nat) (vs : List Value)
  /-- a whole block without addresses in it -/
  | data (vs : List Value)
  /-- a whole block of n bytes -/
  | bytes (n x : Nat)
  /-- what grows by append, without addresses in it; if it is empty there need be no block -/
  | gro (sz : Nat) (vs : List Value)
  | map (m : List (Value × Value × Nat)) (c : Nat)
  | iter (m : Option Nat) (since : Nat) (seen : List Nat) (last : Nat)
  | dead
  /-- whatever else is kept in the blocks F, of which its own one is the first -/
  | abs (A : Nat → World → Prop) (F : Nat → Prop)
  /-- a map of whole numbers: keys, elements, when they came -/
  | imap (G : List (Int × Int × Nat)) (c : Nat)
abbrev LH := List LB
def mI (G : List (Int × Int × Nat)) : List (Int × Value × Nat) := G.map fun x => (x.1, .int .i64 x.2.1, x.2.2)

def ME (E : Emb) (x : Value × Value × Nat) (e : MapEntry) : Prop := V1 E x.1 e.key ∧ V1 E x.2.1 e.val ∧ e.born = x.2.2
def M2 (E : Emb) : List (Value × Value × Nat) → List MapEntry → Prop
  | [], [] => True
  | a :: r, b :: s => ME E a b ∧ M2 E r s
  | _, _ => False
theorem M2.ext {E E' : Emb} (h : Ext E E') : ∀ {m : List (Value × Value × Nat)} {es : List MapEntry}, M2 E m es → M2 E' m es
  | [], [], _ => trivial
  | _ :: _, _ :: _, k => ⟨⟨k.1.1.ext h, k.1.2.1.ext h, k.1.2.2⟩, k.2.ext h⟩
  | [], _ :: _, k => k.elim
  | _ :: _, [], k => k.elim
theorem M2.length {E : Emb} : ∀ {m : List (Value × Value × Nat)} {es : List MapEntry}, M2 E m es → es.length = m.length
  | [], [], _ => rfl
  | _ :: _, _ :: _, k => by simp [M2.length k.2]
  | [], _ :: _, k => k.elim
  | _ :: _, [], k => k.elim

def foot (r : Nat × Nat × Nat) : LB → Nat → Prop
  | .dead => fun _ => False
  | .abs _ F => F
  | .gro _ [] => fun _ => False
  | _ => (· = r.1)

def LBis (E : Emb) (w : World) (r : Nat × Nat × Nat) : LB → Prop
  | .cells sz vs => ∃ cs, Blk w r.1 cs ∧ L2 (SR E) vs ((cs.drop r.2.1).take vs.length) ∧ r.2.1 + vs.length + r.2.2 * sz ≤ cs.length ∧ (sz = 0 → r.2.2 = 0)
  | .data vs => Blk w r.1 vs ∧ r.2 = (0, 0)
  | .bytes n x => Blk w r.1 (bl n x) ∧ r.2 = (0, 0)
  | .gro sz vs => (vs = [] ∧ r.2.2 = 0) ∨ (vs ≠ [] ∧ 0 < sz ∧ ∃ cs, Blk w r.1 cs ∧ (cs.drop r.2.1).take vs.length = vs ∧ r.2.1 + vs.length + r.2.2 * sz ≤ cs.length)
  | .map m c => ∃ es : List MapEntry, w.heap[r.1]? = some (.map es.toArray c) ∧ M2 E m es
  | .iter m since seen last => r.2 = (0, 0) ∧ ∃ m', w.heap[r.1]? = some (.mapIter m' since seen.toArray last) ∧ (match m with
    | none => m' = none
    | some b => ∃ q, E[b]? = some q ∧ m' = some q.1)
  | .dead => True
  | .abs A F => A r.1 w ∧ r.2 = (0, 0) ∧ ∀ w1 w2 G, A r.1 w1 → Fr G w1 w2 → (∀ b, F b → ¬ G b) → A r.1 w2
  | .imap G c => Mp (Value.int .i64) w r.1 (mI G) c ∧ Wf (mI G) c

theorem LBis.fr {E : Emb} {w w' : World} {r : Nat × Nat × Nat} {x : LB} {F : Nat → Prop} (h : LBis E w r x) (hf : Fr F w w') (hlt : ∀ b, foot r x b → b < w.heap.size) (hn : ∀ b, foot r x b → ¬ F b) : LBis E w' r x := by
  cases x with
  | cells sz vs => obtain ⟨cs, h1, h2⟩ := h; exact ⟨cs, hf.blk h1 (hn _ rfl), h2⟩
  | data vs => exact ⟨hf.blk h.1 (hn _ rfl), h.2⟩
  | bytes n x => exact ⟨hf.blk h.1 (hn _ rfl), h.2⟩
  | gro sz vs =>
    rcases h with h | ⟨h0, h1, cs, h2, h3⟩
    · exact .inl h
    · refine .inr ⟨h0, h1, cs, hf.blk h2 (hn _ ?_), h3⟩
      cases vs with
      | nil => exact absurd rfl h0
      | cons => rfl
  | map m c => obtain ⟨es, h1, h2⟩ := h; exact ⟨es, (hf.keep _ (Array.getElem?_eq_some_iff.1 h1).1 (hn _ rfl)).trans h1, h2⟩
  | iter m a b c => obtain ⟨h0, es, h1, h2⟩ := h; exact ⟨h0, es, (hf.keep _ (Array.getElem?_eq_some_iff.1 h1).1 (hn _ rfl)).trans h1, h2⟩
  | dead => trivial
  | abs A F => exact ⟨h.2.2 _ _ _ h.1 hf (fun b hb => hn b hb), h.2⟩
  | imap G c => exact ⟨h.1.fr hf (hn _ rfl), h.2⟩
theorem LBis.ext {E E' : Emb} {w : World} {r : Nat × Nat × Nat} {x : LB} (h : LBis E w r x) (he : Ext E E') : LBis E' w r x := by
  cases x with
  | cells sz vs => obtain ⟨cs, h1, h2, h3⟩ := h; exact ⟨cs, h1, h2.mono fun _ _ => SR.ext he, h3⟩
  | data vs => exact h
  | bytes n x => exact h
  | gro sz vs => exact h
  | map m c => obtain ⟨es, h1, h2⟩ := h; exact ⟨es, h1, h2.ext he⟩
  | iter m a b c =>
    obtain ⟨h0, es, h1, h2⟩ := h
    refine ⟨h0, es, h1, ?_⟩
    cases m with
    | none => exact h2
    | some b => obtain ⟨q, h3, h4⟩ := h2; exact ⟨q, he _ _ h3, h4⟩
  | dead => trivial
  | abs A F => exact h
  | imap G c => exact h

/-- the blocks L lie in w as E says; X: those of w0 that may be among them -/
structure Rep (X : Nat → Prop) (w0 : World) (E : Emb) (L : LH) (w : World) : Prop where
  fr : Fr X w0 w
  len : E.length = L.length
  rng : ∀ (k : Nat) (x : LB) (r : Nat × Nat × Nat), L[k]? = some x → E[k]? = some r → ∀ b, foot r x b → (w0.heap.size ≤ b ∨ X b) ∧ b < w.heap.size
  blk : ∀ (k : Nat) (x : LB) (r : Nat × Nat × Nat), L[k]? = some x → E[k]? = some r → LBis E w r x
  inj : ∀ (k k' : Nat) (x x' : LB) (r r' : Nat × Nat × Nat) (b : Nat), L[k]? = some x → L[k']? = some x' → E[k]? = some r → E[k']? = some r' → foot r x b → foot r' x' b → k = k'

theorem Rep.nil (X : Nat → Prop) (w : World) : Rep X w [] [] w := ⟨Fr.refl _ w, rfl, fun k x r h => by simp at h, fun k x r h => by simp at h, fun k k' x x' r r' b h => by simp at h⟩

section
variable {X : Nat → Prop} {w0 w w' : World} {E : Emb} {L : LH}

theorem Rep.ent (h : Rep X w0 E L w) {b : Nat} {x : LB} (hx : L[b]? = some x) : ∃ r, E[b]? = some r :=
  ⟨_, List.getElem?_eq_getElem (by rw [h.len]; exact (List.getElem?_eq_some_iff.1 hx).1)⟩

theorem Rep.frT (h : Rep X w0 E L w) {b : Nat} {y : LB} {r : Nat × Nat × Nat} (hy : L[b]? = some y) (hr : E[b]? = some r) (hf : Fr (foot r y) w w') : Fr X w0 w' :=
  h.fr.trans hf fun c hc e => by rcases (h.rng b y r hy hr c e).1 with h1 | h1 <;> first | omega | exact h1

/-- one block has changed -/
theorem Rep.upd {b : Nat} {x y : LB} {r : Nat × Nat × Nat} (h : Rep X w0 E L w) (hy : L[b]? = some y) (hr : E[b]? = some r) (hf : Fr (foot r y) w w') (hx : LBis E w' r x) (hft : ∀ c, foot r x c → foot r y c ∨ (w.heap.size ≤ c ∧ c < w'.heap.size)) : Rep X w0 E (L.set b x) w' := by
  have hlt := (List.getElem?_eq_some_iff.1 hy).1
  have cut : ∀ (k : Nat) (z : LB), (L.set b x)[k]? = some z → (k = b ∧ z = x) ∨ (k ≠ b ∧ L[k]? = some z) := by
    intro k z hz
    rw [List.getElem?_set] at hz
    by_cases e : b = k
    · subst e
      rw [if_pos rfl, if_pos hlt] at hz; cases hz
      exact .inl ⟨rfl, rfl⟩
    · rw [if_neg e] at hz; exact .inr ⟨fun e' => e e'.symm, hz⟩
  have frs := h.fr.size
  refine ⟨h.frT hy hr hf, by rw [h.len, List.length_set], fun k z r' hz hr' c hc => ?_, fun k z r' hz hr' => ?_, fun k k' z z' r1 r2 c hz hz' h1 h2 e1 e2 => ?_⟩
  · rcases cut k z hz with ⟨rfl, rfl⟩ | ⟨_, hz⟩
    · rw [hr] at hr'; cases hr'
      rcases hft c hc with h1 | h1
      · have := h.rng _ y _ hy hr c h1; exact ⟨this.1, Nat.lt_of_lt_of_le this.2 hf.size⟩
      · exact ⟨.inl (by omega), h1.2⟩
    · have := h.rng k z r' hz hr' c hc; exact ⟨this.1, Nat.lt_of_lt_of_le this.2 hf.size⟩
  · rcases cut k z hz with ⟨rfl, rfl⟩ | ⟨hne, hz⟩
    · rw [hr] at hr'; cases hr'; exact hx
    · exact (h.blk k z r' hz hr').fr hf (fun c hc => (h.rng k z r' hz hr' c hc).2) fun c hc hc' => hne (h.inj k b z y r' r c hz hy hr' hr hc hc')
  · rcases cut k z hz with ⟨rfl, rfl⟩ | ⟨hne, hz0⟩
    · rcases cut k' z' hz' with ⟨rfl, rfl⟩ | ⟨hne', hz'⟩
      · rfl
      · rw [hr] at h1; cases h1
        rcases hft c e1 with h3 | h3
        · exact absurd (h.inj _ _ y z' _ _ c hy hz' hr h2 h3 e2).symm hne'
        · have := (h.rng _ _ _ hz' h2 c e2).2; omega
    · rcases cut k' z' hz' with ⟨rfl, rfl⟩ | ⟨hne', hz1⟩
      · rw [hr] at h2; cases h2
        rcases hft c e2 with h3 | h3
        · exact absurd (h.inj _ _ z y _ _ c hz0 hy h1 hr e1 h3) hne
        · have := (h.rng _ _ _ hz0 h1 c e1).2; omega
      · exact h.inj k k' z z' r1 r2 c hz0 hz1 h1 h2 e1 e2

/-- one more block -/
theorem Rep.push {x : LB} {r : Nat × Nat × Nat} (h : Rep X w0 E L w) (hf : Fr (fun _ => False) w w') (hft : ∀ b, foot r x b → w.heap.size ≤ b ∧ b < w'.heap.size) (hx : LBis (E ++ [r]) w' r x) : Rep X w0 (E ++ [r]) (L ++ [x]) w' := by
  have cut : ∀ (k : Nat) (z : LB) (r' : Nat × Nat × Nat), (L ++ [x])[k]? = some z → (E ++ [r])[k]? = some r' → (L[k]? = some z ∧ E[k]? = some r') ∨ (k = E.length ∧ z = x ∧ r' = r) := by
    intro k z r' hz hk
    rw [List.getElem?_append] at hk hz
    rw [h.len] at hk
    split at hk
    · rename_i hlt; rw [if_pos hlt] at hz; exact .inl ⟨hz, hk⟩
    · rename_i hlt
      rw [if_neg hlt] at hz
      have : k = E.length := by
        have := (List.getElem?_eq_some_iff.1 hk).1
        simp at this; rw [h.len]; omega
      subst this
      rw [h.len] at hk hz
      simp at hk hz
      exact .inr ⟨rfl, hz.symm, hk.symm⟩
  refine ⟨h.fr.trans hf fun _ _ e => e.elim, by simp [h.len], fun k z r' hz hk c hc => ?_, fun k z r' hz hk => ?_, fun k k' z z' r1 r2 c hz hz' h1 h2 e1 e2 => ?_⟩
  · rcases cut k z r' hz hk with ⟨a0, a1⟩ | ⟨_, rfl, rfl⟩
    · have h1 := h.rng k z r' a0 a1 c hc; have := hf.size; exact ⟨h1.1, by omega⟩
    · have := h.fr.size; have := hft c hc; exact ⟨.inl (by omega), by omega⟩
  · rcases cut k z r' hz hk with ⟨a0, a1⟩ | ⟨_, rfl, rfl⟩
    · exact ((h.blk k z r' a0 a1).fr hf (fun c hc => (h.rng k z r' a0 a1 c hc).2) fun _ _ e => e).ext (Ext.push E r)
    · exact hx
  · rcases cut k z r1 hz h1 with ⟨a0, a1⟩ | ⟨rfl, rfl, rfl⟩
    · rcases cut k' z' r2 hz' h2 with ⟨b0, b1⟩ | ⟨rfl, rfl, rfl⟩
      · exact h.inj k k' z z' r1 r2 c a0 b0 a1 b1 e1 e2
      · have := (h.rng k z r1 a0 a1 c e1).2; have := hft c e2; omega
    · rcases cut k' z' r2 hz' h2 with ⟨b0, b1⟩ | ⟨rfl, rfl, rfl⟩
      · have := (h.rng k' z' r2 b0 b1 c e2).2; have := hft c e1; omega
      · rfl

theorem Rep.push1 {x : LB} {r : Nat × Nat × Nat} (h : Rep X w0 E L w) (hf : Fr (fun _ => False) w w') (hr : r.1 = w.heap.size) (hs : w'.heap.size = w.heap.size + 1) (hft : ∀ b, foot r x b → b = r.1) (hx : LBis (E ++ [r]) w' r x) : Rep X w0 (E ++ [r]) (L ++ [x]) w' :=
  h.push hf (fun b hb => by have := hft b hb; omega) hx

def LB.vals : LB → Option (List Value)
  | .cells _ vs => some vs
  | .data vs => bif vs.all stillS then some vs else none
  | .bytes n x => some (bl n x)
  | .gro _ vs => bif vs.all stillS then some vs else none
  | _ => none

def lcell (L : LH) (a : Addr) : Option Value :=
  match a with
  | ⟨b, o, none⟩ => match L[b]? with
    | some (.cells _ vs) => vs[o]?
    | some (.data vs) => match vs[o]? with
      | some v => bif stillS v then some v else none
      | none => none
    | some (.bytes n x) => bif Nat.blt o n then (match Nat.mod (Nat.shiftRight x (Nat.mul 8 o)) 256 with
      | 0 => some (.int .u8 (.ofNat 0))
      | k + 1 => some (.int .u8 (.ofNat (k + 1)))) else none
    | some (.gro _ vs) => match vs[o]? with
      | some v => bif stillS v then some v else none
      | none => none
    | _ => none
  | _ => none

theorem lcell_ok (h : Rep X w0 E L w) {a a' : Addr} {v : Value} (ha : AR E a a') (hc : lcell L a = some v) : ∃ v', w.cell? a' = some v' ∧ SR E v v' := by
  obtain ⟨b, o, s⟩ := a
  obtain ⟨h1, r, h2, rfl⟩ := ha
  cases h1
  simp only [lcell] at hc
  cases hb : L[b]? with
  | none => rw [hb] at hc; cases hc
  | some x =>
    rw [hb] at hc
    cases x <;> first | (cases hc; done) | skip
    case cells sz vs =>
      obtain ⟨cs, hB, hl, _, _⟩ := h.blk b _ r hb h2
      obtain ⟨v', h3, h4⟩ := hl.get hc
      refine ⟨v', hB.cell ?_, h4⟩
      rw [List.getElem?_take] at h3
      split at h3
      · rw [List.getElem?_drop] at h3; rw [← h3]; congr 1; simp; omega
      · cases h3
    case data vs =>
      obtain ⟨hB, hr0⟩ := h.blk b _ r hb h2
      obtain ⟨r1, r2⟩ := r
      simp only at hr0; subst hr0
      simp only at hc
      cases hv : vs[o]? with
      | none => rw [hv] at hc; cases hc
      | some u =>
        rw [hv] at hc
        simp only at hc
        cases hs : stillS u
        · rw [hs] at hc; cases hc
        · rw [hs] at hc; cases hc
          exact ⟨v, hB.cell (by simpa using hv), SR.still hs⟩
    case bytes n x =>
      obtain ⟨hB, hr0⟩ := h.blk b _ r hb h2
      obtain ⟨r1, r2⟩ := r
      simp only at hr0; subst hr0
      simp only at hc
      cases hlt : Nat.blt o n
      · rw [hlt] at hc; cases hc
      · rw [hlt] at hc
        have hc : some (bv x o) = some v := by
          rw [← hc]
          show some (Value.int .u8 (.ofNat (Nat.mod (Nat.shiftRight x (Nat.mul 8 o)) 256))) = _
          cases Nat.mod (Nat.shiftRight x (Nat.mul 8 o)) 256 <;> rfl
        cases hc
        have hlt : o < n := Nat.le_of_ble_eq_true hlt
        exact ⟨_, hB.cell (by simpa using bl_get hlt), rfl⟩
    case gro sz vs =>
      simp only at hc
      cases hv : vs[o]? with
      | none => rw [hv] at hc; cases hc
      | some u =>
        rw [hv] at hc
        simp only at hc
        cases hs : stillS u
        · rw [hs] at hc; cases hc
        · rw [hs] at hc; cases hc
          rcases h.blk b _ r hb h2 with ⟨rfl, _⟩ | ⟨_, _, cs, hB, hcs, hle⟩
          · simp at hv
          · refine ⟨v, hB.cell ?_, SR.still hs⟩
            rw [← hcs] at hv
            rw [List.getElem?_take] at hv
            split at hv
            · rw [List.getElem?_drop] at hv; rw [← hv]; congr 1; simp; omega
            · cases hv

def lcells (L : LH) (a : Addr) (n : Nat) : Option (List Value) :=
  match a with
  | ⟨b, o, none⟩ => match L[b]? with
    | some (.cells _ vs) => bif Nat.ble (o + n) vs.length then some ((vs.drop o).take n) else none
    | some (.data vs) => bif Nat.ble (o + n) vs.length && ((vs.drop o).take n).all stillS then some ((vs.drop o).take n) else none
    | some (.bytes N x) => bif Nat.ble (o + n) N then some (blF x o n) else none
    | some (.gro _ vs) => bif Nat.ble (o + n) vs.length && ((vs.drop o).take n).all stillS && !vs.isEmpty then some ((vs.drop o).take n) else none
    | _ => none
  | _ => none

theorem lcells_ok (h : Rep X w0 E L w) {a a' : Addr} {n : Nat} {vs : List Value} (ha : AR E a a') (hc : lcells L a n = some vs) :
    ∃ cs vs' : List Value, Blk w a'.block cs ∧ a'.spot = none ∧ a'.off + n ≤ cs.length ∧ vs' = (cs.drop a'.off).take n ∧ L2 (SR E) vs vs' ∧ vs'.length = n := by
  obtain ⟨b, o, s⟩ := a
  obtain ⟨h1, r, h2, rfl⟩ := ha
  cases h1
  simp only [lcells] at hc
  cases hb : L[b]? with
  | none => rw [hb] at hc; cases hc
  | some x =>
    rw [hb] at hc
    cases x <;> first | (cases hc; done) | skip
    case cells sz us =>
      simp only at hc
      cases hl : Nat.ble (o + n) us.length
      · rw [hl] at hc; cases hc
      · rw [hl] at hc; cases hc
        have hle := Nat.le_of_ble_eq_true hl
        obtain ⟨cs, hB, h3, h4, _⟩ := h.blk b _ r hb h2
        have h5 := (h3.drop o).take n
        have e : (((cs.drop r.2.1).take us.length).drop o).take n = (cs.drop (o + r.2.1)).take n := by
          rw [List.drop_take, List.take_take, List.drop_drop]
          congr 1
          · omega
          · rw [Nat.add_comm]
        rw [e] at h5
        exact ⟨cs, _, hB, rfl, by simp; omega, rfl, h5, by simp; omega⟩
    case data us =>
      simp only at hc
      cases hl : (Nat.ble (o + n) us.length && ((us.drop o).take n).all stillS)
      · rw [hl] at hc; cases hc
      · rw [hl] at hc; cases hc
        rw [Bool.and_eq_true] at hl
        have hle := Nat.le_of_ble_eq_true hl.1
        obtain ⟨hB, hr0⟩ := h.blk b _ r hb h2
        obtain ⟨r1, r2⟩ := r
        simp only at hr0; subst hr0
        exact ⟨us, _, hB, rfl, by simp; omega, rfl, by simpa using L2.self fun a ha => SR.still (List.all_eq_true.1 hl.2 a ha), by simp; omega⟩
    case bytes N y =>
      simp only at hc
      cases hl : Nat.ble (o + n) N
      · rw [hl] at hc; cases hc
      · rw [hl] at hc; cases hc
        have hle := Nat.le_of_ble_eq_true hl
        obtain ⟨hB, hr0⟩ := h.blk b _ r hb h2
        obtain ⟨r1, r2⟩ := r
        simp only at hr0; subst hr0
        have hq := blF_eq (x := y) n o hle
        refine ⟨_, _, hB, rfl, by rw [bl_length]; simpa using hle, rfl, ?_, by simp [bl_length]; omega⟩
        simp only [Nat.add_zero]
        rw [hq]
        exact L2.self fun a ha => SR.still (List.all_eq_true.1 (bl_still N y) a (List.mem_of_mem_drop (List.mem_of_mem_take (hq ▸ ha))))
    case gro sz us =>
      simp only at hc
      cases hl : (Nat.ble (o + n) us.length && ((us.drop o).take n).all stillS && !us.isEmpty)
      · rw [hl] at hc; cases hc
      · rw [hl] at hc; cases hc
        simp only [Bool.and_eq_true] at hl
        have hle := Nat.le_of_ble_eq_true hl.1.1
        rcases h.blk b _ r hb h2 with ⟨rfl, _⟩ | ⟨_, _, cs, hB, hcs, hle2⟩
        · simp at hl
        · have e : (cs.drop (o + r.2.1)).take n = (us.drop o).take n := by
            have h6 : (us.drop o).take n = (((cs.drop r.2.1).take us.length).drop o).take n := by rw [hcs]
            rw [h6, List.drop_take, List.take_take, List.drop_drop]
            congr 1
            · omega
            · rw [Nat.add_comm]
          refine ⟨cs, _, hB, rfl, by simp; omega, rfl, ?_, by simp; omega⟩
          simp only [e]
          exact L2.self fun a ha => SR.still (List.all_eq_true.1 hl.1.2 a ha)
end
end Go.Tum
