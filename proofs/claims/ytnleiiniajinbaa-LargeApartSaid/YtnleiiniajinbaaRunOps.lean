/-
  Runs by reckoning: the operations that leave the world.
-/
import Derived.Test.YtnleiiniajinbaaRun
namespace Go.Tum
open Go

def bldL (l : Env) : List Value → List (Nat × Nat × Operand) → Option (List Value)
  | zero, [] => some zero
  | zero, (off, sz, x) :: r => match lv l x with
    | some u => bif notTup u && Nat.beq (cellsL u).length sz then (match setL zero off (cellsL u) with
      | some z => bldL l z r
      | none => none) else none
    | none => none

theorem setL_L2 {R : Value → Value → Prop} : ∀ (z : List Value) (o : Nat) (vs : List Value) {r z' vs' : List Value}, setL z o vs = some r → L2 R z z' → L2 R vs vs' → ∃ r', setL z' o vs' = some r' ∧ L2 R r r'
  | z, o, [], r, z', vs', h, hz, hv => by
    cases vs' with
    | cons => exact hv.elim
    | nil => simp only [setL] at h; cases h; exact ⟨z', by simp [setL], hz⟩
  | [], o, v :: vs, r, z', vs', h, hz, hv => by simp only [setL] at h; cases h
  | a :: z, 0, v :: vs, r, z', vs', h, hz, hv => by
    cases z' with
    | nil => exact hz.elim
    | cons a' z' =>
      cases vs' with
      | nil => exact hv.elim
      | cons v' vs' =>
        simp only [setL] at h
        cases hq : setL z 0 vs with
        | none => rw [hq] at h; cases h
        | some r1 =>
          rw [hq] at h; cases h
          obtain ⟨r', h1, h2⟩ := setL_L2 z 0 vs hq hz.2 hv.2
          exact ⟨v' :: r', by simp only [setL, h1], hv.1, h2⟩
  | a :: z, o + 1, v :: vs, r, z', vs', h, hz, hv => by
    cases z' with
    | nil => exact hz.elim
    | cons a' z' =>
      cases vs' with
      | nil => exact hv.elim
      | cons v' vs' =>
        simp only [setL] at h
        cases hq : setL z o (v :: vs) with
        | none => rw [hq] at h; cases h
        | some r1 =>
          rw [hq] at h; cases h
          obtain ⟨r', h1, h2⟩ := setL_L2 z o (v :: vs) hq hz.2 hv
          exact ⟨a' :: r', by simp only [setL, h1], hz.1, h2⟩
theorem bldL_ok {E : Emb} {l l' : Env} (hl : ER E l l') : ∀ (ps : List (Nat × Nat × Operand)) (z z' : List Value) {vs : List Value}, bldL l z ps = some vs → L2 (SR E) z z' → ∃ vs', bldv l' z' ps = some vs' ∧ L2 (SR E) vs vs'
  | [], z, z', vs, h, hz => by cases h; exact ⟨z', rfl, hz⟩
  | (off, sz, x) :: r, z, z', vs, h, hz => by
    simp only [bldL] at h
    cases hx : lv l x with
    | none => rw [hx] at h; cases h
    | some u =>
      rw [hx] at h
      simp only at h
      cases hb : (notTup u && Nat.beq (cellsL u).length sz)
      · rw [hb] at h; cases h
      · rw [hb] at h
        simp only [cond_true] at h
        rw [Bool.and_eq_true] at hb
        cases hq : setL z off (cellsL u) with
        | none => rw [hq] at h; cases h
        | some z1 =>
          rw [hq] at h
          obtain ⟨u', h1, h2⟩ := lv_ev hl hx
          have hc := h2.cellsL hb.1
          obtain ⟨z2, h3, h4⟩ := setL_L2 _ _ _ hq hz hc
          obtain ⟨vs', h5, h6⟩ := bldL_ok hl r z1 z2 h h4
          refine ⟨vs', ?_, h6⟩
          simp only [bldv, h1, hc.length, hb.2, cond_true, h3, h5]

def lint (l : Env) (x : Operand) : Option Int :=
  match lv l x with
  | some (.int _ i) => some i
  | _ => none
theorem lint_ok {E : Emb} {l l' : Env} {x : Operand} {i : Int} (hl : ER E l l') (h : lint l x = some i) : ∃ k, ev l' x = some (.int k i) := by
  unfold lint at h
  cases hx : lv l x with
  | none => rw [hx] at h; cases h
  | some v =>
    rw [hx] at h
    cases v <;> first | (cases h; done) | skip
    case int k j => cases h; obtain ⟨v', h1, rfl⟩ := lv_ev hl hx; exact ⟨k, h1⟩

def lbound (l : Env) (x : Option Operand) (d : Nat) : Option Nat :=
  match x with
  | none => some d
  | some x => match lint l x with
    | some (.ofNat i) => some i
    | _ => none
theorem lbound_ok {E : Emb} {l l' : Env} {x : Option Operand} {d k : Nat} (hl : ER E l l') (h : lbound l x d = some k) : obound l' x d k := by
  cases x with
  | none => cases h; rfl
  | some x =>
    simp only [lbound] at h
    cases hi : lint l x with
    | none => rw [hi] at h; cases h
    | some i =>
      rw [hi] at h
      cases i with
      | negSucc i => cases h
      | ofNat i => cases h; obtain ⟨kd, hk⟩ := lint_ok hl hi; exact ⟨kd, _, hk, Int.natCast_nonneg _, rfl⟩

def lptr (l : Env) (x : Operand) : Option Addr :=
  match lv l x with
  | some (.pointer (some p)) => some p
  | _ => none
theorem lptr_ok {E : Emb} {l l' : Env} {x : Operand} {p : Addr} (hl : ER E l l') (h : lptr l x = some p) : ∃ p', ev l' x = some (.pointer (some p')) ∧ AR E p p' := by
  unfold lptr at h
  cases hx : lv l x with
  | none => rw [hx] at h; cases h
  | some v =>
    rw [hx] at h
    cases v <;> first | (cases h; done) | skip
    case pointer a =>
    cases a <;> cases h
    obtain ⟨v', h1, a', rfl, h2⟩ := lv_ev hl hx
    exact ⟨a', h1, h2⟩

def ikEq (a b : IntKind) : Bool := decide (a = b)

def s0 : Value → Bool
  | .func _ _ _ => false
  | .agg _ => false
  | .tuple _ => false
  | _ => true
theorem VR.s0 {E : Emb} {v v' : Value} (h : VR E v v') (h0 : Tum.s0 v = true) : S0 E v v' := by
  cases v <;> first | exact h | cases h0
theorem L2.s0 {E : Emb} : ∀ {x y : List Value}, x.all Tum.s0 = true → L2 (VR E) x y → L2 (S0 E) x y
  | [], [], _, _ => trivial
  | _ :: _, _ :: _, h, k => by
    simp only [List.all_cons, Bool.and_eq_true] at h
    exact ⟨k.1.s0 h.1, L2.s0 h.2 k.2⟩
  | [], _ :: _, _, k => k.elim
  | _ :: _, [], _, k => k.elim

def lq (lraw : LH → Env → Oper → Option Value) (L : LH) (l : Env) : QOp → Option Value
  | .mov x => lv l x
  | .pick c a b => match lv l c with
    | some (.bool t) => bif t then lv l a else lv l b
    | _ => none
  | .nilc x => match lv l x with
    | some (.pointer (some p)) => some (.pointer (some p))
    | some (.func (.func f) a c) => some (.func (.func f) a c)
    | _ => none
  | .fld x off => match lptr l x with
    | some p => some (.pointer (some (p.add off)))
    | none => none
  | .fldv x off => match lv l x with
    | some (.agg ⟨cs⟩) => cs[off]?
    | _ => none
  | .fldn x off k => match lv l x with
    | some (.agg ⟨cs⟩) => some (.agg ⟨(cs.take (off + k)).drop off⟩)
    | _ => none
  | .idx x i size => match lv l x, lint l i with
    | some (.slice (some p) n _), some (.ofNat j) => bif Nat.blt j n then some (.pointer (some (p.add (j * size)))) else none
    | _, _ => none
  | .idxa x i n size => match lptr l x, lint l i with
    | some p, some (.ofNat j) => bif Nat.blt j n then some (.pointer (some (p.add (j * size)))) else none
    | _, _ => none
  | .ext x k => match lv l x with
    | some (.tuple ⟨vs⟩) => vs[k]?
    | _ => none
  | .bin op x y => match lv l x, lv l y with
    | some (.int k a), some (.int k' b) => bif ikEq k k' then (match ibin op k a b with
      | some v => bif still v then some v else none
      | none => none) else none
    | _, _ => none
  | .nilp neg x => match lv l x with
    | some (.pointer p) => some (.bool (if neg then p.isSome else p.isNone))
    | _ => none
  | .un op x => match op, lv l x with
    | .not, some (.bool b) => some (.bool (!b))
    | .neg, some (.int k n) => some (.int k (k.wrap (0 - n)))
    | _, _ => none
  | .cvi k x => match lint l x with
    | some i => some (.int k (k.wrap i))
    | none => none
  | .len x => match lv l x with
    | some (.slice _ n _) => some (.int .i64 n)
    | _ => none
  | .slc x lo hi size => match lv l x with
    | some (.slice p n c) => match lbound l lo 0, lbound l hi n with
      | some lo', some hi' => bif Nat.ble lo' hi' && Nat.ble hi' c then (match p with
        | none => some (.slice none (hi' - lo') (c - lo'))
        | some p => some (.slice (some (p.add (lo' * size))) (hi' - lo') (c - lo'))) else none
      | _, _ => none
    | _ => none
  | .bld zero parts => bif zero.all stillS then (match bldL l zero parts with
      | some vs => some (.agg ⟨vs⟩)
      | none => none) else none
  | .ld x => match lptr l x with
    | some p => lcell L p
    | none => none
  | .ldn x n => match lptr l x with
    | some p => match lcells L p n with
      | some vs => some (.agg ⟨vs⟩)
      | none => none
    | none => none
  | .sh lft x y => match lv l x, lv l y with
    | some (.int k a), some (.int _ (.ofNat n)) => some (.int k (ishift lft k a (.ofNat n)))
    | _, _ => none
  | .xorn x => match lv l x with
    | some (.int k n) => some (.int k (ixorn k n))
    | _ => none
  | .mm mx x y => match lv l x, lv l y with
    | some (.int k a), some (.int k' b) => bif ikEq k k' then some (.int k (imm mx a b)) else none
    | _, _ => none
  | .mkf fn first cap => match lvs l first, lvs l cap with
    | some a, some c => bif a.all s0 && c.all s0 then some (.func fn ⟨a⟩ ⟨c⟩) else none
    | _, _ => none
  | .raw o => lraw L l o

/-- what is asked of the rest: it says what the model's operation does -/
def RawOk (P : Program) (lraw : LH → Env → Oper → Option Value) : Prop :=
  ∀ X w0 w E L l l' o v, lraw L l o = some v → Rep X w0 E L w → ER E l l' → ∃ v', (QOp.raw o).Y P l' v' w ∧ VR E v v'

theorem lq_ok {P : Program} {lraw : LH → Env → Oper → Option Value} (hr : RawOk P lraw) {X : Nat → Prop} {w0 w : World} {E : Emb} {L : LH} {l l' : Env} {q : QOp} {v : Value} (h : lq lraw L l q = some v) (hR : Rep X w0 E L w) (hl : ER E l l') :
    ∃ v', q.Y P l' v' w ∧ VR E v v' := by
  cases q with
  | mov x => exact lv_ev hl h
  | pick c a b =>
    simp only [lq] at h
    cases hc : lv l c with
    | none => rw [hc] at h; cases h
    | some t =>
      rw [hc] at h
      cases t <;> first | (cases h; done) | skip
      case bool t =>
      obtain ⟨t', h1, rfl⟩ := lv_ev hl hc
      cases t
      · obtain ⟨v', h2, h3⟩ := lv_ev hl h; exact ⟨v', ⟨false, h1, h2⟩, h3⟩
      · obtain ⟨v', h2, h3⟩ := lv_ev hl h; exact ⟨v', ⟨true, h1, h2⟩, h3⟩
  | nilc x =>
    simp only [lq] at h
    cases hx : lv l x with
    | none => rw [hx] at h; cases h
    | some u =>
      rw [hx] at h
      obtain ⟨u', h1, h2⟩ := lv_ev hl hx
      split at h <;> first | (cases h; done) | skip
      · rename_i p hp
        cases hp; cases h
        obtain ⟨p', rfl, h3⟩ := h2
        exact ⟨_, .inl ⟨p', h1, rfl⟩, p', rfl, h3⟩
      · rename_i f a c hp
        cases hp; cases h
        obtain ⟨a⟩ := a
        obtain ⟨c⟩ := c
        obtain ⟨a', c', rfl, h3⟩ := h2
        exact ⟨_, .inr ⟨f, ⟨a'⟩, ⟨c'⟩, h1, rfl⟩, a', c', rfl, h3⟩
  | fld x off =>
    simp only [lq] at h
    cases hx : lptr l x with
    | none => rw [hx] at h; cases h
    | some p => rw [hx] at h; cases h; obtain ⟨⟨b, o, s⟩, h1, h2⟩ := lptr_ok hl hx; exact ⟨_, ⟨b, o, s, h1, rfl⟩, _, rfl, h2.add off⟩
  | fldv x off =>
    simp only [lq] at h
    cases hx : lv l x with
    | none => rw [hx] at h; cases h
    | some u =>
      rw [hx] at h
      cases u <;> first | (cases h; done) | skip
      case agg cs =>
      obtain ⟨cs⟩ := cs
      obtain ⟨u', h1, cs', rfl, h2⟩ := lv_ev hl hx
      obtain ⟨v', h3, h4⟩ := h2.get h
      exact ⟨v', ⟨_, h1, by simpa using h3⟩, h4.vr⟩
  | fldn x off k =>
    simp only [lq] at h
    cases hx : lv l x with
    | none => rw [hx] at h; cases h
    | some u =>
      rw [hx] at h
      cases u <;> first | (cases h; done) | skip
      case agg cs =>
      obtain ⟨cs⟩ := cs
      cases h
      obtain ⟨u', h1, cs', rfl, h2⟩ := lv_ev hl hx
      refine ⟨_, ⟨_, h1, rfl⟩, ((cs'.take (off + k)).drop off), ?_, (h2.take (off + k)).drop off⟩
      simp [List.drop_take]
  | idx x i size =>
    simp only [lq] at h
    cases hx : lv l x with
    | none => rw [hx] at h; cases h
    | some u =>
      rw [hx] at h
      cases u <;> first | (cases h; done) | skip
      case slice p n c =>
      cases p <;> first | (cases h; done) | skip
      case some p =>
      cases hi : lint l i with
      | none => rw [hi] at h; cases h
      | some j =>
        rw [hi] at h
        cases j <;> first | (cases h; done) | skip
        case ofNat j =>
        simp only at h
        cases hb : Nat.blt j n
        · rw [hb] at h; cases h
        · rw [hb] at h; cases h
          have hlt : j < n := Nat.le_of_ble_eq_true hb
          obtain ⟨k, hk⟩ := lint_ok hl hi
          obtain ⟨u', h1, h2, r, h3, ⟨a', c', rfl, h4⟩ | ⟨h4, _⟩⟩ := lv_ev hl hx
          rotate_left
          · omega
          rcases h4 with ⟨h4, h5⟩ | ⟨h4, _⟩
          · exact ⟨_, ⟨_, n, _, k, _, h1, hk, Int.natCast_nonneg _, by simpa using hlt, rfl⟩, _, rfl, AR.add ⟨h2, r, h3, h4⟩ _⟩
          · omega
  | idxa x i n size =>
    simp only [lq] at h
    cases hx : lptr l x with
    | none => rw [hx] at h; cases h
    | some p =>
      rw [hx] at h
      cases hi : lint l i with
      | none => rw [hi] at h; cases h
      | some j =>
        rw [hi] at h
        cases j <;> first | (cases h; done) | skip
        case ofNat j =>
        simp only at h
        cases hb : Nat.blt j n
        · rw [hb] at h; cases h
        · rw [hb] at h; cases h
          have hlt : j < n := Nat.le_of_ble_eq_true hb
          obtain ⟨k, hk⟩ := lint_ok hl hi
          obtain ⟨p', h1, h2⟩ := lptr_ok hl hx
          exact ⟨_, ⟨_, k, _, h1, hk, Int.natCast_nonneg _, by simpa using hlt, rfl⟩, _, rfl, h2.add _⟩
  | ext x k =>
    simp only [lq] at h
    cases hx : lv l x with
    | none => rw [hx] at h; cases h
    | some u =>
      rw [hx] at h
      cases u <;> first | (cases h; done) | skip
      case tuple cs =>
      obtain ⟨cs⟩ := cs
      obtain ⟨u', h1, cs', rfl, h2⟩ := lv_ev hl hx
      obtain ⟨v', h3, h4⟩ := h2.get h
      exact ⟨v', ⟨_, h1, by simpa using h3⟩, h4.vr⟩
  | bin op x y =>
    simp only [lq] at h
    cases hx : lv l x with
    | none => rw [hx] at h; cases h
    | some u =>
      rw [hx] at h
      cases u <;> first | (cases h; done) | skip
      case int k a =>
      cases hy : lv l y with
      | none => rw [hy] at h; cases h
      | some u =>
        rw [hy] at h
        cases u <;> first | (cases h; done) | skip
        case int k' b =>
        simp only at h
        cases he : ikEq k k'
        · rw [he] at h; cases h
        · rw [he] at h
          have he := of_decide_eq_true he
          subst he
          simp only [cond_true] at h
          cases hb : ibin op k a b with
          | none => rw [hb] at h; cases h
          | some u =>
            rw [hb] at h
            simp only at h
            cases hs : still u
            · rw [hs] at h; cases h
            · rw [hs] at h; cases h
              obtain ⟨_, h1, rfl⟩ := lv_ev hl hx
              obtain ⟨_, h2, rfl⟩ := lv_ev hl hy
              exact ⟨v, ⟨k, a, b, h1, h2, hb⟩, VR.still hs⟩
  | nilp neg x =>
    simp only [lq] at h
    cases hx : lv l x with
    | none => rw [hx] at h; cases h
    | some u =>
      rw [hx] at h
      cases u <;> first | (cases h; done) | skip
      case pointer p =>
      cases h
      cases p with
      | none => obtain ⟨_, h1, rfl⟩ := lv_ev hl hx; exact ⟨_, ⟨_, h1, rfl⟩, rfl⟩
      | some p => obtain ⟨_, h1, p', rfl, _⟩ := lv_ev hl hx; exact ⟨_, ⟨_, h1, rfl⟩, rfl⟩
  | un op x =>
    simp only [lq] at h
    cases hx : lv l x with
    | none => rw [hx] at h; cases op <;> cases h
    | some u =>
      rw [hx] at h
      cases op <;> first | (cases h; done) | skip
      case not =>
        cases u <;> first | (cases h; done) | skip
        cases h; obtain ⟨_, h1, rfl⟩ := lv_ev hl hx; exact ⟨_, .inl ⟨_, rfl, h1, rfl⟩, rfl⟩
      case neg =>
        cases u <;> first | (cases h; done) | skip
        cases h; obtain ⟨_, h1, rfl⟩ := lv_ev hl hx; exact ⟨_, .inr ⟨_, _, rfl, h1, rfl⟩, rfl⟩
  | cvi k x =>
    simp only [lq] at h
    cases hx : lint l x with
    | none => rw [hx] at h; cases h
    | some i => rw [hx] at h; cases h; obtain ⟨k', hk⟩ := lint_ok hl hx; exact ⟨_, ⟨k', i, hk, rfl⟩, rfl⟩
  | len x =>
    simp only [lq] at h
    cases hx : lv l x with
    | none => rw [hx] at h; cases h
    | some u =>
      rw [hx] at h
      cases u <;> first | (cases h; done) | skip
      case slice p n c =>
      cases h
      cases p with
      | none => obtain ⟨_, h1, rfl⟩ := lv_ev hl hx; exact ⟨_, ⟨_, _, _, h1, rfl⟩, rfl⟩
      | some p => obtain ⟨_, h1, _, r, _, ⟨a', c', rfl, _⟩ | ⟨rfl, _, _, rfl⟩⟩ := lv_ev hl hx <;> exact ⟨_, ⟨_, _, _, h1, rfl⟩, rfl⟩
  | slc x lo hi size =>
    simp only [lq] at h
    cases hx : lv l x with
    | none => rw [hx] at h; cases h
    | some u =>
      rw [hx] at h
      cases u <;> first | (cases h; done) | skip
      case slice p n c =>
      simp only at h
      cases hlo : lbound l lo 0 with
      | none => rw [hlo] at h; cases h
      | some lo' =>
        rw [hlo] at h
        cases hhi : lbound l hi n with
        | none => rw [hhi] at h; cases h
        | some hi' =>
          rw [hhi] at h
          simp only at h
          cases hb : (Nat.ble lo' hi' && Nat.ble hi' c)
          · rw [hb] at h; cases h
          · rw [hb] at h
            simp only [cond_true] at h
            rw [Bool.and_eq_true] at hb
            have h1 := Nat.le_of_ble_eq_true hb.1
            have h2 := Nat.le_of_ble_eq_true hb.2
            have b1 := lbound_ok hl hlo
            have b2 := lbound_ok hl hhi
            cases p with
            | none =>
              cases h
              obtain ⟨_, h3, rfl⟩ := lv_ev hl hx
              refine ⟨_, ⟨none, n, c, lo', hi', h3, b1, b2, h1, h2, rfl⟩, ?_⟩
              show Value.slice _ _ _ = Value.slice _ _ _
              congr 1
              split <;> rfl
            | some p =>
              cases h
              obtain ⟨b, o, s⟩ := p
              obtain ⟨_, h3, hs, r, h4, ⟨a', c', rfl, h5⟩ | ⟨rfl, rfl, ax, rfl⟩⟩ := lv_ev hl hx
              · cases hs
                refine ⟨_, ⟨some a', n, c', lo', hi', h3, b1, b2, h1, by rcases h5 with ⟨_, h5⟩ | ⟨h5, h6, h7, _⟩ <;> omega, rfl⟩, ?_⟩
                rw [add_none]
                rcases h5 with ⟨rfl, rfl⟩ | ⟨rfl, rfl, rfl, o', rfl, ho'⟩
                · refine ⟨rfl, r, h4, .inl ⟨(if c + r.2.2 = lo' then ⟨r.1, o + r.2.1, none⟩ else Addr.add ⟨r.1, o + r.2.1, none⟩ (lo' * size)), c + r.2.2 - lo', by split <;> rfl, ?_⟩⟩
                  by_cases e : c + r.2.2 = lo'
                  · right
                    rw [if_pos e]
                    exact ⟨by omega, by omega, by omega, _, rfl, by simp⟩
                  · left
                    rw [if_neg e, add_none]
                    exact ⟨by simp; omega, by omega⟩
                · have e1 : lo' = 0 := by omega
                  subst e1
                  refine ⟨rfl, r, h4, .inl ⟨⟨r.1, o', none⟩, 0, by simp, .inr ⟨by omega, by omega, rfl, o', rfl, by simpa using ho'⟩⟩⟩
              · cases hs
                have e1 : lo' = 0 := by omega
                have e2 : hi' = 0 := by omega
                subst e1; subst e2
                refine ⟨_, ⟨ax, 0, 0, 0, 0, h3, b1, b2, h1, by omega, rfl⟩, ?_⟩
                rw [add_none]
                exact ⟨rfl, r, h4, .inr ⟨rfl, rfl, ax, by simp⟩⟩
  | bld zero parts =>
    simp only [lq] at h
    cases hz : zero.all stillS
    · rw [hz] at h; cases h
    · rw [hz] at h
      simp only [cond_true] at h
      cases hb : bldL l zero parts with
      | none => rw [hb] at h; cases h
      | some vs =>
        rw [hb] at h; cases h
        obtain ⟨vs', h1, h2⟩ := bldL_ok hl parts zero zero hb (L2.self fun a ha => SR.still (List.all_eq_true.1 hz a ha))
        exact ⟨_, ⟨vs', h1, rfl⟩, vs', rfl, h2⟩
  | ld x =>
    simp only [lq] at h
    cases hx : lptr l x with
    | none => rw [hx] at h; cases h
    | some p =>
      rw [hx] at h
      obtain ⟨p', h1, h2⟩ := lptr_ok hl hx
      obtain ⟨v', h3, h4⟩ := lcell_ok hR h2 h
      exact ⟨v', ⟨p', h1, h3⟩, h4.vr⟩
  | ldn x n =>
    simp only [lq] at h
    cases hx : lptr l x with
    | none => rw [hx] at h; cases h
    | some p =>
      rw [hx] at h
      simp only at h
      cases hc : lcells L p n with
      | none => rw [hc] at h; cases h
      | some vs =>
        rw [hc] at h; cases h
        obtain ⟨⟨b, o, s⟩, h1, h2⟩ := lptr_ok hl hx
        obtain ⟨cs, vs', hB, hs, hle, rfl, h3, h4⟩ := lcells_ok hR h2 hc
        cases hs
        refine ⟨_, ⟨_, ((cs.drop o).take n).toArray, h1, by simpa using h4, fun i hi => ?_, rfl⟩, _, rfl, h3⟩
        rw [add_none, hB.cellEq]
        simp [hi]
  | sh lft x y =>
    simp only [lq] at h
    split at h <;> first | (cases h; done) | skip
    rename_i k a k' n hx hy
    cases h
    obtain ⟨_, h1, rfl⟩ := lv_ev hl hx
    obtain ⟨_, h2, rfl⟩ := lv_ev hl hy
    exact ⟨_, ⟨k, a, k', _, h1, h2, Int.natCast_nonneg _, rfl⟩, rfl⟩
  | xorn x =>
    simp only [lq] at h
    split at h <;> first | (cases h; done) | skip
    rename_i k n hx
    cases h
    obtain ⟨_, h1, rfl⟩ := lv_ev hl hx
    exact ⟨_, ⟨k, n, h1, rfl⟩, rfl⟩
  | mm mx x y =>
    simp only [lq] at h
    split at h <;> first | (cases h; done) | skip
    rename_i k a k' b hx hy
    cases he : ikEq k k'
    · rw [he] at h; cases h
    rw [he] at h; cases h
    have he := of_decide_eq_true he
    subst he
    obtain ⟨_, h1, rfl⟩ := lv_ev hl hx
    obtain ⟨_, h2, rfl⟩ := lv_ev hl hy
    exact ⟨_, ⟨k, a, b, h1, h2, rfl⟩, rfl⟩
  | mkf fn first cap =>
    simp only [lq] at h
    split at h <;> first | (cases h; done) | skip
    rename_i a c ha hc
    cases hs : (a.all s0 && c.all s0)
    · rw [hs] at h; cases h
    rw [hs] at h; cases h
    rw [Bool.and_eq_true] at hs
    obtain ⟨a', h1, h2⟩ := lvs_evs hl ha
    obtain ⟨c', h3, h4⟩ := lvs_evs hl hc
    exact ⟨_, ⟨a', c', h1, h3, rfl⟩, a', c', rfl, L2.s0 hs.1 h2, L2.s0 hs.2 h4⟩
  | raw o => exact hr _ _ _ _ _ _ _ _ _ h hR hl
end Go.Tum
