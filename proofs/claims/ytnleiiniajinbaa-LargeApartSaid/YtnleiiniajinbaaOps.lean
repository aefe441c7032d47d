/-
  The operations of the model that this program uses, with what hangs on the types' tables already looked up; that each says what the model's operation does.
-/
import Derived.Test.YtnleiiniajinbaaRegion
import Derived.WalkKit
namespace Go.Tum
open Go

/-! ### operations that leave the world as it is -/
inductive QOp where
  | mov (x : Operand)
  | pick (c a b : Operand)
  | nilc (x : Operand)
  | fld (x : Operand) (off : Nat)
  | fldv (x : Operand) (off : Nat)
  | fldn (x : Operand) (off n : Nat)
  | idx (x i : Operand) (size : Nat)
  | idxa (x i : Operand) (len size : Nat)
  | ext (x : Operand) (k : Nat)
  | bin (op : BinOp) (x y : Operand)
  | nilp (neg : Bool) (x : Operand)
  | un (op : UnOp) (x : Operand)
  | cvi (k : IntKind) (x : Operand)
  | len (x : Operand)
  | slc (x : Operand) (lo hi : Option Operand) (size : Nat)
  | bld (zero : List Value) (parts : List (Nat × Nat × Operand))
  | ld (x : Operand)
  | ldn (x : Operand) (n : Nat)
  | sh (lft : Bool) (x y : Operand)
  | xorn (x : Operand)
  | mm (mx : Bool) (x y : Operand)
  | mkf (fn : Fn) (first cap : List Operand)
  | raw (o : Oper)

def evs (l : Env) : List Operand → Option (List Value)
  | [] => some []
  | x :: r => match ev l x with
    | some v => match evs l r with
      | some vs => some (v :: vs)
      | none => none
    | none => none

def ishift (lft : Bool) (k : IntKind) (a n : Int) : Int :=
  match lft with
  | true => k.wrap (a * 2 ^ (min n.toNat k.bits))
  | false => a.fdiv (2 ^ (min n.toNat k.bits))
def ixorn (k : IntKind) (n : Int) : Int := k.wrap (BitVec.ofInt k.bits (if k.signed then -1 else k.max) ^^^ BitVec.ofInt k.bits n).toNat
def imm (mx : Bool) (a b : Int) : Int :=
  match mx with
  | true => max a b
  | false => min a b

/-- integers: what an operator answers, where it answers by itself -/
def ibin (op : BinOp) (k : IntKind) (a b : Int) : Option Value :=
  match op with
  | .add => some (.int k (k.wrap (a + b)))
  | .sub => some (.int k (k.wrap (a - b)))
  | .mul => some (.int k (k.wrap (a * b)))
  | .eql => some (.bool (a == b))
  | .neq => some (.bool (a != b))
  | .lss => some (.bool (decide (a < b)))
  | .leq => some (.bool (decide (a ≤ b)))
  | .gtr => some (.bool (decide (a > b)))
  | .geq => some (.bool (decide (a ≥ b)))
  | .quo => if b = 0 then none else some (.int k (k.wrap (a.tdiv b)))
  | .rem => if b = 0 then none else some (.int k (a.tmod b))
  | .and => some (.int k (k.wrap (BitVec.ofInt k.bits a &&& BitVec.ofInt k.bits b).toNat))
  | .or => some (.int k (k.wrap (BitVec.ofInt k.bits a ||| BitVec.ofInt k.bits b).toNat))
  | .xor => some (.int k (k.wrap (BitVec.ofInt k.bits a ^^^ BitVec.ofInt k.bits b).toNat))
  | .andNot => some (.int k (k.wrap (BitVec.ofInt k.bits a &&& ~~~ BitVec.ofInt k.bits b).toNat))
  | _ => none

def obound (l : Env) (x : Option Operand) (d : Nat) (n : Nat) : Prop :=
  match x with
  | none => n = d
  | some x => ∃ k i, ev l x = some (.int k i) ∧ 0 ≤ i ∧ n = i.toNat

def cellsL : Value → List Value
  | .agg ⟨cs⟩ => cs
  | v => [v]

def setL : List Value → Nat → List Value → Option (List Value)
  | l, _, [] => some l
  | [], _, _ :: _ => none
  | _ :: r, 0, v :: vs => match setL r 0 vs with
    | some r' => some (v :: r')
    | none => none
  | a :: r, n + 1, v :: vs => match setL r n (v :: vs) with
    | some r' => some (a :: r')
    | none => none

def bldv (l : Env) : List Value → List (Nat × Nat × Operand) → Option (List Value)
  | zero, [] => some zero
  | zero, (off, sz, x) :: r => match ev l x with
    | some u => bif Nat.beq (cellsL u).length sz then (match setL zero off (cellsL u) with
      | some z => bldv l z r
      | none => none) else none
    | none => none

/-- In world w, with the slots l, the operation yields v. -/
def QOp.Y (P : Program) (q : QOp) (l : Env) (v : Value) (w : World) : Prop :=
  match q with
  | .mov x => ev l x = some v
  | .pick c a b => ∃ t, ev l c = some (.bool t) ∧ (if t then ev l a else ev l b) = some v
  | .nilc x => (∃ p, ev l x = some (.pointer (some p)) ∧ v = .pointer (some p)) ∨ (∃ f a c, ev l x = some (.func (.func f) a c) ∧ v = .func (.func f) a c)
  | .fld x off => ∃ b o s, ev l x = some (.pointer (some ⟨b, o, s⟩)) ∧ v = .pointer (some (Addr.add ⟨b, o, s⟩ off))
  | .fldv x off => ∃ cs, ev l x = some (.agg cs) ∧ cs[off]? = some v
  | .fldn x off n => ∃ cs, ev l x = some (.agg cs) ∧ v = .agg (cs.extract off (off + n))
  | .idx x i size => ∃ p n c k j, ev l x = some (.slice (some p) n c) ∧ ev l i = some (.int k j) ∧ 0 ≤ j ∧ j < (n : Int) ∧ v = .pointer (some (p.add (j.toNat * size)))
  | .idxa x i n size => ∃ p k j, ev l x = some (.pointer (some p)) ∧ ev l i = some (.int k j) ∧ 0 ≤ j ∧ j < (n : Int) ∧ v = .pointer (some (p.add (j.toNat * size)))
  | .ext x k => ∃ vs, ev l x = some (.tuple vs) ∧ vs[k]? = some v
  | .bin op x y => ∃ k a b, ev l x = some (.int k a) ∧ ev l y = some (.int k b) ∧ ibin op k a b = some v
  | .nilp neg x => ∃ p, ev l x = some (.pointer p) ∧ v = .bool (if neg then p.isSome else p.isNone)
  | .un op x => (∃ b, op = .not ∧ ev l x = some (.bool b) ∧ v = .bool (!b)) ∨ (∃ k n, op = .neg ∧ ev l x = some (.int k n) ∧ v = .int k (k.wrap (0 - n)))
  | .cvi k x => ∃ k' n, ev l x = some (.int k' n) ∧ v = .int k (k.wrap n)
  | .len x => (∃ a n c, ev l x = some (.slice a n c) ∧ v = .int .i64 n)
  | .slc x lo hi size => ∃ p n c lo' hi', ev l x = some (.slice p n c) ∧ obound l lo 0 lo' ∧ obound l hi n hi' ∧ lo' ≤ hi' ∧ hi' ≤ c ∧
      v = .slice (if c = lo' then p else p.map (·.add (lo' * size))) (hi' - lo') (c - lo')
  | .bld zero parts => ∃ vs, bldv l zero parts = some vs ∧ v = .agg vs.toArray
  | .ld x => ∃ p, ev l x = some (.pointer (some p)) ∧ w.cell? p = some v
  | .ldn x n => ∃ p vs, ev l x = some (.pointer (some p)) ∧ vs.size = n ∧ (∀ i, i < n → w.cell? (p.add i) = vs[i]?) ∧ v = .agg vs
  | .sh lft x y => ∃ k a k' n, ev l x = some (.int k a) ∧ ev l y = some (.int k' n) ∧ 0 ≤ n ∧ v = .int k (ishift lft k a n)
  | .xorn x => ∃ k n, ev l x = some (.int k n) ∧ v = .int k (ixorn k n)
  | .mm mx x y => ∃ k a b, ev l x = some (.int k a) ∧ ev l y = some (.int k b) ∧ v = .int k (imm mx a b)
  | .mkf fn first cap => ∃ a c, evs l first = some a ∧ evs l cap = some c ∧ v = .func fn a.toArray c.toArray
  | .raw o => ∀ ρ w0, Agr l ρ → Sim w0 w → (execOp ρ o).run P w0 = .ok (.value v) w0

theorem QOp.Y_sim {P : Program} {q : QOp} {l : Env} {v : Value} {w w0 : World} (h : q.Y P l v w) (hs : Sim w0 w) : q.Y P l v w0 := by
  cases q <;> simp only [QOp.Y] at * <;> first | exact h | skip
  case ld x => obtain ⟨p, h1, h2⟩ := h; exact ⟨p, h1, by rw [hs.cell]; exact h2⟩
  case ldn x n => obtain ⟨p, vs, h1, h2, h3, h4⟩ := h; exact ⟨p, vs, h1, h2, fun i hi => by rw [hs.cell]; exact h3 i hi, h4⟩
  case raw o => exact fun ρ w1 ha h1 => h ρ w1 ha (h1.trans hs)

def scalarT (P : Program) (t : TypeId) : Bool :=
  match P.underlying t with
  | some (.struct _) => false
  | some (.array _ _) => false
  | some _ => true
  | none => false

def aggT (P : Program) (t : TypeId) : Option Nat :=
  match P.underlying t, P.info? t with
  | some (.struct _), some i => some i.size
  | some (.array _ _), some i => some i.size
  | _, _ => none

def placeOf (P : Program) (fs : Array Field) (i : Nat) : Option (Nat × Nat) :=
  match fs[i]? with
  | some f => match P.info? f.type with
    | some ti => some (f.offset, ti.size)
    | none => none
  | none => none

def allInfo (P : Program) (fs : List Field) : Bool := fs.all fun f => (P.info? f.type).isSome

def placeParts (P : Program) (fs : Array Field) : List (Nat × Operand) → Option (List (Nat × Nat × Operand))
  | [] => some []
  | (i, x) :: r => match placeOf P fs i, placeParts P fs r with
    | some (off, sz), some r' => if sz = 0 then none else some ((off, sz, x) :: r')
    | _, _ => none

def quietHead : Op → Bool
  | .binOp .. | .unOp .. | .convert .. | .field .. | .fieldAddr .. | .indexAddr .. | .index .. | .lookup .. | .slice .. | .build .. | .load .. | .makeInterface .. | .makeFunc .. => true
  | .call { callee := .builtin .len, .. } | .call { callee := .builtin .cap, .. } | .call { callee := .builtin .min, .. } | .call { callee := .builtin .max, .. } => true
  | _ => false

/-- all of an operation that its meaning hangs on -/
def strip (o : Oper) : Oper := ⟨none, o.op, o.type, "", #[], none⟩

/-- the operation, if it is one of those that leave the world; and whether it reads the world -/
def compQ (P : Program) (o : Oper) : Option (QOp × Bool) :=
  match o.op with
  | .move x => some (.mov x, false)
  | .assign x => some (.mov x, false)
  | .pick c a b => some (.pick c a b, false)
  | .nilCheck x => some (.nilc x, false)
  | .extract x k => some (.ext x k, false)
  | .fieldAddr s x f =>
    match P.underlying s with
    | some (.struct fs) => match fs[f]? with
      | some fd => match P.info? fd.type with
        | some i => if i.size = 0 then some (.raw (strip o), true) else some (.fld x fd.offset, false)
        | none => none
      | none => none
    | _ => none
  | .field s x f =>
    match P.underlying s with
    | some (.struct fs) => match fs[f]? with
      | some fd => if scalarT P fd.type then some (.fldv x fd.offset, false) else match aggT P fd.type with
        | some n => some (.fldn x fd.offset n, false)
        | none => none
      | none => none
    | _ => none
  | .indexAddr t x i =>
    match P.underlying t with
    | some (.slice e) => match P.info? e with
      | some ie => some (.idx x i ie.size, false)
      | none => none
    | some (.array n e) => match P.info? e with
      | some ie => some (.idxa x i n ie.size, false)
      | none => none
    | _ => none
  | .binOp op t x y _ =>
    match P.underlying t with
    | some (.int _) => match op with
      | .shl => some (.sh true x y, false)
      | .shr => some (.sh false x y, false)
      | _ => some (.bin op x y, false)
    | some (.pointer _) => match op, y with
      | .eql, .const (.pointer none) => some (.nilp false x, false)
      | .neq, .const (.pointer none) => some (.nilp true x, false)
      | _, _ => some (.raw (strip o), true)
    | _ => some (.raw (strip o), true)
  | .unOp op _ x => match op with
    | .not => some (.un .not x, false)
    | .neg => some (.un .neg x, false)
    | .xor => some (.xorn x, false)
    | _ => some (.raw (strip o), true)
  | .convert s d x =>
    match P.underlying s, P.underlying d with
    | some (.int _), some (.int k) => some (.cvi k x, false)
    | _, _ => some (.raw (strip o), true)
  | .call { callee := .builtin .len, args, argTypes } =>
    match argTypes[0]?, args.toList with
    | some t, [x] => match P.underlying t with
      | some (.slice _) => some (.len x, false)
      | _ => some (.raw (strip o), true)
    | _, _ => some (.raw (strip o), true)
  | .call { callee := .builtin .min, args, argTypes } =>
    match argTypes[0]?, args.toList with
    | some t, [x, y] => match P.underlying t with
      | some (.int _) => some (.mm false x y, false)
      | _ => some (.raw (strip o), true)
    | _, _ => some (.raw (strip o), true)
  | .call { callee := .builtin .max, args, argTypes } =>
    match argTypes[0]?, args.toList with
    | some t, [x, y] => match P.underlying t with
      | some (.int _) => some (.mm true x y, false)
      | _ => some (.raw (strip o), true)
    | _, _ => some (.raw (strip o), true)
  | .makeFunc fn first cap => some (.mkf fn first.toList cap.toList, false)
  | .slice t x lo hi none =>
    match P.underlying t with
    | some (.slice e) => match P.info? e with
      | some ie => some (.slc x lo hi ie.size, false)
      | none => none
    | _ => some (.raw (strip o), true)
  | .load t x => if scalarT P t then some (.ld x, true) else match aggT P t with
    | some n => some (.ldn x n, true)
    | none => none
  | .build t parts =>
    match P.underlying t, P.info? t with
    | some (.struct fs), some i => match i.zero, placeParts P fs parts.toList with
      | some z, some ps => if allInfo P fs.toList then some (.bld z.cells.toList ps, false) else some (.raw (strip o), true)
      | _, _ => some (.raw (strip o), true)
    | _, _ => some (.raw (strip o), true)
  | op => if quietHead op then some (.raw (strip o), true) else none

end Go.Tum
