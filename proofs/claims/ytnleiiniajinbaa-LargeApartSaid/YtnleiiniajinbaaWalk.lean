/-
  The rules by which a function is walked: each runs what can be run by looking, up to one operation, and says what that one asks.
-/
import Derived.Test.YtnleiiniajinbaaPlan
namespace Go.Tum
open Go

def lget : List Value → Nat → Option Value
  | [], _ => none
  | v :: _, 0 => some v
  | _ :: r, n + 1 => lget r n

theorem lget_eq : ∀ (vs : List Value) (k : Nat), lget vs k = vs[k]?
  | [], _ => rfl
  | _ :: _, 0 => rfl
  | _ :: r, k + 1 => by simpa [lget] using lget_eq r k

/-- comparisons, which no number can keep from answering -/
def icmp (op : BinOp) (a b : Int) : Option Value :=
  match op with
  | .eql => some (.bool (a == b))
  | .neq => some (.bool (a != b))
  | .lss => some (.bool (decide (a < b)))
  | .leq => some (.bool (decide (a ≤ b)))
  | .gtr => some (.bool (decide (a > b)))
  | .geq => some (.bool (decide (a ≥ b)))
  | _ => none

/-- what can be run by looking at the slots alone -/
def qauto (q : QOp) (l : Env) : Option Value :=
  match q with
  | .mov x => ev l x
  | .pick c a b => match ev l c with
    | some (.bool true) => ev l a
    | some (.bool false) => ev l b
    | _ => none
  | .nilc x => match ev l x with
    | some (.pointer (some p)) => some (.pointer (some p))
    | _ => none
  | .fld x off => match ev l x with
    | some (.pointer (some ⟨b, o, none⟩)) => some (.pointer (some ⟨b, o + off, none⟩))
    | _ => none
  | .fldv x off => match ev l x with
    | some (.agg ⟨cs⟩) => lget cs off
    | _ => none
  | .ext x k => match ev l x with
    | some (.tuple ⟨vs⟩) => lget vs k
    | _ => none
  | .bin op x y => match ev l x, ev l y with
    | some (.int .i64 a), some (.int .i64 b) => icmp op a b
    | some (.int .u8 a), some (.int .u8 b) => icmp op a b
    | some (.int .u64 a), some (.int .u64 b) => icmp op a b
    | _, _ => none
  | .nilp neg x => match ev l x with
    | some (.pointer (some _)) => match neg with
      | true => some (.bool true)
      | false => some (.bool false)
    | some (.pointer none) => match neg with
      | true => some (.bool false)
      | false => some (.bool true)
    | _ => none
  | .un .not x => match ev l x with
    | some (.bool b) => some (.bool (!b))
    | _ => none
  | .len x => match ev l x with
    | some (.slice _ n _) => some (.int .i64 n)
    | _ => none
  | .mm mx x y => match ev l x, ev l y with
    | some (.int .i64 a), some (.int .i64 b) => some (.int .i64 (imm mx a b))
    | _, _ => none
  | .bld zero parts => match bldv l zero parts with
    | some vs => some (.agg ⟨vs⟩)
    | none => none
  | _ => none

theorem icmp_ibin {op : BinOp} {k : IntKind} {a b : Int} {v : Value} (h : icmp op a b = some v) : ibin op k a b = some v := by
  cases op <;> simp only [icmp, reduceCtorEq] at h <;> exact h

theorem add_none (b o off : Nat) : Addr.add ⟨b, o, none⟩ off = ⟨b, o + off, none⟩ := by
  unfold Addr.add
  split
  · rename_i h; subst h; rfl
  · rfl

theorem qauto_sound {P : Program} {q : QOp} {l : Env} {v : Value} (h : qauto q l = some v) (w : World) : q.Y P l v w := by
  cases q <;> simp only [qauto, reduceCtorEq] at h <;> simp only [QOp.Y]
  case mov x => exact h
  case pick c a b =>
    split at h
    · rename_i hc; exact ⟨true, hc, h⟩
    · rename_i hc; exact ⟨false, hc, h⟩
    · cases h
  case nilc x =>
    split at h
    · rename_i p hx; cases h; exact .inl ⟨p, hx, rfl⟩
    · cases h
  case fld x off =>
    split at h
    · rename_i b o hx; cases h; exact ⟨b, o, none, hx, by rw [add_none]⟩
    · cases h
  case fldv x off =>
    split at h
    · rename_i cs hx; exact ⟨⟨cs⟩, hx, by rw [lget_eq] at h; simpa using h⟩
    · cases h
  case ext x k =>
    split at h
    · rename_i cs hx; exact ⟨⟨cs⟩, hx, by rw [lget_eq] at h; simpa using h⟩
    · cases h
  case bin op x y =>
    split at h
    · rename_i a b hx hy; exact ⟨_, a, b, hx, hy, icmp_ibin h⟩
    · rename_i a b hx hy; exact ⟨_, a, b, hx, hy, icmp_ibin h⟩
    · rename_i a b hx hy; exact ⟨_, a, b, hx, hy, icmp_ibin h⟩
    · cases h
  case nilp neg x =>
    split at h
    · rename_i p hx; cases neg <;> cases h <;> exact ⟨_, hx, rfl⟩
    · rename_i hx; cases neg <;> cases h <;> exact ⟨_, hx, rfl⟩
    · cases h
  case un op x =>
    cases op <;> simp only [reduceCtorEq] at h
    split at h
    · rename_i b hx; cases h; exact .inl ⟨b, rfl, hx, rfl⟩
    · cases h
  case len x =>
    split at h
    · rename_i a n c hx; cases h; exact ⟨a, n, c, hx, rfl⟩
    · cases h
  case mm mx x y =>
    split at h
    · rename_i a b hx hy; cases h; exact ⟨_, a, b, hx, hy, rfl⟩
    · cases h
  case bld zero parts =>
    split at h
    · rename_i vs hx; cases h; exact ⟨vs, hx, rfl⟩
    · cases h

def autoRun : List Step → Env → Facts → List Step × Env × Facts
  | [], l, T => ([], l, T)
  | .q k d g op rd :: r, l, T =>
    match gw g l with
    | some true => match rd with
      | true => (.q k d g op true :: r, l, T)
      | false => match qauto op l with
        | some v => match d with
          | some d => autoRun r ((d, v) :: l) T
          | none => autoRun r l T
        | none => (.q k d g op false :: r, l, T)
    | some false => match d with
      | some d => autoRun r ((d, undef) :: l) T
      | none => autoRun r l T
    | none => (.q k d g op rd :: r, l, T)
  | .e d g op pend :: r, l, T =>
    match gw g l with
    | some false => match d with
      | some d => autoRun r ((d, undef) :: l) T
      | none => autoRun r l T
    | _ => (.e d g op pend :: r, l, T)

/-- the same, but it stands still at the first guard that looks at slot 'st' -/
def guardAt (st : Nat) : Option (Nat × Bool) → Bool
  | none => false
  | some (s, _) => Nat.beq s st

def autoStop (st : Nat) : List Step → Env → Facts → List Step × Env × Facts
  | [], l, T => ([], l, T)
  | .q k d g op rd :: r, l, T =>
    match guardAt st g with
    | true => (.q k d g op rd :: r, l, T)
    | false => match gw g l with
      | some true => match rd with
        | true => (.q k d g op true :: r, l, T)
        | false => match qauto op l with
          | some v => match d with
            | some d => autoStop st r ((d, v) :: l) T
            | none => autoStop st r l T
          | none => (.q k d g op false :: r, l, T)
      | some false => match d with
        | some d => autoStop st r ((d, undef) :: l) T
        | none => autoStop st r l T
      | none => (.q k d g op rd :: r, l, T)
  | .e d g op pend :: r, l, T =>
    match guardAt st g with
    | true => (.e d g op pend :: r, l, T)
    | false => match gw g l with
      | some false => match d with
        | some d => autoStop st r ((d, undef) :: l) T
        | none => autoStop st r l T
      | _ => (.e d g op pend :: r, l, T)

section
variable {P : Program} {K : Env → World → Prop} {l l1 : Env} {T T1 : Facts} {w : World} {ss r : List Step} {k : Nat} {d : Option Nat} {g : Option (Nat × Bool)} {rd : Bool} {pend : List Nat}

theorem gcase_true {run skip : Env → Prop} (hg : gw g l = some true) (h : run l) : gcase g l run skip := by
  cases g with
  | none => exact h
  | some sw =>
    obtain ⟨s, want⟩ := sw
    simp only [gw, gcase] at *
    cases he : eget l s with
    | none => rw [he] at hg; cases hg
    | some v =>
      rw [he] at hg
      cases v <;> simp only [reduceCtorEq, Option.some.injEq, Bool.false_eq_true] at *
      rename_i b
      have : b = want := by simpa using hg
      exact ⟨fun _ => ⟨l, Sub.refl l, h⟩, fun e => by subst this; cases b <;> simp at e⟩

theorem gcase_false {run skip : Env → Prop} (hg : gw g l = some false) (h : skip l) : gcase g l run skip := by
  cases g with
  | none => cases hg
  | some sw =>
    obtain ⟨s, want⟩ := sw
    simp only [gw, gcase] at *
    cases he : eget l s with
    | none => rw [he] at hg; cases hg
    | some v =>
      rw [he] at hg
      cases v <;> simp only [reduceCtorEq, Option.some.injEq] at *
      · rename_i b
        have : b ≠ want := by simpa using hg
        exact ⟨fun e => absurd e this, fun _ => ⟨l, Sub.refl l, h⟩⟩
      · exact h

theorem auto_sound : ∀ (ss : List Step) (l : Env) (T : Facts), stepsWp P (autoRun ss l T).1 K (autoRun ss l T).2.1 (autoRun ss l T).2.2 w → stepsWp P ss K l T w
  | [], _, _, h => h
  | .q k d g op rd :: r, l, T, h => by
    simp only [autoRun] at h
    cases hg : gw g l with
    | none => rw [hg] at h; exact h
    | some b =>
      rw [hg] at h
      cases b with
      | true =>
        cases rd with
        | true => exact h
        | false =>
          simp only at h
          cases hq : qauto op l with
          | none => rw [hq] at h; exact h
          | some v =>
            rw [hq] at h
            simp only [stepsWp]
            refine gcase_true hg ⟨v, qauto_sound hq w, ?_⟩
            cases d with
            | some d => exact auto_sound r _ T h
            | none => exact auto_sound r _ T h
      | false =>
        simp only [stepsWp]
        refine gcase_false hg ?_
        cases d with
        | some d => exact auto_sound r _ T h
        | none => exact auto_sound r _ T h
  | .e d g op pend :: r, l, T, h => by
    simp only [autoRun] at h
    cases hg : gw g l with
    | none => rw [hg] at h; exact h
    | some b =>
      rw [hg] at h
      cases b with
      | true => exact h
      | false =>
        simp only [stepsWp]
        refine gcase_false hg ?_
        cases d with
        | some d => exact auto_sound r _ T h
        | none => exact auto_sound r _ T h

theorem autoStop_sound (st : Nat) : ∀ (ss : List Step) (l : Env) (T : Facts), stepsWp P (autoStop st ss l T).1 K (autoStop st ss l T).2.1 (autoStop st ss l T).2.2 w → stepsWp P ss K l T w
  | [], _, _, h => h
  | .q k d g op rd :: r, l, T, h => by
    simp only [autoStop] at h
    cases hga : guardAt st g with
    | true => rw [hga] at h; exact h
    | false =>
      rw [hga] at h
      simp only at h
      cases hg : gw g l with
      | none => rw [hg] at h; exact h
      | some b =>
        rw [hg] at h
        cases b with
        | true =>
          cases rd with
          | true => exact h
          | false =>
            simp only at h
            cases hq : qauto op l with
            | none => rw [hq] at h; exact h
            | some v =>
              rw [hq] at h
              simp only [stepsWp]
              refine gcase_true hg ⟨v, qauto_sound hq w, ?_⟩
              cases d with
              | some d => exact autoStop_sound st r _ T h
              | none => exact autoStop_sound st r _ T h
        | false =>
          simp only [stepsWp]
          refine gcase_false hg ?_
          cases d with
          | some d => exact autoStop_sound st r _ T h
          | none => exact autoStop_sound st r _ T h
  | .e d g op pend :: r, l, T, h => by
    simp only [autoStop] at h
    cases hga : guardAt st g with
    | true => rw [hga] at h; exact h
    | false =>
      rw [hga] at h
      simp only at h
      cases hg : gw g l with
      | none => rw [hg] at h; exact h
      | some b =>
        rw [hg] at h
        cases b with
        | true => exact h
        | false =>
          simp only [stepsWp]
          refine gcase_false hg ?_
          cases d with
          | some d => exact autoStop_sound st r _ T h
          | none => exact autoStop_sound st r _ T h

theorem auto_to {ss1 : List Step} (h0 : autoRun ss l T = (ss1, l1, T1)) (h : stepsWp P ss1 K l1 T1 w) : stepsWp P ss K l T w := by
  apply auto_sound; rw [h0]; exact h

theorem s_end (h0 : autoRun ss l T = ([], l1, T1)) (h : K l1 w) : stepsWp P ss K l T w := auto_to h0 h

/-- any quiet operation -/
theorem s_q {op : QOp} {v : Value} (h0 : autoRun ss l T = (.q k d g op rd :: r, l1, T1)) (hg : gw g l1 = some true) (hy : op.Y P l1 v w)
    (h : stepsWp P r K (dpush d v l1) (bif rd then (k, op.Y P l1 v) :: T1 else T1) w) : stepsWp P ss K l T w :=
  auto_to h0 (by simp only [stepsWp]; exact gcase_true hg ⟨v, hy, h⟩)

theorem s_ld {x : Operand} {p : Addr} {v : Value} {d : Nat} (h0 : autoRun ss l T = (.q k (some d) g (.ld x) true :: r, l1, T1)) (hg : gw g l1 = some true) (hx : ev l1 x = some (.pointer (some p))) (hc : w.cell? p = some v)
    (h : stepsWp P r K ((d, v) :: l1) ((k, (QOp.ld x).Y P l1 v) :: T1) w) : stepsWp P ss K l T w :=
  s_q h0 hg ⟨p, hx, hc⟩ h
theorem s_ldn {x : Operand} {n : Nat} {p : Addr} {vs : List Value} {d : Nat} (h0 : autoRun ss l T = (.q k (some d) g (.ldn x n) true :: r, l1, T1)) (hg : gw g l1 = some true) (hx : ev l1 x = some (.pointer (some p)))
    (hn : vs.length = n) (hc : ∀ i, i < n → w.cell? (p.add i) = vs[i]?)
    (h : stepsWp P r K ((d, .agg vs.toArray) :: l1) ((k, (QOp.ldn x n).Y P l1 (.agg vs.toArray)) :: T1) w) : stepsWp P ss K l T w :=
  s_q h0 hg ⟨p, vs.toArray, hx, by simpa using hn, fun i hi => by simpa using hc i hi, rfl⟩ h
theorem s_idx {x i : Operand} {sz b o n c : Nat} {j : Int} {d : Nat} {kd : IntKind} (h0 : autoRun ss l T = (.q k (some d) g (.idx x i sz) false :: r, l1, T1)) (hg : gw g l1 = some true) (hx : ev l1 x = some (.slice (some ⟨b, o, none⟩) n c))
    (hi : ev l1 i = some (.int kd j)) (h1 : 0 ≤ j) (h2 : j < (n : Int)) (h : stepsWp P r K ((d, .pointer (some ⟨b, o + j.toNat * sz, none⟩)) :: l1) T1 w) : stepsWp P ss K l T w :=
  s_q h0 hg ⟨_, n, c, kd, j, hx, hi, h1, h2, rfl⟩ (by rw [add_none]; exact h)
theorem s_idxa {x i : Operand} {sz b o n : Nat} {j : Int} {d : Nat} {kd : IntKind} (h0 : autoRun ss l T = (.q k (some d) g (.idxa x i n sz) false :: r, l1, T1)) (hg : gw g l1 = some true) (hx : ev l1 x = some (.pointer (some ⟨b, o, none⟩)))
    (hi : ev l1 i = some (.int kd j)) (h1 : 0 ≤ j) (h2 : j < (n : Int)) (h : stepsWp P r K ((d, .pointer (some ⟨b, o + j.toNat * sz, none⟩)) :: l1) T1 w) : stepsWp P ss K l T w :=
  s_q h0 hg ⟨_, kd, j, hx, hi, h1, h2, rfl⟩ (by rw [add_none]; exact h)
theorem s_bin {op : BinOp} {x y : Operand} {kd : IntKind} {a b : Int} {v : Value} {d : Nat} (h0 : autoRun ss l T = (.q k (some d) g (.bin op x y) false :: r, l1, T1)) (hg : gw g l1 = some true) (hx : ev l1 x = some (.int kd a)) (hy : ev l1 y = some (.int kd b))
    (hv : ibin op kd a b = some v) (h : stepsWp P r K ((d, v) :: l1) T1 w) : stepsWp P ss K l T w :=
  s_q h0 hg ⟨kd, a, b, hx, hy, hv⟩ h

theorem wrap64_id {n : Int} (h1 : -9223372036854775808 ≤ n) (h2 : n ≤ 9223372036854775807) : IntKind.i64.wrap n = n := IntWalk.i64_in n ⟨h1, by omega⟩

theorem s_add {x y : Operand} {a b c : Int} {d : Nat} (h0 : autoRun ss l T = (.q k (some d) g (.bin .add x y) false :: r, l1, T1)) (hg : gw g l1 = some true) (hx : ev l1 x = some (.int .i64 a)) (hy : ev l1 y = some (.int .i64 b))
    (hc : a + b = c) (h1 : -9223372036854775808 ≤ c) (h2 : c ≤ 9223372036854775807) (h : stepsWp P r K ((d, .int .i64 c) :: l1) T1 w) : stepsWp P ss K l T w :=
  s_bin h0 hg hx hy (by simp only [ibin]; rw [hc, wrap64_id h1 h2]) h
theorem s_sub {x y : Operand} {a b c : Int} {d : Nat} (h0 : autoRun ss l T = (.q k (some d) g (.bin .sub x y) false :: r, l1, T1)) (hg : gw g l1 = some true) (hx : ev l1 x = some (.int .i64 a)) (hy : ev l1 y = some (.int .i64 b))
    (hc : a - b = c) (h1 : -9223372036854775808 ≤ c) (h2 : c ≤ 9223372036854775807) (h : stepsWp P r K ((d, .int .i64 c) :: l1) T1 w) : stepsWp P ss K l T w :=
  s_bin h0 hg hx hy (by simp only [ibin]; rw [hc, wrap64_id h1 h2]) h
theorem s_mul {x y : Operand} {a b c : Int} {d : Nat} (h0 : autoRun ss l T = (.q k (some d) g (.bin .mul x y) false :: r, l1, T1)) (hg : gw g l1 = some true) (hx : ev l1 x = some (.int .i64 a)) (hy : ev l1 y = some (.int .i64 b))
    (hc : a * b = c) (h1 : -9223372036854775808 ≤ c) (h2 : c ≤ 9223372036854775807) (h : stepsWp P r K ((d, .int .i64 c) :: l1) T1 w) : stepsWp P ss K l T w :=
  s_bin h0 hg hx hy (by simp only [ibin]; rw [hc, wrap64_id h1 h2]) h
theorem s_cvi {kd kd' : IntKind} {x : Operand} {n m : Int} {d : Nat} (h0 : autoRun ss l T = (.q k (some d) g (.cvi kd x) false :: r, l1, T1)) (hg : gw g l1 = some true) (hx : ev l1 x = some (.int kd' n)) (hm : kd.wrap n = m)
    (h : stepsWp P r K ((d, .int kd m) :: l1) T1 w) : stepsWp P ss K l T w :=
  s_q h0 hg ⟨kd', n, hx, rfl⟩ (by rw [hm]; exact h)
theorem s_slc {x : Operand} {lo hi : Option Operand} {sz n c lo' hi' : Nat} {p : Option Addr} {v : Value} {d : Nat} (h0 : autoRun ss l T = (.q k (some d) g (.slc x lo hi sz) false :: r, l1, T1)) (hg : gw g l1 = some true)
    (hx : ev l1 x = some (.slice p n c)) (h1 : obound l1 lo 0 lo') (h2 : obound l1 hi n hi') (h3 : lo' ≤ hi') (h4 : hi' ≤ c)
    (hv : Value.slice (if c = lo' then p else p.map (·.add (lo' * sz))) (hi' - lo') (c - lo') = v) (h : stepsWp P r K ((d, v) :: l1) T1 w) : stepsWp P ss K l T w :=
  s_q h0 hg ⟨p, n, c, lo', hi', hx, h1, h2, h3, h4, hv.symm⟩ h
theorem s_raw {o : Oper} {v : Value} {d : Nat} (h0 : autoRun ss l T = (.q k (some d) g (.raw o) true :: r, l1, T1)) (hg : gw g l1 = some true) (hy : (QOp.raw o).Y P l1 v w)
    (h : stepsWp P r K ((d, v) :: l1) ((k, (QOp.raw o).Y P l1 v) :: T1) w) : stepsWp P ss K l T w := s_q h0 hg hy h

def headGuard : List Step → Option Nat
  | .q _ _ (some (s, _)) _ _ :: _ => some s
  | .e _ (some (s, _)) _ _ :: _ => some s
  | _ => none

theorem Sub.trans {a b c : Env} (h : Sub a b) (k : Sub b c) : Sub a c := fun t v ht => k t v (h t v ht)

theorem gcase_sub {s : Nat} {want b : Bool} {run skip : Env → Prop} (hb : eget l s = some (.bool b)) (h : gcase (some (s, want)) ((s, .bool b) :: l) run skip) : gcase (some (s, want)) l run skip := by
  have hs : Sub ((s, .bool b) :: l) l := Sub.cons hb (Sub.refl l)
  simp only [gcase, hb] at *
  have e1 : eget ((s, .bool b) :: l) s = some (.bool b) := by rw [eget_cons, if_pos rfl]
  simp only [e1] at h
  exact ⟨fun e => let ⟨l', h1, h2⟩ := h.1 e; ⟨l', h1.trans hs, h2⟩, fun e => let ⟨l', h1, h2⟩ := h.2 e; ⟨l', h1.trans hs, h2⟩⟩

/-- a guard over a bool that is not known: both ways -/
theorem s_split (s : Nat) {b : Bool} {ss1 : List Step} (h0 : autoStop s ss l T = (ss1, l1, T1)) (hh : headGuard ss1 = some s) (hb : eget l1 s = some (.bool b))
    (ht : b = true → stepsWp P ss1 K ((s, .bool true) :: l1) T1 w) (hf : b = false → stepsWp P ss1 K ((s, .bool false) :: l1) T1 w) : stepsWp P ss K l T w := by
  apply autoStop_sound s
  rw [h0]
  have key : stepsWp P ss1 K ((s, .bool b) :: l1) T1 w := by
    cases b
    · exact hf rfl
    · exact ht rfl
  cases ss1 with
  | nil => cases hh
  | cons st r =>
    cases st with
    | q k d g op rd =>
      cases g with
      | none => cases hh
      | some sw => obtain ⟨s', want⟩ := sw; cases hh; simp only [stepsWp] at *; exact gcase_sub hb key
    | e d g op pend =>
      cases g with
      | none => cases hh
      | some sw => obtain ⟨s', want⟩ := sw; cases hh; simp only [stepsWp] at *; exact gcase_sub hb key

/-! ### operations that change the world -/
theorem s_e {op : EOp} (h0 : autoRun ss l T = (.e d g op pend :: r, l1, T1)) (hg : gw g l1 = some true)
    (h : op.W P (fun v w' => pendOk T1 w w' pend ∧ stepsWp P r K (dpush d v l1) T1 w') l1 w) : stepsWp P ss K l T w :=
  auto_to h0 (by simp only [stepsWp]; exact gcase_true hg h)
theorem s_st {x v : Operand} {p : Addr} {u : Value} (h0 : autoRun ss l T = (.e none g (.st x v) pend :: r, l1, T1)) (hg : gw g l1 = some true) (hx : ev l1 x = some (.pointer (some p))) (hv : ev l1 v = some u) (hu : one u = true)
    (hc : (w.cell? p).isSome = true) (hf : w.frozen? p = false) (hp : pendOk T1 w (w.setCell p u) pend) (h : stepsWp P r K l1 T1 (w.setCell p u)) : stepsWp P ss K l T w :=
  s_e h0 hg ⟨p, u, hx, hv, hu, hc, hf, hp, h⟩
theorem s_stn {x v : Operand} {n : Nat} {p : Addr} {vs : List Value} (h0 : autoRun ss l T = (.e none g (.stn x v n) pend :: r, l1, T1)) (hg : gw g l1 = some true) (hx : ev l1 x = some (.pointer (some p))) (hv : ev l1 v = some (.agg vs.toArray)) (hn : vs.length = n)
    (hu : ∀ u ∈ vs, one u = true) (hc : ∀ i, i < n → (w.cell? (p.add i)).isSome = true ∧ w.frozen? (p.add i) = false) (hp : pendOk T1 w (putCells w p 0 vs) pend) (h : stepsWp P r K l1 T1 (putCells w p 0 vs)) : stepsWp P ss K l T w :=
  s_e h0 hg ⟨p, vs.toArray, hx, hv, by simpa using hn, by simpa using hu, hc, hp, h⟩
theorem s_new {t : TypeId} {z : List Value} {d : Nat} (h0 : autoRun ss l T = (.e (some d) g (.new t z) pend :: r, l1, T1)) (hg : gw g l1 = some true) (hp : pendOk T1 w (w.alloc (.cells z.toArray t)) pend)
    (h : stepsWp P r K ((d, .pointer (some ⟨w.heap.size, 0, none⟩)) :: l1) T1 (w.alloc (.cells z.toArray t))) : stepsWp P ss K l T w :=
  s_e h0 hg ⟨hp, h⟩
theorem s_box {t : TypeId} {x : Operand} {u : Value} {d : Nat} (h0 : autoRun ss l T = (.e (some d) g (.box t x) pend :: r, l1, T1)) (hg : gw g l1 = some true) (hx : ev l1 x = some u) (hp : pendOk T1 w (w.alloc (.cells u.cells t)) pend)
    (h : stepsWp P r K ((d, .pointer (some ⟨w.heap.size, 0, none⟩)) :: l1) T1 (w.alloc (.cells u.cells t))) : stepsWp P ss K l T w :=
  s_e h0 hg ⟨u, hx, hp, h⟩
theorem s_bs0 {e : TypeId} {d : Nat} (h0 : autoRun ss l T = (.e (some d) g (.bs0 e) pend :: r, l1, T1)) (hg : gw g l1 = some true) (hp : pendOk T1 w (w.alloc (.cells #[] e)) pend)
    (h : stepsWp P r K ((d, .slice (some ⟨w.heap.size, 0, none⟩) 0 0) :: l1) T1 (w.alloc (.cells #[] e))) : stepsWp P ss K l T w :=
  s_e h0 hg ⟨hp, h⟩
theorem s_bs1 {e : TypeId} {n : Nat} {x : Operand} {u : Value} {d : Nat} (h0 : autoRun ss l T = (.e (some d) g (.bs1 e n x) pend :: r, l1, T1)) (hg : gw g l1 = some true) (hx : ev l1 x = some u) (hn : u.cells.size = n) (hp : pendOk T1 w (w.alloc (.cells u.cells e)) pend)
    (h : stepsWp P r K ((d, .slice (some ⟨w.heap.size, 0, none⟩) 1 1) :: l1) T1 (w.alloc (.cells u.cells e))) : stepsWp P ss K l T w :=
  s_e h0 hg ⟨u, hx, hn, hp, h⟩
theorem s_call {f : FuncId} {args : List Operand} {vs : List Value} {R : Value → World → Prop} {d : Nat} (h0 : autoRun ss l T = (.e (some d) g (.call f args) pend :: r, l1, T1)) (hg : gw g l1 = some true) (hx : evs l1 args = some vs)
    (hd : Does P f vs.toArray w R) (h : ∀ v w', R v w' → pendOk T1 w w' pend ∧ stepsWp P r K ((d, v) :: l1) T1 w') : stepsWp P ss K l T w :=
  s_e h0 hg ⟨vs, hx, hd.mono h⟩
theorem s_callN {f : FuncId} {args : List Operand} {vs : List Value} {R : Value → World → Prop} (h0 : autoRun ss l T = (.e none g (.call f args) pend :: r, l1, T1)) (hg : gw g l1 = some true) (hx : evs l1 args = some vs)
    (hd : Does P f vs.toArray w R) (h : ∀ v w', R v w' → pendOk T1 w w' pend ∧ stepsWp P r K l1 T1 w') : stepsWp P ss K l T w :=
  s_e h0 hg ⟨vs, hx, hd.mono h⟩
theorem s_rawE {o : Oper} (h0 : autoRun ss l T = (.e d g (.raw o) pend :: r, l1, T1)) (hg : gw g l1 = some true)
    (h : (EOp.raw o).W P (fun v w' => pendOk T1 w w' pend ∧ stepsWp P r K (dpush d v l1) T1 w') l1 w) : stepsWp P ss K l T w := s_e h0 hg h
end

/-! ### code -/
def pickS : List Nat → Env → Env → Option Env
  | [], _, acc => some acc
  | t :: ts, l, acc => match eget l t with
    | some v => pickS ts l ((t, v) :: acc)
    | none => none

theorem pickS_sub : ∀ {ts : List Nat} {l acc l' : Env}, pickS ts l acc = some l' → Sub acc l → Sub l' l
  | [], l, acc, l', h, hs => by cases h; exact hs
  | t :: ts, l, acc, l', h, hs => by
    simp only [pickS] at h
    cases he : eget l t with
    | none => rw [he] at h; cases h
    | some v => rw [he] at h; exact pickS_sub h (Sub.cons he hs)

section
variable {P : Program} {Q : Exit → Env → World → Prop} {l : Env} {w : World}

theorem w_seq {a b : MC} (h : MWp P a (thenQ (fun l' w' => ∃ l'', Sub l'' l' ∧ MWp P b Q l'' w') Q) l w) : MWp P (.seq a b) Q l w := h
theorem w_reg {s : List Step} (h : stepsWp P s (Q .normal) l [] w) : MWp P (.reg s) Q l w := h
/-- a region, then what follows, the region's end to be met by 'n_all' or 'n_pick' -/
theorem w_rs {s : List Step} {b : MC} (h : stepsWp P s (fun l' w' => ∃ l'', Sub l'' l' ∧ MWp P b Q l'' w') l [] w) : MWp P (.seq (.reg s) b) Q l w := h
theorem w_skip (h : Q .normal l w) : MWp P .skip Q l w := h
theorem w_ret (h : Q .ret l w) : MWp P .ret Q l w := h
theorem w_exit {id : Nat} (h : Q (.exit id) l w) : MWp P (.exit id) Q l w := h
theorem w_block {id : Nat} {b : MC} (h : MWp P b (blkQ id Q) l w) : MWp P (.block id b) Q l w := h
theorem w_cond {c : Operand} {x y : MC} {t : Bool} (hc : ev l c = some (.bool t)) (ht : t = true → MWp P x Q (knows c true l) w) (hf : t = false → MWp P y Q (knows c false l) w) : MWp P (.cond c x y) Q l w := ⟨t, hc, ht, hf⟩
theorem w_if {s : Nat} {x y : MC} {t : Bool} (hc : eget l s = some (.bool t)) (ht : t = true → MWp P x Q ((s, .bool true) :: l) w) (hf : t = false → MWp P y Q ((s, .bool false) :: l) w) : MWp P (.cond (.tmp s) x y) Q l w := ⟨t, hc, ht, hf⟩
theorem w_true {s : Nat} {x y : MC} (hc : eget l s = some (.bool true)) (h : MWp P x Q ((s, .bool true) :: l) w) : MWp P (.cond (.tmp s) x y) Q l w := ⟨true, hc, fun _ => h, fun e => (by cases e)⟩
theorem w_false {s : Nat} {x y : MC} (hc : eget l s = some (.bool false)) (h : MWp P y Q ((s, .bool false) :: l) w) : MWp P (.cond (.tmp s) x y) Q l w := ⟨false, hc, fun e => (by cases e), fun _ => h⟩
theorem w_loop {b : MC} (I : Nat → Env → World → Prop) (n : Nat) (h0 : I n l w) (h : ∀ n l w, I n l w → MWp P b (thenQ (fun l' w' => ∃ m, m < n ∧ ∃ l'', Sub l'' l' ∧ I m l'' w') Q) l w) : MWp P (.loop b) Q l w := ⟨I, n, h0, h⟩
theorem n_all {b : MC} (h : MWp P b Q l w) : ∃ l'', Sub l'' l ∧ MWp P b Q l'' w := ⟨l, Sub.refl l, h⟩
theorem n_pick {b : MC} {l' : Env} (ts : List Nat) (hp : pickS ts l [] = some l') (h : MWp P b Q l' w) : ∃ l'', Sub l'' l ∧ MWp P b Q l'' w := ⟨l', pickS_sub hp (Sub.nil l), h⟩
end
end Go.Tum
