/-
  Regions and code, compiled: the steps of a region in one order; what has to be shown of them; that this is enough.
-/
import Derived.Test.YtnleiiniajinbaaEff
namespace Go.Tum
open Go

inductive Step where
  | q (k : Nat) (d : Option Nat) (g : Option (Nat × Bool)) (op : QOp) (rd : Bool)
  | e (d : Option Nat) (g : Option (Nat × Bool)) (op : EOp) (pend : List Nat)

def gw (g : Option (Nat × Bool)) (l : Env) : Option Bool :=
  match g with
  | none => some true
  | some (s, want) => match eget l s with
    | some (.bool b) => some (b == want)
    | some (.tuple _) => some false
    | _ => none

/-- by a guard: the slot that it looks at is known behind it -/
def gcase (g : Option (Nat × Bool)) (l : Env) (run skip : Env → Prop) : Prop :=
  match g with
  | none => run l
  | some (s, want) => match eget l s with
    | some (.bool b) => (b = want → ∃ l', Sub l' l ∧ run l') ∧ (b = (!want) → ∃ l', Sub l' l ∧ skip l')
    | some (.tuple _) => skip l
    | _ => False

def flook : Facts → Nat → Option (World → Prop)
  | [], _ => none
  | (k, F) :: r, t => bif Nat.beq k t then some F else flook r t

theorem flook_cons (k : Nat) (F : World → Prop) (r : Facts) (t : Nat) : flook ((k, F) :: r) t = if k = t then some F else flook r t := by
  simp only [flook]
  by_cases h : k = t
  · subst h; simp
  · rw [if_neg h]
    cases hb : Nat.beq k t
    · rfl
    · exact absurd (Nat.eq_of_beq_eq_true hb) h

def pendOk (T : Facts) (w w' : World) : List Nat → Prop
  | [] => True
  | k :: ks => (match flook T k with
    | some F => F w → F w'
    | none => True) ∧ pendOk T w w' ks

theorem pendOk_mem {T : Facts} {w w' : World} : ∀ {ks : List Nat}, pendOk T w w' ks → ∀ k ∈ ks, ∀ F, flook T k = some F → F w → F w'
  | [], _, k, hk, _, _ => by cases hk
  | k' :: ks, h, k, hk, F, hF => by
    rcases List.mem_cons.1 hk with rfl | hk
    · have := h.1; rw [hF] at this; exact this
    · exact pendOk_mem h.2 k hk F hF

def stepsWp (P : Program) : List Step → (Env → World → Prop) → Env → Facts → World → Prop
  | [], K, l, _, w => K l w
  | .q k d g op rd :: r, K, l, T, w =>
    gcase g l (fun l => ∃ v, op.Y P l v w ∧ stepsWp P r K (dpush d v l) (bif rd then (k, op.Y P l v) :: T else T) w)
      (fun l => stepsWp P r K (dpush d undef l) T w)
  | .e d g op pend :: r, K, l, T, w =>
    gcase g l (fun l => op.W P (fun v w' => pendOk T w w' pend ∧ stepsWp P r K (dpush d v l) T w') l w)
      (fun l => stepsWp P r K (dpush d undef l) T w)

def dstOk (N : Nat) (d : Option Nat) : Bool :=
  match d with
  | some d => decide (d < N)
  | none => true

def guardOf (ops : Array Oper) (o : Oper) : Option (Option (Nat × Bool)) :=
  match o.guard with
  | none => some none
  | some (j, want) => match (ops[j]?).bind (·.dst) with
    | some s => some (some (s, want))
    | none => none

/-- the step of a quiet operation -/
def qStep (P : Program) (N : Nat) (ops : Array Oper) (i : Nat) (o : Oper) : Option Step :=
  match compQ P o, guardOf ops o with
  | some (q, rd), some g => if dstOk N o.dst then some (.q i o.dst g q rd) else none
  | _, _ => none

def eStep (P : Program) (N : Nat) (ops : Array Oper) (o : Oper) (pend : List Nat) : Option Step :=
  match compE P o, guardOf ops o with
  | some e, some g => if dstOk N o.dst then some (.e o.dst g e pend) else none
  | _, _ => none

def textGo (P : Program) (N : Nat) (ops : Array Oper) : List Oper → Option (List Step)
  | [] => some []
  | o :: r =>
    match (match qStep P N ops 0 o with | some s => some s | none => eStep P N ops o []) with
    | some s => match textGo P N ops r with
      | some ss => some (s :: ss)
      | none => none
    | none => none

def stepReads : Step → Bool
  | .q _ _ _ _ rd => rd
  | .e .. => false

def qFind (P : Program) (N : Nat) (ops : Array Oper) (listed : Array Bool) : List Nat → Option (Nat × Step)
  | [] => none
  | i :: r => match ops[i]? with
    | some o => match qStep P N ops i o with
      | some s => if Region.free .any ops listed i then some (i, s) else qFind P N ops listed r
      | none => qFind P N ops listed r
    | none => qFind P N ops listed r

def planGo (P : Program) (N : Nat) (ops : Array Oper) : Nat → Array Bool → List Nat → Option (List Step)
  | 0, listed, _ => if (Region.ready .any ops listed).isEmpty then some [] else none
  | fuel + 1, listed, taken =>
    match Region.ready .any ops listed with
    | [] => some []
    | rs => match qFind P N ops listed rs with
      | some (i, s) => match planGo P N ops fuel (listed.setIfInBounds i true) (bif stepReads s then i :: taken else taken) with
        | some ss => some (s :: ss)
        | none => none
      | none => match rs with
        | [i] => match ops[i]? with
          | some o => match eStep P N ops o (taken.filter fun k => !direct ops i k) with
            | some s => match planGo P N ops fuel (listed.setIfInBounds i true) (taken.filter fun k => !direct ops i k) with
              | some ss => some (s :: ss)
              | none => none
            | none => none
          | none => none
        | _ => none

def compRegion (P : Program) (N : Nat) (ops : Array Oper) (draw : Bool) : Option (List Step) :=
  if draw then (if P.follows .mixedOrders && Region.noSelect ops then planGo P N ops ops.size (Array.replicate ops.size false) [] else none)
  else textGo P N ops ops.toList

/-! ### that the guards are the model's -/
section
variable {P : Program} {N : Nat} {ops : Array Oper} {l : Env} {a : Act}

theorem gw_sound {o : Oper} {g : Option (Nat × Bool)} {b : Bool} (hg : guardOf ops o = some g) (h : gw g l = some b) (ha : At N l a) : Region.wanted o (yielded ops a.tmps) = b := by
  unfold guardOf at hg
  unfold Region.wanted
  cases hog : o.guard with
  | none => rw [hog] at hg; cases hg; simp only [gw] at h; cases h; rfl
  | some jw =>
    obtain ⟨j, want⟩ := jw
    rw [hog] at hg
    simp only at hg ⊢
    cases hs : (ops[j]?).bind (·.dst) with
    | none => rw [hs] at hg; cases hg
    | some s =>
      rw [hs] at hg; cases hg
      simp only [gw] at h
      unfold yielded
      rw [hs]
      simp only [Option.bind_some]
      cases he : eget l s with
      | none => rw [he] at h; cases h
      | some v =>
        rw [he] at h
        have hget := ha.get s v he
        cases v <;> simp only [reduceCtorEq] at h
        case bool b' =>
          cases h
          cases hq : a.tmps[s]? with
          | none => simp [Array.getD_eq_getD_getElem?, hq, undef] at hget
          | some u =>
            have : u = .bool b' := by simpa [Array.getD_eq_getD_getElem?, hq] using hget
            subst this
            cases b' <;> cases want <;> rfl
        case tuple vs =>
          cases h
          cases hq : a.tmps[s]? with
          | none => rfl
          | some u =>
            have : u = .tuple vs := by simpa [Array.getD_eq_getD_getElem?, hq] using hget
            subst this
            rfl

theorem At.known {s : Nat} {v : Value} (ha : At N l a) (h : eget l s = some v) : At N ((s, v) :: l) a :=
  ha.sub (Sub.cons h (Sub.refl l))

theorem gcase_sound {o : Oper} {g : Option (Nat × Bool)} {run skip : Env → Prop} (hg : guardOf ops o = some g) (h : gcase g l run skip) (ha : At N l a) :
    (Region.wanted o (yielded ops a.tmps) = true ∧ ∃ l', At N l' a ∧ run l') ∨ (Region.wanted o (yielded ops a.tmps) = false ∧ ∃ l', At N l' a ∧ skip l') := by
  cases g with
  | none => exact .inl ⟨gw_sound hg rfl ha, l, ha, h⟩
  | some sw =>
    obtain ⟨s, want⟩ := sw
    simp only [gcase] at h
    cases he : eget l s with
    | none => rw [he] at h; exact h.elim
    | some v =>
      rw [he] at h
      cases v <;> simp only at h
      case bool b =>
        by_cases e : b = want
        · subst e
          refine .inl ⟨gw_sound hg (b := true) (by simp [gw, he]) ha, ?_⟩
          obtain ⟨l', h1, h2⟩ := h.1 rfl
          exact ⟨l', ha.sub h1, h2⟩
        · have e' : b = (!want) := by cases b <;> cases want <;> simp at e ⊢
          subst e'
          refine .inr ⟨gw_sound hg (b := false) (by cases want <;> simp [gw, he]) ha, ?_⟩
          obtain ⟨l', h1, h2⟩ := h.2 rfl
          exact ⟨l', ha.sub h1, h2⟩
      case tuple vs => exact .inr ⟨gw_sound hg (b := false) (by simp [gw, he]) ha, l, ha, h⟩

theorem dstOk_spec {d : Option Nat} (h : dstOk N d = true) : ∀ x, d = some x → x < N := by
  intro x hx; subst hx; simpa [dstOk] using h

theorem qStep_spec {i : Nat} {o : Oper} {s : Step} (h : qStep P N ops i o = some s) : ∃ q rd g, s = .q i o.dst g q rd ∧ compQ P o = some (q, rd) ∧ guardOf ops o = some g ∧ dstOk N o.dst = true := by
  unfold qStep at h
  split at h
  · rename_i q rd g h1 h2
    split at h
    · rename_i h3; cases h; exact ⟨q, rd, g, rfl, h1, h2, h3⟩
    · cases h
  · cases h

theorem eStep_spec {o : Oper} {pend : List Nat} {s : Step} (h : eStep P N ops o pend = some s) : ∃ e g, s = .e o.dst g e pend ∧ compE P o = some e ∧ guardOf ops o = some g ∧ dstOk N o.dst = true := by
  unfold eStep at h
  split at h
  · rename_i e g h1 h2
    split at h
    · rename_i h3; cases h; exact ⟨e, g, rfl, h1, h2, h3⟩
    · cases h
  · cases h

theorem text_sound {Q : Exit → Env → World → Prop} : ∀ (os : List Oper) (ss : List Step), textGo P N ops os = some ss → ∀ (l : Env) (T : Facts) (a : Act) (w0 w : World), At N l a → Sim w0 w → stepsWp P ss (Q .normal) l T w →
    wpList P ops (lift N Q) os a w0 := by
  intro os
  induction os with
  | nil =>
    intro ss h l T a w0 w ha hs hw
    simp only [textGo, Option.some.injEq] at h; subst h
    exact ⟨l, w, ha, hs, hw⟩
  | cons o r ih =>
    intro ss h l T a w0 w ha hs hw
    simp only [textGo] at h
    cases hq : qStep P N ops 0 o with
    | some s =>
      rw [hq] at h
      simp only at h
      cases hr : textGo P N ops r with
      | none => rw [hr] at h; cases h
      | some rs =>
        rw [hr] at h; cases h
        obtain ⟨q, rd, g, rfl, hc, hg, hd⟩ := qStep_spec hq
        simp only [stepsWp] at hw
        unfold wpList
        rcases gcase_sound hg hw ha with ⟨hwant, l', ha', v, hy, hrest⟩ | ⟨hwant, l', ha', hw'⟩
        · rw [if_pos hwant]
          refine .inl ?_
          unfold Oper.wp
          rw [compQ_sound hc (QOp.Y_sim hy hs) ha'.agr]
          exact ih rs hr _ _ _ w0 w (ha'.putO (dstOk_spec hd) v) hs hrest
        · rw [if_neg (by rw [hwant]; simp)]
          exact ih rs hr _ _ _ w0 w (ha'.putO (dstOk_spec hd) undef) hs hw'
    | none =>
      rw [hq] at h
      simp only at h
      cases he : eStep P N ops o [] with
      | none => rw [he] at h; cases h
      | some s =>
        rw [he] at h
        simp only at h
        cases hr : textGo P N ops r with
        | none => rw [hr] at h; cases h
        | some rs =>
          rw [hr] at h; cases h
          obtain ⟨e, g, rfl, hc, hg, hd⟩ := eStep_spec he
          simp only [stepsWp] at hw
          unfold wpList
          rcases gcase_sound hg hw ha with ⟨hwant, l', ha', hw'⟩ | ⟨hwant, l', ha', hw'⟩
          · rw [if_pos hwant]
            refine .inl (Eff.wp ((compE_sound hc hw' ha'.agr hs).mono fun v w' ⟨w1, h1, _, h2⟩ => ?_))
            exact ih rs hr _ _ _ w' w1 (ha'.putO (dstOk_spec hd) v) h1 h2
          · rw [if_neg (by rw [hwant]; simp)]
            exact ih rs hr _ _ _ w0 w (ha'.putO (dstOk_spec hd) undef) hs hw'
end
end Go.Tum
