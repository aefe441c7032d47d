/-
  That the order which was chosen for a region that draws its order is enough; code; functions.
-/
import Derived.Test.YtnleiiniajinbaaComp
namespace Go.Tum
open Go

section
variable {P : Program} {N : Nat} {ops : Array Oper}

theorem qFind_spec {listed : Array Bool} : ∀ {rs : List Nat} {i : Nat} {s : Step}, qFind P N ops listed rs = some (i, s) → i ∈ rs ∧ ∃ o, ops[i]? = some o ∧ qStep P N ops i o = some s ∧ Region.free .any ops listed i = true
  | [], _, _, h => by cases h
  | j :: r, i, s, h => by
    simp only [qFind] at h
    cases ho : ops[j]? with
    | none => rw [ho] at h; exact ⟨List.mem_cons_of_mem _ (qFind_spec h).1, (qFind_spec h).2⟩
    | some o =>
      rw [ho] at h
      simp only at h
      cases hq : qStep P N ops j o with
      | none => rw [hq] at h; exact ⟨List.mem_cons_of_mem _ (qFind_spec h).1, (qFind_spec h).2⟩
      | some s' =>
        rw [hq] at h
        simp only at h
        split at h
        · rename_i hf; cases h; exact ⟨List.mem_cons_self .., o, ho, hq, hf⟩
        · exact ⟨List.mem_cons_of_mem _ (qFind_spec h).1, (qFind_spec h).2⟩

structure TOk (T Ts : Facts) (taken : List Nat) (listed : Array Bool) : Prop where
  mem : ∀ x ∈ Ts, x.1 ∈ taken ∧ flook T x.1 = some x.2 ∧ ∀ u u' : World, Sim u u' → x.2 u → x.2 u'
  lst : ∀ k ∈ taken, listed.getD k false = true

theorem TOk.listed_ne {T Ts : Facts} {taken : List Nat} {listed : Array Bool} (h : TOk T Ts taken listed) {i : Nat} (hi : listed.getD i true = false) : ∀ k ∈ taken, i ≠ k := by
  intro k hk e
  subst e
  have := h.lst i hk
  rcases Nat.lt_or_ge i listed.size with h' | h'
  · simp [h'] at this hi; rw [hi] at this; cases this
  · simp [Array.getElem?_eq_none h'] at this

theorem TOk.set {T Ts : Facts} {taken : List Nat} {listed : Array Bool} (h : TOk T Ts taken listed) (i : Nat) : TOk T Ts taken (listed.setIfInBounds i true) :=
  ⟨h.mem, fun k hk => getD_set_true (h.lst k hk)⟩

theorem TOk.take {T Ts : Facts} {taken : List Nat} {listed : Array Bool} (h : TOk T Ts taken listed) {i : Nat} (hr : i ∈ Region.ready .any ops listed) (hsz : i < listed.size) {F : World → Prop} (hF : ∀ u u' : World, Sim u u' → F u → F u') :
    TOk ((i, F) :: T) ((i, F) :: Ts) (i :: taken) (listed.setIfInBounds i true) := by
  have hne := h.listed_ne (mem_ready.1 hr).1
  refine ⟨fun x hx => ?_, fun k hk => ?_⟩
  · rcases List.mem_cons.1 hx with rfl | hx
    · exact ⟨List.mem_cons_self .., by rw [flook_cons, if_pos rfl], hF⟩
    · obtain ⟨h1, h2, h3⟩ := h.mem x hx
      exact ⟨List.mem_cons_of_mem _ h1, by rw [flook_cons, if_neg (hne _ h1)]; exact h2, h3⟩
  · rcases List.mem_cons.1 hk with rfl | hk
    · simp [hsz]
    · exact getD_set_true (h.lst k hk)

theorem TOk.filter {T Ts : Facts} {taken : List Nat} {listed : Array Bool} (h : TOk T Ts taken listed) (i : Nat) : TOk T (flt ops i Ts) (taken.filter fun k => !direct ops i k) (listed.setIfInBounds i true) := by
  refine ⟨fun x hx => ?_, fun k hk => getD_set_true (h.lst k (List.mem_filter.1 hk).1)⟩
  simp only [flt, List.mem_filter] at hx
  obtain ⟨h1, h2, h3⟩ := h.mem x hx.1
  exact ⟨List.mem_filter.2 ⟨h1, hx.2⟩, h2, h3⟩

theorem plan_sound {Q : Exit → Env → World → Prop} (hsel : Region.noSelect ops = true) : ∀ (fuel : Nat) (listed : Array Bool) (taken : List Nat) (ss : List Step), planGo P N ops fuel listed taken = some ss → listed.size = ops.size →
    ∀ (l : Env) (T Ts : Facts) (a : Act) (w0 w : World), TOk T Ts taken listed → At N l a → Sim w0 w → stepsWp P ss (Q .normal) l T w → wpAnyT P ops (lift N Q) Ts fuel listed a w0 := by
  intro fuel
  induction fuel with
  | zero =>
    intro listed taken ss h _ l T Ts a w0 w _ ha hs hw
    simp only [planGo] at h
    split at h
    · rename_i he
      cases h
      exact ⟨by simpa using he, l, w, ha, hs, hw⟩
    · cases h
  | succ fuel ih =>
    intro listed taken ss h hsz l T Ts a w0 w hT ha hs hw
    have hsz' : ∀ i, (listed.setIfInBounds i true).size = ops.size := fun i => by simp [hsz]
    simp only [planGo] at h
    cases hr : Region.ready .any ops listed with
    | nil =>
      rw [hr] at h
      cases h
      exact wpAnyT_done hr ⟨l, w, ha, hs, hw⟩ _
    | cons r0 rr =>
      rw [hr] at h
      simp only at h
      cases hq : qFind P N ops listed (r0 :: rr) with
      | some is =>
        obtain ⟨i, s⟩ := is
        rw [hq] at h
        simp only at h
        obtain ⟨hmem, o, ho, hstep, hfree⟩ := qFind_spec hq
        obtain ⟨q, rd, g, rfl, hc, hg, hd⟩ := qStep_spec hstep
        rw [← hr] at hmem
        have hlt : i < listed.size := by rw [hsz]; exact (Array.getElem?_eq_some_iff.1 ho).1
        simp only [stepReads] at h
        cases hp : planGo P N ops fuel (listed.setIfInBounds i true) (bif rd then i :: taken else taken) with
        | none => rw [hp] at h; cases h
        | some rest =>
          rw [hp] at h; cases h
          simp only [stepsWp] at hw
          rcases gcase_sound hg hw ha with ⟨hwant, l', ha', v, hy, hrest⟩ | ⟨hwant, l', ha', hw'⟩
          · cases rd with
            | true =>
              refine wpAnyT_take (S := q.Y P l' v) ho hsel hfree hmem (fun _ _ _ h => h) (.inl ⟨hwant, fun w' hS => compQ_sound hc hS ha'.agr⟩) (QOp.Y_sim hy hs) ?_
              exact ih _ _ _ hp (hsz' i) _ _ _ _ w0 w (hT.take hmem hlt fun u u' hu hY => QOp.Y_sim hY hu.symm) (ha'.putO (dstOk_spec hd) v) hs hrest
            | false =>
              refine wpAnyT_takeFree ho hsel hfree hmem (fun _ _ _ h => h) (.inl ⟨hwant, fun w' _ => compQ_sound hc (compQ_free hc hy w') ha'.agr⟩) ?_
              exact ih _ _ _ hp (hsz' i) _ _ _ _ w0 w (hT.set i) (ha'.putO (dstOk_spec hd) v) hs hrest
          · refine wpAnyT_takeFree (v := undef) ho hsel hfree hmem (fun _ _ _ h => h) (.inr ⟨hwant, rfl⟩) ?_
            cases rd with
            | true =>
              refine ih _ _ _ hp (hsz' i) _ _ _ _ w0 w ⟨fun x hx => ?_, fun k hk => ?_⟩ (ha'.putO (dstOk_spec hd) undef) hs hw'
              · obtain ⟨h1, h2, h3⟩ := hT.mem x hx
                exact ⟨List.mem_cons_of_mem _ h1, h2, h3⟩
              · rcases List.mem_cons.1 hk with rfl | hk
                · simp [hlt]
                · exact getD_set_true (hT.lst k hk)
            | false => exact ih _ _ _ hp (hsz' i) _ _ _ _ w0 w (hT.set i) (ha'.putO (dstOk_spec hd) undef) hs hw'
      | none =>
        rw [hq] at h
        simp only at h
        cases rr with
        | cons r1 rr => cases h
        | nil =>
          simp only at h
          cases ho : ops[r0]? with
          | none => rw [ho] at h; cases h
          | some o =>
            rw [ho] at h
            simp only at h
            cases he : eStep P N ops o (taken.filter fun k => !direct ops r0 k) with
            | none => rw [he] at h; cases h
            | some s =>
              rw [he] at h
              simp only at h
              obtain ⟨e, g, rfl, hc, hg, hd⟩ := eStep_spec he
              cases hp : planGo P N ops fuel (listed.setIfInBounds r0 true) (taken.filter fun k => !direct ops r0 k) with
              | none => rw [hp] at h; cases h
              | some rest =>
                rw [hp] at h; cases h
                simp only [stepsWp] at hw
                refine wpAnyT_one hr ?_
                unfold wpOp
                rw [ho]
                simp only
                rcases gcase_sound hg hw ha with ⟨hwant, l', ha', hw'⟩ | ⟨hwant, l', ha', hw'⟩
                · rw [if_pos hwant]
                  refine .inl (Eff.wp ((compE_sound hc hw' ha'.agr hs).mono fun v w' ⟨w1, h1, hpend, h2⟩ => ⟨fun x hx hx0 => ?_, ?_⟩))
                  · simp only [flt, List.mem_filter] at hx
                    obtain ⟨h3, h4, h5⟩ := hT.mem x hx.1
                    exact h5 _ _ h1.symm (pendOk_mem hpend x.1 (List.mem_filter.2 ⟨h3, hx.2⟩) x.2 h4 (h5 _ _ hs hx0))
                  · exact ih _ _ _ hp (hsz' r0) _ _ _ _ w' w1 (hT.filter r0) (ha'.putO (dstOk_spec hd) v) h1 h2
                · rw [if_neg (by rw [hwant]; simp)]
                  exact ⟨fun _ _ hx => hx, ih _ _ _ hp (hsz' r0) _ _ _ _ w0 w (hT.filter r0) (ha'.putO (dstOk_spec hd) undef) hs hw'⟩

/-- the steps of a region in which two effects may come in either order -/
inductive PT where
  | done
  | q (k : Nat) (d : Option Nat) (g : Option (Nat × Bool)) (op : QOp) (rd : Bool) (r : PT)
  | e (d : Option Nat) (g : Option (Nat × Bool)) (op : EOp) (pend : List Nat) (r : PT)
  | alt (a b : PT)

def ptWp (P : Program) : PT → (Env → World → Prop) → Env → Facts → World → Prop
  | .done, K, l, _, w => K l w
  | .q k d g op rd r, K, l, T, w =>
    gcase g l (fun l => ∃ v, op.Y P l v w ∧ ptWp P r K (dpush d v l) (bif rd then (k, op.Y P l v) :: T else T) w)
      (fun l => ptWp P r K (dpush d undef l) T w)
  | .e d g op pend r, K, l, T, w =>
    gcase g l (fun l => op.W P (fun v w' => pendOk T w w' pend ∧ ptWp P r K (dpush d v l) T w') l w)
      (fun l => ptWp P r K (dpush d undef l) T w)
  | .alt a b, K, l, T, w => ptWp P a K l T w ∧ ptWp P b K l T w

def altAll (f : Nat → Option PT) : List Nat → Option PT
  | [] => none
  | i :: r => match r with
    | [] => f i
    | _ :: _ => match f i, altAll f r with
      | some a, some b => some (.alt a b)
      | _, _ => none

def planT (P : Program) (N : Nat) (ops : Array Oper) : Nat → Array Bool → List Nat → Option PT
  | 0, listed, _ => if (Region.ready .any ops listed).isEmpty then some .done else none
  | fuel + 1, listed, taken =>
    match Region.ready .any ops listed with
    | [] => some .done
    | rs => match qFind P N ops listed rs with
      | some (i, .q k d g op rd) => match planT P N ops fuel (listed.setIfInBounds i true) (bif rd then i :: taken else taken) with
        | some ss => some (.q k d g op rd ss)
        | none => none
      | some (_, .e ..) => none
      | none => altAll (fun i => match ops[i]? with
          | some o => match eStep P N ops o (taken.filter fun k => !direct ops i k) with
            | some (.e d g op pend) => match planT P N ops fuel (listed.setIfInBounds i true) (taken.filter fun k => !direct ops i k) with
              | some ss => some (.e d g op pend ss)
              | none => none
            | _ => none
          | none => none) rs

theorem altAll_spec {P : Program} {f : Nat → Option PT} {K : Env → World → Prop} {l : Env} {T : Facts} {w : World} : ∀ (rs : List Nat) (t : PT), altAll f rs = some t → ptWp P t K l T w → ∀ i ∈ rs, ∃ ti, f i = some ti ∧ ptWp P ti K l T w
  | [], t, h, _ => by cases h
  | [j], t, h, hw => by
    intro i hi
    rw [List.mem_singleton] at hi
    subst hi
    exact ⟨t, h, hw⟩
  | j :: j' :: r, t, h, hw => by
    simp only [altAll] at h
    cases ha : f j with
    | none => rw [ha] at h; cases h
    | some a =>
      rw [ha] at h
      cases hb : altAll f (j' :: r) with
      | none => simp only [altAll] at hb; rw [hb] at h; cases h
      | some b =>
        have hb' := hb
        simp only [altAll] at hb
        rw [hb] at h; cases h
        intro i hi
        rcases List.mem_cons.1 hi with rfl | hi
        · exact ⟨a, ha, hw.1⟩
        · exact altAll_spec (j' :: r) b hb' hw.2 i hi

theorem planT_sound {Q : Exit → Env → World → Prop} (hsel : Region.noSelect ops = true) : ∀ (fuel : Nat) (listed : Array Bool) (taken : List Nat) (t : PT), planT P N ops fuel listed taken = some t → listed.size = ops.size →
    ∀ (l : Env) (T Ts : Facts) (a : Act) (w0 w : World), TOk T Ts taken listed → At N l a → Sim w0 w → ptWp P t (Q .normal) l T w → wpAnyT P ops (lift N Q) Ts fuel listed a w0 := by
  intro fuel
  induction fuel with
  | zero =>
    intro listed taken ss h _ l T Ts a w0 w _ ha hs hw
    simp only [planT] at h
    split at h
    · rename_i he
      cases h
      exact ⟨by simpa using he, l, w, ha, hs, hw⟩
    · cases h
  | succ fuel ih =>
    intro listed taken ss h hsz l T Ts a w0 w hT ha hs hw
    have hsz' : ∀ i, (listed.setIfInBounds i true).size = ops.size := fun i => by simp [hsz]
    simp only [planT] at h
    cases hr : Region.ready .any ops listed with
    | nil =>
      rw [hr] at h
      cases h
      exact wpAnyT_done hr ⟨l, w, ha, hs, hw⟩ _
    | cons r0 rr =>
      rw [hr] at h
      simp only at h
      cases hq : qFind P N ops listed (r0 :: rr) with
      | some is =>
        obtain ⟨i, s⟩ := is
        rw [hq] at h
        obtain ⟨hmem, o, ho, hstep, hfree⟩ := qFind_spec hq
        obtain ⟨q, rd, g, rfl, hc, hg, hd⟩ := qStep_spec hstep
        simp only at h
        rw [← hr] at hmem
        have hlt : i < listed.size := by rw [hsz]; exact (Array.getElem?_eq_some_iff.1 ho).1
        cases hp : planT P N ops fuel (listed.setIfInBounds i true) (bif rd then i :: taken else taken) with
        | none => rw [hp] at h; cases h
        | some rest =>
          rw [hp] at h; cases h
          simp only [ptWp] at hw
          rcases gcase_sound hg hw ha with ⟨hwant, l', ha', v, hy, hrest⟩ | ⟨hwant, l', ha', hw'⟩
          · cases rd with
            | true =>
              refine wpAnyT_take (S := q.Y P l' v) ho hsel hfree hmem (fun _ _ _ h => h) (.inl ⟨hwant, fun w' hS => compQ_sound hc hS ha'.agr⟩) (QOp.Y_sim hy hs) ?_
              exact ih _ _ _ hp (hsz' i) _ _ _ _ w0 w (hT.take hmem hlt fun u u' hu hY => QOp.Y_sim hY hu.symm) (ha'.putO (dstOk_spec hd) v) hs hrest
            | false =>
              refine wpAnyT_takeFree ho hsel hfree hmem (fun _ _ _ h => h) (.inl ⟨hwant, fun w' _ => compQ_sound hc (compQ_free hc hy w') ha'.agr⟩) ?_
              exact ih _ _ _ hp (hsz' i) _ _ _ _ w0 w (hT.set i) (ha'.putO (dstOk_spec hd) v) hs hrest
          · refine wpAnyT_takeFree (v := undef) ho hsel hfree hmem (fun _ _ _ h => h) (.inr ⟨hwant, rfl⟩) ?_
            cases rd with
            | true =>
              refine ih _ _ _ hp (hsz' i) _ _ _ _ w0 w ⟨fun x hx => ?_, fun k hk => ?_⟩ (ha'.putO (dstOk_spec hd) undef) hs hw'
              · obtain ⟨h1, h2, h3⟩ := hT.mem x hx
                exact ⟨List.mem_cons_of_mem _ h1, h2, h3⟩
              · rcases List.mem_cons.1 hk with rfl | hk
                · simp [hlt]
                · exact getD_set_true (hT.lst k hk)
            | false => exact ih _ _ _ hp (hsz' i) _ _ _ _ w0 w (hT.set i) (ha'.putO (dstOk_spec hd) undef) hs hw'
      | none =>
        rw [hq] at h
        simp only at h
        refine ⟨fun e => (by rw [e] at hr; cases hr), fun i hi => ?_⟩
        rw [hr] at hi
        obtain ⟨ti, hti, hwi⟩ := altAll_spec _ _ h hw i hi
        cases ho : ops[i]? with
        | none => rw [ho] at hti; cases hti
        | some o =>
          rw [ho] at hti
          simp only at hti
          cases he : eStep P N ops o (taken.filter fun k => !direct ops i k) with
          | none => rw [he] at hti; cases hti
          | some s =>
            rw [he] at hti
            obtain ⟨e, g, rfl, hc, hg, hd⟩ := eStep_spec he
            simp only at hti
            cases hp : planT P N ops fuel (listed.setIfInBounds i true) (taken.filter fun k => !direct ops i k) with
            | none => rw [hp] at hti; cases hti
            | some rest =>
              rw [hp] at hti; cases hti
              simp only [ptWp] at hwi
              unfold wpOp
              rw [ho]
              simp only
              rcases gcase_sound hg hwi ha with ⟨hwant, l', ha', hw'⟩ | ⟨hwant, l', ha', hw'⟩
              · rw [if_pos hwant]
                refine .inl (Eff.wp ((compE_sound hc hw' ha'.agr hs).mono fun v w' ⟨w1, h1, hpend, h2⟩ => ⟨fun x hx hx0 => ?_, ?_⟩))
                · simp only [flt, List.mem_filter] at hx
                  obtain ⟨h3, h4, h5⟩ := hT.mem x hx.1
                  exact h5 _ _ h1.symm (pendOk_mem hpend x.1 (List.mem_filter.2 ⟨h3, hx.2⟩) x.2 h4 (h5 _ _ hs hx0))
                · exact ih _ _ _ hp (hsz' i) _ _ _ _ w' w1 (hT.filter i) (ha'.putO (dstOk_spec hd) v) h1 h2
              · rw [if_neg (by rw [hwant]; simp)]
                exact ⟨fun _ _ hx => hx, ih _ _ _ hp (hsz' i) _ _ _ _ w0 w (hT.filter i) (ha'.putO (dstOk_spec hd) undef) hs hw'⟩

def compRegionT (P : Program) (N : Nat) (ops : Array Oper) (draw : Bool) : Option PT :=
  if draw then (if P.follows .mixedOrders && Region.noSelect ops then planT P N ops ops.size (Array.replicate ops.size false) [] else none)
  else none

theorem V.regionT {Q : Exit → Env → World → Prop} {id : Nat} {draw : Bool} {t : PT} {l : Env} {w : World} (hc : compRegionT P N ops draw = some t) (h : ptWp P t (Q .normal) l [] w) : V P N (.region id ops draw) Q l w := by
  intro a w0 ha hs
  unfold compRegionT at hc
  cases draw with
  | true =>
    simp only [if_true] at hc
    split at hc
    · rename_i hf
      simp only [Bool.and_eq_true] at hf
      refine wp_region_T hf.1 ?_
      exact planT_sound hf.2 _ _ _ _ hc (by simp) l [] [] a _ w ⟨fun x hx => (by cases hx), fun k hk => (by cases hk)⟩ ha (hs.drawn _) h
    · cases hc
  | false => cases hc

theorem V.region {Q : Exit → Env → World → Prop} {id : Nat} {draw : Bool} {ss : List Step} {l : Env} {w : World} (hc : compRegion P N ops draw = some ss) (h : stepsWp P ss (Q .normal) l [] w) : V P N (.region id ops draw) Q l w := by
  intro a w0 ha hs
  unfold compRegion at hc
  cases draw with
  | true =>
    simp only [if_true] at hc
    split at hc
    · rename_i hf
      simp only [Bool.and_eq_true] at hf
      refine wp_region_T hf.1 ?_
      exact plan_sound hf.2 _ _ _ _ hc (by simp) l [] [] a _ w ⟨fun x hx => (by cases hx), fun k hk => (by cases hk)⟩ ha (hs.drawn _) h
    · cases hc
  | false =>
    simp only [Bool.false_eq_true, if_false] at hc
    exact wp_region_list (text_sound _ _ hc l [] a w0 w ha hs h)
end

/-! ### code -/
inductive MC where
  | skip
  | reg (s : List Step)
  | regT (t : PT)
  | seq (a b : MC)
  | cond (c : Operand) (x y : MC)
  | block (id : Nat) (b : MC)
  | loop (b : MC)
  | exit (id : Nat)
  | ret

def comp (P : Program) (N : Nat) : Code → Option MC
  | .skip => some .skip
  | .region _ ops draw => match compRegion P N ops draw with
    | some s => some (.reg s)
    | none => match compRegionT P N ops draw with
      | some t => some (.regT t)
      | none => none
  | .seq a b => match comp P N a, comp P N b with
    | some x, some y => some (.seq x y)
    | _, _ => none
  | .cond c a b => match comp P N a, comp P N b with
    | some x, some y => some (.cond c x y)
    | _, _ => none
  | .block id b => match comp P N b with
    | some x => some (.block id x)
    | none => none
  | .loop b => match comp P N b with
    | some x => some (.loop x)
    | none => none
  | .exit id => some (.exit id)
  | .ret => some .ret
  | _ => none

def knows (c : Operand) (b : Bool) (l : Env) : Env :=
  match c with
  | .tmp s => (s, .bool b) :: l
  | _ => l

theorem At.knows {N : Nat} {l : Env} {a : Act} {c : Operand} {b : Bool} (ha : At N l a) (h : ev l c = some (.bool b)) : At N (Tum.knows c b l) a := by
  cases c with
  | tmp s => exact ha.known h
  | const v => exact ha
  | global g => exact ha
  | func f => exact ha

def MWp (P : Program) : MC → (Exit → Env → World → Prop) → Env → World → Prop
  | .skip, Q, l, w => Q .normal l w
  | .reg s, Q, l, w => stepsWp P s (Q .normal) l [] w
  | .regT t, Q, l, w => ptWp P t (Q .normal) l [] w
  | .seq a b, Q, l, w => MWp P a (thenQ (fun l' w' => ∃ l'', Sub l'' l' ∧ MWp P b Q l'' w') Q) l w
  | .cond c x y, Q, l, w => ∃ t, ev l c = some (.bool t) ∧ (t = true → MWp P x Q (knows c true l) w) ∧ (t = false → MWp P y Q (knows c false l) w)
  | .block id b, Q, l, w => MWp P b (blkQ id Q) l w
  | .loop b, Q, l, w => ∃ (I : Nat → Env → World → Prop) (n : Nat), I n l w ∧
      ∀ n l w, I n l w → MWp P b (thenQ (fun l' w' => ∃ m, m < n ∧ ∃ l'', Sub l'' l' ∧ I m l'' w') Q) l w
  | .exit id, Q, l, w => Q (.exit id) l w
  | .ret, Q, l, w => Q .ret l w

theorem EOp.W_mono {P : Program} {e : EOp} {K K' : Value → World → Prop} {l : Env} {w : World} (h : ∀ v w, K v w → K' v w) (hw : e.W P K l w) : e.W P K' l w := by
  cases e <;> simp only [EOp.W] at *
  case st => obtain ⟨p, u, h1, h2, h3, h4, h5, h6⟩ := hw; exact ⟨p, u, h1, h2, h3, h4, h5, h _ _ h6⟩
  case stn => obtain ⟨p, u, h1, h2, h3, h4, h5, h6⟩ := hw; exact ⟨p, u, h1, h2, h3, h4, h5, h _ _ h6⟩
  case new => exact h _ _ hw
  case box => obtain ⟨u, h1, h2⟩ := hw; exact ⟨u, h1, h _ _ h2⟩
  case bs0 => exact h _ _ hw
  case bs1 => obtain ⟨u, h1, h2, h3⟩ := hw; exact ⟨u, h1, h2, h _ _ h3⟩
  case call => obtain ⟨vs, h1, h2⟩ := hw; exact ⟨vs, h1, h2.mono h⟩
  case callv => obtain ⟨f, a, c, vs, h1, h2, h3, h4⟩ := hw; exact ⟨f, a, c, vs, h1, h2, h3, h4.mono h⟩
  case raw => exact fun ρ w0 ha hs => (hw ρ w0 ha hs).mono fun v w' ⟨w1, h1, h2⟩ => ⟨w1, h1, h _ _ h2⟩

theorem gcase_mono {g : Option (Nat × Bool)} {l : Env} {run skip run' skip' : Env → Prop} (h1 : ∀ l, run l → run' l) (h2 : ∀ l, skip l → skip' l) (h : gcase g l run skip) : gcase g l run' skip' := by
  cases g with
  | none => exact h1 _ h
  | some sw =>
    obtain ⟨s, want⟩ := sw
    simp only [gcase] at *
    cases he : eget l s with
    | none => rw [he] at h; exact h
    | some v =>
      rw [he] at h
      cases v <;> simp only at * <;> first | exact h | exact h2 _ h | exact ⟨fun e => let ⟨l', a, b⟩ := h.1 e; ⟨l', a, h1 _ b⟩, fun e => let ⟨l', a, b⟩ := h.2 e; ⟨l', a, h2 _ b⟩⟩

theorem stepsWp_mono {P : Program} {K K' : Env → World → Prop} (h : ∀ l w, K l w → K' l w) : ∀ (ss : List Step) (l : Env) (T : Facts) (w : World), stepsWp P ss K l T w → stepsWp P ss K' l T w
  | [], l, _, w, hw => h l w hw
  | .q k d g op rd :: r, l, T, w, hw => by
    simp only [stepsWp] at *
    exact gcase_mono (fun l ⟨v, h1, h2⟩ => ⟨v, h1, stepsWp_mono h r _ _ _ h2⟩) (fun l h1 => stepsWp_mono h r _ _ _ h1) hw
  | .e d g op pend :: r, l, T, w, hw => by
    simp only [stepsWp] at *
    exact gcase_mono (fun l h1 => EOp.W_mono (fun v w' hk => ⟨hk.1, stepsWp_mono h r _ _ _ hk.2⟩) h1) (fun l h1 => stepsWp_mono h r _ _ _ h1) hw

theorem ptWp_mono {P : Program} {K K' : Env → World → Prop} (h : ∀ l w, K l w → K' l w) : ∀ (t : PT) (l : Env) (T : Facts) (w : World), ptWp P t K l T w → ptWp P t K' l T w
  | .done, l, _, w, hw => h l w hw
  | .q k d g op rd r, l, T, w, hw => by
    simp only [ptWp] at *
    exact gcase_mono (fun l ⟨v, h1, h2⟩ => ⟨v, h1, ptWp_mono h r _ _ _ h2⟩) (fun l h1 => ptWp_mono h r _ _ _ h1) hw
  | .e d g op pend r, l, T, w, hw => by
    simp only [ptWp] at *
    exact gcase_mono (fun l h1 => EOp.W_mono (fun v w' hk => ⟨hk.1, ptWp_mono h r _ _ _ hk.2⟩) h1) (fun l h1 => ptWp_mono h r _ _ _ h1) hw
  | .alt a b, l, T, w, hw => ⟨ptWp_mono h a l T w hw.1, ptWp_mono h b l T w hw.2⟩

theorem thenQ_mono {n n' : Env → World → Prop} {Q Q' : Exit → Env → World → Prop} (hn : ∀ l w, n l w → n' l w) (hq : ∀ e l w, Q e l w → Q' e l w) : ∀ e l w, thenQ n Q e l w → thenQ n' Q' e l w := by
  intro e l w h
  cases e <;> first | exact hn _ _ h | exact hq _ _ _ h

theorem MWp.mono {P : Program} : ∀ (m : MC) {Q Q' : Exit → Env → World → Prop} {l : Env} {w : World}, (∀ e l w, Q e l w → Q' e l w) → MWp P m Q l w → MWp P m Q' l w := by
  intro m
  induction m with
  | skip => intro Q Q' l w h hw; exact h _ _ _ hw
  | reg s => intro Q Q' l w h hw; exact stepsWp_mono (fun l w => h .normal l w) s l [] w hw
  | regT t => intro Q Q' l w h hw; exact ptWp_mono (fun l w => h .normal l w) t l [] w hw
  | seq a b iha ihb => intro Q Q' l w h hw; exact iha (thenQ_mono (fun l w ⟨l'', h1, h2⟩ => ⟨l'', h1, ihb h h2⟩) h) hw
  | cond c x y ihx ihy => intro Q Q' l w h hw; obtain ⟨t, h1, h2, h3⟩ := hw; exact ⟨t, h1, fun ht => ihx h (h2 ht), fun ht => ihy h (h3 ht)⟩
  | block id b ih =>
    intro Q Q' l w h hw
    refine ih (fun e l w hq => ?_) hw
    cases e <;> simp only [blkQ] at * <;> first | exact h _ _ _ hq | skip
    split
    · rename_i e; rw [if_pos e] at hq; exact h _ _ _ hq
    · rename_i e; rw [if_neg e] at hq; exact h _ _ _ hq
  | loop b ih => intro Q Q' l w h hw; obtain ⟨I, n, h0, hr⟩ := hw; exact ⟨I, n, h0, fun n l w hI => ih (thenQ_mono (fun _ _ h => h) h) (hr n l w hI)⟩
  | exit id => intro Q Q' l w h hw; exact h _ _ _ hw
  | ret => intro Q Q' l w h hw; exact h _ _ _ hw

theorem comp_sound {P : Program} {N : Nat} : ∀ (c : Code) (m : MC), comp P N c = some m → ∀ (Q : Exit → Env → World → Prop) (l : Env) (w : World), MWp P m Q l w → V P N c Q l w := by
  intro c
  induction c with
  | skip => intro m h Q l w hw; cases h; exact V.skip hw
  | region id ops draw =>
    intro m h Q l w hw
    simp only [comp] at h
    cases hc : compRegion P N ops draw with
    | none =>
      rw [hc] at h
      simp only at h
      cases ht : compRegionT P N ops draw with
      | none => rw [ht] at h; cases h
      | some t => rw [ht] at h; cases h; exact V.regionT ht hw
    | some s => rw [hc] at h; cases h; exact V.region hc hw
  | seq a b iha ihb =>
    intro m h Q l w hw
    simp only [comp] at h
    cases ha : comp P N a with
    | none => rw [ha] at h; cases h
    | some x =>
      cases hb : comp P N b with
      | none => rw [ha, hb] at h; cases h
      | some y =>
        rw [ha, hb] at h; cases h
        refine V.seq ?_
        intro a' w0 hat hsim
        refine wp_mono (iha x ha _ l w hw a' w0 hat hsim) fun e a2 w2 hq => ?_
        cases e with
        | normal => obtain ⟨l', w1, h1, h2, l'', hsub, h3⟩ := hq; exact ⟨l'', w1, h1.sub hsub, h2, ihb y hb Q l'' w1 h3⟩
        | panic c => exact hq
        | outgrown => exact hq
        | ret => exact hq
        | exit i => exact hq
        | goto i => exact hq
  | cond c a b iha ihb =>
    intro m h Q l w hw
    simp only [comp] at h
    cases ha : comp P N a with
    | none => rw [ha] at h; cases h
    | some x =>
      cases hb : comp P N b with
      | none => rw [ha, hb] at h; cases h
      | some y =>
        rw [ha, hb] at h; cases h
        obtain ⟨t, hc, h1, h2⟩ := hw
        exact V.cond hc (fun ht a' w0 hat hs => iha x ha Q _ w (h1 ht) a' w0 (hat.knows (by rw [hc, ht])) hs) (fun hf a' w0 hat hs => ihb y hb Q _ w (h2 hf) a' w0 (hat.knows (by rw [hc, hf])) hs)
  | block id b ih =>
    intro m h Q l w hw
    simp only [comp] at h
    cases hb : comp P N b with
    | none => rw [hb] at h; cases h
    | some x => rw [hb] at h; cases h; exact V.block (ih x hb _ l w hw)
  | loop b ih =>
    intro m h Q l w hw
    simp only [comp] at h
    cases hb : comp P N b with
    | none => rw [hb] at h; cases h
    | some x =>
      rw [hb] at h; cases h
      obtain ⟨I, n, h0, hr⟩ := hw
      exact V.loop I n h0 fun n l w hI => ih x hb _ l w (hr n l w hI)
  | exit id => intro m h Q l w hw; cases h; exact V.exit hw
  | ret => intro m h Q l w hw; cases h; exact V.ret hw
  | _ => intro m h; cases h

/-! ### functions -/
def initEnv : Nat → List Value → Env
  | _, [] => []
  | i, v :: r => (i, v) :: initEnv (i + 1) r

/-- At the end of a function: what it hands back, and in which world. -/
def RQ (P : Program) (fn : Func) (R : Value → World → Prop) (e : Exit) (l : Env) (w : World) : Prop :=
  (e = .ret ∨ e = .normal) ∧ ∃ v, (∀ a w0, At fn.ntmps l a → Sim w0 w → (results fn a.tmps).run P w0 = .ok v w0) ∧ R v w

theorem eget_init : ∀ (args : List Value) (i t : Nat) (v : Value), eget (initEnv i args) t = some v → ∃ j, t = i + j ∧ args[j]? = some v
  | [], i, t, v, h => by cases h
  | u :: r, i, t, v, h => by
    rw [initEnv, eget_cons] at h
    by_cases e : i = t
    · subst e; rw [if_pos rfl] at h; cases h; exact ⟨0, rfl, rfl⟩
    · rw [if_neg e] at h
      obtain ⟨j, rfl, hj⟩ := eget_init r (i + 1) t v h
      exact ⟨j + 1, by omega, by simpa using hj⟩

theorem enter {P : Program} {f : FuncId} {fn : Func} {c : Code} {m : MC} {args : List Value} {w : World} {R : Value → World → Prop} (hf : P.funcs[f]? = some fn) (hb : fn.body = some c) (hm : comp P fn.ntmps c = some m)
    (hn : args.length ≤ fn.ntmps) (h : MWp P m (RQ P fn R) (initEnv 0 args) w) : Does P f args.toArray w R := by
  intro w0 hs
  refine calls_of_wp hf hb ?_
  have hat : At fn.ntmps (initEnv 0 args) { tmps := args.toArray ++ Array.replicate (fn.ntmps - args.toArray.size) undef, defers := [] } := by
    refine ⟨rfl, by simp; omega, fun t v ht => ?_⟩
    obtain ⟨j, rfl, hj⟩ := eget_init args 0 t v ht
    have hlt : j < args.length := (List.getElem?_eq_some_iff.1 hj).1
    simp only [Nat.zero_add, Array.getD_eq_getD_getElem?]
    rw [Array.getElem?_append_left (by simpa using hlt)]
    simp [hj]
  refine wp_mono (comp_sound c m hm _ _ w h _ w0 hat hs) fun e a' w' hq => ?_
  have done : ∀ l' w1, At fn.ntmps l' a' → Sim w' w1 → RQ P fn R e l' w1 → bodyPost P fn (fun e w' => ∃ w1, Sim w' w1 ∧ ∃ v, e = .returned v ∧ R v w1) e a' w' := by
    rintro l' w1 h1 h2 ⟨he, v, hv, hR⟩
    rcases he with rfl | rfl
    · exact ⟨h1.defers, v, hv a' w' h1 h2, w1, h2, v, rfl, hR⟩
    · exact ⟨h1.defers, v, hv a' w' h1 h2, w1, h2, v, rfl, hR⟩
  cases e with
  | panic c => exact hq.elim
  | outgrown => exact hq.elim
  | normal => obtain ⟨l', w1, h1, h2, h3⟩ := hq; exact done l' w1 h1 h2 h3
  | ret => obtain ⟨l', w1, h1, h2, h3⟩ := hq; exact done l' w1 h1 h2 h3
  | exit i => obtain ⟨l', w1, h1, h2, h3⟩ := hq; exact done l' w1 h1 h2 h3
  | goto i => obtain ⟨l', w1, h1, h2, h3⟩ := hq; exact done l' w1 h1 h2 h3

section
variable {P : Program} {fn : Func} {R : Value → World → Prop} {l : Env} {w : World} {e : Exit}

theorem RQ.one {t : Tmp} {v : Value} (hr : fn.results = #[.tmp t]) (he : e = .ret ∨ e = .normal) (hv : eget l t = some v) (h : R v w) : RQ P fn R e l w :=
  ⟨he, v, fun a w0 ha _ => by rw [results_tmp hr, ha.get t v hv], h⟩
theorem RQ.none (hr : fn.results = #[]) (he : e = .ret ∨ e = .normal) (h : R (.tuple #[]) w) : RQ P fn R e l w :=
  ⟨he, _, fun _ _ _ _ => results_none hr _ _ _, h⟩
theorem RQ.two {t u : Tmp} {x y : Value} (hr : fn.results = #[.tmp t, .tmp u]) (he : e = .ret ∨ e = .normal) (hx : eget l t = some x) (hy : eget l u = some y) (h : R (.tuple #[x, y]) w) : RQ P fn R e l w :=
  ⟨he, _, fun a w0 ha _ => by rw [results_tmp2 hr, ha.get t x hx, ha.get u y hy], h⟩
end

end Go.Tum
