/-
  Runs by reckoning: calls whose answer is told by a contract that was proved apart.
-/
import Derived.Test.YtnleiiniajinbaaRunIter
namespace Go.Tum
open Go

theorem Rep.keep {X : Nat → Prop} {w0 w w' : World} {E : Emb} {L : LH} (h : Rep X w0 E L w) (hf : Fr (fun _ => False) w w') : Rep X w0 E L w' :=
  ⟨h.fr.trans hf fun _ _ e => e.elim, h.len, fun k x r hx hr b hb => ⟨(h.rng k x r hx hr b hb).1, Nat.lt_of_lt_of_le (h.rng k x r hx hr b hb).2 hf.size⟩,
    fun k x r hx hr => (h.blk k x r hx hr).fr hf (fun b hb => (h.rng k x r hx hr b hb).2) fun _ _ e => e, h.inj⟩

theorem L2.vr_still {E : Emb} : ∀ {vs vs' : List Value}, vs.all stillS = true → L2 (VR E) vs vs' → vs' = vs
  | [], [], _, _ => rfl
  | a :: r, b :: s, h, k => by
    simp only [List.all_cons, Bool.and_eq_true] at h
    have h1 := SR.still (E := E) h.1
    rw [SR.eq_still h.1 (k.1.sr h1.one.1), L2.vr_still h.2 k.2]
  | [], _ :: _, _, k => k.elim
  | _ :: _, [], _, k => k.elim

/-- one function's calls are told by g -/
def ovPure (f : Nat) (g : List Value → Option Value) : CallF := fun f' vs L => bif Nat.beq f f' then (match g vs with
  | some v => some (v, L)
  | none => none) else none
theorem ovPure_ok {H : HypW} {P : Program} {f : Nat} {g : List Value → Option Value} (hcl : callable P f = true)
    (h : ∀ vs v, g vs = some v → vs.all stillS = true ∧ (∀ E, VR E v v) ∧ ∀ X w0 w, H X w0 → Fr X w0 w → Does P f vs.toArray w fun v' w' => v' = v ∧ Fr (fun _ => False) w w') : CallOk H P (ovPure f g) := by
  intro X w0 hH w E L f' vs vs' v L' hc hR hvs
  unfold ovPure at hc
  cases hf : Nat.beq f f'
  · rw [hf] at hc; cases hc
  rw [hf] at hc
  have := Nat.eq_of_beq_eq_true hf
  subst this
  simp only [cond_true] at hc
  cases hg : g vs with
  | none => rw [hg] at hc; cases hc
  | some u =>
    rw [hg] at hc; cases hc
    obtain ⟨h1, h2, h3⟩ := h vs _ hg
    obtain rfl := L2.vr_still h1 hvs
    refine ⟨hcl, (h3 X w0 w hH hR.fr).mono ?_⟩
    rintro v' w' ⟨rfl, hf⟩
    exact ⟨E, Ext.refl E, h2 E, hR.keep hf⟩

def orOv (a b : CallF) : CallF := fun f vs L => match a f vs L with
  | some r => some r
  | none => b f vs L
theorem orOv_ok {H : HypW} {P : Program} {a b : CallF} (ha : CallOk H P a) (hb : CallOk H P b) : CallOk H P (orOv a b) := by
  intro X w0 hH w E L f vs vs' v L' hc hR hvs
  unfold orOv at hc
  cases h : a f vs L with
  | none => rw [h] at hc; exact hb X w0 hH w E L f vs vs' v L' hc hR hvs
  | some r => rw [h] at hc; cases hc; exact ha X w0 hH w E L f vs vs' v L' h hR hvs

/-! ### from a place within a function on, by reckoning -/
def stillT : Value → Bool
  | .tuple ⟨vs⟩ => vs.all still
  | v => still v
theorem still_notTup {v : Value} (h : still v = true) : notTup v = true := by
  cases v <;> first | rfl | cases h
theorem VR.selfT {E : Emb} {v : Value} (h : stillT v = true) : VR E v v := by
  cases v <;> first | exact VR.still h | skip
  case tuple vs =>
    obtain ⟨vs⟩ := vs
    exact ⟨vs, rfl, L2.self fun a ha => (VR.still (List.all_eq_true.1 h a ha)).v1 (still_notTup (List.all_eq_true.1 h a ha))⟩
theorem VR.eq_still1 {E : Emb} {v v' : Value} (h : Tum.still v = true) (k : VR E v v') : v' = v := by
  have key : ∀ u : Value, stillS u = true → VR E u v' → v' = u := fun u hu hk => SR.eq_still (E := E) hu (hk.sr (SR.still (E := E) hu).one.1)
  cases v <;> first | exact key _ h k | skip
  case agg cs =>
    obtain ⟨cs⟩ := cs
    obtain ⟨cs', rfl, h2⟩ := k
    rw [L2.eq_still h h2]
theorem VR.eq_stillT {E : Emb} {v v' : Value} (h : stillT v = true) (k : VR E v v') : v' = v := by
  cases v <;> first | exact VR.eq_still1 h k | skip
  case tuple vs =>
    obtain ⟨vs⟩ := vs
    obtain ⟨vs', rfl, h2⟩ := k
    have : ∀ {x y : List Value}, x.all Tum.still = true → L2 (V1 E) x y → y = x := by
      intro x
      induction x with
      | nil => intro y _ k; cases y with
        | nil => rfl
        | cons => exact k.elim
      | cons a r ih => intro y h k; cases y with
        | nil => exact k.elim
        | cons b s =>
          simp only [List.all_cons, Bool.and_eq_true] at h
          rw [VR.eq_still1 h.1 k.1.vr, ih h.2 k.2]
    rw [this h h2]
def stillE : Env → Bool
  | [] => true
  | (_, v) :: r => stillT v && stillE r
theorem ER.selfT {E : Emb} : ∀ {l : Env}, stillE l = true → ER E l l
  | [], _ => ER.nil _ _
  | (_, _) :: _, h => by
    simp only [stillE, Bool.and_eq_true] at h
    exact ER.cons _ (VR.selfT h.1) (ER.selfT h.2)

def lfin (ov : CallF) (tab : List FnRow) (rawQ : RawQ) (rawE : RawE) (fuel : Nat) (m : MC) (l : Env) (res : List RV) : Option Value :=
  match lrun ov tab rawQ rawE fuel m l [] with
  | some (.ret, l', L') => (lres l' L' res).map lret
  | some (.normal, l', L') => (lres l' L' res).map lret
  | _ => none

section
variable {H : HypW} {P : Program} {ov : CallF} {tab : List FnRow} {rawQ : RawQ} {rawE : RawE}

/-- a closed call that answers v with no block of its own -/
theorem closed_callT (ho : CallOk H P ov) (ht : ∀ x ∈ tab, x.Ok P) (hq : RawOk P rawQ) (he : RawEOk P rawE) {fuel : Nat} {f : FuncId} {vs : List Value} {v : Value}
    (hvs : vs.all still = true) (hv : stillT v = true) (h : ((lcall ov tab rawQ rawE fuel f vs []).map (·.1)) = some v) (w : World) (hH : H (fun _ => False) w) : Does P f vs.toArray w fun v' w' => v' = v ∧ Fr (fun _ => False) w w' := by
  cases hc : lcall ov tab rawQ rawE fuel f vs [] with
  | none => rw [hc] at h; cases h
  | some y =>
    obtain ⟨u, L⟩ := y
    rw [hc] at h; cases h
    refine ((lrun_ok ho ht hq he fuel).1 (fun _ => False) w hH w [] [] f vs vs _ L hc (Rep.nil _ w) (L2.self fun a ha => VR.still (List.all_eq_true.1 hvs a ha))).2.mono ?_
    rintro v' w' ⟨E', _, h1, h2⟩
    exact ⟨VR.eq_stillT hv h1, h2.fr⟩

/-- what is left of a function's code answers v -/
theorem w_closed (ho : CallOk H P ov) (ht : ∀ x ∈ tab, x.Ok P) (hq : RawOk P rawQ) (he : RawEOk P rawE) {fuel : Nat} {m : MC} {l : Env} {fn : Func} {R : Value → World → Prop} {v : Value} {w : World} (res : List RV)
    (hlen : res.length ≤ 4) (hr : fn.results = (res.map RV.real).toArray) (hk : ∀ r ∈ res, r.Ok P) (hl : stillE l = true) (hv : stillT v = true) (h : lfin ov tab rawQ rawE fuel m l res = some v) (hH : H (fun _ => False) w) (hR : ∀ w', Fr (fun _ => False) w w' → R v w') : MWp P m (RQ P fn R) l w := by
  unfold lfin at h
  have key : ∀ (e : Exit) (l1 : Env) (L1 : LH), lrun ov tab rawQ rawE fuel m l [] = some (e, l1, L1) → (e = .ret ∨ e = .normal) → (lres l1 L1 res).map lret = some v → MWp P m (RQ P fn R) l w := by
    intro e l1 L1 hrun he' hres
    cases hus : lres l1 L1 res with
    | none => rw [hus] at hres; cases hres
    | some us =>
      rw [hus] at hres
      cases hres
      refine MWp.mono _ (fun e l w ⟨l2, h1, h2⟩ => RQ.sub h1 h2) ((lrun_ok ho ht hq he fuel).2 _ _ _ _ _ _ hrun (fun _ => False) w w [] _ _ hH (Rep.nil _ w) (ER.selfT hl) fun w' E' l1' h1 h2 h3 => lret_ok hlen hr hk h2 h3 he' hus fun v' hv' => ?_)
      rw [VR.eq_stillT hv hv']
      exact hR w' h2.fr
  split at h
  · rename_i l1 L1 hrun; exact key _ _ _ hrun (.inl rfl) h
  · rename_i l1 L1 hrun; exact key _ _ _ hrun (.inr rfl) h
  · cases h
theorem w_unrs {s : List Step} {b : MC} {Q : Exit → Env → World → Prop} {l : Env} {w : World} (h : MWp P (.seq (.reg s) b) Q l w) : stepsWp P s (fun l' w' => ∃ l'', Sub l'' l' ∧ MWp P b Q l'' w') l [] w := h
end
end Go.Tum
