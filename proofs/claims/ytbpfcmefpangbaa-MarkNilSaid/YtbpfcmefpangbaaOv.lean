/-
  Runs by reckoning: calls whose answer is told by a contract that was proved apart.
-/
import Derived.Test.YtbpfcmefpangbaaRunIter
namespace Go.Tum
open Go

theorem Rep.keep {X : Nat → Prop} {w0 w w' : World} {E : Emb} {L : LH} (h : Rep X w0 E L w) (hf : Fr (fun _ => False) w w') : Rep X w0 E L w' :=
  ⟨h.fr.trans hf fun _ _ e => e.elim, h.len, fun k x r hx hr b hb => ⟨(h.rng k x r hx hr b hb).1, Nat.lt_of_lt_of_le (h.rng k x r hx hr b hb).2 hf.size⟩,
    fun k x r hx hr => (h.blk k x r hx hr).fr hf (fun b hb => (h.rng k x r hx hr b hb).2) fun _ _ e => e, h.inj⟩

theorem L2.vr_still {E : Emb} : ∀ {vs vs' : List Value}, vs.all stillS = true → L2 (VR E) vs vs' → vs' = vs
  | [], [], _, _ => rfl
  | a :: r, b :: s, h, k => by
    simp only [List.all_cons, Bool.and_eq_true] at h
    have h1 := SR.still (E := E) h.1
    rw [SR.eq_still h.1 (k.1.sr h1.one.1), L2.vr_still h.2 k.2]
  | [], _ :: _, _, k => k.elim
  | _ :: _, [], _, k => k.elim

/-- one function's calls are told by g -/
def ovPure (f : Nat) (g : List Value → Option Value) : CallF := fun f' vs L => bif Nat.beq f f' then (match g vs with
  | some v => some (v, L)
  | none => none) else none
theorem ovPure_ok {H : HypW} {P : Program} {f : Nat} {g : List Value → Option Value} (hcl : callable P f = true)
    (h : ∀ vs v, g vs = some v → vs.all stillS = true ∧ (∀ E, VR E v v) ∧ ∀ X w0 w, H X w0 → Fr X w0 w → Does P f vs.toArray w fun v' w' => v' = v ∧ Fr (fun _ => False) w w') : CallOk H P (ovPure f g) := by
  intro X w0 hH w E L f' vs vs' v L' hc hR hvs
  unfold ovPure at hc
  cases hf : Nat.beq f f'
  · rw [hf] at hc; cases hc
  rw [hf] at hc
  have := Nat.eq_of_beq_eq_true hf
  subst this
  simp only [cond_true] at hc
  cases hg : g vs with
  | none => rw [hg] at hc; cases hc
  | some u =>
    rw [hg] at hc; cases hc
    obtain ⟨h1, h2, h3⟩ := h vs _ hg
    obtain rfl := L2.vr_still h1 hvs
    refine ⟨hcl, (h3 X w0 w hH hR.fr).mono ?_⟩
    rintro v' w' ⟨rfl, hf⟩
    exact ⟨E, Ext.refl E, h2 E, hR.keep hf⟩

def orOv (a b : CallF) : CallF := fun f vs L => match a f vs L with
  | some r => some r
  | none => b f vs L
theorem orOv_ok {H : HypW} {P : Program} {a b : CallF} (ha : CallOk H P a) (hb : CallOk H P b) : CallOk H P (orOv a b) := by
  intro X w0 hH w E L f vs vs' v L' hc hR hvs
  unfold orOv at hc
  cases h : a f vs L with
  | none => rw [h] at hc; exact hb X w0 hH w E L f vs vs' v L' hc hR hvs
  | some r => rw [h] at hc; cases hc; exact ha X w0 hH w E L f vs vs' v L' h hR hvs
end Go.Tum
