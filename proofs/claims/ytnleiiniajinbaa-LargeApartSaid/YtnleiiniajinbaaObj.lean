/-
  An object that is told over worlds (with however many blocks), as one block of the logic over names.
-/
import Derived.Test.YtnleiiniajinbaaLw6
namespace Go.Tum
open Go

section
variable {P : Program} {A : Nat → World → Prop} {G : Nat → Prop}

/-- what is told of an object hangs on its own blocks alone -/
structure ObjOk (A : Nat → World → Prop) (G : Nat → Prop) : Prop where
  own : ∀ p w, A p w → ∀ b, G b → b < w.heap.size
  fr : ∀ p w1 w2 H, A p w1 → Fr H w1 w2 → (∀ b, G b → ¬ H b) → A p w2

theorem obj_open {X : Nat → Prop} {w0 w : World} {E : Emb} (hR : Rep X w0 E [.abs A G] w) {v' : Value} (hv : VR E (.pointer (some ⟨0, 0, none⟩)) v') : ∃ p, v' = .pointer (some ⟨p, 0, none⟩) ∧ A p w ∧ E = [(p, 0, 0)] := by
  obtain ⟨a', rfl, _, r, hr, rfl⟩ := hv
  obtain ⟨h1, h2, h3⟩ := hR.blk 0 _ r rfl hr
  obtain ⟨r1, r2⟩ := r
  simp only at h2; subst h2
  refine ⟨r1, rfl, h1, ?_⟩
  have hl := hR.len
  cases E with
  | nil => cases hl
  | cons a t =>
    cases t with
    | nil => simp at hr; rw [hr]
    | cons => simp at hl

theorem Tr.ofObjP {f : FuncId} {vs : List Value} {v1 : Value} (hc : callable P f = true) (hvs : vs.all stillS = true) (hv1 : stillT v1 = true)
    (h : ∀ w p, A p w → Does P f (.pointer (some ⟨p, 0, none⟩) :: vs).toArray w fun v w' => v = v1 ∧ w' = w) :
    Tr P f (.pointer (some ⟨0, 0, none⟩) :: vs) [.abs A G] (fun v K => v = v1 ∧ K = [.abs A G]) := by
  intro X w0 w E vs' hA hR hv
  cases vs' with
  | nil => exact hv.elim
  | cons a r =>
    obtain ⟨p, rfl, hAp, rfl⟩ := obj_open hR hv.1
    obtain rfl := L2.vr_still hvs hv.2
    refine ⟨hc, (h w p hAp).mono ?_⟩
    rintro _ _ ⟨rfl, rfl⟩
    exact ⟨_, _, _, NA.Ext.refl _ _, Nat.le_refl _, VR.selfT hv1, hR, rfl, rfl⟩

theorem Tr.ofObj {f : FuncId} {vs : List Value} {v1 : Value} {A' : (Nat → Prop) → Nat → World → Prop} (hc : callable P f = true) (hvs : vs.all stillS = true) (hv1 : stillT v1 = true) (ho : ∀ G', ObjOk (A' G') G')
    (h : ∀ w p, A p w → Does P f (.pointer (some ⟨p, 0, none⟩) :: vs).toArray w fun v w' => v = v1 ∧ ∃ G', A' G' p w' ∧ Grow G G' w w') :
    Tr P f (.pointer (some ⟨0, 0, none⟩) :: vs) [.abs A G] (fun v K => v = v1 ∧ ∃ G', K = [.abs (A' G') G']) := by
  intro X w0 w E vs' hA hR hv
  cases vs' with
  | nil => exact hv.elim
  | cons a r =>
    obtain ⟨p, rfl, hAp, rfl⟩ := obj_open hR hv.1
    obtain rfl := L2.vr_still hvs hv.2
    refine ⟨hc, (h w p hAp).mono ?_⟩
    rintro _ w' ⟨rfl, G', hA', hg⟩
    refine ⟨_, _, [.abs (A' G') G'], NA.Ext.refl _ _, Nat.le_refl _, VR.selfT hv1, ?_, rfl, G', rfl⟩
    have := hR.upd (b := 0) (x := .abs (A' G') G') rfl rfl hg.fr ⟨hA', rfl, (ho G').fr p⟩ (fun c hcx => by
      rcases hg.sub c hcx with h1 | h1
      · exact .inl h1
      · exact .inr ⟨h1, (ho G').own p w' hA' c hcx⟩)
    exact this

theorem Tr.newObj {f : FuncId} {vs : List Value} {A' : (Nat → Prop) → Nat → World → Prop} (hc : callable P f = true) (hvs : vs.all stillS = true) (ho : ∀ G', ObjOk (A' G') G')
    (h : ∀ w, Does P f vs.toArray w fun v w' => ∃ p G', v = .pointer (some ⟨p, 0, none⟩) ∧ A' G' p w' ∧ Fr (fun _ => False) w w' ∧ ∀ b, G' b → w.heap.size ≤ b) :
    Tr P f vs [] (fun v K => v = .pointer (some ⟨0, 0, none⟩) ∧ ∃ G', K = [.abs (A' G') G']) := by
  intro X w0 w E vs' hA hR hv
  obtain rfl := L2.vr_still hvs hv
  have hE : E = [] := List.length_eq_zero_iff.1 (by rw [hR.len]; rfl)
  subst hE
  refine ⟨hc, (h w).mono ?_⟩
  rintro _ w' ⟨p, G', rfl, hA', hf, hG⟩
  refine ⟨[(p, 0, 0)], .pointer (some ⟨0, 0, none⟩), [.abs (A' G') G'], fun k r _ hk => (by simp at hk), by simp, ⟨_, rfl, rfl, (p, 0, 0), rfl, rfl⟩, ?_, rfl, G', rfl⟩
  exact hR.push (r := (p, 0, 0)) hf (fun b hb => ⟨hG b hb, (ho G').own p w' hA' b hb⟩) ⟨hA', rfl, (ho G').fr p⟩

/-- an object that hands out a new row -/
theorem Tr.rowObj {f : FuncId} {vs : List Value} {sz n : Nat} {cells : List Value} (hc : callable P f = true) (hvs : vs.all stillS = true) (hsz : 0 < sz)
    (h : ∀ w p, A p w → Does P f (.pointer (some ⟨p, 0, none⟩) :: vs).toArray w fun v w' => ∃ F, Sl w' sz v n cells F ∧ (∀ b ∈ F, w.heap.size ≤ b) ∧ Fr (fun _ => False) w w') :
    Tr P f (.pointer (some ⟨0, 0, none⟩) :: vs) [.abs A G] (fun v K => v = .slice (some ⟨1, 0, none⟩) n n ∧ K = [.abs A G, if n = 0 then .dead else .gro sz cells]) := by
  intro X w0 w E vs' hA hR hv
  cases vs' with
  | nil => exact hv.elim
  | cons a r =>
    obtain ⟨p, rfl, hAp, rfl⟩ := obj_open hR hv.1
    obtain rfl := L2.vr_still hvs hv.2
    refine ⟨hc, (h w p hAp).mono ?_⟩
    rintro v w' ⟨F, ⟨hl, _, hS⟩, hF, hf⟩
    have hk := hR.keep hf
    have hx : ∀ r : Nat × Nat × Nat, Ext [(p, 0, 0)] [(p, 0, 0), r] := fun r => Ext.push [(p, 0, 0)] r
    rcases hS with ⟨rfl, rfl, rfl⟩ | ⟨b, o, c, cs, rfl, rfl, hB, hle, hnc, hcs⟩
    · refine ⟨[(p, 0, 0), (0, 0, 0)], .slice (some ⟨1, 0, none⟩) 0 0, _, fun k r _ hk => hx _ k r hk, by simp, ⟨rfl, (0, 0, 0), rfl, .inr ⟨rfl, rfl, _, rfl⟩⟩, ?_, rfl, rfl⟩
      rw [if_pos rfl]
      exact hk.push (r := (0, 0, 0)) (Fr.refl _ w') (fun _ h => h.elim) trivial
    · refine ⟨[(p, 0, 0), (b, o, c - n)], .slice (some ⟨1, 0, none⟩) n n, _, fun k r _ hk => hx _ k r hk, by simp, ⟨rfl, (b, o, c - n), rfl, .inl ⟨_, _, rfl, .inl ⟨by simp, by simp; omega⟩⟩⟩, ?_, rfl, rfl⟩
      by_cases hn : n = 0
      · rw [if_pos hn]
        exact hk.push (r := (b, o, c - n)) (Fr.refl _ w') (fun _ h => h.elim) trivial
      · rw [if_neg hn]
        have hne : cells ≠ [] := by
          intro e
          subst e
          have : 0 < n * sz := Nat.mul_pos (by omega) hsz
          simp at hl; omega
        have hmul : n * sz + (c - n) * sz = c * sz := by rw [← Nat.add_mul]; congr 1; omega
        have hb := hF b (by simp)
        refine hR.push (w' := w') (r := (b, o, c - n)) hf (fun b' hb' => ?_) (.inr ⟨hne, hsz, cs, hB, by rw [hl]; exact hcs, by rw [hl]; show o + n * sz + (c - n) * sz ≤ cs.length; omega⟩)
        rw [gro_foot hne] at hb'
        have hb' : b' = b := hb'
        subst hb'
        exact ⟨hb, hB.lt⟩
end
end Go.Tum
