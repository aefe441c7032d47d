/-
  A region that draws its order, walked in one order: an operation that only reads may be taken first, so long as what it reads stays as it is till it must have come up.
  The commuting steps are those of the guide's OrdersHeld text, with one condition for each operation that was taken in the place of one for the whole region.
-/
import Derived.Test.YtnleiiniajinbaaLogic
namespace Go.Tum
open Go

section
variable {P : Program} {ops : Array Oper} {Q : Exit → Act → World → Prop}

/-- does operation j wait for k by an edge of its own? -/
def direct (ops : Array Oper) (j k : Nat) : Bool :=
  match ops[j]? with
  | some o => o.after.any fun e => Region.binds .any e && e.on == k
  | none => false

abbrev Facts := List (Nat × (World → Prop))

def flt (ops : Array Oper) (j : Nat) (T : Facts) : Facts := T.filter fun x => !direct ops j x.1

def wpAnyT (P : Program) (ops : Array Oper) (Q : Exit → Act → World → Prop) : Facts → Nat → Array Bool → Act → World → Prop
  | _, 0, listed, a, w => Region.ready .any ops listed = [] ∧ Q .normal a w
  | T, fuel + 1, listed, a, w =>
    (Region.ready .any ops listed = [] → Q .normal a w) ∧
    ∀ i ∈ Region.ready .any ops listed, wpOp P ops Q i (fun a' w' => (∀ x ∈ flt ops i T, x.2 w → x.2 w') ∧ wpAnyT P ops Q (flt ops i T) fuel (listed.setIfInBounds i true) a' w') a w

theorem wpAny_of_T : ∀ (fuel : Nat) (T : Facts) (listed : Array Bool) (a : Act) (w : World), wpAnyT P ops Q T fuel listed a w → wpAny P .any ops Q fuel listed a w
  | 0, _, _, _, _, h => h
  | fuel + 1, _, _, _, _, h => ⟨h.1, fun i hi => wpOp_mono (fun a' w' h' => wpAny_of_T fuel _ _ a' w' h'.2) (h.2 i hi)⟩

theorem flt_sub {T T' : Facts} (h : ∀ x ∈ T', x ∈ T) (j : Nat) : ∀ x ∈ flt ops j T', x ∈ flt ops j T := by
  intro x hx
  simp only [flt, List.mem_filter] at *
  exact ⟨h x hx.1, hx.2⟩

theorem wpAnyT_less : ∀ (fuel : Nat) (T T' : Facts) (listed : Array Bool) (a : Act) (w : World), (∀ x ∈ T', x ∈ T) → wpAnyT P ops Q T fuel listed a w → wpAnyT P ops Q T' fuel listed a w
  | 0, _, _, _, _, _, _, h => h
  | fuel + 1, _, _, _, _, _, hs, h => ⟨h.1, fun i hi => wpOp_mono (fun a' w' h' => ⟨fun x hx => h'.1 x (flt_sub hs i x hx), wpAnyT_less fuel _ _ _ a' w' (flt_sub hs i) h'.2⟩) (h.2 i hi)⟩

theorem wpAnyT_first {i : Nat} {oi : Oper} {v : Value} {S : World → Prop} (hi : ops[i]? = some oi) (hsel : ∀ (j : Nat) (o : Oper) cs b, ops[j]? = some o → o.op ≠ .select cs b)
    (hQ : ∀ c a w, Q (.panic c) (a.put oi.dst v) w → Q (.panic c) a w) :
    ∀ (fuel : Nat) (T : Facts) (listed : Array Bool) (a : Act) (w : World),
      (∀ j oj, ops[j]? = some oj → j ≠ i → listed.getD j true = false → (∀ e ∈ oj.after, Region.binds .any e = true → e.on ≠ i) → oi.apart ops oj = true) →
      i ∈ Region.ready .any ops listed → YieldsIf P ops S oi v a → S w →
      wpAnyT P ops Q ((i, S) :: T) fuel (listed.setIfInBounds i true) (a.put oi.dst v) w → wpAnyT P ops Q T (fuel + 1) listed a w := by
  intro fuel
  induction fuel with
  | zero =>
    intro T listed a w _ hr hy hS H
    refine ⟨fun h => (by rw [h] at hr; cases hr), fun j hj => ?_⟩
    by_cases hji : j = i
    · subst hji
      exact hy.wpOp hi hS ⟨fun x _ hx => hx, H⟩
    · have := ready_mono hj hji
      rw [H.1] at this
      cases this
  | succ fuel ih =>
    intro T listed a w hfree hr hy hS H
    refine ⟨fun h => (by rw [h] at hr; cases hr), fun j hj => ?_⟩
    by_cases hji : j = i
    · subst hji
      refine hy.wpOp hi hS ⟨fun x _ hx => hx, wpAnyT_less _ _ _ _ _ _ (fun x hx => ?_) H⟩
      exact List.mem_cons_of_mem _ (List.mem_filter.1 hx).1
    · have h1 := H.2 j (ready_mono hj hji)
      obtain ⟨hjun, oj, hoj, hall⟩ := mem_ready.1 hj
      have hnot : ∀ e ∈ oj.after, Region.binds .any e = true → e.on ≠ i := fun e he hb heq => by
        have h1 := hall e he hb
        have h0 := (mem_ready.1 hr).1
        rw [heq] at h1
        rcases Nat.lt_or_ge i listed.size with h' | h'
        · simp [h'] at h0 h1; rw [h0] at h1; cases h1
        · simp [Array.getElem?_eq_none h'] at h1
      have hdir : direct ops j i = false := by
        unfold direct
        rw [hoj]
        show Array.any _ _ = false
        rw [Array.any_eq_false']
        intro e he hb
        simp only [Bool.and_eq_true, beq_iff_eq] at hb
        exact hnot e he hb.1 hb.2
      have hflt : flt ops j ((i, S) :: T) = (i, S) :: flt ops j T := by simp [flt, hdir]
      rw [hflt] at h1
      have h2 := wpOp_putIf hoj (hfree j oj hoj hji hjun hnot) (fun cs b => hsel i oi cs b hi) (fun cs b => hsel j oj cs b hoj) hQ hy h1
      have hfree' : ∀ k ok, ops[k]? = some ok → k ≠ i → (listed.setIfInBounds j true).getD k true = false →
          (∀ e ∈ ok.after, Region.binds .any e = true → e.on ≠ i) → oi.apart ops ok = true := fun k ok hk hki hun hno => by
        refine hfree k ok hk hki ?_ hno
        by_cases hjk : j = k
        · subst hjk; exact hjun
        · rw [getD_set_ne true hjk] at hun; exact hun
      refine wpOp_mono (fun a' w' h3 => ⟨fun x hx => h3.2.1 x (List.mem_cons_of_mem _ hx), ?_⟩) h2
      have hS' : S w' := h3.2.1 (i, S) (List.mem_cons_self ..) hS
      refine ih (flt ops j T) (listed.setIfInBounds j true) a' w' hfree' (ready_mono hr (Ne.symm hji)) h3.1 hS' ?_
      rw [Array.setIfInBounds_comm _ _ hji]
      exact h3.2.2

theorem wpAnyT_take {i : Nat} {oi : Oper} {v : Value} {S : World → Prop} {fuel : Nat} {T : Facts} {listed : Array Bool} {a : Act} {w : World} (hi : ops[i]? = some oi)
    (hs : Region.noSelect ops = true) (hf : Region.free .any ops listed i = true) (hr : i ∈ Region.ready .any ops listed)
    (hQ : ∀ c a w, Q (.panic c) (a.put oi.dst v) w → Q (.panic c) a w) (hy : YieldsIf P ops S oi v a) (hS : S w)
    (h : wpAnyT P ops Q ((i, S) :: T) fuel (listed.setIfInBounds i true) (a.put oi.dst v) w) : wpAnyT P ops Q T (fuel + 1) listed a w :=
  wpAnyT_first hi (Region.noSelect_spec hs) hQ fuel T listed a w (Region.free_spec hi hf) hr hy hS h

/-- nothing that hangs on the world: no condition is kept. -/
theorem wpAnyT_takeFree {i : Nat} {oi : Oper} {v : Value} {fuel : Nat} {T : Facts} {listed : Array Bool} {a : Act} {w : World} (hi : ops[i]? = some oi)
    (hs : Region.noSelect ops = true) (hf : Region.free .any ops listed i = true) (hr : i ∈ Region.ready .any ops listed)
    (hQ : ∀ c a w, Q (.panic c) (a.put oi.dst v) w → Q (.panic c) a w) (hy : YieldsIf P ops (fun _ => True) oi v a)
    (h : wpAnyT P ops Q T fuel (listed.setIfInBounds i true) (a.put oi.dst v) w) : wpAnyT P ops Q T (fuel + 1) listed a w := by
  refine wpAnyT_take hi hs hf hr hQ hy trivial ?_
  clear hy hr hf hi
  generalize listed.setIfInBounds i true = L at h
  generalize a.put oi.dst v = b at h
  clear hQ
  have key : ∀ (fuel : Nat) (T : Facts) (U : Facts) (listed : Array Bool) (a : Act) (w : World), (∀ x ∈ U, x ∈ T ∨ ∀ w, x.2 w) → wpAnyT P ops Q T fuel listed a w → wpAnyT P ops Q U fuel listed a w := by
    intro fuel
    induction fuel with
    | zero => intro T U listed a w _ h; exact h
    | succ fuel ih =>
      intro T U listed a w hU h
      have hU' : ∀ i, ∀ x ∈ flt ops i U, x ∈ flt ops i T ∨ ∀ w, x.2 w := by
        intro i x hx
        simp only [flt, List.mem_filter] at *
        rcases hU x hx.1 with h1 | h1
        · exact .inl ⟨h1, hx.2⟩
        · exact .inr h1
      refine ⟨h.1, fun i hi => wpOp_mono (fun a' w' h' => ⟨fun x hx hw => ?_, ih _ _ _ a' w' (hU' i) h'.2⟩) (h.2 i hi)⟩
      rcases hU' i x hx with h1 | h1
      · exact h'.1 x h1 hw
      · exact h1 _
  refine key fuel T _ L b w (fun x hx => ?_) h
  rcases List.mem_cons.1 hx with rfl | hx
  · exact .inr fun _ => trivial
  · exact .inl hx

theorem wpAnyT_one {i : Nat} {fuel : Nat} {T : Facts} {listed : Array Bool} {a : Act} {w : World} (hr : Region.ready .any ops listed = [i])
    (h : wpOp P ops Q i (fun a' w' => (∀ x ∈ flt ops i T, x.2 w → x.2 w') ∧ wpAnyT P ops Q (flt ops i T) fuel (listed.setIfInBounds i true) a' w') a w) :
    wpAnyT P ops Q T (fuel + 1) listed a w :=
  ⟨fun h0 => (by rw [hr] at h0; cases h0), fun j hj => (by rw [hr] at hj; obtain rfl := List.mem_singleton.1 hj; exact h)⟩

theorem wpAnyT_done {T : Facts} {listed : Array Bool} {a : Act} {w : World} (hr : Region.ready .any ops listed = []) (h : Q .normal a w) : ∀ fuel, wpAnyT P ops Q T fuel listed a w
  | 0 => ⟨hr, h⟩
  | _ + 1 => ⟨fun _ => h, by rw [hr]; simp⟩

theorem wp_region_T {id : Nat} {a : Act} {w : World} (hm : P.follows .mixedOrders = true)
    (h : wpAnyT P ops Q [] ops.size (Array.replicate ops.size false) a { w with drawn := w.drawn + 1 }) : (Code.region id ops true).wp P Q a w :=
  wp_region_any hm (wpAny_of_T _ _ _ _ _ h)
end
end Go.Tum
