/-
  What the proof leans on, part 7: of the texts SweepB, SweepJ, SweepC, SweepU, SweepN, Awake20, SweepPlays, SweepAll, SweepAllD.
-/
import Derived.Test.YtdpcccjkncagoaaGreatDoorPkF
set_option linter.unusedVariables false
set_option linter.unusedSimpArgs false
set_option linter.unusedSectionVars false
section
namespace Go.Tum.Base
open Go Go.Tum Go.Proofs.YtdpcccjkncagoaaGreatDoor
def unm (m : HM) (a : Int) : Bool := !bitAt m.mw (a.toNat / 16)
structure SwB (m : HM) (l : List Int) (x : HM × Nat) : Prop where
  man : x.1.man = m.man
  mgd : x.1.mgd = m.mgd
  rs : x.1.rs = m.rs
  len : x.1.bs.length = m.bs.length
  hw : ∀ i : Nat, i < 16 * (m.man + m.mgd) → bitAt x.1.hw i = (bitAt m.hw i && !(decide (((16 * i : Nat) : Int) ∈ l) && !bitAt m.mw i))
  mw : ∀ i : Nat, bitAt x.1.mw i = bitAt m.mw i
  cnt : x.2 = (l.filter (unm m)).length
  part : ∀ i : Nat, i < 16 * (m.man + m.mgd) → bitAt x.1.hw i = true → partB x.1.bs (16 * i) (slz m i) = partB m.bs (16 * i) (slz m i)
theorem SwB.first (m : HM) : SwB m [] (m, 0) := ⟨rfl, rfl, rfl, rfl, fun i _ => by simp, fun _ => rfl, rfl, fun _ _ _ => rfl⟩
theorem SwB.next {m : HM} {gl : List Gb} {l : List Int} {x : HM × Nat} (hx : SwB m l x) (hI : HI x.1 gl) {i : Nat} (hi : i < 16 * (m.man + m.mgd)) (hb : bitAt x.1.hw i = true) : SwB m (l ++ [((16 * i : Nat) : Int)]) (swF x (16 * i : Nat)) := by
  have hm := hI.toHOk
  have hlh := hm.lh
  have hlm := hm.lm
  have e1 := hx.man
  have e2 := hx.mgd
  have hmem : ∀ j : Nat, ((16 * j : Nat) : Int) ∈ l ++ [((16 * i : Nat) : Int)] ↔ ((16 * j : Nat) : Int) ∈ l ∨ j = i := fun j => by
    rw [List.mem_append, List.mem_singleton]
    constructor
    · rintro (h | h)
      · exact .inl h
      · exact .inr (by omega)
    · rintro (h | h)
      · exact .inl h
      · exact .inr (by rw [h])
  have hf : (l ++ [((16 * i : Nat) : Int)]).filter (unm m) = l.filter (unm m) ++ if bitAt m.mw i then [] else [((16 * i : Nat) : Int)] := by
    rw [List.filter_append]
    congr 1
    rw [List.filter_cons]
    unfold unm
    rw [Int.toNat_natCast, Nat.mul_div_cancel_left _ (by decide)]
    cases bitAt m.mw i <;> rfl
  unfold swF
  rw [Int.toNat_natCast, Nat.mul_div_cancel_left _ (by decide), hx.mw]
  cases hmk : bitAt m.mw i
  · rw [if_neg (by decide)]
    have hfr := freeR_at (m := x.1) (i := i) (by rw [e1, e2]; exact hi) hb
    rw [hfr]
    rw [hmk] at hf
    refine ⟨e1, e2, hx.rs, (free_len hm (by rw [e1, e2]; exact hi) hb).trans hx.len, fun j hj => ?_, fun j => ?_, ?_, fun j hj hjb => ?_⟩
    · show bitAt (putBit x.1.hw i false) j = _
      rw [bitAt_put false (by omega)]
      by_cases e : j = i
      · subst e
        rw [if_pos rfl, decide_eq_true ((hmem j).2 (.inr rfl)), hmk]; simp
      · rw [if_neg e, hx.hw j hj]
        congr 3
        exact decide_eq_decide.2 ⟨fun h => (hmem j).2 (.inl h), fun h => ((hmem j).1 h).resolve_right e⟩
    · show bitAt (putBit x.1.mw i false) j = _
      rw [bitAt_put false (by omega)]
      by_cases e : j = i
      · subst e; rw [if_pos rfl, hmk]
      · rw [if_neg e, hx.mw]
    · rw [hf, List.length_append, ← hx.cnt]; rfl
    · change bitAt (putBit x.1.hw i false) j = true at hjb
      rw [bitAt_put false (by omega)] at hjb
      by_cases e : j = i
      · rw [if_pos e] at hjb; cases hjb
      · rw [if_neg e] at hjb
        have hp := free_part hm (by rw [e1, e2]; exact hi) hb (by rw [e1, e2]; exact hj) hjb e
        have hsz : slz x.1 j = slz m j := by unfold slz; rw [hx.rs]
        rw [hsz] at hp
        rw [hp]
        exact hx.part j hj hjb
  · rw [if_pos rfl]
    rw [hmk] at hf
    refine ⟨e1, e2, hx.rs, hx.len, fun j hj => ?_, hx.mw, ?_, hx.part⟩
    · rw [hx.hw j hj]
      by_cases e : j = i
      · subst e; rw [hmk]; simp
      · congr 3
        exact decide_eq_decide.2 ⟨fun h => (hmem j).2 (.inl h), fun h => ((hmem j).1 h).resolve_right e⟩
    · rw [hf, if_pos rfl, List.append_nil, ← hx.cnt]
theorem SwB.at {m : HM} {gl : List Gb} (h : HI m gl) (p : Int) : ∀ k, k ≤ (inH m p).length → SwB m ((inH m p).take k) (swK m (inH m p) k)
  | 0, _ => by rw [List.take_zero]; exact SwB.first m
  | k + 1, hk => by
    have ih := SwB.at h p k (by omega)
    have hx := SwI.at h p k (by omega)
    obtain ⟨i, e, h1, h2⟩ := hasH_nat (hx.has k (by omega) (Nat.le_refl _))
    rw [swK_succ _ _ (by omega), List.take_succ_eq_append_getElem (by omega), e]
    exact ih.next hx.hi (by rw [← ih.man, ← ih.mgd]; exact h1) h2
theorem SwB.page {m : HM} {gl : List Gb} (h : HI m gl) (p : Int) : SwB m (inH m p) (swP m p) := by
  have := SwB.at h p _ (Nat.le_refl _)
  rw [List.take_length, swK_all] at this
  exact this
theorem swP_hw {m : HM} {gl : List Gb} (h : HI m gl) (p : Int) {i : Nat} (hi : i < 16 * (m.man + m.mgd)) : bitAt (swP m p).1.hw i = (bitAt m.hw i && (decide (((i / 16 : Nat) : Int) ≠ p) || bitAt m.mw i)) := by
  rw [(SwB.page h p).hw i hi]
  cases hb : bitAt m.hw i
  · rfl
  · have hmem : ((16 * i : Nat) : Int) ∈ inH m p ↔ ((i / 16 : Nat) : Int) = p := by
      rw [inH_mem]
      constructor
      · rintro ⟨_, h2⟩; omega
      · intro h2; exact ⟨by rw [hasH_at hi]; exact hb, by omega⟩
    rw [Bool.true_and, Bool.true_and, Bool.not_and, Bool.not_not]
    congr 1
    rw [← decide_not]
    exact decide_eq_decide.2 (not_congr hmem)
end Go.Tum.Base
end
section
namespace Go.Tum.Base
open Go Go.Tum Go.Proofs.YtdpcccjkncagoaaGreatDoor
def swJ (m : HM) (xs : List Int) : Nat → HM × Nat
  | 0 => (m, 0)
  | j + 1 => (swM (swJ m xs j).1 (xs.getD j 0), (swJ m xs j).2 + (swP (swJ m xs j).1 (xs.getD j 0)).2)
structure SwX (m : HM) (gl : List Gb) (ps : List Nat) (j : Nat) (x : HM × Nat) : Prop where
  hi : HI x.1 gl
  man : x.1.man = m.man
  mgd : x.1.mgd = m.mgd
  len : x.1.bs.length = m.bs.length
  hw : ∀ i : Nat, i < 16 * (m.man + m.mgd) → bitAt x.1.hw i = (bitAt m.hw i && (decide (i / 16 ∉ ps.take j) || bitAt m.mw i))
  mw : ∀ i : Nat, bitAt x.1.mw i = bitAt m.mw i
  rs1 : ∀ p : Nat, p ∉ ps.take j → pAt x.1.rs p = pAt m.rs p
  rs2 : ∀ p : Nat, p ∈ ps.take j → (∃ i : Nat, i < 16 * (m.man + m.mgd) ∧ i / 16 = p ∧ bitAt m.hw i = true ∧ bitAt m.mw i = true) → pAt x.1.rs p = pAt m.rs p
  rs3 : ∀ p : Nat, p ∈ ps.take j → (∀ i : Nat, i < 16 * (m.man + m.mgd) → i / 16 = p → bitAt m.hw i = true → bitAt m.mw i = false) → pAt x.1.rs p = PRow.Z
  cnt : x.2 = ((objN m).filter fun i => decide (i / 16 ∈ ps.take j) && !bitAt m.mw i).length
  part : ∀ i : Nat, i < 16 * (m.man + m.mgd) → bitAt x.1.hw i = true → partB x.1.bs (16 * i) (slz m i) = partB m.bs (16 * i) (slz m i)
theorem tidyR_keep (m : HM) (a : Int) : (tidyR m a).man = m.man ∧ (tidyR m a).mgd = m.mgd ∧ (tidyR m a).bs = m.bs ∧ (tidyR m a).hw = m.hw ∧ (tidyR m a).mw = m.mw := by unfold tidyR; split <;> exact ⟨rfl, rfl, rfl, rfl, rfl⟩
theorem tidyR_rs {m : HM} (_ : HOk m) (p : Nat) (q : Nat) : pAt (tidyR m p).rs q = if q = p ∧ mgP m.rs p = true ∧ inH m p = [] then PRow.Z else pAt m.rs q := by
  unfold tidyR
  by_cases h : mgP m.rs (p : Int) = true ∧ inH m p = []
  · rw [if_pos h, Int.toNat_natCast]
    have hp : p < m.rs.length := by obtain ⟨r, h1, h2, _⟩ := mgP_in h.1; omega
    show pAt (clearP m.rs p 1) q = _
    rw [pAt_clear (by omega)]
    by_cases e : q = p
    · rw [if_pos (by omega), if_pos ⟨e, h⟩]
    · rw [if_neg (by omega), if_neg (fun h => e h.1)]
  · rw [if_neg h, if_neg (fun e => h e.2)]
theorem inH_empty {m : HM} {p : Nat} : inH m p = [] ↔ ∀ i : Nat, i < 16 * (m.man + m.mgd) → i / 16 = p → bitAt m.hw i = false := by
  constructor
  · intro h i hi he
    cases hb : bitAt m.hw i
    · rfl
    · exact absurd he (inH_nil h hi hb)
  · intro h
    apply List.eq_nil_iff_forall_not_mem.2
    intro a ha
    obtain ⟨h1, h2⟩ := inH_mem.1 ha
    obtain ⟨i, rfl, h3, h4⟩ := hasH_nat h1
    rw [h i h3 (by omega)] at h4; cases h4
theorem filter_split {α : Type} (l : List α) (p q r : α → Bool) (h : ∀ x ∈ l, p x = (q x || r x)) (hd : ∀ x ∈ l, ¬ (q x = true ∧ r x = true)) : (l.filter p).length = (l.filter q).length + (l.filter r).length := by
  induction l with
  | nil => rfl
  | cons x t ih =>
    have ih := ih (fun y hy => h y (List.mem_cons_of_mem _ hy)) (fun y hy => hd y (List.mem_cons_of_mem _ hy))
    have h1 := h x (List.mem_cons_self ..)
    have h2 := hd x (List.mem_cons_self ..)
    rw [List.filter_cons, List.filter_cons, List.filter_cons, h1]
    cases hq : q x <;> cases hr : r x
    · simpa using ih
    · simp; omega
    · simp; omega
    · exact absurd ⟨hq, hr⟩ h2
theorem SwX.at {m : HM} {gl : List Gb} (h : HI m gl) (ps : List Nat) (hn : ps.Nodup) (hg : ∀ p ∈ ps, mgP m.rs (p : Int) = true) : ∀ j, j ≤ ps.length → SwX m gl ps j (swJ m (natI ps) j)
  | 0, _ => ⟨h, rfl, rfl, rfl, fun i _ => by simp [swJ], fun _ => rfl, fun _ _ => rfl, fun p hp => by simp at hp, fun p hp => by simp at hp, by rw [List.filter_eq_nil_iff.2 fun _ _ => by simp]; rfl, fun _ _ _ => rfl⟩
  | j + 1, hj => by
    have ih := SwX.at h ps hn hg j (by omega)
    have hp : ps[j]? = some ps[j] := List.getElem?_eq_getElem (by omega)
    have hD : (natI ps).getD j 0 = ((ps[j] : Nat) : Int) := by unfold natI; rw [List.getD_eq_getElem?_getD, List.getElem?_map, hp]; rfl
    have hT : ps.take (j + 1) = ps.take j ++ [ps[j]] := List.take_succ_eq_append_getElem (by omega)
    have hnew : ps[j] ∉ ps.take j := fun hm => by
      obtain ⟨k, hk, e⟩ := List.mem_take_iff_getElem.1 hm
      have := (List.getElem_inj (xs := ps) (i := k) (j := j) (h₀ := by omega) (h₁ := by omega) hn).1 e
      omega
    have hgp := hg ps[j] (List.getElem_mem (by omega))
    have hmem : ∀ q : Nat, q ∈ ps.take (j + 1) ↔ q ∈ ps.take j ∨ q = ps[j] := fun q => by rw [hT, List.mem_append, List.mem_singleton]
    rw [show swJ m (natI ps) (j + 1) = (swM (swJ m (natI ps) j).1 ((natI ps).getD j 0), (swJ m (natI ps) j).2 + (swP (swJ m (natI ps) j).1 ((natI ps).getD j 0)).2) from rfl, hD]
    generalize swJ m (natI ps) j = x at *
    generalize ps[j] = p at *
    have hB := SwB.page ih.hi (p : Int)
    have hI2 := ih.hi.swept (p : Int)
    have hk := tidyR_keep (swP x.1 p).1 p
    have hsl : ∀ i : Nat, i < 16 * (m.man + m.mgd) → bitAt m.hw i = true → bitAt x.1.hw i = true → slz x.1 i = slz m i := fun i hi h1 h2 => by
      unfold slz
      by_cases hq : i / 16 ∈ ps.take j
      · have h3 := ih.hw i hi
        rw [h2, h1, Bool.true_and] at h3
        cases hmk : bitAt m.mw i
        · rw [hmk, Bool.or_false] at h3
          exact absurd hq (of_decide_eq_true h3.symm)
        · rw [ih.rs2 _ hq ⟨i, hi, rfl, h1, hmk⟩]
      · rw [ih.rs1 _ hq]
    have hhw : ∀ i : Nat, i < 16 * (m.man + m.mgd) → bitAt (swP x.1 p).1.hw i = (bitAt m.hw i && (decide (i / 16 ∉ ps.take (j + 1)) || bitAt m.mw i)) := fun i hi => by
      rw [swP_hw ih.hi p (by rw [ih.man, ih.mgd]; exact hi), ih.hw i hi, ih.mw, Bool.and_assoc]
      congr 1
      have e : decide (((i / 16 : Nat) : Int) ≠ p) = decide (i / 16 ≠ p) := decide_eq_decide.2 (not_congr Int.natCast_inj)
      rw [e]
      have e2 : decide (i / 16 ∉ ps.take (j + 1)) = (decide (i / 16 ∉ ps.take j) && decide (i / 16 ≠ p)) := by
        rw [← Bool.decide_and]
        exact decide_eq_decide.2 ⟨fun h => ⟨fun h1 => h ((hmem _).2 (.inl h1)), fun h1 => h ((hmem _).2 (.inr h1))⟩, fun h h1 => ((hmem _).1 h1).elim h.1 h.2⟩
      rw [e2]
      cases decide (i / 16 ∉ ps.take j) <;> cases decide (i / 16 ≠ p) <;> cases bitAt m.mw i <;> rfl
    have hrs : ∀ q : Nat, pAt (swM x.1 p).rs q = if q = p ∧ inH (swP x.1 p).1 p = [] then PRow.Z else pAt x.1.rs q := fun q => by
      show pAt (tidyR (swP x.1 p).1 p).rs q = _
      rw [tidyR_rs hI2.1.toHOk, hB.rs]
      have : mgP x.1.rs (p : Int) = true := by unfold mgP; rw [ih.rs1 p hnew]; exact hgp
      simp [this]
    have hem : inH (swP x.1 p).1 p = [] ↔ ∀ i : Nat, i < 16 * (m.man + m.mgd) → i / 16 = p → bitAt m.hw i = true → bitAt m.mw i = false := by
      rw [inH_empty, hB.man, hB.mgd, ih.man, ih.mgd]
      refine forall_congr' fun i => forall_congr' fun hi => forall_congr' fun he => ?_
      rw [hhw i hi, decide_eq_false (fun h => h ((hmem _).2 (.inr he))), Bool.false_or]
      cases bitAt m.hw i <;> cases bitAt m.mw i <;> simp
    refine ⟨ih.hi.swM p, hk.1.trans (hB.man.trans ih.man), hk.2.1.trans (hB.mgd.trans ih.mgd), ?_, fun i hi => ?_, fun i => ?_, fun q hq => ?_, fun q hq hex => ?_, fun q hq hall => ?_, ?_, fun i hi hb => ?_⟩
    · show (tidyR (swP x.1 p).1 p).bs.length = _
      rw [hk.2.2.1, hB.len, ih.len]
    · show bitAt (tidyR (swP x.1 p).1 p).hw i = _
      rw [hk.2.2.2.1]; exact hhw i hi
    · show bitAt (tidyR (swP x.1 p).1 p).mw i = _
      rw [hk.2.2.2.2, hB.mw, ih.mw]
    · rw [hrs, if_neg (fun e => hq ((hmem q).2 (.inr e.1))), ih.rs1 q fun e => hq ((hmem q).2 (.inl e))]
    · by_cases e : q = p
      · subst e
        rw [hrs, if_neg, ih.rs1 q hnew]
        rintro ⟨_, e2⟩
        obtain ⟨i, i1, i2, i3, i4⟩ := hex
        rw [hem.1 e2 i i1 i2 i3] at i4; cases i4
      · rw [hrs, if_neg (fun h => e h.1)]
        exact ih.rs2 q (((hmem q).1 hq).resolve_right e) hex
    · by_cases e : q = p
      · subst e
        rw [hrs, if_pos ⟨rfl, hem.2 hall⟩]
      · rw [hrs, if_neg (fun h => e h.1)]
        exact ih.rs3 q (((hmem q).1 hq).resolve_right e) hall
    · show x.2 + (swP x.1 p).2 = _
      rw [hB.cnt, ih.cnt, filter_split (objN m) (fun i => decide (i / 16 ∈ ps.take (j + 1)) && !bitAt m.mw i) (fun i => decide (i / 16 ∈ ps.take j) && !bitAt m.mw i) (fun i => decide (i / 16 = p) && !bitAt m.mw i)]
      · congr 1
        unfold inH objI objN allF
        rw [List.filter_filter, List.filter_map, List.length_map, List.filter_filter, List.filter_filter, ih.man, ih.mgd]
        congr 1
        apply List.filter_congr
        intro i hi
        have hi : i < 16 * (m.man + m.mgd) := by rw [List.mem_range'] at hi; obtain ⟨k, hk, rfl⟩ := hi; omega
        show (unm x.1 ((16 * i : Nat) : Int) && decide (((16 * i : Nat) : Int) / 256 = p) && bitAt x.1.hw i) = _
        unfold unm
        rw [Int.toNat_natCast, Nat.mul_div_cancel_left _ (by decide), ih.mw, ih.hw i hi]
        have e : decide (((16 * i : Nat) : Int) / 256 = p) = decide (i / 16 = p) := decide_eq_decide.2 ⟨fun h => by omega, fun h => by omega⟩
        rw [e]
        by_cases hq : i / 16 = p
        · rw [decide_eq_true hq, decide_eq_true (show i / 16 ∉ ps.take j by rw [hq]; exact hnew)]
          cases bitAt m.mw i <;> cases bitAt m.hw i <;> rfl
        · rw [decide_eq_false hq]; simp
      · intro i _
        have e2 : decide (i / 16 ∈ ps.take (j + 1)) = (decide (i / 16 ∈ ps.take j) || decide (i / 16 = p)) := by
          rw [← Bool.decide_or]; exact decide_eq_decide.2 (hmem _)
        rw [e2]
        cases decide (i / 16 ∈ ps.take j) <;> cases decide (i / 16 = p) <;> cases bitAt m.mw i <;> rfl
      · rintro i _ ⟨h1, h2⟩
        simp only [Bool.and_eq_true, decide_eq_true_eq] at h1 h2
        rw [h2.1] at h1; exact hnew h1.1
    · change bitAt (tidyR (swP x.1 p).1 p).hw i = true at hb
      rw [hk.2.2.2.1] at hb
      have h1 := hhw i hi
      rw [hb] at h1
      have hbm : bitAt m.hw i = true := by
        cases hq : bitAt m.hw i
        · rw [hq] at h1; cases h1
        · rfl
      have hbx : bitAt x.1.hw i = true := by
        have := hB.hw i (by rw [ih.man, ih.mgd]; exact hi)
        rw [hb] at this
        cases hq : bitAt x.1.hw i
        · rw [hq] at this; cases this
        · rfl
      have h2 := hB.part i (by rw [ih.man, ih.mgd]; exact hi) hb
      rw [hsl i hi hbm hbx] at h2
      show partB (tidyR (swP x.1 p).1 p).bs _ _ = _
      rw [hk.2.2.1, h2]
      exact ih.part i hi hbx
end Go.Tum.Base
end
section
namespace Go.Proofs.YtdpcccjkncagoaaGreatDoor
open Go Go.Tum Go.Tum.Base
set_option maxRecDepth 4000
def SHL (m : HM) (xs : List Int) (j : Nat) (g : Nat) : LH :=
  [.cells 0 [ptr 2, .slice (some ⟨1, j * 1, none⟩) (xs.length - j) (xs.length - j), .int .i64 g], .gro 1 (rowsC intC xs),
   .cells 0 [ptr 3, .int .i64 m.man, .int .i64 (m.man + m.mgd : Nat), ptr 11, ptr 13],
   .cells 0 [.int .i64 m.man, .int .i64 m.mgd, .int .u64 ((1#64).toNat : Int), ptr 4, ptr 6, .int .u64 ((keyW 1#64).toNat : Int), .map (some 8), ptr 9],
   .cells 0 [slB 5 m.bs.length], BL m.bs, .cells 0 [slB 7 m.rs.length], .gro 4 (rowsC PRow.cells m.rs), .imap [] 0,
   .cells 0 [ptr 4, .int .u64 ((keyW 1#64).toNat : Int), .map (some 10)], .imap m.G m.c,
   .cells 0 [slB 12 m.hw.length, .int .i64 (16 * (m.man + m.mgd) : Nat)], .gro 1 (rowsC wordC m.hw),
   .cells 0 [slB 14 m.mw.length, .int .i64 (16 * (m.man + m.mgd) : Nat)], .gro 1 (rowsC wordC m.mw)]
abbrev SH : List Nat := [2, 3, 4, 5, 6, 7, 8, 9, 10, 11, 12, 13, 14]
abbrev S15 : List Nat := [0, 1, 2, 3, 4, 5, 6, 7, 8, 9, 10, 11, 12, 13, 14]
abbrev SK : List Nat := [0, 1, 2, 3, 4, 5, 6, 7, 8, 9, 10, 11, 12]
theorem swLeft_tr (m : HM) (xs : List Int) (j g : Nat) : Tr Tryz.prog 36 [ptr 0] (SHL m xs j g) (fun v K => v = .int .i64 (xs.length - j : Nat) ∧ K = SHL m xs j g) := by
  refine Tr.of row_sweep_Sweeper_Left_ok rfl ?_
  repeat' (first|refine L_rs ?_|refine dN ?_|refine dR ?_|refine d0 ?_|refine L_block ?_|refine rT ?_|refine L_true rfl ?_|refine L_false rfl ?_|refine L_skip (Nx.goL ?_)|refine L_skip ?_|refine L_exit (Nx.goL ?_)|refine L_exit ?_|refine iF (fun h=>?_) (fun h=>?_)|refine aX ?_|refine aA ?_|refine aS ?_|refine aK ?_|refine aI (hn := ?_)|refine aD ?_|refine aR ?_|refine aM ?_|refine L_reg ?_|refine L_seq ?_|exact ⟨rfl, rfl⟩|fail)
theorem swGone_tr (m : HM) (xs : List Int) (j g : Nat) : Tr Tryz.prog 37 [ptr 0] (SHL m xs j g) (fun v K => v = .int .i64 g ∧ K = SHL m xs j g) := by
  refine Tr.of row_sweep_Sweeper_Gone_ok rfl ?_
  repeat' (first|refine L_rs ?_|refine dN ?_|refine dR ?_|refine d0 ?_|refine L_block ?_|refine rT ?_|refine L_true rfl ?_|refine L_false rfl ?_|refine L_skip (Nx.goL ?_)|refine L_skip ?_|refine L_exit (Nx.goL ?_)|refine L_exit ?_|refine iF (fun h=>?_) (fun h=>?_)|refine aX ?_|refine aA ?_|refine aS ?_|refine aK ?_|refine aI (hn := ?_)|refine aD ?_|refine aR ?_|refine aM ?_|refine L_reg ?_|refine L_seq ?_|exact ⟨rfl, rfl⟩|fail)
set_option maxHeartbeats 2000000 in
theorem swPage_tr (m : HM) (gl : List Gb) (h : HI m gl) (xs : List Int) (j g : Nat) (p : Int) : Tr Tryz.prog 113 [ptr 0, .int .i64 p] (SHL m xs j g) (fun v K => v = .int .i64 (swP m p).2 ∧ K = SHL (swM m p) xs j g) := by
  have hIn := hIn_tr m h.toHOk p
  have hat := SwI.at h p
  have hall := swK_all m p
  have hsu := fun k (hk : k < (inH m p).length) => swK_succ m (inH m p) hk
  have hln := inH_len h.toHOk p
  have h0 := swK_zero m (inH m p)
  have hsM : swM m p = tidyR (swP m p).1 p := rfl
  rw [hsM]
  generalize inH m p = l at *
  refine Tr.of row_sweep_Sweeper_page_ok rfl ?_
  repeat' (first|refine L_rs ?_|refine dN ?_|refine dR ?_|refine d0 ?_|refine L_block ?_|refine rT ?_|refine L_true rfl ?_|refine L_false rfl ?_|refine L_skip (Nx.goL ?_)|refine L_skip ?_|refine L_exit (Nx.goL ?_)|refine L_exit ?_|refine iF (fun h=>?_) (fun h=>?_)|refine aX ?_|(refine cF SH (hIn) ?_; conv => whnf)|refine aA ?_|refine aS ?_|refine aK ?_|refine aI (hn := ?_)|refine aD ?_|refine aR ?_|refine aM ?_|refine L_reg ?_|refine L_seq ?_|exact ⟨rfl, rfl⟩|fail)
  refine LWp.pick [0, 1, 5, 13, 14, 15] [0, 1, 2, 3, 4, 5, 6, 7, 8, 9, 10, 11, 12, 13, 14, 15] rfl rfl rfl (L_loop (fun q s K => ∃ k : Nat, q = l.length - k ∧ k ≤ l.length ∧ s = [(0, ptr 0), (1, .int .i64 p), (5, .int .i64 (swK m l k).2), (13, slB 15 l.length), (14, .int .i64 l.length), (15, .int .i64 k)] ∧ K = SHL (swK m l k).1 xs j g ++ [.gro 1 (rowsC intC l)]) l.length ⟨0, rfl, by omega, rfl, rfl⟩ ?_)
  rintro q _ _ ⟨k, rfl, hk, rfl, rfl⟩
  first|refine L_seq (L_rs (S_done [] rfl (Nx.goL (iF (fun h => L_skip (Nx.goL ?_)) (fun h => L_exit ?_)))))|refine L_rs (S_done [] rfl (Nx.goL (L_seq (iF (fun h => L_skip (Nx.goL ?_)) (fun h => L_exit ?_)))))
  · have hk2 : k < l.length := by omega
    have hx := hat k hk
    have hg : l[k]? = some l[k] := List.getElem?_eq_getElem hk2
    have hs := hsu k hk2
    have hle := hx.le
    obtain ⟨i, e, g1, g2⟩ := hasH_nat (hx.has k hk2 (Nat.le_refl _))
    rw [e] at hs hg
    have hMd := hMarked_ok (swK m l k).1 hx.hi.toHOk i g1 g2
    have hFr := hFree_u (swK m l k).1 hx.hi.toHOk (16 * i : Nat) (by have := hx.hi.n1; omega)
    unfold swF at hs
    rw [Int.toNat_natCast, Nat.mul_div_cancel_left _ (by decide)] at hs
    cases hb : bitAt (swK m l k).1.mw i
    · rw [hb] at hMd hs
      rw [if_neg (by decide)] at hs
      generalize freeR (swK m l k).1 (16 * i : Nat) = m' at *
      repeat' (first|refine L_rs ?_|refine dN ?_|refine dR ?_|refine d0 ?_|refine L_block ?_|refine rT ?_|refine L_true rfl ?_|refine L_false rfl ?_|refine L_skip (Nx.goL ?_)|refine L_skip ?_|refine L_exit (Nx.goL ?_)|refine L_exit ?_|refine iF (fun h=>?_) (fun h=>?_)|refine aX ?_|refine S_Q [] rfl rfl (QY.ldI rfl rfl hg) ?_|refine cP SH (hMd) ?_|(refine cF SH (hFr) ?_; conv => whnf)|refine aA ?_|refine aS ?_|refine aK ?_|refine aI (hn := ?_)|refine aD ?_|refine aR ?_|refine aM ?_|refine L_reg ?_|refine L_seq ?_|exact ⟨rfl, rfl⟩|fail)
      exact Nx.pick [0, 1, 5, 13, 14, 15] [0, 1, 2, 3, 4, 5, 6, 7, 8, 9, 10, 11, 12, 13, 14, 15] rfl rfl rfl ⟨l.length - (k + 1), by omega, k + 1, rfl, by omega, by rw [hs]; rfl, by rw [hs]; rfl⟩
    · rw [hb] at hMd hs
      rw [if_pos rfl] at hs
      repeat' (first|refine L_rs ?_|refine dN ?_|refine dR ?_|refine d0 ?_|refine L_block ?_|refine rT ?_|refine L_true rfl ?_|refine L_false rfl ?_|refine L_skip (Nx.goL ?_)|refine L_skip ?_|refine L_exit (Nx.goL ?_)|refine L_exit ?_|refine iF (fun h=>?_) (fun h=>?_)|refine aX ?_|refine S_Q [] rfl rfl (QY.ldI rfl rfl hg) ?_|refine cP SH (hMd) ?_|refine aA ?_|refine aS ?_|refine aK ?_|refine aI (hn := ?_)|refine aD ?_|refine aR ?_|refine aM ?_|refine L_reg ?_|refine L_seq ?_|exact ⟨rfl, rfl⟩|fail)
      exact Nx.pick [0, 1, 5, 13, 14, 15] [0, 1, 2, 3, 4, 5, 6, 7, 8, 9, 10, 11, 12, 13, 14, 15] rfl rfl rfl ⟨l.length - (k + 1), by omega, k + 1, rfl, by omega, by rw [hs]; rfl, by rw [hs]; rfl⟩
  · obtain rfl : k = l.length := by omega
    have hx := hat l.length (Nat.le_refl _)
    rw [hall] at hx ⊢
    have hT := hTidy_u (swP m p).1 hx.hi.toHOk p
    refine Nx.goL ?_
    repeat' (first|refine L_rs ?_|refine dN ?_|refine dR ?_|refine d0 ?_|refine L_block ?_|refine rT ?_|refine L_true rfl ?_|refine L_false rfl ?_|refine L_skip (Nx.goL ?_)|refine L_skip ?_|refine L_exit (Nx.goL ?_)|refine L_exit ?_|refine iF (fun h=>?_) (fun h=>?_)|refine aX ?_|(refine cF SH (hT) ?_; conv => whnf)|refine aA ?_|refine aS ?_|refine aK ?_|refine aI (hn := ?_)|refine aD ?_|refine aR ?_|refine aM ?_|refine L_reg ?_|refine L_seq ?_|exact ⟨rfl, rfl⟩|fail)
def swS (m : HM) (xs : List Int) (j : Nat) : HM := if j + 1 = xs.length then unmarkM (swM m (xs.getD j 0)) else swM m (xs.getD j 0)
def swN (m : HM) (xs : List Int) (j : Nat) : Nat := (swP m (xs.getD j 0)).2
theorem swStep_no (m : HM) (xs : List Int) (j g : Nat) (hj : xs.length ≤ j) : TrK Tryz.prog [] SK 34 [ptr 0] (SHL m xs j g) (fun v K => v = .tuple ⟨[.int .i64 0, .bool false]⟩ ∧ K = SHL m xs j g) := by
  have hL := swLeft_tr m xs j g
  rw [show xs.length - j = 0 by omega] at hL
  refine Tr.of row_sweep_Sweeper_Step_ok rfl ?_
  repeat' (first|refine L_rs ?_|refine dN ?_|refine dR ?_|refine d0 ?_|refine L_block ?_|refine rT ?_|refine L_true rfl ?_|refine L_false rfl ?_|refine L_skip (Nx.goL ?_)|refine L_skip ?_|refine L_exit (Nx.goL ?_)|refine L_exit ?_|refine iF (fun h=>?_) (fun h=>?_)|refine aX ?_|refine cP S15 (hL) ?_|refine aA ?_|refine aS ?_|refine aK ?_|refine aI (hn := ?_)|refine aD ?_|refine aR ?_|refine aM ?_|refine L_reg ?_|refine L_seq ?_|exact ⟨rfl, rfl⟩|fail)
set_option maxHeartbeats 2000000 in
theorem swStep_ok (m : HM) (gl : List Gb) (h : HI m gl) (xs : List Int) (hxs : xs.length ≤ 256) (j g : Nat) (hj : j < xs.length) (hg : g ≤ 1000000000) : TrK Tryz.prog [] SK 34 [ptr 0] (SHL m xs j g) (fun v K => v = .tuple ⟨[.int .i64 (swN m xs j), .bool (decide (j + 1 < xs.length))]⟩ ∧ K = SHL (swS m xs j) xs (j + 1) (g + swN m xs j)) := by
  have hL := swLeft_tr m xs j g
  have hx : xs[j]? = some xs[j] := List.getElem?_eq_getElem hj
  have hD : xs.getD j 0 = xs[j] := by rw [List.getD_eq_getElem?_getD, hx]; rfl
  have hP := swPage_tr m gl h xs j g xs[j]
  have hI := h.swM xs[j]
  obtain ⟨_, hn⟩ := h.swept xs[j]
  have hU := hUnmark_u (swM m xs[j]) hI.toHOk
  unfold swS swN
  rw [hD]
  generalize (swP m xs[j]).2 = n at *
  generalize swM m xs[j] = m' at *
  obtain ⟨d, hd⟩ : ∃ d, xs.length - j = d + 1 := ⟨xs.length - j - 1, by omega⟩
  unfold SHL at *
  rw [hd] at hL hP ⊢
  rw [show xs.length - (j + 1) = d by omega]
  refine Tr.of row_sweep_Sweeper_Step_ok rfl ?_
  by_cases h1 : j + 1 = xs.length
  · obtain rfl : d = 0 := by omega
    rw [if_pos h1, decide_eq_false (by omega)]
    repeat' (first|refine L_rs ?_|refine dN ?_|refine dR ?_|refine d0 ?_|refine L_block ?_|refine rT ?_|refine L_true rfl ?_|refine L_false rfl ?_|refine L_skip (Nx.goL ?_)|refine L_skip ?_|refine L_exit (Nx.goL ?_)|refine L_exit ?_|refine iF (fun h=>?_) (fun h=>?_)|refine aX ?_|refine cP S15 (hL) ?_|refine S_Q [] rfl rfl (QY.idxO (k := 0) rfl rfl (by omega)) ?_|refine S_Q [] rfl rfl (QY.ldI (k := j) rfl rfl hx) ?_|(refine cF S15 (hP) ?_; conv => whnf)|refine S_Q [] rfl rfl (QY.slc (lo' := 1) (hi' := 0 + 1) rfl rfl rfl (by omega) (by omega)) ?_|(refine cW SH (hU) ?_; conv => whnf)|refine aA ?_|refine aS ?_|refine aK ?_|refine aI (hn := ?_)|refine aD ?_|refine aR ?_|refine aM ?_|refine L_reg ?_|refine L_seq ?_|exact ⟨rfl, rfl⟩|fail)
  · obtain ⟨c, rfl⟩ : ∃ c, d = c + 1 := ⟨d - 1, by omega⟩
    rw [if_neg h1, decide_eq_true (by omega)]
    repeat' (first|refine L_rs ?_|refine dN ?_|refine dR ?_|refine d0 ?_|refine L_block ?_|refine rT ?_|refine L_true rfl ?_|refine L_false rfl ?_|refine L_skip (Nx.goL ?_)|refine L_skip ?_|refine L_exit (Nx.goL ?_)|refine L_exit ?_|refine iF (fun h=>?_) (fun h=>?_)|refine aX ?_|refine cP S15 (hL) ?_|refine S_Q [] rfl rfl (QY.idxO (k := 0) rfl rfl (by omega)) ?_|refine S_Q [] rfl rfl (QY.ldI (k := j) rfl rfl hx) ?_|(refine cF S15 (hP) ?_; conv => whnf)|refine S_Q [] rfl rfl (QY.slc (lo' := 1) (hi' := c + 1 + 1) rfl rfl rfl (by omega) (by omega)) ?_|refine aA ?_|refine aS ?_|refine aK ?_|refine aI (hn := ?_)|refine aD ?_|refine aR ?_|refine aM ?_|refine L_reg ?_|refine L_seq ?_|exact ⟨rfl, rfl⟩|fail)
    exact ⟨VT2 rfl (decide_eq_true (by omega)), rfl⟩
end Go.Proofs.YtdpcccjkncagoaaGreatDoor
end
section
namespace Go.Tum.Base
open Go Go.Tum Go.Proofs.YtdpcccjkncagoaaGreatDoor
def UpO (m : HM) : Prop := ∀ p : Nat, m.man ≤ p → pAt m.rs p = PRow.Z ∨ (pAt m.rs p).kind = 4
theorem UpO.step {m : HM} {gl : List Gb} (h : HI m gl) (hu : UpO m) (o : Op18) (b : Bool) : UpO (stepM m gl o b).1 := by
  have hm := h.toHOk
  have hnr := hm.nr
  unfold stepM
  split
  · show UpO (allocR m o.r o.s).2.2
    unfold allocR
    cases hs : shOk o.r o.s
    · exact hu
    · rw [if_pos rfl]
      cases hl : layF m (cOf o.r o.s) with
      | none => exact hu
      | some x =>
        have hL := layF_some hm (a := x.1) (pg := x.2) hl
        intro p hp
        show pAt (allocM m x.1 x.2 o.r o.s).rs p = _ ∨ (pAt (allocM m x.1 x.2 o.r o.s).rs p).kind = 4
        rw [hL.rows hm]
        split
        · exact .inr rfl
        · exact hu p hp
  split
  · show UpO (freeR m _)
    unfold freeR; split <;> exact fun p hp => hu p hp
  split
  · show UpO (markR m _)
    unfold markR; split <;> exact fun p hp => hu p hp
  split
  · exact fun p hp => hu p hp
  split
  · show UpO (tidyR m o.page)
    by_cases hh : mgP m.rs o.page = true
    · obtain ⟨q, e, _⟩ := mgP_in hh
      intro p hp
      rw [e, tidyR_rs hm]
      split
      · exact .inl rfl
      · refine hu p ?_
        have := (tidyR_keep m o.page).1
        rw [this] at hp; exact hp
    · unfold tidyR; rw [if_neg (fun e => hh e.1)]; exact hu
  split
  · show UpO (setR m o)
    unfold setR; split <;> exact fun p hp => hu p hp
  split
  · show UpO (greatR m gl o.n).2.2.1
    unfold greatR
    cases hn : greatC o.n
    · exact hu
    · rw [if_pos rfl]
      obtain ⟨M, hM, hM1, hM2⟩ := greatC_pages hn
      cases hp : placeP m.rs (pagesC o.n) m.man 0 0 with
      | none => exact hu
      | some A =>
        rw [hM] at hp
        obtain ⟨a, rfl, h1, h2⟩ := great_at hM1 hp
        show UpO (greatM m (a : Int).toNat (pagesC o.n).toNat o.n)
        rw [hM, Int.toNat_natCast, Int.toNat_natCast]
        intro p hp
        change m.man ≤ p at hp
        show pAt (layP m.rs a (lrow M) M) p = _ ∨ (pAt (layP m.rs a (lrow M) M) p).kind = 4
        rw [pAt_lay (by omega) hM1, if_neg (by omega), if_neg (by omega)]
        exact hu p hp
  split
  · cases b
    · exact hu
    · show UpO (wordR m _ _)
      unfold wordR; split <;> exact fun p hp => hu p hp
  · exact hu
theorem longP_all {rs : PRows} : ∀ {f k : Nat} {r b : Int}, 0 ≤ r → r ≤ b → (∀ i, k ≤ i → i < k + f → freeP (rs.getD i PRow.Z) = true) → longP rs f k r b = max b (r + f)
  | 0, k, r, b, h1, h2, _ => by simp only [longP]; omega
  | f + 1, k, r, b, h1, h2, h => by
    simp only [longP]
    rw [if_pos (h k (Nat.le_refl _) (by omega)), longP_all (by omega) (by omega) (fun i i1 i2 => h i (by omega) (by omega))]
    omega
theorem natI_length0 (a : List Nat) : (natI a).length = a.length := List.length_map _
def stA (m : HM) (ps : List Nat) (n : Nat) : HM := if n < ps.length then (swJ m (natI ps) n).1 else if ps.length = 0 then m else unmarkM (swJ m (natI ps) ps.length).1
def stG (m : HM) (ps : List Nat) (n : Nat) : Nat := (swJ m (natI ps) (min n ps.length)).2
theorem stA_zero (m : HM) (ps : List Nat) : stA m ps 0 = m := by
  unfold stA
  split
  · rfl
  · rw [if_pos (by omega)]
theorem stA_next (m : HM) (ps : List Nat) {n : Nat} (h : n < ps.length) : stA m ps (n + 1) = swS (stA m ps n) (natI ps) n ∧ stG m ps (n + 1) = stG m ps n + swN (stA m ps n) (natI ps) n := by
  have e : stA m ps n = (swJ m (natI ps) n).1 := by unfold stA; rw [if_pos h]
  rw [e]
  constructor
  · unfold swS
    rw [natI_length0]
    unfold stA
    by_cases h1 : n + 1 = ps.length
    · rw [if_neg (by omega), if_neg (by omega), if_pos h1, ← h1]; rfl
    · rw [if_pos (by omega), if_neg h1]; rfl
  · unfold stG
    rw [Nat.min_eq_left (by omega), Nat.min_eq_left (by omega)]; rfl
theorem stA_stay (m : HM) (ps : List Nat) {n : Nat} (h : ps.length ≤ n) : stA m ps (n + 1) = stA m ps n ∧ stG m ps (n + 1) = stG m ps n := by
  unfold stA stG
  rw [if_neg (show ¬ n + 1 < ps.length by omega), if_neg (show ¬ n < ps.length by omega), Nat.min_eq_right (show ps.length ≤ n + 1 by omega), Nat.min_eq_right h]
  exact ⟨rfl, rfl⟩
theorem pagesH_nodup (m : HM) : (pagesH m).Nodup := List.Pairwise.filter _ List.nodup_range'
theorem pagesH_mem {m : HM} {p : Nat} : p ∈ pagesH m ↔ (m.man ≤ p ∧ p < m.man + m.mgd) ∧ mgP m.rs (p : Int) = true := by
  unfold pagesH
  rw [List.mem_filter, List.mem_range']
  constructor
  · rintro ⟨⟨i, h1, rfl⟩, h2⟩; exact ⟨by omega, h2⟩
  · rintro ⟨h1, h2⟩; exact ⟨⟨p - m.man, by omega, by omega⟩, h2⟩
theorem sweep_all {m : HM} {gl : List Gb} (h : HI m gl) (hu : UpO m) (h0 : ∀ i, bitAt m.mw i = false) {n : Nat} (hn : (pagesH m).length ≤ n) :
    objI (stA m (pagesH m) n) = [] ∧ pagesH (stA m (pagesH m) n) = [] ∧ stG m (pagesH m) n = (objI m).length ∧ (stA m (pagesH m) n).man = m.man ∧ (stA m (pagesH m) n).mgd = m.mgd ∧ HOk (stA m (pagesH m) n) ∧ ∀ p : Nat, m.man ≤ p → p < m.man + m.mgd → pAt (stA m (pagesH m) n).rs p = PRow.Z := by
  have hX := SwX.at h (pagesH m) (pagesH_nodup m) (fun p hp => (pagesH_mem.1 hp).2) _ (Nat.le_refl _)
  have hT : (pagesH m).take (pagesH m).length = pagesH m := List.take_length
  have hin : ∀ i : Nat, i < 16 * (m.man + m.mgd) → bitAt m.hw i = true → i / 16 ∈ pagesH m := fun i hi hb => by
    have ho := (h.obj i hi hb).1
    exact pagesH_mem.2 ⟨⟨(h.row _ ho).1, by omega⟩, decide_eq_true ho⟩
  have hG : stG m (pagesH m) n = (objI m).length := by
    unfold stG
    rw [Nat.min_eq_right hn, hX.cnt, hT]
    unfold objI
    rw [List.length_map, List.filter_eq_self.2]
    intro i hi
    have := objN_mem.1 hi
    rw [decide_eq_true (hin i this.1 this.2), h0]; rfl
  have hO : ∀ m' : HM, m'.man = m.man → m'.mgd = m.mgd → (∀ i, i < 16 * (m.man + m.mgd) → bitAt m'.hw i = false) → objI m' = [] := fun m' e1 e2 hb => by
    unfold objI objN allF
    rw [e1, e2, List.filter_eq_nil_iff.2]
    · rfl
    · intro i hi
      rw [List.mem_range'] at hi
      obtain ⟨k, hk, rfl⟩ := hi
      rw [hb _ (by omega)]; decide
  have hPg : ∀ m' : HM, m'.man = m.man → m'.mgd = m.mgd → (∀ p : Nat, m.man ≤ p → p < m.man + m.mgd → pAt m'.rs p = PRow.Z) → pagesH m' = [] := fun m' e1 e2 hz => by
    apply List.eq_nil_iff_forall_not_mem.2
    intro p hp
    obtain ⟨h1, h2⟩ := pagesH_mem.1 hp
    have h2 := of_decide_eq_true h2
    rw [hz p (by omega) (by omega)] at h2
    exact absurd h2 (by decide)
  unfold stA
  rw [if_neg (by omega)]
  by_cases hl : (pagesH m).length = 0
  · rw [if_pos hl]
    have hnil := List.length_eq_zero_iff.1 hl
    have hz : ∀ p : Nat, m.man ≤ p → p < m.man + m.mgd → pAt m.rs p = PRow.Z := fun p h1 h2 => by
      rcases hu p h1 with e | e
      · exact e
      · have : p ∈ pagesH m := pagesH_mem.2 ⟨⟨h1, h2⟩, decide_eq_true e⟩
        rw [hnil] at this; cases this
    refine ⟨hO m rfl rfl fun i hi => ?_, hnil, hG, rfl, rfl, h.toHOk, hz⟩
    cases hb : bitAt m.hw i
    · rfl
    · have := hin i hi hb
      rw [hnil] at this; cases this
  · rw [if_neg hl]
    have hz : ∀ p : Nat, m.man ≤ p → p < m.man + m.mgd → pAt (unmarkM (swJ m (natI (pagesH m)) (pagesH m).length).1).rs p = PRow.Z := fun p h1 h2 => by
      show pAt (swJ m (natI (pagesH m)) (pagesH m).length).1.rs p = _
      by_cases hp : p ∈ pagesH m
      · exact hX.rs3 p (by rw [hT]; exact hp) fun i _ _ _ => h0 i
      · rw [hX.rs1 p (by rw [hT]; exact hp)]
        rcases hu p h1 with e | e
        · exact e
        · exact absurd (pagesH_mem.2 ⟨⟨h1, h2⟩, decide_eq_true e⟩) hp
    refine ⟨hO _ hX.man hX.mgd fun i hi => ?_, hPg _ hX.man hX.mgd hz, hG, hX.man, hX.mgd, hX.hi.toHOk.unmarked, hz⟩
    show bitAt (swJ m (natI (pagesH m)) (pagesH m).length).1.hw i = false
    rw [hX.hw i hi, hT, h0]
    cases hb : bitAt m.hw i
    · rfl
    · rw [decide_eq_false (fun e => e (hin i hi hb))]; rfl
theorem stA_hi {m : HM} {gl : List Gb} (h : HI m gl) {n : Nat} (hn : n < (pagesH m).length) : HI (stA m (pagesH m) n) gl := by
  unfold stA
  rw [if_pos hn]
  exact (SwX.at h (pagesH m) (pagesH_nodup m) (fun p hp => (pagesH_mem.1 hp).2) n (by omega)).hi
theorem stG_le {m : HM} {gl : List Gb} (h : HI m gl) (n : Nat) : stG m (pagesH m) n ≤ 4096 := by
  unfold stG
  rw [(SwX.at h (pagesH m) (pagesH_nodup m) (fun p hp => (pagesH_mem.1 hp).2) _ (Nat.min_le_right _ _)).cnt]
  have h1 := objI_len h.toHOk
  unfold objI at h1
  rw [List.length_map] at h1
  exact Nat.le_trans (List.length_filter_le _ _) h1
end Go.Tum.Base
end
section
namespace Go.Tum.Base
open Go Go.Tum
theorem natI_length (a : List Nat) : (natI a).length = a.length := List.length_map _
end Go.Tum.Base
namespace Go.Proofs.YtdpcccjkncagoaaGreatDoor
open Go Go.Tum Go.Tum.Base
set_option maxRecDepth 4000
theorem swNew_tr (m : HM) (hm : HOk m) : Tr Tryz.prog 32 [ptr 0] (HL m) (fun v K => v = ptr 14 ∧ K = HL m ++ [.gro 1 (rowsC intC (natI (pagesH m))), .cells 0 [ptr 0, slB 13 (pagesH m).length, .int .i64 0]]) := by
  have hP := hPages_tr m hm
  refine Tr.of row_sweep_New_ok rfl ?_
  repeat' (first|refine L_rs ?_|refine dN ?_|refine d0 ?_|refine L_block ?_|refine L_true rfl ?_|refine L_false rfl ?_|refine L_skip (Nx.goL ?_)|refine L_skip ?_|refine L_exit (Nx.goL ?_)|refine L_exit ?_|refine iF (fun h=>?_) (fun h=>?_)|refine aX ?_|(refine cF [0, 1, 2, 3, 4, 5, 6, 7, 8, 9, 10, 11, 12] (hP) ?_; conv => whnf)|refine aA ?_|refine aS ?_|refine aK ?_|refine aI (hn := ?_)|refine aD ?_|refine aR ?_|refine aM ?_|refine L_reg ?_|refine L_seq ?_|exact ⟨rfl, rfl⟩|fail)
  exact L_ret (RetQ.pick [0, 1, 2, 3, 4, 5, 6, 7, 8, 9, 10, 11, 12, 13, 14] rfl rfl rfl rfl ⟨rfl, rfl⟩)
end Go.Proofs.YtdpcccjkncagoaaGreatDoor
end
section
namespace Go.Proofs.YtdpcccjkncagoaaGreatDoor
open Go Go.Tum
def rowsS : List FnRow := [row_tumbrellaw20_awake, row_region_New, row_gheap_New, row_gheap_Heap_Alloc, row_gheap_Heap_Mark, row_sweep_New, row_sweep_Sweeper_Step, row_sweep_Sweeper_Gone, row_gheap_Heap_Has, row_gheap_Heap_Marked, row_arena_New, row_link_New, row_pages_New, row_large_New, row_region_Region_Config, row_region_Region_Arena, row_arena_Arena_Len, row_bitset_New, row_object_Shape_Class, row_gheap_Heap_place, row_region_Region_Pages, row_pages_Table_Map, row_class_Base, row_object_Make, row_bitset_Set_Put, row_gheap_Heap_Pages, row_sweep_Sweeper_Left, row_sweep_Sweeper_page, row_gheap_Heap_Unmark, row_bitset_Set_Has, row_link_mix, row_object_Shape_Bytes, row_class_Size, row_gheap_Heap_managed, row_gheap_Heap_row, row_gheap_Heap_slot, row_pages_Row_first, row_pages_Table_cut, row_pages_Table_place, row_class_Slots, row_arena_Arena_Word, row_arena_Arena_Fill, row_object_Shape_word, row_arena_Arena_SetWord, row_bitset_Set_in, row_gheap_Heap_In, row_gheap_Heap_Free, row_gheap_Heap_Tidy, row_bitset_Set_Count, row_bitset_Set_Len, row_object_Shape_may, row_class_may, row_pages_Table_Row, row_pages_Table_Len, row_pages_Row_free, row_arena_Arena_word, row_num_Get, row_arena_Arena_in, row_num_Put, row_gheap_Heap_All, row_pages_Table_Unmap, row_math_bits_OnesCount64, row_gheap_places, row_bitset_Set_All, row_bitset_Set_Next, row_bitset_bit]
theorem rowsS_ok : ∀ x ∈ rowsS, x.Ok Tryz.prog := by
  refine List.forall_mem_cons.2 ⟨row_tumbrellaw20_awake_ok, ?_⟩
  refine List.forall_mem_cons.2 ⟨row_region_New_ok, ?_⟩
  refine List.forall_mem_cons.2 ⟨row_gheap_New_ok, ?_⟩
  refine List.forall_mem_cons.2 ⟨row_gheap_Heap_Alloc_ok, ?_⟩
  refine List.forall_mem_cons.2 ⟨row_gheap_Heap_Mark_ok, ?_⟩
  refine List.forall_mem_cons.2 ⟨row_sweep_New_ok, ?_⟩
  refine List.forall_mem_cons.2 ⟨row_sweep_Sweeper_Step_ok, ?_⟩
  refine List.forall_mem_cons.2 ⟨row_sweep_Sweeper_Gone_ok, ?_⟩
  refine List.forall_mem_cons.2 ⟨row_gheap_Heap_Has_ok, ?_⟩
  refine List.forall_mem_cons.2 ⟨row_gheap_Heap_Marked_ok, ?_⟩
  refine List.forall_mem_cons.2 ⟨row_arena_New_ok, ?_⟩
  refine List.forall_mem_cons.2 ⟨row_link_New_ok, ?_⟩
  refine List.forall_mem_cons.2 ⟨row_pages_New_ok, ?_⟩
  refine List.forall_mem_cons.2 ⟨row_large_New_ok, ?_⟩
  refine List.forall_mem_cons.2 ⟨row_region_Region_Config_ok, ?_⟩
  refine List.forall_mem_cons.2 ⟨row_region_Region_Arena_ok, ?_⟩
  refine List.forall_mem_cons.2 ⟨row_arena_Arena_Len_ok, ?_⟩
  refine List.forall_mem_cons.2 ⟨row_bitset_New_ok, ?_⟩
  refine List.forall_mem_cons.2 ⟨row_object_Shape_Class_ok, ?_⟩
  refine List.forall_mem_cons.2 ⟨row_gheap_Heap_place_ok, ?_⟩
  refine List.forall_mem_cons.2 ⟨row_region_Region_Pages_ok, ?_⟩
  refine List.forall_mem_cons.2 ⟨row_pages_Table_Map_ok, ?_⟩
  refine List.forall_mem_cons.2 ⟨row_class_Base_ok, ?_⟩
  refine List.forall_mem_cons.2 ⟨row_object_Make_ok, ?_⟩
  refine List.forall_mem_cons.2 ⟨row_bitset_Set_Put_ok, ?_⟩
  refine List.forall_mem_cons.2 ⟨row_gheap_Heap_Pages_ok, ?_⟩
  refine List.forall_mem_cons.2 ⟨row_sweep_Sweeper_Left_ok, ?_⟩
  refine List.forall_mem_cons.2 ⟨row_sweep_Sweeper_page_ok, ?_⟩
  refine List.forall_mem_cons.2 ⟨row_gheap_Heap_Unmark_ok, ?_⟩
  refine List.forall_mem_cons.2 ⟨row_bitset_Set_Has_ok, ?_⟩
  refine List.forall_mem_cons.2 ⟨row_link_mix_ok, ?_⟩
  refine List.forall_mem_cons.2 ⟨row_object_Shape_Bytes_ok, ?_⟩
  refine List.forall_mem_cons.2 ⟨row_class_Size_ok, ?_⟩
  refine List.forall_mem_cons.2 ⟨row_gheap_Heap_managed_ok, ?_⟩
  refine List.forall_mem_cons.2 ⟨row_gheap_Heap_row_ok, ?_⟩
  refine List.forall_mem_cons.2 ⟨row_gheap_Heap_slot_ok, ?_⟩
  refine List.forall_mem_cons.2 ⟨row_pages_Row_first_ok, ?_⟩
  refine List.forall_mem_cons.2 ⟨row_pages_Table_cut_ok, ?_⟩
  refine List.forall_mem_cons.2 ⟨row_pages_Table_place_ok, ?_⟩
  refine List.forall_mem_cons.2 ⟨row_class_Slots_ok, ?_⟩
  refine List.forall_mem_cons.2 ⟨row_arena_Arena_Word_ok, ?_⟩
  refine List.forall_mem_cons.2 ⟨row_arena_Arena_Fill_ok, ?_⟩
  refine List.forall_mem_cons.2 ⟨row_object_Shape_word_ok, ?_⟩
  refine List.forall_mem_cons.2 ⟨row_arena_Arena_SetWord_ok, ?_⟩
  refine List.forall_mem_cons.2 ⟨row_bitset_Set_in_ok, ?_⟩
  refine List.forall_mem_cons.2 ⟨row_gheap_Heap_In_ok, ?_⟩
  refine List.forall_mem_cons.2 ⟨row_gheap_Heap_Free_ok, ?_⟩
  refine List.forall_mem_cons.2 ⟨row_gheap_Heap_Tidy_ok, ?_⟩
  refine List.forall_mem_cons.2 ⟨row_bitset_Set_Count_ok, ?_⟩
  refine List.forall_mem_cons.2 ⟨row_bitset_Set_Len_ok, ?_⟩
  refine List.forall_mem_cons.2 ⟨row_object_Shape_may_ok, ?_⟩
  refine List.forall_mem_cons.2 ⟨row_class_may_ok, ?_⟩
  refine List.forall_mem_cons.2 ⟨row_pages_Table_Row_ok, ?_⟩
  refine List.forall_mem_cons.2 ⟨row_pages_Table_Len_ok, ?_⟩
  refine List.forall_mem_cons.2 ⟨row_pages_Row_free_ok, ?_⟩
  refine List.forall_mem_cons.2 ⟨row_arena_Arena_word_ok, ?_⟩
  refine List.forall_mem_cons.2 ⟨row_num_Get_ok, ?_⟩
  refine List.forall_mem_cons.2 ⟨row_arena_Arena_in_ok, ?_⟩
  refine List.forall_mem_cons.2 ⟨row_num_Put_ok, ?_⟩
  refine List.forall_mem_cons.2 ⟨row_gheap_Heap_All_ok, ?_⟩
  refine List.forall_mem_cons.2 ⟨row_pages_Table_Unmap_ok, ?_⟩
  refine List.forall_mem_cons.2 ⟨row_math_bits_OnesCount64_ok, ?_⟩
  refine List.forall_mem_cons.2 ⟨row_gheap_places_ok, ?_⟩
  refine List.forall_mem_cons.2 ⟨row_bitset_Set_All_ok, ?_⟩
  refine List.forall_mem_cons.2 ⟨row_bitset_Set_Next_ok, ?_⟩
  refine List.forall_mem_cons.2 ⟨row_bitset_bit_ok, ?_⟩
  exact fun x hx => by cases hx
theorem awake20_tr : Tr Tryz.prog 38 [] [] (fun v K => v = .bool true ∧ K = []) :=
  Tr.closedT (by kernel_rfl) rfl rfl fun w hw => closed_callH (vs := []) (fuel := 5000) ovTZ_ok rowsS_ok (rawQ1_ok _) (rawE2_ok _) rfl rfl rfl (by kernel_rfl) w (DoorH.of hw)
end Go.Proofs.YtdpcccjkncagoaaGreatDoor
end
section
namespace Go.Proofs.YtdpcccjkncagoaaGreatDoor
open Go Go.Tum Go.Tum.Base
set_option maxRecDepth 4000
abbrev WS : List Nat := [24, 25, 2, 3, 4, 5, 6, 7, 8, 9, 10, 11, 12, 13, 14]
def SHd (m : HM) (xs : List Int) (j d : Nat) (g : Nat) : LH :=
  [.cells 0 [ptr 2, .slice (some ⟨1, j * 1, none⟩) d d, .int .i64 g], .gro 1 (rowsC intC xs),
   .cells 0 [ptr 3, .int .i64 m.man, .int .i64 (m.man + m.mgd : Nat), ptr 11, ptr 13],
   .cells 0 [.int .i64 m.man, .int .i64 m.mgd, .int .u64 ((1#64).toNat : Int), ptr 4, ptr 6, .int .u64 ((keyW 1#64).toNat : Int), .map (some 8), ptr 9],
   .cells 0 [slB 5 m.bs.length], BL m.bs, .cells 0 [slB 7 m.rs.length], .gro 4 (rowsC PRow.cells m.rs), .imap [] 0,
   .cells 0 [ptr 4, .int .u64 ((keyW 1#64).toNat : Int), .map (some 10)], .imap m.G m.c,
   .cells 0 [slB 12 m.hw.length, .int .i64 (16 * (m.man + m.mgd) : Nat)], .gro 1 (rowsC wordC m.hw),
   .cells 0 [slB 14 m.mw.length, .int .i64 (16 * (m.man + m.mgd) : Nat)], .gro 1 (rowsC wordC m.mw)]
theorem SHL_d (m : HM) {xs : List Int} {j d : Nat} (g : Nat) (h : xs.length = j + d) : SHL m xs j g = SHd m xs j d g := by
  unfold SHL SHd
  rw [show xs.length - j = d by omega]
theorem swGone_d (m : HM) {xs : List Int} {j d : Nat} (g : Nat) (h : xs.length = j + d) : Tr Tryz.prog 37 [ptr 0] (SHd m xs j d g) (fun v K => v = .int .i64 g ∧ K = SHd m xs j d g) := by
  have := swGone_tr m xs j g
  rw [SHL_d m g h] at this
  exact this
theorem swStep_d0 (m : HM) {xs : List Int} {j : Nat} (g : Nat) (h : xs.length = j + 0) : TrK Tryz.prog [] SK 34 [ptr 0] (SHd m xs j 0 g) (fun v K => v = .tuple ⟨[.int .i64 0, .bool false]⟩ ∧ K = SHd m xs j 0 g) := by
  have := swStep_no m xs j g (by omega)
  rw [SHL_d m g h] at this
  exact this
theorem swStep_ds (m : HM) (gl : List Gb) (hI : HI m gl) {xs : List Int} (hx : xs.length ≤ 256) {j c : Nat} (g : Nat) (hg : g ≤ 1000000000) (h : xs.length = j + (c + 1)) : TrK Tryz.prog [] SK 34 [ptr 0] (SHd m xs j (c + 1) g) (fun v K => v = .tuple ⟨[.int .i64 (swN m xs j), .bool (decide (j + 1 < xs.length))]⟩ ∧ K = SHd (swS m xs j) xs (j + 1) c (g + swN m xs j)) := by
  have := swStep_ok m gl hI xs hx j g (by omega) hg
  rw [SHL_d m g h, SHL_d (d := c) _ _ (by omega)] at this
  exact this
end Go.Proofs.YtdpcccjkncagoaaGreatDoor
end
section
namespace Go.Proofs.YtdpcccjkncagoaaGreatDoor
open Go Go.Tum Go.Tum.Base
set_option maxRecDepth 4000
def PM1 (m n : HM) (gl : List Gb) : LH :=
  [.dead, .cells 0 [ptr 2, ptr 15],
   .cells 0 [ptr 3, .int .i64 m.man, .int .i64 (m.man + m.mgd : Nat), ptr 11, ptr 13],
   .cells 0 [.int .i64 m.man, .int .i64 m.mgd, .int .u64 ((1#64).toNat : Int), ptr 4, ptr 6, .int .u64 ((keyW 1#64).toNat : Int), .map (some 8), ptr 9],
   .cells 0 [slB 5 m.bs.length], BL m.bs, .cells 0 [slB 7 m.rs.length], .gro 4 (rowsC PRow.cells m.rs), .imap [] 0,
   .cells 0 [ptr 4, .int .u64 ((keyW 1#64).toNat : Int), .map (some 10)], .imap m.G m.c,
   .cells 0 [slB 12 m.hw.length, .int .i64 (16 * (m.man + m.mgd) : Nat)], .gro 1 (rowsC wordC m.hw),
   .cells 0 [slB 14 m.mw.length, .int .i64 (16 * (m.man + m.mgd) : Nat)], .gro 1 (rowsC wordC m.mw),
   .cells 0 [ptr 16, slB 17 (obs n).length], .cells 0 [.int .i64 n.man, .int .u64 ((keyW 1#64).toNat : Int), slB 18 n.bs.length, slB 19 n.rs.length, slB 20 (n.man + n.mgd), ptr 21],
   .gro 2 (rowsC obC (obs n)), BL n.bs, TB n.rs, .dead, .cells 0 [slB 23 n.bs.length, .int .u64 ((keyW 1#64).toNat : Int), slB 22 gl.length], .gro 2 (rowsC gbC gl), .dead]
def PS1 (m n : HM) (gl : List Gb) (xs : List Int) (j d g : Nat) : LH := PM1 m n gl ++ [.cells 0 [ptr 2, .slice (some ⟨25, j * 1, none⟩) d d, .int .i64 g], .gro 1 (rowsC intC xs)]
abbrev W26 : List Nat := [0, 1, 2, 3, 4, 5, 6, 7, 8, 9, 10, 11, 12, 13, 14, 15, 16, 17, 18, 19, 20, 21, 22, 23, 24, 25]
set_option maxHeartbeats 8000000 in
theorem SweepAll_tr (b : Int) (hb : 0 ≤ b ∧ b < 256) (nb : Nat) (hnb : nb ≤ 9223372036854775807) (get : Nat → List Value) (op : Nat → Op18) (hop : ∀ i, i < nb → get i = (op i).cells ∧ (op i).In) :
    TrK Tryz.prog [(0, nb * 10, rowG 10 get)] [0] 8 [.int .u8 b, slB 0 nb] [.dead] (fun v _ => v = .bool true) := by
  obtain ⟨N, hN⟩ : ∃ N : Nat, 1 + b % 5 = N := ⟨(1 + b % 5).toNat, by omega⟩
  have hMk := make18_tr 1 N (by omega) (by omega)
  have hI0 := HI.init (man := 1) (mgd := N) (by omega) (by omega)
  have hU0 : UpO (initM 1 N) := fun p _ => .inl (pAt_init _ _)
  have hz0 : (initM 1 N).man = 1 ∧ (initM 1 N).mgd = N := ⟨rfl, rfl⟩
  have hAw := awake20_tr
  generalize initM 1 N = m0 at *
  refine Tr.of row_tumbrellaw20_SweepAll_ok rfl ?_
  repeat' (first|refine L_rs ?_|refine dN ?_|refine dR ?_|refine d0 ?_|refine L_block ?_|refine rT ?_|refine L_true rfl ?_|refine L_false rfl ?_|refine L_skip (Nx.goL ?_)|refine L_skip ?_|refine L_exit (Nx.goL ?_)|refine L_exit ?_|refine iF (fun h=>?_) (fun h=>?_)|refine aX ?_|refine S_Q [] rfl rfl (QY.cvi rfl (wrap64_id (by omega) (by omega))) ?_|refine S_Q [] rfl rfl (QY.add rfl rfl hN (by omega) (by omega)) ?_|(refine cF [] (hMk) ?_; conv => whnf)|refine aA ?_|refine aS ?_|refine aK ?_|refine aI (hn := ?_)|refine aD ?_|refine aR ?_|refine aM ?_|refine sP 29 (fun h=>?_) (fun h=>?_)|refine sP 65 (fun h=>?_) (fun h=>?_)|refine sP 71 (fun h=>?_) (fun h=>?_)|refine sP 80 (fun h=>?_) (fun h=>?_)|refine sP 93 (fun h=>?_) (fun h=>?_)|refine L_reg ?_|refine L_seq ?_|exact ⟨rfl, rfl⟩|fail)
  refine LWp.pick [5, 6, 20, 21, 22] Q24 rfl rfl rfl (L_loop (fun q l K => ∃ (i : Nat) (m : HM) (gl : List Gb), q = nb - i ∧ i ≤ nb ∧ HI m gl ∧ UpO m ∧ (m.man = 1 ∧ m.mgd = N) ∧ l = [(5, .int .i64 N), (6, ptr 1), (20, slB 0 nb), (21, .int .i64 nb), (22, .int .i64 i)] ∧ K = PL1 m gl) nb ⟨0, m0, [], rfl, by omega, hI0, hU0, hz0, rfl, rfl⟩ ?_)
  clear hMk hI0 hU0 hz0
  rintro q _ _ ⟨i, m, gl, rfl, hi, hI, hU, hz, rfl, rfl⟩
  first|refine L_seq (L_rs (S_done [] rfl (Nx.goL (iF (fun h => L_skip (Nx.goL ?_)) (fun h => L_exit ?_)))))|refine L_rs (S_done [] rfl (Nx.goL (L_seq (iF (fun h => L_skip (Nx.goL ?_)) (fun h => L_exit ?_)))))
  · have hi' : i < nb := by omega
    obtain ⟨e, ho⟩ := hop i hi'
    have hS := step_tr m gl hI (op i) ho true
    have hI' := hI.step (op i) true
    have hU' := hU.step hI (op i) true
    have hz' := step_size m gl (op i) true
    rw [hz.1, hz.2] at hz'
    generalize (stepM m gl (op i) true).1 = m' at *
    generalize (stepM m gl (op i) true).2 = gl' at *
    repeat' (first|refine L_rs ?_|refine dN ?_|refine dR ?_|refine d0 ?_|refine L_block ?_|refine rT ?_|refine L_true rfl ?_|refine L_false rfl ?_|refine L_skip (Nx.goL ?_)|refine L_skip ?_|refine L_exit (Nx.goL ?_)|refine L_exit ?_|refine iF (fun h=>?_) (fun h=>?_)|refine aX ?_|refine S_Q (v := .agg ⟨(op i).cells⟩) [] rfl rfl (by rw [← e]; exact QY.rowA (j := 0) i rfl rfl rfl hi' (by rw [e]; rfl) (by rw [e]; rfl)) ?_|(refine cW Q23 (hS) ?_; conv => whnf)|refine aA ?_|refine aS ?_|refine aK ?_|refine aI (hn := ?_)|refine aD ?_|refine aR ?_|refine aM ?_|refine sP 29 (fun h=>?_) (fun h=>?_)|refine sP 65 (fun h=>?_) (fun h=>?_)|refine sP 71 (fun h=>?_) (fun h=>?_)|refine sP 80 (fun h=>?_) (fun h=>?_)|refine sP 93 (fun h=>?_) (fun h=>?_)|refine L_reg ?_|refine L_seq ?_|exact ⟨rfl, rfl⟩|fail)
    · exact Nx.pick [5, 6, 20, 21, 22] Q24 rfl rfl rfl ⟨nb - (i + 1), by omega, i + 1, m', gl', rfl, by omega, hI', hU', hz', rfl, rfl⟩
    · exact Nx.pick [5, 6, 20, 21, 22] Q24 rfl rfl rfl ⟨nb - (i + 1), by omega, i + 1, m, gl, rfl, by omega, hI, hU, hz, rfl, rfl⟩
  · refine Nx.goL ?_
    have hUn := hUnmark_u m hI.toHOk
    have hI1 := hI.unmark
    have hU1 : UpO (unmarkM m) := fun p hp => hU p hp
    have h01 : ∀ i, bitAt (unmarkM m).mw i = false := fun i => bitAt_zero _ _
    have hz1 : (unmarkM m).man = 1 ∧ (unmarkM m).mgd = N := hz
    generalize unmarkM m = m1 at *
    clear hop hi
    repeat' (first|refine L_rs ?_|refine dN ?_|refine dR ?_|refine d0 ?_|refine L_block ?_|refine rT ?_|refine L_true rfl ?_|refine L_false rfl ?_|refine L_skip (Nx.goL ?_)|refine L_skip ?_|refine L_exit (Nx.goL ?_)|refine L_exit ?_|refine iF (fun h=>?_) (fun h=>?_)|refine aX ?_|(refine cW QH (hUn) ?_; conv => whnf)|refine aA ?_|refine aS ?_|refine aK ?_|refine aI (hn := ?_)|refine aD ?_|refine aR ?_|refine aM ?_|refine sP 29 (fun h=>?_) (fun h=>?_)|refine sP 65 (fun h=>?_) (fun h=>?_)|refine sP 71 (fun h=>?_) (fun h=>?_)|refine sP 80 (fun h=>?_) (fun h=>?_)|refine sP 93 (fun h=>?_) (fun h=>?_)|refine L_reg ?_|refine L_seq ?_|exact ⟨rfl, rfl⟩|fail)
    clear hUn
    have hAll := hAll_tr m1 hI1.toHOk
    have hNw := swNew_tr m1 hI1.toHOk
    repeat' (first|refine L_rs ?_|refine dN ?_|refine dR ?_|refine d0 ?_|refine L_block ?_|refine rT ?_|refine L_true rfl ?_|refine L_false rfl ?_|refine L_skip (Nx.goL ?_)|refine L_skip ?_|refine L_exit (Nx.goL ?_)|refine L_exit ?_|refine iF (fun h=>?_) (fun h=>?_)|refine aX ?_|(refine cF QH (hAll) ?_; conv => whnf)|(refine cF QH (hNw) ?_; conv => whnf)|refine aA ?_|refine aS ?_|refine aK ?_|refine aI (hn := ?_)|refine aD ?_|refine aR ?_|refine aM ?_|refine sP 29 (fun h=>?_) (fun h=>?_)|refine sP 65 (fun h=>?_) (fun h=>?_)|refine sP 71 (fun h=>?_) (fun h=>?_)|refine sP 80 (fun h=>?_) (fun h=>?_)|refine sP 93 (fun h=>?_) (fun h=>?_)|refine L_reg ?_|refine L_seq ?_|exact ⟨rfl, rfl⟩|fail)
    clear hAll hNw
    have hpl := pagesH_len m1
    have hfin := sweep_all hI1 hU1 h01 (n := 20) (by omega)
    have hst := fun n => stA_stay m1 (pagesH m1) (n := n)
    have hnx := fun n => stA_next m1 (pagesH m1) (n := n)
    have hhi := fun n => stA_hi hI1 (n := n)
    have hgl := stG_le hI1
    have hnl := natI_length (pagesH m1)
    have hst0 := stA_zero m1 (pagesH m1)
    have hsg0 : stG m1 (pagesH m1) 0 = 0 := by unfold stG; rw [Nat.zero_min]; rfl
    generalize pagesH m1 = ps at *
    refine LWp.pick [5, 6, 9, 10, 11] [0, 1, 2, 3, 4, 5, 6, 7, 8, 9, 10, 11, 12, 13, 14, 15, 16, 17, 18, 19, 20, 21, 22, 23, 26, 25] rfl rfl rfl (L_loop (fun q l K => ∃ n j d : Nat, q = 20 - n ∧ n ≤ 20 ∧ ps.length = j + d ∧ (n < ps.length → j = n) ∧ (ps.length ≤ n → d = 0) ∧ l = [(5, .int .i64 N), (6, ptr 1), (9, .int .i64 (objI m1).length), (10, ptr 24), (11, .int .i64 n)] ∧ K = PS1 (stA m1 ps n) m gl (natI ps) j d (stG m1 ps n)) 20 ⟨0, 0, ps.length, rfl, by omega, by omega, fun _ => rfl, fun _ => by omega, rfl, by rw [hst0, hsg0]; rfl⟩ ?_)
    rintro q _ _ ⟨n, j, d, rfl, hn, hjd, hj1, hd0, rfl, rfl⟩
    first|refine L_seq (L_rs (S_done [] rfl (Nx.goL (iF (fun h => L_skip (Nx.goL ?_)) (fun h => L_exit ?_)))))|refine L_rs (S_done [] rfl (Nx.goL (L_seq (iF (fun h => L_skip (Nx.goL ?_)) (fun h => L_exit ?_)))))
    · have hn2 : n < 20 := by omega
      by_cases hc : n < ps.length
      · obtain rfl := hj1 hc
        obtain ⟨c, rfl⟩ : ∃ c, d = c + 1 := ⟨d - 1, by omega⟩
        obtain ⟨e1, e2⟩ := hnx j hc
        have hg := hgl j
        have hS := swStep_ds (stA m1 ps j) gl (hhi j hc) (xs := natI ps) (by omega) (j := j) (c := c) (stG m1 ps j) (by omega) (by omega)
        rw [← e1, ← e2] at hS
        clear hfin hst hnx hhi
        repeat' (first|refine L_rs ?_|refine dN ?_|refine dR ?_|refine d0 ?_|refine L_block ?_|refine rT ?_|refine L_true rfl ?_|refine L_false rfl ?_|refine L_skip (Nx.goL ?_)|refine L_skip ?_|refine L_exit (Nx.goL ?_)|refine L_exit ?_|refine iF (fun h=>?_) (fun h=>?_)|refine aX ?_|(refine cW WS (hS) ?_; conv => whnf)|refine aA ?_|refine aS ?_|refine aK ?_|refine aI (hn := ?_)|refine aD ?_|refine aR ?_|refine aM ?_|refine sP 29 (fun h=>?_) (fun h=>?_)|refine sP 65 (fun h=>?_) (fun h=>?_)|refine sP 71 (fun h=>?_) (fun h=>?_)|refine sP 80 (fun h=>?_) (fun h=>?_)|refine sP 93 (fun h=>?_) (fun h=>?_)|refine L_reg ?_|refine L_seq ?_|exact ⟨rfl, rfl⟩|fail)
        exact Nx.pick [5, 6, 9, 10, 11] W26 rfl rfl rfl ⟨20 - (j + 1), by omega, j + 1, j + 1, c, rfl, by omega, by omega, fun _ => rfl, fun _ => by omega, rfl, rfl⟩
      · obtain rfl := hd0 (by omega)
        obtain ⟨e1, e2⟩ := hst n (by omega)
        have hS := swStep_d0 (stA m1 ps n) (xs := natI ps) (j := j) (stG m1 ps n) (by omega)
        rw [← e1, ← e2] at hS
        rw [← e1, ← e2]
        clear hfin hst hnx hhi
        repeat' (first|refine L_rs ?_|refine dN ?_|refine dR ?_|refine d0 ?_|refine L_block ?_|refine rT ?_|refine L_true rfl ?_|refine L_false rfl ?_|refine L_skip (Nx.goL ?_)|refine L_skip ?_|refine L_exit (Nx.goL ?_)|refine L_exit ?_|refine iF (fun h=>?_) (fun h=>?_)|refine aX ?_|(refine cW WS (hS) ?_; conv => whnf)|refine aA ?_|refine aS ?_|refine aK ?_|refine aI (hn := ?_)|refine aD ?_|refine aR ?_|refine aM ?_|refine sP 29 (fun h=>?_) (fun h=>?_)|refine sP 65 (fun h=>?_) (fun h=>?_)|refine sP 71 (fun h=>?_) (fun h=>?_)|refine sP 80 (fun h=>?_) (fun h=>?_)|refine sP 93 (fun h=>?_) (fun h=>?_)|refine L_reg ?_|refine L_seq ?_|exact ⟨rfl, rfl⟩|fail)
        exact Nx.pick [5, 6, 9, 10, 11] W26 rfl rfl rfl ⟨20 - (n + 1), by omega, n + 1, j, 0, rfl, by omega, hjd, fun _ => by omega, fun _ => rfl, rfl, rfl⟩
    · refine Nx.goL ?_
      obtain rfl : n = 20 := by omega
      obtain rfl := hd0 (by omega)
      obtain ⟨f1, f2, f3, f4, f5, f6, f7⟩ := hfin
      have hnr := f6.nr
      rw [f3]
      clear hst hnx hhi hst0
      generalize stA m1 ps 20 = mf at *
      have hAll := hAll_tr mf f6
      rw [f1] at hAll
      have hPg := hPages_tr mf f6
      rw [f2] at hPg
      have hGn := swGone_d mf (xs := natI ps) (j := j) (d := 0) (objI m1).length (by omega)
      have hR := hRegion_tr mf
      have hP := regPages_tr mf.man mf.mgd 1#64 mf.bs mf.rs mf.G mf.c
      have hLg := longest_tr mf.rs 1 (1 + N : Nat) (by omega)
      have eL : longP mf.rs (cutHi mf.rs 1 (1 + N : Nat) - cutLo 1) (cutLo 1) 0 0 = N := by
        rw [show cutLo 1 = 1 from rfl, show cutHi mf.rs 1 ((1 + N : Nat) : Int) = 1 + N by unfold cutHi; omega, longP_all (by omega) (by omega) (fun i i1 i2 => by
          have := f7 i (by omega) (by omega)
          rw [pAt_nat] at this
          exact decide_eq_true this)]
        omega
      rw [eL] at hLg
      clear f7 f1 f2 f3 eL
      repeat' (first|refine L_rs ?_|refine dN ?_|refine dR ?_|refine d0 ?_|refine L_block ?_|refine rT ?_|refine L_true rfl ?_|refine L_false rfl ?_|refine L_skip (Nx.goL ?_)|refine L_skip ?_|refine L_exit (Nx.goL ?_)|refine L_exit ?_|refine iF (fun h=>?_) (fun h=>?_)|refine aX ?_|(refine cF QH (hAll) ?_; conv => whnf)|refine cP WS (hGn) ?_|(refine cF QH (hPg) ?_; conv => whnf)|(refine cF QH (hR) ?_; conv => whnf)|(refine cF [3, 4, 5, 6, 7, 8, 9, 10] (hP) ?_; conv => whnf)|refine S_Q [] rfl rfl (QY.add (c := ((1 + N : Nat) : Int)) rfl rfl (by omega) (by omega) (by omega)) ?_|refine cP [6, 7] (hLg) ?_|refine cP [] (hAw) ?_|refine aA ?_|refine aS ?_|refine aK ?_|refine aI (hn := ?_)|refine aD ?_|refine aR ?_|refine aM ?_|refine sP 29 (fun h=>?_) (fun h=>?_)|refine sP 65 (fun h=>?_) (fun h=>?_)|refine sP 71 (fun h=>?_) (fun h=>?_)|refine sP 80 (fun h=>?_) (fun h=>?_)|refine sP 93 (fun h=>?_) (fun h=>?_)|refine L_reg ?_|refine L_seq ?_|exact ⟨rfl, rfl⟩|fail)
      all_goals first|exact rfl|exact absurd rfl h | skip
end Go.Proofs.YtdpcccjkncagoaaGreatDoor
end
section
namespace Go.Proofs.YtdpcccjkncagoaaGreatDoor
open Go Go.Tum Go.Tum.Base Go.Deep
theorem SweepAll_does (w : World) (hw : DoorH (fun _ => False) w) (b : Int) (hb : 0 ≤ b ∧ b < 256) {v : Value} {n : Nat} {get : Nat → List Value} (hr : SlIn w 10 v n get)
    (hf : ∀ i, i < n → Fits [some .i64, some .i64, some .i64, some .i64, some .i64, some .i64, some .i64, some .u64, some .i64, some .i64] (get i)) :
    Does Tryz.prog 8 #[.int .u8 b, v] w fun v w' => v = .bool true ∧ Fr (fun _ => False) w w' := by
  obtain ⟨op, hop⟩ := ops18_in hf
  obtain ⟨hn, x, hr⟩ := hr
  obtain ⟨h1, h2⟩ := hr [x] 0 rfl
  exact (SweepAll_tr b hb n hn get op hop).law (vs' := [.int .u8 b, v]) [x] w rfl (by intro y hy; cases List.mem_singleton.1 hy; exact ⟨rfl, h2⟩) ⟨rfl, h1, trivial⟩ (DoorH.tab hw)
end Go.Proofs.YtdpcccjkncagoaaGreatDoor
end
