/-
  bitset: Has, of a set without a bit.
-/
import Derived.Test.YtbpfcmefpangbaaTab
import Derived.Test.YtbpfcmefpangbaaOv
namespace Go.Proofs.Ytbpfcmefpangbaa
open Go Go.Tum

theorem bLen_ok {w : World} {p o : Nat} {n : Int} (h1 : w.cell? ⟨p, o + 1, none⟩ = some (.int .i64 n)) : Does Try.prog 88 #[.pointer (some ⟨p, o, none⟩)] w fun v w' => v = .int .i64 n ∧ w' = w := by
  refine e_bitset_Set_Len rfl ?_
  refine w_rs (s_end rfl (n_all ?_))
  refine w_rs (s_end rfl (n_all ?_))
  refine w_seq (w_false rfl (w_skip (n_all ?_)))
  refine w_rs (s_ld rfl rfl rfl (by simpa [add_none] using h1) (s_end rfl (n_all ?_)))
  exact w_ret (RQ.one (t := 2) rfl (.inl rfl) rfl ⟨rfl, rfl⟩)

theorem bIn_ok {w : World} {p o : Nat} {n : Int} (h1 : w.cell? ⟨p, o + 1, none⟩ = some (.int .i64 n)) (i : Int) : Does Try.prog 72 #[.pointer (some ⟨p, o, none⟩), .int .i64 i] w fun v w' => v = .bool (decide (0 ≤ i ∧ i < n)) ∧ w' = w := by
  refine e_bitset_Set_in rfl ?_
  refine w_rs (s_end rfl (n_all ?_))
  refine w_rs (s_split 7 rfl rfl rfl (fun h => ?_) (fun h => ?_))
  · have h0 : 0 ≤ i := of_decide_eq_true h
    refine s_call rfl rfl rfl (bLen_ok h1) ?_
    rintro _ w1 ⟨rfl, hw⟩
    subst hw
    refine ⟨trivial, s_end rfl (n_all (w_ret (RQ.one (t := 4) rfl (.inl rfl) rfl ⟨?_, rfl⟩)))⟩
    simp [h0]
  · have h0 : ¬ 0 ≤ i := of_decide_eq_false h
    refine s_end rfl (n_all (w_ret (RQ.one (t := 4) rfl (.inl rfl) rfl ⟨?_, rfl⟩)))
    simp [h0]

theorem bHas_zero {w : World} {p o b q m c : Nat} {n : Int} (h0 : w.cell? ⟨p, o, none⟩ = some (.slice (some ⟨b, q, none⟩) m c)) (h1 : w.cell? ⟨p, o + 1, none⟩ = some (.int .i64 n)) (hz : ∀ k, k < m → w.cell? ⟨b, q + k, none⟩ = some (.int .u64 0)) (hn : n ≤ 64 * m) (hm : m ≤ 1000000000000) (i : Int) :
    Does Try.prog 50 #[.pointer (some ⟨p, o, none⟩), .int .i64 i] w fun v w' => v = .bool false ∧ w' = w := by
  refine e_bitset_Set_Has rfl ?_
  refine w_rs (s_end rfl (n_all ?_))
  refine w_rs (s_call rfl rfl rfl (bIn_ok h1 i) ?_)
  rintro _ w1 ⟨rfl, hw⟩
  subst hw
  refine ⟨trivial, s_split 8 rfl rfl rfl (fun h => ?_) (fun h => ?_)⟩
  · have hi := of_decide_eq_true h
    obtain ⟨j, rfl⟩ := Int.eq_ofNat_of_zero_le hi.1
    have hq : (j : Int).tdiv 64 = ((j / 64 : Nat) : Int) := rfl
    have hj : j / 64 < m := by omega
    have hr : (j : Int).tmod 64 = ((j % 64 : Nat) : Int) := rfl
    refine s_ld rfl rfl rfl (by simpa [add_none] using h0) (s_bin (v := .int .i64 ((j / 64 : Nat) : Int)) rfl rfl rfl rfl ?_ (s_idx rfl rfl rfl rfl (by omega) (by omega) (s_ld (v := .int .u64 0) rfl rfl rfl ?_ ?_)))
    · simp only [ibin]
      rw [if_neg (by decide), hq, wrap64_id (by omega) (by omega)]
    · have := hz _ hj
      rw [Int.toNat_natCast]
      simpa [add_none] using this
    · refine s_bin (v := .int .i64 ((j % 64 : Nat) : Int)) rfl rfl rfl rfl (by simp only [ibin]; rw [if_neg (by decide), hr]) ?_
      refine s_q (v := .int .u64 0) rfl rfl ⟨.u64, 0, .i64, _, rfl, rfl, by omega, ?_⟩ ?_
      · simp [ishift]
      refine s_bin (v := .int .u64 0) rfl rfl rfl rfl rfl ?_
      exact s_end rfl (n_all (w_ret (RQ.one (t := 4) rfl (.inl rfl) rfl ⟨rfl, rfl⟩)))
  · refine s_end rfl (n_all (w_ret (RQ.one (t := 4) rfl (.inl rfl) rfl ⟨rfl, rfl⟩)))

theorem gHas_zero {w : World} {a u p o b q m c : Nat} {n : Int} (hh : w.cell? ⟨a, u + 3, none⟩ = some (.pointer (some ⟨p, o, none⟩))) (h0 : w.cell? ⟨p, o, none⟩ = some (.slice (some ⟨b, q, none⟩) m c)) (h1 : w.cell? ⟨p, o + 1, none⟩ = some (.int .i64 n)) (hz : ∀ k, k < m → w.cell? ⟨b, q + k, none⟩ = some (.int .u64 0)) (hn : n ≤ 64 * m) (hm : m ≤ 1000000000000) (i : Nat) :
    Does Try.prog 24 #[.pointer (some ⟨a, u, none⟩), .int .i64 i] w fun v w' => v = .bool false ∧ w' = w := by
  have hr : (i : Int).tmod 16 = ((i % 16 : Nat) : Int) := rfl
  have hq : (i : Int).tdiv 16 = ((i / 16 : Nat) : Int) := rfl
  refine e_gheap_Heap_Has rfl ?_
  refine w_rs (s_end rfl (n_all ?_))
  refine w_rs (s_split 11 rfl rfl rfl (fun h => ?_) (fun h => ?_))
  · refine s_bin (v := .int .i64 ((i % 16 : Nat) : Int)) rfl rfl rfl rfl (by simp only [ibin]; rw [if_neg (by decide), hr]) (s_split 16 rfl rfl rfl (fun h2 => ?_) (fun h2 => ?_))
    · refine s_ld rfl rfl rfl (by simpa [add_none] using hh) (s_bin (v := .int .i64 (IntKind.i64.wrap ((i / 16 : Nat) : Int))) rfl rfl rfl rfl (by simp only [ibin]; rw [if_neg (by decide), hq]) ?_)
      refine s_call rfl rfl rfl (bHas_zero h0 h1 hz hn hm _) ?_
      rintro _ w1 ⟨rfl, hw⟩
      subst hw
      exact ⟨trivial, s_end rfl (n_all (w_ret (RQ.one (t := 4) rfl (.inl rfl) rfl ⟨rfl, rfl⟩)))⟩
    · exact s_end rfl (n_all (w_ret (RQ.one (t := 4) rfl (.inl rfl) rfl ⟨rfl, rfl⟩)))
  · exact s_end rfl (n_all (w_ret (RQ.one (t := 4) rfl (.inl rfl) rfl ⟨rfl, rfl⟩)))

/-- Has of a heap without an object: told, whatever the place -/
def zeros : List Value → Bool
  | [] => true
  | .int .u64 (.ofNat 0) :: r => zeros r
  | _ => false
theorem zeros_get : ∀ {vs : List Value} {k : Nat}, zeros vs = true → k < vs.length → vs[k]? = some (.int .u64 0)
  | [], _, _, h => by simp at h
  | v :: r, k, h, hk => by
    unfold zeros at h
    split at h <;> first | (cases h; done) | skip
    · rename_i e; cases e
    · rename_i r' e
      cases e
      cases k with
      | zero => rfl
      | succ k => simp only [List.getElem?_cons_succ]; exact zeros_get h (by simpa using hk)
def ovHas0 : CallF := fun f vs L => bif Nat.beq 24 f then (match vs with
  | [.pointer (some ⟨a, 0, none⟩), .int .i64 (.ofNat _)] => match L[a]? with
    | some (.cells _ [_, _, _, .pointer (some ⟨p, 0, none⟩), _]) => match L[p]? with
      | some (.cells _ [.slice (some ⟨b, 0, none⟩) m _, .int .i64 (.ofNat n)]) => match L[b]? with
        | some (.cells _ zs) => bif Nat.beq zs.length m && zeros zs && Nat.ble n (Nat.mul 64 m) && Nat.ble m 1000000000000 && Nat.blt 0 m then some (.bool false, L) else none
        | _ => none
      | _ => none
    | _ => none
  | _ => none) else none
theorem ovHas0_ok (H : HypW) : CallOk H Try.prog ovHas0 := by
  intro X w0 hH w E L f vs vs' v L' hc hR hvs
  unfold ovHas0 at hc
  cases hf : Nat.beq 24 f
  · rw [hf] at hc; cases hc
  rw [hf] at hc
  have := Nat.eq_of_beq_eq_true hf
  subst this
  simp only [cond_true] at hc
  split at hc <;> first | (cases hc; done) | skip
  rename_i a i
  split at hc <;> first | (cases hc; done) | skip
  rename_i s1 c0 c1 c2 p c4 ha
  split at hc <;> first | (cases hc; done) | skip
  rename_i s2 b m c n hp
  split at hc <;> first | (cases hc; done) | skip
  rename_i s3 zs hb
  cases hk : (Nat.beq zs.length m && zeros zs && Nat.ble n (Nat.mul 64 m) && Nat.ble m 1000000000000 && Nat.blt 0 m)
  · rw [hk] at hc; cases hc
  rw [hk] at hc; cases hc
  simp only [Bool.and_eq_true] at hk
  obtain ⟨⟨⟨⟨h1, h2⟩, h3⟩, h4⟩, h5⟩ := hk
  have h5 : 0 < m := Nat.le_of_ble_eq_true h5
  have h1 := Nat.eq_of_beq_eq_true h1
  have h3 : n ≤ 64 * m := Nat.le_of_ble_eq_true h3
  have h4 := Nat.le_of_ble_eq_true h4
  refine ⟨by kernel_rfl, ?_⟩
  -- how they lie
  match vs', hvs with
  | [u0, u1], ⟨⟨a', e0, _, ra, hra, ea⟩, e1, _⟩ =>
  cases e0
  subst ea
  have e1 : u1 = .int .i64 (.ofNat i) := e1
  subst e1
  have hcell : ∀ {k o : Nat} {sz : Nat} {us : List Value} {u : Value}, L[k]? = some (.cells sz us) → us[o]? = some u → ∀ r, E[k]? = some r → ∃ u', w.cell? ⟨r.1, o + r.2.1, none⟩ = some u' ∧ SR E u u' := by
    intro k o sz us u hk ho r hr
    exact lcell_ok hR (a := ⟨k, o, none⟩) ⟨rfl, r, hr, rfl⟩ (by simp [lcell, hk, ho])
  obtain ⟨_, k1, ⟨pa, rfl, _, rp, hrp, rfl⟩⟩ := hcell (o := 3) ha rfl ra hra
  obtain ⟨_, k2, hs⟩ := hcell (o := 0) hp rfl rp hrp
  obtain ⟨_, k3, e3⟩ := hcell (o := 1) hp rfl rp hrp
  have e3 : _ = Value.int .i64 (.ofNat n) := e3
  subst e3
  have hz : ∀ rb, E[b]? = some rb → ∀ k, k < m → w.cell? ⟨rb.1, 0 + rb.2.1 + k, none⟩ = some (.int .u64 0) := by
    intro rb hrb k hk
    obtain ⟨u', k4, e4⟩ := hcell (o := k) hb (zeros_get h2 (by omega)) rb hrb
    have e4 : u' = .int .u64 0 := e4
    subst e4
    rw [← k4]; congr 2; omega
  refine Does.mono (R := fun v w' => v = .bool false ∧ w' = w) ?_ ?_
  · have k1' : w.cell? ⟨ra.1, ra.2.1 + 3, none⟩ = some (.pointer (some ⟨rp.1, 0 + rp.2.1, none⟩)) := by rw [← k1]; congr 2; omega
    have k3' : w.cell? ⟨rp.1, 0 + rp.2.1 + 1, none⟩ = some (.int .i64 n) := by rw [show (Value.int .i64 n) = .int .i64 (.ofNat n) from rfl, ← k3]; congr 2; omega
    have e0 : (⟨ra.1, 0 + ra.2.1, none⟩ : Addr) = ⟨ra.1, ra.2.1, none⟩ := by congr 1; omega
    rcases hs with ⟨_, rb, hrb, ⟨a', c', rfl, ⟨rfl, rfl⟩ | ⟨hm0, _, rfl, o', rfl, _⟩⟩ | ⟨hm0, _, rfl⟩⟩
    · simp only [e0]
      exact gHas_zero k1' k2 k3' (hz rb hrb) (by exact_mod_cast h3) h4 i
    · omega
    · omega
  · rintro v w' ⟨rfl, rfl⟩
    exact ⟨E, Ext.refl E, rfl, hR⟩
end Go.Proofs.Ytbpfcmefpangbaa
