/-
  Layer 12: the program's functions do what the plain text says.
-/
import Derived.Test.YtgfkadmpakgmeaaCode
import Derived.Test.YtgfkadmpakgmeaaRemoteSpec
namespace Go.Proofs.Ytgfkadmpakgmeaa
open Go Go.Tum Go.Tum.Remote

theorem way_law : KeyLaw Try.prog 50 pairV :=
  keyLaw_pair (pair_equal (f1 := ⟨"from", 3, 0, false, "", "tumbrel/remote", 0⟩) (f2 := ⟨"to", 3, 1, false, "", "tumbrel/remote", 8⟩) (by kernel_rfl) (by kernel_rfl) (by kernel_rfl) (by decide) (by decide) rfl rfl Try.underlying3 Try.underlying3) ⟨_, Try.underlying50⟩ (fun _ _ _ => by kernel_rfl)

theorem zero_ints (w : World) : (zeroValue 30).run Try.prog w = .ok (.slice none 0 0) w := by kernel_rfl
theorem int_info : ∃ i z, Try.prog.info? 3 = some i ∧ i.size = 1 ∧ i.bytes = 8 ∧ i.zero = some z ∧ z.cells.size = 1 ∧ ∀ u ∈ z.cells.toList, one u = true :=
  ⟨_, .int .i64 0, rfl, by kernel_rfl, by kernel_rfl, by kernel_rfl, rfl, by simp [Value.cells, one]⟩
theorem ints_elem : ElemT Try.prog 30 3 1 8 := ⟨Try.underlying30, int_info⟩

theorem Threads_ok {w : World} {b : Nat} {n : Int} (h : w.cell? ⟨b, 0, none⟩ = some (.int .i64 n)) : Does Try.prog 20 #[.pointer (some ⟨b, 0, none⟩)] w fun v w' => v = .int .i64 n ∧ w' = w := by
  refine e_remote_Mail_Threads rfl ?_
  refine w_rs (s_end rfl (n_all ?_))
  refine w_seq (w_rs (s_end rfl (n_all ?_)))
  refine w_false rfl (w_skip (n_all ?_))
  refine w_rs (s_ld rfl rfl rfl h (s_end rfl (n_all ?_)))
  exact w_ret (RQ.one (t := 2) rfl (.inl rfl) rfl ⟨rfl, rfl⟩)

theorem in_ok {w : World} {b : Nat} {n : Int} (t : Int) (h : w.cell? ⟨b, 0, none⟩ = some (.int .i64 n)) : Does Try.prog 21 #[.pointer (some ⟨b, 0, none⟩), .int .i64 t] w fun v w' => v = .bool (decide (0 ≤ t ∧ t < n)) ∧ w' = w := by
  refine e_remote_Mail_in rfl ?_
  refine w_rs (s_end rfl (n_all ?_))
  refine w_rs (s_split 11 rfl rfl rfl (fun h1 => ?_) (fun h1 => ?_))
  · have h1' : 0 ≤ t := by simpa using h1
    refine s_ld rfl rfl rfl h (s_end rfl (n_all ?_))
    exact w_ret (RQ.one (t := 4) rfl (.inl rfl) rfl ⟨by simp [h1'], rfl⟩)
  · have h1' : t < 0 := by simpa using h1
    refine s_end rfl (n_all ?_)
    exact w_ret (RQ.one (t := 4) rfl (.inl rfl) rfl ⟨by simp; omega, rfl⟩)

theorem pass_ok {w : World} {p : Nat} {s : Mail} {own : Own} {cb hb : Nat} {vs : List Value} {m : List ((Int × Int) × Value × Nat)} {c : Nat} (h : MailR w p s own cb hb vs m c) {f t : Int} (ht0 : 0 ≤ t) (ht1 : t < s.n)
    (hlen : (s.row t.toNat).length + (s.held (f, t)).length ≤ 1000000000) :
    Does Try.prog 22 #[.pointer (some ⟨p, 0, none⟩), .agg #[.int .i64 f, .int .i64 t]] w fun v w' =>
      v = .int .i64 (s.held (f, t)).length ∧ ∃ G', MailIs w' p (s.pass f t) G' ∧ Grow (fun b => own b ≠ none) G' w w' := by
  obtain ⟨tn, rfl⟩ := Int.eq_ofNat_of_zero_le ht0
  have htn : tn < s.n := by omega
  simp only [Int.toNat_natCast] at hlen
  refine e_remote_Mail_pass rfl ?_
  refine w_rs (s_box rfl rfl rfl trivial ?_)
  have hf1 : Fr (fun _ => False) w (w.alloc (.cells (Value.agg #[.int .i64 f, .int .i64 (tn : Int)]).cells 50)) := Fr.alloc _ w _
  have hB1 : Blk (w.alloc (.cells (Value.agg #[.int .i64 f, .int .i64 (tn : Int)]).cells 50)) w.heap.size [.int .i64 f, .int .i64 (tn : Int)] := Blk.new w _ _
  generalize w.alloc (.cells (Value.agg #[.int .i64 f, .int .i64 (tn : Int)]).cells 50) = w1 at hf1 hB1
  have hR1 : MailR w1 p s own cb hb vs m c := h.fr hf1 fun _ _ hg => hg
  have hnew : own w.heap.size = none := by
    cases hq : own w.heap.size with
    | none => rfl
    | some x => have := h.small w.heap.size (by rw [hq]; simp); omega
  obtain ⟨c0, c1, c2, c3⟩ := hR1.cell
  refine s_end rfl (n_all ?_)
  -- what is held
  obtain ⟨Fe, hSe, hFe⟩ := hR1.entAt (f, (tn : Int))
  refine w_rs (s_ld rfl rfl rfl c3 (s_ldn (vs := [.int .i64 f, .int .i64 (tn : Int)]) rfl rfl rfl rfl hB1.pair (s_raw rfl rfl (lookup_Y (k := (f, (tn : Int))) Try.underlying45 way_law zero_ints rfl rfl hR1.map rfl) ?_)))
  generalize hlv : ((mfind m (f, (tn : Int))).map (·.2.1)).getD (.slice none 0 0) = lv at hSe
  refine s_end rfl (n_pick [0, 1, 3, 5] rfl ?_)
  -- it is deleted
  refine w_rs (s_ld rfl rfl rfl c3 (s_ldn (vs := [.int .i64 f, .int .i64 (tn : Int)]) rfl rfl rfl rfl hB1.pair (s_rawE rfl rfl (delete_W (k := (f, (tn : Int))) Try.underlying45 way_law rfl rfl hR1.map hR1.wf (fun w2 hM2 hf2 _ => ⟨trivial, ?_⟩)))))
  have hR2 := hR1.del (f, (tn : Int)) hf2 hM2
  have hnb : w.heap.size ≠ hb := fun e => by rw [e, h.oh] at hnew; cases hnew
  have hB2 := hf2.blk hB1 hnb
  have hSe2 : Sl w2 1 lv (s.held (f, (tn : Int))).length (ints (s.held (f, (tn : Int)))) Fe := hSe.fr hf2 fun b hb' e => by
    have e' : b = hb := e
    have := hFe b hb'
    rw [e', h.oh] at this; cases this
  clear hSe hB1 c0 c1 c2 c3
  obtain ⟨c0, c1, c2, c3⟩ := hR2.cell
  obtain ⟨v, F, hv, hvc, hS, hF⟩ := hR2.rowAt htn
  refine s_end rfl (n_pick [0, 1, 3, 5] rfl ?_)
  -- the row grows
  refine w_rs (s_ld rfl rfl rfl c2 (s_ld rfl rfl rfl (hB2.cell rfl) (s_ld rfl rfl rfl c2 (s_ld rfl rfl rfl (hB2.cell rfl) (s_idx rfl rfl rfl rfl (by omega) (by omega) (s_ld rfl rfl rfl (by simpa using hvc) ?_))))))
  refine s_rawE rfl rfl (append_W ints_elem ⟨_, Try.underlying30⟩ rfl rfl hS hSe2.rd (by show (2 * ((s.row tn).length + _) + 2048) * 8 ≤ _; omega) (by omega) (fun v' w3 F' hS' hf3 hF' => ?_))
  have hpF : ¬ p ∈ F := fun e => by have := hF p e; rw [h.op] at this; cases this
  have hwF : ¬ w.heap.size ∈ F := fun e => by have := hF _ e; rw [hnew] at this; cases this
  have hcF : ¬ cb ∈ F := fun e => by have := hF _ e; rw [h.oc] at this; cases this
  have kp : w3.cell? ⟨p, 2, none⟩ = w2.cell? ⟨p, 2, none⟩ := hf3.cell hR2.blk.lt hpF
  have kw : w3.cell? ⟨w.heap.size, 1, none⟩ = w2.cell? ⟨w.heap.size, 1, none⟩ := hf3.cell hB2.lt hwF
  refine ⟨⟨ld_keep rfl kw, ld_keep rfl kp, ld_keep rfl kw, ld_keep rfl kp, trivial⟩, ?_⟩
  have hcb3 := hf3.blk hR2.cblk hcF
  have htv : tn < vs.length := by rw [h.vlen]; exact htn
  refine s_idx rfl rfl rfl rfl (by omega) (by omega) (s_st rfl rfl rfl rfl hS'.one (hcb3.some (by simpa using htv)) (hcb3.frozen _) trivial (s_end rfl (n_pick [5] rfl ?_)))
  obtain ⟨la, lc, hlf⟩ := hSe2.form
  subst hlf
  refine w_rs (s_end rfl (n_all ?_))
  refine w_ret (RQ.one (t := 4) rfl (.inl rfl) rfl ⟨rfl, ?_⟩)
  have hxs : (s.row tn).length + (s.held (f, (tn : Int))).length = (s.row tn ++ s.held (f, (tn : Int))).length := by simp
  have hS'' : Sl w3 1 v' (s.row tn ++ s.held (f, (tn : Int))).length (ints (s.row tn ++ s.held (f, (tn : Int)))) F' := by
    rw [← hxs, ints_append]; exact hS'
  have hfin := hR2.setRow htn hS'' hf3 hF hF'
  have e1 : (⟨cb, 0 + (Int.toNat (tn : Int)) * 1, none⟩ : Addr) = ⟨cb, tn, none⟩ := by simp
  rw [e1]
  have hG : Grow (fun b => own b ≠ none) (fun b => (if b ∈ F' then some (3, (tn : Int), 0) else own b) ≠ none) w (w3.setCell ⟨cb, tn, none⟩ v') := by
    refine ⟨?_, fun b hb' => ?_⟩
    · refine (((hf1.mono (G := fun b => own b ≠ none) fun _ _ hx => hx.elim).trans hf2 fun b _ e => ?_).trans hf3 fun b _ hb' => ?_).trans (Fr.setCell w3 ⟨cb, tn, none⟩ v') fun b _ e => ?_
      · rw [show b = hb from e, h.oh]; simp
      · rw [hF b hb']; simp
      · rw [show b = cb from e, h.oc]; simp
    · by_cases e : b ∈ F'
      · rcases hF' b e with h1 | h1
        · left; rw [hF b h1]; simp
        · right; exact Nat.le_trans (Nat.le_trans hf1.size hf2.size) h1
      · left; rwa [if_neg e] at hb'
  exact ⟨_, ⟨_, cb, hb, _, _, c, hfin, rfl⟩, hG⟩
theorem in_yes {w : World} {b : Nat} {n t : Int} (h : w.cell? ⟨b, 0, none⟩ = some (.int .i64 n)) (h0 : 0 ≤ t) (h1 : t < n) : Does Try.prog 21 #[.pointer (some ⟨b, 0, none⟩), .int .i64 t] w fun v w' => v = .bool true ∧ w' = w :=
  (in_ok t h).mono fun v w' ⟨h2, h3⟩ => ⟨by rw [h2]; simp [h0, h1], h3⟩
theorem in_no {w : World} {b : Nat} {n t : Int} (h : w.cell? ⟨b, 0, none⟩ = some (.int .i64 n)) (h0 : ¬ (0 ≤ t ∧ t < n)) : Does Try.prog 21 #[.pointer (some ⟨b, 0, none⟩), .int .i64 t] w fun v w' => v = .bool false ∧ w' = w :=
  (in_ok t h).mono fun v w' ⟨h2, h3⟩ => ⟨by rw [h2]; simp [h0], h3⟩

theorem Waits_ok {w : World} {p : Nat} {s : Mail} {G : Nat → Prop} (h : MailIs w p s G) (t : Int) : Does Try.prog 13 #[.pointer (some ⟨p, 0, none⟩), .int .i64 t] w fun v w' => v = .int .i64 (s.waits t) ∧ w' = w := by
  obtain ⟨own, cb, hb, vs, m, c, hR, rfl⟩ := h
  obtain ⟨c0, c1, c2, c3⟩ := hR.cell
  refine e_remote_Mail_Waits rfl ?_
  refine w_rs (s_end rfl (n_all ?_))
  by_cases ht : 0 ≤ t ∧ t < s.n
  · obtain ⟨tn, rfl⟩ := Int.eq_ofNat_of_zero_le ht.1
    have htn : tn < s.n := by omega
    refine w_seq (w_rs (s_call rfl rfl rfl (in_yes c0 ht.1 ht.2) ?_))
    rintro v w' ⟨rfl, rfl⟩
    refine ⟨trivial, s_end rfl (n_all ?_)⟩
    refine w_false rfl (w_skip (n_pick [0, 1] rfl ?_))
    obtain ⟨v, F, hv, hvc, hS, hF⟩ := hR.rowAt htn
    obtain ⟨a, cc, rfl⟩ := hS.form
    refine w_rs (s_ld rfl rfl rfl c2 (s_idx rfl rfl rfl rfl (by omega) (by omega) (s_ld rfl rfl rfl (by simpa using hvc) (s_end rfl (n_all ?_)))))
    exact w_ret (RQ.one (t := 4) rfl (.inl rfl) rfl ⟨by simp [Mail.waits, ht], rfl⟩)
  · refine w_seq (w_rs (s_call rfl rfl rfl (in_no c0 ht) ?_))
    rintro v w' ⟨rfl, rfl⟩
    refine ⟨trivial, s_end rfl (n_all ?_)⟩
    refine w_true rfl (w_rs (s_end rfl (n_all ?_)))
    exact w_ret (RQ.one (t := 4) rfl (.inl rfl) rfl ⟨by simp [Mail.waits, ht], rfl⟩)

theorem Held_ok {w : World} {p : Nat} {s : Mail} {G : Nat → Prop} (h : MailIs w p s G) (hsm : s.Small) (f : Int) : Does Try.prog 14 #[.pointer (some ⟨p, 0, none⟩), .int .i64 f] w fun v w' => v = .int .i64 (s.heldN f) ∧ w' = w := by
  obtain ⟨own, cb, hb, vs, m, c, hR, rfl⟩ := h
  obtain ⟨c0, c1, c2, c3⟩ := hR.cell
  refine e_remote_Mail_Held rfl ?_
  refine w_rs (s_end rfl (n_all ?_))
  refine w_rs (s_end rfl (n_all ?_))
  by_cases hf : 0 ≤ f ∧ f < s.n
  · obtain ⟨fn, rfl⟩ := Int.eq_ofNat_of_zero_le hf.1
    have hfn : fn < s.n := by omega
    have h64 := hsm.1
    refine w_seq (w_rs (s_call rfl rfl rfl (in_yes c0 hf.1 hf.2) ?_))
    rintro v w' ⟨rfl, rfl⟩
    refine ⟨trivial, s_end rfl (n_all ?_)⟩
    refine w_false rfl (w_skip (n_pick [0, 1, 5] rfl ?_))
    refine w_seq (w_rs (s_ld rfl rfl rfl c0 (s_end rfl ?_)))
    refine w_range (fun k l0 w'' => k ≤ s.n ∧ w'' = w' ∧ l0 = [(0, .pointer (some ⟨p, 0, none⟩)), (1, .int .i64 fn), (5, .int .i64 (s.heldTo fn k))]) (by omega) rfl rfl rfl rfl rfl rfl rfl (Sub.cons rfl (Sub.cons rfl (Sub.cons rfl (Sub.nil _)))) ⟨Nat.zero_le _, rfl, rfl⟩ (fun k l0 w hJ => by rw [hJ.2.2]; rfl) ?_ ?_
    · rintro k l0 w'' hk ⟨hkn, rfl, rfl⟩
      obtain ⟨F, hS, _⟩ := hR.entAt ((fn : Int), (k : Int))
      refine w_seq (w_reg (s_end rfl (n_all ?_)))
      refine w_reg (s_ld rfl rfl rfl c3 (s_raw rfl rfl (lookup_Y (k := ((fn : Int), (k : Int))) Try.underlying45 way_law zero_ints rfl rfl hR.map rfl) ?_))
      generalize ((mfind m ((fn : Int), (k : Int))).map (·.2.1)).getD (.slice none 0 0) = lv at hS
      obtain ⟨a, cc, rfl⟩ := hS.form
      have hb1 := heldTo_le hsm hfn (k + 1) (by omega)
      simp only [Mail.heldTo] at hb1
      refine s_add (c := ((s.heldTo fn (k + 1) : Nat) : Int)) rfl rfl rfl rfl (by simp [Mail.heldTo]) (by omega) (by simp only [Mail.heldTo]; omega) (s_end rfl ?_)
      exact ⟨rfl, rfl, _, Sub.cons rfl (Sub.cons rfl (Sub.cons rfl (Sub.nil _))), by omega, rfl, rfl⟩
    · rintro k l0 w'' hk ⟨hkn, rfl, rfl⟩
      have : k = s.n := by omega
      subst this
      refine n_all (w_rs (s_end rfl (n_all ?_)))
      exact w_ret (RQ.one (t := 4) rfl (.inl rfl) rfl ⟨by simp [Mail.heldN, hf], rfl⟩)
  · refine w_seq (w_rs (s_call rfl rfl rfl (in_no c0 hf) ?_))
    rintro v w' ⟨rfl, rfl⟩
    refine ⟨trivial, s_end rfl (n_all ?_)⟩
    refine w_true rfl (w_rs (s_end rfl (n_all ?_)))
    exact w_ret (RQ.one (t := 4) rfl (.inl rfl) rfl ⟨by simp [Mail.heldN, hf], rfl⟩)
theorem Post_no {w : World} {p : Nat} {s : Mail} {G : Nat → Prop} (h : MailIs w p s G) (f t a : Int) (hno : ¬ ((0 ≤ f ∧ f < s.n) ∧ (0 ≤ t ∧ t < s.n) ∧ f ≠ t)) :
    Does Try.prog 8 #[.pointer (some ⟨p, 0, none⟩), .int .i64 f, .int .i64 t, .int .i64 a] w fun v w' => v = .int .i64 1 ∧ w' = w := by
  obtain ⟨own, cb, hb, vs, m, c, hR, rfl⟩ := h
  obtain ⟨c0, c1, c2, c3⟩ := hR.cell
  refine e_remote_Mail_Post rfl ?_
  refine w_rs (s_end rfl (n_all ?_))
  refine w_seq (w_block (w_rs (s_end rfl (n_all ?_))))
  refine w_false rfl ?_
  by_cases hf : 0 ≤ f ∧ f < s.n
  · refine w_rs (s_call rfl rfl rfl (in_yes c0 hf.1 hf.2) ?_)
    rintro v w' ⟨rfl, rfl⟩
    refine ⟨trivial, ?_⟩
    by_cases ht : 0 ≤ t ∧ t < s.n
    · refine s_call rfl rfl rfl (in_yes c0 ht.1 ht.2) ?_
      rintro v w'' ⟨rfl, rfl⟩
      have hft : f = t := Classical.byContradiction fun e => hno ⟨hf, ht, e⟩
      refine ⟨trivial, s_end rfl (n_all ?_)⟩
      refine w_if rfl (fun _ => ?_) (fun e => by simp [hft] at e)
      refine w_rs (s_end rfl (n_all ?_))
      exact w_ret (RQ.one (t := 8) rfl (.inl rfl) rfl ⟨rfl, rfl⟩)
    · refine s_call rfl rfl rfl (in_no c0 ht) ?_
      rintro v w'' ⟨rfl, rfl⟩
      refine ⟨trivial, s_end rfl (n_all ?_)⟩
      refine w_true rfl (w_rs (s_end rfl (n_all ?_)))
      exact w_ret (RQ.one (t := 8) rfl (.inl rfl) rfl ⟨rfl, rfl⟩)
  · refine w_rs (s_call rfl rfl rfl (in_no c0 hf) ?_)
    rintro v w' ⟨rfl, rfl⟩
    refine ⟨trivial, s_end rfl (n_all ?_)⟩
    refine w_true rfl (w_rs (s_end rfl (n_all ?_)))
    exact w_ret (RQ.one (t := 8) rfl (.inl rfl) rfl ⟨rfl, rfl⟩)

theorem Post_ok {w : World} {p : Nat} {s : Mail} {G : Nat → Prop} (h : MailIs w p s G) (hsm : s.Small) (f t a : Int) (hf : 0 ≤ f ∧ f < s.n) (ht : 0 ≤ t ∧ t < s.n) (hft : f ≠ t) :
    Does Try.prog 8 #[.pointer (some ⟨p, 0, none⟩), .int .i64 f, .int .i64 t, .int .i64 a] w fun v w' => v = .int .i64 0 ∧ ∃ G', MailIs w' p (s.post f t a) G' ∧ Grow G G' w w' := by
  obtain ⟨own, cb, hb, vs, m, c, hR, rfl⟩ := h
  obtain ⟨c0, c1, c2, c3⟩ := hR.cell
  obtain ⟨fn, rfl⟩ := Int.eq_ofNat_of_zero_le hf.1
  obtain ⟨tn, rfl⟩ := Int.eq_ofNat_of_zero_le ht.1
  have hlen := hsm.2 fn tn (by omega) (by omega)
  refine e_remote_Mail_Post rfl ?_
  refine w_rs (s_end rfl (n_all ?_))
  refine w_seq (w_block (w_rs (s_end rfl (n_all ?_))))
  refine w_false rfl ?_
  refine w_rs (s_call rfl rfl rfl (in_yes c0 hf.1 hf.2) ?_)
  rintro v w' ⟨rfl, hw⟩
  subst hw
  refine ⟨trivial, s_call rfl rfl rfl (in_yes c0 ht.1 ht.2) ?_⟩
  rintro v w'' ⟨rfl, hw⟩
  subst hw
  refine ⟨trivial, s_end rfl (n_all ?_)⟩
  refine w_if rfl (fun e => absurd (by simpa using e) hft) (fun _ => ?_)
  refine w_skip (n_pick [0, 1, 2, 3] rfl ?_)
  -- the way
  refine w_rs (s_new rfl rfl trivial ?_)
  have hf1 := Fr.alloc (fun _ => False) w'' (.cells ([.int .i64 0, .int .i64 0] : List Value).toArray 50)
  have hB1 := Blk.new w'' [.int .i64 0, .int .i64 0] 50
  generalize w''.alloc (.cells ([.int .i64 0, .int .i64 0] : List Value).toArray 50) = w1 at hf1 hB1
  refine s_stn (vs := [.int .i64 fn, .int .i64 tn]) rfl rfl rfl rfl rfl (by intro u hu; simp at hu; rcases hu with rfl | rfl <;> rfl) (fun i hi => by rw [add_none]; exact ⟨hB1.some (by simpa using hi), hB1.frozen _⟩) trivial ?_
  have hf2 := putCells_fr (p := ⟨w''.heap.size, 0, none⟩) [.int .i64 fn, .int .i64 tn] 0 w1
  have hB2 := putCells_blk (o := 0) [.int .i64 fn, .int .i64 tn] 0 w1 _ hB1 (by simp)
  generalize putCells w1 ⟨w''.heap.size, 0, none⟩ 0 [.int .i64 fn, .int .i64 tn] = w2 at hf2 hB2
  have hB2 : Blk w2 w''.heap.size [.int .i64 fn, .int .i64 tn] := hB2
  have hnew : own w''.heap.size = none := by
    cases hq : own w''.heap.size with
    | none => rfl
    | some x => have := hR.small w''.heap.size (by rw [hq]; simp); omega
  have hf12 : Fr (fun _ => False) w'' w2 := hf1.trans hf2 fun b hb e => by have e' : b = w''.heap.size := e; omega
  have hR2 := hR.fr hf12 fun _ _ hg => hg
  have hs2 : w''.heap.size < w2.heap.size := hB2.lt
  refine s_end rfl (n_pick [0, 3, 9] rfl ?_)
  clear c0 c1 c2 c3
  obtain ⟨c0, c1, c2, c3⟩ := hR2.cell
  -- one more is held
  refine w_rs (s_ld rfl rfl rfl c3 (s_ldn (vs := [.int .i64 fn, .int .i64 tn]) rfl rfl rfl rfl hB2.pair ?_))
  refine s_bs1 rfl rfl rfl rfl ?_ ?_
  · have hf := Fr.alloc (fun _ => False) w2 (.cells (Value.int .i64 a).cells 3)
    exact ⟨ldn_keep rfl fun i _ => by rw [add_none]; exact hf.cell hB2.lt (fun x => x), ld_keep rfl (hf.cell hR2.blk.lt fun x => x), trivial⟩
  have hf3 := Fr.alloc (fun _ => False) w2 (.cells (Value.int .i64 a).cells 3)
  have hB3 : Blk (w2.alloc (.cells (Value.int .i64 a).cells 3)) w2.heap.size [.int .i64 a] := Blk.new w2 [.int .i64 a] _
  generalize w2.alloc (.cells (Value.int .i64 a).cells 3) = w3 at hf3 hB3
  have hR3 := hR2.fr hf3 fun _ _ hg => hg
  refine s_rawE rfl rfl (mapEntry_W (k := ((fn : Int), (tn : Int))) Try.underlying45 way_law zero_ints rfl rfl hR3.map (fun w4 hM4 hf4 hz4 => ⟨trivial, ?_⟩))
  obtain ⟨Fe, hSe, hFe⟩ := hR3.entAt ((fn : Int), (tn : Int))
  rw [← ment_val (c := c)] at hSe
  have hwf := hR3.wf.ent (k := ((fn : Int), (tn : Int))) (.slice none 0 0)
  have nhb : ∀ b ∈ Fe, b ≠ hb := fun b hb' e => by have := hFe b hb'; rw [e, hR.oh] at this; cases this
  have hSe4 := hSe.fr hf4 nhb
  have hhb : hb < w''.heap.size := hR.small hb (by rw [hR.oh]; simp)
  have hB4 : Blk w4 w2.heap.size [.int .i64 a] := hf4.blk hB3 (by intro e; have : w2.heap.size = hb := e; omega)
  have hsrc : Rd w4 1 (.slice (some ⟨w2.heap.size, 0, none⟩) 1 1) 1 (ints [a]) := ⟨rfl, ints_one _, .inr ⟨_, 0, 1, _, rfl, hB4, by simp, rfl⟩⟩
  refine s_rawE rfl rfl (append_W ints_elem ⟨_, Try.underlying30⟩ rfl rfl hSe4 hsrc (by omega) (by omega) (fun v' w5 F' hS5 hf5 hF' => ⟨trivial, ?_⟩))
  obtain ⟨i, hi⟩ := List.getElem?_of_mem hwf.2.1
  have hM5 := hM4.fr hf5 (fun e => nhb hb e rfl)
  refine s_rawE rfl rfl (entryStore_W rfl rfl rfl hM5 hwf.1 hi (fun w6 hM6 hf6 hz6 => ⟨trivial, ?_⟩))
  rw [hwf.2.2] at hM6
  have hsz3 : w2.heap.size ≤ w3.heap.size := hf3.size
  have hS6 : Sl w6 1 v' (s.held ((fn : Int), (tn : Int)) ++ [a]).length (ints (s.held ((fn : Int), (tn : Int)) ++ [a])) F' := by
    have := hS5.fr hf6 (fun b hb' e => by
      have e' : b = hb := e
      rcases hF' b hb' with h1 | h1
      · exact nhb b h1 e'
      · omega)
    rw [ints_append, List.length_append]; exact this
  have hf36 : Fr (fun b => b = hb ∨ b ∈ Fe) w3 w6 := ((hf4.mono fun b _ h => .inl h).trans hf5 fun b _ h => .inr h).trans hf6 fun b _ h => .inl h
  have hR6 := hR3.setEnt hf36 hM6 hS6 hFe (fun b hb' => (hF' b hb').imp id fun h1 => by omega)
  have hG6 : Grow (fun b => own b ≠ none) (fun b => (if b ∈ F' then some (4, (fn : Int), (tn : Int)) else own b) ≠ none) w'' w6 := by
    refine ⟨((hf12.mono (G := fun b => own b ≠ none) fun _ _ hx => hx.elim).trans hf3 fun b _ hx => hx.elim).trans hf36 fun b _ hx => ?_, fun b hb' => ?_⟩
    · rcases hx with e | e
      · rw [e, hR.oh]; simp
      · rw [hFe b e]; simp
    · by_cases e : b ∈ F'
      · rcases hF' b e with h1 | h1
        · left; rw [hFe b h1]; simp
        · right; omega
      · left; rwa [if_neg e] at hb'
  have hR6' : MailR w6 p (s.put fn tn a) (fun b => if b ∈ F' then some (4, (fn : Int), (tn : Int)) else own b) cb hb vs _ _ := hR6
  clear hR6
  have hnew6 : w''.heap.size ∉ F' := fun e => by
    rcases hF' _ e with h1 | h1
    · have := hFe _ h1; rw [hnew] at this; cases this
    · omega
  have hB6 : Blk w6 w''.heap.size [.int .i64 fn, .int .i64 tn] := by
    refine hf36.blk (hf3.blk hB2 fun x => x) fun e => ?_
    rcases e with e | e
    · omega
    · have := hFe _ e; rw [hnew] at this; cases this
  refine s_end rfl (n_pick [0, 9] rfl ?_)
  clear c0 c1 c2 c3
  obtain ⟨c0, c1, c2, c3⟩ := hR6'.cell
  obtain ⟨Fk, hSk, _⟩ := hR6'.entAt ((fn : Int), (tn : Int))
  refine w_seq (w_seq (w_reg (s_ld rfl rfl rfl c3 (s_ldn (vs := [.int .i64 fn, .int .i64 tn]) rfl rfl rfl rfl hB6.pair (s_raw rfl rfl (lookup_Y (k := ((fn : Int), (tn : Int))) Try.underlying45 way_law zero_ints rfl rfl hR6'.map rfl) ?_)))))
  generalize ((mfind _ ((fn : Int), (tn : Int))).map (·.2.1)).getD (.slice none 0 0) = lv at hSk
  obtain ⟨la, lc, rfl⟩ := hSk.form
  refine s_ld rfl rfl rfl c1 (s_end rfl (n_all ?_))
  have hput : ((s.put fn tn a).held ((fn : Int), (tn : Int))).length = (s.held ((fn : Int), (tn : Int))).length + 1 := by
    simp [Mail.put, upd_same]
  refine w_if rfl (fun hge => ?_) (fun hlt => ?_)
  · have hge' : s.bt ≤ ((s.put fn tn a).held ((fn : Int), (tn : Int))).length := by
      have := of_decide_eq_true hge
      exact Int.ofNat_le.1 this
    have hrow : (s.put fn tn a).row tn = s.row tn := rfl
    refine w_reg (s_ldn (vs := [.int .i64 fn, .int .i64 tn]) rfl rfl rfl rfl hB6.pair (s_call rfl rfl rfl (pass_ok hR6' ht.1 ht.2 (by rw [Int.toNat_natCast, hrow, hput]; omega)) ?_))
    rintro v w7 ⟨rfl, G', hI, hG⟩
    refine ⟨trivial, s_end rfl (n_all (w_rs (s_end rfl (n_all ?_))))⟩
    refine w_ret (RQ.one (t := 8) rfl (.inl rfl) rfl ⟨rfl, G', ?_, hG6.trans hG⟩)
    unfold Mail.post
    rw [if_pos hge']; exact hI
  · have hlt' : ¬ s.bt ≤ ((s.put fn tn a).held ((fn : Int), (tn : Int))).length := by
      have := of_decide_eq_false hlt
      exact fun h => this (Int.ofNat_le.2 h)
    refine w_skip (n_all (w_rs (s_end rfl (n_all ?_))))
    refine w_ret (RQ.one (t := 8) rfl (.inl rfl) rfl ⟨rfl, _, ?_, hG6⟩)
    unfold Mail.post
    rw [if_neg hlt']; exact ⟨_, cb, hb, vs, _, _, hR6', rfl⟩

theorem Next_none {w : World} {p : Nat} {s : Mail} {G : Nat → Prop} (h : MailIs w p s G) (t : Int) (hz : s.waits t = 0) :
    Does Try.prog 10 #[.pointer (some ⟨p, 0, none⟩), .int .i64 t] w fun v w' => v = .tuple #[.int .i64 0, .bool false] ∧ w' = w := by
  refine e_remote_Mail_Next rfl ?_
  refine w_rs (s_end rfl (n_all ?_))
  refine w_seq (w_rs (s_call rfl rfl rfl (Waits_ok h t) ?_))
  rintro v w' ⟨rfl, hw⟩
  subst hw
  rw [hz]
  refine ⟨trivial, s_end rfl (n_all ?_)⟩
  refine w_if rfl (fun _ => ?_) (fun e => by simp at e)
  refine w_rs (s_end rfl (n_all ?_))
  exact w_ret (RQ.two (t := 4) (u := 5) rfl (.inl rfl) rfl rfl ⟨rfl, rfl⟩)

theorem Next_ok {w : World} {p : Nat} {s : Mail} {G : Nat → Prop} (h : MailIs w p s G) (t : Int) {x : Int} {r : List Int} (ht : 0 ≤ t ∧ t < s.n) (hx : s.row t.toNat = x :: r) :
    Does Try.prog 10 #[.pointer (some ⟨p, 0, none⟩), .int .i64 t] w fun v w' => v = .tuple #[.int .i64 x, .bool true] ∧ ∃ G', MailIs w' p (s.next t) G' ∧ Grow G G' w w' := by
  obtain ⟨tn, rfl⟩ := Int.eq_ofNat_of_zero_le ht.1
  have htn : tn < s.n := by omega
  simp only [Int.toNat_natCast] at hx
  have hw1 : s.waits (tn : Int) = r.length + 1 := by simp [Mail.waits, htn, hx]
  refine e_remote_Mail_Next rfl ?_
  refine w_rs (s_end rfl (n_all ?_))
  refine w_seq (w_rs (s_call rfl rfl rfl (Waits_ok h (tn : Int)) ?_))
  rintro v w' ⟨rfl, hw⟩
  subst hw
  refine ⟨trivial, s_end rfl (n_all ?_)⟩
  refine w_if rfl (fun e => by rw [hw1] at e; simp at e; omega) (fun _ => ?_)
  refine w_skip (n_pick [0, 1] rfl ?_)
  obtain ⟨own, cb, hb, vs, m, c, hR, rfl⟩ := h
  obtain ⟨c0, c1, c2, c3⟩ := hR.cell
  obtain ⟨v, F, hv, hvc, hS, hF⟩ := hR.rowAt htn
  have hS0 := hS
  rw [hx] at hS
  rcases hS.2.2 with ⟨_, h0, _⟩ | ⟨b, o, cc, cs, rfl, rfl, hB, hlen, hn, hcells⟩
  · simp at h0
  have hcell0 : w'.cell? ⟨b, o, none⟩ = some (.int .i64 x) := by
    rw [hB.cellEq]
    have := congrArg (fun l => l[0]?) hcells
    simpa [ints, List.getElem?_take] using this
  refine w_rs (s_ld rfl rfl rfl c2 (s_idx rfl rfl rfl rfl (by omega) (by omega) (s_ld rfl rfl rfl (by simpa using hvc) (s_idx rfl rfl rfl rfl (by omega) (by simp) (s_ld rfl rfl rfl (by simpa using hcell0) (s_end rfl (n_pick [0, 1, 6] rfl ?_)))))))
  simp only [List.length_cons] at hn hlen
  have hcc : 1 ≤ cc := by omega
  -- what is left of the row
  let v' : Value := .slice (if cc = 1 then some ⟨b, o, none⟩ else (some (⟨b, o, none⟩ : Addr)).map (·.add (1 * 1))) ((r.length + 1) - 1) (cc - 1)
  have hS' : Sl w' 1 v' r.length (ints r) [b] := by
    refine ⟨by simp [ints_length], ints_one r, ?_⟩
    by_cases e : cc = 1
    · refine .inr ⟨b, o, cc - 1, cs, ?_, rfl, hB, by omega, by omega, ?_⟩
      · show Value.slice (if cc = 1 then _ else _) _ _ = _
        rw [if_pos e]; simp
      · have : r = [] := by cases r with
          | nil => rfl
          | cons y r' => simp at hn; omega
        subst this; simp [ints]
    · refine .inr ⟨b, o + 1, cc - 1, cs, ?_, rfl, hB, by omega, by omega, ?_⟩
      · show Value.slice (if cc = 1 then _ else _) _ _ = _
        rw [if_neg e]
        simp [add_none]
      · have := congrArg List.tail hcells
        simp only [ints, List.map_cons, List.tail_cons, List.length_cons, Nat.mul_one] at this ⊢
        rw [← this]
        rw [← List.drop_one, List.drop_take, List.drop_drop]
        rfl
  refine w_rs (s_ld rfl rfl rfl c2 (s_ld rfl rfl rfl c2 (s_idx rfl rfl rfl rfl (by omega) (by omega) (s_ld rfl rfl rfl (by simpa using hvc) (s_slc (v := v') (lo' := 1) (hi' := r.length + 1) rfl rfl rfl ⟨.i64, 1, rfl, by omega, rfl⟩ rfl (by omega) (by omega) rfl ?_)))))
  have htv : tn < vs.length := by rw [hR.vlen]; exact htn
  refine s_idx rfl rfl rfl rfl (by omega) (by omega) (s_st rfl rfl rfl rfl hS'.one (hR.cblk.some (by simpa using htv)) (hR.cblk.frozen _) trivial (s_end rfl (n_pick [6] rfl ?_)))
  refine w_rs (s_end rfl (n_all ?_))
  have e1 : (⟨cb, 0 + (Int.toNat (tn : Int)) * 1, none⟩ : Addr) = ⟨cb, tn, none⟩ := by simp
  rw [e1]
  have hfin := hR.setRow htn hS' (Fr.refl (· ∈ [b]) w') hF (fun b hb => .inl hb)
  refine w_ret (RQ.two (t := 4) (u := 5) rfl (.inl rfl) rfl rfl ⟨rfl, fun b' => (if b' ∈ [b] then some (3, (tn : Int), 0) else own b') ≠ none, ?_, ?_, ?_⟩)
  · have e2 : s.next (tn : Int) = { s with come := s.come.set tn r } := by simp [Mail.next, hx]
    rw [e2]; exact ⟨_, cb, hb, _, _, c, hfin, rfl⟩
  · exact (Fr.setCell w' ⟨cb, tn, none⟩ v').mono fun b' _ e => by rw [show b' = cb from e, hR.oc]; simp
  · intro b' hb'
    by_cases e : b' ∈ [b]
    · left; rw [hF b' e]; simp
    · left; rwa [if_neg e] at hb'
theorem Send_no {w : World} {p : Nat} {s : Mail} {G : Nat → Prop} (h : MailIs w p s G) (f : Int) (hf : ¬ (0 ≤ f ∧ f < s.n)) : Does Try.prog 9 #[.pointer (some ⟨p, 0, none⟩), .int .i64 f] w fun v w' => v = .int .i64 0 ∧ w' = w := by
  obtain ⟨own, cb, hb, vs, m, c, hR, rfl⟩ := h
  obtain ⟨c0, c1, c2, c3⟩ := hR.cell
  refine e_remote_Mail_Send rfl ?_
  refine w_rs (s_end rfl (n_all ?_))
  refine w_rs (s_end rfl (n_all ?_))
  refine w_seq (w_rs (s_call rfl rfl rfl (in_no c0 hf) ?_))
  rintro v w' ⟨rfl, rfl⟩
  refine ⟨trivial, s_end rfl (n_all ?_)⟩
  refine w_true rfl (w_rs (s_end rfl (n_all ?_)))
  exact w_ret (RQ.one (t := 4) rfl (.inl rfl) rfl ⟨rfl, rfl⟩)

theorem Send_ok {w : World} {p : Nat} {s : Mail} {G : Nat → Prop} (h : MailIs w p s G) (hsm : s.Small) (f : Int) (hf : 0 ≤ f ∧ f < s.n) : Does Try.prog 9 #[.pointer (some ⟨p, 0, none⟩), .int .i64 f] w fun v w' =>
    v = .int .i64 (s.heldTo f s.n) ∧ ∃ G', MailIs w' p (s.sendTo f s.n) G' ∧ Grow G G' w w' := by
  obtain ⟨fn, rfl⟩ := Int.eq_ofNat_of_zero_le hf.1
  have hfn : fn < s.n := by omega
  have h64 := hsm.1
  have hclen : s.come.length = s.n := by obtain ⟨own, cb, hb, vs, m, c, hR, rfl⟩ := h; exact hR.clen
  have hc0 : w.cell? ⟨p, 0, none⟩ = some (.int .i64 s.n) := by obtain ⟨own, cb, hb, vs, m, c, hR, rfl⟩ := h; exact hR.cell.1
  refine e_remote_Mail_Send rfl ?_
  refine w_rs (s_end rfl (n_all ?_))
  refine w_rs (s_end rfl (n_all ?_))
  refine w_seq (w_rs (s_call rfl rfl rfl (in_yes hc0 hf.1 hf.2) ?_))
  rintro v w' ⟨rfl, hw⟩
  subst hw
  refine ⟨trivial, s_end rfl (n_all ?_)⟩
  refine w_false rfl (w_skip (n_pick [0, 1, 5] rfl ?_))
  refine w_seq (w_rs (s_ld rfl rfl rfl hc0 (s_end rfl ?_)))
  refine w_range (fun k l0 w'' => k ≤ s.n ∧ (∃ G', MailIs w'' p (s.sendTo fn k) G' ∧ Grow G G' w' w'') ∧ l0 = [(0, .pointer (some ⟨p, 0, none⟩)), (1, .int .i64 fn), (5, .int .i64 (s.heldTo fn k))]) (by omega) rfl rfl rfl rfl rfl rfl rfl (Sub.cons rfl (Sub.cons rfl (Sub.cons rfl (Sub.nil _)))) ⟨Nat.zero_le _, ⟨G, h, Grow.refl _ _⟩, rfl⟩ (fun k l0 w hJ => by rw [hJ.2.2]; rfl) ?_ ?_
  · rintro k l0 w'' hk ⟨hkn, ⟨G', hI, hG⟩, rfl⟩
    obtain ⟨own, cb, hb, vs, m, c, hR, rfl⟩ := hI
    have hkn' : k < s.n := by omega
    have hs1 := sendTo_n s fn k
    have hrow : (s.sendTo fn k).row k = s.row k := by rw [sendTo_row s fn k k (by omega), if_neg (by omega)]
    have hheld : (s.sendTo fn k).held ((fn : Int), (k : Int)) = s.held ((fn : Int), (k : Int)) := by rw [sendTo_held, if_neg (by simp)]
    have hb1 := heldTo_le hsm hfn (k + 1) (by omega)
    have hb2 := hsm.2 fn k hfn hkn'
    simp only [Mail.heldTo] at hb1
    refine w_seq (w_reg (s_end rfl (n_all ?_)))
    refine w_reg (s_call rfl rfl rfl (pass_ok hR (f := fn) (t := k) (by omega) (by rw [hs1.1]; omega) (by rw [Int.toNat_natCast, hrow, hheld]; omega)) ?_)
    rintro v w3 ⟨rfl, G3, hI3, hG3⟩
    rw [hheld]
    refine ⟨trivial, s_add (c := ((s.heldTo fn (k + 1) : Nat) : Int)) rfl rfl rfl rfl (by simp [Mail.heldTo]) (by omega) (by simp only [Mail.heldTo]; omega) (s_end rfl ?_)⟩
    exact ⟨rfl, rfl, _, Sub.cons rfl (Sub.cons rfl (Sub.cons rfl (Sub.nil _))), by omega, ⟨G3, hI3, hG.trans hG3⟩, rfl⟩
  · rintro k l0 w'' hk ⟨hkn, hI, rfl⟩
    have : k = s.n := by omega
    subst this
    refine n_all (w_rs (s_end rfl (n_all ?_)))
    exact w_ret (RQ.one (t := 4) rfl (.inl rfl) rfl ⟨rfl, hI⟩)
theorem New_ok (w : World) (threads batch : Int) : Does Try.prog 7 #[.int .i64 threads, .int .i64 batch] w fun v w' =>
    ∃ p G, v = .pointer (some ⟨p, 0, none⟩) ∧ MailIs w' p (Mail.new threads batch) G ∧ Fr (fun _ => False) w w' ∧ ∀ b, G b → w.heap.size ≤ b := by
  obtain ⟨n, hn⟩ : ∃ n : Nat, min (max threads 0) 64 = n := ⟨_, (Int.toNat_of_nonneg (by omega)).symm⟩
  obtain ⟨bt, hbt⟩ : ∃ n : Nat, min (max batch 1) 64 = n := ⟨_, (Int.toNat_of_nonneg (by omega)).symm⟩
  have hs : Mail.new threads batch = { n := n, bt := bt, come := List.replicate n [], held := fun _ => [] } := by
    simp [Mail.new, hn, hbt]
  rw [hs]
  refine e_remote_New rfl ?_
  refine w_rs (s_end rfl (n_all ?_))
  refine w_rs (s_end rfl (n_pick [0, 1] rfl ?_))
  rw [show imm false (imm true threads 0) 64 = (n : Int) from hn]
  refine w_rs ?_
  refine s_rawE rfl rfl (makeSlice_W (z := .slice none 0 0) (sz := 1) (bytes := 24) Try.underlying44 ⟨_, rfl, by kernel_rfl, by kernel_rfl, by kernel_rfl⟩ rfl rfl rfl (by omega) (by omega) rfl rfl (fun w1 v1 hS1 hf1 hz1 hv1 hB1 => ⟨trivial, ?_⟩))
  subst hv1
  refine s_rawE rfl rfl (makeMap_W pairV (fun w2 hM2 hf2 hz2 => ⟨trivial, ?_⟩))
  refine s_box rfl rfl rfl trivial ?_
  rw [show imm false (imm true batch 1) 64 = (bt : Int) from hbt]
  have hB2 := hf2.blk hB1 (fun x => x)
  generalize hw3 : w2.alloc (.cells (Value.agg #[.int .i64 n, .int .i64 bt, .slice (some ⟨w.heap.size, 0, none⟩) n n, .map (some w1.heap.size)]).cells 47) = w3
  have hf3 : Fr (fun _ => False) w2 w3 := by rw [← hw3]; exact Fr.alloc _ w2 _
  have hB3 : Blk w3 w2.heap.size [.int .i64 n, .int .i64 bt, .slice (some ⟨w.heap.size, 0, none⟩) n n, .map (some w1.heap.size)] := by rw [← hw3]; exact Blk.new w2 _ _
  refine s_end rfl (n_all ?_)
  refine w_ret (RQ.one (t := 4) rfl (.inl rfl) rfl ⟨w2.heap.size, fun b => (if b = w.heap.size then some ((1, 0, 0) : Nat × Int × Int) else if b = w1.heap.size then some (2, 0, 0) else if b = w2.heap.size then some (0, 0, 0) else none) ≠ none, rfl, ⟨fun b => if b = w.heap.size then some ((1, 0, 0) : Nat × Int × Int) else if b = w1.heap.size then some (2, 0, 0) else if b = w2.heap.size then some (0, 0, 0) else none, w.heap.size, w1.heap.size, List.replicate n (.slice none 0 0), [], 0, ?_, rfl⟩, ?_, ?_⟩)
  · refine ⟨fun b hb => ?_, ?_, ?_, ?_, hB3, hf3.blk hB2 (fun x => x), by simp, by simp, fun t v hv => ?_, hM2.fr hf3 (fun x => x), ⟨by simp, by simp, fun x hx => (by cases hx)⟩, fun e he => (by cases he), fun _ _ => rfl⟩
    · have := hB3.lt
      by_cases h1 : b = w.heap.size
      · omega
      · rw [if_neg h1] at hb
        by_cases h2 : b = w1.heap.size
        · omega
        · rw [if_neg h2] at hb
          by_cases h3 : b = w2.heap.size
          · omega
          · rw [if_neg h3] at hb; exact absurd rfl hb
    · rw [if_neg (by omega), if_neg (by omega), if_pos rfl]
    · rw [if_pos rfl]
    · rw [if_neg (by omega), if_pos rfl]
    · have ht : t < n := by
        have := (List.getElem?_eq_some_iff.1 hv).1
        simpa using this
      have hv' : v = .slice none 0 0 := by
        rw [List.getElem?_replicate, if_pos ht] at hv
        cases hv; rfl
      subst hv'
      refine ⟨[], ?_, fun b hb => by cases hb⟩
      have hrow : Mail.row { n := n, bt := bt, come := List.replicate n [], held := fun _ => [] } t = [] := by simp [Mail.row, ht]
      rw [hrow]
      exact Sl.nil w3 1
  · exact (hf1.trans hf2 fun _ _ x => x).trans hf3 fun _ _ x => x
  · intro b hb
    by_cases h1 : b = w.heap.size
    · omega
    · rw [if_neg h1] at hb
      by_cases h2 : b = w1.heap.size
      · omega
      · rw [if_neg h2] at hb
        by_cases h3 : b = w2.heap.size
        · omega
        · rw [if_neg h3] at hb; exact absurd rfl hb

theorem All_ok {w : World} {p : Nat} {s : Mail} {G : Nat → Prop} (h : MailIs w p s G) (hsm : s.Small) : Does Try.prog 11 #[.pointer (some ⟨p, 0, none⟩)] w fun v w' =>
    ∃ F, Sl w' 1 v (s.allTo s.n).length (ints (s.allTo s.n)) F ∧ (∀ b ∈ F, w.heap.size ≤ b) ∧ Fr (fun _ => False) w w' := by
  obtain ⟨own, cb, hb, vs, m, c, hR, rfl⟩ := h
  have h64 := hsm.1
  refine e_remote_Mail_All rfl ?_
  refine w_rs (s_end rfl (n_all ?_))
  refine w_rs (s_end rfl (n_all ?_))
  refine w_seq (w_rs (s_end rfl (n_all ?_)))
  refine w_false rfl (w_skip (n_pick [0, 3] rfl ?_))
  refine w_seq (w_rs (s_ld rfl rfl rfl hR.cell.1 (s_end rfl ?_)))
  refine w_range (fun k l0 w1 => k ≤ s.n ∧ ∃ v F, Sl w1 1 v (s.allTo k).length (ints (s.allTo k)) F ∧ (∀ b ∈ F, w.heap.size ≤ b) ∧ Fr (fun _ => False) w w1 ∧ l0 = [(0, .pointer (some ⟨p, 0, none⟩)), (3, v)]) (by omega) rfl rfl rfl rfl rfl rfl rfl (Sub.cons rfl (Sub.cons rfl (Sub.nil _))) ⟨Nat.zero_le _, _, [], Sl.nil w 1, fun b hb => (by cases hb), Fr.refl _ _, rfl⟩ (fun k l0 w hJ => by obtain ⟨_, v, F, _, _, _, rfl⟩ := hJ; rfl) ?_ ?_
  · rintro k l0 w1 hk ⟨hkn, v, F, hS, hF, hf, rfl⟩
    have hkn' : k < s.n := by omega
    have hR1 := hR.fr hf fun _ _ x => x
    obtain ⟨c0, c1, c2, c3⟩ := hR1.cell
    obtain ⟨rv, RF, hrv, hrc, hRS, hRF⟩ := hR1.rowAt hkn'
    have hb1 := allTo_le hsm (k + 1) (by omega)
    simp only [Mail.allTo, List.length_append, heldAll_length] at hb1
    refine w_seq (w_reg (s_end rfl (n_all ?_)))
    refine w_rs (s_ld rfl rfl rfl c2 (s_idx rfl rfl rfl rfl (by omega) (by omega) (s_ld rfl rfl rfl (by simpa using hrc) ?_)))
    refine s_rawE rfl rfl (append_W ints_elem ⟨_, Try.underlying30⟩ rfl rfl hS hRS.rd (by omega) (by omega) (fun v2 w2 F2 hS2 hf2 hF2 => ⟨trivial, ?_⟩))
    refine s_end rfl (n_pick [0, 3, 4, 12, 13] rfl ?_)
    have hf02 : Fr (fun _ => False) w w2 := hf.trans hf2 fun b hb hx => by have := hF b hx; omega
    have hF2' : ∀ b ∈ F2, w.heap.size ≤ b := fun b hb => by
      rcases hF2 b hb with h1 | h1
      · exact hF b h1
      · exact Nat.le_trans hf.size h1
    have hR2 := hR.fr hf02 fun _ _ x => x
    refine w_rs (s_ld rfl rfl rfl hR2.cell.1 (s_end rfl ?_))
    refine w_range (fun j l0 w3 => j ≤ s.n ∧ ∃ v F, Sl w3 1 v (s.allTo k ++ s.row k ++ s.heldAll k j).length (ints (s.allTo k ++ s.row k ++ s.heldAll k j)) F ∧ (∀ b ∈ F, w.heap.size ≤ b) ∧ Fr (fun _ => False) w w3 ∧ l0 = [(0, .pointer (some ⟨p, 0, none⟩)), (3, v), (4, .int .i64 k), (12, .int .i64 s.n), (13, .int .i64 k)]) (by omega) rfl rfl rfl rfl rfl rfl rfl (Sub.cons rfl (Sub.cons rfl (Sub.cons rfl (Sub.cons rfl (Sub.cons rfl (Sub.nil _)))))) ⟨Nat.zero_le _, _, F2, by rw [Mail.heldAll, List.append_nil, ints_append, List.length_append]; exact hS2, hF2', hf02, rfl⟩ (fun k l0 w hJ => by obtain ⟨_, v, F, _, _, _, rfl⟩ := hJ; rfl) ?_ ?_
    · rintro j l0 w3 hj ⟨hjn, v3, F3, hS3, hF3, hf3, rfl⟩
      have hR3 := hR.fr hf3 fun _ _ x => x
      obtain ⟨Fe, hSe, _⟩ := hR3.entAt ((k : Int), (j : Int))
      have hjb := heldTo_le hsm hkn' (j + 1) (by omega)
      have hab := allTo_le hsm k (by omega)
      have hrb := hsm.2 k k hkn' hkn'
      simp only [Mail.heldTo] at hjb
      refine w_seq (w_reg (s_end rfl (n_all ?_)))
      refine w_reg (s_ld rfl rfl rfl hR3.cell.2.2.2 (s_raw rfl rfl (lookup_Y (k := ((k : Int), (j : Int))) Try.underlying45 way_law zero_ints rfl rfl hR3.map rfl) ?_))
      generalize ((mfind m ((k : Int), (j : Int))).map (·.2.1)).getD (.slice none 0 0) = lv at hSe
      refine s_rawE rfl rfl (append_W ints_elem ⟨_, Try.underlying30⟩ rfl rfl hS3 hSe.rd (by simp only [List.length_append, heldAll_length]; omega) (by omega) (fun v4 w4 F4 hS4 hf4 hF4 => ⟨trivial, ?_⟩))
      refine s_end rfl ⟨rfl, rfl, _, Sub.cons rfl (Sub.cons rfl (Sub.cons rfl (Sub.cons rfl (Sub.cons rfl (Sub.nil _))))), by omega, v4, F4, ?_, fun b hb => ?_, hf3.trans hf4 fun b hb hx => by have := hF3 b hx; omega, rfl⟩
      · have e : s.allTo k ++ s.row k ++ s.heldAll k (j + 1) = (s.allTo k ++ s.row k ++ s.heldAll k j) ++ s.held ((k : Int), (j : Int)) := by simp [Mail.heldAll]
        rw [e, ints_append, List.length_append]; exact hS4
      · rcases hF4 b hb with h1 | h1
        · exact hF3 b h1
        · exact Nat.le_trans hf3.size h1
    · rintro j l0 w3 hj ⟨hjn, v3, F3, hS3, hF3, hf3, rfl⟩
      have : j = s.n := by omega
      subst this
      exact ⟨rfl, rfl, _, Sub.cons rfl (Sub.cons rfl (Sub.nil _)), by omega, v3, F3, hS3, hF3, hf3, rfl⟩
  · rintro k l0 w1 hk ⟨hkn, v, F, hS, hF, hf, rfl⟩
    have : k = s.n := by omega
    subst this
    refine n_all (w_rs (s_end rfl (n_all ?_)))
    exact w_ret (RQ.one (t := 2) rfl (.inl rfl) rfl ⟨F, hS, hF, hf⟩)
end Go.Proofs.Ytgfkadmpakgmeaa
