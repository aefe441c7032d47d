/-
  RemoteCounts: the law's call.
-/
import Derived.Test.YtgfkadmpakgmeaaRemoteNil
import Derived.Test.YtgfkadmpakgmeaaArgs
namespace Go.Proofs.Ytgfkadmpakgmeaa
open Go Go.Tum Go.Tum.Remote

/-- what is left when the calls are over -/
def CountsK (w : World) (p nn : Nat) (l1 : Env) (w1 : World) : Prop :=
  ∃ (s : Mail) (G : Nat → Prop) (po ta : Nat), MailIs w1 p s G ∧ s.Ok 60 ∧ s.n = nn ∧ s.tot + ta = po ∧ po ≤ 60 ∧ Fresh w w1 G ∧
    l1 = [(7, .int .i64 nn), (8, .pointer (some ⟨p, 0, none⟩)), (9, .int .i64 po), (10, .int .i64 ta)]

def CountsJ (w : World) (p nn : Nat) (v : Value) (k : Nat) (l1 : Env) (w1 : World) : Prop :=
  k ≤ 60 ∧ ∃ (s : Mail) (G : Nat → Prop) (po ta : Nat), MailIs w1 p s G ∧ s.Ok k ∧ s.n = nn ∧ s.tot + ta = po ∧ po ≤ k ∧ Fresh w w1 G ∧
    l1 = [(7, .int .i64 nn), (8, .pointer (some ⟨p, 0, none⟩)), (9, .int .i64 po), (10, .int .i64 ta), (23, v)]

theorem RemoteCounts_does (w : World) (th batch : Int) (h0 : 0 ≤ th) (h255 : th ≤ 255) {v : Value} {n : Nat} {get : Nat → List Value} (hr : ArgRows w [some .i64, some .i64, some .i64, some .i64] v n get) :
    Does Try.prog 4 #[.int .u8 th, .int .i64 batch, v] w fun v w' => v = .bool true ∧ Fr (fun _ => False) w w' := by
  obtain ⟨nn, hnn, hn5⟩ : ∃ nn : Nat, th.tmod 6 = nn ∧ nn ≤ 5 := ⟨(th.tmod 6).toNat, by
    have := Int.tmod_eq_emod_of_nonneg h0 (b := 6)
    rw [this]; omega, by
    have := Int.tmod_eq_emod_of_nonneg h0 (b := 6)
    rw [this]; omega⟩
  obtain ⟨op, hop⟩ := rows4 hr
  obtain ⟨va, vc, rfl⟩ := hr.form
  refine e_tumbrellaw12_RemoteCounts rfl ?_
  refine w_rs (s_end rfl (n_all ?_))
  refine w_rs (s_cvi (m := th) rfl rfl rfl (wrap64_id (by omega) (by omega)) (s_bin (v := .int .i64 nn) rfl rfl rfl rfl (by simp [ibin, hnn]) (s_end rfl (n_pick [1, 2, 7] rfl ?_))))
  refine w_rs (s_call rfl rfl rfl (New_ok w nn batch) ?_)
  rintro _ w1 ⟨p, G1, rfl, hI1, hf1, hG1⟩
  refine ⟨trivial, s_end rfl (n_pick [2, 7, 8] rfl ?_)⟩
  have hs1 : (Mail.new nn batch).n = nn := by simp only [Mail.new]; omega
  refine w_rs (s_end rfl (n_all ?_))
  refine w_cutK (CountsK w p nn) ?_ ?_
  · refine w_rs (s_end rfl ?_)
    refine w_range (CountsJ w p nn (.slice va n vc)) (by have := hr.1; omega) rfl rfl rfl rfl rfl rfl rfl (Sub.cons rfl (Sub.cons rfl (Sub.cons rfl (Sub.cons rfl (Sub.cons rfl (Sub.nil _))))))
      ⟨by omega, Mail.new nn batch, G1, 0, 0, hI1, new_ok _ _, hs1, by rw [new_tot], by omega, ⟨hf1, hG1⟩, rfl⟩ (fun k l0 w hJ => by obtain ⟨_, s, G, po, ta, _, _, _, _, _, _, rfl⟩ := hJ; rfl) ?_ ?_
    · rintro k l0 w2 hk ⟨hk60, s, G, po, ta, hI, hok, hsn, htot, hpo, hfr, rfl⟩
      have hkn : k < n := by omega
      obtain ⟨b, o, c, hv, hb, hcell⟩ := hr.at hkn
      cases hv
      rw [hop k hkn] at hcell
      generalize op k = opk at hcell
      obtain ⟨kd, f, t, a⟩ := opk
      simp only at hcell
      have hc : ∀ (j : Nat) (u : Value), [Value.int .i64 kd, .int .i64 f, .int .i64 t, .int .i64 a][j]? = some u → w2.cell? ⟨b, o + k * 4 + j, none⟩ = some u := fun j u hu => by
        rw [hfr.1.cell hb (fun x => x)]; exact hcell j u hu
      refine w_rs (s_idx rfl rfl rfl rfl (by omega) (by omega) (s_ldn (vs := [.int .i64 kd, .int .i64 f, .int .i64 t, .int .i64 a]) rfl rfl rfl rfl (fun i hi => ?_) (s_new rfl rfl trivial ?_)))
      · rw [add_none, Int.toNat_natCast]
        have : ∃ u, [Value.int .i64 kd, .int .i64 f, .int .i64 t, .int .i64 a][i]? = some u := ⟨_, List.getElem?_eq_getElem (by simpa using hi)⟩
        obtain ⟨u, hu⟩ := this
        rw [hu]; exact hc i u hu
      have hfa := Fr.alloc (fun _ => False) w2 (.cells ([.int .i64 0, .int .i64 0, .int .i64 0, .int .i64 0] : List Value).toArray 26)
      have hBa := Blk.new w2 [.int .i64 0, .int .i64 0, .int .i64 0, .int .i64 0] 26
      generalize w2.alloc (.cells ([.int .i64 0, .int .i64 0, .int .i64 0, .int .i64 0] : List Value).toArray 26) = w3 at hfa hBa
      refine s_stn (vs := [.int .i64 kd, .int .i64 f, .int .i64 t, .int .i64 a]) rfl rfl rfl rfl rfl (by intro u hu; simp at hu; rcases hu with rfl | rfl | rfl | rfl <;> rfl) (fun i hi => by rw [add_none]; exact ⟨hBa.some (by simpa using hi), hBa.frozen _⟩) trivial ?_
      have hfb := putCells_fr (p := ⟨w2.heap.size, 0, none⟩) [.int .i64 kd, .int .i64 f, .int .i64 t, .int .i64 a] 0 w3
      have hBb := putCells_blk (o := 0) [.int .i64 kd, .int .i64 f, .int .i64 t, .int .i64 a] 0 w3 _ hBa (by simp)
      generalize putCells w3 ⟨w2.heap.size, 0, none⟩ 0 [.int .i64 kd, .int .i64 f, .int .i64 t, .int .i64 a] = w4 at hfb hBb
      have hBb : Blk w4 w2.heap.size [.int .i64 kd, .int .i64 f, .int .i64 t, .int .i64 a] := hBb
      have hf24 : Fr (fun _ => False) w2 w4 := hfa.trans hfb fun b hb e => by have e' : b = w2.heap.size := e; omega
      have hI4 : MailIs w4 p s G := hI.fr hf24 fun _ x _ => x
      have hfr4 : Fresh w w4 G := ⟨hfr.1.trans hf24 fun _ _ x => x.elim, hfr.2⟩
      clear hfa hBa hfb hf24 hI hfr hc hcell
      refine s_end rfl (n_pick [7, 8, 9, 10, 11, 12, 23, 24, 25] rfl ?_)
      refine w_seq (w_rs (s_end rfl (n_all ?_)))
      refine w_if rfl (fun hge => ?_) (fun hlt => ?_)
      · -- enough
        have : 60 ≤ k := by have := of_decide_eq_true hge; omega
        refine w_exit ?_
        exact ⟨_, Sub.cons rfl (Sub.cons rfl (Sub.cons rfl (Sub.cons rfl (Sub.nil _)))), s, G, po, ta, hI4, hok.mono hk60, hsn, htot, by omega, hfr4, rfl⟩
      have hk60' : k < 60 := by have := of_decide_eq_false hlt; omega
      refine w_skip (n_pick [7, 8, 9, 10, 12, 23, 24, 25] rfl ?_)
      have hsm := hok.small (by omega)
      refine w_rs (s_ld rfl rfl rfl (hBb.cell rfl) (s_end rfl (n_pick [7, 8, 9, 10, 12, 23, 24, 25, 33] rfl ?_)))
      refine w_block ?_
      have hnx : ∀ (s' : Mail) (G' : Nat → Prop) (po' ta' : Nat) (w5 : World) (l' : Env), MailIs w5 p s' G' → s'.Ok (k + 1) → s'.n = nn → s'.tot + ta' = po' → po' ≤ k + 1 → Fresh w w5 G' →
          eget l' 25 = some (.int .i64 k) → eget l' 24 = some (.int .i64 n) → eget l' 7 = some (.int .i64 nn) → eget l' 8 = some (.pointer (some ⟨p, 0, none⟩)) → eget l' 9 = some (.int .i64 po') → eget l' 10 = some (.int .i64 ta') → eget l' 23 = some (.slice (some ⟨b, o, none⟩) n vc) →
          rangeQ 0 1 25 24 (n : Int) (thenQ (fun l' w' => ∃ l1, Tum.Sub l1 l' ∧ CountsK w p nn l1 w') (RQ Try.prog Try.f4 fun v w' => v = .bool true ∧ Fr (fun _ => False) w w')) (CountsJ w p nn (.slice (some ⟨b, o, none⟩) n vc)) k .normal l' w5 := by
        intro s' G' po' ta' w5 l' g1 g2 g3 g4 g5 g6 e1 e2 e3 e4 e5 e6 e7
        exact ⟨e1, e2, _, Sub.cons e3 (Sub.cons e4 (Sub.cons e5 (Sub.cons e6 (Sub.cons e7 (Sub.nil _))))), by omega, s', G', po', ta', g1, g2, g3, g4, g5, g6, rfl⟩
      by_cases hkd : kd = 0 ∨ kd = 1 ∨ kd = 2 ∨ kd = 3
      · refine w_cutK (fun l1 w5 => w5 = w4 ∧ l1 = [(44, .bool true), (25, .int .i64 k), (24, .int .i64 n), (23, .slice (some ⟨b, o, none⟩) n vc), (12, .pointer (some ⟨w2.heap.size, 0, none⟩)), (10, .int .i64 ta), (9, .int .i64 po), (8, .pointer (some ⟨p, 0, none⟩)), (7, .int .i64 nn)]) ?_ ?_
        · rcases hkd with rfl | rfl | rfl | rfl
          · exact w_rs (s_end rfl (n_all (w_true rfl (w_skip ⟨_, pickS_sub (ts := [7, 8, 9, 10, 12, 23, 24, 25, 44]) rfl (Sub.nil _), rfl, rfl⟩))))
          · exact w_rs (s_end rfl (n_all (w_false rfl (w_rs (s_end rfl (n_all (w_true rfl (w_skip ⟨_, pickS_sub (ts := [7, 8, 9, 10, 12, 23, 24, 25, 44]) rfl (Sub.nil _), rfl, rfl⟩))))))))
          · exact w_rs (s_end rfl (n_all (w_false rfl (w_rs (s_end rfl (n_all (w_false rfl (w_rs (s_end rfl (n_all (w_true rfl (w_skip ⟨_, pickS_sub (ts := [7, 8, 9, 10, 12, 23, 24, 25, 44]) rfl (Sub.nil _), rfl, rfl⟩))))))))))))
          · exact w_rs (s_end rfl (n_all (w_false rfl (w_rs (s_end rfl (n_all (w_false rfl (w_rs (s_end rfl (n_all (w_false rfl (w_reg (s_end rfl ⟨_, pickS_sub (ts := [7, 8, 9, 10, 12, 23, 24, 25, 44]) rfl (Sub.nil _), rfl, rfl⟩)))))))))))))
        · rintro l1 w5 ⟨rfl, rfl⟩
          refine w_true rfl (w_rs (s_ld rfl rfl rfl (hBb.cell rfl) (s_ld rfl rfl rfl (hBb.cell rfl) (s_ld rfl rfl rfl (hBb.cell rfl) ?_))))
          by_cases hval : (0 ≤ f ∧ f < s.n) ∧ (0 ≤ t ∧ t < s.n) ∧ f ≠ t
          · obtain ⟨fn, rfl⟩ := Int.eq_ofNat_of_zero_le hval.1.1
            obtain ⟨tn, rfl⟩ := Int.eq_ofNat_of_zero_le hval.2.1.1
            have hp := post_ok (a := a) hok (f := fn) (t := tn) (by omega) (by omega)
            refine s_call rfl rfl rfl (Post_ok hI4 hsm fn tn a hval.1 hval.2.1 hval.2.2) ?_
            rintro _ w6 ⟨rfl, G6, hI6, hG6⟩
            refine ⟨trivial, s_end rfl (n_all (w_true rfl (w_reg (s_add (c := ((po + 1 : Nat) : Int)) rfl rfl rfl rfl rfl (by omega) (by omega) (s_end rfl ?_)))))⟩
            exact hnx _ G6 (po + 1) ta w6 _ hI6 hp.1 (hp.2.2.trans hsn) (by omega) (by omega) (hfr4.grow hG6) rfl rfl rfl rfl rfl rfl rfl
          · refine s_call rfl rfl rfl (Post_no hI4 f t a hval) ?_
            rintro _ w6 ⟨rfl, hw⟩
            subst hw
            refine ⟨trivial, s_end rfl (n_all (w_false rfl (w_skip ?_)))⟩
            exact hnx s G po ta _ _ hI4 (hok.mono (by omega)) hsn htot (by omega) hfr4 rfl rfl rfl rfl rfl rfl rfl
      · have n0 : (kd == 0) = false := by simp; omega
        have n1 : (kd == 1) = false := by simp; omega
        have n2 : (kd == 2) = false := by simp; omega
        have n3 : (kd == 3) = false := by simp; omega
        refine w_cutK (fun l1 w5 => w5 = w4 ∧ l1 = [(44, .bool (kd == 3)), (33, .int .i64 kd), (25, .int .i64 k), (24, .int .i64 n), (23, .slice (some ⟨b, o, none⟩) n vc), (12, .pointer (some ⟨w2.heap.size, 0, none⟩)), (10, .int .i64 ta), (9, .int .i64 po), (8, .pointer (some ⟨p, 0, none⟩)), (7, .int .i64 nn)]) ?_ ?_
        · refine w_rs (s_end rfl (n_all (w_if rfl (fun e => by rw [n0] at e; cases e) (fun _ => w_rs (s_end rfl (n_all (w_if rfl (fun e => by rw [n1] at e; cases e) (fun _ => w_rs (s_end rfl (n_all (w_if rfl (fun e => by rw [n2] at e; cases e) (fun _ => w_reg (s_end rfl ?_)))))))))))))
          exact ⟨_, pickS_sub (ts := [7, 8, 9, 10, 12, 23, 24, 25, 33, 44]) rfl (Sub.nil _), rfl, rfl⟩
        · rintro l1 w5 ⟨rfl, rfl⟩
          refine w_if rfl (fun e => by rw [n3] at e; cases e) (fun _ => ?_)
          refine w_rs (s_end rfl (n_all (w_if rfl (fun h4 => ?_) (fun h4 => ?_))))
          · -- send
            refine w_reg (s_ld rfl rfl rfl (hBb.cell rfl) ?_)
            by_cases hval : 0 ≤ f ∧ f < s.n
            · obtain ⟨fn, rfl⟩ := Int.eq_ofNat_of_zero_le hval.1
              have hp := sendTo_ok hok (f := fn) (by omega) s.n (Nat.le_refl _)
              refine s_call rfl rfl rfl (Send_ok hI4 hsm fn hval) ?_
              rintro _ w6 ⟨rfl, G6, hI6, hG6⟩
              refine ⟨trivial, s_end rfl ?_⟩
              exact hnx _ G6 po ta w6 _ hI6 (hp.1.mono (by omega)) (hp.2.2.trans hsn) (by omega) (by omega) (hfr4.grow hG6) rfl rfl rfl rfl rfl rfl rfl
            · refine s_call rfl rfl rfl (Send_no hI4 f hval) ?_
              rintro _ w6 ⟨rfl, hw⟩
              subst hw
              refine ⟨trivial, s_end rfl ?_⟩
              exact hnx s G po ta _ _ hI4 (hok.mono (by omega)) hsn htot (by omega) hfr4 rfl rfl rfl rfl rfl rfl rfl
          · -- next
            refine w_seq (w_reg (s_ld rfl rfl rfl (hBb.cell rfl) ?_))
            by_cases hz : s.waits t = 0
            · refine s_call rfl rfl rfl (Next_none hI4 t hz) ?_
              rintro _ w6 ⟨rfl, hw⟩
              subst hw
              refine ⟨trivial, s_end rfl (n_all (w_rs (s_end rfl (n_all (w_false rfl (w_skip ?_))))))⟩
              exact hnx s G po ta _ _ hI4 (hok.mono (by omega)) hsn htot (by omega) hfr4 rfl rfl rfl rfl rfl rfl rfl
            · have ht : 0 ≤ t ∧ t < s.n := by
                unfold Mail.waits at hz
                exact Classical.byContradiction fun e => hz (by rw [if_neg e])
              obtain ⟨tn, rfl⟩ := Int.eq_ofNat_of_zero_le ht.1
              have hne : s.row tn ≠ [] := by
                intro e; apply hz; simp [Mail.waits, e]
              obtain ⟨x, r, hxr⟩ := List.exists_cons_of_ne_nil hne
              have hp := next_ok hok (t := tn) (by omega) hne
              refine s_call rfl rfl rfl (Next_ok hI4 (tn : Int) ht (by rw [Int.toNat_natCast]; exact hxr)) ?_
              rintro _ w6 ⟨rfl, G6, hI6, hG6⟩
              refine ⟨trivial, s_end rfl (n_all (w_rs (s_end rfl (n_all (w_true rfl (w_reg (s_add (c := ((ta + 1 : Nat) : Int)) rfl rfl rfl rfl rfl (by omega) (by omega) (s_end rfl ?_))))))))⟩
              exact hnx _ G6 po (ta + 1) w6 _ hI6 (hp.1.mono (by omega)) (hp.2.2.trans hsn) (by omega) (by omega) (hfr4.grow hG6) rfl rfl rfl rfl rfl rfl rfl
    · rintro k l0 w2 hk ⟨hk60, s, G, po, ta, hI, hok, hsn, htot, hpo, hfr, rfl⟩
      exact ⟨_, Sub.cons rfl (Sub.cons rfl (Sub.cons rfl (Sub.cons rfl (Sub.nil _)))), s, G, po, ta, hI, hok.mono hk60, hsn, htot, by omega, hfr, rfl⟩
  · rintro l1 w2 ⟨s, G, po, ta, hI, hok, hsn, htot, hpo, hfr, rfl⟩
    have hsm := hok.small (by omega)
    have hall : (s.allTo s.n).length = s.tot := allTo_sum s s.n
    have hmono : ∀ t, t ≤ s.n → (s.allTo t).length ≤ 4160000000 := fun t ht => by have := allTo_le hsm t ht; have := hok.n64; omega
    refine w_rs (s_end rfl (n_all ?_))
    refine w_seq (w_rs (s_end rfl ?_))
    refine w_while (fun m l w' => ∃ t : Nat, t ≤ nn ∧ m = nn - t ∧ w' = w2 ∧ l = [(16, .int .i64 t), (15, .int .i64 (s.allTo t).length), (7, .int .i64 nn), (8, .pointer (some ⟨p, 0, none⟩)), (9, .int .i64 po), (10, .int .i64 ta)]) nn
      (Sub.cons rfl (Sub.cons rfl (Sub.cons rfl (Sub.cons rfl (Sub.cons rfl (Sub.cons rfl (Sub.nil _))))))) ⟨0, by omega, rfl, rfl, rfl⟩ ?_
    rintro m l w' ⟨t, htn, rfl, rfl, rfl⟩
    refine w_rs (s_end rfl (n_all ?_))
    refine w_seq (w_if rfl (fun hlt => ?_) (fun hge => ?_))
    · have htn' : t < nn := by have := of_decide_eq_true hlt; omega
      refine w_skip (n_pick [7, 8, 9, 10, 15, 16] rfl ?_)
      have hw1 : s.waits (t : Int) = (s.row t).length := by unfold Mail.waits; rw [if_pos ⟨by omega, by omega⟩, Int.toNat_natCast]
      have hh1 : s.heldN (t : Int) = s.heldTo t s.n := by unfold Mail.heldN; rw [if_pos ⟨by omega, by omega⟩]
      have hsucc : (s.allTo (t + 1)).length = (s.allTo t).length + ((s.row t).length + s.heldTo t s.n) := by
        simp only [Mail.allTo, List.length_append, heldAll_length]; omega
      have hb := hmono (t + 1) (by omega)
      refine w_seq (w_block (w_reg (s_call rfl rfl rfl (Waits_ok hI t) ?_)))
      rintro _ w3 ⟨rfl, hw⟩
      subst hw
      refine ⟨trivial, s_call rfl rfl rfl (Held_ok hI hsm t) ?_⟩
      rintro _ w4 ⟨rfl, hw⟩
      subst hw
      rw [hw1, hh1]
      refine ⟨trivial, s_add (c := (((s.row t).length + s.heldTo t s.n : Nat) : Int)) rfl rfl rfl rfl rfl (by omega) (by omega) (s_add (c := ((s.allTo (t + 1)).length : Int)) rfl rfl rfl rfl (by rw [hsucc]; rfl) (by omega) (by omega) (s_end rfl (n_pick [7, 8, 9, 10, 15, 16] rfl ?_)))⟩
      refine w_reg (s_add (c := ((t + 1 : Nat) : Int)) rfl rfl rfl rfl rfl (by omega) (by omega) (s_end rfl ?_))
      exact ⟨nn - (t + 1), by omega, _, Sub.cons rfl (Sub.cons rfl (Sub.cons rfl (Sub.cons rfl (Sub.cons rfl (Sub.cons rfl (Sub.nil _)))))), t + 1, by omega, rfl, rfl, rfl⟩
    · have htn' : t = s.n := by have := of_decide_eq_false hge; omega
      subst htn'
      refine w_exit (n_pick [7, 8, 9, 10, 15] rfl ?_)
      refine w_rs (s_sub (c := ((s.allTo s.n).length : Int)) rfl rfl rfl rfl (by rw [hall]; omega) (by omega) (by have := hmono s.n (by omega); omega) (s_split 86 rfl rfl rfl (fun _ => ?_) (fun e => by simp at e)))
      refine s_call rfl rfl rfl (All_ok hI hsm) ?_
      rintro av w3 ⟨F, hS, hF, hf3⟩
      obtain ⟨aa, ac, rfl⟩ := hS.form
      refine ⟨trivial, s_split 93 rfl rfl rfl (fun _ => ?_) (fun e => by simp at e)⟩
      refine s_call rfl rfl rfl (awake_ok w3) ?_
      rintro _ w4 ⟨rfl, hf4⟩
      refine ⟨trivial, s_end rfl (n_all ?_)⟩
      exact w_ret (RQ.one (t := 6) rfl (.inl rfl) rfl ⟨rfl, (hfr.1.trans hf3 fun _ _ x => x).trans hf4 fun _ _ x => x⟩)
end Go.Proofs.Ytgfkadmpakgmeaa
