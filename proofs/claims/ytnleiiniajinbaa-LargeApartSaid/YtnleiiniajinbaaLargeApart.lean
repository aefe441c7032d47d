/-
  LargeApart: the law's call.
-/
import Derived.Test.YtnleiiniajinbaaLargeC
import Derived.Test.YtnleiiniajinbaaOv
namespace Go.Tum.Base
open Go Go.Tum
theorem u64_word {a : Int} (h : 0 ≤ a ∧ a < 18446744073709551616) : ∃ x : BitVec 64, a = (x.toNat : Int) := ⟨BitVec.ofNat 64 a.toNat, by rw [BitVec.toNat_ofNat, Nat.mod_eq_of_lt (by omega)]; omega⟩
theorem u8_byte {a : Int} (h : 0 ≤ a ∧ a < 256) : ∃ x : BitVec 8, a = (x.toNat : Int) := ⟨BitVec.ofNat 8 a.toNat, by rw [BitVec.toNat_ofNat, Nat.mod_eq_of_lt (by omega)]; omega⟩
theorem pages_of {n : Nat} (h1 : 121 ≤ n) (h2 : n ≤ 4096) : greatC n = true ∧ pagesC n = ((n + 263) / 256 : Nat) := by
  unfold greatC pagesC
  refine ⟨by simp; omega, ?_⟩
  rw [if_neg (by omega)]; omega
end Go.Tum.Base
namespace Go.Proofs.Ytnleiiniajinbaa
open Go Go.Tum Go.Tum.Base
theorem gdel2 {Q N M : Nat} (h : 0 < Q) : gdel (gput (gput [] ((0 : Nat) : Int) N 0) Q M (0 + 1)) ((0 : Nat) : Int) = [((Q : Int), (M : Int), 1)] := by
  have h2 : (Q : Int) ≠ ((0 : Nat) : Int) := by omega
  show List.filter _ [(((0 : Nat) : Int), (N : Int), 0), ((Q : Int), (M : Int), 1)] = _
  rw [List.filter_cons, if_neg (by simp), List.filter_cons, if_pos (by simpa using h2), List.filter_nil]
/-- what is written into the first block's own bytes: the canaries stand, the other one is as it was -/
theorem apart_bytes {key : BitVec 64} {bs : Bytes} {N M Q R A : Nat} (hb : bs.length = 10240) (hQ : Q = (N + 263) / 256) (hR : R = (M + 263) / 256) (hN : 121 ≤ N) (hN2 : N ≤ 1144) (hM : 121 ≤ M) (hM2 : M ≤ 1144) {ys : Bytes} (hy : A + ys.length ≤ N) :
    let B2 := madeB key (madeB key bs 0 Q) Q R
    let B3 := overB B2 A ys
    partB B3 (256 * Q) M = partB B2 (256 * Q) M ∧ wordB B3 (256 * (0 + Q) - 8) = canW key (256 * (0 : Nat)) ∧ wordB (overB B3 (256 * 0) (List.replicate (256 * Q) 0xDD#8)) (256 * (Q + R) - 8) = canW key (256 * Q) := by
  have hl1 : (madeB key bs 0 Q).length = bs.length := madeB_length (by omega) (by omega)
  have hl2 : (madeB key (madeB key bs 0 Q) Q R).length = bs.length := by rw [madeB_length (by rw [hl1]; omega) (by omega), hl1]
  have hl3 : ∀ zs : Bytes, A + zs.length ≤ bs.length → (overB (madeB key (madeB key bs 0 Q) Q R) A zs).length = bs.length := fun zs h => by rw [overB_length (by rw [hl2]; exact h), hl2]
  have hz0 : (overB bs (256 * 0) (List.replicate (256 * Q) 0)).length = bs.length := overB_length (by rw [List.length_replicate]; omega)
  have hz1 : (overB (madeB key bs 0 Q) (256 * Q) (List.replicate (256 * R) 0)).length = bs.length := by rw [overB_length (by rw [List.length_replicate, hl1]; omega), hl1]
  refine ⟨partB_over_other (by rw [hl2]; omega) (by omega), ?_, ?_⟩
  · rw [wordB_other (by rw [hl2]; omega) (by omega)]
    unfold madeB
    rw [wordB_other (by rw [putB_length]; show _ ≤ (overB (madeB key bs 0 Q) (256 * Q) (List.replicate (256 * R) 0)).length; rw [hz1]; omega) (by omega)]
    rw [wordB_other (by rw [List.length_replicate]; show _ ≤ (madeB key bs 0 Q).length; rw [hl1]; omega) (by omega)]
    exact wordB_set (by rw [hz0]; omega) _
  · rw [wordB_other (by rw [List.length_replicate, hl3 ys (by omega)]; omega) (by rw [List.length_replicate]; omega)]
    rw [wordB_other (by rw [hl2]; omega) (by omega)]
    exact wordB_set (by show _ ≤ (overB (madeB key bs 0 Q) (256 * Q) (List.replicate (256 * R) 0)).length; rw [hz1]; omega) _
open Go.Deep
set_option maxRecDepth 4000

theorem awake8_tr : Tr Try.prog 13 [] [] (fun v K => v = .bool true ∧ K = []) :=
  Tr.closed (by kernel_rfl) rfl rfl fun w => closed_call (vs := []) (fuel := 5000) rows_ok (rawQ1_ok _) (rawE2_ok _) rfl rfl rfl (by kernel_rfl) w

set_option maxHeartbeats 4000000 in
theorem LargeApart_tr (x : BitVec 64) (n m a : Int) (nb : Nat) (hnb : nb ≤ 9223372036854775807) (f : Nat → List Value) (op : Nat → BitVec 8) (hop : ∀ i, i < nb → f i = byteC (op i)) :
    TrK Try.prog [(0, nb * 1, rowG 1 f)] [0] 3 [.int .u64 (x.toNat : Int), .int .i64 n, .int .i64 m, .int .i64 a, slB 0 nb] [.dead] (fun v _ => v = .bool true) := by
  obtain ⟨N, hN⟩ : ∃ N : Nat, 121 + n % 1024 = N := ⟨(121 + n % 1024).toNat, by omega⟩
  obtain ⟨M, hM⟩ : ∃ M : Nat, 121 + m % 1024 = M := ⟨(121 + m % 1024).toNat, by omega⟩
  obtain ⟨A0, hA0⟩ : ∃ A0 : Nat, a % 4096 = A0 := ⟨(a % 4096).toNat, by omega⟩
  obtain ⟨A, hA⟩ : ∃ A : Nat, (A0 : Int) % N = A := ⟨A0 % N, by simp⟩
  have hAN : A < N := by have := Int.emod_lt_of_pos (A0 : Int) (show 0 < (N : Int) by omega); omega
  obtain ⟨hgN, hpN⟩ := pages_of (n := N) (by omega) (by omega)
  obtain ⟨hgM, hpM⟩ := pages_of (n := M) (by omega) (by omega)
  obtain ⟨Q, hQ⟩ : ∃ Q, Q = (N + 263) / 256 := ⟨_, rfl⟩
  obtain ⟨R, hR⟩ : ∃ R, R = (M + 263) / 256 := ⟨_, rfl⟩
  rw [← hQ] at hpN
  rw [← hR] at hpM
  obtain ⟨bs, hbs, hNew⟩ : ∃ bs : Bytes, bs.length = 10240 ∧ Tr Try.prog 5 [.int .i64 40] [] (fun v K => v = ptr 0 ∧ K = AL bs) := ⟨List.replicate 10240 0, List.length_replicate, arenaNew_tr 40 10240 rfl⟩
  have hl1 : (madeB (keyW x) bs 0 Q).length = bs.length := madeB_length (by omega) (by omega)
  have hl2 : (madeB (keyW x) (madeB (keyW x) bs 0 Q) Q R).length = bs.length := by rw [madeB_length (by rw [hl1]; omega) (by omega), hl1]
  have hMk1 := largeMake_ok (keyW x) bs 40 (by omega) (by omega) [] 0 (by intro y hy; cases hy) GOk.nil 0 Q N hgN hpN (by omega) rfl
  simp only [SetL, hl1] at hMk1
  have hG1 : Small (gput [] (0 : Nat) N 0) 256 := by
    intro y hy
    simp only [gput, List.nil_append, List.mem_singleton] at hy
    subst hy
    exact ⟨by simp, hgN, by simp only [hpN]; omega⟩
  have hMk2 := largeMake_ok (keyW x) (madeB (keyW x) bs 0 Q) 40 (by omega) (by omega) (gput [] (0 : Nat) N 0) 1 hG1 (GOk.nil.put rfl) Q R M hgM hpM (by omega) (by simp [meetsG, gput, hpN])
  simp only [SetL, hl1, hl2] at hMk2
  refine Tr.of row_tumbrellaw08_LargeApart_ok rfl ?_
  repeat' (first
    | refine L_rs ?_
    | refine S_done [] rfl (Nx.goL ?_)
    | refine S_done [] rfl (RetQ.keepN rfl rfl rfl rfl ?_)
    | refine S_done [] rfl ?_
    | refine L_block ?_
    | refine L_ret (RetQ.keep rfl rfl rfl rfl ?_)
    | refine L_true rfl ?_
    | refine L_false rfl ?_
    | refine L_skip (Nx.goL ?_)
    | refine L_skip ?_
    | refine L_exit (Nx.goL ?_)
    | refine L_exit ?_
    | refine L_ifp rfl (by first | exact bD | exact bE | exact bN | exact bNB | exact bEB | exact bNot bD | exact bNot bE | exact bNot bN) (fun h => ?_) (fun h => ?_)
    | refine S_Q [] rfl rfl (QY.idxN rfl rfl (by omega)) ?_
    | refine S_Q [] rfl rfl (QY.add rfl rfl rfl (by omega) (by omega)) ?_
    | refine S_Q [] rfl rfl (QY.sub rfl rfl rfl (by omega) (by omega)) ?_
    | refine S_Q [] rfl rfl (QY.mask rfl rfl (by decide) rfl) ?_
    | refine S_Q [] rfl rfl (QY.ldI rfl rfl (List.getElem?_eq_getElem (by omega))) ?_
    | refine S_Q [] rfl rfl (QY.divN rfl rfl rfl (by omega) (by omega)) ?_
    | refine S_Q [] rfl rfl (QY.remN rfl rfl rfl (by omega) (by omega)) ?_
    | refine S_Q [] rfl rfl (QY.mul rfl rfl rfl (by omega) (by omega)) ?_
    | refine S_splitp 39 rfl rfl rfl (by first | exact bD | exact bE | exact bN | exact bNB | exact bEB | exact bNot bD | exact bNot bE | exact bNot bN) (fun h => ?_) (fun h => ?_)
    | refine S_splitp 87 rfl rfl rfl (by first | exact bD | exact bE | exact bN | exact bNB | exact bEB | exact bNot bD | exact bNot bE | exact bNot bN) (fun h => ?_) (fun h => ?_)
    | refine S_splitp 91 rfl rfl rfl (by first | exact bD | exact bE | exact bN | exact bNB | exact bEB | exact bNot bD | exact bNot bE | exact bNot bN) (fun h => ?_) (fun h => ?_)
    | refine S_splitp 98 rfl rfl rfl (by first | exact bD | exact bE | exact bN | exact bNB | exact bEB | exact bNot bD | exact bNot bE | exact bNot bN) (fun h => ?_) (fun h => ?_)
    | refine S_splitp 104 rfl rfl rfl (by first | exact bD | exact bE | exact bN | exact bNB | exact bEB | exact bNot bD | exact bNot bE | exact bNot bN) (fun h => ?_) (fun h => ?_)
    | refine S_splitp 109 rfl rfl rfl (by first | exact bD | exact bE | exact bN | exact bNB | exact bEB | exact bNot bD | exact bNot bE | exact bNot bN) (fun h => ?_) (fun h => ?_)
    | refine L_reg ?_
    | refine L_seq ?_
    | exact ⟨rfl, rfl⟩
    | fail)
  first | refine L_rs ?_ | refine L_reg ?_ | skip
  refine S_E [] rfl rfl (EW.callF [] (hNew) rfl rfl (by decide) (by repeat' (first | exact trivial | refine ⟨rfl, ?_⟩ | fail)) rfl rfl) ?_
  rintro _ _ ⟨rfl, rfl⟩
  refine ⟨(by repeat' (first | exact trivial | refine ⟨⟨qsafe_ok (st := []) rfl, Sure.of rfl⟩, ?_⟩ | refine ⟨.inl rfl, ?_⟩ | refine ⟨.inr ⟨qsafe_ok (st := []) rfl, Sure.of rfl⟩, ?_⟩ | refine ⟨⟨qsafe_ok (st := []) rfl, Sure.slice (by omega)⟩, ?_⟩ | refine ⟨.inr ⟨qsafe_ok (st := []) rfl, Sure.slice (by omega)⟩, ?_⟩ | refine ⟨.inr ⟨QY.neqB rfl (by kernel_rfl) rfl rfl, Sure.of rfl⟩, ?_⟩ | refine ⟨.inr ⟨QY.eqlB rfl (by kernel_rfl) rfl rfl, Sure.of rfl⟩, ?_⟩ | fail)), LSt.nf ?_⟩
  conv => whnf
  repeat' (first
    | refine L_rs ?_
    | refine S_done [] rfl (Nx.goL ?_)
    | refine S_done [] rfl (RetQ.keepN rfl rfl rfl rfl ?_)
    | refine S_done [] rfl ?_
    | refine L_block ?_
    | refine L_ret (RetQ.keep rfl rfl rfl rfl ?_)
    | refine L_true rfl ?_
    | refine L_false rfl ?_
    | refine L_skip (Nx.goL ?_)
    | refine L_skip ?_
    | refine L_exit (Nx.goL ?_)
    | refine L_exit ?_
    | refine L_ifp rfl (by first | exact bD | exact bE | exact bN | exact bNB | exact bEB | exact bNot bD | exact bNot bE | exact bNot bN) (fun h => ?_) (fun h => ?_)
    | refine S_Q [] rfl rfl (QY.idxN rfl rfl (by omega)) ?_
    | refine S_Q [] rfl rfl (QY.add rfl rfl rfl (by omega) (by omega)) ?_
    | refine S_Q [] rfl rfl (QY.sub rfl rfl rfl (by omega) (by omega)) ?_
    | refine S_Q [] rfl rfl (QY.mask rfl rfl (by decide) rfl) ?_
    | refine S_Q [] rfl rfl (QY.ldI rfl rfl (List.getElem?_eq_getElem (by omega))) ?_
    | refine S_Q [] rfl rfl (QY.divN rfl rfl rfl (by omega) (by omega)) ?_
    | refine S_Q [] rfl rfl (QY.remN rfl rfl rfl (by omega) (by omega)) ?_
    | refine S_Q [] rfl rfl (QY.mul rfl rfl rfl (by omega) (by omega)) ?_
    | refine S_splitp 39 rfl rfl rfl (by first | exact bD | exact bE | exact bN | exact bNB | exact bEB | exact bNot bD | exact bNot bE | exact bNot bN) (fun h => ?_) (fun h => ?_)
    | refine S_splitp 87 rfl rfl rfl (by first | exact bD | exact bE | exact bN | exact bNB | exact bEB | exact bNot bD | exact bNot bE | exact bNot bN) (fun h => ?_) (fun h => ?_)
    | refine S_splitp 91 rfl rfl rfl (by first | exact bD | exact bE | exact bN | exact bNB | exact bEB | exact bNot bD | exact bNot bE | exact bNot bN) (fun h => ?_) (fun h => ?_)
    | refine S_splitp 98 rfl rfl rfl (by first | exact bD | exact bE | exact bN | exact bNB | exact bEB | exact bNot bD | exact bNot bE | exact bNot bN) (fun h => ?_) (fun h => ?_)
    | refine S_splitp 104 rfl rfl rfl (by first | exact bD | exact bE | exact bN | exact bNB | exact bEB | exact bNot bD | exact bNot bE | exact bNot bN) (fun h => ?_) (fun h => ?_)
    | refine S_splitp 109 rfl rfl rfl (by first | exact bD | exact bE | exact bN | exact bNB | exact bEB | exact bNot bD | exact bNot bE | exact bNot bN) (fun h => ?_) (fun h => ?_)
    | refine L_reg ?_
    | refine L_seq ?_
    | exact ⟨rfl, rfl⟩
    | fail)
  first | refine L_rs ?_ | refine L_reg ?_ | skip
  refine S_Ed [] rfl rfl (EWd.callP [] (linkNew_tr x) rfl rfl (by decide) (by repeat' (first | exact trivial | refine ⟨rfl, ?_⟩ | fail)) rfl rfl) (disj_nil _) (nm_nilE _) (nm_nilT _) ?_
  rintro _ _ ⟨rfl, rfl⟩
  refine ⟨(by repeat' (first | exact trivial | refine ⟨⟨qsafe_ok (st := []) rfl, Sure.of rfl⟩, ?_⟩ | refine ⟨.inl rfl, ?_⟩ | refine ⟨.inr ⟨qsafe_ok (st := []) rfl, Sure.of rfl⟩, ?_⟩ | refine ⟨⟨qsafe_ok (st := []) rfl, Sure.slice (by omega)⟩, ?_⟩ | refine ⟨.inr ⟨qsafe_ok (st := []) rfl, Sure.slice (by omega)⟩, ?_⟩ | refine ⟨.inr ⟨QY.neqB rfl (by kernel_rfl) rfl rfl, Sure.of rfl⟩, ?_⟩ | refine ⟨.inr ⟨QY.eqlB rfl (by kernel_rfl) rfl rfl, Sure.of rfl⟩, ?_⟩ | fail)), ?_⟩
  first | refine L_rs ?_ | refine L_reg ?_ | skip
  refine S_E [] rfl rfl (EW.callF [1, 2] (largeNew_tr bs (keyW x)) rfl rfl (by decide) (by repeat' (first | exact trivial | refine ⟨rfl, ?_⟩ | fail)) rfl rfl) ?_
  rintro _ _ ⟨rfl, rfl⟩
  refine ⟨(by repeat' (first | exact trivial | refine ⟨⟨qsafe_ok (st := []) rfl, Sure.of rfl⟩, ?_⟩ | refine ⟨.inl rfl, ?_⟩ | refine ⟨.inr ⟨qsafe_ok (st := []) rfl, Sure.of rfl⟩, ?_⟩ | refine ⟨⟨qsafe_ok (st := []) rfl, Sure.slice (by omega)⟩, ?_⟩ | refine ⟨.inr ⟨qsafe_ok (st := []) rfl, Sure.slice (by omega)⟩, ?_⟩ | refine ⟨.inr ⟨QY.neqB rfl (by kernel_rfl) rfl rfl, Sure.of rfl⟩, ?_⟩ | refine ⟨.inr ⟨QY.eqlB rfl (by kernel_rfl) rfl rfl, Sure.of rfl⟩, ?_⟩ | fail)), LSt.nf ?_⟩
  conv => whnf
  have hQ' : ((N : Int) + 8 + 255) / 256 = Q := by omega
  repeat' (first
    | refine L_rs ?_
    | refine S_done [] rfl (Nx.goL ?_)
    | refine S_done [] rfl (RetQ.keepN rfl rfl rfl rfl ?_)
    | refine S_done [] rfl ?_
    | refine L_block ?_
    | refine L_ret (RetQ.keep rfl rfl rfl rfl ?_)
    | refine L_true rfl ?_
    | refine L_false rfl ?_
    | refine L_skip (Nx.goL ?_)
    | refine L_skip ?_
    | refine L_exit (Nx.goL ?_)
    | refine L_exit ?_
    | refine L_ifp rfl (by first | exact bD | exact bE | exact bN | exact bNB | exact bEB | exact bNot bD | exact bNot bE | exact bNot bN) (fun h => ?_) (fun h => ?_)
    | refine S_Q [] rfl rfl (QY.idxN rfl rfl (by omega)) ?_
    | refine S_Q [] rfl rfl (QY.add rfl rfl hN (by omega) (by omega)) ?_
    | refine S_Q [] rfl rfl (QY.add rfl rfl hM (by omega) (by omega)) ?_
    | refine S_Q [] rfl rfl (QY.divN rfl rfl hQ' (by omega) (by omega)) ?_
    | refine S_Q [] rfl rfl (QY.add rfl rfl rfl (by omega) (by omega)) ?_
    | refine S_Q [] rfl rfl (QY.sub rfl rfl rfl (by omega) (by omega)) ?_
    | refine S_Q [] rfl rfl (QY.mask rfl rfl (by decide) rfl) ?_
    | refine S_Q [] rfl rfl (QY.ldI rfl rfl (List.getElem?_eq_getElem (by omega))) ?_
    | refine S_Q [] rfl rfl (QY.divN rfl rfl rfl (by omega) (by omega)) ?_
    | refine S_Q [] rfl rfl (QY.remN rfl rfl rfl (by omega) (by omega)) ?_
    | refine S_Q [] rfl rfl (QY.mul rfl rfl rfl (by omega) (by omega)) ?_
    | refine S_splitp 39 rfl rfl rfl (by first | exact bD | exact bE | exact bN | exact bNB | exact bEB | exact bNot bD | exact bNot bE | exact bNot bN) (fun h => ?_) (fun h => ?_)
    | refine S_splitp 87 rfl rfl rfl (by first | exact bD | exact bE | exact bN | exact bNB | exact bEB | exact bNot bD | exact bNot bE | exact bNot bN) (fun h => ?_) (fun h => ?_)
    | refine S_splitp 91 rfl rfl rfl (by first | exact bD | exact bE | exact bN | exact bNB | exact bEB | exact bNot bD | exact bNot bE | exact bNot bN) (fun h => ?_) (fun h => ?_)
    | refine S_splitp 98 rfl rfl rfl (by first | exact bD | exact bE | exact bN | exact bNB | exact bEB | exact bNot bD | exact bNot bE | exact bNot bN) (fun h => ?_) (fun h => ?_)
    | refine S_splitp 104 rfl rfl rfl (by first | exact bD | exact bE | exact bN | exact bNB | exact bEB | exact bNot bD | exact bNot bE | exact bNot bN) (fun h => ?_) (fun h => ?_)
    | refine S_splitp 109 rfl rfl rfl (by first | exact bD | exact bE | exact bN | exact bNB | exact bEB | exact bNot bD | exact bNot bE | exact bNot bN) (fun h => ?_) (fun h => ?_)
    | refine L_reg ?_
    | refine L_seq ?_
    | exact ⟨rfl, rfl⟩
    | fail)
  first | refine L_rs ?_ | refine L_reg ?_ | skip
  refine S_E [] rfl rfl (EW.callF [3, 1, 2, 4] (hMk1) rfl rfl (by decide) (by repeat' (first | exact trivial | refine ⟨rfl, ?_⟩ | fail)) rfl rfl) ?_
  rintro _ _ ⟨rfl, rfl⟩
  refine ⟨(by repeat' (first | exact trivial | refine ⟨⟨qsafe_ok (st := []) rfl, Sure.of rfl⟩, ?_⟩ | refine ⟨.inl rfl, ?_⟩ | refine ⟨.inr ⟨qsafe_ok (st := []) rfl, Sure.of rfl⟩, ?_⟩ | refine ⟨⟨qsafe_ok (st := []) rfl, Sure.slice (by omega)⟩, ?_⟩ | refine ⟨.inr ⟨qsafe_ok (st := []) rfl, Sure.slice (by omega)⟩, ?_⟩ | refine ⟨.inr ⟨QY.neqB rfl (by kernel_rfl) rfl rfl, Sure.of rfl⟩, ?_⟩ | refine ⟨.inr ⟨QY.eqlB rfl (by kernel_rfl) rfl rfl, Sure.of rfl⟩, ?_⟩ | fail)), LSt.nf ?_⟩
  conv => whnf
  first | refine L_rs ?_ | refine L_reg ?_ | skip
  refine S_E [] rfl rfl (EW.callF [3, 1, 2, 4] (hMk2) rfl rfl (by decide) (by repeat' (first | exact trivial | refine ⟨rfl, ?_⟩ | fail)) rfl rfl) ?_
  rintro _ _ ⟨rfl, rfl⟩
  refine ⟨(by repeat' (first | exact trivial | refine ⟨⟨qsafe_ok (st := []) rfl, Sure.of rfl⟩, ?_⟩ | refine ⟨.inl rfl, ?_⟩ | refine ⟨.inr ⟨qsafe_ok (st := []) rfl, Sure.of rfl⟩, ?_⟩ | refine ⟨⟨qsafe_ok (st := []) rfl, Sure.slice (by omega)⟩, ?_⟩ | refine ⟨.inr ⟨qsafe_ok (st := []) rfl, Sure.slice (by omega)⟩, ?_⟩ | refine ⟨.inr ⟨QY.neqB rfl (by kernel_rfl) rfl rfl, Sure.of rfl⟩, ?_⟩ | refine ⟨.inr ⟨QY.eqlB rfl (by kernel_rfl) rfl rfl, Sure.of rfl⟩, ?_⟩ | fail)), LSt.nf ?_⟩
  conv => whnf
  refine S_done [] rfl (Nx.goL (L_false rfl (L_skip (Nx.goL ?_))))
  first | refine L_rs ?_ | refine L_reg ?_ | skip
  refine S_Q [] rfl rfl (QY.mask rfl rfl (by decide) hA0) ?_
  first | refine L_rs ?_ | refine L_reg ?_ | skip
  refine S_Q [] rfl rfl (QY.remN rfl rfl hA (by omega) (by omega)) ?_
  refine S_done [] rfl (Nx.goL ?_)
  have hb2 : (madeB (keyW x) (madeB (keyW x) bs 0 Q) Q R).length ≤ 65536 := by omega
  refine L_cut (fun l L => ∃ m' c' : Nat, m' ≤ nb ∧ A + m' ≤ N ∧ l = [(1, .int .i64 N), (2, .int .i64 M), (3, .int .i64 A), (4, .slice (some ⟨0, 0, none⟩) m' c'), (11, ptr 1), (12, ptr 3), (13, .int .i64 Q)] ∧ L = [.dead, .cells 0 [slB 2 bs.length], BL (madeB (keyW x) (madeB (keyW x) bs 0 Q) Q R), .cells 0 [ptr 1, .int .u64 ((keyW x).toNat : Int), .map (some 4)], .imap (gput (gput [] (0 : Nat) N 0) Q M (0 + 1)) (0 + 1 + 1)]) ?_ ?_
  · have hs : (N : Int) - A = ((N - A : Nat) : Int) := by omega
    repeat' (first
      | refine L_rs ?_
      | refine S_done [] rfl (Nx.goL ?_)
      | refine S_done [] rfl (RetQ.keepN rfl rfl rfl rfl ?_)
      | refine S_done [] rfl ?_
      | refine L_block ?_
      | refine L_ret (RetQ.keep rfl rfl rfl rfl ?_)
      | refine L_true rfl ?_
      | refine L_false rfl ?_
      | refine L_skip (Nx.goL ?_)
      | refine L_skip ?_
      | refine L_exit (Nx.goL ?_)
      | refine L_exit ?_
      | refine L_ifp rfl (by first | exact bD | exact bE | exact bN | exact bNB | exact bEB | exact bNot bD | exact bNot bE | exact bNot bN) (fun h => ?_) (fun h => ?_)
      | refine S_Q [] rfl rfl (QY.idxN rfl rfl (by omega)) ?_
      | refine S_Q [] rfl rfl (QY.sub rfl rfl hs (by omega) (by omega)) ?_
      | refine S_Q [] rfl rfl (QY.add rfl rfl rfl (by omega) (by omega)) ?_
      | refine S_Q [] rfl rfl (QY.sub rfl rfl rfl (by omega) (by omega)) ?_
      | refine S_Q [] rfl rfl (QY.mask rfl rfl (by decide) rfl) ?_
      | refine S_Q [] rfl rfl (QY.ldI rfl rfl (List.getElem?_eq_getElem (by omega))) ?_
      | refine S_Q [] rfl rfl (QY.divN rfl rfl rfl (by omega) (by omega)) ?_
      | refine S_Q [] rfl rfl (QY.remN rfl rfl rfl (by omega) (by omega)) ?_
      | refine S_Q [] rfl rfl (QY.mul rfl rfl rfl (by omega) (by omega)) ?_
      | refine S_splitp 39 rfl rfl rfl (by first | exact bD | exact bE | exact bN | exact bNB | exact bEB | exact bNot bD | exact bNot bE | exact bNot bN) (fun h => ?_) (fun h => ?_)
      | refine S_splitp 87 rfl rfl rfl (by first | exact bD | exact bE | exact bN | exact bNB | exact bEB | exact bNot bD | exact bNot bE | exact bNot bN) (fun h => ?_) (fun h => ?_)
      | refine S_splitp 91 rfl rfl rfl (by first | exact bD | exact bE | exact bN | exact bNB | exact bEB | exact bNot bD | exact bNot bE | exact bNot bN) (fun h => ?_) (fun h => ?_)
      | refine S_splitp 98 rfl rfl rfl (by first | exact bD | exact bE | exact bN | exact bNB | exact bEB | exact bNot bD | exact bNot bE | exact bNot bN) (fun h => ?_) (fun h => ?_)
      | refine S_splitp 104 rfl rfl rfl (by first | exact bD | exact bE | exact bN | exact bNB | exact bEB | exact bNot bD | exact bNot bE | exact bNot bN) (fun h => ?_) (fun h => ?_)
      | refine S_splitp 109 rfl rfl rfl (by first | exact bD | exact bE | exact bN | exact bNB | exact bEB | exact bNot bD | exact bNot bE | exact bNot bN) (fun h => ?_) (fun h => ?_)
      | refine L_reg ?_
      | refine L_seq ?_
      | exact ⟨rfl, rfl⟩
      | fail)
    · first | refine L_rs ?_ | refine L_reg ?_ | skip
      refine S_Q [] rfl rfl (QY.slc0 (b := 0) (lo' := 0) (hi' := N - A) rfl rfl rfl (by omega) (by omega)) ?_
      repeat' (first
        | refine L_rs ?_
        | refine S_done [] rfl (Nx.goL ?_)
        | refine S_done [] rfl (RetQ.keepN rfl rfl rfl rfl ?_)
        | refine S_done [] rfl ?_
        | refine L_block ?_
        | refine L_ret (RetQ.keep rfl rfl rfl rfl ?_)
        | refine L_true rfl ?_
        | refine L_false rfl ?_
        | refine L_skip (Nx.goL ?_)
        | refine L_skip ?_
        | refine L_exit (Nx.goL ?_)
        | refine L_exit ?_
        | refine L_ifp rfl (by first | exact bD | exact bE | exact bN | exact bNB | exact bEB | exact bNot bD | exact bNot bE | exact bNot bN) (fun h => ?_) (fun h => ?_)
        | refine S_Q [] rfl rfl (QY.idxN rfl rfl (by omega)) ?_
        | refine S_Q [] rfl rfl (QY.add rfl rfl rfl (by omega) (by omega)) ?_
        | refine S_Q [] rfl rfl (QY.sub rfl rfl rfl (by omega) (by omega)) ?_
        | refine S_Q [] rfl rfl (QY.mask rfl rfl (by decide) rfl) ?_
        | refine S_Q [] rfl rfl (QY.ldI rfl rfl (List.getElem?_eq_getElem (by omega))) ?_
        | refine S_Q [] rfl rfl (QY.divN rfl rfl rfl (by omega) (by omega)) ?_
        | refine S_Q [] rfl rfl (QY.remN rfl rfl rfl (by omega) (by omega)) ?_
        | refine S_Q [] rfl rfl (QY.mul rfl rfl rfl (by omega) (by omega)) ?_
        | refine S_splitp 39 rfl rfl rfl (by first | exact bD | exact bE | exact bN | exact bNB | exact bEB | exact bNot bD | exact bNot bE | exact bNot bN) (fun h => ?_) (fun h => ?_)
        | refine S_splitp 87 rfl rfl rfl (by first | exact bD | exact bE | exact bN | exact bNB | exact bEB | exact bNot bD | exact bNot bE | exact bNot bN) (fun h => ?_) (fun h => ?_)
        | refine S_splitp 91 rfl rfl rfl (by first | exact bD | exact bE | exact bN | exact bNB | exact bEB | exact bNot bD | exact bNot bE | exact bNot bN) (fun h => ?_) (fun h => ?_)
        | refine S_splitp 98 rfl rfl rfl (by first | exact bD | exact bE | exact bN | exact bNB | exact bEB | exact bNot bD | exact bNot bE | exact bNot bN) (fun h => ?_) (fun h => ?_)
        | refine S_splitp 104 rfl rfl rfl (by first | exact bD | exact bE | exact bN | exact bNB | exact bEB | exact bNot bD | exact bNot bE | exact bNot bN) (fun h => ?_) (fun h => ?_)
        | refine S_splitp 109 rfl rfl rfl (by first | exact bD | exact bE | exact bN | exact bNB | exact bEB | exact bNot bD | exact bNot bE | exact bNot bN) (fun h => ?_) (fun h => ?_)
        | refine L_reg ?_
        | refine L_seq ?_
        | exact ⟨rfl, rfl⟩
        | fail)
      exact Nx.pick [1, 2, 3, 4, 11, 12, 13] [0, 1, 2, 3, 4] rfl rfl rfl ⟨N - A - 0, nb - 0, by omega, by omega, rfl, rfl⟩
    · exact Nx.pick [1, 2, 3, 4, 11, 12, 13] [0, 1, 2, 3, 4] rfl rfl rfl ⟨nb, nb, by omega, by omega, rfl, rfl⟩
  rintro _ _ ⟨m', c', hm', hAm, rfl, rfl⟩
  obtain ⟨hp, hw, hc⟩ := apart_bytes (key := keyW x) (A := A) hbs hQ hR (by omega) (by omega) (by omega) (by omega) (ys := takeA op m') (by rw [takeA_length]; exact hAm)
  generalize hB2 : madeB (keyW x) (madeB (keyW x) bs 0 Q) Q R = B2 at *
  have hL1 := arenaLoad_ok B2 hb2 (256 * Q) M (by omega)
  have hSt := arenaStoreA_ok B2 hb2 A m' nb c' (by omega) hm' f op hop
  have hl3 : (overB B2 A (takeA op m')).length = bs.length := by rw [overB_length (by rw [takeA_length]; omega), hl2]
  have hL2 := arenaLoad_ok (overB B2 A (takeA op m')) (by omega) (256 * Q) M (by omega)
  rw [hp] at hL2
  simp only [AL, hl2, hl3] at hL1 hSt hL2
  have hD := largeDrop_ok (keyW x) (overB B2 A (takeA op m')) (by omega) (gput (gput [] (0 : Nat) N 0) Q M (0 + 1)) (0 + 1 + 1) 0 Q N rfl rfl hpN (by omega) (by omega)
  rw [hw, decide_eq_true rfl] at hD
  have hl4 : (overB (overB B2 A (takeA op m')) (256 * 0) (List.replicate (256 * Q) 0xDD#8)).length = bs.length := by rw [overB_length (by rw [List.length_replicate, hl3]; omega), hl3]
  have hdel := gdel2 (Q := Q) (N := N) (M := M) (by omega)
  rw [hdel] at hD
  have hCk := largeCheck_tr (keyW x) (overB (overB B2 A (takeA op m')) (256 * 0) (List.replicate (256 * Q) 0xDD#8)) 40 (by omega) (by omega) [((Q : Int), (M : Int), 1)] (0 + 1 + 1) (by intro y hy; rw [List.mem_singleton] at hy; subst hy; exact ⟨by simp, hgM, by simp only [hpM]; omega⟩) ⟨by simp, by simp, by simp⟩
  have hst : [((Q : Int), (M : Int), 1)].all (standsG (keyW x) (overB (overB B2 A (takeA op m')) (256 * 0) (List.replicate (256 * Q) 0xDD#8))) = true := by
    simp only [List.all_cons, List.all_nil, Bool.and_true, standsG, hpM]
    rw [show (256 * ((Q : Int) + R) - 8).toNat = 256 * (Q + R) - 8 by omega, hc]
    simp
  rw [if_pos hst] at hCk
  simp only [SetL, hl3, hl4] at hD hCk
  have hpl : (partB B2 (256 * Q) M).length = M := partB_length (by omega)
  clear hMk1 hMk2 hNew hw hc hp hst hdel hG1 hB2 hl1 hl4 hb2
  repeat' (first
    | refine L_rs ?_
    | refine S_done [] rfl (Nx.goL ?_)
    | refine S_done [] rfl (RetQ.keepN rfl rfl rfl rfl ?_)
    | refine S_done [] rfl ?_
    | refine L_block ?_
    | refine L_ret (RetQ.keep rfl rfl rfl rfl ?_)
    | refine L_true rfl ?_
    | refine L_false rfl ?_
    | refine L_skip (Nx.goL ?_)
    | refine L_skip ?_
    | refine L_exit (Nx.goL ?_)
    | refine L_exit ?_
    | refine L_ifp rfl (by first | exact bD | exact bE | exact bN | exact bNB | exact bEB | exact bNot bD | exact bNot bE | exact bNot bN) (fun h => ?_) (fun h => ?_)
    | refine S_Q [] rfl rfl (QY.idxN rfl rfl (by omega)) ?_
    | refine L_reg ?_
    | refine L_seq ?_
    | exact ⟨rfl, rfl⟩
    | fail)
  first | refine L_rs ?_ | refine L_reg ?_ | skip
  refine S_Q [] rfl rfl (QY.mul (c := ((256 * Q : Nat) : Int)) rfl rfl (by omega) (by omega) (by omega)) ?_
  first | refine L_rs ?_ | refine L_reg ?_ | skip
  refine S_E [] rfl rfl (EW.callF [1, 2] (hL1) rfl rfl (by decide) (by repeat' (first | exact trivial | refine ⟨rfl, ?_⟩ | fail)) rfl rfl) ?_
  rintro _ _ ⟨rfl, rfl⟩
  refine ⟨(by repeat' (first | exact trivial | refine ⟨⟨qsafe_ok (st := []) rfl, Sure.of rfl⟩, ?_⟩ | refine ⟨.inl rfl, ?_⟩ | refine ⟨.inr ⟨qsafe_ok (st := []) rfl, Sure.of rfl⟩, ?_⟩ | refine ⟨⟨qsafe_ok (st := []) rfl, Sure.slice (by omega)⟩, ?_⟩ | refine ⟨.inr ⟨qsafe_ok (st := []) rfl, Sure.slice (by omega)⟩, ?_⟩ | refine ⟨.inr ⟨QY.neqB rfl (by kernel_rfl) rfl rfl, Sure.of rfl⟩, ?_⟩ | refine ⟨.inr ⟨QY.eqlB rfl (by kernel_rfl) rfl rfl, Sure.of rfl⟩, ?_⟩ | fail)), LSt.nf ?_⟩
  conv => whnf
  repeat' (first
    | refine L_rs ?_
    | refine S_done [] rfl (Nx.goL ?_)
    | refine S_done [] rfl (RetQ.keepN rfl rfl rfl rfl ?_)
    | refine S_done [] rfl ?_
    | refine L_block ?_
    | refine L_ret (RetQ.keep rfl rfl rfl rfl ?_)
    | refine L_true rfl ?_
    | refine L_false rfl ?_
    | refine L_skip (Nx.goL ?_)
    | refine L_skip ?_
    | refine L_exit (Nx.goL ?_)
    | refine L_exit ?_
    | refine L_ifp rfl (by first | exact bD | exact bE | exact bN | exact bNB | exact bEB | exact bNot bD | exact bNot bE | exact bNot bN) (fun h => ?_) (fun h => ?_)
    | refine S_Q [] rfl rfl (QY.idxN rfl rfl (by omega)) ?_
    | refine L_reg ?_
    | refine L_seq ?_
    | exact ⟨rfl, rfl⟩
    | fail)
  refine S_E [] rfl rfl (EW.callA [1, 2, 0] hSt rfl rfl (Part.of (by decide) (by repeat' (first | exact trivial | refine ⟨rfl, ?_⟩ | fail))) (by intro y hy; cases List.mem_singleton.1 hy; exact ⟨rfl, 0, rfl, List.mem_singleton.2 rfl⟩)) ?_
  rintro _ _ ⟨_, _, ⟨rfl, rfl⟩, rfl, rfl⟩
  refine ⟨(by repeat' (first | exact trivial | refine ⟨⟨qsafe_ok (st := []) rfl, Sure.of rfl⟩, ?_⟩ | refine ⟨.inl rfl, ?_⟩ | refine ⟨.inr ⟨qsafe_ok (st := []) rfl, Sure.of rfl⟩, ?_⟩ | refine ⟨⟨qsafe_ok (st := []) rfl, Sure.slice (by omega)⟩, ?_⟩ | refine ⟨.inr ⟨qsafe_ok (st := []) rfl, Sure.slice (by omega)⟩, ?_⟩ | refine ⟨.inr ⟨QY.neqB rfl (by kernel_rfl) rfl rfl, Sure.of rfl⟩, ?_⟩ | refine ⟨.inr ⟨QY.eqlB rfl (by kernel_rfl) rfl rfl, Sure.of rfl⟩, ?_⟩ | fail)), LSt.nf ?_⟩
  conv => whnf
  repeat' (first
    | refine L_rs ?_
    | refine S_done [] rfl (Nx.goL ?_)
    | refine S_done [] rfl (RetQ.keepN rfl rfl rfl rfl ?_)
    | refine S_done [] rfl ?_
    | refine L_block ?_
    | refine L_ret (RetQ.keep rfl rfl rfl rfl ?_)
    | refine L_true rfl ?_
    | refine L_false rfl ?_
    | refine L_skip (Nx.goL ?_)
    | refine L_skip ?_
    | refine L_exit (Nx.goL ?_)
    | refine L_exit ?_
    | refine L_ifp rfl (by first | exact bD | exact bE | exact bN | exact bNB | exact bEB | exact bNot bD | exact bNot bE | exact bNot bN) (fun h => ?_) (fun h => ?_)
    | refine S_Q [] rfl rfl (QY.idxN rfl rfl (by omega)) ?_
    | refine L_reg ?_
    | refine L_seq ?_
    | exact ⟨rfl, rfl⟩
    | fail)
  first | refine L_rs ?_ | refine L_reg ?_ | skip
  refine S_Q [] rfl rfl (QY.mul (c := ((256 * Q : Nat) : Int)) rfl rfl (by omega) (by omega) (by omega)) ?_
  first | refine L_rs ?_ | refine L_reg ?_ | skip
  refine S_E [] rfl rfl (EW.callF [1, 2] (hL2) rfl rfl (by decide) (by repeat' (first | exact trivial | refine ⟨rfl, ?_⟩ | fail)) rfl rfl) ?_
  rintro _ _ ⟨rfl, rfl⟩
  refine ⟨(by repeat' (first | exact trivial | refine ⟨⟨qsafe_ok (st := []) rfl, Sure.of rfl⟩, ?_⟩ | refine ⟨.inl rfl, ?_⟩ | refine ⟨.inr ⟨qsafe_ok (st := []) rfl, Sure.of rfl⟩, ?_⟩ | refine ⟨⟨qsafe_ok (st := []) rfl, Sure.slice (by omega)⟩, ?_⟩ | refine ⟨.inr ⟨qsafe_ok (st := []) rfl, Sure.slice (by omega)⟩, ?_⟩ | refine ⟨.inr ⟨QY.neqB rfl (by kernel_rfl) rfl rfl, Sure.of rfl⟩, ?_⟩ | refine ⟨.inr ⟨QY.eqlB rfl (by kernel_rfl) rfl rfl, Sure.of rfl⟩, ?_⟩ | fail)), LSt.nf ?_⟩
  conv => whnf
  repeat' (first
    | refine L_rs ?_
    | refine S_done [] rfl (Nx.goL ?_)
    | refine S_done [] rfl (RetQ.keepN rfl rfl rfl rfl ?_)
    | refine S_done [] rfl ?_
    | refine L_block ?_
    | refine L_ret (RetQ.keep rfl rfl rfl rfl ?_)
    | refine L_true rfl ?_
    | refine L_false rfl ?_
    | refine L_skip (Nx.goL ?_)
    | refine L_skip ?_
    | refine L_exit (Nx.goL ?_)
    | refine L_exit ?_
    | refine L_ifp rfl (by first | exact bD | exact bE | exact bN | exact bNB | exact bEB | exact bNot bD | exact bNot bE | exact bNot bN) (fun h => ?_) (fun h => ?_)
    | refine S_Q [] rfl rfl (QY.idxN rfl rfl (by omega)) ?_
    | refine L_reg ?_
    | refine L_seq ?_
    | exact ⟨rfl, rfl⟩
    | fail)
  first | refine L_rs ?_ | refine L_reg ?_ | skip
  refine S_E [] rfl rfl (EW.callF [3, 1, 2, 4] (hD) rfl rfl (by decide) (by repeat' (first | exact trivial | refine ⟨rfl, ?_⟩ | fail)) rfl rfl) ?_
  rintro _ _ ⟨rfl, rfl⟩
  refine ⟨(by repeat' (first | exact trivial | refine ⟨⟨qsafe_ok (st := []) rfl, Sure.of rfl⟩, ?_⟩ | refine ⟨.inl rfl, ?_⟩ | refine ⟨.inr ⟨qsafe_ok (st := []) rfl, Sure.of rfl⟩, ?_⟩ | refine ⟨⟨qsafe_ok (st := []) rfl, Sure.slice (by omega)⟩, ?_⟩ | refine ⟨.inr ⟨qsafe_ok (st := []) rfl, Sure.slice (by omega)⟩, ?_⟩ | refine ⟨.inr ⟨QY.neqB rfl (by kernel_rfl) rfl rfl, Sure.of rfl⟩, ?_⟩ | refine ⟨.inr ⟨QY.eqlB rfl (by kernel_rfl) rfl rfl, Sure.of rfl⟩, ?_⟩ | fail)), LSt.nf ?_⟩
  conv => whnf
  repeat' (first
    | refine L_rs ?_
    | refine S_done [] rfl (Nx.goL ?_)
    | refine S_done [] rfl (RetQ.keepN rfl rfl rfl rfl ?_)
    | refine S_done [] rfl ?_
    | refine L_block ?_
    | refine L_ret (RetQ.keep rfl rfl rfl rfl ?_)
    | refine L_true rfl ?_
    | refine L_false rfl ?_
    | refine L_skip (Nx.goL ?_)
    | refine L_skip ?_
    | refine L_exit (Nx.goL ?_)
    | refine L_exit ?_
    | refine L_ifp rfl (by first | exact bD | exact bE | exact bN | exact bNB | exact bEB | exact bNot bD | exact bNot bE | exact bNot bN) (fun h => ?_) (fun h => ?_)
    | refine S_Q [] rfl rfl (QY.idxN rfl rfl (by omega)) ?_
    | refine L_reg ?_
    | refine L_seq ?_
    | exact ⟨rfl, rfl⟩
    | fail)
  first | refine LSt.drop [2, 11, 12, 14, 16, 18, 19] (LSt.nf ?_) | refine LWp.drop [2, 11, 12, 14, 16, 18, 19] (LWp.nf ?_)
  conv => whnf
  first | refine L_rs ?_ | refine L_reg ?_ | skip
  refine S_Q [] rfl rfl (QY.str (i := 0) rfl (by kernel_rfl) rfl rfl (by rw [hpl]; omega)) ?_
  first | refine L_rs ?_ | refine L_reg ?_ | skip
  refine S_Q [] rfl rfl (QY.str (i := 0) rfl (by kernel_rfl) rfl rfl (by rw [hpl]; omega)) ?_
  first | refine L_rs ?_ | refine L_reg ?_ | skip
  refine S_Q [] rfl rfl (QY.tt (QY.eqlStr rfl rfl rfl) (decide_eq_true rfl)) ?_
  refine S_splitT 104 rfl rfl rfl (beq_iff_eq.2 rfl) ?_
  first | refine L_rs ?_ | refine L_reg ?_ | skip
  refine S_Ed [] rfl rfl (EWd.callP [3, 1, 2, 4] (hCk) rfl rfl (by decide) (by repeat' (first | exact trivial | refine ⟨rfl, ?_⟩ | fail)) rfl rfl) (disj_nil _) (nm_nilE _) (nm_nilT _) ?_
  rintro _ _ ⟨rfl, rfl⟩
  refine ⟨(by repeat' (first | exact trivial | refine ⟨⟨qsafe_ok (st := []) rfl, Sure.of rfl⟩, ?_⟩ | refine ⟨.inl rfl, ?_⟩ | refine ⟨.inr ⟨qsafe_ok (st := []) rfl, Sure.of rfl⟩, ?_⟩ | refine ⟨⟨qsafe_ok (st := []) rfl, Sure.slice (by omega)⟩, ?_⟩ | refine ⟨.inr ⟨qsafe_ok (st := []) rfl, Sure.slice (by omega)⟩, ?_⟩ | refine ⟨.inr ⟨QY.neqB rfl (by kernel_rfl) rfl rfl, Sure.of rfl⟩, ?_⟩ | refine ⟨.inr ⟨QY.eqlB rfl (by kernel_rfl) rfl rfl, Sure.of rfl⟩, ?_⟩ | fail)), ?_⟩
  first | refine L_rs ?_ | refine L_reg ?_ | skip
  refine S_Ed [] rfl rfl (EWd.callP [] (awake8_tr) rfl rfl (by decide) (by repeat' (first | exact trivial | refine ⟨rfl, ?_⟩ | fail)) rfl rfl) (disj_nil _) (nm_nilE _) (nm_nilT _) ?_
  rintro _ _ ⟨rfl, rfl⟩
  refine ⟨(by repeat' (first | exact trivial | refine ⟨⟨qsafe_ok (st := []) rfl, Sure.of rfl⟩, ?_⟩ | refine ⟨.inl rfl, ?_⟩ | refine ⟨.inr ⟨qsafe_ok (st := []) rfl, Sure.of rfl⟩, ?_⟩ | refine ⟨⟨qsafe_ok (st := []) rfl, Sure.slice (by omega)⟩, ?_⟩ | refine ⟨.inr ⟨qsafe_ok (st := []) rfl, Sure.slice (by omega)⟩, ?_⟩ | refine ⟨.inr ⟨QY.neqB rfl (by kernel_rfl) rfl rfl, Sure.of rfl⟩, ?_⟩ | refine ⟨.inr ⟨QY.eqlB rfl (by kernel_rfl) rfl rfl, Sure.of rfl⟩, ?_⟩ | fail)), ?_⟩
  repeat' (first
    | refine L_rs ?_
    | refine S_done [] rfl (Nx.goL ?_)
    | refine S_done [] rfl (RetQ.keepN rfl rfl rfl rfl ?_)
    | refine S_done [] rfl ?_
    | refine L_block ?_
    | refine L_ret (RetQ.keep rfl rfl rfl rfl ?_)
    | refine L_true rfl ?_
    | refine L_false rfl ?_
    | refine L_skip (Nx.goL ?_)
    | refine L_skip ?_
    | refine L_exit (Nx.goL ?_)
    | refine L_exit ?_
    | refine L_ifp rfl (by first | exact bD | exact bE | exact bN | exact bNB | exact bEB | exact bNot bD | exact bNot bE | exact bNot bN) (fun h => ?_) (fun h => ?_)
    | refine S_Q [] rfl rfl (QY.idxN rfl rfl (by omega)) ?_
    | refine L_reg ?_
    | refine L_seq ?_
    | exact ⟨rfl, rfl⟩
    | fail)
  all_goals rfl

theorem LargeApart_does (w : World) (x n m a : Int) (hx : 0 ≤ x ∧ x < 18446744073709551616) {v : Value} {nb : Nat} {get : Nat → List Value} (hr : SlIn w 1 v nb get) (hf : ∀ i, i < nb → Fits [some .u8] (get i)) :
    Does Try.prog 3 #[.int .u64 x, .int .i64 n, .int .i64 m, .int .i64 a, v] w fun v w' => v = .bool true ∧ Fr (fun _ => False) w w' := by
  obtain ⟨y, rfl⟩ := u64_word hx
  obtain ⟨op, hop⟩ := choose_lt (n := nb) (p := fun i (o : BitVec 8) => get i = byteC o) fun i hi => by
    obtain ⟨b, _, hb, hw, h⟩ := (hf i hi).int
    obtain rfl := h.nil
    obtain ⟨z, rfl⟩ := u8_byte (a := b) (by have := Go.bounds_u8 hw; omega)
    exact ⟨z, hb⟩
  obtain ⟨hn, r, hr⟩ := hr
  obtain ⟨h1, h2⟩ := hr [r] 0 rfl
  exact (LargeApart_tr y n m a nb hn get op hop).law (vs' := [.int .u64 (y.toNat : Int), .int .i64 n, .int .i64 m, .int .i64 a, v]) [r] w rfl (by intro z hz; cases List.mem_singleton.1 hz; exact ⟨rfl, h2⟩) ⟨rfl, rfl, rfl, rfl, h1, trivial⟩
end Go.Proofs.Ytnleiiniajinbaa
