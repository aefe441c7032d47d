/-
  What the proof leans on, part 7: of the texts RefW, Lw18, Awake, GheapPlays, LawIn, GheapPlaysD.
-/
import Derived.Test.YtdpcccjkncagoaaGreatDoorPkF
set_option linter.unusedVariables false
set_option linter.unusedSimpArgs false
set_option linter.unusedSectionVars false
section
namespace Go.Proofs.YtdpcccjkncagoaaGreatDoor
open Go Go.Tum Go.Tum.Base
set_option maxRecDepth 4000
set_option maxHeartbeats 2000000 in
theorem rWhole_tr (m : HM) (hm : HOk m) (gl : List Gb) : Tr Tryz.prog 31 [ptr 0] (RHm m gl) (fun v K => v = .bool ((objN m).all (goodH m)) ∧ K = RHm m gl) := by
  have hn1 := hm.n1
  have hnb := hm.nb
  have hnr := hm.nr
  have hL := obs_len hm
  have hlN := obs_length m
  have hget : ∀ k (h : k < (objN m).length), (obs m)[k]? = some (((16 * (objN m)[k] : Nat) : Int), bitAt m.mw (objN m)[k]) := fun k h => by
    rw [obs, List.getElem?_map, List.getElem?_eq_getElem h]; rfl
  have hNm : ∀ i ∈ objN m, i < 16 * (m.man + m.mgd) := fun i hi => (objN_mem.1 hi).1
  unfold RHm
  generalize objN m = ns at *
  generalize obs m = L at *
  refine Tr.of row_tumbrelref18_Heap_Whole_ok rfl ?_
  repeat' (first | refine L_rs ?_ | refine dN ?_ | refine d0 ?_ | refine L_block ?_ | refine L_true rfl ?_ | refine L_false rfl ?_ | refine L_skip (Nx.goL ?_) | refine L_skip ?_ | refine L_exit (Nx.goL ?_) | refine L_exit ?_ | refine iF (fun h => ?_) (fun h => ?_) | refine aX ?_ | refine aA ?_ | refine aS ?_ | refine aK ?_ | refine aI (hn := ?_) | refine aD ?_ | refine aR ?_ | refine aM ?_ | refine sP 31 (fun h => ?_) (fun h => ?_) | refine L_reg ?_ | refine L_seq ?_ | exact ⟨rfl, rfl⟩ | fail)
  refine LWp.pick [0, 10, 11, 12] R9 rfl rfl rfl (L_loop (fun q l K => ∃ k : Nat, q = L.length - k ∧ k ≤ L.length ∧ ns.all (goodH m) = (ns.drop k).all (goodH m) ∧ l = [(0, ptr 0), (10, slB 2 L.length), (11, .int .i64 L.length), (12, .int .i64 k)] ∧ K = RHL m.man (m.man + m.mgd) m.bs m.rs L gl) L.length ⟨0, rfl, by omega, rfl, rfl, rfl⟩ ?_)
  rintro q _ _ ⟨k, rfl, hk, hall, rfl, rfl⟩
  first | refine L_seq (L_rs (S_done [] rfl (Nx.goL (iF (fun h => L_skip (Nx.goL ?_)) (fun h => L_exit ?_))))) | refine L_rs (S_done [] rfl (Nx.goL (L_seq (iF (fun h => L_skip (Nx.goL ?_)) (fun h => L_exit ?_)))))
  · have hk2 : k < ns.length := by omega
    have hi := hNm ns[k] (List.getElem_mem hk2)
    have hgk := hget k hk2
    rw [List.drop_eq_getElem_cons hk2, List.all_cons] at hall
    generalize ns[k] = i at *
    generalize bitAt m.mw i = b at *
    have hH := rHead_tr m.bs (by omega) (16 * i) (by omega) (by omega)
    have hp : i / 16 < m.rs.length := by omega
    have hg : m.rs[i / 16]? = some m.rs[i / 16] := List.getElem?_eq_getElem hp
    have hgp : pAt m.rs (i / 16 : Nat) = m.rs[i / 16] := by rw [pAt_nat, List.getD_eq_getElem?_getD, hg]; rfl
    cases hh : headF m.bs (16 * i) with
    | none =>
      have hgd : goodH m i = false := by unfold goodH; rw [hh]
      rw [hgd, Bool.false_and] at hall
      rw [hh] at hH
      rw [hall]
      repeat' (first | refine L_rs ?_ | refine dN ?_ | refine dR ?_ | refine d0 ?_ | refine L_block ?_ | refine rT ?_ | refine L_true rfl ?_ | refine L_false rfl ?_ | refine L_skip (Nx.goL ?_) | refine L_skip ?_ | refine L_exit (Nx.goL ?_) | refine L_exit ?_ | refine iF (fun h => ?_) (fun h => ?_) | refine aX ?_ | refine S_Q [] rfl rfl (QY.ldRow (a := (((16 * i : Nat) : Int), b)) obC_ok rfl rfl hgk (by decide)) ?_ | refine cP [3] (hH) ?_ | (refine S_E [] rfl rfl (esafe_ok rfl) ?_; rintro _ _ ⟨rfl, rfl⟩; refine ⟨(by repeat' (first | exact trivial | refine ⟨⟨qsafe_ok (st := []) rfl, Sure.of rfl⟩, ?_⟩ | refine ⟨.inl rfl, ?_⟩ | refine ⟨.inr ⟨qsafe_ok (st := []) rfl, Sure.of rfl⟩, ?_⟩ | refine ⟨⟨qsafe_ok (st := []) rfl, Sure.slice (by omega)⟩, ?_⟩ | refine ⟨.inr ⟨qsafe_ok (st := []) rfl, Sure.slice (by omega)⟩, ?_⟩ | refine ⟨.inr ⟨QY.neqB rfl (by kernel_rfl) rfl rfl, Sure.of rfl⟩, ?_⟩ | refine ⟨.inr ⟨QY.eqlB rfl (by kernel_rfl) rfl rfl, Sure.of rfl⟩, ?_⟩ | fail)), LSt.nf ?_⟩; conv => whnf) | refine L_rT ?_ | refine L_regT ?_ | refine P_lin rfl ?_ | refine P_A [] rfl ?_ ?_ | refine P_Q [] rfl rfl (QY.ldRow (a := (((16 * i : Nat) : Int), b)) obC_ok rfl rfl hgk (by decide)) ?_ | (refine P_Ed [] rfl rfl (EWd.callP [3] (hH) rfl rfl (by decide) (by repeat' (first | exact trivial | refine ⟨rfl, ?_⟩ | fail)) rfl rfl) (disj_nil _) (nm_nilE _) (nm_nilT _) ?_; rintro _ _ ⟨rfl, rfl⟩; refine ⟨(by repeat' (first | exact trivial | refine ⟨⟨qsafe_ok (st := []) rfl, Sure.of rfl⟩, ?_⟩ | refine ⟨.inl rfl, ?_⟩ | refine ⟨.inr ⟨qsafe_ok (st := []) rfl, Sure.of rfl⟩, ?_⟩ | refine ⟨⟨qsafe_ok (st := []) rfl, Sure.slice (by omega)⟩, ?_⟩ | refine ⟨.inr ⟨qsafe_ok (st := []) rfl, Sure.slice (by omega)⟩, ?_⟩ | refine ⟨.inr ⟨QY.neqB rfl (by kernel_rfl) rfl rfl, Sure.of rfl⟩, ?_⟩ | refine ⟨.inr ⟨QY.eqlB rfl (by kernel_rfl) rfl rfl, Sure.of rfl⟩, ?_⟩ | fail)), ?_⟩) | (refine P_E [] rfl rfl (esafe_ok rfl) ?_; rintro _ _ ⟨rfl, rfl⟩; refine ⟨(by repeat' (first | exact trivial | refine ⟨⟨qsafe_ok (st := []) rfl, Sure.of rfl⟩, ?_⟩ | refine ⟨.inl rfl, ?_⟩ | refine ⟨.inr ⟨qsafe_ok (st := []) rfl, Sure.of rfl⟩, ?_⟩ | refine ⟨⟨qsafe_ok (st := []) rfl, Sure.slice (by omega)⟩, ?_⟩ | refine ⟨.inr ⟨qsafe_ok (st := []) rfl, Sure.slice (by omega)⟩, ?_⟩ | refine ⟨.inr ⟨QY.neqB rfl (by kernel_rfl) rfl rfl, Sure.of rfl⟩, ?_⟩ | refine ⟨.inr ⟨QY.eqlB rfl (by kernel_rfl) rfl rfl, Sure.of rfl⟩, ?_⟩ | fail)), LPt.nf ?_⟩; conv => whnf) | refine aA ?_ | refine aS ?_ | refine aK ?_ | refine aI (hn := ?_) | refine aD ?_ | refine aR ?_ | refine aM ?_ | refine sP 31 (fun h => ?_) (fun h => ?_) | refine L_reg ?_ | refine L_seq ?_ | exact ⟨rfl, rfl⟩ | fail)
    | some x =>
      obtain ⟨r, n⟩ := x
      have hC := rClass_tr r n
      rw [hh] at hH
      change Tr Tryz.prog _ _ _ (fun v K => v = .tuple ⟨[shV r n, .int .i64 0]⟩ ∧ K = [BL m.bs]) at hH
      obtain ⟨cl, hcl0⟩ : ∃ cl, cl = m.rs[i / 16].cls := ⟨_, rfl⟩
      by_cases hcl : shC r n = cl
      · have hgd : goodH m i = true := by unfold goodH; rw [hh, hgp, ← hcl0]; exact decide_eq_true hcl
        rw [hgd, Bool.true_and] at hall
        repeat' (first | refine L_rs ?_ | refine dN ?_ | refine dR ?_ | refine d0 ?_ | refine L_block ?_ | refine rT ?_ | refine L_true rfl ?_ | refine L_false rfl ?_ | refine L_skip (Nx.goL ?_) | refine L_skip ?_ | refine L_exit (Nx.goL ?_) | refine L_exit ?_ | refine iF (fun h => ?_) (fun h => ?_) | refine aX ?_ | refine S_Q [] rfl rfl (QY.ldRow (a := (((16 * i : Nat) : Int), b)) obC_ok rfl rfl hgk (by decide)) ?_ | refine cP [3] (hH) ?_ | (refine S_E [] rfl rfl (esafe_ok rfl) ?_; rintro _ _ ⟨rfl, rfl⟩; refine ⟨(by repeat' (first | exact trivial | refine ⟨⟨qsafe_ok (st := []) rfl, Sure.of rfl⟩, ?_⟩ | refine ⟨.inl rfl, ?_⟩ | refine ⟨.inr ⟨qsafe_ok (st := []) rfl, Sure.of rfl⟩, ?_⟩ | refine ⟨⟨qsafe_ok (st := []) rfl, Sure.slice (by omega)⟩, ?_⟩ | refine ⟨.inr ⟨qsafe_ok (st := []) rfl, Sure.slice (by omega)⟩, ?_⟩ | refine ⟨.inr ⟨QY.neqB rfl (by kernel_rfl) rfl rfl, Sure.of rfl⟩, ?_⟩ | refine ⟨.inr ⟨QY.eqlB rfl (by kernel_rfl) rfl rfl, Sure.of rfl⟩, ?_⟩ | fail)), LSt.nf ?_⟩; conv => whnf) | refine S_Q [] rfl rfl (QY.divN (c := ((i / 16 : Nat) : Int)) rfl rfl (by omega) (by omega) (by omega)) ?_ | refine S_Q [] rfl rfl (QY.ldF (j := 1) (u := .int .i64 cl) PRow.ok rfl rfl hg (by rw [hcl0]; rfl) rfl) ?_ | refine cP [] (hC) ?_ (hc := (by repeat' (first | exact trivial | refine ⟨⟨qsafe_ok (st := []) rfl, Sure.of rfl⟩, ?_⟩ | refine ⟨.inl rfl, ?_⟩ | refine ⟨.inr ⟨qsafe_ok (st := []) rfl, Sure.of rfl⟩, ?_⟩ | refine ⟨⟨qsafe_ok (st := []) rfl, Sure.slice (by omega)⟩, ?_⟩ | refine ⟨.inr ⟨qsafe_ok (st := []) rfl, Sure.slice (by omega)⟩, ?_⟩ | refine ⟨.inr ⟨QY.neqB rfl (by kernel_rfl) rfl rfl, Sure.of rfl⟩, ?_⟩ | refine ⟨.inr ⟨QY.eqlB rfl (by kernel_rfl) rfl rfl, Sure.of rfl⟩, ?_⟩ | refine ⟨.inr ⟨QY.ldF (j := 1) (u := .int .i64 cl) PRow.ok rfl rfl hg (by rw [hcl0]; rfl) rfl, Sure.of rfl⟩, ?_⟩ | fail))) | refine L_rT ?_ | refine L_regT ?_ | refine P_lin rfl ?_ | refine P_A [] rfl ?_ ?_ | refine P_Q [] rfl rfl (QY.ldRow (a := (((16 * i : Nat) : Int), b)) obC_ok rfl rfl hgk (by decide)) ?_ | (refine P_Ed [] rfl rfl (EWd.callP [3] (hH) rfl rfl (by decide) (by repeat' (first | exact trivial | refine ⟨rfl, ?_⟩ | fail)) rfl rfl) (disj_nil _) (nm_nilE _) (nm_nilT _) ?_; rintro _ _ ⟨rfl, rfl⟩; refine ⟨(by repeat' (first | exact trivial | refine ⟨⟨qsafe_ok (st := []) rfl, Sure.of rfl⟩, ?_⟩ | refine ⟨.inl rfl, ?_⟩ | refine ⟨.inr ⟨qsafe_ok (st := []) rfl, Sure.of rfl⟩, ?_⟩ | refine ⟨⟨qsafe_ok (st := []) rfl, Sure.slice (by omega)⟩, ?_⟩ | refine ⟨.inr ⟨qsafe_ok (st := []) rfl, Sure.slice (by omega)⟩, ?_⟩ | refine ⟨.inr ⟨QY.neqB rfl (by kernel_rfl) rfl rfl, Sure.of rfl⟩, ?_⟩ | refine ⟨.inr ⟨QY.eqlB rfl (by kernel_rfl) rfl rfl, Sure.of rfl⟩, ?_⟩ | fail)), ?_⟩) | (refine P_E [] rfl rfl (esafe_ok rfl) ?_; rintro _ _ ⟨rfl, rfl⟩; refine ⟨(by repeat' (first | exact trivial | refine ⟨⟨qsafe_ok (st := []) rfl, Sure.of rfl⟩, ?_⟩ | refine ⟨.inl rfl, ?_⟩ | refine ⟨.inr ⟨qsafe_ok (st := []) rfl, Sure.of rfl⟩, ?_⟩ | refine ⟨⟨qsafe_ok (st := []) rfl, Sure.slice (by omega)⟩, ?_⟩ | refine ⟨.inr ⟨qsafe_ok (st := []) rfl, Sure.slice (by omega)⟩, ?_⟩ | refine ⟨.inr ⟨QY.neqB rfl (by kernel_rfl) rfl rfl, Sure.of rfl⟩, ?_⟩ | refine ⟨.inr ⟨QY.eqlB rfl (by kernel_rfl) rfl rfl, Sure.of rfl⟩, ?_⟩ | fail)), LPt.nf ?_⟩; conv => whnf) | refine P_Q [] rfl rfl (QY.divN (c := ((i / 16 : Nat) : Int)) rfl rfl (by omega) (by omega) (by omega)) ?_ | refine P_Q [] rfl rfl (QY.ldF (j := 1) (u := .int .i64 cl) PRow.ok rfl rfl hg (by rw [hcl0]; rfl) rfl) ?_ | (refine P_Ed [] rfl rfl (EWd.callP [] (hC) rfl rfl (by decide) (by repeat' (first | exact trivial | refine ⟨rfl, ?_⟩ | fail)) rfl rfl) (disj_nil _) (nm_nilE _) (nm_nilT _) ?_; rintro _ _ ⟨rfl, rfl⟩; refine ⟨(by repeat' (first | exact trivial | refine ⟨⟨qsafe_ok (st := []) rfl, Sure.of rfl⟩, ?_⟩ | refine ⟨.inl rfl, ?_⟩ | refine ⟨.inr ⟨qsafe_ok (st := []) rfl, Sure.of rfl⟩, ?_⟩ | refine ⟨⟨qsafe_ok (st := []) rfl, Sure.slice (by omega)⟩, ?_⟩ | refine ⟨.inr ⟨qsafe_ok (st := []) rfl, Sure.slice (by omega)⟩, ?_⟩ | refine ⟨.inr ⟨QY.neqB rfl (by kernel_rfl) rfl rfl, Sure.of rfl⟩, ?_⟩ | refine ⟨.inr ⟨QY.eqlB rfl (by kernel_rfl) rfl rfl, Sure.of rfl⟩, ?_⟩ | refine ⟨.inr ⟨QY.ldF (j := 1) (u := .int .i64 cl) PRow.ok rfl rfl hg (by rw [hcl0]; rfl) rfl, Sure.of rfl⟩, ?_⟩ | fail)), ?_⟩) | refine aA ?_ | refine aS ?_ | refine aK ?_ | refine aI (hn := ?_) | refine aD ?_ | refine aR ?_ | refine aM ?_ | refine sP 31 (fun h => ?_) (fun h => ?_) | refine L_reg ?_ | refine L_seq ?_ | exact ⟨rfl, rfl⟩ | fail)
        all_goals first | contradiction | exact Nx.pick [0, 10, 11, 12] R9 rfl rfl rfl ⟨L.length - (k + 1), by omega, k + 1, rfl, by omega, hall, rfl, rfl⟩
      · have hgd : goodH m i = false := by unfold goodH; rw [hh, hgp, ← hcl0]; exact decide_eq_false hcl
        rw [hgd, Bool.false_and] at hall
        rw [hall]
        repeat' (first | refine L_rs ?_ | refine dN ?_ | refine dR ?_ | refine d0 ?_ | refine L_block ?_ | refine rT ?_ | refine L_true rfl ?_ | refine L_false rfl ?_ | refine L_skip (Nx.goL ?_) | refine L_skip ?_ | refine L_exit (Nx.goL ?_) | refine L_exit ?_ | refine iF (fun h => ?_) (fun h => ?_) | refine aX ?_ | refine S_Q [] rfl rfl (QY.ldRow (a := (((16 * i : Nat) : Int), b)) obC_ok rfl rfl hgk (by decide)) ?_ | refine cP [3] (hH) ?_ | (refine S_E [] rfl rfl (esafe_ok rfl) ?_; rintro _ _ ⟨rfl, rfl⟩; refine ⟨(by repeat' (first | exact trivial | refine ⟨⟨qsafe_ok (st := []) rfl, Sure.of rfl⟩, ?_⟩ | refine ⟨.inl rfl, ?_⟩ | refine ⟨.inr ⟨qsafe_ok (st := []) rfl, Sure.of rfl⟩, ?_⟩ | refine ⟨⟨qsafe_ok (st := []) rfl, Sure.slice (by omega)⟩, ?_⟩ | refine ⟨.inr ⟨qsafe_ok (st := []) rfl, Sure.slice (by omega)⟩, ?_⟩ | refine ⟨.inr ⟨QY.neqB rfl (by kernel_rfl) rfl rfl, Sure.of rfl⟩, ?_⟩ | refine ⟨.inr ⟨QY.eqlB rfl (by kernel_rfl) rfl rfl, Sure.of rfl⟩, ?_⟩ | fail)), LSt.nf ?_⟩; conv => whnf) | refine S_Q [] rfl rfl (QY.divN (c := ((i / 16 : Nat) : Int)) rfl rfl (by omega) (by omega) (by omega)) ?_ | refine S_Q [] rfl rfl (QY.ldF (j := 1) (u := .int .i64 cl) PRow.ok rfl rfl hg (by rw [hcl0]; rfl) rfl) ?_ | refine cP [] (hC) ?_ (hc := (by repeat' (first | exact trivial | refine ⟨⟨qsafe_ok (st := []) rfl, Sure.of rfl⟩, ?_⟩ | refine ⟨.inl rfl, ?_⟩ | refine ⟨.inr ⟨qsafe_ok (st := []) rfl, Sure.of rfl⟩, ?_⟩ | refine ⟨⟨qsafe_ok (st := []) rfl, Sure.slice (by omega)⟩, ?_⟩ | refine ⟨.inr ⟨qsafe_ok (st := []) rfl, Sure.slice (by omega)⟩, ?_⟩ | refine ⟨.inr ⟨QY.neqB rfl (by kernel_rfl) rfl rfl, Sure.of rfl⟩, ?_⟩ | refine ⟨.inr ⟨QY.eqlB rfl (by kernel_rfl) rfl rfl, Sure.of rfl⟩, ?_⟩ | refine ⟨.inr ⟨QY.ldF (j := 1) (u := .int .i64 cl) PRow.ok rfl rfl hg (by rw [hcl0]; rfl) rfl, Sure.of rfl⟩, ?_⟩ | fail))) | refine L_rT ?_ | refine L_regT ?_ | refine P_lin rfl ?_ | refine P_A [] rfl ?_ ?_ | refine P_Q [] rfl rfl (QY.ldRow (a := (((16 * i : Nat) : Int), b)) obC_ok rfl rfl hgk (by decide)) ?_ | (refine P_Ed [] rfl rfl (EWd.callP [3] (hH) rfl rfl (by decide) (by repeat' (first | exact trivial | refine ⟨rfl, ?_⟩ | fail)) rfl rfl) (disj_nil _) (nm_nilE _) (nm_nilT _) ?_; rintro _ _ ⟨rfl, rfl⟩; refine ⟨(by repeat' (first | exact trivial | refine ⟨⟨qsafe_ok (st := []) rfl, Sure.of rfl⟩, ?_⟩ | refine ⟨.inl rfl, ?_⟩ | refine ⟨.inr ⟨qsafe_ok (st := []) rfl, Sure.of rfl⟩, ?_⟩ | refine ⟨⟨qsafe_ok (st := []) rfl, Sure.slice (by omega)⟩, ?_⟩ | refine ⟨.inr ⟨qsafe_ok (st := []) rfl, Sure.slice (by omega)⟩, ?_⟩ | refine ⟨.inr ⟨QY.neqB rfl (by kernel_rfl) rfl rfl, Sure.of rfl⟩, ?_⟩ | refine ⟨.inr ⟨QY.eqlB rfl (by kernel_rfl) rfl rfl, Sure.of rfl⟩, ?_⟩ | fail)), ?_⟩) | (refine P_E [] rfl rfl (esafe_ok rfl) ?_; rintro _ _ ⟨rfl, rfl⟩; refine ⟨(by repeat' (first | exact trivial | refine ⟨⟨qsafe_ok (st := []) rfl, Sure.of rfl⟩, ?_⟩ | refine ⟨.inl rfl, ?_⟩ | refine ⟨.inr ⟨qsafe_ok (st := []) rfl, Sure.of rfl⟩, ?_⟩ | refine ⟨⟨qsafe_ok (st := []) rfl, Sure.slice (by omega)⟩, ?_⟩ | refine ⟨.inr ⟨qsafe_ok (st := []) rfl, Sure.slice (by omega)⟩, ?_⟩ | refine ⟨.inr ⟨QY.neqB rfl (by kernel_rfl) rfl rfl, Sure.of rfl⟩, ?_⟩ | refine ⟨.inr ⟨QY.eqlB rfl (by kernel_rfl) rfl rfl, Sure.of rfl⟩, ?_⟩ | fail)), LPt.nf ?_⟩; conv => whnf) | refine P_Q [] rfl rfl (QY.divN (c := ((i / 16 : Nat) : Int)) rfl rfl (by omega) (by omega) (by omega)) ?_ | refine P_Q [] rfl rfl (QY.ldF (j := 1) (u := .int .i64 cl) PRow.ok rfl rfl hg (by rw [hcl0]; rfl) rfl) ?_ | (refine P_Ed [] rfl rfl (EWd.callP [] (hC) rfl rfl (by decide) (by repeat' (first | exact trivial | refine ⟨rfl, ?_⟩ | fail)) rfl rfl) (disj_nil _) (nm_nilE _) (nm_nilT _) ?_; rintro _ _ ⟨rfl, rfl⟩; refine ⟨(by repeat' (first | exact trivial | refine ⟨⟨qsafe_ok (st := []) rfl, Sure.of rfl⟩, ?_⟩ | refine ⟨.inl rfl, ?_⟩ | refine ⟨.inr ⟨qsafe_ok (st := []) rfl, Sure.of rfl⟩, ?_⟩ | refine ⟨⟨qsafe_ok (st := []) rfl, Sure.slice (by omega)⟩, ?_⟩ | refine ⟨.inr ⟨qsafe_ok (st := []) rfl, Sure.slice (by omega)⟩, ?_⟩ | refine ⟨.inr ⟨QY.neqB rfl (by kernel_rfl) rfl rfl, Sure.of rfl⟩, ?_⟩ | refine ⟨.inr ⟨QY.eqlB rfl (by kernel_rfl) rfl rfl, Sure.of rfl⟩, ?_⟩ | refine ⟨.inr ⟨QY.ldF (j := 1) (u := .int .i64 cl) PRow.ok rfl rfl hg (by rw [hcl0]; rfl) rfl, Sure.of rfl⟩, ?_⟩ | fail)), ?_⟩) | refine aA ?_ | refine aS ?_ | refine aK ?_ | refine aI (hn := ?_) | refine aD ?_ | refine aR ?_ | refine aM ?_ | refine sP 31 (fun h => ?_) (fun h => ?_) | refine L_reg ?_ | refine L_seq ?_ | exact ⟨rfl, rfl⟩ | fail)
        all_goals first | contradiction | exact ⟨rfl, rfl⟩
  · obtain rfl : k = L.length := by omega
    refine Nx.goL ?_
    rw [hall, List.drop_eq_nil_of_le (by omega)]
    repeat' (first | refine L_rs ?_ | refine dN ?_ | refine dR ?_ | refine d0 ?_ | refine L_block ?_ | refine rT ?_ | refine L_true rfl ?_ | refine L_false rfl ?_ | refine L_skip (Nx.goL ?_) | refine L_skip ?_ | refine L_exit (Nx.goL ?_) | refine L_exit ?_ | refine iF (fun h => ?_) (fun h => ?_) | refine aX ?_ | refine aA ?_ | refine aS ?_ | refine aK ?_ | refine aI (hn := ?_) | refine aD ?_ | refine aR ?_ | refine aM ?_ | refine sP 31 (fun h => ?_) (fun h => ?_) | refine L_reg ?_ | refine L_seq ?_ | exact ⟨rfl, rfl⟩ | fail)
end Go.Proofs.YtdpcccjkncagoaaGreatDoor
end
section
namespace Go.Tum
open Go
theorem Tr.closedT {P : Program} {f : FuncId} {vs : List Value} {v : Value} (hc : callable P f = true) (hvs : vs.all stillS = true) (hs : stillT v = true) (h : ∀ w, TabOk P (fun _ => False) w → Does P f vs.toArray w fun v' w' => v' = v ∧ Fr (fun _ => False) w w') : Tr P f vs [] (fun u K => u = v ∧ K = []) := by
  intro X w0 w E vs' hA hR hv
  obtain rfl := L2.vr_still hvs hv
  refine ⟨hc, (h w fun g hg => ?_).mono ?_⟩
  · obtain ⟨h1, h2, h3⟩ := hA.2.2 g hg
    exact ⟨fun i x hx => by rw [hR.fr.cell h3 h2]; exact h1 i x hx, fun e => e, Nat.lt_of_lt_of_le h3 hR.fr.size⟩
  · rintro _ w' ⟨rfl, hf⟩
    exact ⟨E, _, [], NA.Ext.refl _ E, Nat.le_refl _, VR.selfT hs, hR.keep hf, rfl, rfl⟩
end Go.Tum
end
section
namespace Go.Proofs.YtdpcccjkncagoaaGreatDoor
open Go Go.Tum
theorem DoorH.of {w : World} (h : TabOk Tryz.prog (fun _ => False) w) : DoorH (fun _ => False) w := by
  obtain ⟨h1, h2, h3⟩ := h 0 (by kernel_rfl)
  exact ⟨h1, h2, h3⟩
theorem DoorH.tab {w : World} (h : DoorH (fun _ => False) w) : TabOk Tryz.prog (fun _ => False) w := fun g hg => by
  obtain rfl : g = 0 := Option.some.inj (hg.symm.trans (by kernel_rfl))
  exact ⟨h.1, h.2.1, h.2.2⟩
def rowsA : List FnRow := [row_tumbrellaw18_awake, row_region_New, row_gheap_New, row_gheap_Heap_Alloc, row_gheap_Heap_Has, row_arena_New, row_link_New, row_pages_New, row_large_New, row_region_Region_Config, row_region_Region_Arena, row_arena_Arena_Len, row_bitset_New, row_object_Shape_Class, row_gheap_Heap_place, row_region_Region_Pages, row_pages_Table_Map, row_class_Base, row_object_Make, row_bitset_Set_Put, row_bitset_Set_Has, row_link_mix, row_object_Shape_Bytes, row_class_Size, row_gheap_Heap_managed, row_gheap_Heap_row, row_gheap_Heap_slot, row_pages_Row_first, row_pages_Table_cut, row_pages_Table_place, row_class_Slots, row_arena_Arena_Word, row_arena_Arena_Fill, row_object_Shape_word, row_arena_Arena_SetWord, row_bitset_Set_in, row_object_Shape_may, row_class_may, row_pages_Table_Row, row_pages_Table_Len, row_pages_Row_free, row_arena_Arena_word, row_num_Get, row_arena_Arena_in, row_num_Put, row_bitset_Set_Len]
theorem rowsA_ok : ∀ x ∈ rowsA, x.Ok Tryz.prog := by
  refine List.forall_mem_cons.2 ⟨row_tumbrellaw18_awake_ok, ?_⟩
  refine List.forall_mem_cons.2 ⟨row_region_New_ok, ?_⟩
  refine List.forall_mem_cons.2 ⟨row_gheap_New_ok, ?_⟩
  refine List.forall_mem_cons.2 ⟨row_gheap_Heap_Alloc_ok, ?_⟩
  refine List.forall_mem_cons.2 ⟨row_gheap_Heap_Has_ok, ?_⟩
  refine List.forall_mem_cons.2 ⟨row_arena_New_ok, ?_⟩
  refine List.forall_mem_cons.2 ⟨row_link_New_ok, ?_⟩
  refine List.forall_mem_cons.2 ⟨row_pages_New_ok, ?_⟩
  refine List.forall_mem_cons.2 ⟨row_large_New_ok, ?_⟩
  refine List.forall_mem_cons.2 ⟨row_region_Region_Config_ok, ?_⟩
  refine List.forall_mem_cons.2 ⟨row_region_Region_Arena_ok, ?_⟩
  refine List.forall_mem_cons.2 ⟨row_arena_Arena_Len_ok, ?_⟩
  refine List.forall_mem_cons.2 ⟨row_bitset_New_ok, ?_⟩
  refine List.forall_mem_cons.2 ⟨row_object_Shape_Class_ok, ?_⟩
  refine List.forall_mem_cons.2 ⟨row_gheap_Heap_place_ok, ?_⟩
  refine List.forall_mem_cons.2 ⟨row_region_Region_Pages_ok, ?_⟩
  refine List.forall_mem_cons.2 ⟨row_pages_Table_Map_ok, ?_⟩
  refine List.forall_mem_cons.2 ⟨row_class_Base_ok, ?_⟩
  refine List.forall_mem_cons.2 ⟨row_object_Make_ok, ?_⟩
  refine List.forall_mem_cons.2 ⟨row_bitset_Set_Put_ok, ?_⟩
  refine List.forall_mem_cons.2 ⟨row_bitset_Set_Has_ok, ?_⟩
  refine List.forall_mem_cons.2 ⟨row_link_mix_ok, ?_⟩
  refine List.forall_mem_cons.2 ⟨row_object_Shape_Bytes_ok, ?_⟩
  refine List.forall_mem_cons.2 ⟨row_class_Size_ok, ?_⟩
  refine List.forall_mem_cons.2 ⟨row_gheap_Heap_managed_ok, ?_⟩
  refine List.forall_mem_cons.2 ⟨row_gheap_Heap_row_ok, ?_⟩
  refine List.forall_mem_cons.2 ⟨row_gheap_Heap_slot_ok, ?_⟩
  refine List.forall_mem_cons.2 ⟨row_pages_Row_first_ok, ?_⟩
  refine List.forall_mem_cons.2 ⟨row_pages_Table_cut_ok, ?_⟩
  refine List.forall_mem_cons.2 ⟨row_pages_Table_place_ok, ?_⟩
  refine List.forall_mem_cons.2 ⟨row_class_Slots_ok, ?_⟩
  refine List.forall_mem_cons.2 ⟨row_arena_Arena_Word_ok, ?_⟩
  refine List.forall_mem_cons.2 ⟨row_arena_Arena_Fill_ok, ?_⟩
  refine List.forall_mem_cons.2 ⟨row_object_Shape_word_ok, ?_⟩
  refine List.forall_mem_cons.2 ⟨row_arena_Arena_SetWord_ok, ?_⟩
  refine List.forall_mem_cons.2 ⟨row_bitset_Set_in_ok, ?_⟩
  refine List.forall_mem_cons.2 ⟨row_object_Shape_may_ok, ?_⟩
  refine List.forall_mem_cons.2 ⟨row_class_may_ok, ?_⟩
  refine List.forall_mem_cons.2 ⟨row_pages_Table_Row_ok, ?_⟩
  refine List.forall_mem_cons.2 ⟨row_pages_Table_Len_ok, ?_⟩
  refine List.forall_mem_cons.2 ⟨row_pages_Row_free_ok, ?_⟩
  refine List.forall_mem_cons.2 ⟨row_arena_Arena_word_ok, ?_⟩
  refine List.forall_mem_cons.2 ⟨row_num_Get_ok, ?_⟩
  refine List.forall_mem_cons.2 ⟨row_arena_Arena_in_ok, ?_⟩
  refine List.forall_mem_cons.2 ⟨row_num_Put_ok, ?_⟩
  refine List.forall_mem_cons.2 ⟨row_bitset_Set_Len_ok, ?_⟩
  exact fun x hx => by cases hx
theorem awake18_tr : Tr Tryz.prog 22 [] [] (fun v K => v = .bool true ∧ K = []) :=
  Tr.closedT (by kernel_rfl) rfl rfl fun w hw => closed_callH (vs := []) (fuel := 5000) ovTZ_ok rowsA_ok (rawQ1_ok _) (rawE2_ok _) rfl rfl rfl (by kernel_rfl) w (DoorH.of hw)
end Go.Proofs.YtdpcccjkncagoaaGreatDoor
end
section
namespace Go.Proofs.YtdpcccjkncagoaaGreatDoor
open Go Go.Tum Go.Tum.Base
set_option maxRecDepth 4000
set_option maxHeartbeats 4000000 in
theorem GheapPlays_tr (a b : Int) (ha : 0 ≤ a ∧ a < 256) (hb : 0 ≤ b ∧ b < 256) (nb : Nat) (hnb : nb ≤ 9223372036854775807) (get : Nat → List Value) (op : Nat → Op18) (hop : ∀ i, i < nb → get i = (op i).cells ∧ (op i).In) :
    TrK Tryz.prog [(0, nb * 10, rowG 10 get)] [0] 5 [.int .u8 a, .int .u8 b, slB 0 nb] [.dead] (fun v _ => v = .bool true) := by
  obtain ⟨M, hM⟩ : ∃ M : Nat, 1 + a % 3 = M := ⟨(1 + a % 3).toNat, by omega⟩
  obtain ⟨N, hN⟩ : ∃ N : Nat, b % 5 = N := ⟨(b % 5).toNat, by omega⟩
  have hMk := make18_tr M N (by omega) (by omega)
  have hI0 := HI.init (man := M) (mgd := N) (by omega) (by omega)
  have hAw := awake18_tr
  generalize initM M N = m0 at *
  refine Tr.of row_tumbrellaw18_GheapPlays_ok rfl ?_
  repeat' (first | refine L_rs ?_ | refine dN ?_ | refine dR ?_ | refine d0 ?_ | refine L_block ?_ | refine rT ?_ | refine L_true rfl ?_ | refine L_false rfl ?_ | refine L_skip (Nx.goL ?_) | refine L_skip ?_ | refine L_exit (Nx.goL ?_) | refine L_exit ?_ | refine iF (fun h => ?_) (fun h => ?_) | refine aX ?_ | refine S_Q [] rfl rfl (QY.cvi rfl (wrap64_id (by omega) (by omega))) ?_ | refine S_Q [] rfl rfl (QY.add rfl rfl hM (by omega) (by omega)) ?_ | refine S_Q [] rfl rfl (QY.remN rfl rfl hN (by omega) (by omega)) ?_ | (refine cF [] (hMk) ?_; conv => whnf) | refine aA ?_ | refine aS ?_ | refine aK ?_ | refine aI (hn := ?_) | refine aD ?_ | refine aR ?_ | refine aM ?_ | refine sP 33 (fun h => ?_) (fun h => ?_) | refine sP 38 (fun h => ?_) (fun h => ?_) | refine L_reg ?_ | refine L_seq ?_ | exact ⟨rfl, rfl⟩ | fail)
  refine LWp.pick [7, 20, 21, 22] Q24 rfl rfl rfl (L_loop (fun q l K => ∃ (i : Nat) (m : HM) (gl : List Gb), q = nb - i ∧ i ≤ nb ∧ HI m gl ∧ l = [(7, ptr 1), (20, slB 0 nb), (21, .int .i64 nb), (22, .int .i64 i)] ∧ K = PL1 m gl) nb ⟨0, m0, [], rfl, by omega, hI0, rfl, rfl⟩ ?_)
  rintro q _ _ ⟨i, m, gl, rfl, hi, hI, rfl, rfl⟩
  first | refine L_seq (L_rs (S_done [] rfl (Nx.goL (iF (fun h => L_skip (Nx.goL ?_)) (fun h => L_exit ?_))))) | refine L_rs (S_done [] rfl (Nx.goL (L_seq (iF (fun h => L_skip (Nx.goL ?_)) (fun h => L_exit ?_)))))
  · have hi' : i < nb := by omega
    obtain ⟨e, ho⟩ := hop i hi'
    have hS := step_tr m gl hI (op i) ho true
    have hI' := hI.step (op i) true
    generalize (stepM m gl (op i) true).1 = m' at *
    generalize (stepM m gl (op i) true).2 = gl' at *
    have hSm := pSame_tr m' gl' hI'
    have hCk := hCheck_tr m' hI'.toHOk
    have hWh := rWhole_tr m' hI'.toHOk gl'
    unfold checkE at hCk
    cases hw : (objN m').all (goodH m')
    all_goals
      rw [hw] at hCk hWh
      repeat' (first | refine L_rs ?_ | refine dN ?_ | refine dR ?_ | refine d0 ?_ | refine L_block ?_ | refine rT ?_ | refine L_true rfl ?_ | refine L_false rfl ?_ | refine L_skip (Nx.goL ?_) | refine L_skip ?_ | refine L_exit (Nx.goL ?_) | refine L_exit ?_ | refine iF (fun h => ?_) (fun h => ?_) | refine aX ?_ | refine S_Q (v := .agg ⟨(op i).cells⟩) [] rfl rfl (by rw [← e]; exact QY.rowA (j := 0) i rfl rfl rfl hi' (by rw [e]; rfl) (by rw [e]; rfl)) ?_ | (refine cW Q23 (hS) ?_; conv => whnf) | refine cP Q23 (hSm) ?_ | refine cP QH (hCk) ?_ | refine cP QR (hWh) ?_ | refine S_Q [] rfl rfl (QY.neqB rfl (by kernel_rfl) rfl rfl) ?_ | refine cP [] (hAw) ?_ | refine aA ?_ | refine aS ?_ | refine aK ?_ | refine aI (hn := ?_) | refine aD ?_ | refine aR ?_ | refine aM ?_ | refine sP 33 (fun h => ?_) (fun h => ?_) | refine sP 38 (fun h => ?_) (fun h => ?_) | refine L_reg ?_ | refine L_seq ?_ | exact ⟨rfl, rfl⟩ | fail)
      all_goals first | exact rfl | exact Nx.pick [7, 20, 21, 22] Q24 rfl rfl rfl ⟨nb - (i + 1), by omega, i + 1, m', gl', rfl, by omega, hI', rfl, rfl⟩
  · refine Nx.goL ?_
    repeat' (first | refine L_rs ?_ | refine dN ?_ | refine dR ?_ | refine d0 ?_ | refine L_block ?_ | refine rT ?_ | refine L_true rfl ?_ | refine L_false rfl ?_ | refine L_skip (Nx.goL ?_) | refine L_skip ?_ | refine L_exit (Nx.goL ?_) | refine L_exit ?_ | refine iF (fun h => ?_) (fun h => ?_) | refine aX ?_ | refine cP [] (hAw) ?_ | refine aA ?_ | refine aS ?_ | refine aK ?_ | refine aI (hn := ?_) | refine aD ?_ | refine aR ?_ | refine aM ?_ | refine sP 33 (fun h => ?_) (fun h => ?_) | refine sP 38 (fun h => ?_) (fun h => ?_) | refine L_reg ?_ | refine L_seq ?_ | exact ⟨rfl, rfl⟩ | fail)
    exact rfl
end Go.Proofs.YtdpcccjkncagoaaGreatDoor
end
section
namespace Go.Proofs.YtdpcccjkncagoaaGreatDoor
open Go Go.Tum Go.Tum.Base Go.Deep
theorem op18_in {cs : List Value} (h : Fits [some .i64, some .i64, some .i64, some .i64, some .i64, some .i64, some .i64, some .u64, some .i64, some .i64] cs) : ∃ o : Op18, cs = o.cells ∧ o.In := by
  obtain ⟨a, _, rfl, wa, h⟩ := h.int
  obtain ⟨b, _, rfl, wb, h⟩ := h.int
  obtain ⟨c, _, rfl, wc, h⟩ := h.int
  obtain ⟨d, _, rfl, wd, h⟩ := h.int
  obtain ⟨e, _, rfl, we, h⟩ := h.int
  obtain ⟨f, _, rfl, wf, h⟩ := h.int
  obtain ⟨g, _, rfl, wg, h⟩ := h.int
  obtain ⟨x, _, rfl, wx, h⟩ := h.int
  obtain ⟨r, _, rfl, _, h⟩ := h.int
  obtain ⟨s, _, rfl, _, h⟩ := h.int
  obtain rfl := h.nil
  have := Go.bounds_i64 wb
  have := Go.bounds_i64 wc
  have := Go.bounds_i64 wd
  have := Go.bounds_i64 we
  have := Go.bounds_i64 wf
  have := Go.bounds_i64 wg
  have := Go.bounds_u64 wx
  refine ⟨⟨a, b, c, d, e, f, g, BitVec.ofNat 64 x.toNat, r, s⟩, ?_, ?_⟩
  · have : ((BitVec.ofNat 64 x.toNat).toNat : Int) = x := by rw [BitVec.toNat_ofNat, Nat.mod_eq_of_lt (by omega)]; omega
    simp only [Op18.cells, this]
  · simp only [Op18.In, inI]; omega
theorem ops18_in {n : Nat} {get : Nat → List Value} (hf : ∀ i, i < n → Fits [some .i64, some .i64, some .i64, some .i64, some .i64, some .i64, some .i64, some .u64, some .i64, some .i64] (get i)) : ∃ op : Nat → Op18, ∀ i, i < n → get i = (op i).cells ∧ (op i).In :=
  choose_lt (n := n) (p := fun i (o : Op18) => get i = o.cells ∧ o.In) fun i hi => op18_in (hf i hi)
end Go.Proofs.YtdpcccjkncagoaaGreatDoor
end
section
namespace Go.Proofs.YtdpcccjkncagoaaGreatDoor
open Go Go.Tum Go.Tum.Base Go.Deep
theorem GheapPlays_does (w : World) (hw : DoorH (fun _ => False) w) (a b : Int) (ha : 0 ≤ a ∧ a < 256) (hb : 0 ≤ b ∧ b < 256) {v : Value} {n : Nat} {get : Nat → List Value} (hr : SlIn w 10 v n get)
    (hf : ∀ i, i < n → Fits [some .i64, some .i64, some .i64, some .i64, some .i64, some .i64, some .i64, some .u64, some .i64, some .i64] (get i)) :
    Does Tryz.prog 5 #[.int .u8 a, .int .u8 b, v] w fun v w' => v = .bool true ∧ Fr (fun _ => False) w w' := by
  obtain ⟨op, hop⟩ := ops18_in hf
  obtain ⟨hn, x, hr⟩ := hr
  obtain ⟨h1, h2⟩ := hr [x] 0 rfl
  exact (GheapPlays_tr a b ha hb n hn get op hop).law (vs' := [.int .u8 a, .int .u8 b, v]) [x] w rfl (by intro y hy; cases List.mem_singleton.1 hy; exact ⟨rfl, h2⟩) ⟨rfl, rfl, h1, trivial⟩ (DoorH.tab hw)
end Go.Proofs.YtdpcccjkncagoaaGreatDoor
end
