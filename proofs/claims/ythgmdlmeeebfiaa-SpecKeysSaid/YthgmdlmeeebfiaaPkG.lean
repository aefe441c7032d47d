/-
  What the proof leans on, part 7: of the texts SpecT, Lw23, SpecV, SpecKeys.
-/
import Derived.Test.YthgmdlmeeebfiaaPkF
set_option linter.unusedVariables false
set_option linter.unusedSimpArgs false
set_option linter.unusedSectionVars false
section
namespace Go.Proofs.Ythgmdlmeeebfiaa
open Go Go.Tum Go.Tum.Base
set_option maxRecDepth 4000
set_option maxHeartbeats 4000000 in
theorem playedR_tr (ma ar:Int) (hm:0≤ma∧ma≤8191) (ha:0≤ar∧ar≤8191) (xs:List Cl) (nb:Nat) (hx:xs.length=nb) (hnb:nb≤1000) (most:Nat) (hmo:most≤900) :
  Tr Try.prog 9 [.int .i64 ma,.int .i64 ar,slB 0 nb,.int .i64 most] [.gro 4 (rowsC Cl.cells xs)] (fun v K=>∃ s w,PI most s w∧v=.tuple ⟨[spV 1 2 s,spV 3 4 w,.bool true]⟩∧K=.gro 4 (rowsC Cl.cells xs)::(spB s++spB w)):=by
 have hN:=new_tr ma ar
 refine Tr.of row_tumbrellaw15_played_ok rfl ?_
 repeat' (first|refine qN ?_|refine dN ?_|refine dR ?_|refine d0 ?_|refine qB ?_|refine rT ?_|refine qT ?_|refine qU ?_|refine qL ?_|refine qK ?_|refine qF ?_|refine qE ?_|refine iF (fun h=>?_) (fun h=>?_)|refine aX ?_|refine cP [] (hN) ?_|refine aA ?_|refine aI (hn:=?_)|refine sP 51 (fun h=>?_) (fun h=>?_)|refine sP 57 (fun h=>?_) (fun h=>?_)|refine sP 60 (fun h=>?_) (fun h=>?_)|refine qR ?_|refine qS ?_|exact ⟨rfl,rfl⟩|fail)
 refine LWp.nilC 3 2 2 rfl rfl (LWp.nilC 3 3 1 rfl rfl (LWp.nilC 4 2 2 rfl rfl (LWp.nilC 4 3 1 rfl rfl ?_)))
 first|refine LSt.nf ?_|refine LWp.nf ?_
 conv=>whnf
 refine LWp.pick [3,8,9,11,12,25,26,27] [0,1,2,3,4,5,6,7,8] rfl rfl rfl (L_loop (fun q l K=>∃ (i:Nat) (s w:Sp),q=nb-i∧i≤nb∧i≤most∧PI i s w∧l=[(3,.int .i64 most),(8,pp 1),(9,pp 2),(11,pp 3),(12,pp 4),(25,slB 0 nb),(26,.int .i64 nb),(27,.int .i64 i)]∧K=PD (.gro 4 (rowsC Cl.cells xs)) s w) nb ⟨0,_,_,rfl,by omega,by omega,PI.zero hm ha,rfl,rfl⟩ ?_)
 clear hN
 rintro q _ _ ⟨i,s,w,rfl,hi,him,hI,rfl,rfl⟩
 first|refine L_seq (L_rs (S_done [] rfl (Nx.goL (iF (fun h=>L_skip (Nx.goL ?_)) (fun h=>L_exit ?_)))))|refine L_rs (S_done [] rfl (Nx.goL (L_seq (iF (fun h=>L_skip (Nx.goL ?_)) (fun h=>L_exit ?_)))))
 ·have hi':i<nb:=by omega
  obtain ⟨c,hc⟩:∃ c,xs[i]?=some c:=⟨_,List.getElem?_eq_getElem (by omega)⟩
  by_cases hlt:i<most
  ·have hsm:=may_same hI c
   have hO:=ours_tr c
   have hM:=may_tr s (hI.ok (by omega)) c
   have hR:=rmay_tr w hI.wm (by have:=hI.wl'; omega) (by have:=hI.wf'; omega) hI.wi c
   cases hb:mayB s c
   ·have hX:=next_no s (hI.ok (by omega)) c hb
    rw [← hsm,hb] at hR
    rw [hb] at hM
    repeat' (first|refine qN ?_|refine dN ?_|refine dR ?_|refine d0 ?_|refine qB ?_|refine rT ?_|refine qT ?_|refine qU ?_|refine qL ?_|refine qK ?_|refine qF ?_|refine qE ?_|refine iF (fun h=>?_) (fun h=>?_)|refine aX ?_|refine S_Q [] rfl rfl (QY.ldRow Cl.ok rfl rfl hc (by decide)) ?_|(refine cW [] (hO) ?_; conv=>whnf)|(refine cW [5,6] (hM) ?_; conv=>whnf)|refine aA ?_|refine aI (hn:=?_)|refine sP 51 (fun h=>?_) (fun h=>?_)|refine sP 57 (fun h=>?_) (fun h=>?_)|refine sP 60 (fun h=>?_) (fun h=>?_)|refine qR ?_|refine qS ?_|exact ⟨rfl,rfl⟩|fail)
    ·exfalso; omega
    refine L_mid (fun l L=>l=[(3,.int .i64 most),(8,pp 1),(9,pp 2),(11,pp 3),(12,pp 4),(14,pp 9),(15,.bool false),(16,pp 10),(17,.int .i64 8),(25,slB 0 nb),(26,.int .i64 nb),(27,.int .i64 i)]∧L=PD (.gro 4 (rowsC Cl.cells xs)) s w++[.cells 0 c.cells,.cells 0 Z4]) ?_ ?_
    ·repeat' (first|refine qN ?_|refine dN ?_|refine dR ?_|refine d0 ?_|refine qB ?_|refine rT ?_|refine qT ?_|refine qU ?_|refine qL ?_|refine qK ?_|refine qF ?_|refine qE ?_|refine iF (fun h=>?_) (fun h=>?_)|refine aX ?_|(refine cW [] (hO) ?_; conv=>whnf)|(refine cW [5,6] (hX) ?_; conv=>whnf)|(refine S_Ed [] rfl rfl (EWd.new rfl) rfl rfl rfl ?_; rintro _ _ ⟨rfl,rfl⟩; refine ⟨(by repeat' (first|exact trivial|refine ⟨⟨qsafe_ok (st:=[]) rfl,Sure.of rfl⟩,?_⟩|refine ⟨.inl rfl,?_⟩|refine ⟨.inr ⟨qsafe_ok (st:=[]) rfl,Sure.of rfl⟩,?_⟩|refine ⟨⟨qsafe_ok (st:=[]) rfl,Sure.slice (by omega)⟩,?_⟩|refine ⟨.inr ⟨qsafe_ok (st:=[]) rfl,Sure.slice (by omega)⟩,?_⟩|refine ⟨.inr ⟨QY.neqB rfl (by kernel_rfl) rfl rfl,Sure.of rfl⟩,?_⟩|refine ⟨.inr ⟨QY.eqlB rfl (by kernel_rfl) rfl rfl,Sure.of rfl⟩,?_⟩ | fail)),LSt.nf ?_⟩; conv=>whnf)|refine L_rT ?_|refine L_regT ?_|refine P_lin rfl ?_|refine P_A [] rfl ?_ ?_|(refine P_Ed [] rfl rfl (EWd.callF [] (hO) rfl rfl (by decide) (by repeat' (first|exact trivial|refine ⟨rfl,?_⟩ | fail)) rfl rfl rfl) rfl rfl rfl ?_; rintro _ _ ⟨rfl,rfl⟩; refine ⟨(by repeat' (first|exact trivial|refine ⟨⟨qsafe_ok (st:=[]) rfl,Sure.of rfl⟩,?_⟩|refine ⟨.inl rfl,?_⟩|refine ⟨.inr ⟨qsafe_ok (st:=[]) rfl,Sure.of rfl⟩,?_⟩|refine ⟨⟨qsafe_ok (st:=[]) rfl,Sure.slice (by omega)⟩,?_⟩|refine ⟨.inr ⟨qsafe_ok (st:=[]) rfl,Sure.slice (by omega)⟩,?_⟩|refine ⟨.inr ⟨QY.neqB rfl (by kernel_rfl) rfl rfl,Sure.of rfl⟩,?_⟩|refine ⟨.inr ⟨QY.eqlB rfl (by kernel_rfl) rfl rfl,Sure.of rfl⟩,?_⟩ | fail)),LPt.nf ?_⟩; conv=>whnf)|(refine P_Ed [] rfl rfl (EWd.callF [5,6] (hX) rfl rfl (by decide) (by repeat' (first|exact trivial|refine ⟨rfl,?_⟩ | fail)) rfl rfl rfl) rfl rfl rfl ?_; rintro _ _ ⟨rfl,rfl⟩; refine ⟨(by repeat' (first|exact trivial|refine ⟨⟨qsafe_ok (st:=[]) rfl,Sure.of rfl⟩,?_⟩|refine ⟨.inl rfl,?_⟩|refine ⟨.inr ⟨qsafe_ok (st:=[]) rfl,Sure.of rfl⟩,?_⟩|refine ⟨⟨qsafe_ok (st:=[]) rfl,Sure.slice (by omega)⟩,?_⟩|refine ⟨.inr ⟨qsafe_ok (st:=[]) rfl,Sure.slice (by omega)⟩,?_⟩|refine ⟨.inr ⟨QY.neqB rfl (by kernel_rfl) rfl rfl,Sure.of rfl⟩,?_⟩|refine ⟨.inr ⟨QY.eqlB rfl (by kernel_rfl) rfl rfl,Sure.of rfl⟩,?_⟩ | fail)),LPt.nf ?_⟩; conv=>whnf)|(refine P_Ed [] rfl rfl (EWd.new rfl) rfl rfl rfl ?_; rintro _ _ ⟨rfl,rfl⟩; refine ⟨(by repeat' (first|exact trivial|refine ⟨⟨qsafe_ok (st:=[]) rfl,Sure.of rfl⟩,?_⟩|refine ⟨.inl rfl,?_⟩|refine ⟨.inr ⟨qsafe_ok (st:=[]) rfl,Sure.of rfl⟩,?_⟩|refine ⟨⟨qsafe_ok (st:=[]) rfl,Sure.slice (by omega)⟩,?_⟩|refine ⟨.inr ⟨qsafe_ok (st:=[]) rfl,Sure.slice (by omega)⟩,?_⟩|refine ⟨.inr ⟨QY.neqB rfl (by kernel_rfl) rfl rfl,Sure.of rfl⟩,?_⟩|refine ⟨.inr ⟨QY.eqlB rfl (by kernel_rfl) rfl rfl,Sure.of rfl⟩,?_⟩ | fail)),LPt.nf ?_⟩; conv=>whnf)|refine aA ?_|refine aI (hn:=?_)|refine sP 51 (fun h=>?_) (fun h=>?_)|refine sP 57 (fun h=>?_) (fun h=>?_)|refine sP 60 (fun h=>?_) (fun h=>?_)|refine qR ?_|refine qS ?_|exact ⟨rfl,rfl⟩|fail)
     all_goals exact Nx.pick [3,8,9,11,12,14,15,16,17,25,26,27] [0,1,2,3,4,5,6,7,8,9,10] rfl rfl rfl ⟨rfl,rfl⟩
    ·rintro _ _ ⟨rfl,rfl⟩
     clear hO hM hX
     repeat' (first|refine qN ?_|refine dN ?_|refine d0 ?_|refine qB ?_|refine qT ?_|refine qU ?_|refine qL ?_|refine qK ?_|refine qF ?_|refine qE ?_|refine iF (fun h=>?_) (fun h=>?_)|refine aX ?_|(refine cW [7,8] (hR) ?_; conv=>whnf)|refine S_Q [] rfl rfl (QY.neqB rfl (by kernel_rfl) rfl rfl) ?_|refine aA ?_|refine aI (hn:=?_)|refine sP 51 (fun h=>?_) (fun h=>?_)|refine sP 57 (fun h=>?_) (fun h=>?_)|refine sP 60 (fun h=>?_) (fun h=>?_)|refine qR ?_|refine qS ?_|exact ⟨rfl,rfl⟩|fail)
     exact Nx.pick [3,8,9,11,12,25,26,27] [0,1,2,3,4,5,6,7,8] rfl rfl rfl ⟨nb-(i+1),by omega,i+1,s,w,rfl,by omega,by omega,hI.mono (by omega),rfl,rfl⟩
   ·have hX:=next_tr s (hI.ok (by omega)) c hb
    have hY:=rnext_tr w (by have:=hI.wl'; omega) (by have:=hI.wf'; omega) hI.wfi c (next_ca hI.mb.2 hb)
    have hI2:=hI.next hb
    rw [← hsm,hb] at hR
    rw [hb] at hM
    generalize nextS s c=s' at *
    generalize rnextS w c=w' at *
    repeat' (first|refine qN ?_|refine dN ?_|refine dR ?_|refine d0 ?_|refine qB ?_|refine rT ?_|refine qT ?_|refine qU ?_|refine qL ?_|refine qK ?_|refine qF ?_|refine qE ?_|refine iF (fun h=>?_) (fun h=>?_)|refine aX ?_|refine S_Q [] rfl rfl (QY.ldRow Cl.ok rfl rfl hc (by decide)) ?_|(refine cW [] (hO) ?_; conv=>whnf)|(refine cW [5,6] (hM) ?_; conv=>whnf)|refine aA ?_|refine aI (hn:=?_)|refine sP 51 (fun h=>?_) (fun h=>?_)|refine sP 57 (fun h=>?_) (fun h=>?_)|refine sP 60 (fun h=>?_) (fun h=>?_)|refine qR ?_|refine qS ?_|exact ⟨rfl,rfl⟩|fail)
    ·exfalso; omega
    refine L_mid (fun l L=>l=[(3,.int .i64 most),(8,pp 1),(9,pp 2),(11,pp 3),(12,pp 4),(14,pp 9),(15,.bool true),(16,pp 12),(17,.int .i64 0),(25,slB 0 nb),(26,.int .i64 nb),(27,.int .i64 i)]∧L=PD (.gro 4 (rowsC Cl.cells xs)) s w++[.cells 0 c.cells,.gro 2 (rowsC Bk.cells (lrow s')),.gro 1 (rowsC intC (frow s')),.cells 0 (spC 10 11 s')]) ?_ ?_
    ·repeat' (first|refine qN ?_|refine dN ?_|refine dR ?_|refine d0 ?_|refine qB ?_|refine rT ?_|refine qT ?_|refine qU ?_|refine qL ?_|refine qK ?_|refine qF ?_|refine qE ?_|refine iF (fun h=>?_) (fun h=>?_)|refine aX ?_|(refine cW [] (hO) ?_; conv=>whnf)|(refine cW [5,6] (hX) ?_; conv=>whnf)|(refine S_Ed [] rfl rfl (EWd.new rfl) rfl rfl rfl ?_; rintro _ _ ⟨rfl,rfl⟩; refine ⟨(by repeat' (first|exact trivial|refine ⟨⟨qsafe_ok (st:=[]) rfl,Sure.of rfl⟩,?_⟩|refine ⟨.inl rfl,?_⟩|refine ⟨.inr ⟨qsafe_ok (st:=[]) rfl,Sure.of rfl⟩,?_⟩|refine ⟨⟨qsafe_ok (st:=[]) rfl,Sure.slice (by omega)⟩,?_⟩|refine ⟨.inr ⟨qsafe_ok (st:=[]) rfl,Sure.slice (by omega)⟩,?_⟩|refine ⟨.inr ⟨QY.neqB rfl (by kernel_rfl) rfl rfl,Sure.of rfl⟩,?_⟩|refine ⟨.inr ⟨QY.eqlB rfl (by kernel_rfl) rfl rfl,Sure.of rfl⟩,?_⟩ | fail)),LSt.nf ?_⟩; conv=>whnf)|refine L_rT ?_|refine L_regT ?_|refine P_lin rfl ?_|refine P_A [] rfl ?_ ?_|(refine P_Ed [] rfl rfl (EWd.callF [] (hO) rfl rfl (by decide) (by repeat' (first|exact trivial|refine ⟨rfl,?_⟩ | fail)) rfl rfl rfl) rfl rfl rfl ?_; rintro _ _ ⟨rfl,rfl⟩; refine ⟨(by repeat' (first|exact trivial|refine ⟨⟨qsafe_ok (st:=[]) rfl,Sure.of rfl⟩,?_⟩|refine ⟨.inl rfl,?_⟩|refine ⟨.inr ⟨qsafe_ok (st:=[]) rfl,Sure.of rfl⟩,?_⟩|refine ⟨⟨qsafe_ok (st:=[]) rfl,Sure.slice (by omega)⟩,?_⟩|refine ⟨.inr ⟨qsafe_ok (st:=[]) rfl,Sure.slice (by omega)⟩,?_⟩|refine ⟨.inr ⟨QY.neqB rfl (by kernel_rfl) rfl rfl,Sure.of rfl⟩,?_⟩|refine ⟨.inr ⟨QY.eqlB rfl (by kernel_rfl) rfl rfl,Sure.of rfl⟩,?_⟩ | fail)),LPt.nf ?_⟩; conv=>whnf)|(refine P_Ed [] rfl rfl (EWd.callF [5,6] (hX) rfl rfl (by decide) (by repeat' (first|exact trivial|refine ⟨rfl,?_⟩ | fail)) rfl rfl rfl) rfl rfl rfl ?_; rintro _ _ ⟨rfl,rfl⟩; refine ⟨(by repeat' (first|exact trivial|refine ⟨⟨qsafe_ok (st:=[]) rfl,Sure.of rfl⟩,?_⟩|refine ⟨.inl rfl,?_⟩|refine ⟨.inr ⟨qsafe_ok (st:=[]) rfl,Sure.of rfl⟩,?_⟩|refine ⟨⟨qsafe_ok (st:=[]) rfl,Sure.slice (by omega)⟩,?_⟩|refine ⟨.inr ⟨qsafe_ok (st:=[]) rfl,Sure.slice (by omega)⟩,?_⟩|refine ⟨.inr ⟨QY.neqB rfl (by kernel_rfl) rfl rfl,Sure.of rfl⟩,?_⟩|refine ⟨.inr ⟨QY.eqlB rfl (by kernel_rfl) rfl rfl,Sure.of rfl⟩,?_⟩ | fail)),LPt.nf ?_⟩; conv=>whnf)|(refine P_Ed [] rfl rfl (EWd.new rfl) rfl rfl rfl ?_; rintro _ _ ⟨rfl,rfl⟩; refine ⟨(by repeat' (first|exact trivial|refine ⟨⟨qsafe_ok (st:=[]) rfl,Sure.of rfl⟩,?_⟩|refine ⟨.inl rfl,?_⟩|refine ⟨.inr ⟨qsafe_ok (st:=[]) rfl,Sure.of rfl⟩,?_⟩|refine ⟨⟨qsafe_ok (st:=[]) rfl,Sure.slice (by omega)⟩,?_⟩|refine ⟨.inr ⟨qsafe_ok (st:=[]) rfl,Sure.slice (by omega)⟩,?_⟩|refine ⟨.inr ⟨QY.neqB rfl (by kernel_rfl) rfl rfl,Sure.of rfl⟩,?_⟩|refine ⟨.inr ⟨QY.eqlB rfl (by kernel_rfl) rfl rfl,Sure.of rfl⟩,?_⟩ | fail)),LPt.nf ?_⟩; conv=>whnf)|refine aA ?_|refine aI (hn:=?_)|refine sP 51 (fun h=>?_) (fun h=>?_)|refine sP 57 (fun h=>?_) (fun h=>?_)|refine sP 60 (fun h=>?_) (fun h=>?_)|refine qR ?_|refine qS ?_|exact ⟨rfl,rfl⟩|fail)
     all_goals first
      |exact Nx.pick [3,8,9,11,12,14,15,16,17,25,26,27] [0,1,2,3,4,5,6,7,8,9,10,11,12] rfl rfl rfl ⟨rfl,rfl⟩
      |exact Nx.pick [3,8,9,11,12,14,15,16,17,25,26,27] [0,1,2,3,4,5,6,7,8,9,11,12,10] rfl rfl rfl ⟨rfl,rfl⟩
    ·rintro _ _ ⟨rfl,rfl⟩
     clear hO hM hX
     repeat' (first|refine qN ?_|refine dN ?_|refine d0 ?_|refine qB ?_|refine qT ?_|refine qU ?_|refine qL ?_|refine qK ?_|refine qF ?_|refine qE ?_|refine iF (fun h=>?_) (fun h=>?_)|refine aX ?_|(refine cW [7,8] (hR) ?_; conv=>whnf)|(refine cW [7,8] (hY) ?_; conv=>whnf)|refine S_Q [] rfl rfl (QY.neqB rfl (by kernel_rfl) rfl rfl) ?_|refine aA ?_|refine aI (hn:=?_)|refine sP 51 (fun h=>?_) (fun h=>?_)|refine sP 57 (fun h=>?_) (fun h=>?_)|refine sP 60 (fun h=>?_) (fun h=>?_)|refine qR ?_|refine qS ?_|exact ⟨rfl,rfl⟩|fail)
     exact Nx.pick [3,8,9,11,12,25,26,27] [0,1,2,3,4,10,11,13,14] rfl rfl rfl ⟨nb-(i+1),by omega,i+1,s',w',rfl,by omega,by omega,hI2,rfl,rfl⟩
  ·obtain rfl:i=most:=by omega
   repeat' (first|refine qN ?_|refine dN ?_|refine d0 ?_|refine qB ?_|refine qT ?_|refine qU ?_|refine qL ?_|refine qK ?_|refine qF ?_|refine qE ?_|refine iF (fun h=>?_) (fun h=>?_)|refine aX ?_|refine S_Q [] rfl rfl (QY.ldRow Cl.ok rfl rfl hc (by decide)) ?_|(refine S_Ed [] rfl rfl (EWd.stn_of (esafe_ok rfl) rfl rfl) rfl rfl rfl ?_; rintro _ _ ⟨rfl,rfl⟩; refine ⟨(by repeat' (first|exact trivial|refine ⟨⟨qsafe_ok (st:=[]) rfl,Sure.of rfl⟩,?_⟩|refine ⟨.inl rfl,?_⟩|refine ⟨.inr ⟨qsafe_ok (st:=[]) rfl,Sure.of rfl⟩,?_⟩|refine ⟨⟨qsafe_ok (st:=[]) rfl,Sure.slice (by omega)⟩,?_⟩|refine ⟨.inr ⟨qsafe_ok (st:=[]) rfl,Sure.slice (by omega)⟩,?_⟩|refine ⟨.inr ⟨QY.neqB rfl (by kernel_rfl) rfl rfl,Sure.of rfl⟩,?_⟩|refine ⟨.inr ⟨QY.eqlB rfl (by kernel_rfl) rfl rfl,Sure.of rfl⟩,?_⟩ | fail)),LSt.nf ?_⟩; conv=>whnf)|refine aA ?_|refine aI (hn:=?_)|refine sP 51 (fun h=>?_) (fun h=>?_)|refine sP 57 (fun h=>?_) (fun h=>?_)|refine sP 60 (fun h=>?_) (fun h=>?_)|refine qR ?_|refine qS ?_|exact ⟨rfl,rfl⟩|fail)
   ·exact L_ret (RetQ.pick [0,5,6,7,8] rfl rfl rfl rfl ⟨s,w,hI.mono (by omega),rfl,rfl⟩)
   ·exfalso; omega
 ·refine Nx.goL ?_
  repeat' (first|refine qN ?_|refine dN ?_|refine d0 ?_|refine qB ?_|refine qT ?_|refine qU ?_|refine qL ?_|refine qK ?_|refine qF ?_|refine qE ?_|refine iF (fun h=>?_) (fun h=>?_)|refine aX ?_|(refine S_Ed [] rfl rfl (EWd.stn_of (esafe_ok rfl) rfl rfl) rfl rfl rfl ?_; rintro _ _ ⟨rfl,rfl⟩; refine ⟨(by repeat' (first|exact trivial|refine ⟨⟨qsafe_ok (st:=[]) rfl,Sure.of rfl⟩,?_⟩|refine ⟨.inl rfl,?_⟩|refine ⟨.inr ⟨qsafe_ok (st:=[]) rfl,Sure.of rfl⟩,?_⟩|refine ⟨⟨qsafe_ok (st:=[]) rfl,Sure.slice (by omega)⟩,?_⟩|refine ⟨.inr ⟨qsafe_ok (st:=[]) rfl,Sure.slice (by omega)⟩,?_⟩|refine ⟨.inr ⟨QY.neqB rfl (by kernel_rfl) rfl rfl,Sure.of rfl⟩,?_⟩|refine ⟨.inr ⟨QY.eqlB rfl (by kernel_rfl) rfl rfl,Sure.of rfl⟩,?_⟩ | fail)),LSt.nf ?_⟩; conv=>whnf)|refine aA ?_|refine aI (hn:=?_)|refine sP 51 (fun h=>?_) (fun h=>?_)|refine sP 57 (fun h=>?_) (fun h=>?_)|refine sP 60 (fun h=>?_) (fun h=>?_)|refine qR ?_|refine qS ?_|exact ⟨rfl,rfl⟩|fail)
  exact L_ret (RetQ.pick [0,5,6,7,8] rfl rfl rfl rfl ⟨s,w,hI.mono (by omega),rfl,rfl⟩)
end Go.Proofs.Ythgmdlmeeebfiaa
end
section
namespace Go.Tum
open Go
def RdC (w:World) (sz:Nat) (v:Value) (n:Nat) (cells:List Value):Prop :=
 cells.length=n*sz∧(∀ u∈cells,one u=true) ∧
 (((∃ a c,v=.slice a 0 c)∧n=0)∨∃ sa c,v=.slice (some sa) n c∧∀ j,j<n*sz→w.cell? (sa.add j)=cells[j]?)
theorem RdC.sim {w w0:World} {sz:Nat} {v:Value} {n:Nat} {cells:List Value} (h:RdC w sz v n cells) (hs:Sim w0 w):RdC w0 sz v n cells:=by
 obtain ⟨h1,h2,h3⟩:=h
 refine ⟨h1,h2,?_⟩
 rcases h3 with h4 | ⟨sa,c,h4,h5⟩
 ·exact .inl h4
 ·exact .inr ⟨sa,c,h4,fun j hj=>by rw [hs.cell]; exact h5 j hj⟩
section
variable {P:Program} {w:World} {l:Env} {K:Value→World→Prop}
theorem firstCells_rdC {sz n:Nat} {v:Value} {cells:List Value} (h:RdC w sz v n cells):(Builtin.firstCells sz n v).run P w=.ok cells.toArray w:=by
 obtain ⟨h1,_,h3⟩:=h
 rcases h3 with ⟨⟨a,c,rfl⟩,rfl⟩ | ⟨sa,c,rfl,h5⟩
 ·have:cells=[]:=by simpa using h1
  subst this
  cases a with
  | none=>simp [Builtin.firstCells]
  | some a =>
   simp only [Builtin.firstCells,Nat.zero_mul]
   exact loadCells_run 0 0 #[] #[] rfl (fun j _ hj=>by omega) (by simp)
 ·simp only [Builtin.firstCells]
  exact loadCells_run _ 0 #[] cells.toArray (by simpa using h1) (fun j _ hj=>by rw [h5 j (by omega)]; simp) (by simp)
theorem append_runC {sT xT e:TypeId} {sz bytes n m c:Nat} {base:Option Addr} {vx:Value} {cells cells2:List Value} {ty:TypeId} (he:ElemT P sT e sz bytes) (hx:∃ e',P.underlying xT=some (.slice e'))
  (hs:Rd w sz (.slice base n c) n cells) (hr:RdC w sz vx m cells2) (hb:(2*(n+m)+2048)*bytes≤281474976710656) (hby:0<bytes) :
  ((n+m≤c∧(∀ a,base=some a→(Builtin.append_ #[sT,xT] ty #[.slice base n c,vx]).run P w=(do storeCells (a.add (n*sz)) cells2; pure (.slice base (n+m) c):Sem Value).run P w) ∧
    (base=none→(Builtin.append_ #[sT,xT] ty #[.slice base n c,vx]).run P w=.ok (.slice base (n+m) c) w)) ∨
   (c<n+m∧∃ c' zs w',n+m≤c'∧(cells++cells2++zs).length=c'*sz∧Sim w' (w.alloc (.cells (cells++cells2++zs).toArray e)) ∧
    (Builtin.append_ #[sT,xT] ty #[.slice base n c,vx]).run P w=.ok (.slice (some ⟨w.heap.size,0,none⟩) (n+m) c') w')):=by
 obtain ⟨hu,i,z,hi,h1,h2,hz,hzs,_⟩:=he
 obtain ⟨e',hx⟩:=hx
 have hl:(Builtin.lenOf vx).run P w=.ok m w:=by
  obtain ⟨_,_,h3⟩:=hr
  rcases h3 with ⟨⟨a,c,rfl⟩,rfl⟩ | ⟨sa,c,rfl,_⟩ <;> simp [Builtin.lenOf]
 have hzv:(zeroValue e).run P w=.ok z w:=by simp [zeroValue,typeInfo_run hi,hz]
 by_cases hc:n+m≤c
 ·refine .inl ⟨hc,fun a ha=>?_,fun ha=>?_⟩
  ·subst ha
   unfold Builtin.append_
   simp [run_underlying hu,run_underlying hx,sizeOf_run hi,h1,hl,hc,firstCells_rdC hr]
  ·subst ha
   unfold Builtin.append_
   simp [run_underlying hu,run_underlying hx,sizeOf_run hi,h1,hl,hc,firstCells_rdC hr]
 ·refine .inr ⟨by omega,?_⟩
  have hcap:=nextslicecap_le (n+m) c (by omega)
  have hle:Builtin.nextslicecap (n+m) c*bytes≤281474976710656:=Nat.le_trans (Nat.mul_le_mul_right _ hcap) hb
  have hnm:(2*(n+m)+2048)*1≤(2*(n+m)+2048)*bytes:=Nat.mul_le_mul_left _ hby
  have hq:(Question.appendCap (n+m) c e).forced=false:=rfl
  have hbig:¬ (IntKind.i64.max<((n:Int)+(m:Int))):=by
   have:IntKind.i64.max=9223372036854775807:=rfl
   rw [this]; omega
  let t:=w.tape w.drawn (Question.appendCap (n+m) c e)
  let c':=(n+m)+t % (2 ^ 63-(n+m))
  have hsim:Sim w.drew w:=⟨rfl,rfl,rfl,rfl⟩
  have f1:(Builtin.firstCells sz n (.slice base n c)).run P w.drew=.ok cells.toArray w.drew:=firstCells_rd (hs.sim hsim)
  have f2:(Builtin.firstCells sz m vx).run P w.drew=.ok cells2.toArray w.drew:=firstCells_rdC (hr.sim hsim)
  have hzv1:(zeroValue e).run P w.drew=.ok z w.drew:=by simp [zeroValue,typeInfo_run hi,hz]
  refine ⟨c',(Builtin.zeroCells z.cells (c'-(n+m))).toList,w.drew.alloc (.cells (cells.toArray++cells2.toArray++Builtin.zeroCells z.cells (c'-(n+m))) e),Nat.le_add_right _ _,?_,?_,?_⟩
  ·obtain ⟨k1,_,_⟩:=hs
   obtain ⟨k2,_,_⟩:=hr
   simp only [List.length_append,k1,k2,Builtin.zeroCells]
   simp only [Array.length_toList,Array.size_map,Array.size_range,hzs]
   have e1:c'-(n+m)+(n+m)=c':=Nat.sub_add_cancel (Nat.le_add_right _ _)
   rw [← Nat.add_mul,← Nat.add_mul]
   congr 1
   omega
  ·refine ⟨?_,rfl,rfl,rfl⟩
   show w.heap.push _=w.heap.push _
   congr 2
   simp
  ·unfold Builtin.append_
   have hle':¬ (281474976710656<Builtin.nextslicecap (n+m) c*bytes):=by omega
   have hne:bytes≠0:=by omega
   simp [run_underlying hu,run_underlying hx,sizeOf_run hi,h1,hl,hc,typeInfo_run hi,h2,hne,hle',newRow]
   rw [if_neg (by rw [hq]; simp),f1]
   simp only [Result.andThen_ok]
   rw [f2]
   simp only [Result.andThen_ok]
   rw [hzv1]
   simp only [Result.andThen_ok,Result.ok.injEq]
   refine ⟨rfl,?_⟩
   congr 2
   show cells.toArray++(cells2.toArray++Builtin.zeroCells z.cells (c'-(n+m)))=_
   generalize Builtin.zeroCells z.cells (c'-(n+m))=Z
   rw [← Array.append_assoc]
   simp
theorem append_anyC {d:Option Tmp} {pos:String} {af:Array Edge} {g:Option (Nat × Bool)} {s x:Operand} {sT xT ty e:TypeId} {sz bytes n m c:Nat} {base:Option Addr} {vx:Value} {cells cells2:List Value} (he:ElemT P sT e sz bytes) (hxT:∃ e',P.underlying xT=some (.slice e'))
  (hs:ev l s=some (.slice base n c)) (hx:ev l x=some vx) (hS:Rd w sz (.slice base n c) n cells) (hR:RdC w sz vx m cells2) (hb:(2*(n+m)+2048)*bytes≤281474976710656) (hby:0<bytes)
  (h1:n+m≤c→∀ a,base=some a→(cells2=[]∧K (.slice base (n+m) c) w)∨∃ b o cs,a=⟨b,o,none⟩∧Blk w b cs∧o+n*sz+cells2.length≤cs.length∧K (.slice base (n+m) c) (putCells w ⟨b,o+n*sz,none⟩ 0 cells2))
  (h0:n+m≤c→base=none→K (.slice base (n+m) c) w)
  (h2:c<n+m→∀ c' zs,n+m≤c'→(cells++cells2++zs).length=c'*sz→K (.slice (some ⟨w.heap.size,0,none⟩) (n+m) c') (w.alloc (.cells (cells++cells2++zs).toArray e))) :
  (EOp.raw ⟨d,.call ⟨.builtin .append,#[s,x],#[sT,xT]⟩,ty,pos,af,g⟩).W P K l w:=by
 intro ρ w0 ha hsim
 have hexec:execOp ρ ⟨d,.call ⟨.builtin .append,#[s,x],#[sT,xT]⟩,ty,pos,af,g⟩=(do let r ← Builtin.append_ #[sT,xT] ty #[.slice base n c,vx]; pure (Next.value r)):=by
  simp [execOp,resolve,invoke,builtin,ha s _ hs,ha x _ hx]
 have hrun:=append_runC (P:=P) (w:=w0) (ty:=ty) he hxT (hS.sim hsim) (hR.sim hsim) hb hby
 rcases hrun with ⟨hle,k1,k2⟩ | ⟨hlt,c',zs,w',hc',hlz,hsw,hr⟩
 ·cases base with
  | none =>
   refine Eff.value (v:=.slice none (n+m) c) (w':=w0) ?_ ⟨w,hsim,h0 hle rfl⟩
   rw [hexec]
   simp [k2 rfl]
  | some a =>
   rcases h1 hle a rfl with ⟨rfl,hK⟩ | ⟨b,o,cs,rfl,hB,hcl,hK⟩
   ·refine Eff.value (v:=.slice (some a) (n+m) c) (w':=w0) ?_ ⟨w,hsim,hK⟩
    rw [hexec]
    simp [k1 _ rfl,storeCells]
   have hst:=storeCells_blk (P:=P) (w:=w0) (hB.sim hsim) hcl hR.2.1
   refine Eff.value (v:=.slice (some ⟨b,o,none⟩) (n+m) c) (w':=putCells w0 ⟨b,o+n*sz,none⟩ 0 cells2) ?_ ⟨_,putCells_sim hsim _ _ _,hK⟩
   rw [hexec]
   simp only [Sem.run_bind,k1 _ rfl,add_none,hst]
   simp
 ·refine Eff.value (v:=.slice (some ⟨w0.heap.size,0,none⟩) (n+m) c') (w':=w') ?_ ⟨_,hsw.trans (hsim.push _),?_⟩
  ·rw [hexec]
   simp [hr]
  ·rw [hsim.heap]
   exact h2 hlt c' zs hc' hlz
end
section
variable {X:Nat→Prop} {w0 w w':World} {E:Emb} {L:LH}
theorem appG_ok {P:Program} {l:Env} {K:Value→World→Prop} {d:Option Tmp} {pos:String} {af:Array Edge} {g:Option (Nat × Bool)} {s x:Operand} {sT xT ty e:TypeId} {sz bytes b n m:Nat} {vs' vx':Value} {gs us us2:List Value} (he:ElemT P sT e sz bytes) (hxT:∃ e',P.underlying xT=some (.slice e')) (hby:0<bytes)
  (hsz:0<sz) (hR:Rep X w0 E L w) (hs:ev l s=some vs') (hx:ev l x=some vx') (hsr:VR E (.slice (some ⟨b,0,none⟩) n n) vs') (hb:L[b]?=some (.gro sz gs)) (e4:gs.length=n*sz) (hrd1:Rd w sz vs' n us) (hrd2:RdC w sz vx' m us2) (hbd:(2*(n+m)+2048)*bytes≤281474976710656)
  (hK:∀ w' E' v',Ext E E'→Rep X w0 E' (L.set b .dead++[.gro sz (gs++us2)]) w'→VR E' (.slice (some ⟨L.length,0,none⟩) (n+m) (n+m)) v'→K v' w'):(EOp.raw ⟨d,.call ⟨.builtin .append,#[s,x],#[sT,xT]⟩,ty,pos,af,g⟩).W P K l w:=by
 have hlen1:us.length=n*sz:=hrd1.1
 have hlen2:us2.length=m*sz:=hrd2.1
 have freshG:∀ (Lb:LH) (xs:List Value),Rep X w0 E Lb w→us++us2=xs→xs≠[]→∀ (c':Nat) (zs:List Value),n+m≤c'→(us++us2++zs).length=c'*sz →
   Rep X w0 (E++[(w.heap.size,0,c'-(n+m))]) (Lb++[.gro sz xs]) (w.alloc (.cells (us++us2++zs).toArray e)):=by
  intro Lb xs hRb hxs hne c' zs hc' hlz
  subst hxs
  refine hRb.push1 (Fr.alloc _ _ _) rfl (alloc_size _ _) (fun b hb=>?_) (.inr ⟨hne,hsz,_,Blk.new w _ e,?_,?_⟩)
  ·cases hq:us++us2 with
   | nil=>exact absurd hq hne
   | cons y ys=>rw [hq] at hb; exact hb
  ·simp only [List.drop_zero]
   rw [List.take_append_of_le_length (Nat.le_refl _),List.take_length]
  ·rw [hlz]
   simp only [List.length_append,hlen1,hlen2]
   rw [Nat.zero_add,← Nat.add_mul,← Nat.add_mul]
   exact Nat.mul_le_mul_right _ (by omega)
 have slcNew:∀ (Lb:LH),Rep X w0 E Lb w→∀ c',n+m≤c'→VR (E++[(w.heap.size,0,c'-(n+m))]) (.slice (some ⟨Lb.length,0,none⟩) (n+m) (n+m)) (.slice (some ⟨w.heap.size,0,none⟩) (n+m) c'):=by
  intro Lb hRb c' hc'
  exact ⟨rfl,_,hRb.last _,.inl ⟨_,_,rfl,.inl ⟨by simp,by simp; omega⟩⟩⟩
 obtain ⟨hsp,r,hr,⟨a',c',rfl,hcase⟩ | ⟨hn0,hc0,hnil⟩⟩:=hsr.sr rfl
 rotate_left
 ·obtain ⟨ax,rfl⟩:=hnil
  subst hn0
  have hr:E[b]?=some r:=hr
  have hgs:gs=[]:=List.length_eq_zero_iff.1 (by simpa using e4)
  subst hgs
  have hu1:us=[]:=List.length_eq_zero_iff.1 (by rw [hlen1]; simp)
  subst hu1
  have none0:0+m≤0→us2=[]∧K (.slice ax (0+m) 0) w:=fun hle=>by
   have:m=0:=by omega
   subst this
   have hc2e:us2=[]:=List.length_eq_zero_iff.1 (by rw [hlen2]; simp)
   subst hc2e
   exact ⟨rfl,hK _ (E++[(0,0,0)]) _ (Ext.push E _) (hR.again hb hr (Fr.refl _ w) (fun c hc=>hc.elim) (.inl ⟨rfl,rfl⟩)) ⟨rfl,_,hR.last _,.inr ⟨rfl,rfl,ax,rfl⟩⟩⟩
  refine append_anyC he hxT hs hx hrd1 hrd2 hbd hby (fun hle _ _=>.inl (none0 hle)) (fun hle _=>(none0 hle).2) (fun hlt c' zs hc' hlz=>?_)
  have hne:us2≠[]:=by
   intro e
   rw [e] at hlen2
   have:0<m*sz:=Nat.mul_pos (by omega) hsz
   simp at hlen2
   omega
  have k1:=freshG _ ([]++us2) (hR.kill b) rfl hne c' zs hc' hlz
  have k2:=slcNew _ (hR.kill b) c' hc'
  simp only [List.length_set] at k2
  exact hK _ _ _ (Ext.push E _) k1 k2
 have hr:E[b]?=some r:=hr
 rcases hR.blk b _ r hb hr with ⟨rfl,hr2⟩ | ⟨hne,_,cs,hB,hcs,hroom⟩
 ·have hn0:n=0:=by
   rcases Nat.eq_zero_or_pos n with h0 | h0
   ·exact h0
   ·have:0<n*sz:=Nat.mul_pos h0 hsz
    simp at e4; omega
  subst hn0
  have hc0:c'=0:=by rcases hcase with ⟨_,rfl⟩ | ⟨_,_,rfl,_⟩ <;> omega
  subst hc0
  have hu1:us=[]:=List.length_eq_zero_iff.1 (by rw [hlen1]; simp)
  subst hu1
  have hblk:a'.spot=none:=by rcases hcase with ⟨rfl,_⟩ | ⟨_,_,_,o',rfl,_⟩ <;> rfl
  have hab:∃ o',a'=⟨r.1,o',none⟩∧o'≤0+r.2.1:=by 
   rcases hcase with ⟨rfl,_⟩ | ⟨_,_,_,o',rfl,ho⟩
   ·exact ⟨_,rfl,Nat.le_refl _⟩
   ·exact ⟨_,rfl,ho⟩
  refine append_anyC he hxT hs hx hrd1 hrd2 hbd hby (fun hle a ha=>.inl ?_) (fun _ ha=>by cases ha) (fun hlt c'' zs hc'' hlz=>?_)
  ·have:m=0:=by omega
   subst this
   have hc2e:us2=[]:=List.length_eq_zero_iff.1 (by rw [hlen2]; simp)
   subst hc2e
   refine ⟨rfl,hK _ (E++[r]) _ (Ext.push E _) (hR.again hb hr (Fr.refl _ w) (fun c hc=>hc.elim) (.inl ⟨rfl,hr2⟩)) ?_⟩
   obtain ⟨o',rfl,ho'⟩:=hab
   exact ⟨rfl,r,hR.last _,.inl ⟨_,_,rfl,.inr ⟨rfl,rfl,rfl,o',rfl,by simpa using ho'⟩⟩⟩
  ·have hne:us2≠[]:=by
    intro e
    rw [e] at hlen2
    have:0<m*sz:=Nat.mul_pos (by omega) hsz
    simp at hlen2
    omega
   have k1:=freshG _ ([]++us2) (hR.kill b) rfl hne c'' zs hc'' hlz
   have k2:=slcNew _ (hR.kill b) c'' hc''
   simp only [List.length_set] at k2
   exact hK _ _ _ (Ext.push E _) k1 k2
 ·have hn0:0<n:=by
   rcases Nat.eq_zero_or_pos n with h0 | h0
   ·subst h0; simp at e4; exact absurd e4 hne
   ·exact h0
  rcases hcase with ⟨rfl,rfl⟩ | ⟨h0,_⟩
  rotate_left
  ·omega
  have hus:us=gs:=by
   rcases hrd1.2.2 with ⟨⟨_,_,e⟩,h0⟩ | ⟨b1,o1,c1,cs1,e,hB1,_,h5⟩
   ·omega
   ·cases e
    rw [← h5,← hB.eq hB1,← e4]
    simpa using hcs
  subst hus
  have hne2:us++us2≠[]:=by
   intro e
   rw [List.append_eq_nil_iff] at e
   exact hne e.1
  refine append_anyC he hxT hs hx hrd1 hrd2 hbd hby (fun hle' a ha=>.inr ?_) (fun _ ha=>by cases ha) (fun hlt' c'' zs hc'' hlz=>?_)
  ·cases ha
   have hsp:n*sz+m*sz≤n*sz+r.2.2*sz:=by
    rw [← Nat.add_mul,← Nat.add_mul]; exact Nat.mul_le_mul_right _ hle'
   have hcl:0+r.2.1+n*sz+us2.length≤cs.length:=by omega
   refine ⟨_,_,cs,rfl,hB,hcl,hK _ (E++[(r.1,0+r.2.1,n+r.2.2-(n+m))]) _ (Ext.push E _) ?_ ?_⟩
   ·refine hR.again hb hr ((putCells_fr (p:=⟨r.1,0+r.2.1+n*sz,none⟩) us2 0 w).mono fun c _ hc=>?_) (fun c hc=>.inl ?_) (.inr ⟨hne2,hsz,_,putCells_blk us2 0 w cs hB (by omega),?_,?_⟩)
    ·cases us with
     | nil=>exact absurd rfl hne
     | cons=>exact hc
    ·cases us with
     | nil=>exact absurd rfl hne
     | cons=>exact hc
    ·have:=take_splice (cs:=cs) (o:=0+r.2.1) (k:=n*sz) (b:=us2) (a:=us) hcl (by rw [← e4]; simpa using hcs)
     rw [List.length_append,hlen1,Nat.add_zero]
     exact this
    ·rw [List.length_append,hlen1,hlen2,Nat.add_zero,splice_length hcl]
     have e5:n*sz+m*sz+(n+r.2.2-(n+m))*sz=n*sz+r.2.2*sz:=by
      rw [← Nat.add_mul,← Nat.add_mul,← Nat.add_mul]; congr 1; omega
     show 0+r.2.1+(n*sz+m*sz)+(n+r.2.2-(n+m))*sz≤cs.length
     omega
   ·exact ⟨rfl,(r.1,0+r.2.1,n+r.2.2-(n+m)),hR.last _,.inl ⟨_,_,rfl,.inl ⟨by simp,by simp; omega⟩⟩⟩
  ·have k1:=freshG _ (us++us2) (hR.kill b) rfl hne2 c'' zs hc'' hlz
   have k2:=slcNew _ (hR.kill b) c'' hc''
   simp only [List.length_set] at k2
   exact hK _ _ _ (Ext.push E _) k1 k2
end
section
variable {P:Program} {n0:NA} {l:Env} {L:LH} {α:Type} {g:α→List Value} {sz:Nat}
theorem EW.appA {o:Oper} {s x:Operand} {sT xT:TypeId} {bytes b n k j N m mc:Nat} {xs:List α} {f:Nat→List Value} {op:Nat→α} (h:RowOk g sz) (hop:∀ i,i<N→f i=g (op i)) (ho:o.op=.call ⟨.builtin .append,⟨[s,x]⟩,⟨[sT,xT]⟩⟩) (ht:appT P sT xT=some (sz,bytes))
  (hs:lv l s=some (.slice (some ⟨b,0,none⟩) n n)) (hx:lv l x=some (.slice (some ⟨k,0,none⟩) m mc)) (hb:L[b]?=some (.gro sz (rowsC g xs))) (hA:n0.A[j]?=some (k,N*sz,rowG sz f)) (hn:xs.length=n) (hm:m≤N) (hz:0<sz) (hbd:(2*(n+m)+2048)*bytes≤281474976710656) :
  EW P n0 L l (.raw o) (fun v K=>v=.slice (some ⟨L.length,0,none⟩) (n+m) (n+m)∧K=L.set b .dead++[.gro sz (rowsC g (xs++takeA op m))]):=by
 intro X w0 E0 w E l' Kf h0 hE hR hl hK
 have hrl:(rowsC g xs).length=n*sz:=by rw [rowsC_length h,hn]
 have hc1:∃ cells,lslc L sz (.slice (some ⟨b,0,none⟩) n n)=some cells:=by
  cases n with
  | zero=>exact ⟨[],rfl⟩
  | succ n =>
   have h1:Nat.ble (0+(n+1)*sz) (rowsC g xs).length=true:=Nat.ble_eq_true_of_le (by omega)
   have h2:(rowsC g xs).isEmpty=false:=by
    cases hq:rowsC g xs with
    | nil=>have:0<(n+1)*sz:=Nat.mul_pos (by omega) hz; rw [hq] at hrl; simp at hrl; omega
    | cons=>rfl
   have h3:(((rowsC g xs).drop 0).take ((n+1)*sz)).all stillS=true:=List.all_eq_true.2 fun a ha=>List.all_eq_true.1 (rowsC_still h xs) a (List.mem_of_mem_drop (List.mem_of_mem_take ha))
   exact ⟨_,by simp only [lslc,lcells,hb,h1,h2,h3,Bool.and_self,Bool.not_false,cond_true]; rfl⟩
 obtain ⟨cells,hc1⟩:=hc1
 obtain ⟨vs',h1,hsr⟩:=lv_ev hl hs
 obtain ⟨vx',h3,hxr⟩:=lv_ev hl hx
 obtain ⟨us,hrd1,hl1⟩:=lslc_ok hR (hsr.sr rfl) hc1
 have hst:=rowsC_still h (takeA op m)
 have hul:(rowsC g (takeA op m)).length=m*sz:=by rw [rowsC_length h,takeA_length]
 have hrd2:RdC w sz vx' m (rowsC g (takeA op m)):=by
  refine ⟨hul,fun u hu=>(SR.still (E:=E) (List.all_eq_true.1 hst u hu)).one.1,?_⟩
  rcases Nat.eq_zero_or_pos m with hm0 | hm0
  ·subst hm0
   obtain ⟨a,c,rfl⟩:=form_slice hxr
   exact .inl ⟨⟨a,c,rfl⟩,rfl⟩
  ·have hm1:m≠0:=by omega
   obtain ⟨hsp,q,hq,⟨a2,c2,e2,hcase⟩ | ⟨hz0,_⟩⟩:=hxr
   rotate_left
   ·exact absurd hz0 hm1
   rcases hcase with ⟨rfl,rfl⟩ | ⟨hz0,_⟩
   rotate_left
   ·exact absurd hz0 hm1
   have hq:E[k]?=some q:=hq
   refine .inr ⟨_,_,e2,fun j' hj'=>?_⟩
   have hdiv:j' / sz<m:=Nat.div_lt_of_lt_mul (by rw [Nat.mul_comm]; exact hj')
   have hmod:j' % sz<sz:=Nat.mod_lt _ hz
   have hj2:j'<N*sz:=Nat.lt_of_lt_of_le hj' (Nat.mul_le_mul_right _ hm)
   obtain ⟨r',y,g1,g2,g3⟩:=arg_cell h0 hE hR (List.mem_of_getElem? hA) hj2
   rw [hq] at g1; cases g1
   have hj3:j'=j' / sz*sz+j' % sz:=by rw [Nat.mul_comm,Nat.div_add_mod]
   have hfl:(f (j' / sz)).length=sz:=by rw [hop _ (by omega)]; exact h.len _
   have hu:(f (j' / sz))[j' % sz]?=some ((f (j' / sz))[j' % sz]'(by omega)):=List.getElem?_eq_getElem (by omega)
   have hG:=rowG_at (i:=j' / sz) (j:=j' % sz) hfl hu
   rw [← hj3] at hG
   rw [hG] at g3
   have g3:y=_:=g3
   subst g3
   rw [add_none]
   have hget:(rowsC g (takeA op m))[j']?=(f (j' / sz))[j' % sz]?:=by
    have ha:(takeA op m)[j' / sz]?=some (op (j' / sz)):=by simp [takeA,hdiv]
    have:=rowsC_cell h ha hmod
    rw [← hj3] at this
    rw [this,hop _ (by omega)]
   rw [hget,hu,← g2]
   congr 2; show 0+q.2.1+j'=_; omega
 unfold appT at ht
 split at ht
 rotate_left
 ·cases ht
 rename_i e i z he
 cases hc:(isSl P xT && Nat.beq z.cells.toList.length i.size && z.cells.toList.all one && Nat.blt 0 i.bytes && Nat.blt 0 i.size)
 ·rw [hc] at ht; cases ht
 rw [hc] at ht
 cases ht
 simp only [Bool.and_eq_true] at hc
 obtain ⟨hu,hi,hz'⟩:=elemOf_ok he
 have he':ElemT P sT e i.size i.bytes:=⟨hu,i,z,hi,rfl,rfl,hz',by simpa using Nat.eq_of_beq_eq_true hc.1.1.1.2,fun u hu=>List.all_eq_true.1 hc.1.1.2 u hu⟩
 obtain ⟨d,opp,ty,pos,af,g'⟩:=o
 simp only at ho
 subst ho
 refine appG_ok he' (isSl_ok hc.1.1.1.1) (Nat.le_of_ble_eq_true hc.1.2) hz hR h1 h3 hsr hb hrl hrd1 hrd2 hbd (fun w' E' v' hX hR' hv=>hK w' E' v' _ _ ⟨rfl,?_⟩ hX hR' hv)
 rw [rowsC_append]
end
end Go.Tum
end
section
namespace Go.Proofs.Ythgmdlmeeebfiaa
open Go Go.Tum Go.Tum.Base
set_option maxRecDepth 4000
abbrev slP (b m n:Nat):Value:=.slice (some ⟨b,0,none⟩) m n
theorem cut_tr (n:Nat) (hn:n≤9223372036854775807):Tr Try.prog 14 [slB 0 n] [.dead] (fun v K=>v=slP 0 (min n 15) n∧K=[.dead]):=by
 refine Tr.of row_tumbrellaw15_cut_ok rfl ?_
 by_cases h15:n > 15
 ·rw [Nat.min_eq_right (by omega)]
  repeat' (first|refine qN ?_|refine dN ?_|refine dR ?_|refine d0 ?_|refine rT ?_|refine qT ?_|refine qU ?_|refine qL ?_|refine qK ?_|refine iF (fun h=>?_) (fun h=>?_)|refine S_Q [] rfl rfl (QY.slc0 (b:=0) (lo':=0) (hi':=15) rfl rfl rfl (by omega) (by omega)) ?_|refine aI (hn:=?_)|refine qR ?_|refine qS ?_|exact ⟨rfl,rfl⟩|fail)
  all_goals first | (exfalso; omega)|exact ⟨rfl,rfl⟩
 ·rw [Nat.min_eq_left (by omega)]
  repeat' (first|refine qN ?_|refine dN ?_|refine dR ?_|refine d0 ?_|refine rT ?_|refine qT ?_|refine qU ?_|refine qL ?_|refine qK ?_|refine iF (fun h=>?_) (fun h=>?_)|refine aI (hn:=?_)|refine qR ?_|refine qS ?_|exact ⟨rfl,rfl⟩|fail)
  all_goals first | (exfalso; omega)|exact ⟨rfl,rfl⟩
theorem QY.eqlStrU {P:Program} {n0:NA} {L:LH} {l:Env} {o:Oper} {t ty:TypeId} {x y:Operand} {a:List (BitVec 8)} (ho:o.op=.binOp .eql t x y ty) (hx:lv l x=some (.string (bytesS a))) (hy:lv l y=some (.string (bytesS a))):QY P n0 L l (.raw o) (.bool true):=by
 have h:=QY.eqlStr (P:=P) (n0:=n0) (L:=L) ho hx hy
 rw [decide_eq_true rfl] at h; exact h
theorem QY.eqlStrD {P:Program} {n0:NA} {L:LH} {l:Env} {o:Oper} {t ty:TypeId} {x y:Operand} {a b:List (BitVec 8)} {d:Bool} (hd:decide (a=b)=d) (ho:o.op=.binOp .eql t x y ty) (hx:lv l x=some (.string (bytesS a))) (hy:lv l y=some (.string (bytesS b))):QY P n0 L l (.raw o) (.bool d):=by
 rw [← hd]; exact QY.eqlStr ho hx hy
theorem QY.eqlBU {P:Program} {n0:NA} {L:LH} {l:Env} {o:Oper} {t ty:TypeId} {x y:Operand} {a:Bool} (ho:o.op=.binOp .eql t x y ty) (ht:boolT P t=true) (hx:lv l x=some (.bool a)) (hy:lv l y=some (.bool a)):QY P n0 L l (.raw o) (.bool true):=by
 have h:=QY.eqlB (P:=P) (n0:=n0) (L:=L) ho ht hx hy
 rw [beq_self_eq_true] at h; exact h
theorem Cl.appA0 {P:Program} {n0:NA} {l:Env} {L:LH} {o:Oper} {s x:Operand} {sT xT:TypeId} {b k j N m mc:Nat} {f:Nat→List Value} {op:Nat→Cl} (hop:∀ i,i<N→f i=(op i).cells) (ho:o.op=.call ⟨.builtin .append,⟨[s,x]⟩,⟨[sT,xT]⟩⟩) (ht:appT P sT xT=some (4,32))
  (hs:lv l s=some (.slice (some ⟨b,0,none⟩) 0 0)) (hx:lv l x=some (slP k m mc)) (hb:L[b]?=some (.gro 4 [])) (hA:n0.A[j]?=some (k,N*4,rowG 4 f)) (hm:m≤N) (h15:m≤15) :
  EW P n0 L l (.raw o) (fun v K=>v=slB L.length m∧K=L.set b .dead++[.gro 4 (rowsC Cl.cells (takeA op m))]):=by
 have h:=EW.appA (P:=P) (n0:=n0) (l:=l) (L:=L) (g:=Cl.cells) (sz:=4) (bytes:=32) (n:=0) (xs:=[]) (op:=op) Cl.ok hop ho ht hs hx hb hA rfl hm (by decide) (by omega)
 rw [Nat.zero_add,List.nil_append] at h
 exact h
theorem Cl.appA1 {P:Program} {n0:NA} {l:Env} {L:LH} {o:Oper} {s x:Operand} {sT xT:TypeId} {b k j N n m mc:Nat} {xs:List Cl} {f:Nat→List Value} {op:Nat→Cl} (hop:∀ i,i<N→f i=(op i).cells) (ho:o.op=.call ⟨.builtin .append,⟨[s,x]⟩,⟨[sT,xT]⟩⟩) (ht:appT P sT xT=some (4,32))
  (hs:lv l s=some (slB b n)) (hx:lv l x=some (slP k m mc)) (hb:L[b]?=some (.gro 4 (rowsC Cl.cells xs))) (hA:n0.A[j]?=some (k,N*4,rowG 4 f)) (hn:xs.length=n) (hm:m≤N) (h15:m≤15) (hn15:n≤15) :
  EW P n0 L l (.raw o) (fun v K=>v=slB L.length (n+m)∧K=L.set b .dead++[.gro 4 (rowsC Cl.cells (xs++takeA op m))]) :=
 EW.appA (g:=Cl.cells) (sz:=4) (bytes:=32) Cl.ok hop ho ht hs hx hb hA hn hm (by decide) (by omega)
end Go.Proofs.Ythgmdlmeeebfiaa
end
section
namespace Go.Proofs.Ythgmdlmeeebfiaa
open Go Go.Tum Go.Tum.Base Go.Deep
set_option maxRecDepth 4000
def SK (s w x u y v:Sp):LH:=[.dead,.dead,.dead]++(spB s++spB w++[.cells 0 (spC 3 4 s),.cells 0 (spC 5 6 w)])++(spB x++spB u++[.cells 0 (spC 9 10 x),.cells 0 (spC 11 12 u)])++(spB y++spB v++[.cells 0 (spC 15 16 y),.cells 0 (spC 17 18 v)])
abbrev SKn:List Nat:=[0,1,2,3,4,5,6,7,8,9,10,11,12,13,14,15,16,17,18,19,20]
set_option maxHeartbeats 4000000 in
theorem SpecKeys_tr (a0 a1:Int) (nl na nb:Nat) (hnl:nl≤9223372036854775807) (hna:na≤9223372036854775807) (hnb:nb≤9223372036854775807) (gl ga gb:Nat→List Value) (ol oa ob:Nat→Cl) (hol:∀ i,i<nl→gl i=(ol i).cells) (hoa:∀ i,i<na→ga i=(oa i).cells) (hob:∀ i,i<nb→gb i=(ob i).cells) :
  TrK Try.prog [(0,nl*4,rowG 4 gl),(1,na*4,rowG 4 ga),(2,nb*4,rowG 4 gb)] [0,1,2] 4 [.int .i64 a0,.int .i64 a1,slB 0 nl,slB 1 na,slB 2 nb] [.dead,.dead,.dead] (fun v _=>v=.bool true):=by
 obtain ⟨ma,hm0,hm1,em⟩:∃ b,0≤b∧b≤4095∧a0 % 4096=b:=⟨a0 % 4096,by omega,by omega,rfl⟩
 obtain ⟨ar,ha0,ha1,ea⟩:∃ b,0≤b∧b≤8191∧a1 % 8192=b:=⟨a1 % 8192,by omega,by omega,rfl⟩
 have hP:=played_tr ma ar ⟨hm0,by omega⟩ ⟨ha0,ha1⟩ nl hnl gl ol hol 15 (by omega)
 have hAw:=awake15_tr
 have hcl:=cut_tr nl hnl
 have hca:=cut_tr na hna
 have hcb:=cut_tr nb hnb
 refine Tr.of row_tumbrellaw15_SpecKeys_ok rfl ?_
 repeat' (first|refine qN ?_|refine dN ?_|refine dR ?_|refine d0 ?_|refine qB ?_|refine rT ?_|refine qT ?_|refine qU ?_|refine qL ?_|refine qK ?_|refine qF ?_|refine qE ?_|refine iF (fun h=>?_) (fun h=>?_)|refine aX ?_|refine S_Q [] rfl rfl (QY.mask rfl rfl (by decide) em) ?_|refine S_Q [] rfl rfl (QY.mask rfl rfl (by decide) ea) ?_|refine aA ?_|refine aK ?_|refine aI (hn:=?_)|refine sP 67 (fun h=>?_) (fun h=>?_)|refine sP 71 (fun h=>?_) (fun h=>?_)|refine sP 93 (fun h=>?_) (fun h=>?_)|refine sP 104 (fun h=>?_) (fun h=>?_)|refine sP 115 (fun h=>?_) (fun h=>?_)|refine qR ?_|refine qS ?_|exact ⟨rfl,rfl⟩|fail)
 clear em ea
 refine S_E [] rfl rfl (EW.callA [0] hP rfl rfl (Part.of (by decide) (by repeat' (first|exact trivial|refine ⟨rfl,?_⟩ | fail))) (by intro y hy; cases List.mem_singleton.1 hy; exact ⟨rfl,0,rfl,List.mem_cons_self ..⟩)) ?_
 rintro _ _ ⟨_,_,⟨s,w,hI,rfl,rfl⟩,rfl,rfl⟩
 refine ⟨(by repeat' (first|exact trivial|refine ⟨⟨qsafe_ok (st:=[]) rfl,Sure.of rfl⟩,?_⟩|refine ⟨.inl rfl,?_⟩|refine ⟨.inr ⟨qsafe_ok (st:=[]) rfl,Sure.of rfl⟩,?_⟩|refine ⟨⟨qsafe_ok (st:=[]) rfl,Sure.slice (by omega)⟩,?_⟩|refine ⟨.inr ⟨qsafe_ok (st:=[]) rfl,Sure.slice (by omega)⟩,?_⟩|refine ⟨.inr ⟨QY.neqB rfl (by kernel_rfl) rfl rfl,Sure.of rfl⟩,?_⟩|refine ⟨.inr ⟨QY.eqlB rfl (by kernel_rfl) rfl rfl,Sure.of rfl⟩,?_⟩ | fail)),LSt.nf ?_⟩
 conv=>whnf
 have hso:=hI.ok (by omega)
 have hK:=key_tr s hso
 obtain ⟨ml,hml⟩:∃ m,m=min nl 15:=⟨_,rfl⟩
 obtain ⟨m2,hm2⟩:∃ m,m=min na 15:=⟨_,rfl⟩
 obtain ⟨m3,hm3⟩:∃ m,m=min nb 15:=⟨_,rfl⟩
 rw [← hml] at hcl
 rw [← hm2] at hca
 rw [← hm3] at hcb
 have hxl:=takeA_length ol ml
 have hxa:=takeA_length oa m2
 have hxb:=takeA_length ob m3
 have hX:=playedR_tr ma ar ⟨hm0,by omega⟩ ⟨ha0,ha1⟩ (takeA ol ml++takeA oa m2) (ml+m2) (by rw [List.length_append,hxl,hxa]) (by omega) 30 (by omega)
 have hY:=playedR_tr ma ar ⟨hm0,by omega⟩ ⟨ha0,ha1⟩ (takeA ol ml++takeA ob m3) (ml+m3) (by rw [List.length_append,hxl,hxb]) (by omega) 30 (by omega)
 clear hP hm0 hm1 ha0 ha1
 repeat' (first|refine qN ?_|refine dN ?_|refine dR ?_|refine d0 ?_|refine qB ?_|refine rT ?_|refine qT ?_|refine qU ?_|refine qL ?_|refine qK ?_|refine qF ?_|refine qE ?_|refine iF (fun h=>?_) (fun h=>?_)|refine aX ?_|(refine cW [3,4] (hK) ?_; conv=>whnf)|refine aA ?_|refine aK ?_|refine aI (hn:=?_)|refine sP 67 (fun h=>?_) (fun h=>?_)|refine sP 71 (fun h=>?_) (fun h=>?_)|refine sP 93 (fun h=>?_) (fun h=>?_)|refine sP 104 (fun h=>?_) (fun h=>?_)|refine sP 115 (fun h=>?_) (fun h=>?_)|refine qR ?_|refine qS ?_|exact ⟨rfl,rfl⟩|fail)
 first|refine L_rs ?_|refine L_reg ?_ | skip
 refine cW [0] (hcl) ?_
 conv=>whnf
 refine S_wk [] rfl (wk_gro0 (b:=9) 4 rfl) ?_
 first|refine L_rs ?_|refine L_reg ?_ | skip
 refine eE rfl rfl (Cl.appA0 (j:=0) hol rfl (by kernel_rfl) rfl rfl rfl rfl (by omega) (by omega)) ?_
 conv=>whnf
 first|refine L_rs ?_|refine L_reg ?_ | skip
 refine cW [1] (hca) ?_
 conv=>whnf
 first|refine L_rs ?_|refine L_reg ?_ | skip
 refine eE rfl rfl (Cl.appA1 (j:=1) hoa rfl (by kernel_rfl) rfl rfl rfl rfl hxl (by omega) (by omega) (by omega)) ?_
 conv=>whnf
 first|refine L_rs ?_|refine L_reg ?_ | skip
 refine S_E [] rfl rfl (EW.callA [11] (hX) rfl rfl (Part.of (by decide) (by repeat' (first|exact trivial|refine ⟨rfl,?_⟩ | fail))) handed_nil) ?_
 rintro _ _ ⟨_,_,⟨x,u,hX1,rfl,rfl⟩,rfl,rfl⟩
 refine ⟨(by repeat' (first|exact trivial|refine ⟨⟨qsafe_ok (st:=[]) rfl,Sure.of rfl⟩,?_⟩|refine ⟨.inl rfl,?_⟩|refine ⟨.inr ⟨qsafe_ok (st:=[]) rfl,Sure.of rfl⟩,?_⟩|refine ⟨⟨qsafe_ok (st:=[]) rfl,Sure.slice (by omega)⟩,?_⟩|refine ⟨.inr ⟨qsafe_ok (st:=[]) rfl,Sure.slice (by omega)⟩,?_⟩|refine ⟨.inr ⟨QY.neqB rfl (by kernel_rfl) rfl rfl,Sure.of rfl⟩,?_⟩|refine ⟨.inr ⟨QY.eqlB rfl (by kernel_rfl) rfl rfl,Sure.of rfl⟩,?_⟩ | fail)),LSt.nf ?_⟩
 conv=>whnf
 repeat' (first|refine qN ?_|refine dN ?_|refine dR ?_|refine d0 ?_|refine qB ?_|refine rT ?_|refine qT ?_|refine qU ?_|refine qL ?_|refine qK ?_|refine qF ?_|refine qE ?_|refine iF (fun h=>?_) (fun h=>?_)|refine aX ?_|refine aA ?_|refine aK ?_|refine aI (hn:=?_)|refine sP 67 (fun h=>?_) (fun h=>?_)|refine sP 71 (fun h=>?_) (fun h=>?_)|refine sP 93 (fun h=>?_) (fun h=>?_)|refine sP 104 (fun h=>?_) (fun h=>?_)|refine sP 115 (fun h=>?_) (fun h=>?_)|refine qR ?_|refine qS ?_|exact ⟨rfl,rfl⟩|fail)
 first|refine LSt.nf ?_|refine LWp.nf ?_
 conv=>whnf
 first|refine L_rs ?_|refine L_reg ?_ | skip
 refine cW [0] (hcl) ?_
 conv=>whnf
 refine S_wk [] rfl (wk_gro0 (b:=18) 4 rfl) ?_
 first|refine L_rs ?_|refine L_reg ?_ | skip
 refine eE rfl rfl (Cl.appA0 (j:=0) hol rfl (by kernel_rfl) rfl rfl rfl rfl (by omega) (by omega)) ?_
 conv=>whnf
 first|refine L_rs ?_|refine L_reg ?_ | skip
 refine cW [2] (hcb) ?_
 conv=>whnf
 first|refine L_rs ?_|refine L_reg ?_ | skip
 refine eE rfl rfl (Cl.appA1 (j:=2) hob rfl (by kernel_rfl) rfl rfl rfl rfl hxl (by omega) (by omega) (by omega)) ?_
 conv=>whnf
 first|refine L_rs ?_|refine L_reg ?_ | skip
 refine S_E [] rfl rfl (EW.callA [20] (hY) rfl rfl (Part.of (by decide) (by repeat' (first|exact trivial|refine ⟨rfl,?_⟩ | fail))) handed_nil) ?_
 rintro _ _ ⟨_,_,⟨y,v,hY1,rfl,rfl⟩,rfl,rfl⟩
 refine ⟨(by repeat' (first|exact trivial|refine ⟨⟨qsafe_ok (st:=[]) rfl,Sure.of rfl⟩,?_⟩|refine ⟨.inl rfl,?_⟩|refine ⟨.inr ⟨qsafe_ok (st:=[]) rfl,Sure.of rfl⟩,?_⟩|refine ⟨⟨qsafe_ok (st:=[]) rfl,Sure.slice (by omega)⟩,?_⟩|refine ⟨.inr ⟨qsafe_ok (st:=[]) rfl,Sure.slice (by omega)⟩,?_⟩|refine ⟨.inr ⟨QY.neqB rfl (by kernel_rfl) rfl rfl,Sure.of rfl⟩,?_⟩|refine ⟨.inr ⟨QY.eqlB rfl (by kernel_rfl) rfl rfl,Sure.of rfl⟩,?_⟩ | fail)),LSt.nf ?_⟩
 conv=>whnf
 clear hX hY hcl hca hcb hol hob hxl hxa hxb hml hm2 hm3
 repeat' (first|refine qN ?_|refine dN ?_|refine dR ?_|refine d0 ?_|refine qB ?_|refine rT ?_|refine qT ?_|refine qU ?_|refine qL ?_|refine qK ?_|refine qF ?_|refine qE ?_|refine iF (fun h=>?_) (fun h=>?_)|refine aX ?_|refine aA ?_|refine aK ?_|refine aI (hn:=?_)|refine sP 67 (fun h=>?_) (fun h=>?_)|refine sP 71 (fun h=>?_) (fun h=>?_)|refine sP 93 (fun h=>?_) (fun h=>?_)|refine sP 104 (fun h=>?_) (fun h=>?_)|refine sP 115 (fun h=>?_) (fun h=>?_)|refine qR ?_|refine qS ?_|exact ⟨rfl,rfl⟩|fail)
 first|refine LSt.nf ?_|refine LWp.nf ?_
 conv=>whnf
 refine LWp.pick [11,12,14,15,16,18,19,75,76,77] [0,1,2,3,4,5,6,7,8,12,13,14,15,16,17,21,22,23,24,25,26] rfl rfl rfl (L_loop (fun q l L=>∃ i:Nat,q=na-i∧i≤na∧l=[(11,pp 7),(12,pp 8),(14,.string (bytesS (keyB s))),(15,pp 13),(16,pp 14),(18,pp 19),(19,pp 20),(75,slB 1 na),(76,.int .i64 na),(77,.int .i64 i)]∧L=SK s w x u y v) na ⟨0,rfl,by omega,rfl,rfl⟩ ?_)
 rintro q _ _ ⟨i,rfl,hi,rfl,rfl⟩
 first|refine L_seq (L_rs (S_done [] rfl (Nx.goL (iF (fun h=>L_skip (Nx.goL ?_)) (fun h=>L_exit ?_)))))|refine L_rs (S_done [] rfl (Nx.goL (L_seq (iF (fun h=>L_skip (Nx.goL ?_)) (fun h=>L_exit ?_)))))
 ·have hi':i<na:=by omega
  have e:=hoa i hi'
  have hO:=ours_tr (oa i)
  cases hb:mayB s (oa i)
  ·have hX:=next_no s hso (oa i) hb
   repeat' (first|refine qN ?_|refine dN ?_|refine dR ?_|refine d0 ?_|refine qB ?_|refine rT ?_|refine qT ?_|refine qU ?_|refine qL ?_|refine qK ?_|refine qF ?_|refine qE ?_|refine iF (fun h=>?_) (fun h=>?_)|refine aX ?_|refine S_Q (v:=.agg ⟨(oa i).cells⟩) [] rfl rfl (by rw [← e]; exact QY.rowA (j:=1) i rfl rfl rfl hi' (by rw [e]; rfl) (by rw [e]; rfl)) ?_|(refine cW [] (hO) ?_; conv=>whnf)|(refine cW [3,4] (hX) ?_; conv=>whnf)|refine aA ?_|refine aK ?_|refine aI (hn:=?_)|refine sP 67 (fun h=>?_) (fun h=>?_)|refine sP 71 (fun h=>?_) (fun h=>?_)|refine sP 93 (fun h=>?_) (fun h=>?_)|refine sP 104 (fun h=>?_) (fun h=>?_)|refine sP 115 (fun h=>?_) (fun h=>?_)|refine qR ?_|refine qS ?_|exact ⟨rfl,rfl⟩|fail)
   all_goals exact Nx.pick [11,12,14,15,16,18,19,75,76,77] SKn rfl rfl rfl ⟨na-(i+1),by omega,i+1,rfl,by omega,rfl,rfl⟩
  ·have hX:=next_tr s hso (oa i) hb
   generalize nextS s (oa i)=s' at hX
   repeat' (first|refine qN ?_|refine dN ?_|refine dR ?_|refine d0 ?_|refine qB ?_|refine rT ?_|refine qT ?_|refine qU ?_|refine qL ?_|refine qK ?_|refine qF ?_|refine qE ?_|refine iF (fun h=>?_) (fun h=>?_)|refine aX ?_|refine S_Q (v:=.agg ⟨(oa i).cells⟩) [] rfl rfl (by rw [← e]; exact QY.rowA (j:=1) i rfl rfl rfl hi' (by rw [e]; rfl) (by rw [e]; rfl)) ?_|(refine cW [] (hO) ?_; conv=>whnf)|(refine cW [3,4] (hX) ?_; conv=>whnf)|refine aA ?_|refine aK ?_|refine aI (hn:=?_)|refine sP 67 (fun h=>?_) (fun h=>?_)|refine sP 71 (fun h=>?_) (fun h=>?_)|refine sP 93 (fun h=>?_) (fun h=>?_)|refine sP 104 (fun h=>?_) (fun h=>?_)|refine sP 115 (fun h=>?_) (fun h=>?_)|refine qR ?_|refine qS ?_|exact ⟨rfl,rfl⟩|fail)
   all_goals exact Nx.pick [11,12,14,15,16,18,19,75,76,77] SKn rfl rfl rfl ⟨na-(i+1),by omega,i+1,rfl,by omega,rfl,rfl⟩
 ·refine Nx.goL ?_
  have hKx:=key_tr x (hX1.ok (by omega))
  have hKy:=key_tr y (hY1.ok (by omega))
  have hS1:=same_tr u v (by have:=hX1.wl'; omega) (by have:=hX1.wf'; omega) (by have:=hY1.wl'; omega) (by have:=hY1.wf'; omega)
  have hS2:=same_tr u w (by have:=hX1.wl'; omega) (by have:=hX1.wf'; omega) (by have:=hI.wl'; omega) (by have:=hI.wf'; omega)
  have hd1:=key_same (by omega) (by omega) hX1 hY1
  have hd2:=key_same (by omega) (by omega) hX1 hI
  generalize sameB u v=d1 at *
  generalize sameB u w=d2 at *
  clear hX1 hY1 hI hso hi
  repeat' (first|refine qN ?_|refine dN ?_|refine dR ?_|refine d0 ?_|refine qB ?_|refine rT ?_|refine qT ?_|refine qU ?_|refine qL ?_|refine qK ?_|refine qF ?_|refine qE ?_|refine iF (fun h=>?_) (fun h=>?_)|refine aX ?_|(refine cW [3,4] (hK) ?_ (hc:=(by repeat' (first|exact trivial|refine ⟨⟨qsafe_ok (st:=[]) rfl,Sure.of rfl⟩,?_⟩|refine ⟨.inl rfl,?_⟩|refine ⟨.inr ⟨qsafe_ok (st:=[]) rfl,Sure.of rfl⟩,?_⟩|refine ⟨⟨qsafe_ok (st:=[]) rfl,Sure.slice (by omega)⟩,?_⟩|refine ⟨.inr ⟨qsafe_ok (st:=[]) rfl,Sure.slice (by omega)⟩,?_⟩|refine ⟨.inr ⟨QY.neqB rfl (by kernel_rfl) rfl rfl,Sure.of rfl⟩,?_⟩|refine ⟨.inr ⟨QY.eqlB rfl (by kernel_rfl) rfl rfl,Sure.of rfl⟩,?_⟩|refine ⟨.inr ⟨QY.eqlStrU rfl rfl rfl,Sure.of rfl⟩,?_⟩|refine ⟨.inr ⟨QY.eqlStrD hd1 rfl rfl rfl,Sure.of rfl⟩,?_⟩|refine ⟨.inr ⟨QY.eqlStrD hd2 rfl rfl rfl,Sure.of rfl⟩,?_⟩|refine ⟨.inr ⟨QY.eqlBU rfl (by kernel_rfl) rfl rfl,Sure.of rfl⟩,?_⟩ | fail))); conv=>whnf)|(refine cW [9,10] (hKx) ?_ (hc:=(by repeat' (first|exact trivial|refine ⟨⟨qsafe_ok (st:=[]) rfl,Sure.of rfl⟩,?_⟩|refine ⟨.inl rfl,?_⟩|refine ⟨.inr ⟨qsafe_ok (st:=[]) rfl,Sure.of rfl⟩,?_⟩|refine ⟨⟨qsafe_ok (st:=[]) rfl,Sure.slice (by omega)⟩,?_⟩|refine ⟨.inr ⟨qsafe_ok (st:=[]) rfl,Sure.slice (by omega)⟩,?_⟩|refine ⟨.inr ⟨QY.neqB rfl (by kernel_rfl) rfl rfl,Sure.of rfl⟩,?_⟩|refine ⟨.inr ⟨QY.eqlB rfl (by kernel_rfl) rfl rfl,Sure.of rfl⟩,?_⟩|refine ⟨.inr ⟨QY.eqlStrU rfl rfl rfl,Sure.of rfl⟩,?_⟩|refine ⟨.inr ⟨QY.eqlStrD hd1 rfl rfl rfl,Sure.of rfl⟩,?_⟩|refine ⟨.inr ⟨QY.eqlStrD hd2 rfl rfl rfl,Sure.of rfl⟩,?_⟩|refine ⟨.inr ⟨QY.eqlBU rfl (by kernel_rfl) rfl rfl,Sure.of rfl⟩,?_⟩ | fail))); conv=>whnf)|(refine cW [15,16] (hKy) ?_ (hc:=(by repeat' (first|exact trivial|refine ⟨⟨qsafe_ok (st:=[]) rfl,Sure.of rfl⟩,?_⟩|refine ⟨.inl rfl,?_⟩|refine ⟨.inr ⟨qsafe_ok (st:=[]) rfl,Sure.of rfl⟩,?_⟩|refine ⟨⟨qsafe_ok (st:=[]) rfl,Sure.slice (by omega)⟩,?_⟩|refine ⟨.inr ⟨qsafe_ok (st:=[]) rfl,Sure.slice (by omega)⟩,?_⟩|refine ⟨.inr ⟨QY.neqB rfl (by kernel_rfl) rfl rfl,Sure.of rfl⟩,?_⟩|refine ⟨.inr ⟨QY.eqlB rfl (by kernel_rfl) rfl rfl,Sure.of rfl⟩,?_⟩|refine ⟨.inr ⟨QY.eqlStrU rfl rfl rfl,Sure.of rfl⟩,?_⟩|refine ⟨.inr ⟨QY.eqlStrD hd1 rfl rfl rfl,Sure.of rfl⟩,?_⟩|refine ⟨.inr ⟨QY.eqlStrD hd2 rfl rfl rfl,Sure.of rfl⟩,?_⟩|refine ⟨.inr ⟨QY.eqlBU rfl (by kernel_rfl) rfl rfl,Sure.of rfl⟩,?_⟩ | fail))); conv=>whnf)|(refine cW [11,12,17,18] (hS1) ?_ (hc:=(by repeat' (first|exact trivial|refine ⟨⟨qsafe_ok (st:=[]) rfl,Sure.of rfl⟩,?_⟩|refine ⟨.inl rfl,?_⟩|refine ⟨.inr ⟨qsafe_ok (st:=[]) rfl,Sure.of rfl⟩,?_⟩|refine ⟨⟨qsafe_ok (st:=[]) rfl,Sure.slice (by omega)⟩,?_⟩|refine ⟨.inr ⟨qsafe_ok (st:=[]) rfl,Sure.slice (by omega)⟩,?_⟩|refine ⟨.inr ⟨QY.neqB rfl (by kernel_rfl) rfl rfl,Sure.of rfl⟩,?_⟩|refine ⟨.inr ⟨QY.eqlB rfl (by kernel_rfl) rfl rfl,Sure.of rfl⟩,?_⟩|refine ⟨.inr ⟨QY.eqlStrU rfl rfl rfl,Sure.of rfl⟩,?_⟩|refine ⟨.inr ⟨QY.eqlStrD hd1 rfl rfl rfl,Sure.of rfl⟩,?_⟩|refine ⟨.inr ⟨QY.eqlStrD hd2 rfl rfl rfl,Sure.of rfl⟩,?_⟩|refine ⟨.inr ⟨QY.eqlBU rfl (by kernel_rfl) rfl rfl,Sure.of rfl⟩,?_⟩ | fail))); conv=>whnf)|(refine cW [11,12,5,6] (hS2) ?_ (hc:=(by repeat' (first|exact trivial|refine ⟨⟨qsafe_ok (st:=[]) rfl,Sure.of rfl⟩,?_⟩|refine ⟨.inl rfl,?_⟩|refine ⟨.inr ⟨qsafe_ok (st:=[]) rfl,Sure.of rfl⟩,?_⟩|refine ⟨⟨qsafe_ok (st:=[]) rfl,Sure.slice (by omega)⟩,?_⟩|refine ⟨.inr ⟨qsafe_ok (st:=[]) rfl,Sure.slice (by omega)⟩,?_⟩|refine ⟨.inr ⟨QY.neqB rfl (by kernel_rfl) rfl rfl,Sure.of rfl⟩,?_⟩|refine ⟨.inr ⟨QY.eqlB rfl (by kernel_rfl) rfl rfl,Sure.of rfl⟩,?_⟩|refine ⟨.inr ⟨QY.eqlStrU rfl rfl rfl,Sure.of rfl⟩,?_⟩|refine ⟨.inr ⟨QY.eqlStrD hd1 rfl rfl rfl,Sure.of rfl⟩,?_⟩|refine ⟨.inr ⟨QY.eqlStrD hd2 rfl rfl rfl,Sure.of rfl⟩,?_⟩|refine ⟨.inr ⟨QY.eqlBU rfl (by kernel_rfl) rfl rfl,Sure.of rfl⟩,?_⟩ | fail))); conv=>whnf)|(refine cW [] (hAw) ?_ (hc:=(by repeat' (first|exact trivial|refine ⟨⟨qsafe_ok (st:=[]) rfl,Sure.of rfl⟩,?_⟩|refine ⟨.inl rfl,?_⟩|refine ⟨.inr ⟨qsafe_ok (st:=[]) rfl,Sure.of rfl⟩,?_⟩|refine ⟨⟨qsafe_ok (st:=[]) rfl,Sure.slice (by omega)⟩,?_⟩|refine ⟨.inr ⟨qsafe_ok (st:=[]) rfl,Sure.slice (by omega)⟩,?_⟩|refine ⟨.inr ⟨QY.neqB rfl (by kernel_rfl) rfl rfl,Sure.of rfl⟩,?_⟩|refine ⟨.inr ⟨QY.eqlB rfl (by kernel_rfl) rfl rfl,Sure.of rfl⟩,?_⟩|refine ⟨.inr ⟨QY.eqlStrU rfl rfl rfl,Sure.of rfl⟩,?_⟩|refine ⟨.inr ⟨QY.eqlStrD hd1 rfl rfl rfl,Sure.of rfl⟩,?_⟩|refine ⟨.inr ⟨QY.eqlStrD hd2 rfl rfl rfl,Sure.of rfl⟩,?_⟩|refine ⟨.inr ⟨QY.eqlBU rfl (by kernel_rfl) rfl rfl,Sure.of rfl⟩,?_⟩ | fail))); conv=>whnf)|refine S_Q [] rfl rfl (QY.eqlStrU rfl rfl rfl) ?_|refine S_Q [] rfl rfl (QY.eqlStrD hd1 rfl rfl rfl) ?_|refine S_Q [] rfl rfl (QY.eqlStrD hd2 rfl rfl rfl) ?_|refine S_Q [] rfl rfl (QY.eqlBU rfl (by kernel_rfl) rfl rfl) ?_|refine aA ?_|refine aK ?_|refine aI (hn:=?_)|refine sP 67 (fun h=>?_) (fun h=>?_)|refine sP 71 (fun h=>?_) (fun h=>?_)|refine sP 93 (fun h=>?_) (fun h=>?_)|refine sP 104 (fun h=>?_) (fun h=>?_)|refine sP 115 (fun h=>?_) (fun h=>?_)|refine qR ?_|refine qS ?_|exact ⟨rfl,rfl⟩|fail)
  all_goals rfl
theorem SpecKeys_does (w:World) (a0 a1:Int) {v v2 v3:Value} {n n2 n3:Nat} {get get2 get3:Nat→List Value} (hr:SlIn w 4 v n get) (hf:∀ i,i<n→Fits [none,some .i64,some .i64,some .i64] (get i)) (hr2:SlIn w 4 v2 n2 get2) (hf2:∀ i,i<n2→Fits [none,some .i64,some .i64,some .i64] (get2 i))
  (hr3:SlIn w 4 v3 n3 get3) (hf3:∀ i,i<n3→Fits [none,some .i64,some .i64,some .i64] (get3 i)) :
  Does Try.prog 4 #[.int .i64 a0,.int .i64 a1,v,v2,v3] w fun v w'=>v=.bool true∧Fr (fun _=>False) w w':=by
 obtain ⟨op,hop⟩:=choose_lt (n:=n) (p:=fun i (o:Cl)=>get i=o.cells) fun i hi=>cls_in (hf i hi)
 obtain ⟨op2,hop2⟩:=choose_lt (n:=n2) (p:=fun i (o:Cl)=>get2 i=o.cells) fun i hi=>cls_in (hf2 i hi)
 obtain ⟨op3,hop3⟩:=choose_lt (n:=n3) (p:=fun i (o:Cl)=>get3 i=o.cells) fun i hi=>cls_in (hf3 i hi)
 obtain ⟨hn,x,hr⟩:=hr
 obtain ⟨hn2,y,hr2⟩:=hr2
 obtain ⟨hn3,z,hr3⟩:=hr3
 obtain ⟨h1,h2⟩:=hr [x,y,z] 0 rfl
 obtain ⟨h3,h4⟩:=hr2 [x,y,z] 1 rfl
 obtain ⟨h5,h6⟩:=hr3 [x,y,z] 2 rfl
 exact (SpecKeys_tr a0 a1 n n2 n3 hn hn2 hn3 get get2 get3 op op2 op3 hop hop2 hop3).law (vs':=[.int .i64 a0,.int .i64 a1,v,v2,v3]) [x,y,z] w rfl (by
  intro q hq
  rcases List.mem_cons.1 hq with rfl | hq
  ·exact ⟨rfl,h2⟩
  ·rcases List.mem_cons.1 hq with rfl | hq
   ·exact ⟨rfl,h4⟩
   ·cases List.mem_singleton.1 hq; exact ⟨rfl,h6⟩) ⟨rfl,rfl,h1,h3,h5,trivial⟩
end Go.Proofs.Ythgmdlmeeebfiaa
end
