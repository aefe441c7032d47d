/-
  What the proof leans on, part 9: of the texts RgW, RgX, RgO, RegionPlaces.
-/
import Derived.Test.YtahckccjhdfaiaaGreatPkH
set_option linter.unusedVariables false
set_option linter.unusedSimpArgs false
set_option linter.unusedSectionVars false
section
namespace Go.Proofs.YtahckccjhdfaiaaGreat
open Go Go.Tum Go.Tum.Base
set_option maxRecDepth 4000
section
variable (r:PR) (d:DR) (ok:r.Ok) (tie:Tie r d)
set_option maxHeartbeats 4000000 in
theorem step_tr (o:OP) (ho:o.at_<9223372036854775808) (hmc:o.m≤o.c):TrK Tryz.prog [] [0,1,2,3,4,5,6,7,8] 9 [ptr 0,.agg ⟨OV o o.m⟩,.bool false] (PX r d) (fun v K=>∃ j:PR × DR,(Stp r j.1∧Tie j.1 j.2)∧v=.bool true∧K=PX j.1 j.2):=by
 have hAt:=at_tr r d ok tie o
 have hTake:=bTake ok tie
 have hDrop:=bDrop ok tie
 have hGive:=bGive ok tie
 have hShut:=bShut ok tie
 have hOpen:=bOpen ok tie
 have hGreat:=bGreat ok tie
 have hOwn:=bOwner ok tie
 have hFp:=pgFind_tr r ok
 have hFd:=dFind_tr r d ok tie
 have hHp:=pgHome_tr r ok
 have hHd:=dHome_tr r d ok tie
 refine Tr.of row_tumbrellaw09_Pair_Step_ok rfl ?_
 obtain ⟨kind,cls,ow,page,at_,n,base,b,o,m,c⟩:=o
 change at_<_ at ho
 change m≤c at hmc
 refine L_cut (fun l L=>l=[(0,ptr 0),(2,.bool false),(4,ptr 15)]∧L=PX r d++[.cells 0 [.int .i64 kind,.int .i64 cls,.int .i64 ow,.int .i64 page,.int .i64 at_,.int .i64 n,.bool base,.slice (some ⟨b,o,some 0⟩) m c]]) ?_ ?_
 ·repeat' (first|refine qN ?_|refine dN ?_|refine d0 ?_|refine qB ?_|refine qT ?_|refine qU ?_|refine qL ?_|refine qK ?_|refine iF (fun h=>?_) (fun h=>?_)|refine aI (hn:=?_)|refine sP 78 (fun h=>?_) (fun h=>?_)|refine sP 109 (fun h=>?_) (fun h=>?_)|refine sP 138 (fun h=>?_) (fun h=>?_)|refine sP 200 (fun h=>?_) (fun h=>?_)|refine sP 208 (fun h=>?_) (fun h=>?_)|refine sP 269 (fun h=>?_) (fun h=>?_)|refine sP 301 (fun h=>?_) (fun h=>?_)|refine sP 303 (fun h=>?_) (fun h=>?_)|refine sP 309 (fun h=>?_) (fun h=>?_)|refine sP 317 (fun h=>?_) (fun h=>?_)|refine sP 320 (fun h=>?_) (fun h=>?_)|refine sP 347 (fun h=>?_) (fun h=>?_)|refine qR ?_|refine qS ?_|exact ⟨rfl,rfl⟩|fail)
  exact Nx.pick [0,2,4] [0,1,2,3,4,5,6,7,8,9,10,11,12,13,14,15] rfl rfl rfl ⟨rfl,rfl⟩
 rintro _ _ ⟨rfl,rfl⟩
 refine L_cut (fun l L=>∃ a:Int,l=[(0,ptr 0),(2,.bool false),(4,ptr 15),(7,.int .i64 a)]∧L=PX r d++[.cells 0 [.int .i64 kind,.int .i64 cls,.int .i64 ow,.int .i64 page,.int .i64 at_,.int .i64 n,.bool base,.slice (some ⟨b,o,some 0⟩) m c]]) ?_ ?_
 ·repeat' (first|refine qN ?_|refine dN ?_|refine d0 ?_|refine qB ?_|refine qT ?_|refine qU ?_|refine qL ?_|refine qK ?_|refine iF (fun h=>?_) (fun h=>?_)|refine aI (hn:=?_)|refine sP 78 (fun h=>?_) (fun h=>?_)|refine sP 109 (fun h=>?_) (fun h=>?_)|refine sP 138 (fun h=>?_) (fun h=>?_)|refine sP 200 (fun h=>?_) (fun h=>?_)|refine sP 208 (fun h=>?_) (fun h=>?_)|refine sP 269 (fun h=>?_) (fun h=>?_)|refine sP 301 (fun h=>?_) (fun h=>?_)|refine sP 303 (fun h=>?_) (fun h=>?_)|refine sP 309 (fun h=>?_) (fun h=>?_)|refine sP 317 (fun h=>?_) (fun h=>?_)|refine sP 320 (fun h=>?_) (fun h=>?_)|refine sP 347 (fun h=>?_) (fun h=>?_)|refine qR ?_|refine qS ?_|exact ⟨rfl,rfl⟩|fail)
  refine cX (ι:=Int) (C:=fun _=>True) (V:=fun a=>.int .i64 a) (B:=fun _=>PX r d) [0,1,2,3,4,5,6,7,8,9,10,11,12,13,14] hAt (fun a _=>?_)
  conv=>whnf
  repeat' (first|refine qN ?_|refine dN ?_|refine d0 ?_|refine qB ?_|refine qT ?_|refine qU ?_|refine qL ?_|refine qK ?_|refine iF (fun h=>?_) (fun h=>?_)|refine aI (hn:=?_)|refine sP 78 (fun h=>?_) (fun h=>?_)|refine sP 109 (fun h=>?_) (fun h=>?_)|refine sP 138 (fun h=>?_) (fun h=>?_)|refine sP 200 (fun h=>?_) (fun h=>?_)|refine sP 208 (fun h=>?_) (fun h=>?_)|refine sP 269 (fun h=>?_) (fun h=>?_)|refine sP 301 (fun h=>?_) (fun h=>?_)|refine sP 303 (fun h=>?_) (fun h=>?_)|refine sP 309 (fun h=>?_) (fun h=>?_)|refine sP 317 (fun h=>?_) (fun h=>?_)|refine sP 320 (fun h=>?_) (fun h=>?_)|refine sP 347 (fun h=>?_) (fun h=>?_)|refine qR ?_|refine qS ?_|exact ⟨rfl,rfl⟩|fail)
  exact Nx.pick [0,2,4,7] [0,1,2,3,4,5,6,7,8,9,10,11,12,13,14,15] rfl rfl rfl ⟨a,rfl,rfl⟩
 clear hAt
 rintro _ _ ⟨a,rfl,rfl⟩
 refine L_cut (fun l L=>∃ m':Nat,l=[(0,ptr 0),(2,.bool false),(4,ptr 15),(7,.int .i64 a)]∧L=PX r d++[.cells 0 [.int .i64 kind,.int .i64 cls,.int .i64 ow,.int .i64 page,.int .i64 at_,.int .i64 n,.bool base,.slice (some ⟨b,o,some 0⟩) m' c]]) ?_ ?_
 ·by_cases h60:m > 60
  ·repeat' (first|refine qN ?_|refine dN ?_|refine d0 ?_|refine qB ?_|refine qT ?_|refine qU ?_|refine qL ?_|refine qK ?_|refine iF (fun h=>?_) (fun h=>?_)|refine S_Q [] rfl rfl (QY.slcR (hi':=60) rfl rfl (by omega)) ?_|refine aI (hn:=?_)|refine sP 78 (fun h=>?_) (fun h=>?_)|refine sP 109 (fun h=>?_) (fun h=>?_)|refine sP 138 (fun h=>?_) (fun h=>?_)|refine sP 200 (fun h=>?_) (fun h=>?_)|refine sP 208 (fun h=>?_) (fun h=>?_)|refine sP 269 (fun h=>?_) (fun h=>?_)|refine sP 301 (fun h=>?_) (fun h=>?_)|refine sP 303 (fun h=>?_) (fun h=>?_)|refine sP 309 (fun h=>?_) (fun h=>?_)|refine sP 317 (fun h=>?_) (fun h=>?_)|refine sP 320 (fun h=>?_) (fun h=>?_)|refine sP 347 (fun h=>?_) (fun h=>?_)|refine qR ?_|refine qS ?_|exact ⟨rfl,rfl⟩|fail)
   all_goals first | (exfalso; omega)|exact Nx.pick [0,2,4,7] [0,1,2,3,4,5,6,7,8,9,10,11,12,13,14,15] rfl rfl rfl ⟨60,rfl,rfl⟩
  ·repeat' (first|refine qN ?_|refine dN ?_|refine d0 ?_|refine qB ?_|refine qT ?_|refine qU ?_|refine qL ?_|refine qK ?_|refine iF (fun h=>?_) (fun h=>?_)|refine aI (hn:=?_)|refine sP 78 (fun h=>?_) (fun h=>?_)|refine sP 109 (fun h=>?_) (fun h=>?_)|refine sP 138 (fun h=>?_) (fun h=>?_)|refine sP 200 (fun h=>?_) (fun h=>?_)|refine sP 208 (fun h=>?_) (fun h=>?_)|refine sP 269 (fun h=>?_) (fun h=>?_)|refine sP 301 (fun h=>?_) (fun h=>?_)|refine sP 303 (fun h=>?_) (fun h=>?_)|refine sP 309 (fun h=>?_) (fun h=>?_)|refine sP 317 (fun h=>?_) (fun h=>?_)|refine sP 320 (fun h=>?_) (fun h=>?_)|refine sP 347 (fun h=>?_) (fun h=>?_)|refine qR ?_|refine qS ?_|exact ⟨rfl,rfl⟩|fail)
   all_goals first | (exfalso; omega)|exact Nx.pick [0,2,4,7] [0,1,2,3,4,5,6,7,8,9,10,11,12,13,14,15] rfl rfl rfl ⟨m,rfl,rfl⟩
 rintro _ _ ⟨m',rfl,rfl⟩
 obtain ⟨ta,te,Pt,Dt,hT1,hT2,hT3⟩:=hTake page
 obtain ⟨da,de,Pd,Dd,hD1,hD2,hD3⟩:=hDrop a
 obtain ⟨ge,Pg,Dg,hG1,hG2,hG3⟩:=hGive a
 obtain ⟨se,Ps,Ds,hS1,hS2,hS3⟩:=hShut page
 obtain ⟨oa,oe,Po,Do,hO1,hO2,hO3⟩:=hOpen cls ow
 obtain ⟨ga,gre,Pgr,Dgr,hGr1,hGr2,hGr3⟩:=hGreat n
 obtain ⟨ov,hOw1,hOw2⟩:=hOwn at_ ho
 have hTk:=hTake
 clear hTake hDrop hGive hShut hOpen hGreat hOwn
 by_cases k0:kind=0
 ·subst k0
  clear hT1 hT2 hT3 hD1 hD2 hD3 hG1 hG2 hG3 hS1 hS2 hS3 hGr1 hGr2 hGr3 hOw1 hOw2 hFp hFd hHp hHd
  repeat' (first|refine qN ?_|refine dN ?_|refine d0 ?_|refine qB ?_|refine qT ?_|refine qU ?_|refine qL ?_|refine qK ?_|refine iF (fun h=>?_) (fun h=>?_)|refine aI (hn:=?_)|refine sP 78 (fun h=>?_) (fun h=>?_)|refine sP 109 (fun h=>?_) (fun h=>?_)|refine sP 138 (fun h=>?_) (fun h=>?_)|refine sP 200 (fun h=>?_) (fun h=>?_)|refine sP 208 (fun h=>?_) (fun h=>?_)|refine sP 269 (fun h=>?_) (fun h=>?_)|refine sP 301 (fun h=>?_) (fun h=>?_)|refine sP 303 (fun h=>?_) (fun h=>?_)|refine sP 309 (fun h=>?_) (fun h=>?_)|refine sP 317 (fun h=>?_) (fun h=>?_)|refine sP 320 (fun h=>?_) (fun h=>?_)|refine sP 347 (fun h=>?_) (fun h=>?_)|refine qR ?_|refine qS ?_|exact ⟨rfl,rfl⟩|fail)
  refine cX (ι:=PR) (C:=Po) (V:=fun _=>.tuple ⟨[.int .i64 oa,.int .i64 oe]⟩) (B:=fun r'=>RPL r') [1,2,3,4,5,6,7] hO1 (fun r' hr=>?_)
  conv=>whnf
  repeat' (first|refine qN ?_|refine dN ?_|refine d0 ?_|refine qB ?_|refine qT ?_|refine qU ?_|refine qL ?_|refine qK ?_|refine iF (fun h=>?_) (fun h=>?_)|refine aI (hn:=?_)|refine sP 78 (fun h=>?_) (fun h=>?_)|refine sP 109 (fun h=>?_) (fun h=>?_)|refine sP 138 (fun h=>?_) (fun h=>?_)|refine sP 200 (fun h=>?_) (fun h=>?_)|refine sP 208 (fun h=>?_) (fun h=>?_)|refine sP 269 (fun h=>?_) (fun h=>?_)|refine sP 301 (fun h=>?_) (fun h=>?_)|refine sP 303 (fun h=>?_) (fun h=>?_)|refine sP 309 (fun h=>?_) (fun h=>?_)|refine sP 317 (fun h=>?_) (fun h=>?_)|refine sP 320 (fun h=>?_) (fun h=>?_)|refine sP 347 (fun h=>?_) (fun h=>?_)|refine qR ?_|refine qS ?_|exact ⟨rfl,rfl⟩|fail)
  refine cX (ι:=DR) (C:=Do) (V:=fun _=>.tuple ⟨[.int .i64 oa,.int .i64 oe]⟩) (B:=fun d'=>DRL d') [8,9,10,11,12,13,14] hO2 (fun d' hd=>?_)
  conv=>whnf
  repeat' (first|refine qN ?_|refine dN ?_|refine d0 ?_|refine qB ?_|refine qT ?_|refine qU ?_|refine qL ?_|refine qK ?_|refine iF (fun h=>?_) (fun h=>?_)|refine S_Q [] rfl rfl (QY.eqlB rfl (by kernel_rfl) rfl rfl) ?_|refine aI (hn:=?_)|refine sP 78 (fun h=>?_) (fun h=>?_)|refine sP 109 (fun h=>?_) (fun h=>?_)|refine sP 138 (fun h=>?_) (fun h=>?_)|refine sP 200 (fun h=>?_) (fun h=>?_)|refine sP 208 (fun h=>?_) (fun h=>?_)|refine sP 269 (fun h=>?_) (fun h=>?_)|refine sP 301 (fun h=>?_) (fun h=>?_)|refine sP 303 (fun h=>?_) (fun h=>?_)|refine sP 309 (fun h=>?_) (fun h=>?_)|refine sP 317 (fun h=>?_) (fun h=>?_)|refine sP 320 (fun h=>?_) (fun h=>?_)|refine sP 347 (fun h=>?_) (fun h=>?_)|refine qR ?_|refine qS ?_|exact ⟨rfl,rfl⟩|fail)
  all_goals first|exact absurd rfl h|exact L_ret (RetQ.pick [0,1,2,3,4,5,6,7,8,9,10,11,12,13,14] rfl rfl rfl rfl ⟨(r',d'),hO3 r' d' hr hd,by first | rfl | (simp [lret]; rfl),rfl⟩)
 by_cases k1:kind=1
 ·subst k1
  clear hD1 hD2 hD3 hG1 hG2 hG3 hS1 hS2 hS3 hO1 hO2 hO3 hGr1 hGr2 hGr3 hOw1 hOw2 hFp hFd hHp hHd
  repeat' (first|refine qN ?_|refine dN ?_|refine d0 ?_|refine qB ?_|refine qT ?_|refine qU ?_|refine qL ?_|refine qK ?_|refine iF (fun h=>?_) (fun h=>?_)|refine aI (hn:=?_)|refine sP 78 (fun h=>?_) (fun h=>?_)|refine sP 109 (fun h=>?_) (fun h=>?_)|refine sP 138 (fun h=>?_) (fun h=>?_)|refine sP 200 (fun h=>?_) (fun h=>?_)|refine sP 208 (fun h=>?_) (fun h=>?_)|refine sP 269 (fun h=>?_) (fun h=>?_)|refine sP 301 (fun h=>?_) (fun h=>?_)|refine sP 303 (fun h=>?_) (fun h=>?_)|refine sP 309 (fun h=>?_) (fun h=>?_)|refine sP 317 (fun h=>?_) (fun h=>?_)|refine sP 320 (fun h=>?_) (fun h=>?_)|refine sP 347 (fun h=>?_) (fun h=>?_)|refine qR ?_|refine qS ?_|exact ⟨rfl,rfl⟩|fail)
  refine cX (ι:=PR) (C:=Pt) (V:=fun _=>.tuple ⟨[.int .i64 ta,.int .i64 te]⟩) (B:=fun r'=>RPL r') [1,2,3,4,5,6,7] hT1 (fun r' hr=>?_)
  conv=>whnf
  repeat' (first|refine qN ?_|refine dN ?_|refine d0 ?_|refine qB ?_|refine qT ?_|refine qU ?_|refine qL ?_|refine qK ?_|refine iF (fun h=>?_) (fun h=>?_)|refine aI (hn:=?_)|refine sP 78 (fun h=>?_) (fun h=>?_)|refine sP 109 (fun h=>?_) (fun h=>?_)|refine sP 138 (fun h=>?_) (fun h=>?_)|refine sP 200 (fun h=>?_) (fun h=>?_)|refine sP 208 (fun h=>?_) (fun h=>?_)|refine sP 269 (fun h=>?_) (fun h=>?_)|refine sP 301 (fun h=>?_) (fun h=>?_)|refine sP 303 (fun h=>?_) (fun h=>?_)|refine sP 309 (fun h=>?_) (fun h=>?_)|refine sP 317 (fun h=>?_) (fun h=>?_)|refine sP 320 (fun h=>?_) (fun h=>?_)|refine sP 347 (fun h=>?_) (fun h=>?_)|refine qR ?_|refine qS ?_|exact ⟨rfl,rfl⟩|fail)
  refine cX (ι:=DR) (C:=Dt) (V:=fun _=>.tuple ⟨[.int .i64 ta,.int .i64 te]⟩) (B:=fun d'=>DRL d') [8,9,10,11,12,13,14] hT2 (fun d' hd=>?_)
  conv=>whnf
  repeat' (first|refine qN ?_|refine dN ?_|refine d0 ?_|refine qB ?_|refine qT ?_|refine qU ?_|refine qL ?_|refine qK ?_|refine iF (fun h=>?_) (fun h=>?_)|refine S_Q [] rfl rfl (QY.eqlB rfl (by kernel_rfl) rfl rfl) ?_|refine aI (hn:=?_)|refine sP 78 (fun h=>?_) (fun h=>?_)|refine sP 109 (fun h=>?_) (fun h=>?_)|refine sP 138 (fun h=>?_) (fun h=>?_)|refine sP 200 (fun h=>?_) (fun h=>?_)|refine sP 208 (fun h=>?_) (fun h=>?_)|refine sP 269 (fun h=>?_) (fun h=>?_)|refine sP 301 (fun h=>?_) (fun h=>?_)|refine sP 303 (fun h=>?_) (fun h=>?_)|refine sP 309 (fun h=>?_) (fun h=>?_)|refine sP 317 (fun h=>?_) (fun h=>?_)|refine sP 320 (fun h=>?_) (fun h=>?_)|refine sP 347 (fun h=>?_) (fun h=>?_)|refine qR ?_|refine qS ?_|exact ⟨rfl,rfl⟩|fail)
  all_goals first|exact absurd rfl h|exact L_ret (RetQ.pick [0,1,2,3,4,5,6,7,8,9,10,11,12,13,14] rfl rfl rfl rfl ⟨(r',d'),hT3 r' d' hr hd,by first | rfl | (simp [lret]; rfl),rfl⟩)
 by_cases k2:kind=2
 ·subst k2
  clear hD1 hD2 hD3 hG1 hG2 hG3 hS1 hS2 hS3 hO1 hO2 hO3 hGr1 hGr2 hGr3 hOw1 hOw2 hFp hFd hHp hHd
  repeat' (first|refine qN ?_|refine dN ?_|refine d0 ?_|refine qB ?_|refine qT ?_|refine qU ?_|refine qL ?_|refine qK ?_|refine iF (fun h=>?_) (fun h=>?_)|refine aI (hn:=?_)|refine sP 78 (fun h=>?_) (fun h=>?_)|refine sP 109 (fun h=>?_) (fun h=>?_)|refine sP 138 (fun h=>?_) (fun h=>?_)|refine sP 200 (fun h=>?_) (fun h=>?_)|refine sP 208 (fun h=>?_) (fun h=>?_)|refine sP 269 (fun h=>?_) (fun h=>?_)|refine sP 301 (fun h=>?_) (fun h=>?_)|refine sP 303 (fun h=>?_) (fun h=>?_)|refine sP 309 (fun h=>?_) (fun h=>?_)|refine sP 317 (fun h=>?_) (fun h=>?_)|refine sP 320 (fun h=>?_) (fun h=>?_)|refine sP 347 (fun h=>?_) (fun h=>?_)|refine qR ?_|refine qS ?_|exact ⟨rfl,rfl⟩|fail)
  refine cX (ι:=PR) (C:=Pt) (V:=fun _=>.tuple ⟨[.int .i64 ta,.int .i64 te]⟩) (B:=fun r'=>RPL r') [1,2,3,4,5,6,7] hT1 (fun r' hr=>?_)
  conv=>whnf
  repeat' (first|refine qN ?_|refine dN ?_|refine d0 ?_|refine qB ?_|refine qT ?_|refine qU ?_|refine qL ?_|refine qK ?_|refine iF (fun h=>?_) (fun h=>?_)|refine aI (hn:=?_)|refine sP 78 (fun h=>?_) (fun h=>?_)|refine sP 109 (fun h=>?_) (fun h=>?_)|refine sP 138 (fun h=>?_) (fun h=>?_)|refine sP 200 (fun h=>?_) (fun h=>?_)|refine sP 208 (fun h=>?_) (fun h=>?_)|refine sP 269 (fun h=>?_) (fun h=>?_)|refine sP 301 (fun h=>?_) (fun h=>?_)|refine sP 303 (fun h=>?_) (fun h=>?_)|refine sP 309 (fun h=>?_) (fun h=>?_)|refine sP 317 (fun h=>?_) (fun h=>?_)|refine sP 320 (fun h=>?_) (fun h=>?_)|refine sP 347 (fun h=>?_) (fun h=>?_)|refine qR ?_|refine qS ?_|exact ⟨rfl,rfl⟩|fail)
  refine cX (ι:=DR) (C:=Dt) (V:=fun _=>.tuple ⟨[.int .i64 ta,.int .i64 te]⟩) (B:=fun d'=>DRL d') [8,9,10,11,12,13,14] hT2 (fun d' hd=>?_)
  conv=>whnf
  repeat' (first|refine qN ?_|refine dN ?_|refine d0 ?_|refine qB ?_|refine qT ?_|refine qU ?_|refine qL ?_|refine qK ?_|refine iF (fun h=>?_) (fun h=>?_)|refine S_Q [] rfl rfl (QY.eqlB rfl (by kernel_rfl) rfl rfl) ?_|refine aI (hn:=?_)|refine sP 78 (fun h=>?_) (fun h=>?_)|refine sP 109 (fun h=>?_) (fun h=>?_)|refine sP 138 (fun h=>?_) (fun h=>?_)|refine sP 200 (fun h=>?_) (fun h=>?_)|refine sP 208 (fun h=>?_) (fun h=>?_)|refine sP 269 (fun h=>?_) (fun h=>?_)|refine sP 301 (fun h=>?_) (fun h=>?_)|refine sP 303 (fun h=>?_) (fun h=>?_)|refine sP 309 (fun h=>?_) (fun h=>?_)|refine sP 317 (fun h=>?_) (fun h=>?_)|refine sP 320 (fun h=>?_) (fun h=>?_)|refine sP 347 (fun h=>?_) (fun h=>?_)|refine qR ?_|refine qS ?_|exact ⟨rfl,rfl⟩|fail)
  all_goals first|exact absurd rfl h|exact L_ret (RetQ.pick [0,1,2,3,4,5,6,7,8,9,10,11,12,13,14] rfl rfl rfl rfl ⟨(r',d'),hT3 r' d' hr hd,by first | rfl | (simp [lret]; rfl),rfl⟩)
 by_cases k3:kind=3
 ·subst k3
  clear hT1 hT2 hT3 hG1 hG2 hG3 hS1 hS2 hS3 hO1 hO2 hO3 hGr1 hGr2 hGr3 hOw1 hOw2 hFp hFd hHp hHd
  repeat' (first|refine qN ?_|refine dN ?_|refine d0 ?_|refine qB ?_|refine qT ?_|refine qU ?_|refine qL ?_|refine qK ?_|refine iF (fun h=>?_) (fun h=>?_)|refine aI (hn:=?_)|refine sP 78 (fun h=>?_) (fun h=>?_)|refine sP 109 (fun h=>?_) (fun h=>?_)|refine sP 138 (fun h=>?_) (fun h=>?_)|refine sP 200 (fun h=>?_) (fun h=>?_)|refine sP 208 (fun h=>?_) (fun h=>?_)|refine sP 269 (fun h=>?_) (fun h=>?_)|refine sP 301 (fun h=>?_) (fun h=>?_)|refine sP 303 (fun h=>?_) (fun h=>?_)|refine sP 309 (fun h=>?_) (fun h=>?_)|refine sP 317 (fun h=>?_) (fun h=>?_)|refine sP 320 (fun h=>?_) (fun h=>?_)|refine sP 347 (fun h=>?_) (fun h=>?_)|refine qR ?_|refine qS ?_|exact ⟨rfl,rfl⟩|fail)
  refine cX (ι:=PR) (C:=Pd) (V:=fun _=>.tuple ⟨[.bool da,.int .i64 de]⟩) (B:=fun r'=>RPL r') [1,2,3,4,5,6,7] hD1 (fun r' hr=>?_)
  conv=>whnf
  repeat' (first|refine qN ?_|refine dN ?_|refine d0 ?_|refine qB ?_|refine qT ?_|refine qU ?_|refine qL ?_|refine qK ?_|refine iF (fun h=>?_) (fun h=>?_)|refine aI (hn:=?_)|refine sP 78 (fun h=>?_) (fun h=>?_)|refine sP 109 (fun h=>?_) (fun h=>?_)|refine sP 138 (fun h=>?_) (fun h=>?_)|refine sP 200 (fun h=>?_) (fun h=>?_)|refine sP 208 (fun h=>?_) (fun h=>?_)|refine sP 269 (fun h=>?_) (fun h=>?_)|refine sP 301 (fun h=>?_) (fun h=>?_)|refine sP 303 (fun h=>?_) (fun h=>?_)|refine sP 309 (fun h=>?_) (fun h=>?_)|refine sP 317 (fun h=>?_) (fun h=>?_)|refine sP 320 (fun h=>?_) (fun h=>?_)|refine sP 347 (fun h=>?_) (fun h=>?_)|refine qR ?_|refine qS ?_|exact ⟨rfl,rfl⟩|fail)
  refine cX (ι:=DR) (C:=Dd) (V:=fun _=>.tuple ⟨[.bool da,.int .i64 de]⟩) (B:=fun d'=>DRL d') [8,9,10,11,12,13,14] hD2 (fun d' hd=>?_)
  conv=>whnf
  repeat' (first|refine qN ?_|refine dN ?_|refine d0 ?_|refine qB ?_|refine qT ?_|refine qU ?_|refine qL ?_|refine qK ?_|refine iF (fun h=>?_) (fun h=>?_)|refine S_Q [] rfl rfl (QY.eqlB rfl (by kernel_rfl) rfl rfl) ?_|refine aI (hn:=?_)|refine sP 78 (fun h=>?_) (fun h=>?_)|refine sP 109 (fun h=>?_) (fun h=>?_)|refine sP 138 (fun h=>?_) (fun h=>?_)|refine sP 200 (fun h=>?_) (fun h=>?_)|refine sP 208 (fun h=>?_) (fun h=>?_)|refine sP 269 (fun h=>?_) (fun h=>?_)|refine sP 301 (fun h=>?_) (fun h=>?_)|refine sP 303 (fun h=>?_) (fun h=>?_)|refine sP 309 (fun h=>?_) (fun h=>?_)|refine sP 317 (fun h=>?_) (fun h=>?_)|refine sP 320 (fun h=>?_) (fun h=>?_)|refine sP 347 (fun h=>?_) (fun h=>?_)|refine qR ?_|refine qS ?_|exact ⟨rfl,rfl⟩|fail)
  all_goals first|exact absurd rfl h|exact L_ret (RetQ.pick [0,1,2,3,4,5,6,7,8,9,10,11,12,13,14] rfl rfl rfl rfl ⟨(r',d'),hD3 r' d' hr hd,by first | rfl | (simp [lret]; rfl),rfl⟩)
 by_cases k4:kind=4
 ·subst k4
  clear hT1 hT2 hT3 hG1 hG2 hG3 hS1 hS2 hS3 hO1 hO2 hO3 hGr1 hGr2 hGr3 hOw1 hOw2 hFp hFd hHp hHd
  repeat' (first|refine qN ?_|refine dN ?_|refine d0 ?_|refine qB ?_|refine qT ?_|refine qU ?_|refine qL ?_|refine qK ?_|refine iF (fun h=>?_) (fun h=>?_)|refine aI (hn:=?_)|refine sP 78 (fun h=>?_) (fun h=>?_)|refine sP 109 (fun h=>?_) (fun h=>?_)|refine sP 138 (fun h=>?_) (fun h=>?_)|refine sP 200 (fun h=>?_) (fun h=>?_)|refine sP 208 (fun h=>?_) (fun h=>?_)|refine sP 269 (fun h=>?_) (fun h=>?_)|refine sP 301 (fun h=>?_) (fun h=>?_)|refine sP 303 (fun h=>?_) (fun h=>?_)|refine sP 309 (fun h=>?_) (fun h=>?_)|refine sP 317 (fun h=>?_) (fun h=>?_)|refine sP 320 (fun h=>?_) (fun h=>?_)|refine sP 347 (fun h=>?_) (fun h=>?_)|refine qR ?_|refine qS ?_|exact ⟨rfl,rfl⟩|fail)
  refine cX (ι:=PR) (C:=Pd) (V:=fun _=>.tuple ⟨[.bool da,.int .i64 de]⟩) (B:=fun r'=>RPL r') [1,2,3,4,5,6,7] hD1 (fun r' hr=>?_)
  conv=>whnf
  repeat' (first|refine qN ?_|refine dN ?_|refine d0 ?_|refine qB ?_|refine qT ?_|refine qU ?_|refine qL ?_|refine qK ?_|refine iF (fun h=>?_) (fun h=>?_)|refine aI (hn:=?_)|refine sP 78 (fun h=>?_) (fun h=>?_)|refine sP 109 (fun h=>?_) (fun h=>?_)|refine sP 138 (fun h=>?_) (fun h=>?_)|refine sP 200 (fun h=>?_) (fun h=>?_)|refine sP 208 (fun h=>?_) (fun h=>?_)|refine sP 269 (fun h=>?_) (fun h=>?_)|refine sP 301 (fun h=>?_) (fun h=>?_)|refine sP 303 (fun h=>?_) (fun h=>?_)|refine sP 309 (fun h=>?_) (fun h=>?_)|refine sP 317 (fun h=>?_) (fun h=>?_)|refine sP 320 (fun h=>?_) (fun h=>?_)|refine sP 347 (fun h=>?_) (fun h=>?_)|refine qR ?_|refine qS ?_|exact ⟨rfl,rfl⟩|fail)
  refine cX (ι:=DR) (C:=Dd) (V:=fun _=>.tuple ⟨[.bool da,.int .i64 de]⟩) (B:=fun d'=>DRL d') [8,9,10,11,12,13,14] hD2 (fun d' hd=>?_)
  conv=>whnf
  repeat' (first|refine qN ?_|refine dN ?_|refine d0 ?_|refine qB ?_|refine qT ?_|refine qU ?_|refine qL ?_|refine qK ?_|refine iF (fun h=>?_) (fun h=>?_)|refine S_Q [] rfl rfl (QY.eqlB rfl (by kernel_rfl) rfl rfl) ?_|refine aI (hn:=?_)|refine sP 78 (fun h=>?_) (fun h=>?_)|refine sP 109 (fun h=>?_) (fun h=>?_)|refine sP 138 (fun h=>?_) (fun h=>?_)|refine sP 200 (fun h=>?_) (fun h=>?_)|refine sP 208 (fun h=>?_) (fun h=>?_)|refine sP 269 (fun h=>?_) (fun h=>?_)|refine sP 301 (fun h=>?_) (fun h=>?_)|refine sP 303 (fun h=>?_) (fun h=>?_)|refine sP 309 (fun h=>?_) (fun h=>?_)|refine sP 317 (fun h=>?_) (fun h=>?_)|refine sP 320 (fun h=>?_) (fun h=>?_)|refine sP 347 (fun h=>?_) (fun h=>?_)|refine qR ?_|refine qS ?_|exact ⟨rfl,rfl⟩|fail)
  all_goals first|exact absurd rfl h|exact L_ret (RetQ.pick [0,1,2,3,4,5,6,7,8,9,10,11,12,13,14] rfl rfl rfl rfl ⟨(r',d'),hD3 r' d' hr hd,by first | rfl | (simp [lret]; rfl),rfl⟩)
 by_cases k5:kind=5
 ·subst k5
  clear hT1 hT2 hT3 hD1 hD2 hD3 hS1 hS2 hS3 hO1 hO2 hO3 hGr1 hGr2 hGr3 hOw1 hOw2 hFp hFd hHp hHd
  repeat' (first|refine qN ?_|refine dN ?_|refine d0 ?_|refine qB ?_|refine qT ?_|refine qU ?_|refine qL ?_|refine qK ?_|refine iF (fun h=>?_) (fun h=>?_)|refine aI (hn:=?_)|refine sP 78 (fun h=>?_) (fun h=>?_)|refine sP 109 (fun h=>?_) (fun h=>?_)|refine sP 138 (fun h=>?_) (fun h=>?_)|refine sP 200 (fun h=>?_) (fun h=>?_)|refine sP 208 (fun h=>?_) (fun h=>?_)|refine sP 269 (fun h=>?_) (fun h=>?_)|refine sP 301 (fun h=>?_) (fun h=>?_)|refine sP 303 (fun h=>?_) (fun h=>?_)|refine sP 309 (fun h=>?_) (fun h=>?_)|refine sP 317 (fun h=>?_) (fun h=>?_)|refine sP 320 (fun h=>?_) (fun h=>?_)|refine sP 347 (fun h=>?_) (fun h=>?_)|refine qR ?_|refine qS ?_|exact ⟨rfl,rfl⟩|fail)
  refine cX (ι:=PR) (C:=Pg) (V:=fun _=>.int .i64 ge) (B:=fun r'=>RPL r') [1,2,3,4,5,6,7] hG1 (fun r' hr=>?_)
  conv=>whnf
  repeat' (first|refine qN ?_|refine dN ?_|refine d0 ?_|refine qB ?_|refine qT ?_|refine qU ?_|refine qL ?_|refine qK ?_|refine iF (fun h=>?_) (fun h=>?_)|refine aI (hn:=?_)|refine sP 78 (fun h=>?_) (fun h=>?_)|refine sP 109 (fun h=>?_) (fun h=>?_)|refine sP 138 (fun h=>?_) (fun h=>?_)|refine sP 200 (fun h=>?_) (fun h=>?_)|refine sP 208 (fun h=>?_) (fun h=>?_)|refine sP 269 (fun h=>?_) (fun h=>?_)|refine sP 301 (fun h=>?_) (fun h=>?_)|refine sP 303 (fun h=>?_) (fun h=>?_)|refine sP 309 (fun h=>?_) (fun h=>?_)|refine sP 317 (fun h=>?_) (fun h=>?_)|refine sP 320 (fun h=>?_) (fun h=>?_)|refine sP 347 (fun h=>?_) (fun h=>?_)|refine qR ?_|refine qS ?_|exact ⟨rfl,rfl⟩|fail)
  refine cX (ι:=DR) (C:=Dg) (V:=fun _=>.int .i64 ge) (B:=fun d'=>DRL d') [8,9,10,11,12,13,14] hG2 (fun d' hd=>?_)
  conv=>whnf
  repeat' (first|refine qN ?_|refine dN ?_|refine d0 ?_|refine qB ?_|refine qT ?_|refine qU ?_|refine qL ?_|refine qK ?_|refine iF (fun h=>?_) (fun h=>?_)|refine S_Q [] rfl rfl (QY.eqlB rfl (by kernel_rfl) rfl rfl) ?_|refine aI (hn:=?_)|refine sP 78 (fun h=>?_) (fun h=>?_)|refine sP 109 (fun h=>?_) (fun h=>?_)|refine sP 138 (fun h=>?_) (fun h=>?_)|refine sP 200 (fun h=>?_) (fun h=>?_)|refine sP 208 (fun h=>?_) (fun h=>?_)|refine sP 269 (fun h=>?_) (fun h=>?_)|refine sP 301 (fun h=>?_) (fun h=>?_)|refine sP 303 (fun h=>?_) (fun h=>?_)|refine sP 309 (fun h=>?_) (fun h=>?_)|refine sP 317 (fun h=>?_) (fun h=>?_)|refine sP 320 (fun h=>?_) (fun h=>?_)|refine sP 347 (fun h=>?_) (fun h=>?_)|refine qR ?_|refine qS ?_|exact ⟨rfl,rfl⟩|fail)
  all_goals first|exact absurd rfl h|exact L_ret (RetQ.pick [0,1,2,3,4,5,6,7,8,9,10,11,12,13,14] rfl rfl rfl rfl ⟨(r',d'),hG3 r' d' hr hd,by first | rfl | (simp [lret]; rfl),rfl⟩)
 by_cases k6:kind=6
 ·subst k6
  clear hT1 hT2 hT3 hD1 hD2 hD3 hG1 hG2 hG3 hO1 hO2 hO3 hGr1 hGr2 hGr3 hOw1 hOw2 hFp hFd hHp hHd
  repeat' (first|refine qN ?_|refine dN ?_|refine d0 ?_|refine qB ?_|refine qT ?_|refine qU ?_|refine qL ?_|refine qK ?_|refine iF (fun h=>?_) (fun h=>?_)|refine aI (hn:=?_)|refine sP 78 (fun h=>?_) (fun h=>?_)|refine sP 109 (fun h=>?_) (fun h=>?_)|refine sP 138 (fun h=>?_) (fun h=>?_)|refine sP 200 (fun h=>?_) (fun h=>?_)|refine sP 208 (fun h=>?_) (fun h=>?_)|refine sP 269 (fun h=>?_) (fun h=>?_)|refine sP 301 (fun h=>?_) (fun h=>?_)|refine sP 303 (fun h=>?_) (fun h=>?_)|refine sP 309 (fun h=>?_) (fun h=>?_)|refine sP 317 (fun h=>?_) (fun h=>?_)|refine sP 320 (fun h=>?_) (fun h=>?_)|refine sP 347 (fun h=>?_) (fun h=>?_)|refine qR ?_|refine qS ?_|exact ⟨rfl,rfl⟩|fail)
  refine cX (ι:=PR) (C:=Ps) (V:=fun _=>.int .i64 se) (B:=fun r'=>RPL r') [1,2,3,4,5,6,7] hS1 (fun r' hr=>?_)
  conv=>whnf
  repeat' (first|refine qN ?_|refine dN ?_|refine d0 ?_|refine qB ?_|refine qT ?_|refine qU ?_|refine qL ?_|refine qK ?_|refine iF (fun h=>?_) (fun h=>?_)|refine aI (hn:=?_)|refine sP 78 (fun h=>?_) (fun h=>?_)|refine sP 109 (fun h=>?_) (fun h=>?_)|refine sP 138 (fun h=>?_) (fun h=>?_)|refine sP 200 (fun h=>?_) (fun h=>?_)|refine sP 208 (fun h=>?_) (fun h=>?_)|refine sP 269 (fun h=>?_) (fun h=>?_)|refine sP 301 (fun h=>?_) (fun h=>?_)|refine sP 303 (fun h=>?_) (fun h=>?_)|refine sP 309 (fun h=>?_) (fun h=>?_)|refine sP 317 (fun h=>?_) (fun h=>?_)|refine sP 320 (fun h=>?_) (fun h=>?_)|refine sP 347 (fun h=>?_) (fun h=>?_)|refine qR ?_|refine qS ?_|exact ⟨rfl,rfl⟩|fail)
  refine cX (ι:=DR) (C:=Ds) (V:=fun _=>.int .i64 se) (B:=fun d'=>DRL d') [8,9,10,11,12,13,14] hS2 (fun d' hd=>?_)
  conv=>whnf
  repeat' (first|refine qN ?_|refine dN ?_|refine d0 ?_|refine qB ?_|refine qT ?_|refine qU ?_|refine qL ?_|refine qK ?_|refine iF (fun h=>?_) (fun h=>?_)|refine S_Q [] rfl rfl (QY.eqlB rfl (by kernel_rfl) rfl rfl) ?_|refine aI (hn:=?_)|refine sP 78 (fun h=>?_) (fun h=>?_)|refine sP 109 (fun h=>?_) (fun h=>?_)|refine sP 138 (fun h=>?_) (fun h=>?_)|refine sP 200 (fun h=>?_) (fun h=>?_)|refine sP 208 (fun h=>?_) (fun h=>?_)|refine sP 269 (fun h=>?_) (fun h=>?_)|refine sP 301 (fun h=>?_) (fun h=>?_)|refine sP 303 (fun h=>?_) (fun h=>?_)|refine sP 309 (fun h=>?_) (fun h=>?_)|refine sP 317 (fun h=>?_) (fun h=>?_)|refine sP 320 (fun h=>?_) (fun h=>?_)|refine sP 347 (fun h=>?_) (fun h=>?_)|refine qR ?_|refine qS ?_|exact ⟨rfl,rfl⟩|fail)
  all_goals first|exact absurd rfl h|exact L_ret (RetQ.pick [0,1,2,3,4,5,6,7,8,9,10,11,12,13,14] rfl rfl rfl rfl ⟨(r',d'),hS3 r' d' hr hd,by first | rfl | (simp [lret]; rfl),rfl⟩)
 by_cases k7:kind=7
 ·subst k7
  clear hT1 hT2 hT3 hD1 hD2 hD3 hG1 hG2 hG3 hS1 hS2 hS3 hO1 hO2 hO3 hOw1 hOw2 hFp hFd hHp hHd
  repeat' (first|refine qN ?_|refine dN ?_|refine d0 ?_|refine qB ?_|refine qT ?_|refine qU ?_|refine qL ?_|refine qK ?_|refine iF (fun h=>?_) (fun h=>?_)|refine aI (hn:=?_)|refine sP 78 (fun h=>?_) (fun h=>?_)|refine sP 109 (fun h=>?_) (fun h=>?_)|refine sP 138 (fun h=>?_) (fun h=>?_)|refine sP 200 (fun h=>?_) (fun h=>?_)|refine sP 208 (fun h=>?_) (fun h=>?_)|refine sP 269 (fun h=>?_) (fun h=>?_)|refine sP 301 (fun h=>?_) (fun h=>?_)|refine sP 303 (fun h=>?_) (fun h=>?_)|refine sP 309 (fun h=>?_) (fun h=>?_)|refine sP 317 (fun h=>?_) (fun h=>?_)|refine sP 320 (fun h=>?_) (fun h=>?_)|refine sP 347 (fun h=>?_) (fun h=>?_)|refine qR ?_|refine qS ?_|exact ⟨rfl,rfl⟩|fail)
  refine cX (ι:=PR) (C:=Pgr) (V:=fun _=>.tuple ⟨[.int .i64 ga,.int .i64 gre]⟩) (B:=fun r'=>RPL r') [1,2,3,4,5,6,7] hGr1 (fun r' hr=>?_)
  conv=>whnf
  repeat' (first|refine qN ?_|refine dN ?_|refine d0 ?_|refine qB ?_|refine qT ?_|refine qU ?_|refine qL ?_|refine qK ?_|refine iF (fun h=>?_) (fun h=>?_)|refine aI (hn:=?_)|refine sP 78 (fun h=>?_) (fun h=>?_)|refine sP 109 (fun h=>?_) (fun h=>?_)|refine sP 138 (fun h=>?_) (fun h=>?_)|refine sP 200 (fun h=>?_) (fun h=>?_)|refine sP 208 (fun h=>?_) (fun h=>?_)|refine sP 269 (fun h=>?_) (fun h=>?_)|refine sP 301 (fun h=>?_) (fun h=>?_)|refine sP 303 (fun h=>?_) (fun h=>?_)|refine sP 309 (fun h=>?_) (fun h=>?_)|refine sP 317 (fun h=>?_) (fun h=>?_)|refine sP 320 (fun h=>?_) (fun h=>?_)|refine sP 347 (fun h=>?_) (fun h=>?_)|refine qR ?_|refine qS ?_|exact ⟨rfl,rfl⟩|fail)
  refine cX (ι:=DR) (C:=Dgr) (V:=fun _=>.tuple ⟨[.int .i64 ga,.int .i64 gre]⟩) (B:=fun d'=>DRL d') [8,9,10,11,12,13,14] hGr2 (fun d' hd=>?_)
  conv=>whnf
  repeat' (first|refine qN ?_|refine dN ?_|refine d0 ?_|refine qB ?_|refine qT ?_|refine qU ?_|refine qL ?_|refine qK ?_|refine iF (fun h=>?_) (fun h=>?_)|refine S_Q [] rfl rfl (QY.eqlB rfl (by kernel_rfl) rfl rfl) ?_|refine aI (hn:=?_)|refine sP 78 (fun h=>?_) (fun h=>?_)|refine sP 109 (fun h=>?_) (fun h=>?_)|refine sP 138 (fun h=>?_) (fun h=>?_)|refine sP 200 (fun h=>?_) (fun h=>?_)|refine sP 208 (fun h=>?_) (fun h=>?_)|refine sP 269 (fun h=>?_) (fun h=>?_)|refine sP 301 (fun h=>?_) (fun h=>?_)|refine sP 303 (fun h=>?_) (fun h=>?_)|refine sP 309 (fun h=>?_) (fun h=>?_)|refine sP 317 (fun h=>?_) (fun h=>?_)|refine sP 320 (fun h=>?_) (fun h=>?_)|refine sP 347 (fun h=>?_) (fun h=>?_)|refine qR ?_|refine qS ?_|exact ⟨rfl,rfl⟩|fail)
  all_goals first|exact absurd rfl h|exact L_ret (RetQ.pick [0,1,2,3,4,5,6,7,8,9,10,11,12,13,14] rfl rfl rfl rfl ⟨(r',d'),hGr3 r' d' hr hd,by first | rfl | (simp [lret]; rfl),rfl⟩)
 by_cases k8:kind=8
 ·subst k8
  clear hT1 hT2 hT3 hD1 hD2 hD3 hG1 hG2 hG3 hS1 hS2 hS3 hO1 hO2 hO3 hGr1 hGr2 hGr3 hOw1 hOw2 hFp hFd hHp hHd
  repeat' (first|refine qN ?_|refine dN ?_|refine d0 ?_|refine qB ?_|refine qT ?_|refine qU ?_|refine qL ?_|refine qK ?_|refine iF (fun h=>?_) (fun h=>?_)|refine aI (hn:=?_)|refine sP 78 (fun h=>?_) (fun h=>?_)|refine sP 109 (fun h=>?_) (fun h=>?_)|refine sP 138 (fun h=>?_) (fun h=>?_)|refine sP 200 (fun h=>?_) (fun h=>?_)|refine sP 208 (fun h=>?_) (fun h=>?_)|refine sP 269 (fun h=>?_) (fun h=>?_)|refine sP 301 (fun h=>?_) (fun h=>?_)|refine sP 303 (fun h=>?_) (fun h=>?_)|refine sP 309 (fun h=>?_) (fun h=>?_)|refine sP 317 (fun h=>?_) (fun h=>?_)|refine sP 320 (fun h=>?_) (fun h=>?_)|refine sP 347 (fun h=>?_) (fun h=>?_)|refine qR ?_|refine qS ?_|exact ⟨rfl,rfl⟩|fail)
  all_goals exact L_ret (RetQ.pick [0,1,2,3,4,5,6,7,8,9,10,11,12,13,14] rfl rfl rfl rfl ⟨(r,d),⟨.same,tie⟩,rfl,rfl⟩)
 by_cases k9:kind=9
 ·subst k9
  have hF1:=hFp at_
  have hF2:=hFd at_
  clear hT1 hT2 hT3 hD1 hD2 hD3 hG1 hG2 hG3 hS1 hS2 hS3 hO1 hO2 hO3 hGr1 hGr2 hGr3 hOw1 hOw2 hFp hFd hHp hHd
  cases hf:r.find at_ with
  | none =>
   have hLk:=like_tr Pl.Z
   rw [hf,Pl.val_none] at hF1 hF2
   repeat' (first|refine qN ?_|refine dN ?_|refine d0 ?_|refine qB ?_|refine qT ?_|refine qU ?_|refine qL ?_|refine qK ?_|refine iF (fun h=>?_) (fun h=>?_)|refine cP [1,2,3,4,5,6,7] (hF1) ?_|refine cP [8,9,10,11,12,13,14] (hF2) ?_|refine S_Q [] rfl rfl (QY.eqlB rfl (by kernel_rfl) rfl rfl) ?_|refine cP [] (hLk) ?_|(refine S_E [] rfl rfl (esafe_ok rfl) ?_; rintro _ _ ⟨rfl,rfl⟩; refine ⟨(by repeat' (first|exact trivial|refine ⟨⟨qsafe_ok (st:=[]) rfl,Sure.of rfl⟩,?_⟩|refine ⟨.inl rfl,?_⟩|refine ⟨.inr ⟨qsafe_ok (st:=[]) rfl,Sure.of rfl⟩,?_⟩|refine ⟨⟨qsafe_ok (st:=[]) rfl,Sure.slice (by omega)⟩,?_⟩|refine ⟨.inr ⟨qsafe_ok (st:=[]) rfl,Sure.slice (by omega)⟩,?_⟩|refine ⟨.inr ⟨QY.neqB rfl (by kernel_rfl) rfl rfl,Sure.of rfl⟩,?_⟩|refine ⟨.inr ⟨QY.eqlB rfl (by kernel_rfl) rfl rfl,Sure.of rfl⟩,?_⟩ | fail)),LSt.nf ?_⟩; conv=>whnf)|refine L_rT ?_|refine L_regT ?_|refine P_lin rfl ?_|refine P_A [] rfl ?_ ?_|(refine P_Ed [] rfl rfl (EWd.callP [1,2,3,4,5,6,7] (hF1) rfl rfl (by decide) (by repeat' (first|exact trivial|refine ⟨rfl,?_⟩ | fail)) rfl rfl) (disj_nil _) (nm_nilE _) (nm_nilT _) ?_; rintro _ _ ⟨rfl,rfl⟩; refine ⟨(by repeat' (first|exact trivial|refine ⟨⟨qsafe_ok (st:=[]) rfl,Sure.of rfl⟩,?_⟩|refine ⟨.inl rfl,?_⟩|refine ⟨.inr ⟨qsafe_ok (st:=[]) rfl,Sure.of rfl⟩,?_⟩|refine ⟨⟨qsafe_ok (st:=[]) rfl,Sure.slice (by omega)⟩,?_⟩|refine ⟨.inr ⟨qsafe_ok (st:=[]) rfl,Sure.slice (by omega)⟩,?_⟩|refine ⟨.inr ⟨QY.neqB rfl (by kernel_rfl) rfl rfl,Sure.of rfl⟩,?_⟩|refine ⟨.inr ⟨QY.eqlB rfl (by kernel_rfl) rfl rfl,Sure.of rfl⟩,?_⟩ | fail)),?_⟩)|(refine P_Ed [] rfl rfl (EWd.callP [8,9,10,11,12,13,14] (hF2) rfl rfl (by decide) (by repeat' (first|exact trivial|refine ⟨rfl,?_⟩ | fail)) rfl rfl) (disj_nil _) (nm_nilE _) (nm_nilT _) ?_; rintro _ _ ⟨rfl,rfl⟩; refine ⟨(by repeat' (first|exact trivial|refine ⟨⟨qsafe_ok (st:=[]) rfl,Sure.of rfl⟩,?_⟩|refine ⟨.inl rfl,?_⟩|refine ⟨.inr ⟨qsafe_ok (st:=[]) rfl,Sure.of rfl⟩,?_⟩|refine ⟨⟨qsafe_ok (st:=[]) rfl,Sure.slice (by omega)⟩,?_⟩|refine ⟨.inr ⟨qsafe_ok (st:=[]) rfl,Sure.slice (by omega)⟩,?_⟩|refine ⟨.inr ⟨QY.neqB rfl (by kernel_rfl) rfl rfl,Sure.of rfl⟩,?_⟩|refine ⟨.inr ⟨QY.eqlB rfl (by kernel_rfl) rfl rfl,Sure.of rfl⟩,?_⟩ | fail)),?_⟩)|refine P_Q [] rfl rfl (QY.eqlB rfl (by kernel_rfl) rfl rfl) ?_|(refine P_Ed [] rfl rfl (EWd.callP [] (hLk) rfl rfl (by decide) (by repeat' (first|exact trivial|refine ⟨rfl,?_⟩ | fail)) rfl rfl) (disj_nil _) (nm_nilE _) (nm_nilT _) ?_; rintro _ _ ⟨rfl,rfl⟩; refine ⟨(by repeat' (first|exact trivial|refine ⟨⟨qsafe_ok (st:=[]) rfl,Sure.of rfl⟩,?_⟩|refine ⟨.inl rfl,?_⟩|refine ⟨.inr ⟨qsafe_ok (st:=[]) rfl,Sure.of rfl⟩,?_⟩|refine ⟨⟨qsafe_ok (st:=[]) rfl,Sure.slice (by omega)⟩,?_⟩|refine ⟨.inr ⟨qsafe_ok (st:=[]) rfl,Sure.slice (by omega)⟩,?_⟩|refine ⟨.inr ⟨QY.neqB rfl (by kernel_rfl) rfl rfl,Sure.of rfl⟩,?_⟩|refine ⟨.inr ⟨QY.eqlB rfl (by kernel_rfl) rfl rfl,Sure.of rfl⟩,?_⟩ | fail)),?_⟩)|(refine P_E [] rfl rfl (esafe_ok rfl) ?_; rintro _ _ ⟨rfl,rfl⟩; refine ⟨(by repeat' (first|exact trivial|refine ⟨⟨qsafe_ok (st:=[]) rfl,Sure.of rfl⟩,?_⟩|refine ⟨.inl rfl,?_⟩|refine ⟨.inr ⟨qsafe_ok (st:=[]) rfl,Sure.of rfl⟩,?_⟩|refine ⟨⟨qsafe_ok (st:=[]) rfl,Sure.slice (by omega)⟩,?_⟩|refine ⟨.inr ⟨qsafe_ok (st:=[]) rfl,Sure.slice (by omega)⟩,?_⟩|refine ⟨.inr ⟨QY.neqB rfl (by kernel_rfl) rfl rfl,Sure.of rfl⟩,?_⟩|refine ⟨.inr ⟨QY.eqlB rfl (by kernel_rfl) rfl rfl,Sure.of rfl⟩,?_⟩ | fail)),LPt.nf ?_⟩; conv=>whnf)|refine aI (hn:=?_)|refine sP 78 (fun h=>?_) (fun h=>?_)|refine sP 109 (fun h=>?_) (fun h=>?_)|refine sP 138 (fun h=>?_) (fun h=>?_)|refine sP 200 (fun h=>?_) (fun h=>?_)|refine sP 208 (fun h=>?_) (fun h=>?_)|refine sP 269 (fun h=>?_) (fun h=>?_)|refine sP 301 (fun h=>?_) (fun h=>?_)|refine sP 303 (fun h=>?_) (fun h=>?_)|refine sP 309 (fun h=>?_) (fun h=>?_)|refine sP 317 (fun h=>?_) (fun h=>?_)|refine sP 320 (fun h=>?_) (fun h=>?_)|refine sP 347 (fun h=>?_) (fun h=>?_)|refine qR ?_|refine qS ?_|exact ⟨rfl,rfl⟩|fail)
   all_goals exact L_ret (RetQ.pick [0,1,2,3,4,5,6,7,8,9,10,11,12,13,14] rfl rfl rfl rfl ⟨(r,d),⟨.same,tie⟩,rfl,rfl⟩)
  | some p =>
   have hLk:=like_tr p
   rw [hf,Pl.val_some] at hF1 hF2
   repeat' (first|refine qN ?_|refine dN ?_|refine d0 ?_|refine qB ?_|refine qT ?_|refine qU ?_|refine qL ?_|refine qK ?_|refine iF (fun h=>?_) (fun h=>?_)|refine cP [1,2,3,4,5,6,7] (hF1) ?_|refine cP [8,9,10,11,12,13,14] (hF2) ?_|refine S_Q [] rfl rfl (QY.eqlB rfl (by kernel_rfl) rfl rfl) ?_|refine cP [] (hLk) ?_|(refine S_E [] rfl rfl (esafe_ok rfl) ?_; rintro _ _ ⟨rfl,rfl⟩; refine ⟨(by repeat' (first|exact trivial|refine ⟨⟨qsafe_ok (st:=[]) rfl,Sure.of rfl⟩,?_⟩|refine ⟨.inl rfl,?_⟩|refine ⟨.inr ⟨qsafe_ok (st:=[]) rfl,Sure.of rfl⟩,?_⟩|refine ⟨⟨qsafe_ok (st:=[]) rfl,Sure.slice (by omega)⟩,?_⟩|refine ⟨.inr ⟨qsafe_ok (st:=[]) rfl,Sure.slice (by omega)⟩,?_⟩|refine ⟨.inr ⟨QY.neqB rfl (by kernel_rfl) rfl rfl,Sure.of rfl⟩,?_⟩|refine ⟨.inr ⟨QY.eqlB rfl (by kernel_rfl) rfl rfl,Sure.of rfl⟩,?_⟩ | fail)),LSt.nf ?_⟩; conv=>whnf)|refine L_rT ?_|refine L_regT ?_|refine P_lin rfl ?_|refine P_A [] rfl ?_ ?_|(refine P_Ed [] rfl rfl (EWd.callP [1,2,3,4,5,6,7] (hF1) rfl rfl (by decide) (by repeat' (first|exact trivial|refine ⟨rfl,?_⟩ | fail)) rfl rfl) (disj_nil _) (nm_nilE _) (nm_nilT _) ?_; rintro _ _ ⟨rfl,rfl⟩; refine ⟨(by repeat' (first|exact trivial|refine ⟨⟨qsafe_ok (st:=[]) rfl,Sure.of rfl⟩,?_⟩|refine ⟨.inl rfl,?_⟩|refine ⟨.inr ⟨qsafe_ok (st:=[]) rfl,Sure.of rfl⟩,?_⟩|refine ⟨⟨qsafe_ok (st:=[]) rfl,Sure.slice (by omega)⟩,?_⟩|refine ⟨.inr ⟨qsafe_ok (st:=[]) rfl,Sure.slice (by omega)⟩,?_⟩|refine ⟨.inr ⟨QY.neqB rfl (by kernel_rfl) rfl rfl,Sure.of rfl⟩,?_⟩|refine ⟨.inr ⟨QY.eqlB rfl (by kernel_rfl) rfl rfl,Sure.of rfl⟩,?_⟩ | fail)),?_⟩)|(refine P_Ed [] rfl rfl (EWd.callP [8,9,10,11,12,13,14] (hF2) rfl rfl (by decide) (by repeat' (first|exact trivial|refine ⟨rfl,?_⟩ | fail)) rfl rfl) (disj_nil _) (nm_nilE _) (nm_nilT _) ?_; rintro _ _ ⟨rfl,rfl⟩; refine ⟨(by repeat' (first|exact trivial|refine ⟨⟨qsafe_ok (st:=[]) rfl,Sure.of rfl⟩,?_⟩|refine ⟨.inl rfl,?_⟩|refine ⟨.inr ⟨qsafe_ok (st:=[]) rfl,Sure.of rfl⟩,?_⟩|refine ⟨⟨qsafe_ok (st:=[]) rfl,Sure.slice (by omega)⟩,?_⟩|refine ⟨.inr ⟨qsafe_ok (st:=[]) rfl,Sure.slice (by omega)⟩,?_⟩|refine ⟨.inr ⟨QY.neqB rfl (by kernel_rfl) rfl rfl,Sure.of rfl⟩,?_⟩|refine ⟨.inr ⟨QY.eqlB rfl (by kernel_rfl) rfl rfl,Sure.of rfl⟩,?_⟩ | fail)),?_⟩)|refine P_Q [] rfl rfl (QY.eqlB rfl (by kernel_rfl) rfl rfl) ?_|(refine P_Ed [] rfl rfl (EWd.callP [] (hLk) rfl rfl (by decide) (by repeat' (first|exact trivial|refine ⟨rfl,?_⟩ | fail)) rfl rfl) (disj_nil _) (nm_nilE _) (nm_nilT _) ?_; rintro _ _ ⟨rfl,rfl⟩; refine ⟨(by repeat' (first|exact trivial|refine ⟨⟨qsafe_ok (st:=[]) rfl,Sure.of rfl⟩,?_⟩|refine ⟨.inl rfl,?_⟩|refine ⟨.inr ⟨qsafe_ok (st:=[]) rfl,Sure.of rfl⟩,?_⟩|refine ⟨⟨qsafe_ok (st:=[]) rfl,Sure.slice (by omega)⟩,?_⟩|refine ⟨.inr ⟨qsafe_ok (st:=[]) rfl,Sure.slice (by omega)⟩,?_⟩|refine ⟨.inr ⟨QY.neqB rfl (by kernel_rfl) rfl rfl,Sure.of rfl⟩,?_⟩|refine ⟨.inr ⟨QY.eqlB rfl (by kernel_rfl) rfl rfl,Sure.of rfl⟩,?_⟩ | fail)),?_⟩)|(refine P_E [] rfl rfl (esafe_ok rfl) ?_; rintro _ _ ⟨rfl,rfl⟩; refine ⟨(by repeat' (first|exact trivial|refine ⟨⟨qsafe_ok (st:=[]) rfl,Sure.of rfl⟩,?_⟩|refine ⟨.inl rfl,?_⟩|refine ⟨.inr ⟨qsafe_ok (st:=[]) rfl,Sure.of rfl⟩,?_⟩|refine ⟨⟨qsafe_ok (st:=[]) rfl,Sure.slice (by omega)⟩,?_⟩|refine ⟨.inr ⟨qsafe_ok (st:=[]) rfl,Sure.slice (by omega)⟩,?_⟩|refine ⟨.inr ⟨QY.neqB rfl (by kernel_rfl) rfl rfl,Sure.of rfl⟩,?_⟩|refine ⟨.inr ⟨QY.eqlB rfl (by kernel_rfl) rfl rfl,Sure.of rfl⟩,?_⟩ | fail)),LPt.nf ?_⟩; conv=>whnf)|refine aI (hn:=?_)|refine sP 78 (fun h=>?_) (fun h=>?_)|refine sP 109 (fun h=>?_) (fun h=>?_)|refine sP 138 (fun h=>?_) (fun h=>?_)|refine sP 200 (fun h=>?_) (fun h=>?_)|refine sP 208 (fun h=>?_) (fun h=>?_)|refine sP 269 (fun h=>?_) (fun h=>?_)|refine sP 301 (fun h=>?_) (fun h=>?_)|refine sP 303 (fun h=>?_) (fun h=>?_)|refine sP 309 (fun h=>?_) (fun h=>?_)|refine sP 317 (fun h=>?_) (fun h=>?_)|refine sP 320 (fun h=>?_) (fun h=>?_)|refine sP 347 (fun h=>?_) (fun h=>?_)|refine qR ?_|refine qS ?_|exact ⟨rfl,rfl⟩|fail)
   all_goals exact L_ret (RetQ.pick [0,1,2,3,4,5,6,7,8,9,10,11,12,13,14] rfl rfl rfl rfl ⟨(r,d),⟨.same,tie⟩,rfl,rfl⟩)
 by_cases k10:kind=10
 ·subst k10
  have hH1:=hHp cls ow
  have hH2:=hHd cls ow
  clear hT1 hT2 hT3 hD1 hD2 hD3 hG1 hG2 hG3 hS1 hS2 hS3 hO1 hO2 hO3 hGr1 hGr2 hGr3 hOw1 hOw2 hFp hFd hHp hHd
  cases hh:r.home cls ow with
  | none =>
   rw [hh] at hH1 hH2
   change Tr Tryz.prog _ _ _ (fun v K=>v=.tuple ⟨[.int .i64 0,.bool false]⟩∧K=RPL r) at hH1
   change Tr Tryz.prog _ _ _ (fun v K=>v=.int .i64 (-1)∧K=DRL d) at hH2
   repeat' (first|refine qN ?_|refine dN ?_|refine d0 ?_|refine qB ?_|refine qT ?_|refine qU ?_|refine qL ?_|refine qK ?_|refine iF (fun h=>?_) (fun h=>?_)|refine cP [1,2,3,4,5,6,7] (hH1) ?_|refine cP [8,9,10,11,12,13,14] (hH2) ?_|refine S_Q [] rfl rfl (QY.neqB rfl (by kernel_rfl) rfl rfl) ?_|refine S_Q [] rfl rfl (QY.eqlB rfl (by kernel_rfl) rfl rfl) ?_|refine aI (hn:=?_)|refine sP 78 (fun h=>?_) (fun h=>?_)|refine sP 109 (fun h=>?_) (fun h=>?_)|refine sP 138 (fun h=>?_) (fun h=>?_)|refine sP 200 (fun h=>?_) (fun h=>?_)|refine sP 208 (fun h=>?_) (fun h=>?_)|refine sP 269 (fun h=>?_) (fun h=>?_)|refine sP 301 (fun h=>?_) (fun h=>?_)|refine sP 303 (fun h=>?_) (fun h=>?_)|refine sP 309 (fun h=>?_) (fun h=>?_)|refine sP 317 (fun h=>?_) (fun h=>?_)|refine sP 320 (fun h=>?_) (fun h=>?_)|refine sP 347 (fun h=>?_) (fun h=>?_)|refine qR ?_|refine qS ?_|exact ⟨rfl,rfl⟩|fail)
   all_goals first | (exfalso; omega)|exact L_ret (RetQ.pick [0,1,2,3,4,5,6,7,8,9,10,11,12,13,14] rfl rfl rfl rfl ⟨(r,d),⟨.same,tie⟩,rfl,rfl⟩)
  | some k =>
   rw [hh] at hH1 hH2
   change Tr Tryz.prog _ _ _ (fun v K=>v=.tuple ⟨[.int .i64 k,.bool true]⟩∧K=RPL r) at hH1
   change Tr Tryz.prog _ _ _ (fun v K=>v=.int .i64 k∧K=DRL d) at hH2
   obtain ⟨ua,ue,Pu,Du,hU1,hU2,hU3⟩:=hTk k
   repeat' (first|refine qN ?_|refine dN ?_|refine d0 ?_|refine qB ?_|refine qT ?_|refine qU ?_|refine qL ?_|refine qK ?_|refine iF (fun h=>?_) (fun h=>?_)|refine cP [1,2,3,4,5,6,7] (hH1) ?_|refine cP [8,9,10,11,12,13,14] (hH2) ?_|refine S_Q [] rfl rfl (QY.neqB rfl (by kernel_rfl) rfl rfl) ?_|refine S_Q [] rfl rfl (QY.eqlB rfl (by kernel_rfl) rfl rfl) ?_|refine aI (hn:=?_)|refine sP 78 (fun h=>?_) (fun h=>?_)|refine sP 109 (fun h=>?_) (fun h=>?_)|refine sP 138 (fun h=>?_) (fun h=>?_)|refine sP 200 (fun h=>?_) (fun h=>?_)|refine sP 208 (fun h=>?_) (fun h=>?_)|refine sP 269 (fun h=>?_) (fun h=>?_)|refine sP 301 (fun h=>?_) (fun h=>?_)|refine sP 303 (fun h=>?_) (fun h=>?_)|refine sP 309 (fun h=>?_) (fun h=>?_)|refine sP 317 (fun h=>?_) (fun h=>?_)|refine sP 320 (fun h=>?_) (fun h=>?_)|refine sP 347 (fun h=>?_) (fun h=>?_)|refine qR ?_|refine qS ?_|exact ⟨rfl,rfl⟩|fail)
   have hk0:decide ((k:Int)≥0)=true:=by simp
   all_goals try (exfalso; first|exact h rfl|exact h hk0.symm | omega | fail)
   refine cX (ι:=PR) (C:=Pu) (V:=fun _=>.tuple ⟨[.int .i64 ua,.int .i64 ue]⟩) (B:=fun r'=>RPL r') [1,2,3,4,5,6,7] hU1 (fun r' hr=>?_)
   conv=>whnf
   repeat' (first|refine qN ?_|refine dN ?_|refine d0 ?_|refine qB ?_|refine qT ?_|refine qU ?_|refine qL ?_|refine qK ?_|refine iF (fun h=>?_) (fun h=>?_)|refine aI (hn:=?_)|refine sP 78 (fun h=>?_) (fun h=>?_)|refine sP 109 (fun h=>?_) (fun h=>?_)|refine sP 138 (fun h=>?_) (fun h=>?_)|refine sP 200 (fun h=>?_) (fun h=>?_)|refine sP 208 (fun h=>?_) (fun h=>?_)|refine sP 269 (fun h=>?_) (fun h=>?_)|refine sP 301 (fun h=>?_) (fun h=>?_)|refine sP 303 (fun h=>?_) (fun h=>?_)|refine sP 309 (fun h=>?_) (fun h=>?_)|refine sP 317 (fun h=>?_) (fun h=>?_)|refine sP 320 (fun h=>?_) (fun h=>?_)|refine sP 347 (fun h=>?_) (fun h=>?_)|refine qR ?_|refine qS ?_|exact ⟨rfl,rfl⟩|fail)
   refine cX (ι:=DR) (C:=Du) (V:=fun _=>.tuple ⟨[.int .i64 ua,.int .i64 ue]⟩) (B:=fun d'=>DRL d') [8,9,10,11,12,13,14] hU2 (fun d' hd=>?_)
   conv=>whnf
   repeat' (first|refine qN ?_|refine dN ?_|refine d0 ?_|refine qB ?_|refine qT ?_|refine qU ?_|refine qL ?_|refine qK ?_|refine iF (fun h=>?_) (fun h=>?_)|refine S_Q [] rfl rfl (QY.eqlB rfl (by kernel_rfl) rfl rfl) ?_|refine aI (hn:=?_)|refine sP 78 (fun h=>?_) (fun h=>?_)|refine sP 109 (fun h=>?_) (fun h=>?_)|refine sP 138 (fun h=>?_) (fun h=>?_)|refine sP 200 (fun h=>?_) (fun h=>?_)|refine sP 208 (fun h=>?_) (fun h=>?_)|refine sP 269 (fun h=>?_) (fun h=>?_)|refine sP 301 (fun h=>?_) (fun h=>?_)|refine sP 303 (fun h=>?_) (fun h=>?_)|refine sP 309 (fun h=>?_) (fun h=>?_)|refine sP 317 (fun h=>?_) (fun h=>?_)|refine sP 320 (fun h=>?_) (fun h=>?_)|refine sP 347 (fun h=>?_) (fun h=>?_)|refine qR ?_|refine qS ?_|exact ⟨rfl,rfl⟩|fail)
   all_goals first|exact absurd rfl h|exact L_ret (RetQ.pick [0,1,2,3,4,5,6,7,8,9,10,11,12,13,14] rfl rfl rfl rfl ⟨(r',d'),hU3 r' d' hr hd,by first | rfl | (simp [lret]; rfl),rfl⟩)
 clear hT1 hT2 hT3 hD1 hD2 hD3 hG1 hG2 hG3 hS1 hS2 hS3 hO1 hO2 hO3 hGr1 hGr2 hGr3 hFp hFd hHp hHd
 repeat' (first|refine qN ?_|refine dN ?_|refine d0 ?_|refine qB ?_|refine qT ?_|refine qU ?_|refine qL ?_|refine qK ?_|refine iF (fun h=>?_) (fun h=>?_)|refine cP [1,2,3,4,5,6,7] (hOw1) ?_|refine cP [8,9,10,11,12,13,14] (hOw2) ?_|refine aI (hn:=?_)|refine sP 78 (fun h=>?_) (fun h=>?_)|refine sP 109 (fun h=>?_) (fun h=>?_)|refine sP 138 (fun h=>?_) (fun h=>?_)|refine sP 200 (fun h=>?_) (fun h=>?_)|refine sP 208 (fun h=>?_) (fun h=>?_)|refine sP 269 (fun h=>?_) (fun h=>?_)|refine sP 301 (fun h=>?_) (fun h=>?_)|refine sP 303 (fun h=>?_) (fun h=>?_)|refine sP 309 (fun h=>?_) (fun h=>?_)|refine sP 317 (fun h=>?_) (fun h=>?_)|refine sP 320 (fun h=>?_) (fun h=>?_)|refine sP 347 (fun h=>?_) (fun h=>?_)|refine qR ?_|refine qS ?_|exact ⟨rfl,rfl⟩|fail)
 all_goals first | (exfalso; omega)|exact L_ret (RetQ.pick [0,1,2,3,4,5,6,7,8,9,10,11,12,13,14] rfl rfl rfl rfl ⟨(r,d),⟨.same,tie⟩,by first | rfl | (simp [lret]; rfl),rfl⟩)
end
end Go.Proofs.YtahckccjhdfaiaaGreat
end
section
namespace Go.Proofs.YtahckccjhdfaiaaGreat
open Go Go.Tum Go.Tum.Base Go.Deep
set_option maxRecDepth 4000
def rowsRA:List FnRow:=[row_tumbrellaw09_awake,row_region_New,row_region_Region_Open,row_region_Region_Take,row_region_Region_Find,row_arena_New,row_link_New,row_pages_New,row_large_New,row_class_Size,row_pages_Table_Map,row_slab_Make,row_region_Region_slab,row_slab_Slab_Take,row_slab_Slab_Class,row_class_Base,row_arena_Arena_Len,row_class_Slot,row_region_Region_place,row_pages_Table_Head,row_large_Set_Size,row_link_mix,row_class_may,row_pages_Row_first,row_pages_Table_cut,row_pages_Table_place,row_class_Slots,row_bitset_New,row_slab_Slab_join,row_slab_Slab_follow,row_class_Room,row_arena_Arena_Fill,row_slab_Slab_canary,row_arena_Arena_SetWord,row_bitset_Set_Put,row_slab_Slab_Page,row_slab_Slab_State,row_pages_Table_Row,row_pages_Table_Len,row_pages_Row_free,row_slab_Slab_base,row_link_Code_Put,row_arena_Arena_Word,row_link_Code_Get,row_arena_Arena_in,row_link_Code_Canary,row_arena_Arena_word,row_num_Put,row_bitset_Set_in,row_bitset_Set_Len,row_bitset_Set_Has,row_link_Code_mask,row_num_Get]
theorem rowsRA_ok:∀ x∈rowsRA,x.Ok Tryz.prog:=by
 refine List.forall_mem_cons.2 ⟨row_tumbrellaw09_awake_ok,?_⟩
 refine List.forall_mem_cons.2 ⟨row_region_New_ok,?_⟩
 refine List.forall_mem_cons.2 ⟨row_region_Region_Open_ok,?_⟩
 refine List.forall_mem_cons.2 ⟨row_region_Region_Take_ok,?_⟩
 refine List.forall_mem_cons.2 ⟨row_region_Region_Find_ok,?_⟩
 refine List.forall_mem_cons.2 ⟨row_arena_New_ok,?_⟩
 refine List.forall_mem_cons.2 ⟨row_link_New_ok,?_⟩
 refine List.forall_mem_cons.2 ⟨row_pages_New_ok,?_⟩
 refine List.forall_mem_cons.2 ⟨row_large_New_ok,?_⟩
 refine List.forall_mem_cons.2 ⟨row_class_Size_ok,?_⟩
 refine List.forall_mem_cons.2 ⟨row_pages_Table_Map_ok,?_⟩
 refine List.forall_mem_cons.2 ⟨row_slab_Make_ok,?_⟩
 refine List.forall_mem_cons.2 ⟨row_region_Region_slab_ok,?_⟩
 refine List.forall_mem_cons.2 ⟨row_slab_Slab_Take_ok,?_⟩
 refine List.forall_mem_cons.2 ⟨row_slab_Slab_Class_ok,?_⟩
 refine List.forall_mem_cons.2 ⟨row_class_Base_ok,?_⟩
 refine List.forall_mem_cons.2 ⟨row_arena_Arena_Len_ok,?_⟩
 refine List.forall_mem_cons.2 ⟨row_class_Slot_ok,?_⟩
 refine List.forall_mem_cons.2 ⟨row_region_Region_place_ok,?_⟩
 refine List.forall_mem_cons.2 ⟨row_pages_Table_Head_ok,?_⟩
 refine List.forall_mem_cons.2 ⟨row_large_Set_Size_ok,?_⟩
 refine List.forall_mem_cons.2 ⟨row_link_mix_ok,?_⟩
 refine List.forall_mem_cons.2 ⟨row_class_may_ok,?_⟩
 refine List.forall_mem_cons.2 ⟨row_pages_Row_first_ok,?_⟩
 refine List.forall_mem_cons.2 ⟨row_pages_Table_cut_ok,?_⟩
 refine List.forall_mem_cons.2 ⟨row_pages_Table_place_ok,?_⟩
 refine List.forall_mem_cons.2 ⟨row_class_Slots_ok,?_⟩
 refine List.forall_mem_cons.2 ⟨row_bitset_New_ok,?_⟩
 refine List.forall_mem_cons.2 ⟨row_slab_Slab_join_ok,?_⟩
 refine List.forall_mem_cons.2 ⟨row_slab_Slab_follow_ok,?_⟩
 refine List.forall_mem_cons.2 ⟨row_class_Room_ok,?_⟩
 refine List.forall_mem_cons.2 ⟨row_arena_Arena_Fill_ok,?_⟩
 refine List.forall_mem_cons.2 ⟨row_slab_Slab_canary_ok,?_⟩
 refine List.forall_mem_cons.2 ⟨row_arena_Arena_SetWord_ok,?_⟩
 refine List.forall_mem_cons.2 ⟨row_bitset_Set_Put_ok,?_⟩
 refine List.forall_mem_cons.2 ⟨row_slab_Slab_Page_ok,?_⟩
 refine List.forall_mem_cons.2 ⟨row_slab_Slab_State_ok,?_⟩
 refine List.forall_mem_cons.2 ⟨row_pages_Table_Row_ok,?_⟩
 refine List.forall_mem_cons.2 ⟨row_pages_Table_Len_ok,?_⟩
 refine List.forall_mem_cons.2 ⟨row_pages_Row_free_ok,?_⟩
 refine List.forall_mem_cons.2 ⟨row_slab_Slab_base_ok,?_⟩
 refine List.forall_mem_cons.2 ⟨row_link_Code_Put_ok,?_⟩
 refine List.forall_mem_cons.2 ⟨row_arena_Arena_Word_ok,?_⟩
 refine List.forall_mem_cons.2 ⟨row_link_Code_Get_ok,?_⟩
 refine List.forall_mem_cons.2 ⟨row_arena_Arena_in_ok,?_⟩
 refine List.forall_mem_cons.2 ⟨row_link_Code_Canary_ok,?_⟩
 refine List.forall_mem_cons.2 ⟨row_arena_Arena_word_ok,?_⟩
 refine List.forall_mem_cons.2 ⟨row_num_Put_ok,?_⟩
 refine List.forall_mem_cons.2 ⟨row_bitset_Set_in_ok,?_⟩
 refine List.forall_mem_cons.2 ⟨row_bitset_Set_Len_ok,?_⟩
 refine List.forall_mem_cons.2 ⟨row_bitset_Set_Has_ok,?_⟩
 refine List.forall_mem_cons.2 ⟨row_link_Code_mask_ok,?_⟩
 refine List.forall_mem_cons.2 ⟨row_num_Get_ok,?_⟩
 exact fun x hx=>by cases hx
set_option maxRecDepth 20000 in
theorem awake09_tr:Tr Tryz.prog 13 [] [] (fun v K=>v=.bool true∧K=[]) :=
 Tr.closed (by kernel_rfl) rfl rfl fun w=>closed_call (vs:=[]) (fuel:=5000) rowsRA_ok (rawQ1_ok _) (rawE2_ok _) rfl rfl rfl (by kernel_rfl) w
end Go.Proofs.YtahckccjhdfaiaaGreat
end
section
namespace Go.Proofs.YtahckccjhdfaiaaGreat
open Go Go.Tum Go.Tum.Base Go.Deep
set_option maxRecDepth 4000
instance : Inhabited OP:=⟨⟨0,0,0,0,0,0,false,0,0,0,0⟩⟩
def OPIn (N:Nat) (F:Nat→List AV) (r:Nat→OP):Prop:=∀ i,i<N→(∃ G:Nat→List AV,F i=[.v (.int .i64 (r i).kind),.v (.int .i64 (r i).cls),.v (.int .i64 (r i).ow),.v (.int .i64 (r i).page),.v (.int .i64 (r i).at_),.v (.int .i64 (r i).n),.v (.bool (r i).base),.s ⟨(r i).b,(r i).o,none⟩ (r i).m (r i).c ((r i).m*1) (rowF 1 G)])∧(r i).m≤(r i).c∧(r i).at_<9223372036854775808
abbrev AOP (N:Nat) (F:Nat→List AV) (k:Nat):Args:=[(k,N*8,rowF 8 F)]
theorem ldOP {n0:NA} {L:LH} {l:Env} {x:Operand} {i N k:Nat} {F:Nat→List AV} {r:OP} (hx:lv l x=some (.pointer (some ⟨k,i*8,none⟩))) (hA:n0.A=AOP N F k) (hi:i<N) (e:∃ G:Nat→List AV,F i=[.v (.int .i64 r.kind),.v (.int .i64 r.cls),.v (.int .i64 r.ow),.v (.int .i64 r.page),.v (.int .i64 r.at_),.v (.int .i64 r.n),.v (.bool r.base),.s ⟨r.b,r.o,none⟩ r.m r.c (r.m*1) (rowF 1 G)]) :
  QY Tryz.prog n0 L l (.ldn x 8) (.agg ⟨OV r r.m⟩):=by
 obtain ⟨G,e⟩:=e
 have:=QY.rowF (P:=Tryz.prog) (n0:=n0) (L:=L) (l:=l) (sz:=8) (n:=N) (j:=0) (F:=F) i hx (by rw [hA]; rfl) rfl hi (by rw [e]; rfl) (by rw [e]; rfl)
 rw [e] at this; exact this
abbrev opK9:List CN:=[.c (some .i64),.c (some .i64),.c (some .i64),.c (some .i64),.c (some .i64),.c (some .i64),.c none,.s [.c (some .u8)]]
theorem op9_in {L:List AV} (hl:L.length=8) (h:∀ (j:Nat) (k:CN),opK9[j]?=some k→∃ a,L[j]?=some a∧CnOk 6 k a):∃ r:OP,(∃ G:Nat→List AV,L=[.v (.int .i64 r.kind),.v (.int .i64 r.cls),.v (.int .i64 r.ow),.v (.int .i64 r.page),.v (.int .i64 r.at_),.v (.int .i64 r.n),.v (.bool r.base),.s ⟨r.b,r.o,none⟩ r.m r.c (r.m*1) (rowF 1 G)])∧r.m≤r.c∧r.at_<9223372036854775808:=by
 obtain ⟨a0,h0,v0,rfl,x0,rfl,_⟩:=h 0 _ rfl
 obtain ⟨a1,h1,v1,rfl,x1,rfl,_⟩:=h 1 _ rfl
 obtain ⟨a2,h2,v2,rfl,x2,rfl,_⟩:=h 2 _ rfl
 obtain ⟨a3,h3,v3,rfl,x3,rfl,_⟩:=h 3 _ rfl
 obtain ⟨a4,h4,v4,rfl,x4,rfl,w4⟩:=h 4 _ rfl
 obtain ⟨a5,h5,v5,rfl,x5,rfl,_⟩:=h 5 _ rfl
 obtain ⟨a6,h6,v6,rfl,x6,rfl⟩:=h 6 _ rfl
 obtain ⟨a7,h7,b,o,n,c,F,rfl,hnc,_,hF⟩:=h 7 _ rfl
 refine ⟨⟨x0,x1,x2,x3,x4,x5,x6,b,o,n,c⟩,⟨F,?_⟩,hnc,?_⟩
 ·match hq:L,hl,h0,h1,h2,h3,h4,h5,h6,h7 with
  | [y0,y1,y2,y3,y4,y5,y6,y7],_,h0,h1,h2,h3,h4,h5,h6,h7 =>
   simp at h0 h1 h2 h3 h4 h5 h6 h7
   simp only [h0,h1,h2,h3,h4,h5,h6,h7,Nat.mul_one]
 ·have:=Go.bounds_i64 w4
  simp only
  omega
theorem ops9_in {n:Nat} {F:Nat→List AV} (hf:∀ i,i<n→(F i).length=8∧∀ (j:Nat) (k:CN),opK9[j]?=some k→∃ a,(F i)[j]?=some a∧CnOk 6 k a):∃ r,OPIn n F r:=by
 have:=choose_lt (n:=n) (p:=fun i (r:OP)=>(∃ G:Nat→List AV,F i=[.v (.int .i64 r.kind),.v (.int .i64 r.cls),.v (.int .i64 r.ow),.v (.int .i64 r.page),.v (.int .i64 r.at_),.v (.int .i64 r.n),.v (.bool r.base),.s ⟨r.b,r.o,none⟩ r.m r.c (r.m*1) (rowF 1 G)])∧r.m≤r.c∧r.at_<9223372036854775808) fun i hi=>op9_in (hf i hi).1 (hf i hi).2
 exact this
def PY (r:PR) (d:DR):LH:=[.dead,.cells 0 [ptr 2,ptr 9],
 .cells 0 [.int .i64 r.man,.int .i64 r.mgd,.int .u64 (r.seed.toNat:Int),adR r.a 0,ptr 3,.int .u64 (r.key.toNat:Int),.map (some 5),adR r.g0 0],
 .cells 0 [slB 4 (r.man+r.mgd)],.gro 4 (rowsC PRow.cells r.rs),pB r.m0 (peS r.sl) r.mc,crowdS r.a r.key r.sl,box [r.a,r.b] (AN r.N r.bs),crowdG r.a r.key r.g0 r.g1 r.G r.gc,
 .cells 0 [.int .i64 d.man,.int .u64 (d.key.toNat:Int),slE d.e d.N,slB 10 d.n,slB 11 d.n,adR d.g0 0],
 .gro 4 (rowsC PRow.cells d.rs),pRow (psL d.dl d.n),crowdO d.dl,crowdD d.key d.dl,box [d.e] [BL d.bs],crowdH d.key d.g0 d.g1 d.gq d.gl]
end Go.Proofs.YtahckccjhdfaiaaGreat
end
section
namespace Go.Proofs.YtahckccjhdfaiaaGreat
open Go Go.Tum Go.Tum.Base Go.Deep
set_option maxRecDepth 4000
section
variable {r:PR} (ok:r.Ok)
theorem row_none {a:Nat} (ha:(a:Int)<r.N) (h:r.find a=none):pAt r.rs ((a / 256:Nat):Int)=PRow.Z:=by
 have hN:r.N=256*(r.man+r.mgd):=rfl
 rw [pAt_row ok (by omega)]
 unfold PR.find at h
 rw [if_neg (by omega),show ((a:Nat):Int) / 256=((a / 256:Nat):Int) by omega] at h
 unfold rowP
 cases e:sfind r.sl ((a / 256:Nat):Int) with
 | some x=>rw [e] at h; cases h
 | none =>
  rw [e] at h
  simp only at h ⊢
  cases e2:gin r.G ((a / 256:Nat):Int) with
  | some b=>rw [e2] at h; cases h
  | none=>rfl
theorem row_some {a:Nat} {p:Pl} (h:r.find a=some p):r.find p.bs=some p∧p.bs≤(a:Int)∧(a:Int)<256*r.man∧(pAt r.rs ((a / 256:Nat):Int)).kind≠0:=by
 have hN:r.N=256*(r.man+r.mgd):=rfl
 unfold PR.find at h
 split at h
 ·cases h
 rename_i hr
 rw [show ((a:Nat):Int) / 256=((a / 256:Nat):Int) by omega] at h
 rw [pAt_row ok (by omega)]
 unfold rowP
 cases e:sfind r.sl ((a / 256:Nat):Int) with
 | some x =>
  rw [e] at h
  simp only [Int.toNat_natCast,Option.some.injEq] at h
  subst h
  obtain ⟨i,hi,hx,hpg⟩:=sfind_some e
  have hs:=ok.sok x hx
  have hk:=(cls_slot hs.cls a).1
  have hb:=hs.cls.base hk x.t.pg
  have hpg':=hs.pg
  have hz:=hs.cls.bd
  refine ⟨ok.find_slot hx hk,?_,by omega,by simp⟩
  have h5:=hb.2.2.2.2.1
  have h6:zC x.t.c*(a % 256 / zC x.t.c)≤a % 256:=Nat.mul_div_le _ _
  simp only [placeS]
  omega
 | none =>
  rw [e] at h
  simp only at h ⊢
  cases e2:gin r.G ((a / 256:Nat):Int) with
  | none=>rw [e2] at h; cases h
  | some b =>
   rw [e2] at h
   simp only [Option.map_some,Option.some.injEq] at h
   subst h
   obtain ⟨h1,h2,h3⟩:=gin_some e2
   have hb:=ok.gok b h1
   have hhi:=hb.hi
   refine ⟨ok.find_great h1,?_,by omega,?_⟩
   ·simp only [placeG]; omega
   ·simp only; split <;> simp [lrow,tailP]
end
set_option maxHeartbeats 4000000 in
theorem RegionPlaces_tr (mn:Int) (hmn:0≤mn∧mn<256) (x:BitVec 64) (nb:Nat) (hnb:nb≤9223372036854775807) (F:Nat→List AV) (op:Nat→OP) (hop:OPIn nb F op) :
  TrK Tryz.prog (AOP nb F 0) [0] 3 [.int .u8 mn,.int .u64 (x.toNat:Int),slB 0 nb] [.dead] (fun v _=>v=.bool true):=by
 obtain ⟨m,hm⟩:∃ m:Nat,1+mn % 6=m:=⟨(1+mn % 6).toNat,by omega⟩
 have hMk:=Make_tr m 1 x (by omega) (by omega)
 have hAw:=awake09_tr
 refine Tr.of row_tumbrellaw09_RegionPlaces_ok rfl ?_
 repeat' (first|refine qN ?_|refine dN ?_|refine dR ?_|refine d0 ?_|refine qB ?_|refine rT ?_|refine qT ?_|refine qU ?_|refine qL ?_|refine qK ?_|refine qF ?_|refine qE ?_|refine iF (fun h=>?_) (fun h=>?_)|refine aX ?_|refine S_Q [] rfl rfl (QY.cvi (m:=mn) rfl (wrap64_id (by omega) (by omega))) ?_|refine S_Q [] rfl rfl (QY.remN rfl rfl rfl (by omega) (by omega)) ?_|refine S_Q [] rfl rfl (QY.add (c:=(m:Int)) rfl rfl hm (by omega) (by omega)) ?_|refine aA ?_|refine aI (hn:=?_)|refine aD ?_|refine aR ?_|refine aM ?_|refine sP 35 (fun h=>?_) (fun h=>?_)|refine sP 83 (fun h=>?_) (fun h=>?_)|refine sP 88 (fun h=>?_) (fun h=>?_)|refine sP 94 (fun h=>?_) (fun h=>?_)|refine sP 100 (fun h=>?_) (fun h=>?_)|refine qR ?_|refine qS ?_|exact ⟨rfl,rfl⟩|fail)
 refine cX (ι:=PR × DR) (C:=fun j=>j.1.Ok∧Tie j.1 j.2∧j.1.sl=[]∧j.1.G=[]∧j.1.man=m∧j.1.mgd=1∧j.1.seed=x) (V:=fun _=>ptr 0) (B:=fun j=>PX j.1 j.2) [] hMk (fun j hj=>?_)
 conv=>whnf
 obtain ⟨r,d⟩:=j
 obtain ⟨ok,tie,j1,j2,hrm,hrg,j3⟩:=hj
 repeat' (first|refine qN ?_|refine dN ?_|refine d0 ?_|refine qB ?_|refine qT ?_|refine qU ?_|refine qL ?_|refine qK ?_|refine qF ?_|refine qE ?_|refine iF (fun h=>?_) (fun h=>?_)|refine aX ?_|refine aA ?_|refine aI (hn:=?_)|refine aD ?_|refine aR ?_|refine aM ?_|refine sP 35 (fun h=>?_) (fun h=>?_)|refine sP 83 (fun h=>?_) (fun h=>?_)|refine sP 88 (fun h=>?_) (fun h=>?_)|refine sP 94 (fun h=>?_) (fun h=>?_)|refine sP 100 (fun h=>?_) (fun h=>?_)|refine qR ?_|refine qS ?_|exact ⟨rfl,rfl⟩|fail)
 refine LWp.pick [7,8,26,27,28] [0,1,2,3,4,5,6,7,8,9,10,11,12,13,14,15] rfl rfl rfl (L_loop (fun q l L=>∃ (i:Nat) (r:PR) (d:DR),q=nb-i∧i≤nb∧r.Ok∧Tie r d∧r.man=m∧r.mgd=1∧l=[(7,.int .i64 m),(8,ptr 1),(26,slB 0 nb),(27,.int .i64 nb),(28,.int .i64 i)]∧L=PY r d) nb ⟨0,r,d,rfl,by omega,ok,tie,hrm,hrg,rfl,rfl⟩ ?_)
 clear ok tie hrm hrg j1 j2 j3 r d hMk
 rintro q _ _ ⟨i,r,d,rfl,hi,ok,tie,hrm,hrg,rfl,rfl⟩
 first|refine L_seq (L_rs (S_done [] rfl (Nx.goL (iF (fun h=>L_skip (Nx.goL ?_)) (fun h=>L_exit ?_)))))|refine L_rs (S_done [] rfl (Nx.goL (L_seq (iF (fun h=>L_skip (Nx.goL ?_)) (fun h=>L_exit ?_)))))
 ·refine L_seq (L_block ?_)
  have hin:i<nb:=by omega
  obtain ⟨e,hmc,hat⟩:=hop i hin
  have hSt:=step_tr r d ok tie (op i) hat hmc
  refine L_cut (fun l L=>l=[(7,.int .i64 m),(8,ptr 1),(9,.int .i64 i),(10,ptr 16),(26,slB 0 nb),(27,.int .i64 nb),(28,.int .i64 i)]∧L=PY r d++[.cells 0 (OV (op i) (op i).m)]) ?_ ?_
  ·repeat' (first|refine qN ?_|refine dN ?_|refine d0 ?_|refine qB ?_|refine qT ?_|refine qU ?_|refine qL ?_|refine qK ?_|refine qF ?_|refine qE ?_|refine iF (fun h=>?_) (fun h=>?_)|refine aX ?_|refine S_Q [] rfl rfl (ldOP rfl rfl hin e) ?_|refine aA ?_|refine aI (hn:=?_)|refine aD ?_|refine aR ?_|refine aM ?_|refine sP 35 (fun h=>?_) (fun h=>?_)|refine sP 83 (fun h=>?_) (fun h=>?_)|refine sP 88 (fun h=>?_) (fun h=>?_)|refine sP 94 (fun h=>?_) (fun h=>?_)|refine sP 100 (fun h=>?_) (fun h=>?_)|refine qR ?_|refine qS ?_|exact ⟨rfl,rfl⟩|fail)
   exact Nx.pick [7,8,9,10,26,27,28] [0,1,2,3,4,5,6,7,8,9,10,11,12,13,14,15,16] rfl rfl rfl ⟨rfl,rfl⟩
  rintro _ _ ⟨rfl,rfl⟩
  generalize op i=o at *
  clear e hmc hat
  by_cases h30:i<30
  ·repeat' (first|refine qN ?_|refine dN ?_|refine d0 ?_|refine qB ?_|refine qT ?_|refine qU ?_|refine qL ?_|refine qK ?_|refine qF ?_|refine qE ?_|refine iF (fun h=>?_) (fun h=>?_)|refine aX ?_|refine aA ?_|refine aI (hn:=?_)|refine aD ?_|refine aR ?_|refine aM ?_|refine sP 35 (fun h=>?_) (fun h=>?_)|refine sP 83 (fun h=>?_) (fun h=>?_)|refine sP 88 (fun h=>?_) (fun h=>?_)|refine sP 94 (fun h=>?_) (fun h=>?_)|refine sP 100 (fun h=>?_) (fun h=>?_)|refine qR ?_|refine qS ?_|exact ⟨rfl,rfl⟩|fail)
   all_goals try (exfalso; omega)
   refine cX (ι:=PR × DR) (C:=fun j=>Stp r j.1∧Tie j.1 j.2) (V:=fun _=>.bool true) (B:=fun j=>PX j.1 j.2) [1,2,3,4,5,6,7,8,9,10,11,12,13,14,15] hSt (fun j hj=>?_)
   conv=>whnf
   obtain ⟨r',d'⟩:=j
   obtain ⟨hs,tie'⟩:=hj
   repeat' (first|refine qN ?_|refine dN ?_|refine d0 ?_|refine qB ?_|refine qT ?_|refine qU ?_|refine qL ?_|refine qK ?_|refine qF ?_|refine qE ?_|refine iF (fun h=>?_) (fun h=>?_)|refine aX ?_|refine aA ?_|refine aI (hn:=?_)|refine aD ?_|refine aR ?_|refine aM ?_|refine sP 35 (fun h=>?_) (fun h=>?_)|refine sP 83 (fun h=>?_) (fun h=>?_)|refine sP 88 (fun h=>?_) (fun h=>?_)|refine sP 94 (fun h=>?_) (fun h=>?_)|refine sP 100 (fun h=>?_) (fun h=>?_)|refine qR ?_|refine qS ?_|exact ⟨rfl,rfl⟩|fail)
   exact Nx.pick [7,8,26,27,28] [0,1,2,3,4,5,6,7,8,9,10,11,12,13,14,15] rfl rfl rfl ⟨nb-(i+1),by omega,i+1,r',d',rfl,by omega,hs.ok ok,tie',hs.man.1.trans hrm,hs.man.2.1.trans hrg,rfl,rfl⟩
  ·repeat' (first|refine qN ?_|refine dN ?_|refine d0 ?_|refine qB ?_|refine qT ?_|refine qU ?_|refine qL ?_|refine qK ?_|refine qF ?_|refine qE ?_|refine iF (fun h=>?_) (fun h=>?_)|refine aX ?_|refine aA ?_|refine aI (hn:=?_)|refine aD ?_|refine aR ?_|refine aM ?_|refine sP 35 (fun h=>?_) (fun h=>?_)|refine sP 83 (fun h=>?_) (fun h=>?_)|refine sP 88 (fun h=>?_) (fun h=>?_)|refine sP 94 (fun h=>?_) (fun h=>?_)|refine sP 100 (fun h=>?_) (fun h=>?_)|refine qR ?_|refine qS ?_|exact ⟨rfl,rfl⟩|fail)
   all_goals first | (exfalso; omega)|exact Nx.pick [7,8,26,27,28] [0,1,2,3,4,5,6,7,8,9,10,11,12,13,14,15] rfl rfl rfl ⟨nb-(i+1),by omega,i+1,r,d,rfl,by omega,ok,tie,hrm,hrg,rfl,rfl⟩
 ·refine Nx.goL ?_
  repeat' (first|refine qN ?_|refine dN ?_|refine d0 ?_|refine qB ?_|refine qT ?_|refine qU ?_|refine qL ?_|refine qK ?_|refine qF ?_|refine qE ?_|refine iF (fun h=>?_) (fun h=>?_)|refine aX ?_|refine aA ?_|refine aI (hn:=?_)|refine aD ?_|refine aR ?_|refine aM ?_|refine sP 35 (fun h=>?_) (fun h=>?_)|refine sP 83 (fun h=>?_) (fun h=>?_)|refine sP 88 (fun h=>?_) (fun h=>?_)|refine sP 94 (fun h=>?_) (fun h=>?_)|refine sP 100 (fun h=>?_) (fun h=>?_)|refine qR ?_|refine qS ?_|exact ⟨rfl,rfl⟩|fail)
  have hrN:r.N=256*(m+1):=by unfold PR.N; rw [hrm,hrg]
  refine LWp.pick [7,8,11] [0,1,2,3,4,5,6,7,8,9,10,11,12,13,14,15] rfl rfl rfl (L_loop (fun q l L=>∃ a:Nat,q=256*(m+1)-a∧a≤256*(m+1)∧l=[(7,.int .i64 m),(8,ptr 1),(11,.int .i64 a)]∧L=PY r d) (256*(m+1)) ⟨0,rfl,by omega,rfl,rfl⟩ ?_)
  clear hi hnb hop
  rintro q _ _ ⟨a,rfl,ha,rfl,rfl⟩
  have hPg:=pgPages_tr r
  have hRow:=tRow (r.man+r.mgd) r.rs ok.rl ((a / 256:Nat):Int)
  have hFi:=pgFind_tr r ok
  have hF:=hFi a
  by_cases hlt:a<256*(m+1)
  ·repeat' (first|refine qN ?_|refine dN ?_|refine dR ?_|refine d0 ?_|refine rT ?_|refine qT ?_|refine qU ?_|refine qL ?_|refine qK ?_|refine qF ?_|refine qE ?_|refine iF (fun h=>?_) (fun h=>?_)|refine aX ?_|refine S_Q [] rfl rfl (QY.add (c:=((m+1:Nat):Int)) rfl rfl (by omega) (by omega) (by omega)) ?_|refine S_Q [] rfl rfl (QY.mul (c:=((256*(m+1):Nat):Int)) rfl rfl (by omega) (by omega) (by omega)) ?_|refine aA ?_|refine aI (hn:=?_)|refine aD ?_|refine aR ?_|refine aM ?_|refine sP 35 (fun h=>?_) (fun h=>?_)|refine sP 83 (fun h=>?_) (fun h=>?_)|refine sP 88 (fun h=>?_) (fun h=>?_)|refine sP 94 (fun h=>?_) (fun h=>?_)|refine sP 100 (fun h=>?_) (fun h=>?_)|refine qR ?_|refine qS ?_|exact ⟨rfl,rfl⟩|fail)
   all_goals try (exfalso; omega)
   cases hf:r.find (a:Int) with
   | none =>
    rw [hf,Pl.val_none] at hF
    rw [row_none ok (by rw [hrN]; omega) hf] at hRow
    repeat' (first|refine qN ?_|refine dN ?_|refine d0 ?_|refine qB ?_|refine qT ?_|refine qU ?_|refine qL ?_|refine qK ?_|refine qF ?_|refine qE ?_|refine iF (fun h=>?_) (fun h=>?_)|refine aX ?_|(refine cF [2,3,4,5,6,7,8] (hF) ?_; conv=>whnf)|(refine cF [2,3,4,5,6,7,8] (hPg) ?_; conv=>whnf)|refine cP [3,4] (hRow) ?_|refine aA ?_|refine aI (hn:=?_)|refine aD ?_|refine aR ?_|refine aM ?_|refine sP 35 (fun h=>?_) (fun h=>?_)|refine sP 83 (fun h=>?_) (fun h=>?_)|refine sP 88 (fun h=>?_) (fun h=>?_)|refine sP 94 (fun h=>?_) (fun h=>?_)|refine sP 100 (fun h=>?_) (fun h=>?_)|refine qR ?_|refine qS ?_|exact ⟨rfl,rfl⟩|fail)
    all_goals first | (exfalso; omega)|exact Nx.pick [7,8,11] [0,1,2,3,4,5,6,7,8,9,10,11,12,13,14,15] rfl rfl rfl ⟨256*(m+1)-(a+1),by omega,a+1,rfl,by omega,rfl,rfl⟩
   | some p =>
    obtain ⟨h1,h2,h3,h4⟩:=row_some ok hf
    have hF2:=hFi p.bs
    rw [h1,Pl.val_some] at hF2
    rw [hf,Pl.val_some] at hF
    generalize pAt r.rs ((a / 256:Nat):Int)=R at *
    repeat' (first|refine qN ?_|refine dN ?_|refine d0 ?_|refine qB ?_|refine qT ?_|refine qU ?_|refine qL ?_|refine qK ?_|refine qF ?_|refine qE ?_|refine iF (fun h=>?_) (fun h=>?_)|refine aX ?_|refine S_Q [] rfl rfl (QY.mul (c:=((256*m:Nat):Int)) rfl rfl (by omega) (by omega) (by omega)) ?_|(refine cF [2,3,4,5,6,7,8] (hF) ?_; conv=>whnf)|(refine cF [2,3,4,5,6,7,8] (hPg) ?_; conv=>whnf)|refine cP [3,4] (hRow) ?_|(refine cF [2,3,4,5,6,7,8] (hF2) ?_; conv=>whnf)|(refine S_E [] rfl rfl (esafe_ok rfl) ?_; rintro _ _ ⟨rfl,rfl⟩; refine ⟨(by repeat' (first|exact trivial|refine ⟨⟨qsafe_ok (st:=[]) rfl,Sure.of rfl⟩,?_⟩|refine ⟨.inl rfl,?_⟩|refine ⟨.inr ⟨qsafe_ok (st:=[]) rfl,Sure.of rfl⟩,?_⟩|refine ⟨⟨qsafe_ok (st:=[]) rfl,Sure.slice (by omega)⟩,?_⟩|refine ⟨.inr ⟨qsafe_ok (st:=[]) rfl,Sure.slice (by omega)⟩,?_⟩|refine ⟨.inr ⟨QY.neqB rfl (by kernel_rfl) rfl rfl,Sure.of rfl⟩,?_⟩|refine ⟨.inr ⟨QY.eqlB rfl (by kernel_rfl) rfl rfl,Sure.of rfl⟩,?_⟩ | fail)),LSt.nf ?_⟩; conv=>whnf)|refine S_Q [] rfl rfl (QY.tt (u:=false) (QY.neqS (bs:=[p.pg == p.pg,p.sl == p.sl,p.bs == p.bs,p.sz == p.sz,p.st == p.st,p.gr == p.gr]) rfl rfl rfl (by kernel_rfl)) (by simp)) ?_|refine L_rT ?_|refine L_regT ?_|refine P_lin rfl ?_|refine P_A [] rfl ?_ ?_|refine P_Q [] rfl rfl (QY.mul (c:=((256*m:Nat):Int)) rfl rfl (by omega) (by omega) (by omega)) ?_|(refine P_E [] rfl rfl (EW.callF [2,3,4,5,6,7,8] (hF) rfl rfl (by decide) (by repeat' (first|exact trivial|refine ⟨rfl,?_⟩ | fail)) rfl rfl) ?_; rintro _ _ ⟨rfl,rfl⟩; refine ⟨(by repeat' (first|exact trivial|refine ⟨⟨qsafe_ok (st:=[]) rfl,Sure.of rfl⟩,?_⟩|refine ⟨.inl rfl,?_⟩|refine ⟨.inr ⟨qsafe_ok (st:=[]) rfl,Sure.of rfl⟩,?_⟩|refine ⟨⟨qsafe_ok (st:=[]) rfl,Sure.slice (by omega)⟩,?_⟩|refine ⟨.inr ⟨qsafe_ok (st:=[]) rfl,Sure.slice (by omega)⟩,?_⟩|refine ⟨.inr ⟨QY.neqB rfl (by kernel_rfl) rfl rfl,Sure.of rfl⟩,?_⟩|refine ⟨.inr ⟨QY.eqlB rfl (by kernel_rfl) rfl rfl,Sure.of rfl⟩,?_⟩ | fail)),LPt.nf ?_⟩; conv=>whnf)|(refine P_E [] rfl rfl (EW.callF [2,3,4,5,6,7,8] (hPg) rfl rfl (by decide) (by repeat' (first|exact trivial|refine ⟨rfl,?_⟩ | fail)) rfl rfl) ?_; rintro _ _ ⟨rfl,rfl⟩; refine ⟨(by repeat' (first|exact trivial|refine ⟨⟨qsafe_ok (st:=[]) rfl,Sure.of rfl⟩,?_⟩|refine ⟨.inl rfl,?_⟩|refine ⟨.inr ⟨qsafe_ok (st:=[]) rfl,Sure.of rfl⟩,?_⟩|refine ⟨⟨qsafe_ok (st:=[]) rfl,Sure.slice (by omega)⟩,?_⟩|refine ⟨.inr ⟨qsafe_ok (st:=[]) rfl,Sure.slice (by omega)⟩,?_⟩|refine ⟨.inr ⟨QY.neqB rfl (by kernel_rfl) rfl rfl,Sure.of rfl⟩,?_⟩|refine ⟨.inr ⟨QY.eqlB rfl (by kernel_rfl) rfl rfl,Sure.of rfl⟩,?_⟩ | fail)),LPt.nf ?_⟩; conv=>whnf)|(refine P_Ed [] rfl rfl (EWd.callP [3,4] (hRow) rfl rfl (by decide) (by repeat' (first|exact trivial|refine ⟨rfl,?_⟩ | fail)) rfl rfl) (disj_nil _) (nm_nilE _) (nm_nilT _) ?_; rintro _ _ ⟨rfl,rfl⟩; refine ⟨(by repeat' (first|exact trivial|refine ⟨⟨qsafe_ok (st:=[]) rfl,Sure.of rfl⟩,?_⟩|refine ⟨.inl rfl,?_⟩|refine ⟨.inr ⟨qsafe_ok (st:=[]) rfl,Sure.of rfl⟩,?_⟩|refine ⟨⟨qsafe_ok (st:=[]) rfl,Sure.slice (by omega)⟩,?_⟩|refine ⟨.inr ⟨qsafe_ok (st:=[]) rfl,Sure.slice (by omega)⟩,?_⟩|refine ⟨.inr ⟨QY.neqB rfl (by kernel_rfl) rfl rfl,Sure.of rfl⟩,?_⟩|refine ⟨.inr ⟨QY.eqlB rfl (by kernel_rfl) rfl rfl,Sure.of rfl⟩,?_⟩ | fail)),?_⟩)|(refine P_E [] rfl rfl (EW.callF [2,3,4,5,6,7,8] (hF2) rfl rfl (by decide) (by repeat' (first|exact trivial|refine ⟨rfl,?_⟩ | fail)) rfl rfl) ?_; rintro _ _ ⟨rfl,rfl⟩; refine ⟨(by repeat' (first|exact trivial|refine ⟨⟨qsafe_ok (st:=[]) rfl,Sure.of rfl⟩,?_⟩|refine ⟨.inl rfl,?_⟩|refine ⟨.inr ⟨qsafe_ok (st:=[]) rfl,Sure.of rfl⟩,?_⟩|refine ⟨⟨qsafe_ok (st:=[]) rfl,Sure.slice (by omega)⟩,?_⟩|refine ⟨.inr ⟨qsafe_ok (st:=[]) rfl,Sure.slice (by omega)⟩,?_⟩|refine ⟨.inr ⟨QY.neqB rfl (by kernel_rfl) rfl rfl,Sure.of rfl⟩,?_⟩|refine ⟨.inr ⟨QY.eqlB rfl (by kernel_rfl) rfl rfl,Sure.of rfl⟩,?_⟩ | fail)),LPt.nf ?_⟩; conv=>whnf)|(refine P_E [] rfl rfl (esafe_ok rfl) ?_; rintro _ _ ⟨rfl,rfl⟩; refine ⟨(by repeat' (first|exact trivial|refine ⟨⟨qsafe_ok (st:=[]) rfl,Sure.of rfl⟩,?_⟩|refine ⟨.inl rfl,?_⟩|refine ⟨.inr ⟨qsafe_ok (st:=[]) rfl,Sure.of rfl⟩,?_⟩|refine ⟨⟨qsafe_ok (st:=[]) rfl,Sure.slice (by omega)⟩,?_⟩|refine ⟨.inr ⟨qsafe_ok (st:=[]) rfl,Sure.slice (by omega)⟩,?_⟩|refine ⟨.inr ⟨QY.neqB rfl (by kernel_rfl) rfl rfl,Sure.of rfl⟩,?_⟩|refine ⟨.inr ⟨QY.eqlB rfl (by kernel_rfl) rfl rfl,Sure.of rfl⟩,?_⟩ | fail)),LPt.nf ?_⟩; conv=>whnf)|refine P_Q [] rfl rfl (QY.tt (u:=false) (QY.neqS (bs:=[p.pg == p.pg,p.sl == p.sl,p.bs == p.bs,p.sz == p.sz,p.st == p.st,p.gr == p.gr]) rfl rfl rfl (by kernel_rfl)) (by simp)) ?_|refine aA ?_|refine aI (hn:=?_)|refine aD ?_|refine aR ?_|refine aM ?_|refine sP 35 (fun h=>?_) (fun h=>?_)|refine sP 83 (fun h=>?_) (fun h=>?_)|refine sP 88 (fun h=>?_) (fun h=>?_)|refine sP 94 (fun h=>?_) (fun h=>?_)|refine sP 100 (fun h=>?_) (fun h=>?_)|refine qR ?_|refine qS ?_|exact ⟨rfl,rfl⟩|fail)
    all_goals first | (exfalso; omega)|exact absurd h h4|exact Nx.pick [7,8,11] [0,1,2,3,4,5,6,7,8,9,10,11,12,13,14,15] rfl rfl rfl ⟨256*(m+1)-(a+1),by omega,a+1,rfl,by omega,rfl,rfl⟩
  ·repeat' (first|refine qN ?_|refine dN ?_|refine d0 ?_|refine qB ?_|refine qT ?_|refine qU ?_|refine qL ?_|refine qK ?_|refine qF ?_|refine qE ?_|refine iF (fun h=>?_) (fun h=>?_)|refine aX ?_|refine S_Q [] rfl rfl (QY.add (c:=((m+1:Nat):Int)) rfl rfl (by omega) (by omega) (by omega)) ?_|refine S_Q [] rfl rfl (QY.mul (c:=((256*(m+1):Nat):Int)) rfl rfl (by omega) (by omega) (by omega)) ?_|refine cP [] (hAw) ?_|refine aA ?_|refine aI (hn:=?_)|refine aD ?_|refine aR ?_|refine aM ?_|refine sP 35 (fun h=>?_) (fun h=>?_)|refine sP 83 (fun h=>?_) (fun h=>?_)|refine sP 88 (fun h=>?_) (fun h=>?_)|refine sP 94 (fun h=>?_) (fun h=>?_)|refine sP 100 (fun h=>?_) (fun h=>?_)|refine qR ?_|refine qS ?_|exact ⟨rfl,rfl⟩|fail)
   all_goals first | (exfalso; omega)|exact L_ret (RetQ.pick [0] rfl rfl rfl rfl rfl)
theorem RegionPlaces_does (w:World) (mn x:Int) (hmn:0≤mn∧mn<256) (hx:0≤x∧x<18446744073709551616) {v:Value} {n:Nat} {F:Nat→List AV} (hr:SlInN w 8 v n F) (hf:∀ i,i<n→(F i).length=8∧∀ (j:Nat) (k:CN),opK9[j]?=some k→∃ a,(F i)[j]?=some a∧CnOk 6 k a) :
  Does Tryz.prog 3 #[.int .u8 mn,.int .u64 x,v] w fun v w'=>v=.bool true∧Fr (fun _=>False) w w':=by
 obtain ⟨y,rfl⟩:∃ y:BitVec 64,x=(y.toNat:Int):=⟨BitVec.ofNat 64 x.toNat,by rw [BitVec.toNat_ofNat,Nat.mod_eq_of_lt (by omega)]; omega⟩
 obtain ⟨r,hR⟩:=ops9_in hf
 obtain ⟨hn,q,hq⟩:=hr
 obtain ⟨h1,h2⟩:=hq [q] 0 rfl
 exact (RegionPlaces_tr mn hmn y n hn F r hR).law (vs':=[.int .u8 mn,.int .u64 (y.toNat:Int),v]) [q] w rfl (by
  intro z hz
  cases List.mem_singleton.1 hz; exact ⟨rfl,h2⟩) ⟨rfl,rfl,h1,trivial⟩
end Go.Proofs.YtahckccjhdfaiaaGreat
end
