/-
  What the proof leans on, part 8: of the texts CycleAgain, CycleAgainD.
-/
import Derived.Test.YtdpcccjkncagoaaGreatDoorPkG
set_option linter.unusedVariables false
set_option linter.unusedSimpArgs false
set_option linter.unusedSectionVars false
section
namespace Go.Proofs.YtdpcccjkncagoaaGreatDoor
open Go Go.Tum Go.Tum.Base
set_option maxRecDepth 4000
def CA (m n:HM) (gl:List Gb) (x:List Int) (kd:Kd) (t:Ths) (ph a:Int) (ct gn:Nat) (xs:List Int) (j k w:Nat):LH :=
 PM2 m n gl++[.gro 1 (rowsC intC x)]++CC26 1 kd t ph a ct gn xs j k w
abbrev YC:List Nat:=[3,4,5,6,7,8,9,10,11,12,13,14,15,26,27,28,29,30,31,32,33]
abbrev Y34:List Nat:=[0,1,2,3,4,5,6,7,8,9,10,11,12,13,14,15,16,17,18,19,20,21,22,23,24,25,26,27,28,29,30,31,32,33]
abbrev T1 (x:List Int):Ths:=⟨true,false,false,x,[],[]⟩
def wX (x:List Int):Nat→List Int
 | 0=>[]
 | _=>x
set_option maxHeartbeats 16000000 in
theorem CycleAgain_tr (b:Int) (hb:0≤b∧b<256) (nb:Nat) (hnb:nb≤9223372036854775807) (get:Nat→List Value) (op:Nat→Op18) (hop:∀ i,i<nb→get i=(op i).cells∧(op i).In)
  (na:Nat) (hna:na≤9223372036854775807) (geta:Nat→List Value) (wa:Nat→Int) (hwa:∀ i,i<na→geta i=[.int .i64 (wa i)]∧inI (wa i)) :
  TrK Tryz.prog [(0,nb*10,rowG 10 get),(1,na*1,rowG 1 geta)] [0,1] 12 [.int .u8 b,slB 0 nb,slB 1 na] [.dead,.dead] (fun v _=>v=.bool true):=by
 obtain ⟨N,hN⟩:∃ N:Nat,1+b % 4=N:=⟨(1+b % 4).toNat,by omega⟩
 have hMk:=make18_tr 1 N (by omega) (by omega)
 have hI0:=HI.init (man:=1) (mgd:=N) (by omega) (by omega)
 have hG0:GoodO (initM 1 N):=fun i hi hb=>by
  have:=objN_mem.2 ⟨hi,hb⟩
  rw [objN_init] at this; cases this
 have hz0:(initM 1 N).man=1∧(initM 1 N).mgd=N:=⟨rfl,rfl⟩
 have hAw:=awake22_tr
 generalize initM 1 N=m0 at *
 refine Tr.of row_tumbrellaw22_CycleAgain_ok rfl ?_
 repeat' (first|refine qN ?_|refine dN ?_|refine dR ?_|refine d0 ?_|refine qB ?_|refine rT ?_|refine qT ?_|refine qU ?_|refine qL ?_|refine qK ?_|refine qF ?_|refine qE ?_|refine iF (fun h=>?_) (fun h=>?_)|refine aX ?_|refine S_Q [] rfl rfl (QY.cvi rfl (wrap64_id (by omega) (by omega))) ?_|refine S_Q [] rfl rfl (QY.add rfl rfl hN (by omega) (by omega)) ?_|(refine cF [] (hMk) ?_; conv=>whnf)|refine aA ?_|refine aS ?_|refine aI (hn:=?_)|refine aR ?_|refine sP 31 (fun h=>?_) (fun h=>?_)|refine sP 64 (fun h=>?_) (fun h=>?_)|refine sP 75 (fun h=>?_) (fun h=>?_)|refine sP 88 (fun h=>?_) (fun h=>?_)|refine sP 91 (fun h=>?_) (fun h=>?_)|refine sP 100 (fun h=>?_) (fun h=>?_)|refine qR ?_|refine qS ?_|exact ⟨rfl,rfl⟩|fail)
 refine LWp.pick [2,7,22,23,24] U25 rfl rfl rfl (L_loop (fun q l K=>∃ (i:Nat) (m:HM) (gl:List Gb),q=nb-i∧i≤nb∧HI m gl∧GoodO m∧(m.man=1∧m.mgd=N)∧l=[(2,slB 1 na),(7,ptr 2),(22,slB 0 nb),(23,.int .i64 nb),(24,.int .i64 i)]∧K=PM2 m m gl) nb ⟨0,m0,[],rfl,by omega,hI0,hG0,hz0,rfl,rfl⟩ ?_)
 clear hMk hI0 hG0 hz0
 rintro q _ _ ⟨i,m,gl,rfl,hi,hI,hG,hz,rfl,rfl⟩
 first|refine L_seq (L_rs (S_done [] rfl (Nx.goL (iF (fun h=>L_skip (Nx.goL ?_)) (fun h=>L_exit ?_)))))|refine L_rs (S_done [] rfl (Nx.goL (L_seq (iF (fun h=>L_skip (Nx.goL ?_)) (fun h=>L_exit ?_)))))
 ·have hi':i<nb:=by omega
  obtain ⟨e,ho⟩:=hop i hi'
  have hS:=step_tr m gl hI (op i) ho false
  have hI':=hI.step (op i) false
  have hG':=hG.step hI (op i)
  have hz':=step_size m gl (op i) false
  rw [hz.1,hz.2] at hz'
  generalize (stepM m gl (op i) false).1=m' at *
  generalize (stepM m gl (op i) false).2=gl' at *
  repeat' (first|refine qN ?_|refine dN ?_|refine dR ?_|refine d0 ?_|refine qB ?_|refine rT ?_|refine qT ?_|refine qU ?_|refine qL ?_|refine qK ?_|refine qF ?_|refine qE ?_|refine iF (fun h=>?_) (fun h=>?_)|refine aX ?_|refine S_Q (v:=.agg ⟨(op i).cells⟩) [] rfl rfl (by rw [← e]; exact QY.rowA (j:=0) i rfl rfl rfl hi' (by rw [e]; rfl) (by rw [e]; rfl)) ?_|(refine cW U23 (hS) ?_; conv=>whnf)|refine aA ?_|refine aS ?_|refine aI (hn:=?_)|refine aR ?_|refine sP 31 (fun h=>?_) (fun h=>?_)|refine sP 64 (fun h=>?_) (fun h=>?_)|refine sP 75 (fun h=>?_) (fun h=>?_)|refine sP 88 (fun h=>?_) (fun h=>?_)|refine sP 91 (fun h=>?_) (fun h=>?_)|refine sP 100 (fun h=>?_) (fun h=>?_)|refine qR ?_|refine qS ?_|exact ⟨rfl,rfl⟩|fail)
  ·exact Nx.pick [2,7,22,23,24] U25 rfl rfl rfl ⟨nb-(i+1),by omega,i+1,m',gl',rfl,by omega,hI',hG',hz',rfl,rfl⟩
  ·exact Nx.pick [2,7,22,23,24] U25 rfl rfl rfl ⟨nb-(i+1),by omega,i+1,m,gl,rfl,by omega,hI,hG,hz,rfl,rfl⟩
 ·refine Nx.goL ?_
  clear hop hi
  have hm:=hI.toHOk
  have hRa:=roots22_tr m gl hI na hna geta wa hwa
  have hla:=rt6_le (fun i=>atP m (wa i) (wa i)) na
  have hia:=rt6_in (f:=fun i=>atP m (wa i) (wa i)) (n:=na) fun i hi=>atP_in hm (wa i) (hwa i hi).2
  generalize rt6 (fun i=>atP m (wa i) (wa i)) na=x at *
  clear hwa
  repeat' (first|refine qN ?_|refine dN ?_|refine dR ?_|refine d0 ?_|refine qB ?_|refine rT ?_|refine qT ?_|refine qU ?_|refine qL ?_|refine qK ?_|refine qF ?_|refine qE ?_|refine iF (fun h=>?_) (fun h=>?_)|refine aX ?_|refine aA ?_|refine aS ?_|refine aI (hn:=?_)|refine aR ?_|refine sP 31 (fun h=>?_) (fun h=>?_)|refine sP 64 (fun h=>?_) (fun h=>?_)|refine sP 75 (fun h=>?_) (fun h=>?_)|refine sP 88 (fun h=>?_) (fun h=>?_)|refine sP 91 (fun h=>?_) (fun h=>?_)|refine sP 100 (fun h=>?_) (fun h=>?_)|refine qR ?_|refine qS ?_|exact ⟨rfl,rfl⟩|fail)
  refine cA [1,2,3,4,5,6,7,8,9,10,11,12,13,14,15,16,17,18,19,20,21,22,23,24] hRa (by intro z hz; cases List.mem_singleton.1 hz; exact ⟨rfl,1,rfl,List.mem_cons_of_mem _ (List.mem_cons_self ..)⟩) ?_
  conv=>whnf
  clear hRa
  have hNw:=cNew_tr m 1 (by omega)
  have hAll:=hAll_tr m hm
  have hwl:(objI m).length=(objN m).length:=List.length_map _
  have hol:=objI_len hm
  rw [hwl] at hAll hol
  repeat' (first|refine qN ?_|refine dN ?_|refine dR ?_|refine d0 ?_|refine qB ?_|refine rT ?_|refine qT ?_|refine qU ?_|refine qL ?_|refine qK ?_|refine qF ?_|refine qE ?_|refine iF (fun h=>?_) (fun h=>?_)|refine aX ?_|(refine cF UH (hNw) ?_; conv=>whnf)|(refine cF UH (hAll) ?_; conv=>whnf)|refine aA ?_|refine aS ?_|refine aI (hn:=?_)|refine aR ?_|refine sP 31 (fun h=>?_) (fun h=>?_)|refine sP 64 (fun h=>?_) (fun h=>?_)|refine sP 75 (fun h=>?_) (fun h=>?_)|refine sP 88 (fun h=>?_) (fun h=>?_)|refine sP 91 (fun h=>?_) (fun h=>?_)|refine sP 100 (fun h=>?_) (fun h=>?_)|refine qR ?_|refine qS ?_|exact ⟨rfl,rfl⟩|fail)
  clear hNw hAll
  have hN4:m.mgd≤4:=by rw [hz.2]; omega
  obtain ⟨m1,hm1⟩:∃ m1,m1=unmarkM m:=⟨_,rfl⟩
  refine LWp.pick [7,10,11,12,13] Y34 rfl rfl rfl (L_loop (fun q l K=>∃ (r:Nat) (kd:Kd) (mb:HM) (a:Int) (ct gn:Nat),q=2-r∧RdI m m1 gl x r kd mb a ct gn∧l=[(7,ptr 2),(10,slB 25 x.length),(11,ptr 26),(12,.int .i64 (objN m).length),(13,.int .i64 r)]∧K=CA mb m gl x kd T0 0 a ct gn [] 0 0 0) 2 ⟨0,.w0,m,0,0,0,rfl,.r0,rfl,rfl⟩ ?_)
  rintro q _ _ ⟨r,kd,mb,a,ct,gn,rfl,hr,rfl,rfl⟩
  first|refine L_seq (L_rs (S_done [] rfl (Nx.goL (iF (fun h=>L_skip (Nx.goL ?_)) (fun h=>L_exit ?_)))))|refine L_rs (S_done [] rfl (Nx.goL (L_seq (iF (fun h=>L_skip (Nx.goL ?_)) (fun h=>L_exit ?_)))))
  ·cases hr with
   | r0 =>
    have hIb:=hI
    have hgb:m.mgd=m.mgd:=rfl
    have hmu0:=hm1
    have hIu:=hIb.unmark
    have hmu:unmarkM m={ m with mw:=(unmarkM m).mw }:=rfl
    have h01:∀ i,bitAt (unmarkM m).mw i=false:=fun i=>bitAt_zero _ _
    have hB:=cStep_begin m hIb.toHOk 1 (by omega) false (T1 x) rfl 0 0 0
    rw [if_neg (by decide)] at hB
    rw [← hmu0] at hIu hmu h01 hB
    have hRq:=cRequest_tr 1 (by omega) false m T0 0 0 0
    have hS1:=cStop_tr 1 (by omega) false m T0 0 (by omega) rfl 0 0 0 x (by omega)
    repeat' (first|refine qN ?_|refine dN ?_|refine dR ?_|refine d0 ?_|refine qB ?_|refine rT ?_|refine qT ?_|refine qU ?_|refine qL ?_|refine qK ?_|refine qF ?_|refine qE ?_|refine iF (fun h=>?_) (fun h=>?_)|refine aX ?_|(refine cF YC (hRq) ?_; conv=>whnf)|refine aA ?_|refine aS ?_|refine aI (hn:=?_)|refine aR ?_|refine sP 31 (fun h=>?_) (fun h=>?_)|refine sP 64 (fun h=>?_) (fun h=>?_)|refine sP 75 (fun h=>?_) (fun h=>?_)|refine sP 88 (fun h=>?_) (fun h=>?_)|refine sP 91 (fun h=>?_) (fun h=>?_)|refine sP 100 (fun h=>?_) (fun h=>?_)|refine qR ?_|refine qS ?_|exact ⟨rfl,rfl⟩|fail)
    repeat' (first|refine qN ?_|refine dN ?_|refine dR ?_|refine d0 ?_|refine qB ?_|refine rT ?_|refine qT ?_|refine qU ?_|refine qL ?_|refine qK ?_|refine qF ?_|refine qE ?_|refine iF (fun h=>?_) (fun h=>?_)|refine aX ?_|(refine cW [3,4,5,6,7,8,9,10,11,12,13,14,15,26,27,28,29,30,31,32,33,25] (hS1) ?_; conv=>whnf)|refine aA ?_|refine aS ?_|refine aI (hn:=?_)|refine aR ?_|refine sP 31 (fun h=>?_) (fun h=>?_)|refine sP 64 (fun h=>?_) (fun h=>?_)|refine sP 75 (fun h=>?_) (fun h=>?_)|refine sP 88 (fun h=>?_) (fun h=>?_)|refine sP 91 (fun h=>?_) (fun h=>?_)|refine sP 100 (fun h=>?_) (fun h=>?_)|refine qR ?_|refine qS ?_|exact ⟨rfl,rfl⟩|fail)
    all_goals try (exfalso; first | omega|exact absurd rfl h)
    clear hRq hS1
    have hM0:=MkR.first hIu h01 []
    have hg1:m1.mgd=m.mgd:=by rw [hmu]
    refine L_mb (fun l L=>∃ (mm:HM) (xs:List Int) (C:Nat),MkR m1 gl x (mm,xs,0) C∧l=[(7,ptr 2),(10,slB 25 x.length),(11,ptr 26),(12,.int .i64 (objN m).length),(13,.int .i64 0)]∧L=CA (stA mm (pagesH mm) (pagesH mm).length) m gl x .w1 T0 0 1 1 (stG mm (pagesH mm) (pagesH mm).length) [] 0 0 0) ?_ ?_
    ·refine LWp.pick [7,10,11,12,13,14] Y34 rfl rfl rfl (L_loop (fun q l K=>∃ (n:Nat) (kd:Kd) (mm:HM) (t:Ths) (ph a:Int) (ct gn:Nat) (xs:List Int) (j k w:Nat),q=500-n∧ph≠0∧CyI 1 .w0 .m0 m m1 gl (T1 x) (wX x) 0 0 0 n kd mm t ph a ct gn xs j k w∧l=[(7,ptr 2),(10,slB 25 x.length),(11,ptr 26),(12,.int .i64 (objN m).length),(13,.int .i64 0),(14,.int .i64 n)]∧K=CA mm m gl x kd t ph a ct gn xs j k w) 500 ⟨0,.w0,m,_,1,0,0,0,[],0,0,0,rfl,by decide,.wait,rfl,rfl⟩ ?_)
     rintro q _ _ ⟨n,kd,mm,t,ph,a,ct,gn,xs,j,k,w,rfl,hph,h,rfl,rfl⟩
     cases h with
     | wait =>
      have hPh:=cPhase_tr 1 (by omega) .m0 m1 (T1 x) 2 0 0 0 [] 0 0 0
      repeat' (first|refine qN ?_|refine dN ?_|refine dR ?_|refine d0 ?_|refine qB ?_|refine rT ?_|refine qT ?_|refine qU ?_|refine qL ?_|refine qK ?_|refine qF ?_|refine qE ?_|refine iF (fun h=>?_) (fun h=>?_)|refine aX ?_|(refine cW YC (hB) ?_; conv=>whnf)|refine cP YC (hPh) ?_|refine aA ?_|refine aS ?_|refine aI (hn:=?_)|refine aR ?_|refine sP 31 (fun h=>?_) (fun h=>?_)|refine sP 64 (fun h=>?_) (fun h=>?_)|refine sP 75 (fun h=>?_) (fun h=>?_)|refine sP 88 (fun h=>?_) (fun h=>?_)|refine sP 91 (fun h=>?_) (fun h=>?_)|refine sP 100 (fun h=>?_) (fun h=>?_)|refine qR ?_|refine qS ?_|exact ⟨rfl,rfl⟩|fail)
      all_goals first | (exfalso; omega)|exact Nx.pick [7,10,11,12,13,14] Y34 rfl rfl rfl ⟨500-1,by omega,1,.m0,m1,_,2,0,0,0,[],0,0,0,rfl,by decide,.root (i:=0) (by omega) hM0 (by decide),rfl,rfl⟩
     | @root i mm xs k hi hM hl =>
      have hle:=hM.le
      simp only at hle
      obtain rfl:i=0:=by omega
      have hS:=cStep_root mm gl hM.hi 1 (by omega) false (T1 x) 0 hi 0 0 xs k 0 hle (by omega) hia (by show x.length≤16; omega)
      have hM':MkR m1 gl x (ntA (mm,xs,k) (rOf (T1 x) 0)) 0:=hM.notes (l:=x)
      have hl':(ntA (mm,xs,k) (rOf (T1 x) 0)).2.1.length≤xs.length+x.length:=(le_notes (x:=(mm,xs,k)) (l:=x) hle).2
      rw [if_pos rfl] at hS
      clear hB hM hia
      generalize ntA (mm,xs,k) (rOf (T1 x) 0)=Y at *
      obtain ⟨m',xs',k'⟩:=Y
      simp only at hS hl'
      have hPh:=cPhase_tr 1 (by omega) .m0 m' (T1 x) 3 1 0 0 xs' 0 k' 0
      repeat' (first|refine qN ?_|refine dN ?_|refine dR ?_|refine d0 ?_|refine qB ?_|refine rT ?_|refine qT ?_|refine qU ?_|refine qL ?_|refine qK ?_|refine qF ?_|refine qE ?_|refine iF (fun h=>?_) (fun h=>?_)|refine aX ?_|(refine cW YC (hS) ?_; conv=>whnf)|refine cP YC (hPh) ?_|refine aA ?_|refine aS ?_|refine aI (hn:=?_)|refine aR ?_|refine sP 31 (fun h=>?_) (fun h=>?_)|refine sP 64 (fun h=>?_) (fun h=>?_)|refine sP 75 (fun h=>?_) (fun h=>?_)|refine sP 88 (fun h=>?_) (fun h=>?_)|refine sP 91 (fun h=>?_) (fun h=>?_)|refine sP 100 (fun h=>?_) (fun h=>?_)|refine qR ?_|refine qS ?_|exact ⟨rfl,rfl⟩|fail)
      all_goals first | (exfalso; omega)|exact Nx.pick [7,10,11,12,13,14] Y34 rfl rfl rfl ⟨500-2,by omega,2,.m0,m',_,3,1,0,0,xs',0,k',0,rfl,by decide,.mark (c:=0) hM' (by omega),rfl,rfl⟩
     | @mark c0 mm xs k hM hl =>
      obtain ⟨c,rfl⟩:∃ c,c=w:=⟨_,rfl⟩
      have hfew:=hM.few
      have hle:=hM.le
      have hsm:=hM.same
      simp only at hfew hle hsm
      have hg2:mm.mgd=m.mgd:=by rw [hsm,← hg1]
      have hmn:mm.man=m1.man:=by rw [hsm]
      clear hB hia hsm
      cases k with
      | zero =>
       have hS:=cStep_lookno mm hM.hi.toHOk 1 (by omega) false (T1 x) 1 0 0 xs c
       have e1:=stA_zero mm (pagesH mm)
       have e2:stG mm (pagesH mm) 0=0:=by unfold stG; rw [Nat.zero_min]; rfl
       have hnx:CyI 1 .w0 .m0 m m1 gl (T1 x) (wX x) 0 0 0 (c+0+3) .s (stA mm (pagesH mm) 0) (T1 x) 4 1 0 0 (natI (pagesH mm)) 0 (pagesH mm).length (stG mm (pagesH mm) 0):=.sweep (j:=0) (d:=(pagesH mm).length) hM (by omega)
       rw [e1,e2] at hnx
       generalize pagesH mm=ps at *
       have hPh:=cPhase_tr 1 (by omega) .s mm (T1 x) 4 1 0 0 (natI ps) 0 ps.length 0
       repeat' (first|refine qN ?_|refine dN ?_|refine dR ?_|refine d0 ?_|refine qB ?_|refine rT ?_|refine qT ?_|refine qU ?_|refine qL ?_|refine qK ?_|refine qF ?_|refine qE ?_|refine iF (fun h=>?_) (fun h=>?_)|refine aX ?_|(refine cW YC (hS) ?_; conv=>whnf)|refine cP YC (hPh) ?_|refine aA ?_|refine aS ?_|refine aI (hn:=?_)|refine aR ?_|refine sP 31 (fun h=>?_) (fun h=>?_)|refine sP 64 (fun h=>?_) (fun h=>?_)|refine sP 75 (fun h=>?_) (fun h=>?_)|refine sP 88 (fun h=>?_) (fun h=>?_)|refine sP 91 (fun h=>?_) (fun h=>?_)|refine sP 100 (fun h=>?_) (fun h=>?_)|refine qR ?_|refine qS ?_|exact ⟨rfl,rfl⟩|fail)
       all_goals first | (exfalso; omega)|exact Nx.pick [7,10,11,12,13,14] Y34 rfl rfl rfl ⟨500-(c+3),by omega,c+3,.s,mm,_,4,1,0,0,natI ps,0,ps.length,0,rfl,by decide,hnx,rfl,rfl⟩
      | succ k =>
       have hg:xs[k]?=some xs[k]:=List.getElem?_eq_getElem (by omega)
       obtain ⟨i0,e,hio,_⟩:=hM.stm xs[k] (by unfold stk; simp only; rw [List.take_succ_eq_append_getElem (by omega)]; exact List.mem_append_right _ (List.mem_singleton.2 rfl))
       rw [e] at hg
       obtain ⟨hio,_⟩:=objN_mem.1 hio
       have hS:=cStep_look mm gl hM.hi 1 (by omega) false (T1 x) 1 0 0 xs k c i0 hg (by omega) (by omega) (by omega)
       have hM':=hM.step hg
       have hl':=(le_notes (x:=(mm,xs,k)) (l:=refsF mm.bs (16*i0)) (by show k≤xs.length; omega)).2
       have h15:=refsF_len mm.bs (16*i0)
       clear hM
       generalize ntA (mm,xs,k) (refsF mm.bs (16*i0))=Y at *
       obtain ⟨m',xs',k'⟩:=Y
       simp only at hS hl'
       have hPh:=cPhase_tr 1 (by omega) .m0 m' (T1 x) 3 1 0 0 xs' 0 k' (c+1)
       repeat' (first|refine qN ?_|refine dN ?_|refine dR ?_|refine d0 ?_|refine qB ?_|refine rT ?_|refine qT ?_|refine qU ?_|refine qL ?_|refine qK ?_|refine qF ?_|refine qE ?_|refine iF (fun h=>?_) (fun h=>?_)|refine aX ?_|(refine cW YC (hS) ?_; conv=>whnf)|refine cP YC (hPh) ?_|refine aA ?_|refine aS ?_|refine aI (hn:=?_)|refine aR ?_|refine sP 31 (fun h=>?_) (fun h=>?_)|refine sP 64 (fun h=>?_) (fun h=>?_)|refine sP 75 (fun h=>?_) (fun h=>?_)|refine sP 88 (fun h=>?_) (fun h=>?_)|refine sP 91 (fun h=>?_) (fun h=>?_)|refine sP 100 (fun h=>?_) (fun h=>?_)|refine qR ?_|refine qS ?_|exact ⟨rfl,rfl⟩|fail)
       all_goals first | (exfalso; omega)|exact Nx.pick [7,10,11,12,13,14] Y34 rfl rfl rfl ⟨500-(c+1+2),by omega,c+1+2,.m0,m',_,3,1,0,0,xs',0,k',c+1,rfl,by decide,.mark (c:=c+1) hM' (by omega),rfl,rfl⟩
     | @sweep mm xs C j0 d0 hM hd =>
      obtain ⟨d,rfl⟩:∃ d,d=k:=⟨_,rfl⟩
      have hfew:=hM.few
      have hsm:=hM.same
      simp only at hfew hsm
      have hg2:mm.mgd=m.mgd:=by rw [hsm,← hg1]
      have hp2:=pagesH_len mm
      clear hB hia hsm
      have hnl:=natI_length (pagesH mm)
      cases d with
      | zero =>
       obtain rfl:j=(pagesH mm).length:=by omega
       have hS:=cStep_cleanno (stA mm (pagesH mm) (pagesH mm).length) 1 (by omega) (T1 x) 1 0 0 (by omega) (natI (pagesH mm)) (pagesH mm).length (stG mm (pagesH mm) (pagesH mm).length) (by omega)
       have hnx:∃ (mm':HM) (xs':List Int) (C':Nat),MkR m1 gl x (mm',xs',0) C'∧stA mm (pagesH mm) (pagesH mm).length=stA mm' (pagesH mm') (pagesH mm').length∧stG mm (pagesH mm) (pagesH mm).length=stG mm' (pagesH mm') (pagesH mm').length:=⟨mm,xs,C,hM,rfl,rfl⟩
       generalize stA mm (pagesH mm) (pagesH mm).length=ma at *
       generalize stG mm (pagesH mm) (pagesH mm).length=ga at *
       generalize pagesH mm=ps at *
       have hPh:=cPhase_tr 1 (by omega) .w1 ma T0 0 1 1 ga [] 0 0 0
       repeat' (first|refine qN ?_|refine dN ?_|refine dR ?_|refine d0 ?_|refine qB ?_|refine rT ?_|refine qT ?_|refine qU ?_|refine qL ?_|refine qK ?_|refine qE ?_|refine iF (fun h=>?_) (fun h=>?_)|refine aX ?_|(refine cW YC (hS) ?_; conv=>whnf)|refine cP YC (hPh) ?_|refine aA ?_|refine aS ?_|refine aI (hn:=?_)|refine aR ?_|refine sP 31 (fun h=>?_) (fun h=>?_)|refine sP 64 (fun h=>?_) (fun h=>?_)|refine sP 75 (fun h=>?_) (fun h=>?_)|refine sP 88 (fun h=>?_) (fun h=>?_)|refine sP 91 (fun h=>?_) (fun h=>?_)|refine sP 100 (fun h=>?_) (fun h=>?_)|refine qR ?_|refine qS ?_|exact ⟨rfl,rfl⟩|fail)
       all_goals try (exfalso; omega)
       obtain ⟨mm',xs',C',hM',e1,e2⟩:=hnx
       show Nx _ _ _ _
       exact Nx.pick [7,10,11,12,13] Y34 rfl rfl rfl ⟨mm',xs',C',hM',rfl,by rw [← e1,← e2]; rfl⟩
      | succ c =>
       have hga:=stG_le hM.hi j
       simp only at hga
       have hS:=cStep_clean (stA mm (pagesH mm) j) gl (stA_hi hM.hi (by simp only; omega)) 1 (by omega) (T1 x) 1 0 0 (natI (pagesH mm)) (by omega) j c (stG mm (pagesH mm) j) (by omega) (by omega)
       obtain ⟨e1,e2⟩:=stA_next mm (pagesH mm) (n:=j) (by omega)
       rw [← e1,← e2] at hS
       have hnx:CyI 1 .w0 .m0 m m1 gl (T1 x) (wX x) 0 0 0 (C+(j+1)+3) .s (stA mm (pagesH mm) (j+1)) (T1 x) 4 1 0 0 (natI (pagesH mm)) (j+1) c (stG mm (pagesH mm) (j+1)):=.sweep hM (by omega)
       clear e1 e2
       generalize stA mm (pagesH mm) (j+1)=mc at *
       generalize stG mm (pagesH mm) (j+1)=gc at *
       generalize stA mm (pagesH mm) j=ma at *
       generalize stG mm (pagesH mm) j=ga at *
       generalize pagesH mm=ps at *
       have hPh:=cPhase_tr 1 (by omega) .s mc (T1 x) 4 1 0 0 (natI ps) (j+1) c gc
       repeat' (first|refine qN ?_|refine dN ?_|refine dR ?_|refine d0 ?_|refine qB ?_|refine rT ?_|refine qT ?_|refine qU ?_|refine qL ?_|refine qK ?_|refine qF ?_|refine qE ?_|refine iF (fun h=>?_) (fun h=>?_)|refine aX ?_|(refine cW YC (hS) ?_; conv=>whnf)|refine cP YC (hPh) ?_|refine aA ?_|refine aS ?_|refine aI (hn:=?_)|refine aR ?_|refine sP 31 (fun h=>?_) (fun h=>?_)|refine sP 64 (fun h=>?_) (fun h=>?_)|refine sP 75 (fun h=>?_) (fun h=>?_)|refine sP 88 (fun h=>?_) (fun h=>?_)|refine sP 91 (fun h=>?_) (fun h=>?_)|refine sP 100 (fun h=>?_) (fun h=>?_)|refine qR ?_|refine qS ?_|exact ⟨rfl,rfl⟩|fail)
       all_goals first | (exfalso; omega)|exact Nx.pick [7,10,11,12,13,14] Y34 rfl rfl rfl ⟨500-(C+(j+1)+3),by omega,C+(j+1)+3,.s,mc,_,4,1,0,0,natI ps,j+1,c,gc,rfl,by decide,hnx,rfl,rfl⟩
     | idle=>exact absurd rfl hph
    ·clear hB hM0 h01
     rintro _ _ ⟨mm,xs,C,hM,rfl,rfl⟩
     have hsm:=hM.same
     simp only at hsm
     have hob:objN mm=objN m:=by rw [hsm,hmu]; rfl
     obtain ⟨hF,hcnt⟩:=sweep_left hM.hi (n:=(pagesH mm).length) (Nat.le_refl _)
     simp only at hF hcnt
     rw [hob] at hcnt
     have hnx:RdI m m1 gl x 1 .w1 (stA mm (pagesH mm) (pagesH mm).length) 1 1 (stG mm (pagesH mm) (pagesH mm).length):=.r1 hM
     have hAll:=hAll_tr (stA mm (pagesH mm) (pagesH mm).length) hF.ok
     have hwl2:=wI_len (wantN mm)
     rw [objI_wI,hF.objs,hwl2] at hAll
     clear hM hsm hF
     generalize stA mm (pagesH mm) (pagesH mm).length=mf at *
     generalize stG mm (pagesH mm) (pagesH mm).length=g at *
     have hGn:=cGone_tr 1 (by omega) .w1 mf T0 0 1 1 g [] 0 0 0
     repeat' (first|refine qN ?_|refine dN ?_|refine dR ?_|refine d0 ?_|refine qB ?_|refine rT ?_|refine qT ?_|refine qU ?_|refine qL ?_|refine qK ?_|refine qF ?_|refine qE ?_|refine iF (fun h=>?_) (fun h=>?_)|refine aX ?_|refine cP YC (hGn) ?_|(refine cF UH (hAll) ?_; conv=>whnf)|refine S_Q [] rfl rfl (QY.sub (c:=(g:Int)) rfl rfl (by omega) (by omega) (by omega)) ?_|refine aA ?_|refine aS ?_|refine aI (hn:=?_)|refine aR ?_|refine sP 31 (fun h=>?_) (fun h=>?_)|refine sP 64 (fun h=>?_) (fun h=>?_)|refine sP 75 (fun h=>?_) (fun h=>?_)|refine sP 88 (fun h=>?_) (fun h=>?_)|refine sP 91 (fun h=>?_) (fun h=>?_)|refine sP 100 (fun h=>?_) (fun h=>?_)|refine qR ?_|refine qS ?_|exact ⟨rfl,rfl⟩|fail)
     all_goals first|exact absurd rfl h | (exfalso; omega)|exact Nx.pick [7,10,11,12,13] Y34 rfl rfl rfl ⟨2-1,by omega,1,.w1,mf,1,1,g,rfl,hnx,rfl,rfl⟩
   | @r1 mA xsA CA1 hM1 =>
    have hmA:=hM1.same
    simp only at hmA
    have hG1:GoodO m1:=hG.same (by rw [hm1]; rfl) (by rw [hm1]; rfl) (by rw [hm1]; rfl) (by rw [hm1]; rfl) (by rw [hm1]; rfl)
    have hIb:=stA_end hM1.hi
    have hgb:=(sweep_left hM1.hi (n:=(pagesH mA).length) (Nat.le_refl _)).1.mgd
    simp only at hIb hgb
    rw [show mA.mgd=m.mgd by rw [hmA,hm1]; rfl] at hgb
    have hag:∀ (y:MkS) (d:Nat),MkR (stA mA (pagesH mA) (pagesH mA).length) gl x y d→y.2.2=0→wantN y.1=objN y.1:=fun y d hy h0=>again_all hM1 rfl hG1 (Nat.le_refl _) hy h0
    clear hM1 hmA
    generalize stA mA (pagesH mA) (pagesH mA).length=mb at *
    generalize stG mA (pagesH mA) (pagesH mA).length=g1 at *
    obtain ⟨mu,hmu0⟩:∃ mu,mu=unmarkM mb:=⟨_,rfl⟩
    have hIu:=hIb.unmark
    have hmu:unmarkM mb={ mb with mw:=(unmarkM mb).mw }:=rfl
    have h01:∀ i,bitAt (unmarkM mb).mw i=false:=fun i=>bitAt_zero _ _
    have hB:=cStep_begin mb hIb.toHOk 1 (by omega) true (T1 x) rfl 1 1 g1
    rw [if_neg (by decide)] at hB
    rw [← hmu0] at hIu hmu h01 hB
    have hRq:=cRequest_tr 1 (by omega) true mb T0 1 1 g1
    have hS1:=cStop_tr 1 (by omega) true mb T0 0 (by omega) rfl 1 1 g1 x (by omega)
    repeat' (first|refine qN ?_|refine dN ?_|refine dR ?_|refine d0 ?_|refine qB ?_|refine rT ?_|refine qT ?_|refine qU ?_|refine qL ?_|refine qK ?_|refine qF ?_|refine qE ?_|refine iF (fun h=>?_) (fun h=>?_)|refine aX ?_|(refine cF YC (hRq) ?_; conv=>whnf)|refine aA ?_|refine aS ?_|refine aI (hn:=?_)|refine aR ?_|refine sP 31 (fun h=>?_) (fun h=>?_)|refine sP 64 (fun h=>?_) (fun h=>?_)|refine sP 75 (fun h=>?_) (fun h=>?_)|refine sP 88 (fun h=>?_) (fun h=>?_)|refine sP 91 (fun h=>?_) (fun h=>?_)|refine sP 100 (fun h=>?_) (fun h=>?_)|refine qR ?_|refine qS ?_|exact ⟨rfl,rfl⟩|fail)
    repeat' (first|refine qN ?_|refine dN ?_|refine dR ?_|refine d0 ?_|refine qB ?_|refine rT ?_|refine qT ?_|refine qU ?_|refine qL ?_|refine qK ?_|refine qF ?_|refine qE ?_|refine iF (fun h=>?_) (fun h=>?_)|refine aX ?_|(refine cW [3,4,5,6,7,8,9,10,11,12,13,14,15,26,27,28,29,30,31,32,33,25] (hS1) ?_; conv=>whnf)|refine aA ?_|refine aS ?_|refine aI (hn:=?_)|refine aR ?_|refine sP 31 (fun h=>?_) (fun h=>?_)|refine sP 64 (fun h=>?_) (fun h=>?_)|refine sP 75 (fun h=>?_) (fun h=>?_)|refine sP 88 (fun h=>?_) (fun h=>?_)|refine sP 91 (fun h=>?_) (fun h=>?_)|refine sP 100 (fun h=>?_) (fun h=>?_)|refine qR ?_|refine qS ?_|exact ⟨rfl,rfl⟩|fail)
    all_goals try (exfalso; first | omega|exact absurd rfl h)
    clear hRq hS1
    have hM0:=MkR.first hIu h01 []
    have hg1:mu.mgd=m.mgd:=by rw [hmu]; exact hgb
    refine L_mb (fun l L=>∃ (mm:HM) (xs:List Int) (C:Nat),MkR mu gl x (mm,xs,0) C∧l=[(7,ptr 2),(10,slB 25 x.length),(11,ptr 26),(12,.int .i64 (objN m).length),(13,.int .i64 1)]∧L=CA (stA mm (pagesH mm) (pagesH mm).length) m gl x .w1 T0 0 1 2 (stG mm (pagesH mm) (pagesH mm).length) [] 0 0 0) ?_ ?_
    ·refine LWp.pick [7,10,11,12,13,14] Y34 rfl rfl rfl (L_loop (fun q l K=>∃ (n:Nat) (kd:Kd) (mm:HM) (t:Ths) (ph a:Int) (ct gn:Nat) (xs:List Int) (j k w:Nat),q=500-n∧ph≠0∧CyI 1 .w1 .m1 mb mu gl (T1 x) (wX x) 1 1 g1 n kd mm t ph a ct gn xs j k w∧l=[(7,ptr 2),(10,slB 25 x.length),(11,ptr 26),(12,.int .i64 (objN m).length),(13,.int .i64 1),(14,.int .i64 n)]∧K=CA mm m gl x kd t ph a ct gn xs j k w) 500 ⟨0,.w1,mb,_,1,1,1,g1,[],0,0,0,rfl,by decide,.wait,rfl,rfl⟩ ?_)
     rintro q _ _ ⟨n,kd,mm,t,ph,a,ct,gn,xs,j,k,w,rfl,hph,h,rfl,rfl⟩
     cases h with
     | wait =>
      have hPh:=cPhase_tr 1 (by omega) .m1 mu (T1 x) 2 0 1 g1 [] 0 0 0
      repeat' (first|refine qN ?_|refine dN ?_|refine dR ?_|refine d0 ?_|refine qB ?_|refine rT ?_|refine qT ?_|refine qU ?_|refine qL ?_|refine qK ?_|refine qF ?_|refine qE ?_|refine iF (fun h=>?_) (fun h=>?_)|refine aX ?_|(refine cW YC (hB) ?_; conv=>whnf)|refine cP YC (hPh) ?_|refine aA ?_|refine aS ?_|refine aI (hn:=?_)|refine aR ?_|refine sP 31 (fun h=>?_) (fun h=>?_)|refine sP 64 (fun h=>?_) (fun h=>?_)|refine sP 75 (fun h=>?_) (fun h=>?_)|refine sP 88 (fun h=>?_) (fun h=>?_)|refine sP 91 (fun h=>?_) (fun h=>?_)|refine sP 100 (fun h=>?_) (fun h=>?_)|refine qR ?_|refine qS ?_|exact ⟨rfl,rfl⟩|fail)
      all_goals first | (exfalso; omega)|exact Nx.pick [7,10,11,12,13,14] Y34 rfl rfl rfl ⟨500-1,by omega,1,.m1,mu,_,2,0,1,g1,[],0,0,0,rfl,by decide,.root (i:=0) (by omega) hM0 (by decide),rfl,rfl⟩
     | @root i mm xs k hi hM hl =>
      have hle:=hM.le
      simp only at hle
      obtain rfl:i=0:=by omega
      have hS:=cStep_root mm gl hM.hi 1 (by omega) true (T1 x) 0 hi 1 g1 xs k 0 hle (by omega) hia (by show x.length≤16; omega)
      have hM':MkR mu gl x (ntA (mm,xs,k) (rOf (T1 x) 0)) 0:=hM.notes (l:=x)
      have hl':(ntA (mm,xs,k) (rOf (T1 x) 0)).2.1.length≤xs.length+x.length:=(le_notes (x:=(mm,xs,k)) (l:=x) hle).2
      rw [if_pos rfl] at hS
      clear hB hM hia
      generalize ntA (mm,xs,k) (rOf (T1 x) 0)=Y at *
      obtain ⟨m',xs',k'⟩:=Y
      simp only at hS hl'
      have hPh:=cPhase_tr 1 (by omega) .m1 m' (T1 x) 3 1 1 g1 xs' 0 k' 0
      repeat' (first|refine qN ?_|refine dN ?_|refine dR ?_|refine d0 ?_|refine qB ?_|refine rT ?_|refine qT ?_|refine qU ?_|refine qL ?_|refine qK ?_|refine qF ?_|refine qE ?_|refine iF (fun h=>?_) (fun h=>?_)|refine aX ?_|(refine cW YC (hS) ?_; conv=>whnf)|refine cP YC (hPh) ?_|refine aA ?_|refine aS ?_|refine aI (hn:=?_)|refine aR ?_|refine sP 31 (fun h=>?_) (fun h=>?_)|refine sP 64 (fun h=>?_) (fun h=>?_)|refine sP 75 (fun h=>?_) (fun h=>?_)|refine sP 88 (fun h=>?_) (fun h=>?_)|refine sP 91 (fun h=>?_) (fun h=>?_)|refine sP 100 (fun h=>?_) (fun h=>?_)|refine qR ?_|refine qS ?_|exact ⟨rfl,rfl⟩|fail)
      all_goals first | (exfalso; omega)|exact Nx.pick [7,10,11,12,13,14] Y34 rfl rfl rfl ⟨500-2,by omega,2,.m1,m',_,3,1,1,g1,xs',0,k',0,rfl,by decide,.mark (c:=0) hM' (by omega),rfl,rfl⟩
     | @mark c0 mm xs k hM hl =>
      obtain ⟨c,rfl⟩:∃ c,c=w:=⟨_,rfl⟩
      have hfew:=hM.few
      have hle:=hM.le
      have hsm:=hM.same
      simp only at hfew hle hsm
      have hg2:mm.mgd=m.mgd:=by rw [hsm,← hg1]
      have hmn:mm.man=mu.man:=by rw [hsm]
      clear hB hia hsm
      cases k with
      | zero =>
       have hS:=cStep_lookno mm hM.hi.toHOk 1 (by omega) true (T1 x) 1 1 g1 xs c
       have e1:=stA_zero mm (pagesH mm)
       have e2:stG mm (pagesH mm) 0=0:=by unfold stG; rw [Nat.zero_min]; rfl
       have hnx:CyI 1 .w1 .m1 mb mu gl (T1 x) (wX x) 1 1 g1 (c+0+3) .s (stA mm (pagesH mm) 0) (T1 x) 4 1 1 g1 (natI (pagesH mm)) 0 (pagesH mm).length (stG mm (pagesH mm) 0):=.sweep (j:=0) (d:=(pagesH mm).length) hM (by omega)
       rw [e1,e2] at hnx
       generalize pagesH mm=ps at *
       have hPh:=cPhase_tr 1 (by omega) .s mm (T1 x) 4 1 1 g1 (natI ps) 0 ps.length 0
       repeat' (first|refine qN ?_|refine dN ?_|refine dR ?_|refine d0 ?_|refine qB ?_|refine rT ?_|refine qT ?_|refine qU ?_|refine qL ?_|refine qK ?_|refine qF ?_|refine qE ?_|refine iF (fun h=>?_) (fun h=>?_)|refine aX ?_|(refine cW YC (hS) ?_; conv=>whnf)|refine cP YC (hPh) ?_|refine aA ?_|refine aS ?_|refine aI (hn:=?_)|refine aR ?_|refine sP 31 (fun h=>?_) (fun h=>?_)|refine sP 64 (fun h=>?_) (fun h=>?_)|refine sP 75 (fun h=>?_) (fun h=>?_)|refine sP 88 (fun h=>?_) (fun h=>?_)|refine sP 91 (fun h=>?_) (fun h=>?_)|refine sP 100 (fun h=>?_) (fun h=>?_)|refine qR ?_|refine qS ?_|exact ⟨rfl,rfl⟩|fail)
       all_goals first | (exfalso; omega)|exact Nx.pick [7,10,11,12,13,14] Y34 rfl rfl rfl ⟨500-(c+3),by omega,c+3,.s,mm,_,4,1,1,g1,natI ps,0,ps.length,0,rfl,by decide,hnx,rfl,rfl⟩
      | succ k =>
       have hg:xs[k]?=some xs[k]:=List.getElem?_eq_getElem (by omega)
       obtain ⟨i0,e,hio,_⟩:=hM.stm xs[k] (by unfold stk; simp only; rw [List.take_succ_eq_append_getElem (by omega)]; exact List.mem_append_right _ (List.mem_singleton.2 rfl))
       rw [e] at hg
       obtain ⟨hio,_⟩:=objN_mem.1 hio
       have hS:=cStep_look mm gl hM.hi 1 (by omega) true (T1 x) 1 1 g1 xs k c i0 hg (by omega) (by omega) (by omega)
       have hM':=hM.step hg
       have hl':=(le_notes (x:=(mm,xs,k)) (l:=refsF mm.bs (16*i0)) (by show k≤xs.length; omega)).2
       have h15:=refsF_len mm.bs (16*i0)
       clear hM
       generalize ntA (mm,xs,k) (refsF mm.bs (16*i0))=Y at *
       obtain ⟨m',xs',k'⟩:=Y
       simp only at hS hl'
       have hPh:=cPhase_tr 1 (by omega) .m1 m' (T1 x) 3 1 1 g1 xs' 0 k' (c+1)
       repeat' (first|refine qN ?_|refine dN ?_|refine dR ?_|refine d0 ?_|refine qB ?_|refine rT ?_|refine qT ?_|refine qU ?_|refine qL ?_|refine qK ?_|refine qF ?_|refine qE ?_|refine iF (fun h=>?_) (fun h=>?_)|refine aX ?_|(refine cW YC (hS) ?_; conv=>whnf)|refine cP YC (hPh) ?_|refine aA ?_|refine aS ?_|refine aI (hn:=?_)|refine aR ?_|refine sP 31 (fun h=>?_) (fun h=>?_)|refine sP 64 (fun h=>?_) (fun h=>?_)|refine sP 75 (fun h=>?_) (fun h=>?_)|refine sP 88 (fun h=>?_) (fun h=>?_)|refine sP 91 (fun h=>?_) (fun h=>?_)|refine sP 100 (fun h=>?_) (fun h=>?_)|refine qR ?_|refine qS ?_|exact ⟨rfl,rfl⟩|fail)
       all_goals first | (exfalso; omega)|exact Nx.pick [7,10,11,12,13,14] Y34 rfl rfl rfl ⟨500-(c+1+2),by omega,c+1+2,.m1,m',_,3,1,1,g1,xs',0,k',c+1,rfl,by decide,.mark (c:=c+1) hM' (by omega),rfl,rfl⟩
     | @sweep mm xs C j0 d0 hM hd =>
      obtain ⟨d,rfl⟩:∃ d,d=k:=⟨_,rfl⟩
      have hfew:=hM.few
      have hsm:=hM.same
      simp only at hfew hsm
      have hg2:mm.mgd=m.mgd:=by rw [hsm,← hg1]
      have hp2:=pagesH_len mm
      clear hB hia hsm
      have hnl:=natI_length (pagesH mm)
      cases d with
      | zero =>
       obtain rfl:j=(pagesH mm).length:=by omega
       have hS:=cStep_cleanno (stA mm (pagesH mm) (pagesH mm).length) 1 (by omega) (T1 x) 1 1 g1 (by omega) (natI (pagesH mm)) (pagesH mm).length (stG mm (pagesH mm) (pagesH mm).length) (by omega)
       have hnx:∃ (mm':HM) (xs':List Int) (C':Nat),MkR mu gl x (mm',xs',0) C'∧stA mm (pagesH mm) (pagesH mm).length=stA mm' (pagesH mm') (pagesH mm').length∧stG mm (pagesH mm) (pagesH mm).length=stG mm' (pagesH mm') (pagesH mm').length:=⟨mm,xs,C,hM,rfl,rfl⟩
       generalize stA mm (pagesH mm) (pagesH mm).length=ma at *
       generalize stG mm (pagesH mm) (pagesH mm).length=ga at *
       generalize pagesH mm=ps at *
       have hPh:=cPhase_tr 1 (by omega) .w1 ma T0 0 1 2 ga [] 0 0 0
       repeat' (first|refine qN ?_|refine dN ?_|refine dR ?_|refine d0 ?_|refine qB ?_|refine rT ?_|refine qT ?_|refine qU ?_|refine qL ?_|refine qK ?_|refine qE ?_|refine iF (fun h=>?_) (fun h=>?_)|refine aX ?_|(refine cW YC (hS) ?_; conv=>whnf)|refine cP YC (hPh) ?_|refine aA ?_|refine aS ?_|refine aI (hn:=?_)|refine aR ?_|refine sP 31 (fun h=>?_) (fun h=>?_)|refine sP 64 (fun h=>?_) (fun h=>?_)|refine sP 75 (fun h=>?_) (fun h=>?_)|refine sP 88 (fun h=>?_) (fun h=>?_)|refine sP 91 (fun h=>?_) (fun h=>?_)|refine sP 100 (fun h=>?_) (fun h=>?_)|refine qR ?_|refine qS ?_|exact ⟨rfl,rfl⟩|fail)
       all_goals try (exfalso; omega)
       obtain ⟨mm',xs',C',hM',e1,e2⟩:=hnx
       show Nx _ _ _ _
       exact Nx.pick [7,10,11,12,13] Y34 rfl rfl rfl ⟨mm',xs',C',hM',rfl,by rw [← e1,← e2]; rfl⟩
      | succ c =>
       have hga:=stG_le hM.hi j
       simp only at hga
       have hS:=cStep_clean (stA mm (pagesH mm) j) gl (stA_hi hM.hi (by simp only; omega)) 1 (by omega) (T1 x) 1 1 g1 (natI (pagesH mm)) (by omega) j c (stG mm (pagesH mm) j) (by omega) (by omega)
       obtain ⟨e1,e2⟩:=stA_next mm (pagesH mm) (n:=j) (by omega)
       rw [← e1,← e2] at hS
       have hnx:CyI 1 .w1 .m1 mb mu gl (T1 x) (wX x) 1 1 g1 (C+(j+1)+3) .s (stA mm (pagesH mm) (j+1)) (T1 x) 4 1 1 g1 (natI (pagesH mm)) (j+1) c (stG mm (pagesH mm) (j+1)):=.sweep hM (by omega)
       clear e1 e2
       generalize stA mm (pagesH mm) (j+1)=mc at *
       generalize stG mm (pagesH mm) (j+1)=gc at *
       generalize stA mm (pagesH mm) j=ma at *
       generalize stG mm (pagesH mm) j=ga at *
       generalize pagesH mm=ps at *
       have hPh:=cPhase_tr 1 (by omega) .s mc (T1 x) 4 1 1 g1 (natI ps) (j+1) c gc
       repeat' (first|refine qN ?_|refine dN ?_|refine dR ?_|refine d0 ?_|refine qB ?_|refine rT ?_|refine qT ?_|refine qU ?_|refine qL ?_|refine qK ?_|refine qF ?_|refine qE ?_|refine iF (fun h=>?_) (fun h=>?_)|refine aX ?_|(refine cW YC (hS) ?_; conv=>whnf)|refine cP YC (hPh) ?_|refine aA ?_|refine aS ?_|refine aI (hn:=?_)|refine aR ?_|refine sP 31 (fun h=>?_) (fun h=>?_)|refine sP 64 (fun h=>?_) (fun h=>?_)|refine sP 75 (fun h=>?_) (fun h=>?_)|refine sP 88 (fun h=>?_) (fun h=>?_)|refine sP 91 (fun h=>?_) (fun h=>?_)|refine sP 100 (fun h=>?_) (fun h=>?_)|refine qR ?_|refine qS ?_|exact ⟨rfl,rfl⟩|fail)
       all_goals first | (exfalso; omega)|exact Nx.pick [7,10,11,12,13,14] Y34 rfl rfl rfl ⟨500-(C+(j+1)+3),by omega,C+(j+1)+3,.s,mc,_,4,1,1,g1,natI ps,j+1,c,gc,rfl,by decide,hnx,rfl,rfl⟩
     | idle=>exact absurd rfl hph
    ·clear hB hM0 h01
     rintro _ _ ⟨mm,xs,C,hM,rfl,rfl⟩
     have hwt:=hag _ _ (MkR.base hM hmu) rfl
     simp only at hwt
     obtain ⟨_,hcnt⟩:=sweep_left hM.hi (n:=(pagesH mm).length) (Nat.le_refl _)
     simp only at hcnt
     rw [hwt] at hcnt
     clear hM hag
     generalize stA mm (pagesH mm) (pagesH mm).length=mf at *
     generalize stG mm (pagesH mm) (pagesH mm).length=g at *
     obtain rfl:g=0:=by omega
     have hGn:=cGone_tr 1 (by omega) .w1 mf T0 0 1 2 0 [] 0 0 0
     repeat' (first|refine qN ?_|refine dN ?_|refine dR ?_|refine d0 ?_|refine qB ?_|refine rT ?_|refine qT ?_|refine qU ?_|refine qL ?_|refine qK ?_|refine qF ?_|refine qE ?_|refine iF (fun h=>?_) (fun h=>?_)|refine aX ?_|refine cP YC (hGn) ?_|refine aA ?_|refine aS ?_|refine aI (hn:=?_)|refine aR ?_|refine sP 31 (fun h=>?_) (fun h=>?_)|refine sP 64 (fun h=>?_) (fun h=>?_)|refine sP 75 (fun h=>?_) (fun h=>?_)|refine sP 88 (fun h=>?_) (fun h=>?_)|refine sP 91 (fun h=>?_) (fun h=>?_)|refine sP 100 (fun h=>?_) (fun h=>?_)|refine qR ?_|refine qS ?_|exact ⟨rfl,rfl⟩|fail)
     all_goals first|exact absurd rfl h | (exfalso; omega)|exact Nx.pick [7,10,11,12,13] Y34 rfl rfl rfl ⟨2-2,by omega,2,.w1,mf,1,2,0,rfl,.r2,rfl,rfl⟩
   | r2=>exfalso; omega
  ·refine Nx.goL ?_
   cases hr with
   | r0=>exfalso; omega
   | r1 _=>exfalso; omega
   | @r2 _ _ =>
    have hCn:=cCount_tr 1 (by omega) .w1 mb T0 0 1 2 gn [] 0 0 0
    repeat' (first|refine qN ?_|refine dN ?_|refine dR ?_|refine d0 ?_|refine qB ?_|refine rT ?_|refine qT ?_|refine qU ?_|refine qL ?_|refine qK ?_|refine qF ?_|refine qE ?_|refine iF (fun h=>?_) (fun h=>?_)|refine aX ?_|refine cP YC (hCn) ?_|refine cP [] (hAw) ?_|refine aA ?_|refine aS ?_|refine aI (hn:=?_)|refine aR ?_|refine sP 31 (fun h=>?_) (fun h=>?_)|refine sP 64 (fun h=>?_) (fun h=>?_)|refine sP 75 (fun h=>?_) (fun h=>?_)|refine sP 88 (fun h=>?_) (fun h=>?_)|refine sP 91 (fun h=>?_) (fun h=>?_)|refine sP 100 (fun h=>?_) (fun h=>?_)|refine qR ?_|refine qS ?_|exact ⟨rfl,rfl⟩|fail)
    all_goals first|exact rfl | (exfalso; omega)
end Go.Proofs.YtdpcccjkncagoaaGreatDoor
end
section
namespace Go.Proofs.YtdpcccjkncagoaaGreatDoor
open Go Go.Tum Go.Tum.Base Go.Deep
theorem CycleAgain_does (w:World) (hw:DoorH (fun _=>False) w) (b:Int) (hb:0≤b∧b<256) {v:Value} {n:Nat} {get:Nat→List Value} (hr:SlIn w 10 v n get)
  (hf:∀ i,i<n→Fits [some .i64,some .i64,some .i64,some .i64,some .i64,some .i64,some .i64,some .u64,some .i64,some .i64] (get i)) {v2:Value} {n2:Nat} {get2:Nat→List Value} (hr2:SlIn w 1 v2 n2 get2) (hf2:∀ i,i<n2→Fits [some .i64] (get2 i)) :
  Does Tryz.prog 12 #[.int .u8 b,v,v2] w fun v w'=>v=.bool true∧Fr (fun _=>False) w w':=by
 obtain ⟨op,hop⟩:=ops18_in hf
 obtain ⟨wa,hwa⟩:=choose_lt (n:=n2) (p:=fun i (x:Int)=>get2 i=[.int .i64 x]∧inI x) fun i hi=>int_in (hf2 i hi)
 obtain ⟨hn,x,hr⟩:=hr
 obtain ⟨hn2,y,hr2⟩:=hr2
 obtain ⟨h1,h2⟩:=hr [x,y] 0 rfl
 obtain ⟨h3,h4⟩:=hr2 [x,y] 1 rfl
 exact (CycleAgain_tr b hb n hn get op hop n2 hn2 get2 wa hwa).law (vs':=[.int .u8 b,v,v2]) [x,y] w rfl (by
  intro z hz
  rcases List.mem_cons.1 hz with rfl | hz
  ·exact ⟨rfl,h2⟩
  ·cases List.mem_singleton.1 hz; exact ⟨rfl,h4⟩) ⟨rfl,h1,h3,trivial⟩ (DoorH.tab hw)
end Go.Proofs.YtdpcccjkncagoaaGreatDoor
end
