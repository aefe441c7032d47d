/-
  What the proof leans on, part 7: of the texts HeapP, StepM, SweepM, RegC, GheapC, GheapD, GheapE, GheapF, RefE, LawU, SweepC, SweepR, RefI, RefJ, GheapN, LawC, LawE, SweepN, LawS, LawT, LawV, LawM, LawQ, Lw18, Awake, SweepPlays, Lw19.
-/
import Derived.Test.YthmdialagibpfaaGreatDoorPkF
set_option linter.unusedVariables false
set_option linter.unusedSimpArgs false
set_option linter.unusedSectionVars false
section
namespace Go.Tum.Base
open Go Go.Tum Go.Proofs.YthmdialagibpfaaGreatDoor
theorem pAt_lay {rs:PRows} {a M:Nat} {r:PRow} (h:a+M≤rs.length) (hM:1≤M) (i:Nat):pAt (layP rs a r M) i=if i=a then r else if a<i∧i<a+M then tailP else pAt rs i:=by
 have e:(rs.take a++(r::List.replicate (M-1) tailP)).length=a+M:=by simp; omega
 have e2:(rs.take a).length=a:=by simp; omega
 rw [pAt_nat,pAt_nat,List.getD_eq_getElem?_getD,List.getD_eq_getElem?_getD,layP]
 by_cases h2:i<a+M
 ·rw [List.getElem?_append_left (by omega)]
  by_cases h1:i<a
  ·rw [if_neg (by omega),if_neg (by omega),List.getElem?_append_left (by omega),List.getElem?_take_of_lt h1]
  ·rw [List.getElem?_append_right (by omega),e2]
   by_cases h3:i=a
   ·subst h3; rw [if_pos rfl,Nat.sub_self]; rfl
   ·rw [if_neg h3,if_pos ⟨by omega,by omega⟩]
    obtain ⟨d,rfl⟩:∃ d,i=a+d+1:=⟨i-a-1,by omega⟩
    rw [show a+d+1-a=d+1 by omega,List.getElem?_cons_succ,List.getElem?_replicate,if_pos (by omega)]; rfl
 ·rw [if_neg (by omega),if_neg (by omega),List.getElem?_append_right (by omega),List.getElem?_drop,e,show a+M+(i-(a+M))=i by omega]
theorem pAt_clear {rs:PRows} {a M:Nat} (h:a+M≤rs.length) (i:Nat):pAt (clearP rs a M) i=if a≤i∧i<a+M then PRow.Z else pAt rs i:=by
 have e:(rs.take a++List.replicate M PRow.Z).length=a+M:=by simp; omega
 have e2:(rs.take a).length=a:=by simp; omega
 rw [pAt_nat,pAt_nat,List.getD_eq_getElem?_getD,List.getD_eq_getElem?_getD,clearP]
 by_cases h2:i<a+M
 ·rw [List.getElem?_append_left (by omega)]
  by_cases h1:i<a
  ·rw [if_neg (by omega),List.getElem?_append_left (by omega),List.getElem?_take_of_lt h1]
  ·rw [List.getElem?_append_right (by omega),e2,if_pos ⟨by omega,h2⟩,List.getElem?_replicate,if_pos (by omega)]; rfl
 ·rw [if_neg (by omega),List.getElem?_append_right (by omega),List.getElem?_drop,e,show a+M+(i-(a+M))=i by omega]
theorem free_kind {rs:PRows} {i:Nat} (h:freeP (rs.getD i PRow.Z)=true):pAt rs i=PRow.Z:=by rw [pAt_nat]; exact of_decide_eq_true h
theorem bitAt_zero (n i:Nat):bitAt (List.replicate n 0) i=false:=by
 unfold bitAt
 rw [List.getD_eq_getElem?_getD,List.getElem?_replicate]
 split <;> simp
theorem HOk.bytes {m:HM} (hm:HOk m) {bs:Bytes} (h:bs.length=m.bs.length):HOk { m with bs:=bs }:=⟨hm.n1,h.trans hm.nb,hm.nr,hm.lh,hm.lm,hm.row,hm.obj,hm.mrk,hm.mhi⟩
theorem HOk.freed {m:HM} (hm:HOk m) {i:Nat} (hi:i<16*(m.man+m.mgd)) (h:bitAt m.hw i=true):HOk (freeM m i):=by
 have hlh:=hm.lh
 have hlm:=hm.lm
 have hnb:=hm.nb
 obtain ⟨c,hc,hcl,hr⟩:=obj_room hm hi h
 have e:(pAt m.rs (i / 16:Nat)).cls.toNat=c:=by rw [hcl]; rfl
 refine ⟨hm.n1,?_,hm.nr,?_,?_,hm.row,fun j hj hb=>?_,fun j hj hb=>?_,fun j hj=>?_⟩
 ·show (overB _ _ _).length=_
  rw [overB_length (by rw [List.length_replicate,e]; omega)]; exact hnb
 ·show (putBit _ _ _).length=_; rw [putBit_length]; exact hlh
 ·show (putBit _ _ _).length=_; rw [putBit_length]; exact hlm
 ·change bitAt (putBit m.hw i false) j=true at hb
  rw [bitAt_put false (by omega)] at hb
  split at hb
  ·cases hb
  ·exact hm.obj j hj hb
 ·change bitAt (putBit m.mw i false) j=true at hb
  change bitAt (putBit m.hw i false) j=true
  rw [bitAt_put false (by omega)] at hb ⊢
  split at hb
  ·cases hb
  ·rename_i hne; rw [if_neg hne]; exact hm.mrk j hj hb
 ·change bitAt (putBit m.mw i false) j=false
  rw [bitAt_put false (by omega)]
  split
  ·rfl
  ·exact hm.mhi j hj
theorem HOk.marked {m:HM} (hm:HOk m) {i:Nat} (hi:i<16*(m.man+m.mgd)) (h:bitAt m.hw i=true):HOk (markM m i):=by
 have hlm:=hm.lm
 refine ⟨hm.n1,hm.nb,hm.nr,hm.lh,?_,hm.row,hm.obj,fun j hj hb=>?_,fun j hj=>?_⟩
 ·show (putBit _ _ _).length=_; rw [putBit_length]; exact hlm
 ·change bitAt (putBit m.mw i true) j=true at hb
  rw [bitAt_put true (by omega)] at hb
  split at hb
  ·rename_i e; subst e; exact h
  ·exact hm.mrk j hj hb
 ·change bitAt (putBit m.mw i true) j=false
  change 16*(m.man+m.mgd)≤j at hj
  rw [bitAt_put true (by omega),if_neg (by omega)]
  exact hm.mhi j hj
theorem HOk.unmarked {m:HM} (hm:HOk m):HOk (unmarkM m):=by
 refine ⟨hm.n1,hm.nb,hm.nr,hm.lh,?_,hm.row,hm.obj,fun j _ hb=>?_,fun j _=>bitAt_zero _ _⟩
 ·exact List.length_replicate
 ·change bitAt (List.replicate _ 0) j=true at hb
  rw [bitAt_zero] at hb; cases hb
theorem inH_nil {m:HM} {p:Nat} (h:inH m p=[]) {i:Nat} (hi:i<16*(m.man+m.mgd)) (hb:bitAt m.hw i=true):i / 16≠p:=by
 intro e
 have:((16*i:Nat):Int)∈inH m p:=by
  unfold inH objI
  rw [List.mem_filter,List.mem_map]
  exact ⟨⟨i,objN_mem.2 ⟨hi,hb⟩,rfl⟩,decide_eq_true (by omega)⟩
 rw [h] at this; cases this
theorem HOk.tidied {m:HM} (hm:HOk m) {p:Nat} (h:mgP m.rs p=true) (h2:inH m p=[]):HOk (tidyM m p):=by
 have hnr:=hm.nr
 have hp:p<m.rs.length:=by
  obtain ⟨q,h1,h2,_⟩:=mgP_in h
  omega
 have hg:∀ i:Nat,pAt (tidyM m p).rs i=if i=p then PRow.Z else pAt m.rs i:=fun i=>by
  show pAt (clearP m.rs p 1) i=_
  rw [pAt_clear (by omega)]
  by_cases e:i=p
  ·rw [if_pos (by omega),if_pos e]
  ·rw [if_neg (by omega),if_neg e]
 refine ⟨hm.n1,hm.nb,?_,hm.lh,hm.lm,fun i hk=>?_,fun i hi hb=>?_,hm.mrk,hm.mhi⟩
 ·show (clearP _ _ _).length=_; rw [clearP_length (by omega)]; exact hnr
 ·rw [hg] at hk ⊢
  by_cases e:i=p
  ·rw [if_pos e] at hk; exact absurd hk (by decide)
  ·rw [if_neg e] at hk ⊢; exact hm.row i hk
 ·rw [hg,if_neg (inH_nil h2 hi hb)]
  exact hm.obj i hi hb
structure LayAt (m:HM) (c a:Nat) (pg:Option Nat):Prop where
 a16:a % 16=0
 lo:256*m.man≤a
 room:a+szC c≤256*(a / 256+1)
 hi:a / 256<m.man+m.mgd
 slot:a % 256 % szC c=0
 free:bitAt m.hw (a / 16)=false
 page:match pg with
  | none=>(pAt m.rs (a / 256:Nat)).kind=4∧(pAt m.rs (a / 256:Nat)).cls=c
  | some A=>A=a / 256∧a=256*A∧pAt m.rs A=PRow.Z
theorem bits_free {m:HM} (hm:HOk m) {A:Nat} (hA:A<m.man+m.mgd) (h:pAt m.rs A=PRow.Z) {i:Nat} (hi:i / 16=A):bitAt m.hw i=false:=by
 cases hb:bitAt m.hw i
 ·rfl
 ·have:=(hm.obj i (by omega) hb).1
  rw [hi,h] at this
  exact absurd this (by decide)
theorem LayAt.inp {m:HM} (_:HOk m) {c a:Nat} (h:placeH m.rs m.hw c m.mgd m.man=some a):LayAt m c a none:=by
 obtain ⟨q,j,h1,h2,h3,h4,h5,h6⟩:=placeH_some h
 have h3':=of_decide_eq_true h3
 have h0:(j+1)*szC c≤256:=Nat.le_trans (Nat.mul_le_mul_right _ h4) (Nat.div_mul_le_self _ _)
 have hz:=szC_cases c
 have hq:a / 256=q:=by subst h5; rcases hz with e | e | e | e <;> rw [e] at h0 ⊢ <;> omega
 have hm2:a % 256=szC c*j:=by subst h5; rcases hz with e | e | e | e <;> rw [e] at h0 ⊢ <;> omega
 have hm3:szC c*j+szC c≤256:=by rw [Nat.mul_comm,← Nat.succ_mul]; exact h0
 refine ⟨?_,by omega,by omega,by omega,?_,h6,?_⟩
 ·subst h5; rcases hz with e | e | e | e <;> rw [e] at h0 ⊢ <;> omega
 ·rw [hm2]; exact Nat.mul_mod_right _ _
 ·rw [hq]; exact h3'
theorem LayAt.new {m:HM} (hm:HOk m) {c A:Nat} (h:placeP m.rs 1 m.mgd m.man 0=some (A:Int)):LayAt m c (256*A) (some A):=by
 obtain ⟨A',h1,h2,h3,h4⟩:=placeP_nat h
 obtain rfl:A=A':=by omega
 have hf:=free_kind h4
 have hz:=szC_cases c
 refine ⟨by omega,by omega,by omega,by omega,?_,bits_free hm (by omega) hf (by omega),by omega,rfl,hf⟩
 rw [Nat.mul_mod_right]; rfl
theorem LayAt.A {m:HM} {c a A:Nat} (h:LayAt m c a (some A)):A=a / 256:=h.page.1
theorem LayAt.rows {m:HM} (hm:HOk m) {r n:Int} {a:Nat} {pg:Option Nat} (h:LayAt m (cOf r n) a pg) (i:Nat):pAt (allocM m a pg r n).rs i=if pg=some i then mrow (cOf r n) else pAt m.rs i:=by
 have hnr:=hm.nr
 have hhi:=h.hi
 cases pg with
 | none=>rfl
 | some A =>
  have:=h.A
  show pAt (layP m.rs A _ 1) i=_
  rw [pAt_lay (by omega) (by omega)]
  by_cases e:i=A
  ·subst e; rw [if_pos rfl,if_pos rfl]
  ·rw [if_neg e,if_neg (by omega),if_neg (by intro e2; exact e (Option.some.inj e2).symm)]
theorem LayAt.own {m:HM} (hm:HOk m) {r n:Int} {a:Nat} {pg:Option Nat} (h:LayAt m (cOf r n) a pg):(pAt (allocM m a pg r n).rs (a / 256:Nat)).kind=4∧(pAt (allocM m a pg r n).rs (a / 256:Nat)).cls=cOf r n:=by
 rw [h.rows hm]
 cases pg with
 | none=>exact h.page
 | some A=>rw [if_pos (by rw [h.A])]; exact ⟨rfl,rfl⟩
theorem HOk.alloced {m:HM} (hm:HOk m) {r n:Int} (hs:shOk r n=true) {a:Nat} {pg:Option Nat} (h:LayAt m (cOf r n) a pg):HOk (allocM m a pg r n):=by
 have hnr:=hm.nr
 have hnb:=hm.nb
 have hlh:=hm.lh
 have hhi:=h.hi
 have hlo:=h.lo
 have hroom:=h.room
 have h16:=h.a16
 have hcr:=cOf_room hs
 have hR:=h.rows hm
 have hdiv:a / 16 / 16=a / 256:=by omega
 have hz:=szC_cases (cOf r n)
 refine ⟨hm.n1,?_,?_,?_,hm.lm,fun i hk=>?_,fun i hi hb=>?_,fun i hi hb=>?_,hm.mhi⟩
 ·show (madeO _ _ _ _).length=_
  rw [madeO_length hs (by omega)]; exact hnb
 ·cases pg with
  | none=>exact hnr
  | some A=>have:=h.A; show (layP _ _ _ _).length=_; rw [layP_length (by omega) (by omega)]; exact hnr
 ·show (putBit _ _ _).length=_; rw [putBit_length]; exact hlh
 ·rw [hR] at hk ⊢
  split
  ·rename_i e
   subst e
   have:=h.A
   exact ⟨by show m.man≤i; omega,⟨cOf r n,cOf_ok.2,rfl⟩,rfl⟩
  ·rename_i e; rw [if_neg e] at hk; exact hm.row i hk
 ·change bitAt (putBit m.hw (a / 16) true) i=true at hb
  change i<16*(m.man+m.mgd) at hi
  rw [bitAt_put true (by omega)] at hb
  by_cases e:i=a / 16
  ·subst e
   rw [hdiv]
   refine ⟨(h.own hm).1,cOf r n,cOf_ok.2,(h.own hm).2,?_⟩
   have:=h.slot
   rw [show 16*(a / 16 % 16)=a % 256 by omega]; exact this
  ·rw [if_neg e] at hb
   have ho:=hm.obj i hi hb
   rw [hR,if_neg]
   ·exact ho
   ·intro e2
    subst e2
    have hp:=h.page
    simp only at hp
    rw [hp.2.2] at ho
    exact absurd ho.1 (by decide)
 ·have h1:=hm.mrk i hi hb
  show bitAt (putBit m.hw (a / 16) true) i=true
  change i<16*(m.man+m.mgd) at hi
  rw [bitAt_put true (by omega)]
  split
  ·rfl
  ·exact h1
def greatM (m:HM) (A M:Nat) (n:Int):HM:={ m with bs:=madeB (keyW 1#64) m.bs A M,rs:=layP m.rs A (lrow M) M,G:=gput m.G A n m.c,c:=m.c+1 }
theorem HOk.greated {m:HM} (hm:HOk m) {A M:Nat} (n:Int) (hM:1≤M) (hA:A+M≤m.man) (hf:∀ i,A≤i→i<A+M→pAt m.rs i=PRow.Z):HOk (greatM m A M n):=by
 have hnr:=hm.nr
 have hnb:=hm.nb
 have hR:∀ i:Nat,pAt (greatM m A M n).rs i=if i=A then lrow M else if A<i∧i<A+M then tailP else pAt m.rs i:=fun i=>pAt_lay (by omega) hM i
 refine ⟨hm.n1,?_,?_,hm.lh,hm.lm,fun i hk=>?_,fun i hi hb=>?_,hm.mrk,hm.mhi⟩
 ·show (madeB _ _ _ _).length=_; rw [madeB_length (by omega) hM]; exact hnb
 ·show (layP _ _ _ _).length=_; rw [layP_length (by omega) hM]; exact hnr
 ·rw [hR] at hk ⊢
  split
  ·rename_i e; rw [if_pos e] at hk; exact absurd hk (by simp [lrow])
  ·rename_i e; rw [if_neg e] at hk
   split
   ·rename_i e2; rw [if_pos e2] at hk; exact absurd hk (by simp [tailP])
   ·rename_i e2; rw [if_neg e2] at hk; exact hm.row i hk
 ·have ho:=hm.obj i hi hb
  have hlo:=(hm.row _ ho.1).1
  rw [hR,if_neg (by omega),if_neg (by omega)]
  exact ho
structure GIk (m:HM) (gl:List Gb):Prop where
 gok:GOk m.G m.c
 gs:∀ x∈m.G,0≤x.1∧greatC x.2.1=true∧x.1+pagesC x.2.1≤m.man∧∀ i:Nat,x.1≤i→(i:Int)<x.1+pagesC x.2.1→(pAt m.rs i).kind=2∨(pAt m.rs i).kind=3
 ls:∀ x∈gl,0≤x.1∧greatC x.2=true∧x.1+pagesC x.2≤m.man∧∀ i:Nat,x.1≤i→(i:Int)<x.1+pagesC x.2→(pAt m.rs i).kind=2∨(pAt m.rs i).kind=3
 lp:gl.Pairwise fun x y=>x.1<y.1
theorem GIk.mono {m m':HM} {gl:List Gb} (h:GIk m gl) (e1:m'.G=m.G) (e2:m'.c=m.c) (e3:m'.man=m.man) (hr:∀ i:Nat,(pAt m.rs i).kind=2∨(pAt m.rs i).kind=3→pAt m'.rs i=pAt m.rs i):GIk m' gl:=by
 refine ⟨by rw [e1,e2]; exact h.gok,fun x hx=>?_,fun x hx=>?_,h.lp⟩
 ·rw [e1] at hx
  obtain ⟨h1,h2,h3,h4⟩:=h.gs x hx
  exact ⟨h1,h2,by rw [e3]; exact h3,fun i hi hi2=>by rw [hr i (h4 i hi hi2)]; exact h4 i hi hi2⟩
 ·obtain ⟨h1,h2,h3,h4⟩:=h.ls x hx
  exact ⟨h1,h2,by rw [e3]; exact h3,fun i hi hi2=>by rw [hr i (h4 i hi hi2)]; exact h4 i hi hi2⟩
theorem GIk.small {m:HM} {gl:List Gb} (h:GIk m gl) (hn:m.man≤256):Small m.G 256:=fun x hx=>by
 obtain ⟨h1,h2,h3,_⟩:=h.gs x hx
 exact ⟨h1,h2,by omega⟩
theorem GIk.meets {m:HM} {gl:List Gb} (h:GIk m gl) {A M:Nat} (hM:1≤M) (hf:∀ i,A≤i→i<A+M→pAt m.rs i=PRow.Z):meetsG m.G A M=false:=by
 unfold meetsG
 rw [List.any_eq_false]
 intro x hx hd
 obtain ⟨h1,h2,h3,h4⟩:=h.gs x hx
 have hd:=of_decide_eq_true hd
 obtain ⟨k,hk⟩:=Int.eq_ofNat_of_zero_le h1
 have hi:∃ i:Nat,A≤i∧i<A+M∧x.1≤i∧(i:Int)<x.1+pagesC x.2.1:=by
  by_cases e:A≤k
  ·obtain ⟨P,hP,hP1,_⟩:=greatC_pages h2
   exact ⟨k,e,by omega,by omega,by omega⟩
  ·exact ⟨A,by omega,by omega,by omega,by omega⟩
 obtain ⟨i,i1,i2,i3,i4⟩:=hi
 have:=h4 i i3 i4
 rw [hf i i1 i2] at this
 exact absurd this (by decide)
theorem GIk.apart {m:HM} {gl:List Gb} (h:GIk m gl) {A M:Nat} (hf:∀ i,A≤i→i<A+M→pAt m.rs i=PRow.Z):∀ x∈gl,∀ i:Nat,i<M→(A:Int)+i<x.1∨x.1+pagesC x.2≤(A:Int)+i:=by
 intro x hx i hi
 obtain ⟨h1,h2,h3,h4⟩:=h.ls x hx
 by_cases e:(A:Int)+i<x.1∨x.1+pagesC x.2≤(A:Int)+i
 ·exact e
 ·have:=h4 (A+i) (by omega) (by omega)
  rw [hf _ (by omega) (by omega)] at this
  exact absurd this (by decide)
theorem pair_len:∀ {gl:List Gb} {b:Int},gl.Pairwise (fun x y=>x.1<y.1)→(∀ x∈gl,b≤x.1∧x.1<256)→(gl.length:Int)≤max 0 (256-b)
 | [],b,_,_=>by simp; omega
 | x::r,b,hp,hb=>by
  have h1:=hb x (List.mem_cons_self ..)
  have h2:=pair_len (gl:=r) (b:=x.1+1) (List.pairwise_cons.1 hp).2 fun y hy=>by
   have:=(List.pairwise_cons.1 hp).1 y hy
   have:=(hb y (List.mem_cons_of_mem _ hy)).2
   omega
  rw [List.length_cons]
  omega
theorem GIk.llen {m:HM} {gl:List Gb} (h:GIk m gl) (hn:m.man≤256):gl.length≤256:=by
 have:=pair_len (b:=0) h.lp fun x hx=>by
  obtain ⟨h1,h2,h3,_⟩:=h.ls x hx
  obtain ⟨P,hP,hP1,_⟩:=greatC_pages h2
  omega
 omega
theorem GIk.greated {m:HM} (hm:HOk m) {gl:List Gb} (h:GIk m gl) {A M:Nat} {n:Int} (hn:greatC n=true) (hMn:pagesC n=M) (hM:1≤M) (hA:A+M≤m.man) (hf:∀ i,A≤i→i<A+M→pAt m.rs i=PRow.Z):GIk (greatM m A M n) (glPut gl A n):=by
 have hnr:=hm.nr
 have hn1:=hm.n1
 have hR:∀ i:Nat,pAt (greatM m A M n).rs i=if i=A then lrow M else if A<i∧i<A+M then tailP else pAt m.rs i:=fun i=>pAt_lay (by omega) hM i
 have hk:∀ i:Nat,(pAt m.rs i).kind=2∨(pAt m.rs i).kind=3→pAt (greatM m A M n).rs i=pAt m.rs i:=fun i hi=>by
  have:¬ (A≤i∧i<A+M):=fun e=>by rw [hf i e.1 e.2] at hi; exact absurd hi (by decide)
  rw [hR,if_neg (by omega),if_neg (by omega)]
 have hno:=no_find (h.small (by omega)) hn (by rw [hMn]; exact h.meets hM hf)
 have hnew:0≤(A:Int)∧greatC n=true∧(A:Int)+pagesC n≤m.man∧∀ i:Nat,(A:Int)≤i→(i:Int)<A+pagesC n→(pAt (greatM m A M n).rs i).kind=2∨(pAt (greatM m A M n).rs i).kind=3:=by
  refine ⟨by omega,hn,by omega,fun i i1 i2=>?_⟩
  rw [hR]
  by_cases e:i=A
  ·rw [if_pos e]; exact .inl rfl
  ·rw [if_neg e,if_pos (by omega)]; exact .inr rfl
 refine ⟨h.gok.put hno,fun x hx=>?_,fun x hx=>?_,?_⟩
 ·change x∈m.G++[((A:Int),n,m.c)] at hx
  rcases List.mem_append.1 hx with hx | hx
  ·obtain ⟨h1,h2,h3,h4⟩:=h.gs x hx
   exact ⟨h1,h2,h3,fun i i1 i2=>by rw [hk i (h4 i i1 i2)]; exact h4 i i1 i2⟩
  ·cases List.mem_singleton.1 hx; exact hnew
 ·unfold glPut at hx
  have hold:x∈gl→_:=fun hx=>by
   obtain ⟨h1,h2,h3,h4⟩:=h.ls x hx
   exact (⟨h1,h2,h3,fun i i1 i2=>by rw [hk i (h4 i i1 i2)]; exact h4 i i1 i2⟩:0≤x.1∧greatC x.2=true∧x.1+pagesC x.2≤m.man∧∀ i:Nat,x.1≤i→(i:Int)<x.1+pagesC x.2→(pAt (greatM m A M n).rs i).kind=2∨(pAt (greatM m A M n).rs i).kind=3)
  rcases List.mem_append.1 hx with hx | hx
  ·exact hold (List.mem_filter.1 hx).1
  ·rcases List.mem_cons.1 hx with hx | hx
   ·subst hx; exact hnew
   ·exact hold (List.mem_filter.1 hx).1
 ·unfold glPut
  rw [List.pairwise_append]
  refine ⟨h.lp.filter _,List.pairwise_cons.2 ⟨fun y hy=>of_decide_eq_true (List.mem_filter.1 hy).2,h.lp.filter _⟩,fun x hx y hy=>?_⟩
  have hx:=of_decide_eq_true (List.mem_filter.1 hx).2
  rcases List.mem_cons.1 hy with e | e
  ·subst e; exact hx
  ·have:=of_decide_eq_true (List.mem_filter.1 e).2
   omega
theorem GIk.tidied {m:HM} (hm:HOk m) {gl:List Gb} (h:GIk m gl) {p:Nat} (hp:mgP m.rs p=true):GIk (tidyM m p) gl:=by
 have hp2:p<m.rs.length:=by obtain ⟨q,h1,h2,_⟩:=mgP_in hp; omega
 refine h.mono rfl rfl rfl fun i hi=>?_
 show pAt (clearP m.rs p 1) i=_
 rw [pAt_clear (by omega),if_neg]
 intro e
 obtain rfl:i=p:=by omega
 have:=of_decide_eq_true hp
 omega
theorem GIk.alloced {m:HM} (hm:HOk m) {gl:List Gb} (h:GIk m gl) {r n:Int} {a:Nat} {pg:Option Nat} (hl:LayAt m (cOf r n) a pg):GIk (allocM m a pg r n) gl:=by
 refine h.mono rfl rfl rfl fun i hi=>?_
 rw [hl.rows hm,if_neg]
 intro e
 subst e
 have hp:=hl.page
 simp only at hp
 rw [hp.2.2] at hi
 exact absurd hi (by decide)
theorem digs_sum:∀ (n x:Nat),(digs n x).sum=((List.range n).filter fun i=>Nat.testBit x i).length
 | 0,x=>rfl
 | n+1,x=>by
  have e:(List.range n).filter ((fun i=>Nat.testBit x i) ∘ Nat.succ)=(List.range n).filter fun i=>Nat.testBit (x / 2) i:=List.filter_congr fun i _=>by
   show Nat.testBit x (i+1)=_
   rw [Nat.testBit_succ]
  rw [digs,List.sum_cons,digs_sum n (x / 2),List.range_succ_eq_map,List.filter_cons,List.filter_map,Nat.testBit_zero,e]
  split
  ·rename_i h
   rw [of_decide_eq_true h,List.length_cons,List.length_map]; omega
  ·rename_i h
   have:x % 2=0:=by
    have:=of_decide_eq_false (by simpa using h:decide (x % 2=1)=false)
    omega
   rw [this,List.length_map]; omega
theorem popN_bits (w:BitVec 64):popN w.toNat=((List.range 64).filter fun i=>w.getLsbD i).length:=digs_sum 64 w.toNat
theorem cntW_bits (ws:Words):∀ k,cntW ws k=((List.range' 0 (64*k)).filter (bitAt ws)).length
 | 0=>rfl
 | k+1=>by
  have e:(List.range' (0+64*k) 64).filter (bitAt ws)=((List.range 64).filter fun i=>(ws.getD k 0).getLsbD i).map fun i=>64*k+i:=by
   rw [List.range'_eq_map_range,List.filter_map,Nat.zero_add]
   congr 1
   apply List.filter_congr
   intro i hi
   have:=List.mem_range.1 hi
   show bitAt ws (64*k+i)=_
   unfold bitAt
   rw [show (64*k+i) / 64=k by omega,show (64*k+i) % 64=i by omega]
  rw [cntW,cntW_bits ws k,popN_bits,show 64*(k+1)=64*k+64 by omega,← List.range'_append_1,List.filter_append,List.length_append,e,List.length_map]
theorem cnt_marks {m:HM} (hm:HOk m):cntW m.mw m.mw.length=markN (obs m):=by
 have hlm:=hm.lm
 rw [cntW_bits,markN,obs,List.filter_map,List.length_map]
 show _=((objN m).filter fun i=>bitAt m.mw i).length
 unfold objN allF
 rw [List.filter_filter]
 rw [show 64*m.mw.length=16*(m.man+m.mgd)+(64*m.mw.length-16*(m.man+m.mgd)) by omega,← List.range'_append_1,List.filter_append]
 have e:(List.range' (0+16*(m.man+m.mgd)) (64*m.mw.length-16*(m.man+m.mgd))).filter (bitAt m.mw)=[]:=by
  rw [List.filter_eq_nil_iff]
  intro x hx
  rw [List.mem_range'] at hx
  obtain ⟨j,hj,rfl⟩:=hx
  rw [hm.mhi _ (by omega)]; decide
 rw [e,List.append_nil]
 congr 1
 apply List.filter_congr
 intro x hx
 rw [List.mem_range'] at hx
 obtain ⟨j,hj,rfl⟩:=hx
 cases hb:bitAt m.mw (0+1*j)
 ·simp
 ·rw [hm.mrk _ (by omega) hb]; rfl
end Go.Tum.Base
end
section
namespace Go.Tum.Base
open Go Go.Tum Go.Proofs.YthmdialagibpfaaGreatDoor
structure Op18 where
 kind:Int
 which:Int
 at_:Int
 page:Int
 k:Int
 to:Int
 n:Int
 v:BitVec 64
 r:Int
 s:Int
def Op18.cells (o:Op18):List Value:=[.int .i64 o.kind,.int .i64 o.which,.int .i64 o.at_,.int .i64 o.page,.int .i64 o.k,.int .i64 o.to,.int .i64 o.n,.int .u64 (o.v.toNat:Int),.int .i64 o.r,.int .i64 o.s]
def inI (a:Int):Prop := -9223372036854775808≤a∧a≤9223372036854775807
def Op18.In (o:Op18):Prop:=inI o.at_∧inI o.to∧inI o.page∧inI o.which∧inI o.k∧inI o.n
def atP (m:HM) (w a:Int):Int:=if 0≤w∧w<((obs m).length:Int) then ((obs m).getD w.toNat (0,false)).1 else a
def layF (m:HM) (c:Nat):Option (Nat × Option Nat):=match placeH m.rs m.hw c m.mgd m.man with
 | some a=>some (a,none)
 | none=>match placeP m.rs 1 m.mgd m.man 0 with
  | some A=>some (256*A.toNat,some A.toNat)
  | none=>none
theorem layF_some {m:HM} (hm:HOk m) {c a:Nat} {pg:Option Nat} (h:layF m c=some (a,pg)):LayAt m c a pg:=by
 unfold layF at h
 split at h
 ·rename_i x hx; cases h; exact LayAt.inp hm hx
 ·split at h
  ·rename_i A hA
   obtain ⟨A',h1,_⟩:=placeP_nat hA
   subst h1
   cases h
   exact LayAt.new hm hA
  ·cases h
def allocR (m:HM) (r n:Int):Int × Int × HM:=if shOk r n then (match layF m (cOf r n) with
 | some x=>((x.1:Int),0,allocM m x.1 x.2 r n)
 | none=>(0,5,m)) else (0,1,m)
def freeR (m:HM) (a:Int):HM:=if hasH m a then freeM m (a.toNat / 16) else m
def markR (m:HM) (a:Int):HM:=if hasH m a && !bitAt m.mw (a.toNat / 16) then markM m (a.toNat / 16) else m
def tidyR (m:HM) (a:Int):HM:=if mgP m.rs a∧inH m a=[] then tidyM m a.toNat else m
def tidyE (m:HM) (a:Int):Int:=if mgP m.rs a then (if inH m a=[] then 0 else 8) else 6
def greatR (m:HM) (gl:List Gb) (n:Int):Int × Int × HM × List Gb:=if greatC n then (match placeP m.rs (pagesC n) m.man 0 0 with
 | some A=>(256*A,0,greatM m A.toNat (pagesC n).toNat n,glPut gl A n)
 | none=>(0,5,m,gl)) else (0,1,m,gl)
def wrM (m:HM) (bs:Bytes):HM:={ m with bs:=bs }
def setR (m:HM) (o:Op18):HM:=if hasH m (atP m o.which o.at_) then wrM m (if o.kind=7 then setRefB m.bs (atP m o.which o.at_).toNat o.k (atP m o.to (-1)) else setNumB m.bs (atP m o.which o.at_).toNat o.k o.v) else m
def wordR (m:HM) (a:Int) (v:BitVec 64):HM:=if errW m.bs.length a=0 then wrM m (overB m.bs a.toNat (putB v 8)) else m
def stepM (m:HM) (gl:List Gb) (o:Op18) (others:Bool):HM × List Gb :=
 if o.kind=0∨o.kind=1∨o.kind=2 then ((allocR m o.r o.s).2.2,gl)
 else if o.kind=3 then (freeR m (atP m o.which o.at_),gl)
 else if o.kind=4 then (markR m (atP m o.which o.at_),gl)
 else if o.kind=5 then (unmarkM m,gl)
 else if o.kind=6 then (tidyR m o.page,gl)
 else if o.kind=7∨o.kind=8 then (setR m o,gl)
 else if o.kind=9 then ((greatR m gl o.n).2.2.1,(greatR m gl o.n).2.2.2)
 else if o.kind=10 then ((if others then wordR m o.at_ o.v else m),gl)
 else (m,gl)
structure HI (m:HM) (gl:List Gb):Prop extends HOk m where
 gi:GIk m gl
 m1:1≤m.man
theorem HI.b0 {m:HM} {gl:List Gb} (h:HI m gl):1≤m.bs.length∧m.bs.length≤65536:=by
 have:=h.nb
 have:=h.n1
 have:=h.m1
 omega
theorem setRefB_length {bs:Bytes} {i:Nat} {k to:Int}:(setRefB bs i k to).length=bs.length:=by
 unfold setRefB
 split
 ·rename_i r n hh
  obtain ⟨h1,h2,h3,h4⟩:=headF_some hh
  split
  ·rename_i hc
   exact overB_length (by rw [putB_length]; omega)
  ·rfl
 ·rfl
theorem setNumB_length {bs:Bytes} {i:Nat} {k:Int} {v:BitVec 64}:(setNumB bs i k v).length=bs.length:=by
 unfold setNumB
 split
 ·rename_i r n hh
  obtain ⟨h1,h2,h3,h4⟩:=headF_some hh
  split
  ·rename_i hc
   exact overB_length (by rw [putB_length]; omega)
  ·rfl
 ·rfl
theorem HI.bytes {m:HM} {gl:List Gb} (h:HI m gl) {bs:Bytes} (hb:bs.length=m.bs.length):HI (wrM m bs) gl:=⟨h.toHOk.bytes hb,h.gi.mono rfl rfl rfl fun _ _=>rfl,h.m1⟩
theorem HI.alloc {m:HM} {gl:List Gb} (h:HI m gl) (r n:Int):HI (allocR m r n).2.2 gl:=by
 unfold allocR
 cases hs:shOk r n
 ·exact h
 ·rw [if_pos rfl]
  cases hl:layF m (cOf r n) with
  | none=>exact h
  | some x =>
   have:=layF_some h.toHOk (a:=x.1) (pg:=x.2) hl
   exact ⟨h.toHOk.alloced hs this,h.gi.alloced h.toHOk this,h.m1⟩
theorem HI.free {m:HM} {gl:List Gb} (h:HI m gl) (a:Int):HI (freeR m a) gl:=by
 unfold freeR
 split
 ·rename_i hh
  obtain ⟨i,rfl,h1,h2⟩:=hasH_nat hh
  rw [Int.toNat_natCast,Nat.mul_div_cancel_left _ (by decide)]
  exact ⟨h.toHOk.freed h1 h2,h.gi.mono rfl rfl rfl fun _ _=>rfl,h.m1⟩
 ·exact h
theorem HI.mark {m:HM} {gl:List Gb} (h:HI m gl) (a:Int):HI (markR m a) gl:=by
 unfold markR
 split
 ·rename_i hh
  obtain ⟨i,rfl,h1,h2⟩:=hasH_nat ((Bool.and_eq_true _ _).mp hh).1
  rw [Int.toNat_natCast,Nat.mul_div_cancel_left _ (by decide)]
  exact ⟨h.toHOk.marked h1 h2,h.gi.mono rfl rfl rfl fun _ _=>rfl,h.m1⟩
 ·exact h
theorem HI.unmark {m:HM} {gl:List Gb} (h:HI m gl):HI (unmarkM m) gl:=⟨h.toHOk.unmarked,h.gi.mono rfl rfl rfl fun _ _=>rfl,h.m1⟩
theorem HI.tidy {m:HM} {gl:List Gb} (h:HI m gl) (a:Int):HI (tidyR m a) gl:=by
 unfold tidyR
 split
 ·rename_i hh
  obtain ⟨p,rfl,h1,h2⟩:=mgP_in hh.1
  rw [Int.toNat_natCast]
  exact ⟨h.toHOk.tidied hh.1 hh.2,h.gi.tidied h.toHOk hh.1,h.m1⟩
 ·exact h
theorem great_at {rs:PRows} {n:Nat} {M:Nat} (hM:1≤M) {A:Int} (h:placeP rs M n 0 0=some A):∃ a:Nat,A=a∧a+M≤n∧∀ i,a≤i→i<a+M→pAt rs i=PRow.Z:=by
 have hsp:=placeP_first (rs:=rs) (lo:=0) (hi:=n) (n:=M) hM (by omega)
 rw [Nat.sub_zero] at hsp
 rcases hsp with ⟨a,h3,h4,_⟩ | ⟨h3,_⟩
 ·rw [h] at h3
  exact ⟨a,by simpa using h3,h4.2.1,fun i h1 h2=>free_kind (h4.2.2 i h1 h2)⟩
 ·rw [h] at h3; cases h3
theorem HI.great {m:HM} {gl:List Gb} (h:HI m gl) (n:Int):HI (greatR m gl n).2.2.1 (greatR m gl n).2.2.2:=by
 unfold greatR
 cases hn:greatC n
 ·exact h
 ·rw [if_pos rfl]
  obtain ⟨M,hM,hM1,hM2⟩:=greatC_pages hn
  cases hp:placeP m.rs (pagesC n) m.man 0 0 with
  | none=>exact h
  | some A =>
   rw [hM] at hp
   obtain ⟨a,rfl,h1,h2⟩:=great_at hM1 hp
   show HI (greatM m (a:Int).toNat (pagesC n).toNat n) (glPut gl a n)
   rw [hM,Int.toNat_natCast,Int.toNat_natCast]
   exact ⟨h.toHOk.greated n hM1 h1 h2,h.gi.greated h.toHOk hn hM hM1 h1 h2,h.m1⟩
theorem HI.set {m:HM} {gl:List Gb} (h:HI m gl) (o:Op18):HI (setR m o) gl:=by
 unfold setR
 split
 ·refine h.bytes ?_
  split
  ·exact setRefB_length
  ·exact setNumB_length
 ·exact h
theorem HI.word {m:HM} {gl:List Gb} (h:HI m gl) (a:Int) (v:BitVec 64):HI (wordR m a v) gl:=by
 unfold wordR
 split
 ·rename_i he
  obtain ⟨i,rfl,h1,h2⟩:=errW_nat he
  exact h.bytes (overB_length (by rw [putB_length,Int.toNat_natCast]; omega))
 ·exact h
theorem HI.step {m:HM} {gl:List Gb} (h:HI m gl) (o:Op18) (others:Bool):HI (stepM m gl o others).1 (stepM m gl o others).2:=by
 unfold stepM
 split
 ·exact h.alloc _ _
 split
 ·exact h.free _
 split
 ·exact h.mark _
 split
 ·exact h.unmark
 split
 ·exact h.tidy _
 split
 ·exact h.set _
 split
 ·exact h.great _
 split
 ·cases others
  ·exact h
  ·exact h.word _ _
 ·exact h
end Go.Tum.Base
end
section
namespace Go.Tum.Base
open Go Go.Tum Go.Proofs.YthmdialagibpfaaGreatDoor
def swF (x:HM × Nat) (a:Int):HM × Nat:=if bitAt x.1.mw (a.toNat / 16) then x else (freeR x.1 a,x.2+1)
def swK (m:HM) (l:List Int) (k:Nat):HM × Nat:=(l.take k).foldl swF (m,0)
def swP (m:HM) (p:Int):HM × Nat:=(inH m p).foldl swF (m,0)
def swM (m:HM) (p:Int):HM:=tidyR (swP m p).1 p
theorem swK_zero (m:HM) (l:List Int):swK m l 0=(m,0):=rfl
theorem swK_succ (m:HM) (l:List Int) {k:Nat} (h:k<l.length):swK m l (k+1)=swF (swK m l k) l[k]:=by
 unfold swK
 rw [List.take_succ_eq_append_getElem h,List.foldl_append]; rfl
theorem swK_all (m:HM) (p:Int):swK m (inH m p) (inH m p).length=swP m p:=by unfold swK swP; rw [List.take_length]
theorem hasH_free {m:HM} (hm:HOk m) {i:Nat} (hi:i<16*(m.man+m.mgd)) {b:Int} (hb:hasH m b=true) (hne:b≠(16*i:Nat)):hasH (freeM m i) b=true:=by
 have hlh:=hm.lh
 obtain ⟨j,rfl,h1,h2⟩:=hasH_nat hb
 have e:hasH (freeM m i) (16*j:Nat)=bitAt (freeM m i).hw j:=hasH_at h1
 rw [e]
 show bitAt (putBit m.hw i false) j=true
 rw [bitAt_put false (by omega),if_neg (by omega)]; exact h2
theorem inH_mem {m:HM} {p a:Int}:a∈inH m p↔hasH m a=true∧a / 256=p:=by
 unfold inH objI
 rw [List.mem_filter,List.mem_map,decide_eq_true_eq]
 constructor
 ·rintro ⟨⟨i,h1,rfl⟩,h2⟩
  obtain ⟨h3,h4⟩:=objN_mem.1 h1
  exact ⟨by rw [hasH_at h3]; exact h4,h2⟩
 ·rintro ⟨h1,h2⟩
  obtain ⟨i,rfl,h3,h4⟩:=hasH_nat h1
  exact ⟨⟨i,objN_mem.2 ⟨h3,h4⟩,rfl⟩,h2⟩
theorem objI_sorted (m:HM):(objI m).Pairwise (· < ·):=by
 unfold objI
 rw [List.pairwise_map]
 refine List.Pairwise.imp (R:=(· < ·)) (fun {a b} h=>by omega) ?_
 exact List.Pairwise.filter _ List.pairwise_lt_range'
theorem inH_sorted (m:HM) (p:Int):(inH m p).Pairwise (· < ·):=(objI_sorted m).filter _
theorem inH_len {m:HM} (hm:HOk m) (p:Int):(inH m p).length≤4096:=by
 have:=List.length_filter_le (fun a:Int=>decide (a / 256=p)) (objI m)
 have:=objI_len hm
 unfold inH; omega
structure SwI (gl:List Gb) (l:List Int) (k:Nat) (x:HM × Nat):Prop where
 hi:HI x.1 gl
 has:∀ (j:Nat) (h:j<l.length),k≤j→hasH x.1 l[j]=true
 le:x.2≤k
theorem SwI.first {m:HM} {gl:List Gb} (h:HI m gl) (p:Int):SwI gl (inH m p) 0 (swK m (inH m p) 0) :=
 ⟨h,fun _ hj _=>(inH_mem.1 (List.getElem_mem hj)).1,Nat.le_refl _⟩
theorem SwI.next {gl:List Gb} {l:List Int} (hl:l.Pairwise (· < ·)) {k:Nat} {x:HM × Nat} (hx:SwI gl l k x) (hk:k<l.length):SwI gl l (k+1) (swF x l[k]):=by
 unfold swF
 split
 ·exact ⟨hx.hi,fun j hj hkj=>hx.has j hj (by omega),by have:=hx.le; omega⟩
 ·have hh:=hx.has k hk (Nat.le_refl _)
  refine ⟨hx.hi.free _,fun j hj hkj=>?_,by have:=hx.le; simp only; omega⟩
  have h1:=hx.has j hj (by omega)
  have h2:=List.pairwise_iff_getElem.1 hl k j hk hj (by omega)
  obtain ⟨i,e,h3,h4⟩:=hasH_nat hh
  show hasH (freeR x.1 l[k]) l[j]=true
  unfold freeR
  rw [if_pos hh,e,Int.toNat_natCast,Nat.mul_div_cancel_left _ (by decide)]
  exact hasH_free hx.hi.toHOk h3 h1 (by omega)
theorem SwI.at {m:HM} {gl:List Gb} (h:HI m gl) (p:Int):∀ k,k≤(inH m p).length→SwI gl (inH m p) k (swK m (inH m p) k)
 | 0,_=>SwI.first h p
 | k+1,hk=>by
  rw [swK_succ _ _ (by omega)]
  exact (SwI.at h p k (by omega)).next (inH_sorted m p) (by omega)
theorem HI.swept {m:HM} {gl:List Gb} (h:HI m gl) (p:Int):HI (swP m p).1 gl∧(swP m p).2≤4096:=by
 have hx:=SwI.at h p _ (Nat.le_refl _)
 rw [swK_all] at hx
 have:=hx.le
 have:=inH_len h.toHOk p
 exact ⟨hx.hi,by omega⟩
theorem HI.swM {m:HM} {gl:List Gb} (h:HI m gl) (p:Int):HI (swM m p) gl:=(h.swept p).1.tidy p
end Go.Tum.Base
end
section
namespace Go.Proofs.YthmdialagibpfaaGreatDoor
open Go Go.Tum Go.Tum.Base
set_option maxRecDepth 4000
def RL (man mgd:Int) (seed:BitVec 64) (bs:Bytes) (rs:PRows) (G:Great) (c:Nat):LH :=
 [.cells 0 [.int .i64 man,.int .i64 mgd,.int .u64 (seed.toNat:Int),ptr 1,ptr 3,.int .u64 ((keyW seed).toNat:Int),.map (some 5),ptr 6],
  .cells 0 [slB 2 bs.length],BL bs,.cells 0 [slB 4 rs.length],.gro 4 (rowsC PRow.cells rs),.imap [] 0,
  .cells 0 [ptr 1,.int .u64 ((keyW seed).toNat:Int),.map (some 7)],.imap G c]
set_option maxHeartbeats 1000000 in
theorem regNew_tr (m g:Nat) (seed:BitVec 64) (h1:m+g≤256) (h2:1≤m+g):Tr Tryz.prog 33 [.agg ⟨[.int .i64 m,.int .i64 g,.int .u64 (seed.toNat:Int)]⟩] [] (fun v K=>v=.tuple ⟨[ptr 0,.int .i64 0]⟩∧K=RL m g seed (List.replicate (256*(m+g)) 0) (List.replicate (m+g) PRow.Z) [] 0):=by
 have hA:=arenaNew_tr ((m+g:Nat):Int) (256*(m+g)) (by omega)
 have hK:=linkNew_tr seed
 have hP:=pagesNew_tr ((m+g:Nat):Int) (m+g) (by omega)
 have hG:=largeNew_tr (List.replicate (256*(m+g)) 0) (keyW seed)
 refine Tr.of row_region_New_ok rfl ?_
 repeat' (first|refine qN ?_|refine dN ?_|refine d0 ?_|refine qT ?_|refine qU ?_|refine qL ?_|refine qK ?_|refine iF (fun h=>?_) (fun h=>?_)|refine S_Q [] rfl rfl (QY.add (c:=((m+g:Nat):Int)) rfl rfl (by omega) (by omega) (by omega)) ?_|(refine cF [] (hA) ?_; conv=>whnf)|refine cP [] (hK) ?_|(refine cF [] (hP) ?_; conv=>whnf)|(refine cF [1,2] (hG) ?_; conv=>whnf)|(refine S_E [] rfl rfl (esafe_ok rfl) ?_; rintro _ _ ⟨rfl,rfl⟩; refine ⟨(by repeat' (first|exact trivial|refine ⟨⟨qsafe_ok (st:=[]) rfl,Sure.of rfl⟩,?_⟩|refine ⟨.inl rfl,?_⟩|refine ⟨.inr ⟨qsafe_ok (st:=[]) rfl,Sure.of rfl⟩,?_⟩|refine ⟨⟨qsafe_ok (st:=[]) rfl,Sure.slice (by omega)⟩,?_⟩|refine ⟨.inr ⟨qsafe_ok (st:=[]) rfl,Sure.slice (by omega)⟩,?_⟩|refine ⟨.inr ⟨QY.neqB rfl (by kernel_rfl) rfl rfl,Sure.of rfl⟩,?_⟩|refine ⟨.inr ⟨QY.eqlB rfl (by kernel_rfl) rfl rfl,Sure.of rfl⟩,?_⟩ | fail)),LSt.nf ?_⟩; conv=>whnf)|(refine S_E [] rfl rfl (EW.imake rfl) ?_; rintro _ _ ⟨rfl,rfl⟩; refine ⟨(by repeat' (first|exact trivial|refine ⟨⟨qsafe_ok (st:=[]) rfl,Sure.of rfl⟩,?_⟩|refine ⟨.inl rfl,?_⟩|refine ⟨.inr ⟨qsafe_ok (st:=[]) rfl,Sure.of rfl⟩,?_⟩|refine ⟨⟨qsafe_ok (st:=[]) rfl,Sure.slice (by omega)⟩,?_⟩|refine ⟨.inr ⟨qsafe_ok (st:=[]) rfl,Sure.slice (by omega)⟩,?_⟩|refine ⟨.inr ⟨QY.neqB rfl (by kernel_rfl) rfl rfl,Sure.of rfl⟩,?_⟩|refine ⟨.inr ⟨QY.eqlB rfl (by kernel_rfl) rfl rfl,Sure.of rfl⟩,?_⟩ | fail)),LSt.nf ?_⟩; conv=>whnf)|refine L_rT ?_|refine L_regT ?_|refine P_lin rfl ?_|refine P_A [] rfl ?_ ?_|refine P_Q [] rfl rfl (QY.add (c:=((m+g:Nat):Int)) rfl rfl (by omega) (by omega) (by omega)) ?_|(refine P_E [] rfl rfl (EW.callF [] (hA) rfl rfl (by decide) (by repeat' (first|exact trivial|refine ⟨rfl,?_⟩ | fail)) rfl rfl) ?_; rintro _ _ ⟨rfl,rfl⟩; refine ⟨(by repeat' (first|exact trivial|refine ⟨⟨qsafe_ok (st:=[]) rfl,Sure.of rfl⟩,?_⟩|refine ⟨.inl rfl,?_⟩|refine ⟨.inr ⟨qsafe_ok (st:=[]) rfl,Sure.of rfl⟩,?_⟩|refine ⟨⟨qsafe_ok (st:=[]) rfl,Sure.slice (by omega)⟩,?_⟩|refine ⟨.inr ⟨qsafe_ok (st:=[]) rfl,Sure.slice (by omega)⟩,?_⟩|refine ⟨.inr ⟨QY.neqB rfl (by kernel_rfl) rfl rfl,Sure.of rfl⟩,?_⟩|refine ⟨.inr ⟨QY.eqlB rfl (by kernel_rfl) rfl rfl,Sure.of rfl⟩,?_⟩ | fail)),LPt.nf ?_⟩; conv=>whnf)|(refine P_Ed [] rfl rfl (EWd.callP [] (hK) rfl rfl (by decide) (by repeat' (first|exact trivial|refine ⟨rfl,?_⟩ | fail)) rfl rfl) (disj_nil _) (nm_nilE _) (nm_nilT _) ?_; rintro _ _ ⟨rfl,rfl⟩; refine ⟨(by repeat' (first|exact trivial|refine ⟨⟨qsafe_ok (st:=[]) rfl,Sure.of rfl⟩,?_⟩|refine ⟨.inl rfl,?_⟩|refine ⟨.inr ⟨qsafe_ok (st:=[]) rfl,Sure.of rfl⟩,?_⟩|refine ⟨⟨qsafe_ok (st:=[]) rfl,Sure.slice (by omega)⟩,?_⟩|refine ⟨.inr ⟨qsafe_ok (st:=[]) rfl,Sure.slice (by omega)⟩,?_⟩|refine ⟨.inr ⟨QY.neqB rfl (by kernel_rfl) rfl rfl,Sure.of rfl⟩,?_⟩|refine ⟨.inr ⟨QY.eqlB rfl (by kernel_rfl) rfl rfl,Sure.of rfl⟩,?_⟩ | fail)),?_⟩)|(refine P_E [] rfl rfl (EW.callF [] (hP) rfl rfl (by decide) (by repeat' (first|exact trivial|refine ⟨rfl,?_⟩ | fail)) rfl rfl) ?_; rintro _ _ ⟨rfl,rfl⟩; refine ⟨(by repeat' (first|exact trivial|refine ⟨⟨qsafe_ok (st:=[]) rfl,Sure.of rfl⟩,?_⟩|refine ⟨.inl rfl,?_⟩|refine ⟨.inr ⟨qsafe_ok (st:=[]) rfl,Sure.of rfl⟩,?_⟩|refine ⟨⟨qsafe_ok (st:=[]) rfl,Sure.slice (by omega)⟩,?_⟩|refine ⟨.inr ⟨qsafe_ok (st:=[]) rfl,Sure.slice (by omega)⟩,?_⟩|refine ⟨.inr ⟨QY.neqB rfl (by kernel_rfl) rfl rfl,Sure.of rfl⟩,?_⟩|refine ⟨.inr ⟨QY.eqlB rfl (by kernel_rfl) rfl rfl,Sure.of rfl⟩,?_⟩ | fail)),LPt.nf ?_⟩; conv=>whnf)|(refine P_E [] rfl rfl (EW.callF [1,2] (hG) rfl rfl (by decide) (by repeat' (first|exact trivial|refine ⟨rfl,?_⟩ | fail)) rfl rfl) ?_; rintro _ _ ⟨rfl,rfl⟩; refine ⟨(by repeat' (first|exact trivial|refine ⟨⟨qsafe_ok (st:=[]) rfl,Sure.of rfl⟩,?_⟩|refine ⟨.inl rfl,?_⟩|refine ⟨.inr ⟨qsafe_ok (st:=[]) rfl,Sure.of rfl⟩,?_⟩|refine ⟨⟨qsafe_ok (st:=[]) rfl,Sure.slice (by omega)⟩,?_⟩|refine ⟨.inr ⟨qsafe_ok (st:=[]) rfl,Sure.slice (by omega)⟩,?_⟩|refine ⟨.inr ⟨QY.neqB rfl (by kernel_rfl) rfl rfl,Sure.of rfl⟩,?_⟩|refine ⟨.inr ⟨QY.eqlB rfl (by kernel_rfl) rfl rfl,Sure.of rfl⟩,?_⟩ | fail)),LPt.nf ?_⟩; conv=>whnf)|(refine P_E [] rfl rfl (esafe_ok rfl) ?_; rintro _ _ ⟨rfl,rfl⟩; refine ⟨(by repeat' (first|exact trivial|refine ⟨⟨qsafe_ok (st:=[]) rfl,Sure.of rfl⟩,?_⟩|refine ⟨.inl rfl,?_⟩|refine ⟨.inr ⟨qsafe_ok (st:=[]) rfl,Sure.of rfl⟩,?_⟩|refine ⟨⟨qsafe_ok (st:=[]) rfl,Sure.slice (by omega)⟩,?_⟩|refine ⟨.inr ⟨qsafe_ok (st:=[]) rfl,Sure.slice (by omega)⟩,?_⟩|refine ⟨.inr ⟨QY.neqB rfl (by kernel_rfl) rfl rfl,Sure.of rfl⟩,?_⟩|refine ⟨.inr ⟨QY.eqlB rfl (by kernel_rfl) rfl rfl,Sure.of rfl⟩,?_⟩ | fail)),LPt.nf ?_⟩; conv=>whnf)|(refine P_E [] rfl rfl (EW.imake rfl) ?_; rintro _ _ ⟨rfl,rfl⟩; refine ⟨(by repeat' (first|exact trivial|refine ⟨⟨qsafe_ok (st:=[]) rfl,Sure.of rfl⟩,?_⟩|refine ⟨.inl rfl,?_⟩|refine ⟨.inr ⟨qsafe_ok (st:=[]) rfl,Sure.of rfl⟩,?_⟩|refine ⟨⟨qsafe_ok (st:=[]) rfl,Sure.slice (by omega)⟩,?_⟩|refine ⟨.inr ⟨qsafe_ok (st:=[]) rfl,Sure.slice (by omega)⟩,?_⟩|refine ⟨.inr ⟨QY.neqB rfl (by kernel_rfl) rfl rfl,Sure.of rfl⟩,?_⟩|refine ⟨.inr ⟨QY.eqlB rfl (by kernel_rfl) rfl rfl,Sure.of rfl⟩,?_⟩ | fail)),LPt.nf ?_⟩; conv=>whnf)|refine aA ?_|refine aS ?_|refine aI (hn:=?_)|refine sP 9 (fun h=>?_) (fun h=>?_)|refine sP 14 (fun h=>?_) (fun h=>?_)|refine sP 19 (fun h=>?_) (fun h=>?_)|refine sP 27 (fun h=>?_) (fun h=>?_)|refine qR ?_|refine qS ?_|exact ⟨rfl,rfl⟩|fail)
 all_goals try (exfalso; omega)
 ·exact L_ret (RetQ.pick [9,1,2,4,5,6,7,8] rfl rfl rfl rfl ⟨rfl,rfl⟩)
 ·exact L_ret (RetQ.pick [9,1,2,4,5,8,6,7] rfl rfl rfl rfl ⟨rfl,rfl⟩)
 ·exact L_ret (RetQ.pick [9,1,2,5,6,4,7,8] rfl rfl rfl rfl ⟨rfl,rfl⟩)
theorem regArena_tr (man mgd:Int) (seed:BitVec 64) (bs:Bytes) (rs:PRows) (G:Great) (c:Nat):Tr Tryz.prog 49 [ptr 0] (RL man mgd seed bs rs G c) (fun v K=>v=ptr 1∧K=RL man mgd seed bs rs G c):=by
 refine Tr.of row_region_Region_Arena_ok rfl ?_
 repeat' (first|refine qN ?_|refine dN ?_|refine dR ?_|refine d0 ?_|refine rT ?_|refine qT ?_|refine qU ?_|refine qL ?_|refine qK ?_|refine iF (fun h=>?_) (fun h=>?_)|refine aI (hn:=?_)|refine qR ?_|refine qS ?_|exact ⟨rfl,rfl⟩|fail)
theorem regPages_tr (man mgd:Int) (seed:BitVec 64) (bs:Bytes) (rs:PRows) (G:Great) (c:Nat):Tr Tryz.prog 73 [ptr 0] (RL man mgd seed bs rs G c) (fun v K=>v=ptr 3∧K=RL man mgd seed bs rs G c):=by
 refine Tr.of row_region_Region_Pages_ok rfl ?_
 repeat' (first|refine qN ?_|refine dN ?_|refine dR ?_|refine d0 ?_|refine rT ?_|refine qT ?_|refine qU ?_|refine qL ?_|refine qK ?_|refine iF (fun h=>?_) (fun h=>?_)|refine aI (hn:=?_)|refine qR ?_|refine qS ?_|exact ⟨rfl,rfl⟩|fail)
theorem regConfig_tr (man mgd:Int) (seed:BitVec 64) (bs:Bytes) (rs:PRows) (G:Great) (c:Nat):Tr Tryz.prog 94 [ptr 0] (RL man mgd seed bs rs G c) (fun v K=>v=.agg ⟨[.int .i64 man,.int .i64 mgd,.int .u64 (seed.toNat:Int)]⟩∧K=RL man mgd seed bs rs G c):=by
 refine Tr.of row_region_Region_Config_ok rfl ?_
 repeat' (first|refine qN ?_|refine dN ?_|refine dR ?_|refine d0 ?_|refine rT ?_|refine qT ?_|refine qU ?_|refine qL ?_|refine qK ?_|refine iF (fun h=>?_) (fun h=>?_)|refine aI (hn:=?_)|refine qR ?_|refine qS ?_|exact ⟨rfl,rfl⟩|fail)
theorem regGreat_arg (man mgd:Int) (seed:BitVec 64) (bs:Bytes) (rs:PRows) (G:Great) (c:Nat) (n:Int) (hn:greatC n=false):Tr Tryz.prog 64 [ptr 0,.int .i64 n] (RL man mgd seed bs rs G c) (fun v K=>v=.tuple ⟨[.int .i64 0,.int .i64 1]⟩∧K=RL man mgd seed bs rs G c):=by
 have hP:=Pages_tr n
 rw [hn] at hP
 refine Tr.of row_region_Region_Great_ok rfl ?_
 repeat' (first|refine qN ?_|refine dN ?_|refine dR ?_|refine d0 ?_|refine rT ?_|refine qT ?_|refine qU ?_|refine qL ?_|refine qK ?_|refine iF (fun h=>?_) (fun h=>?_)|refine cP [] (hP) ?_|refine aI (hn:=?_)|refine aM ?_|refine qR ?_|refine qS ?_|exact ⟨rfl,rfl⟩|fail)
theorem regGreat_full (man mgd:Nat) (seed:BitVec 64) (bs:Bytes) (rs:PRows) (hr:rs.length=man+mgd) (h3:rs.length≤256) (G:Great) (c:Nat) (n:Int) (hn:greatC n=true) (hp:placeP rs (pagesC n) man 0 0=none):Tr Tryz.prog 64 [ptr 0,.int .i64 n] (RL man mgd seed bs rs G c) (fun v K=>v=.tuple ⟨[.int .i64 0,.int .i64 5]⟩∧K=RL man mgd seed bs rs G c):=by
 have hP:=Pages_tr n
 rw [hn] at hP
 obtain ⟨M,hM,hM1,hM17⟩:=greatC_pages hn
 rw [hM] at hP hp
 have e1:cutLo 0=0:=rfl
 have e2:cutHi rs 0 man=man:=by unfold cutHi; omega
 have hF:=map_full rs 0 man (by omega) (lrow M) h3 (by rfl) ⟨by show (1:Int)≤M; omega,by show (M:Int)≤256; omega⟩ (by rw [e1,e2]; exact hp)
 refine Tr.of row_region_Region_Great_ok rfl ?_
 repeat' (first|refine qN ?_|refine dN ?_|refine dR ?_|refine d0 ?_|refine rT ?_|refine qT ?_|refine qU ?_|refine qL ?_|refine qK ?_|refine iF (fun h=>?_) (fun h=>?_)|refine cP [] (hP) ?_|refine cP [3,4] (hF) ?_|refine aI (hn:=?_)|refine aM ?_|refine qR ?_|refine qS ?_|exact ⟨rfl,rfl⟩|fail)
set_option maxHeartbeats 2000000 in
theorem regGreat_ok (man mgd:Nat) (seed:BitVec 64) (bs:Bytes) (rs:PRows) (hr:rs.length=man+mgd) (h3:rs.length≤256) (hb:bs.length=256*rs.length) (G:Great) (c:Nat) (hG:Small G 256) (hO:GOk G c) (n:Int) (hn:greatC n=true) (A M:Nat) (hM:pagesC n=M) (hA:A+M≤man) (hp:placeP rs M man 0 0=some (A:Int)) (hm:meetsG G A M=false) :
  Tr Tryz.prog 64 [ptr 0,.int .i64 n] (RL man mgd seed bs rs G c) (fun v K=>v=.tuple ⟨[.int .i64 (256*A:Nat),.int .i64 0]⟩∧K=RL man mgd seed (madeB (keyW seed) bs A M) (layP rs A (lrow M) M) (gput G A n c) (c+1)):=by
 have hP:=Pages_tr n
 rw [hn,hM] at hP
 obtain ⟨M',hM',hM1,hM17⟩:=greatC_pages hn
 obtain rfl:M'=M:=by omega
 have e1:cutLo 0=0:=rfl
 have e2:cutHi rs 0 man=man:=by unfold cutHi; omega
 have hF:=map_ok rs 0 man (by omega) (lrow M') h3 (by rfl) A M' rfl hM1 (by omega) (by rw [e1,e2]; exact hp)
 have hl:=layP_length (rs:=rs) (a:=A) (m:=M') (r:=lrow M') (by omega) hM1
 have hL:=largeMake_ok (keyW seed) bs rs.length hb h3 G c hG hO A M' n hn hM (by omega) hm
 have hl2:=madeB_length (key:=keyW seed) (bs:=bs) (p:=A) (M:=M') (by omega) hM1
 simp only [TL,hl] at hF
 simp only [SetL,hl2] at hL
 simp only [RL,hl,hl2]
 refine Tr.of row_region_Region_Great_ok rfl ?_
 repeat' (first|refine qN ?_|refine dN ?_|refine dR ?_|refine d0 ?_|refine rT ?_|refine qT ?_|refine qU ?_|refine qL ?_|refine qK ?_|refine iF (fun h=>?_) (fun h=>?_)|refine cP [] (hP) ?_|(refine cF [3,4] (hF) ?_; conv=>whnf)|(refine cF [6,1,2,7] (hL) ?_; conv=>whnf)|refine S_Q [] rfl rfl (QY.mul (c:=((256*A:Nat):Int)) rfl rfl (by omega) (by omega) (by omega)) ?_|refine aI (hn:=?_)|refine aM ?_|refine qR ?_|refine qS ?_|exact ⟨rfl,rfl⟩|fail)
end Go.Proofs.YthmdialagibpfaaGreatDoor
end
section
namespace Go.Proofs.YthmdialagibpfaaGreatDoor
open Go Go.Tum Go.Tum.Base
set_option maxRecDepth 4000
def HL (m:HM):LH :=
 [.cells 0 [ptr 1,.int .i64 m.man,.int .i64 (m.man+m.mgd:Nat),ptr 9,ptr 11],
  .cells 0 [.int .i64 m.man,.int .i64 m.mgd,.int .u64 ((1#64).toNat:Int),ptr 2,ptr 4,.int .u64 ((keyW 1#64).toNat:Int),.map (some 6),ptr 7],
  .cells 0 [slB 3 m.bs.length],BL m.bs,.cells 0 [slB 5 m.rs.length],.gro 4 (rowsC PRow.cells m.rs),.imap [] 0,
  .cells 0 [ptr 2,.int .u64 ((keyW 1#64).toNat:Int),.map (some 8)],.imap m.G m.c,
  .cells 0 [slB 10 m.hw.length,.int .i64 (16*(m.man+m.mgd):Nat)],.gro 1 (rowsC wordC m.hw),
  .cells 0 [slB 12 m.mw.length,.int .i64 (16*(m.man+m.mgd):Nat)],.gro 1 (rowsC wordC m.mw)]
theorem hRegion_tr (m:HM):Tr Tryz.prog 48 [ptr 0] (HL m) (fun v K=>v=ptr 1∧K=HL m):=by
 refine Tr.of row_gheap_Heap_Region_ok rfl ?_
 repeat' (first|refine qN ?_|refine dN ?_|refine dR ?_|refine d0 ?_|refine rT ?_|refine qT ?_|refine qU ?_|refine qL ?_|refine qK ?_|refine iF (fun h=>?_) (fun h=>?_)|refine aI (hn:=?_)|refine qR ?_|refine qS ?_|exact ⟨rfl,rfl⟩|fail)
theorem hRow_tr (m:HM) (a:Int):Tr Tryz.prog 121 [ptr 0,.int .i64 a] (HL m) (fun v K=>v=.agg ⟨(pAt m.rs a).cells⟩∧K=HL m):=by
 have h1:=regPages_tr m.man m.mgd 1#64 m.bs m.rs m.G m.c
 have h2:=pagesRow_tr m.rs a
 refine Tr.of row_gheap_Heap_row_ok rfl ?_
 repeat' (first|refine qN ?_|refine dN ?_|refine dR ?_|refine d0 ?_|refine rT ?_|(refine cF [1,2,3,4,5,6,7,8] (h1) ?_; conv=>whnf)|refine cP [4,5] (h2) ?_|refine aI (hn:=?_)|refine qR ?_|refine qS ?_|exact ⟨rfl,rfl⟩|fail)
theorem hManaged_tr (m:HM) (a:Int):Tr Tryz.prog 125 [ptr 0,.int .i64 a] (HL m) (fun v K=>v=.bool (mgP m.rs a)∧K=HL m):=by
 have h1:=hRow_tr m a
 refine Tr.of row_gheap_Heap_managed_ok rfl ?_
 repeat' (first|refine qN ?_|refine dN ?_|refine dR ?_|refine d0 ?_|refine rT ?_|refine cP [0,1,2,3,4,5,6,7,8,9,10,11,12] (h1) ?_|refine aI (hn:=?_)|refine sP 7 (fun h=>?_) (fun h=>?_)|refine qR ?_|refine qS ?_|exact ⟨rfl,rfl⟩|fail)
set_option maxHeartbeats 1000000 in
theorem hSlot_tr (m:HM) (hm:HOk m) (p c:Nat) (hp:p<m.man+m.mgd) (hc:c<4) (hcl:(pAt m.rs p).cls=c):Tr Tryz.prog 161 [ptr 0,.int .i64 p] (HL m) (fun v K=>v=.tuple ⟨[.int .i64 (optI (pageF m.hw c p)),.bool (pageF m.hw c p).isSome]⟩∧K=HL m):=by
 have hn1:=hm.n1
 have hlh:=hm.lh
 have h1:=hRow_tr m p
 have h2:=slots_tr c hc
 obtain ⟨S,hS⟩:∃ S,S=256 / szC c:=⟨_,rfl⟩
 have hz:=szC_cases c
 have hB:∀ k,k<S→Tr Tryz.prog 111 [.int .i64 p,.int .i64 c,.int .i64 k] [] (fun v K=>v=.int .i64 ((256*p+szC c*k:Nat):Int)∧K=[]):=fun k hk=>base_tr p c k (by omega) hc (by omega)
 have hlt:∀ k,k<S→szC c*k<256:=fun k hk=>by
  rw [hS] at hk
  have h0:(k+1)*szC c≤256:=Nat.le_trans (Nat.mul_le_mul_right _ hk) (Nat.div_mul_le_self _ _)
  rw [Nat.mul_comm]
  rcases hz with e | e | e | e <;> rw [e] at h0 ⊢ <;> omega
 unfold pageF
 rw [← hS]
 rw [← hS] at h2
 generalize szC c=z at *
 have hH:∀ k,k<S→Tr Tryz.prog 145 [ptr 0,.int .i64 ((256*p+z*k) / 16:Nat)] (BS m.hw (16*(m.man+m.mgd))) (fun v K=>v=.bool (bitAt m.hw ((256*p+z*k) / 16))∧K=BS m.hw (16*(m.man+m.mgd))):=fun k hk=>by
  have:=hlt k hk
  exact bsHas_ok m.hw (16*(m.man+m.mgd)) (by omega) (by omega) ((256*p+z*k) / 16) (by omega)
 have hS2:S≤256:=by rw [hS]; exact Nat.div_le_self _ _
 refine Tr.of row_gheap_Heap_slot_ok rfl ?_
 obtain ⟨row,hrow⟩:∃ row,row=pAt m.rs p:=⟨_,rfl⟩
 rw [← hrow] at h1 hcl
 obtain ⟨kd,c1,ow,ru⟩:=row
 obtain rfl:c1=c:=hcl
 repeat' (first|refine qN ?_|refine dN ?_|refine dR ?_|refine d0 ?_|refine qB ?_|refine rT ?_|refine qT ?_|refine qU ?_|refine qL ?_|refine qK ?_|refine qF ?_|refine qE ?_|refine iF (fun h=>?_) (fun h=>?_)|refine cP [0,1,2,3,4,5,6,7,8,9,10,11,12] (h1) ?_|refine cP [] (h2) ?_|refine aA ?_|refine aI (hn:=?_)|refine aD ?_|refine qR ?_|refine qS ?_|exact ⟨rfl,rfl⟩|fail)
 refine LWp.pick [0,1,6,14,15] [0,1,2,3,4,5,6,7,8,9,10,11,12] rfl rfl rfl (L_loop (fun r l L=>∃ k:Nat,r=S-k∧k≤S∧slotF m.hw (256*p) z S 0=slotF m.hw (256*p) z (S-k) k∧l=[(0,ptr 0),(1,.int .i64 p),(6,.int .i64 c),(14,.int .i64 S),(15,.int .i64 k)]∧L=HL m) S ⟨0,rfl,by omega,rfl,rfl,rfl⟩ ?_)
 rintro r _ _ ⟨k,rfl,hk,hp2,rfl,rfl⟩
 first|refine L_seq (L_rs (S_done [] rfl (Nx.goL (iF (fun h=>L_skip (Nx.goL ?_)) (fun h=>L_exit ?_)))))|refine L_rs (S_done [] rfl (Nx.goL (L_seq (iF (fun h=>L_skip (Nx.goL ?_)) (fun h=>L_exit ?_)))))
 ·have hk2:k<S:=by omega
  have hBk:=hB k hk2
  have hHk:=hH k hk2
  have hzk:=hlt k hk2
  rw [show S-k=(S-(k+1))+1 by omega,slotF] at hp2
  cases hb:bitAt m.hw ((256*p+z*k) / 16)
  ·rw [hb] at hHk
   rw [hb,if_neg (by decide)] at hp2
   rw [hp2]
   repeat' (first|refine qN ?_|refine dN ?_|refine dR ?_|refine d0 ?_|refine qB ?_|refine rT ?_|refine qT ?_|refine qU ?_|refine qL ?_|refine qK ?_|refine qF ?_|refine qE ?_|refine iF (fun h=>?_) (fun h=>?_)|refine cP [] (hBk) ?_|refine S_Q [] rfl rfl (QY.divN (c:=((256*p+z*k:Nat) / 16:Nat)) rfl rfl (by omega) (by omega) (by omega)) ?_|refine cP [9,10] (hHk) ?_|refine aA ?_|refine aI (hn:=?_)|refine aD ?_|refine qR ?_|refine qS ?_|exact ⟨rfl,rfl⟩|fail)
  ·rw [hb] at hHk
   rw [hb,if_pos rfl] at hp2
   repeat' (first|refine qN ?_|refine dN ?_|refine dR ?_|refine d0 ?_|refine qB ?_|refine rT ?_|refine qT ?_|refine qU ?_|refine qL ?_|refine qK ?_|refine qF ?_|refine qE ?_|refine iF (fun h=>?_) (fun h=>?_)|refine cP [] (hBk) ?_|refine S_Q [] rfl rfl (QY.divN (c:=((256*p+z*k:Nat) / 16:Nat)) rfl rfl (by omega) (by omega) (by omega)) ?_|refine cP [9,10] (hHk) ?_|refine aA ?_|refine aI (hn:=?_)|refine aD ?_|refine qR ?_|refine qS ?_|exact ⟨rfl,rfl⟩|fail)
   exact Nx.pick [0,1,6,14,15] [0,1,2,3,4,5,6,7,8,9,10,11,12] rfl rfl rfl ⟨S-(k+1),by omega,k+1,rfl,by omega,hp2,rfl,rfl⟩
 ·obtain rfl:k=S:=by omega
  rw [Nat.sub_self] at hp2
  rw [hp2]
  refine Nx.goL ?_
  repeat' (first|refine qN ?_|refine dN ?_|refine dR ?_|refine d0 ?_|refine qB ?_|refine rT ?_|refine qT ?_|refine qU ?_|refine qL ?_|refine qK ?_|refine qF ?_|refine qE ?_|refine iF (fun h=>?_) (fun h=>?_)|refine aA ?_|refine aI (hn:=?_)|refine aD ?_|refine qR ?_|refine qS ?_|exact ⟨rfl,rfl⟩|fail)
theorem cut_lo {m:HM} (hm:HOk m):cutLo m.man=m.man∧cutHi m.rs m.man (m.man+m.mgd:Nat)-m.man=m.mgd∧cutHi m.rs m.man (m.man+m.mgd:Nat)=m.man+m.mgd:=by
 have:=hm.nr
 unfold cutLo cutHi
 omega
abbrev H13:List Nat:=[0,1,2,3,4,5,6,7,8,9,10,11,12]
set_option maxHeartbeats 1000000 in
theorem hPlace_tr (m:HM) (hm:HOk m) (c:Nat) (hc:c<4):Tr Tryz.prog 109 [ptr 0,.int .i64 c] (HL m) (fun v K=>v=.tuple ⟨[.int .i64 (optI (placeH m.rs m.hw c m.mgd m.man)),.bool (placeH m.rs m.hw c m.mgd m.man).isSome]⟩∧K=HL m):=by
 have hn1:=hm.n1
 refine Tr.of row_gheap_Heap_place_ok rfl ?_
 refine L_rs (S_done [] rfl (Nx.goL ?_))
 refine L_cut (fun l L=>placeH m.rs m.hw c m.mgd m.man=none∧l=[]∧L=HL m) ?_ ?_
 ·refine L_rs (S_done [] rfl (Nx.pick [0,1,6] H13 rfl rfl rfl ?_))
  refine L_block (L_loop (fun r l L=>∃ k:Nat,r=m.mgd-k∧k≤m.mgd∧placeH m.rs m.hw c m.mgd m.man=placeH m.rs m.hw c (m.mgd-k) (m.man+k)∧l=[(0,ptr 0),(1,.int .i64 c),(6,.int .i64 (m.man+k:Nat))]∧L=HL m) m.mgd ⟨0,rfl,by omega,rfl,rfl,rfl⟩ ?_)
  rintro r _ _ ⟨k,rfl,hk,hp,rfl,rfl⟩
  repeat' (first|refine qN ?_|refine dN ?_|refine dR ?_|refine d0 ?_|refine qB ?_|refine rT ?_|refine qT ?_|refine qU ?_|refine qL ?_|refine qK ?_|refine qF ?_|refine qE ?_|refine iF (fun h=>?_) (fun h=>?_)|refine aA ?_|refine aI (hn:=?_)|refine sP 24 (fun h=>?_) (fun h=>?_)|refine qR ?_|refine qS ?_|exact ⟨rfl,rfl⟩|fail)
  ·have hk2:k<m.mgd:=by omega
   rw [show m.mgd-k=(m.mgd-(k+1))+1 by omega,placeH] at hp
   have h1:=hManaged_tr m (m.man+k:Nat)
   have h2:=hRow_tr m (m.man+k:Nat)
   refine LSt.drop [0,1,6] (LSt.nf ?_)
   conv=>whnf
   cases hg:mgP m.rs (m.man+k:Nat)
   ·rw [hg] at h1
    rw [if_neg (show ¬ isPg m.rs c (m.man+k)=true from fun e=>by rw [mgP,decide_eq_true (of_decide_eq_true e).1] at hg; cases hg)] at hp
    repeat' (first|refine qN ?_|refine dN ?_|refine dR ?_|refine d0 ?_|refine qB ?_|refine rT ?_|refine qT ?_|refine qU ?_|refine qL ?_|refine qK ?_|refine qF ?_|refine qE ?_|refine iF (fun h=>?_) (fun h=>?_)|refine cP H13 (h1) ?_|refine aA ?_|refine aI (hn:=?_)|refine sP 24 (fun h=>?_) (fun h=>?_)|refine qR ?_|refine qS ?_|exact ⟨rfl,rfl⟩|fail)
    exact Nx.pick [0,1,6] H13 rfl rfl rfl ⟨m.mgd-(k+1),by omega,k+1,rfl,by omega,hp,rfl,rfl⟩
   ·rw [hg] at h1
    have hkind:(pAt m.rs (m.man+k:Nat)).kind=4:=of_decide_eq_true hg
    by_cases hcl:(pAt m.rs (m.man+k:Nat)).cls=c
    ·rw [if_pos (show isPg m.rs c (m.man+k)=true from decide_eq_true ⟨hkind,hcl⟩)] at hp
     have h3:=hSlot_tr m hm (m.man+k) c (by omega) hc hcl
     obtain ⟨row,hrow⟩:∃ row,row=pAt m.rs (m.man+k:Nat):=⟨_,rfl⟩
     rw [← hrow] at h2 hcl
     obtain ⟨kd,c1,ow,ru⟩:=row
     obtain rfl:c1=c:=hcl
     cases hs:pageF m.hw c (m.man+k) with
     | none =>
      rw [hs] at h3 hp
      repeat' (first|refine qN ?_|refine dN ?_|refine dR ?_|refine d0 ?_|refine qB ?_|refine rT ?_|refine qT ?_|refine qU ?_|refine qL ?_|refine qK ?_|refine qF ?_|refine qE ?_|refine iF (fun h=>?_) (fun h=>?_)|refine cP H13 (h1) ?_|refine cP H13 (h2) ?_|refine cP H13 (h3) ?_|refine aA ?_|refine aI (hn:=?_)|refine sP 24 (fun h=>?_) (fun h=>?_)|refine qR ?_|refine qS ?_|exact ⟨rfl,rfl⟩|fail)
      ·exact Nx.pick [0,1,6] H13 rfl rfl rfl ⟨m.mgd-(k+1),by omega,k+1,rfl,by omega,hp,rfl,rfl⟩
      ·contradiction
     | some a =>
      rw [hs] at h3 hp
      repeat' (first|refine qN ?_|refine dN ?_|refine dR ?_|refine d0 ?_|refine qB ?_|refine rT ?_|refine qT ?_|refine qU ?_|refine qL ?_|refine qK ?_|refine qF ?_|refine qE ?_|refine iF (fun h=>?_) (fun h=>?_)|refine cP H13 (h1) ?_|refine cP H13 (h2) ?_|refine cP H13 (h3) ?_|refine aA ?_|refine aI (hn:=?_)|refine sP 24 (fun h=>?_) (fun h=>?_)|refine qR ?_|refine qS ?_|exact ⟨rfl,rfl⟩|fail)
      ·refine ⟨?_,rfl⟩; rw [hp]; rfl
      ·contradiction
    ·rw [if_neg (show ¬ isPg m.rs c (m.man+k)=true from fun e=>hcl (of_decide_eq_true e).2)] at hp
     repeat' (first|refine qN ?_|refine dN ?_|refine dR ?_|refine d0 ?_|refine qB ?_|refine rT ?_|refine qT ?_|refine qU ?_|refine qL ?_|refine qK ?_|refine qF ?_|refine qE ?_|refine iF (fun h=>?_) (fun h=>?_)|refine cP H13 (h1) ?_|refine cP H13 (h2) ?_|refine aA ?_|refine aI (hn:=?_)|refine sP 24 (fun h=>?_) (fun h=>?_)|refine qR ?_|refine qS ?_|exact ⟨rfl,rfl⟩|fail)
     ·contradiction
     ·exact Nx.pick [0,1,6] H13 rfl rfl rfl ⟨m.mgd-(k+1),by omega,k+1,rfl,by omega,hp,rfl,rfl⟩
  ·obtain rfl:k=m.mgd:=by omega
   rw [Nat.sub_self] at hp
   exact Nx.pick [] H13 rfl rfl rfl ⟨hp,rfl,rfl⟩
 ·rintro _ _ ⟨hq,rfl,rfl⟩
  repeat' (first|refine qN ?_|refine dN ?_|refine dR ?_|refine d0 ?_|refine qB ?_|refine rT ?_|refine qT ?_|refine qU ?_|refine qL ?_|refine qK ?_|refine qF ?_|refine qE ?_|refine iF (fun h=>?_) (fun h=>?_)|refine aA ?_|refine aI (hn:=?_)|refine sP 24 (fun h=>?_) (fun h=>?_)|refine qR ?_|refine qS ?_|exact ⟨rfl,rfl⟩|fail)
  refine ⟨?_,rfl⟩
  rw [hq]; rfl
end Go.Proofs.YthmdialagibpfaaGreatDoor
end
section
namespace Go.Proofs.YthmdialagibpfaaGreatDoor
open Go Go.Tum Go.Tum.Base
set_option maxRecDepth 4000
set_option maxHeartbeats 1000000 in
theorem hHas_tr (m:HM) (hm:HOk m) (a:Int) (ha:a≤9223372036854775807):Tr Tryz.prog 75 [ptr 0,.int .i64 a] (HL m) (fun v K=>v=.bool (hasH m a)∧K=HL m):=by
 have hn1:=hm.n1
 have hlh:=hm.lh
 refine Tr.of row_gheap_Heap_Has_ok rfl ?_
 by_cases h0:a<0
 ·rw [show hasH m a=false by rw [hasH,decide_eq_false (by omega),Bool.false_and]]
  repeat' (first|refine qN ?_|refine dN ?_|refine dR ?_|refine d0 ?_|refine rT ?_|refine aI (hn:=?_)|refine aD ?_|refine aR ?_|refine sP 7 (fun h=>?_) (fun h=>?_)|refine sP 11 (fun h=>?_) (fun h=>?_)|refine sP 16 (fun h=>?_) (fun h=>?_)|refine qR ?_|refine qS ?_|exact ⟨rfl,rfl⟩|fail)
  all_goals try (exfalso; omega)
 ·obtain ⟨k,rfl⟩:=Int.eq_ofNat_of_zero_le (show 0≤a by omega)
  by_cases h1:k % 16=0
  ·by_cases h2:k / 16<16*(m.man+m.mgd)
   ·have hB:=bsHas_ok m.hw (16*(m.man+m.mgd)) (by omega) (by omega) (k / 16) h2
    rw [show hasH m k=bitAt m.hw (k / 16) by rw [hasH,decide_eq_true ⟨by omega,by omega,by omega⟩,Bool.true_and,Int.toNat_natCast]]
    repeat' (first|refine qN ?_|refine dN ?_|refine dR ?_|refine d0 ?_|refine rT ?_|refine S_Q [] rfl rfl (QY.divN (c:=((k / 16:Nat):Int)) rfl rfl (by omega) (by omega) (by omega)) ?_|refine cP [9,10] (hB) ?_|refine aI (hn:=?_)|refine aD ?_|refine aR ?_|refine sP 7 (fun h=>?_) (fun h=>?_)|refine sP 11 (fun h=>?_) (fun h=>?_)|refine sP 16 (fun h=>?_) (fun h=>?_)|refine qR ?_|refine qS ?_|exact ⟨rfl,rfl⟩|fail)
    all_goals try (exfalso; omega)
   ·have hB:=bsHas_no m.hw (16*(m.man+m.mgd)) ((k / 16:Nat):Int) (by omega)
    rw [show hasH m k=false by rw [hasH,decide_eq_false (by omega),Bool.false_and]]
    repeat' (first|refine qN ?_|refine dN ?_|refine dR ?_|refine d0 ?_|refine rT ?_|refine S_Q [] rfl rfl (QY.divN (c:=((k / 16:Nat):Int)) rfl rfl (by omega) (by omega) (by omega)) ?_|refine cP [9,10] (hB) ?_|refine aI (hn:=?_)|refine aD ?_|refine aR ?_|refine sP 7 (fun h=>?_) (fun h=>?_)|refine sP 11 (fun h=>?_) (fun h=>?_)|refine sP 16 (fun h=>?_) (fun h=>?_)|refine qR ?_|refine qS ?_|exact ⟨rfl,rfl⟩|fail)
    all_goals try (exfalso; omega)
  ·rw [show hasH m k=false by rw [hasH,decide_eq_false (by omega),Bool.false_and]]
   repeat' (first|refine qN ?_|refine dN ?_|refine dR ?_|refine d0 ?_|refine rT ?_|refine aI (hn:=?_)|refine aD ?_|refine aR ?_|refine sP 7 (fun h=>?_) (fun h=>?_)|refine sP 11 (fun h=>?_) (fun h=>?_)|refine sP 16 (fun h=>?_) (fun h=>?_)|refine qR ?_|refine qS ?_|exact ⟨rfl,rfl⟩|fail)
   all_goals try (exfalso; omega)
theorem hMarked_ok (m:HM) (hm:HOk m) (i:Nat) (hi:i<16*(m.man+m.mgd)) (h:bitAt m.hw i=true):Tr Tryz.prog 76 [ptr 0,.int .i64 (16*i:Nat)] (HL m) (fun v K=>v=.bool (bitAt m.mw i)∧K=HL m):=by
 have hn1:=hm.n1
 have hlm:=hm.lm
 have hH:=hHas_tr m hm (16*i:Nat) (by omega)
 rw [hasH_at hi,h] at hH
 have hB:=bsHas_ok m.mw (16*(m.man+m.mgd)) (by omega) (by omega) i hi
 refine Tr.of row_gheap_Heap_Marked_ok rfl ?_
 repeat' (first|refine qN ?_|refine dN ?_|refine dR ?_|refine d0 ?_|refine rT ?_|refine cP H13 (hH) ?_|refine S_Q [] rfl rfl (QY.divN (c:=(i:Int)) rfl rfl (by omega) (by omega) (by omega)) ?_|refine cP [11,12] (hB) ?_|refine aI (hn:=?_)|refine aD ?_|refine sP 8 (fun h=>?_) (fun h=>?_)|refine qR ?_|refine qS ?_|exact ⟨rfl,rfl⟩|fail)
theorem hMark_no (m:HM) (hm:HOk m) (a:Int) (ha:a≤9223372036854775807) (h:hasH m a=false):Tr Tryz.prog 55 [ptr 0,.int .i64 a] (HL m) (fun v K=>v=.bool false∧K=HL m):=by
 have hH:=hHas_tr m hm a ha
 rw [h] at hH
 refine Tr.of row_gheap_Heap_Mark_ok rfl ?_
 repeat' (first|refine qN ?_|refine dN ?_|refine dR ?_|refine d0 ?_|refine rT ?_|refine qT ?_|refine qU ?_|refine qL ?_|refine qK ?_|refine iF (fun h=>?_) (fun h=>?_)|refine cP H13 (hH) ?_|refine aI (hn:=?_)|refine aD ?_|refine sP 9 (fun h=>?_) (fun h=>?_)|refine qR ?_|refine qS ?_|exact ⟨rfl,rfl⟩|fail)
set_option maxHeartbeats 1000000 in
theorem hMark_ok (m:HM) (hm:HOk m) (i:Nat) (hi:i<16*(m.man+m.mgd)) (h:bitAt m.hw i=true):Tr Tryz.prog 55 [ptr 0,.int .i64 (16*i:Nat)] (HL m) (fun v K=>v=.bool (!bitAt m.mw i)∧K=HL (if bitAt m.mw i then m else markM m i)):=by
 have hn1:=hm.n1
 have hlm:=hm.lm
 have hH:=hHas_tr m hm (16*i:Nat) (by omega)
 rw [hasH_at hi,h] at hH
 have hM:=hMarked_ok m hm i hi h
 have hB:=bsPut_ok m.mw (16*(m.man+m.mgd)) (by omega) (by omega) i hi true
 refine Tr.of row_gheap_Heap_Mark_ok rfl ?_
 cases hb:bitAt m.mw i
 ·rw [hb] at hM
  rw [if_neg (by decide)]
  simp only [BS,putBit_length] at hB
  simp only [HL,markM,putBit_length]
  repeat' (first|refine qN ?_|refine dN ?_|refine dR ?_|refine d0 ?_|refine rT ?_|refine qT ?_|refine qU ?_|refine qL ?_|refine qK ?_|refine iF (fun h=>?_) (fun h=>?_)|refine cP H13 (hH) ?_|refine cP H13 (hM) ?_|refine S_Q [] rfl rfl (QY.divN (c:=(i:Int)) rfl rfl (by omega) (by omega) (by omega)) ?_|(refine cF [11,12] (hB) ?_; conv=>whnf)|refine aI (hn:=?_)|refine aD ?_|refine sP 9 (fun h=>?_) (fun h=>?_)|refine qR ?_|refine qS ?_|exact ⟨rfl,rfl⟩|fail)
 ·rw [hb] at hM
  rw [if_pos rfl]
  repeat' (first|refine qN ?_|refine dN ?_|refine dR ?_|refine d0 ?_|refine rT ?_|refine qT ?_|refine qU ?_|refine qL ?_|refine qK ?_|refine iF (fun h=>?_) (fun h=>?_)|refine cP H13 (hH) ?_|refine cP H13 (hM) ?_|refine aI (hn:=?_)|refine aD ?_|refine sP 9 (fun h=>?_) (fun h=>?_)|refine qR ?_|refine qS ?_|exact ⟨rfl,rfl⟩|fail)
theorem hFree_no (m:HM) (hm:HOk m) (a:Int) (ha:a≤9223372036854775807) (h:hasH m a=false):Tr Tryz.prog 53 [ptr 0,.int .i64 a] (HL m) (fun v K=>v=.int .i64 6∧K=HL m):=by
 have hH:=hHas_tr m hm a ha
 rw [h] at hH
 refine Tr.of row_gheap_Heap_Free_ok rfl ?_
 repeat' (first|refine qN ?_|refine dN ?_|refine dR ?_|refine d0 ?_|refine qB ?_|refine rT ?_|refine qT ?_|refine qU ?_|refine qL ?_|refine qK ?_|refine iF (fun h=>?_) (fun h=>?_)|refine cP H13 (hH) ?_|refine aI (hn:=?_)|refine aD ?_|refine qR ?_|refine qS ?_|exact ⟨rfl,rfl⟩|fail)
set_option maxHeartbeats 2000000 in
theorem hFree_ok (m:HM) (hm:HOk m) (i:Nat) (hi:i<16*(m.man+m.mgd)) (h:bitAt m.hw i=true):Tr Tryz.prog 53 [ptr 0,.int .i64 (16*i:Nat)] (HL m) (fun v K=>v=.int .i64 0∧K=HL (freeM m i)):=by
 have hn1:=hm.n1
 have hlm:=hm.lm
 have hlh:=hm.lh
 have hnb:=hm.nb
 have hH:=hHas_tr m hm (16*i:Nat) (by omega)
 rw [hasH_at hi,h] at hH
 obtain ⟨c,hc,hcl,hroom⟩:=obj_room hm hi h
 have hB:=bsPut_ok m.hw (16*(m.man+m.mgd)) (by omega) (by omega) i hi false
 have hC:=bsPut_ok m.mw (16*(m.man+m.mgd)) (by omega) (by omega) i hi false
 have hA:=regArena_tr m.man m.mgd 1#64 m.bs m.rs m.G m.c
 have hR:=hRow_tr { m with hw:=putBit m.hw i false,mw:=putBit m.mw i false } (i / 16:Nat)
 have hZ:=Size_tr c
 rw [sizeC_sz hc] at hZ
 have hF:=arenaFill_ok m.bs (by omega) (16*i) (szC c) 221#8 (by omega)
 rw [AL_over (by rw [List.length_replicate]; omega)] at hF
 have hl:(overB m.bs (16*i) (List.replicate (szC c) 221#8)).length=m.bs.length:=overB_length (by rw [List.length_replicate]; omega)
 have hK:HL (freeM m i)=HL { m with bs:=overB m.bs (16*i) (List.replicate (szC c) 221#8),hw:=putBit m.hw i false,mw:=putBit m.mw i false }:=by
  unfold freeM; rw [hcl]; rfl
 rw [hK]
 obtain ⟨row,hrow⟩:∃ row,row=pAt m.rs (i / 16:Nat):=⟨_,rfl⟩
 simp only at hR
 rw [← hrow] at hR hcl
 obtain ⟨kd,c1,ow,ru⟩:=row
 obtain rfl:c1=c:=hcl
 simp only [BS,putBit_length] at hB hC
 simp only [HL,putBit_length,hl] at hR ⊢
 refine Tr.of row_gheap_Heap_Free_ok rfl ?_
 repeat' (first|refine qN ?_|refine dN ?_|refine dR ?_|refine d0 ?_|refine qB ?_|refine rT ?_|refine qT ?_|refine qU ?_|refine qL ?_|refine qK ?_|refine iF (fun h=>?_) (fun h=>?_)|refine cP H13 (hH) ?_|refine S_Q [] rfl rfl (QY.divN (c:=(i:Int)) rfl rfl (by omega) (by omega) (by omega)) ?_|(refine cF [9,10] (hB) ?_; conv=>whnf)|(refine cF [11,12] (hC) ?_; conv=>whnf)|(refine cF [1,2,3,4,5,6,7,8] (hA) ?_; conv=>whnf)|refine S_Q [] rfl rfl (QY.divN (c:=((i / 16:Nat):Int)) rfl rfl (by omega) (by omega) (by omega)) ?_|refine cP H13 (hR) ?_|refine cP [] (hZ) ?_|(refine cF [2,3] (hF) ?_; conv=>whnf)|refine aI (hn:=?_)|refine aD ?_|refine qR ?_|refine qS ?_|exact ⟨rfl,rfl⟩|fail)
theorem hUnmark_tr (m:HM) (hm:HOk m):TrK Tryz.prog [] [0,1,2,3,4,5,6,7,8,9,10] 57 [ptr 0] (HL m) (fun v K=>v=.int .i64 (cntW m.mw m.mw.length)∧K=HL (unmarkM m)):=by
 have hn1:=hm.n1
 have hlm:=hm.lm
 have hC:=bsCount_tr m.mw (16*(m.man+m.mgd)) (by omega)
 have hL:=bsLen_tr m.mw (16*(m.man+m.mgd))
 have hN:=bsNew_tr (16*(m.man+m.mgd):Nat) (16*(m.man+m.mgd)) (by omega)
 refine Tr.of row_gheap_Heap_Unmark_ok rfl ?_
 repeat' (first|refine qN ?_|refine dN ?_|refine d0 ?_|refine qT ?_|refine qU ?_|refine qL ?_|refine qK ?_|refine iF (fun h=>?_) (fun h=>?_)|refine cP [11,12] (hC) ?_|refine cP [11,12] (hL) ?_|(refine cF [] (hN) ?_; conv=>whnf)|refine aI (hn:=?_)|refine qR ?_|refine qS ?_|exact ⟨rfl,rfl⟩|fail)
 exact L_ret (RetQ.pick [0,1,2,3,4,5,6,7,8,9,10,13,14] rfl rfl rfl rfl ⟨rfl,rfl⟩)
set_option maxHeartbeats 1000000 in
theorem places_tr (ws:Words) (n:Nat) (hn:n≤65536) (hw:n≤64*ws.length):Tr Tryz.prog 144 [ptr 0] (BS ws n) (fun v K=>v=.slice (some ⟨2,0,none⟩) (allF ws n 0).length (allF ws n 0).length∧K=BS ws n++[.gro 1 (rowsC intC ((allF ws n 0).map fun i:Nat=>((16*i:Nat):Int)))]):=by
 have hA:=bsAll_tr ws n hn hw
 have hmem:∀ x∈allF ws n 0,x<65536:=fun x hx=>by
  rw [allF,List.mem_filter,List.mem_range'] at hx
  obtain ⟨⟨j,h1,rfl⟩,_⟩:=hx; omega
 have hlen:(allF ws n 0).length≤65536:=by
  unfold allF
  have:=List.length_filter_le (bitAt ws) (List.range' 0 n)
  rw [List.length_range'] at this
  omega
 generalize allF ws n 0=xs at *
 refine Tr.of row_gheap_places_ok rfl ?_
 repeat' (first|refine qN ?_|refine dN ?_|refine dR ?_|refine d0 ?_|refine qB ?_|refine rT ?_|refine qT ?_|refine qU ?_|refine qL ?_|refine qK ?_|refine qF ?_|refine qE ?_|refine iF (fun h=>?_) (fun h=>?_)|refine aX ?_|(refine cF [0,1] (hA) ?_; conv=>whnf)|refine aA ?_|refine aI (hn:=?_)|refine aM ?_|refine qR ?_|refine qS ?_|exact ⟨rfl,rfl⟩|fail)
 refine LWp.pick [3,8,9] [0,1,2] rfl rfl rfl (L_loop (fun r l L=>∃ k:Nat,r=xs.length-k∧k≤xs.length∧l=[(3,.slice (some ⟨2,0,none⟩) xs.length xs.length),(8,.int .i64 xs.length),(9,.int .i64 k)]∧L=BS ws n++[.gro 1 (rowsC intC ((xs.take k).map (fun i:Nat=>((16*i:Nat):Int))++natI (xs.drop k)))]) xs.length ⟨0,rfl,by omega,rfl,rfl⟩ ?_)
 rintro r _ _ ⟨k,rfl,hk,rfl,rfl⟩
 first|refine L_seq (L_rs (S_done [] rfl (Nx.goL (iF (fun h=>L_skip (Nx.goL ?_)) (fun h=>L_exit ?_)))))|refine L_rs (S_done [] rfl (Nx.goL (L_seq (iF (fun h=>L_skip (Nx.goL ?_)) (fun h=>L_exit ?_)))))
 ·have hk2:k<xs.length:=by omega
  have hx:=hmem xs[k] (List.getElem_mem hk2)
  have hl1:((xs.take k).map (fun i:Nat=>((16*i:Nat):Int))).length=k:=by rw [List.length_map,List.length_take]; omega
  have hg:((xs.take k).map (fun i:Nat=>((16*i:Nat):Int))++natI (xs.drop k))[k]?=some ((xs[k]:Nat):Int):=by
   rw [List.getElem?_append_right (by omega),hl1,Nat.sub_self,natI,List.getElem?_map,List.getElem?_drop,Nat.add_zero,List.getElem?_eq_getElem hk2]; rfl
  have hs:((xs.take k).map (fun i:Nat=>((16*i:Nat):Int))++natI (xs.drop k)).set k ((16*xs[k]:Nat):Int)=(xs.take (k+1)).map (fun i:Nat=>((16*i:Nat):Int))++natI (xs.drop (k+1)):=by
   rw [List.set_append_right _ _ (by omega),hl1,Nat.sub_self,List.drop_eq_getElem_cons hk2,natI,List.map_cons,List.set_cons_zero,List.take_succ_eq_append_getElem hk2,List.map_append]
   simp [natI]
  repeat' (first|refine qN ?_|refine dN ?_|refine dR ?_|refine d0 ?_|refine qB ?_|refine rT ?_|refine qT ?_|refine qU ?_|refine qL ?_|refine qK ?_|refine qF ?_|refine qE ?_|refine iF (fun h=>?_) (fun h=>?_)|refine aX ?_|refine S_Q [] rfl rfl (QY.ldI rfl rfl hg) ?_|refine S_Q [] rfl rfl (QY.mul (c:=((16*xs[k]:Nat):Int)) rfl rfl (by omega) (by omega) (by omega)) ?_|refine aA ?_|refine aI (hn:=?_)|refine aM ?_|refine qR ?_|refine qS ?_|exact ⟨rfl,rfl⟩|fail)
  first|refine L_rs ?_|refine L_reg ?_ | skip
  refine eE rfl rfl (EW.stI (k:=k) (a:=((16*xs[k]:Nat):Int)) rfl rfl rfl (by rw [List.length_append,hl1,natI,List.length_map,List.length_drop]; omega)) ?_
  conv=>whnf
  rw [hs]
  repeat' (first|refine qN ?_|refine dN ?_|refine dR ?_|refine d0 ?_|refine qB ?_|refine rT ?_|refine qT ?_|refine qU ?_|refine qL ?_|refine qK ?_|refine qF ?_|refine qE ?_|refine iF (fun h=>?_) (fun h=>?_)|refine aX ?_|refine aA ?_|refine aI (hn:=?_)|refine aM ?_|refine qR ?_|refine qS ?_|exact ⟨rfl,rfl⟩|fail)
  exact Nx.pick [3,8,9] [0,1,2] rfl rfl rfl ⟨xs.length-(k+1),by omega,k+1,rfl,by omega,rfl,rfl⟩
 ·obtain rfl:k=xs.length:=by omega
  refine Nx.goL ?_
  rw [List.take_length,List.drop_length,show natI []=[] by rfl,List.append_nil]
  repeat' (first|refine qN ?_|refine dN ?_|refine d0 ?_|refine qB ?_|refine qT ?_|refine qU ?_|refine qL ?_|refine qK ?_|refine qF ?_|refine qE ?_|refine iF (fun h=>?_) (fun h=>?_)|refine aX ?_|refine aA ?_|refine aI (hn:=?_)|refine aM ?_|refine qR ?_|refine qS ?_|exact ⟨rfl,rfl⟩|fail)
  exact L_ret (RetQ.pick [0,1,2] rfl rfl rfl rfl ⟨rfl,rfl⟩)
end Go.Proofs.YthmdialagibpfaaGreatDoor
end
section
namespace Go.Proofs.YthmdialagibpfaaGreatDoor
open Go Go.Tum Go.Tum.Base
set_option maxRecDepth 4000
theorem hAll_tr (m:HM) (hm:HOk m):Tr Tryz.prog 74 [ptr 0] (HL m) (fun v K=>v=.slice (some ⟨13,0,none⟩) (objI m).length (objI m).length∧K=HL m++[.gro 1 (rowsC intC (objI m))]):=by
 have hn1:=hm.n1
 have hlh:=hm.lh
 have hP:=places_tr m.hw (16*(m.man+m.mgd)) (by omega) (by omega)
 have e1:(allF m.hw (16*(m.man+m.mgd)) 0).length=(objI m).length:=by rw [objI,objN,List.length_map]
 have e2:((allF m.hw (16*(m.man+m.mgd)) 0).map fun i:Nat=>((16*i:Nat):Int))=objI m:=rfl
 rw [e1,e2] at hP
 refine Tr.of row_gheap_Heap_All_ok rfl ?_
 repeat' (first|refine qN ?_|refine dN ?_|refine d0 ?_|refine qT ?_|refine qU ?_|refine qL ?_|refine qK ?_|refine iF (fun h=>?_) (fun h=>?_)|(refine cF [9,10] (hP) ?_; conv=>whnf)|refine aI (hn:=?_)|refine qR ?_|refine qS ?_|exact ⟨rfl,rfl⟩|fail)
 exact L_ret (RetQ.pick [0,1,2,3,4,5,6,7,8,9,10,11,12,13] rfl rfl rfl rfl ⟨rfl,rfl⟩)
set_option maxHeartbeats 1000000 in
theorem hPages_tr (m:HM) (hm:HOk m):Tr Tryz.prog 80 [ptr 0] (HL m) (fun v K=>v=.slice (some ⟨13,0,none⟩) (pagesH m).length (pagesH m).length∧K=HL m++[.gro 1 (rowsC intC (natI (pagesH m)))]):=by
 have hn1:=hm.n1
 obtain ⟨F,hF⟩:∃ F:Nat→List Nat,F=fun k=>(List.range' m.man k).filter fun p:Nat=>mgP m.rs (p:Int):=⟨_,rfl⟩
 have hF0:F 0=[]:=by rw [hF]; rfl
 have hFs:∀ k,F (k+1)=F k++(if mgP m.rs (m.man+k:Nat) then [m.man+k] else []):=fun k=>by
  rw [hF]
  simp only
  rw [List.range'_concat,List.filter_append,Nat.one_mul]
  congr 1
  rw [List.filter_cons]; rfl
 have hFl:∀ k,(F k).length≤k:=fun k=>by
  rw [hF]
  have:=List.length_filter_le (fun p:Nat=>mgP m.rs (p:Int)) (List.range' m.man k)
  rw [List.length_range'] at this
  exact this
 rw [show pagesH m=F m.mgd by rw [hF]; rfl]
 refine Tr.of row_gheap_Heap_Pages_ok rfl ?_
 repeat' (first|refine qN ?_|refine dN ?_|refine d0 ?_|refine qB ?_|refine qT ?_|refine qU ?_|refine qL ?_|refine qK ?_|refine qF ?_|refine qE ?_|refine iF (fun h=>?_) (fun h=>?_)|refine aA ?_|refine aI (hn:=?_)|refine qR ?_|refine qS ?_|exact ⟨rfl,rfl⟩|fail)
 refine LWp.nilE 3 1 rfl (LWp.pick [0,3,4] [0,1,2,3,4,5,6,7,8,9,10,11,12,13] rfl rfl rfl (L_loop (fun r l L=>∃ k:Nat,r=m.mgd-k∧k≤m.mgd∧l=[(0,ptr 0),(3,.slice (some ⟨13,0,none⟩) (F k).length (F k).length),(4,.int .i64 (m.man+k:Nat))]∧L=HL m++[.gro 1 (rowsC intC (natI (F k)))]) m.mgd ⟨0,rfl,by omega,by rw [hF0]; rfl,by rw [hF0]; rfl⟩ ?_))
 rintro r _ _ ⟨k,rfl,hk,rfl,rfl⟩
 have hM:=hManaged_tr m (m.man+k:Nat)
 have hFk:=hFs k
 have hFlk:=hFl k
 cases hg:mgP m.rs (m.man+k:Nat)
 ·rw [hg] at hM hFk
  rw [if_neg (by decide),List.append_nil] at hFk
  repeat' (first|refine qN ?_|refine dN ?_|refine d0 ?_|refine qB ?_|refine qT ?_|refine qU ?_|refine qL ?_|refine qK ?_|refine qF ?_|refine qE ?_|refine iF (fun h=>?_) (fun h=>?_)|refine cP H13 (hM) ?_|refine aA ?_|refine aI (hn:=?_)|refine qR ?_|refine qS ?_|exact ⟨rfl,rfl⟩|fail)
  ·refine Nx.pick [0,3,4] [0,1,2,3,4,5,6,7,8,9,10,11,12,13] rfl rfl rfl ⟨m.mgd-(k+1),by omega,k+1,rfl,by omega,?_,by rw [hFk]; rfl⟩
   rw [hFk]; rfl
  ·obtain rfl:k=m.mgd:=by omega
   exact L_ret (RetQ.pick [0,1,2,3,4,5,6,7,8,9,10,11,12,13] rfl rfl rfl rfl ⟨rfl,rfl⟩)
 ·rw [hg] at hM hFk
  rw [if_pos rfl] at hFk
  repeat' (first|refine qN ?_|refine dN ?_|refine d0 ?_|refine qB ?_|refine qT ?_|refine qU ?_|refine qL ?_|refine qK ?_|refine qF ?_|refine qE ?_|refine iF (fun h=>?_) (fun h=>?_)|refine cP H13 (hM) ?_|refine aA ?_|refine aI (hn:=?_)|refine qR ?_|refine qS ?_|exact ⟨rfl,rfl⟩|fail)
  ·first|refine L_rs ?_|refine L_reg ?_ | skip
   refine eE rfl rfl (EW.appR1 (bytes:=8) (a:=((m.man+k:Nat):Int)) intC_ok rfl (by kernel_rfl) rfl rfl rfl rfl (by rw [natI,List.length_map]) (by omega)) ?_
   conv=>whnf
   repeat' (first|refine qN ?_|refine dN ?_|refine d0 ?_|refine qB ?_|refine qT ?_|refine qU ?_|refine qL ?_|refine qK ?_|refine qF ?_|refine qE ?_|refine iF (fun h=>?_) (fun h=>?_)|refine aA ?_|refine aI (hn:=?_)|refine qR ?_|refine qS ?_|exact ⟨rfl,rfl⟩|fail)
   refine Nx.pick [0,3,4] [0,1,2,3,4,5,6,7,8,9,10,11,12,15] rfl rfl rfl ⟨m.mgd-(k+1),by omega,k+1,rfl,by omega,?_,?_⟩
   ·rw [hFk,List.length_append]; rfl
   ·have e:natI (F (k+1))=natI (F k)++[((m.man+k:Nat):Int)]:=by rw [hFk,natI,natI,List.map_append]; rfl
    rw [e]; rfl
  ·obtain rfl:k=m.mgd:=by omega
   exact L_ret (RetQ.pick [0,1,2,3,4,5,6,7,8,9,10,11,12,13] rfl rfl rfl rfl ⟨rfl,rfl⟩)
set_option maxHeartbeats 1000000 in
theorem hIn_tr (m:HM) (hm:HOk m) (page:Int):Tr Tryz.prog 77 [ptr 0,.int .i64 page] (HL m) (fun v K=>v=.slice (some ⟨13,0,none⟩) (inH m page).length (inH m page).length∧K=HL m++[.gro 1 (rowsC intC (inH m page))]):=by
 have hA:=hAll_tr m hm
 have hin:=fun k (h:k<(objI m).length)=>objI_in hm h
 have hol:=objI_len hm
 unfold inH
 generalize objI m=xs at *
 obtain ⟨F,hF⟩:∃ F:Nat→List Int,F=fun k=>(xs.take k).filter fun a=>decide (a / 256=page):=⟨_,rfl⟩
 have hF0:F 0=[]:=by rw [hF]; simp
 have hFs:∀ k (h:k<xs.length),F (k+1)=F k++(if xs[k] / 256=page then [xs[k]] else []):=fun k h=>by
  rw [hF]
  simp only
  rw [List.take_succ_eq_append_getElem h,List.filter_append]
  congr 1
  rw [List.filter_cons]
  simp only [decide_eq_true_eq]; rfl
 have hFl:∀ k,(F k).length≤4096:=fun k=>by
  rw [hF]
  have:=List.length_filter_le (fun a:Int=>decide (a / 256=page)) (xs.take k)
  rw [List.length_take] at this
  simp only; omega
 have hFe:F xs.length=xs.filter fun a=>decide (a / 256=page):=by rw [hF]; simp only; rw [List.take_length]
 rw [← hFe]
 refine Tr.of row_gheap_Heap_In_ok rfl ?_
 repeat' (first|refine qN ?_|refine dN ?_|refine d0 ?_|refine qB ?_|refine qT ?_|refine qU ?_|refine qL ?_|refine qK ?_|refine qF ?_|refine qE ?_|refine iF (fun h=>?_) (fun h=>?_)|refine aX ?_|(refine cF H13 (hA) ?_; conv=>whnf)|refine aA ?_|refine aI (hn:=?_)|refine aD ?_|refine qR ?_|refine qS ?_|exact ⟨rfl,rfl⟩|fail)
 refine LWp.nilE 5 1 rfl (LWp.pick [1,5,9,10,11] [0,1,2,3,4,5,6,7,8,9,10,11,12,13,14] rfl rfl rfl (L_loop (fun r l L=>∃ k:Nat,r=xs.length-k∧k≤xs.length∧l=[(1,.int .i64 page),(5,.slice (some ⟨14,0,none⟩) (F k).length (F k).length),(9,.slice (some ⟨13,0,none⟩) xs.length xs.length),(10,.int .i64 xs.length),(11,.int .i64 k)]∧L=HL m++[.gro 1 (rowsC intC xs),.gro 1 (rowsC intC (F k))]) xs.length ⟨0,rfl,by omega,by rw [hF0]; rfl,by rw [hF0]; rfl⟩ ?_))
 rintro r _ _ ⟨k,rfl,hk,rfl,rfl⟩
 first|refine L_seq (L_rs (S_done [] rfl (Nx.goL (iF (fun h=>L_skip (Nx.goL ?_)) (fun h=>L_exit ?_)))))|refine L_rs (S_done [] rfl (Nx.goL (L_seq (iF (fun h=>L_skip (Nx.goL ?_)) (fun h=>L_exit ?_)))))
 ·have hk2:k<xs.length:=by omega
  have hx:=hin k hk2
  have hFk:=hFs k hk2
  have hFlk:=hFl k
  repeat' (first|refine qN ?_|refine dN ?_|refine d0 ?_|refine qB ?_|refine qT ?_|refine qU ?_|refine qL ?_|refine qK ?_|refine qF ?_|refine qE ?_|refine iF (fun h=>?_) (fun h=>?_)|refine aX ?_|refine S_Q [] rfl rfl (QY.ldI rfl rfl (List.getElem?_eq_getElem hk2)) ?_|refine aA ?_|refine aI (hn:=?_)|refine aD ?_|refine qR ?_|refine qS ?_|exact ⟨rfl,rfl⟩|fail)
  ·rw [if_pos h] at hFk
   first|refine L_rs ?_|refine L_reg ?_ | skip
   refine eE rfl rfl (EW.appR1 (bytes:=8) (a:=xs[k]) intC_ok rfl (by kernel_rfl) rfl rfl rfl rfl rfl (by omega)) ?_
   conv=>whnf
   repeat' (first|refine qN ?_|refine dN ?_|refine d0 ?_|refine qB ?_|refine qT ?_|refine qU ?_|refine qL ?_|refine qK ?_|refine qF ?_|refine qE ?_|refine iF (fun h=>?_) (fun h=>?_)|refine aX ?_|refine aA ?_|refine aI (hn:=?_)|refine aD ?_|refine qR ?_|refine qS ?_|exact ⟨rfl,rfl⟩|fail)
   refine Nx.pick [1,5,9,10,11] [0,1,2,3,4,5,6,7,8,9,10,11,12,13,16] rfl rfl rfl ⟨xs.length-(k+1),by omega,k+1,rfl,by omega,?_,?_⟩
   ·rw [hFk,List.length_append]; rfl
   ·rw [hFk]; rfl
  ·rw [if_neg h,List.append_nil] at hFk
   refine Nx.pick [1,5,9,10,11] [0,1,2,3,4,5,6,7,8,9,10,11,12,13,14] rfl rfl rfl ⟨xs.length-(k+1),by omega,k+1,rfl,by omega,?_,by rw [hFk]; rfl⟩
   rw [hFk]; rfl
 ·obtain rfl:k=xs.length:=by omega
  refine Nx.goL ?_
  repeat' (first|refine qN ?_|refine dN ?_|refine d0 ?_|refine qB ?_|refine qT ?_|refine qU ?_|refine qL ?_|refine qK ?_|refine qF ?_|refine qE ?_|refine iF (fun h=>?_) (fun h=>?_)|refine aX ?_|refine aA ?_|refine aI (hn:=?_)|refine aD ?_|refine qR ?_|refine qS ?_|exact ⟨rfl,rfl⟩|fail)
  exact L_ret (RetQ.pick [0,1,2,3,4,5,6,7,8,9,10,11,12,14] rfl rfl rfl rfl ⟨rfl,rfl⟩)
theorem hTidy_no (m:HM) (a:Int) (h:mgP m.rs a=false):Tr Tryz.prog 58 [ptr 0,.int .i64 a] (HL m) (fun v K=>v=.int .i64 6∧K=HL m):=by
 have hM:=hManaged_tr m a
 rw [h] at hM
 refine Tr.of row_gheap_Heap_Tidy_ok rfl ?_
 repeat' (first|refine qN ?_|refine dN ?_|refine dR ?_|refine d0 ?_|refine qB ?_|refine rT ?_|refine qT ?_|refine qU ?_|refine qL ?_|refine qK ?_|refine iF (fun h=>?_) (fun h=>?_)|refine cP H13 (hM) ?_|refine aI (hn:=?_)|refine qR ?_|refine qS ?_|exact ⟨rfl,rfl⟩|fail)
set_option maxHeartbeats 1000000 in
theorem hTidy_full (m:HM) (hm:HOk m) (a:Int) (h:mgP m.rs a=true) (h2:inH m a≠[]):Tr Tryz.prog 58 [ptr 0,.int .i64 a] (HL m) (fun v K=>v=.int .i64 8∧K=HL m):=by
 have hM:=hManaged_tr m a
 rw [h] at hM
 have hI:=hIn_tr m hm a
 have hl:0<(inH m a).length:=List.length_pos_iff.2 h2
 refine Tr.of row_gheap_Heap_Tidy_ok rfl ?_
 repeat' (first|refine qN ?_|refine dN ?_|refine dR ?_|refine d0 ?_|refine qB ?_|refine rT ?_|refine qT ?_|refine qU ?_|refine qL ?_|refine qK ?_|refine iF (fun h=>?_) (fun h=>?_)|refine cP H13 (hM) ?_|(refine cF H13 (hI) ?_; conv=>whnf)|refine aI (hn:=?_)|refine qR ?_|refine qS ?_|exact ⟨rfl,rfl⟩|fail)
 exfalso; omega
set_option maxHeartbeats 1000000 in
theorem hTidy_ok (m:HM) (hm:HOk m) (p:Nat) (h:mgP m.rs p=true) (h2:inH m p=[]):Tr Tryz.prog 58 [ptr 0,.int .i64 p] (HL m) (fun v K=>v=.int .i64 0∧K=HL (tidyM m p)):=by
 have hn1:=hm.n1
 have hnr:=hm.nr
 have hM:=hManaged_tr m p
 rw [h] at hM
 have hI:=hIn_tr m hm p
 rw [h2] at hI
 have hP:=regPages_tr m.man m.mgd 1#64 m.bs m.rs m.G m.c
 have hk:(pAt m.rs p).kind=4:=of_decide_eq_true h
 obtain ⟨_,hp2,hp3⟩:=mgP_in h
 obtain ⟨_,_,hrun⟩:=hm.row p hk
 have hlt:p<m.rs.length:=by
  obtain ⟨q,h1,h3,_⟩:=mgP_in h; omega
 have hU:=unmap_ok m.rs (by omega) p 1 (by unfold firstP; rw [hk]; decide) (by rw [hrun]; rfl) (by omega)
 have hl:=clearP_length (rs:=m.rs) (a:=p) (m:=1) (by omega)
 simp only [TL,hl] at hU
 simp only [HL,tidyM,hl]
 refine Tr.of row_gheap_Heap_Tidy_ok rfl ?_
 repeat' (first|refine qN ?_|refine dN ?_|refine dR ?_|refine d0 ?_|refine qB ?_|refine rT ?_|refine qT ?_|refine qU ?_|refine qL ?_|refine qK ?_|refine iF (fun h=>?_) (fun h=>?_)|refine cP H13 (hM) ?_|(refine cF H13 (hI) ?_; conv=>whnf)|(refine cF [1,2,3,4,5,6,7,8] (hP) ?_; conv=>whnf)|(refine cF [4,5] (hU) ?_; conv=>whnf)|refine aI (hn:=?_)|refine qR ?_|refine qS ?_|exact ⟨rfl,rfl⟩|fail)
set_option maxHeartbeats 1000000 in
theorem hRoom_tr (m:HM) (hm:HOk m) (r n:Int):Tr Tryz.prog 67 [ptr 0,shV r n] (HL m) (fun v K=>v=.bool (roomH m r n)∧K=HL m):=by
 have hn1:=hm.n1
 have hnr:=hm.nr
 obtain ⟨hc1,hc2⟩:=cOf_ok (r:=r) (n:=n)
 have hC:=shClass_tr r n
 rw [hc1] at hC
 have hP:=hPlace_tr m hm (cOf r n) hc2
 have hR:=regPages_tr m.man m.mgd 1#64 m.bs m.rs m.G m.c
 have hL:=longest_tr m.rs m.man (m.man+m.mgd:Nat) (by omega)
 obtain ⟨e1,e2,_⟩:=cut_lo hm
 rw [e1,e2] at hL
 refine Tr.of row_gheap_Heap_Room_ok rfl ?_
 unfold roomH
 cases hs:shOk r n
 ·rw [hs] at hC
  repeat' (first|refine qN ?_|refine dN ?_|refine dR ?_|refine d0 ?_|refine rT ?_|refine qT ?_|refine qU ?_|refine qL ?_|refine qK ?_|refine iF (fun h=>?_) (fun h=>?_)|refine cP [] (hC) ?_|refine aI (hn:=?_)|refine sP 16 (fun h=>?_) (fun h=>?_)|refine sP 27 (fun h=>?_) (fun h=>?_)|refine qR ?_|refine qS ?_|exact ⟨rfl,rfl⟩|fail)
 ·rw [hs] at hC
  cases hq:placeH m.rs m.hw (cOf r n) m.mgd m.man with
  | some a =>
   rw [hq] at hP
   repeat' (first|refine qN ?_|refine dN ?_|refine dR ?_|refine d0 ?_|refine rT ?_|refine qT ?_|refine qU ?_|refine qL ?_|refine qK ?_|refine iF (fun h=>?_) (fun h=>?_)|refine cP [] (hC) ?_|refine cP H13 (hP) ?_|refine aI (hn:=?_)|refine sP 16 (fun h=>?_) (fun h=>?_)|refine sP 27 (fun h=>?_) (fun h=>?_)|refine qR ?_|refine qS ?_|exact ⟨rfl,rfl⟩|fail)
  | none =>
   rw [hq] at hP
   repeat' (first|refine qN ?_|refine dN ?_|refine dR ?_|refine d0 ?_|refine rT ?_|refine qT ?_|refine qU ?_|refine qL ?_|refine qK ?_|refine iF (fun h=>?_) (fun h=>?_)|refine cP [] (hC) ?_|refine cP H13 (hP) ?_|(refine cF [1,2,3,4,5,6,7,8] (hR) ?_; conv=>whnf)|refine cP [4,5] (hL) ?_|refine aI (hn:=?_)|refine sP 16 (fun h=>?_) (fun h=>?_)|refine sP 27 (fun h=>?_) (fun h=>?_)|refine qR ?_|refine qS ?_|exact ⟨rfl,rfl⟩|fail)
end Go.Proofs.YthmdialagibpfaaGreatDoor
end
section
namespace Go.Proofs.YthmdialagibpfaaGreatDoor
open Go Go.Tum Go.Tum.Base
set_option maxRecDepth 4000
theorem hAlloc_arg (m:HM) (r n:Int) (h:shOk r n=false):Tr Tryz.prog 50 [ptr 0,shV r n] (HL m) (fun v K=>v=.tuple ⟨[.int .i64 0,.int .i64 1]⟩∧K=HL m):=by
 have hC:=shClass_tr r n
 rw [h] at hC
 refine Tr.of row_gheap_Heap_Alloc_ok rfl ?_
 repeat' (first|refine qN ?_|refine dN ?_|refine dR ?_|refine d0 ?_|refine qB ?_|refine rT ?_|refine qT ?_|refine qU ?_|refine qL ?_|refine qK ?_|refine iF (fun h=>?_) (fun h=>?_)|refine cP [] (hC) ?_|refine aI (hn:=?_)|refine aD ?_|refine qR ?_|refine qS ?_|exact ⟨rfl,rfl⟩|fail)
set_option maxHeartbeats 1000000 in
theorem hAlloc_full (m:HM) (hm:HOk m) (r n:Int) (h:shOk r n=true) (h1:placeH m.rs m.hw (cOf r n) m.mgd m.man=none) (h2:placeP m.rs 1 m.mgd m.man 0=none):Tr Tryz.prog 50 [ptr 0,shV r n] (HL m) (fun v K=>v=.tuple ⟨[.int .i64 0,.int .i64 5]⟩∧K=HL m):=by
 have hn1:=hm.n1
 have hnr:=hm.nr
 obtain ⟨hc1,hc2⟩:=cOf_ok (r:=r) (n:=n)
 have hC:=shClass_tr r n
 rw [hc1,h] at hC
 have hP:=hPlace_tr m hm (cOf r n) hc2
 rw [h1] at hP
 have hR:=regPages_tr m.man m.mgd 1#64 m.bs m.rs m.G m.c
 obtain ⟨e1,e2,_⟩:=cut_lo hm
 have hM:=map_full m.rs m.man (m.man+m.mgd:Nat) (by omega) (mrow (cOf r n)) (by omega) (by rfl) ⟨by show (1:Int)≤1; omega,by show (1:Int)≤256; omega⟩ (by rw [e1,e2]; exact h2)
 refine Tr.of row_gheap_Heap_Alloc_ok rfl ?_
 repeat' (first|refine qN ?_|refine dN ?_|refine dR ?_|refine d0 ?_|refine qB ?_|refine rT ?_|refine qT ?_|refine qU ?_|refine qL ?_|refine qK ?_|refine iF (fun h=>?_) (fun h=>?_)|refine cP [] (hC) ?_|refine cP H13 (hP) ?_|(refine cF [1,2,3,4,5,6,7,8] (hR) ?_; conv=>whnf)|refine cP [4,5] (hM) ?_|refine aI (hn:=?_)|refine aD ?_|refine qR ?_|refine qS ?_|exact ⟨rfl,rfl⟩|fail)
set_option maxHeartbeats 2000000 in
theorem hAlloc_in (m:HM) (hm:HOk m) (r n:Int) (h:shOk r n=true) (a:Nat) (h1:placeH m.rs m.hw (cOf r n) m.mgd m.man=some a):Tr Tryz.prog 50 [ptr 0,shV r n] (HL m) (fun v K=>v=.tuple ⟨[.int .i64 a,.int .i64 0]⟩∧K=HL (allocM m a none r n)):=by
 have hn1:=hm.n1
 have hnr:=hm.nr
 have hnb:=hm.nb
 have hlh:=hm.lh
 obtain ⟨hc1,hc2⟩:=cOf_ok (r:=r) (n:=n)
 have hroom:=cOf_room h
 have hr:=shOk_t h
 have hC:=shClass_tr r n
 rw [hc1,h] at hC
 have hP:=hPlace_tr m hm (cOf r n) hc2
 rw [h1] at hP
 change Tr Tryz.prog _ _ _ (fun v K=>v=.tuple ⟨[.int .i64 (a:Int),.bool true]⟩∧K=HL m) at hP
 have hA:=regArena_tr m.man m.mgd 1#64 m.bs m.rs m.G m.c
 obtain ⟨q,j,hq1,hq2,hq3,hj,ha,hb⟩:=placeH_some h1
 have hz:=szC_cases (cOf r n)
 have h0:(j+1)*szC (cOf r n)≤256:=Nat.le_trans (Nat.mul_le_mul_right _ hj) (Nat.div_mul_le_self _ _)
 have ha2:a % 16=0∧a+szC (cOf r n)≤256*(m.man+m.mgd):=by
  rw [Nat.mul_comm] at h0
  rw [ha]
  rcases hz with e | e | e | e <;> rw [e] at h0 ⊢ <;> omega
 have hM:=objMake_ok m.bs (by omega) a r n h (by omega) (by omega)
 have hl:=madeO_length (bs:=m.bs) (i:=a) h (by omega)
 have hB:=bsPut_ok m.hw (16*(m.man+m.mgd)) (by omega) (by omega) (a / 16) (by omega) true
 simp only [AL,hl] at hM
 simp only [BS,putBit_length] at hB
 simp only [HL,allocM,putBit_length,hl]
 refine Tr.of row_gheap_Heap_Alloc_ok rfl ?_
 repeat' (first|refine qN ?_|refine dN ?_|refine dR ?_|refine d0 ?_|refine qB ?_|refine rT ?_|refine qT ?_|refine qU ?_|refine qL ?_|refine qK ?_|refine iF (fun h=>?_) (fun h=>?_)|refine cP [] (hC) ?_|refine cP H13 (hP) ?_|(refine cF [1,2,3,4,5,6,7,8] (hA) ?_; conv=>whnf)|(refine cF [2,3] (hM) ?_; conv=>whnf)|refine S_Q [] rfl rfl (QY.divN (c:=((a / 16:Nat):Int)) rfl rfl (by omega) (by omega) (by omega)) ?_|(refine cF [9,10] (hB) ?_; conv=>whnf)|refine aI (hn:=?_)|refine aD ?_|refine qR ?_|refine qS ?_|exact ⟨rfl,rfl⟩|fail)
set_option maxHeartbeats 2000000 in
theorem hAlloc_new (m:HM) (hm:HOk m) (r n:Int) (h:shOk r n=true) (A:Nat) (h1:placeH m.rs m.hw (cOf r n) m.mgd m.man=none) (h2:placeP m.rs 1 m.mgd m.man 0=some (A:Int)) (hA1:A<m.man+m.mgd):Tr Tryz.prog 50 [ptr 0,shV r n] (HL m) (fun v K=>v=.tuple ⟨[.int .i64 (256*A:Nat),.int .i64 0]⟩∧K=HL (allocM m (256*A) (some A) r n)):=by
 have hn1:=hm.n1
 have hnr:=hm.nr
 have hnb:=hm.nb
 have hlh:=hm.lh
 obtain ⟨hc1,hc2⟩:=cOf_ok (r:=r) (n:=n)
 have hroom:=cOf_room h
 have hr:=shOk_t h
 have hC:=shClass_tr r n
 rw [hc1,h] at hC
 have hP:=hPlace_tr m hm (cOf r n) hc2
 rw [h1] at hP
 have hR:=regPages_tr m.man m.mgd 1#64 m.bs m.rs m.G m.c
 obtain ⟨e1,e2,_⟩:=cut_lo hm
 have hM:=map_ok m.rs m.man (m.man+m.mgd:Nat) (by omega) (mrow (cOf r n)) (by omega) (by rfl) A 1 rfl (by omega) (by omega) (by rw [e1,e2]; exact h2)
 have hrl:=layP_length (rs:=m.rs) (a:=A) (m:=1) (r:=mrow (cOf r n)) (by omega) (by omega)
 have hBs:=base_tr A (cOf r n) 0 (by omega) hc2 (by rcases szC_cases (cOf r n) with e | e | e | e <;> rw [e] <;> decide)
 rw [Nat.mul_zero,Nat.add_zero] at hBs
 have hAr:=regArena_tr m.man m.mgd 1#64 m.bs (layP m.rs A (mrow (cOf r n)) 1) m.G m.c
 have hz:=szC_cases (cOf r n)
 have hO:=objMake_ok m.bs (by omega) (256*A) r n h (by omega) (by omega)
 have hl:=madeO_length (bs:=m.bs) (i:=256*A) h (by omega)
 have hB:=bsPut_ok m.hw (16*(m.man+m.mgd)) (by omega) (by omega) (256*A / 16) (by omega) true
 simp only [TL,hrl] at hM
 simp only [RL,hrl] at hAr
 simp only [AL,hl] at hO
 simp only [BS,putBit_length] at hB
 simp only [HL,allocM,putBit_length,hl,hrl]
 refine Tr.of row_gheap_Heap_Alloc_ok rfl ?_
 repeat' (first|refine qN ?_|refine dN ?_|refine dR ?_|refine d0 ?_|refine qB ?_|refine rT ?_|refine qT ?_|refine qU ?_|refine qL ?_|refine qK ?_|refine iF (fun h=>?_) (fun h=>?_)|refine cP [] (hC) ?_|refine cP H13 (hP) ?_|(refine cF [1,2,3,4,5,6,7,8] (hR) ?_; conv=>whnf)|(refine cF [4,5] (hM) ?_; conv=>whnf)|refine cP [] (hBs) ?_|(refine cF [1,2,3,4,5,6,7,8] (hAr) ?_; conv=>whnf)|(refine cF [2,3] (hO) ?_; conv=>whnf)|refine S_Q [] rfl rfl (QY.divN (c:=((256*A / 16:Nat):Int)) rfl rfl (by omega) (by omega) (by omega)) ?_|(refine cF [9,10] (hB) ?_; conv=>whnf)|refine aI (hn:=?_)|refine aD ?_|refine qR ?_|refine qS ?_|exact ⟨rfl,rfl⟩|fail)
end Go.Proofs.YthmdialagibpfaaGreatDoor
end
section
namespace Go.Proofs.YthmdialagibpfaaGreatDoor
open Go Go.Tum Go.Tum.Base
set_option maxRecDepth 4000
theorem rMark_no (m:HM) (hm:HOk m) (gl:List Gb) (a:Int) (h:hasH m a=false):TrK Tryz.prog [] [0,1,5,6] 56 [ptr 0,.int .i64 a] (RHm m gl) (fun v K=>v=.bool false∧K=RHm m gl):=by
 have hI:=rIndex_tr m.man (m.man+m.mgd) m.bs m.rs (obs m) gl (obs_len hm) a
 rw [idx_no h] at hI
 refine Tr.of row_tumbrelref18_Heap_Mark_ok rfl ?_
 repeat' (first|refine qN ?_|refine dN ?_|refine dR ?_|refine d0 ?_|refine rT ?_|refine qT ?_|refine qU ?_|refine qL ?_|refine qK ?_|refine iF (fun h=>?_) (fun h=>?_)|refine aX ?_|refine cP R9 (hI) ?_|refine aI (hn:=?_)|refine sP 12 (fun h=>?_) (fun h=>?_)|refine qR ?_|refine qS ?_|exact ⟨rfl,rfl⟩|fail)
set_option maxHeartbeats 1000000 in
theorem rMark_ok (m:HM) (hm:HOk m) (gl:List Gb) (i:Nat) (hi:i<16*(m.man+m.mgd)) (h:bitAt m.hw i=true):TrK Tryz.prog [] [0,1,5,6] 56 [ptr 0,.int .i64 (16*i:Nat)] (RHm m gl) (fun v K=>v=.bool (!bitAt m.mw i)∧K=RHm (if bitAt m.mw i then m else markM m i) gl):=by
 obtain ⟨j,h1,h2,h3,h4⟩:=idx_at hi h
 have hL:=obs_len hm
 have hI:=rIndex_tr m.man (m.man+m.mgd) m.bs m.rs (obs m) gl hL (16*i:Nat)
 rw [h1] at hI
 have hset:=obs_mark hm hi h4
 refine Tr.of row_tumbrelref18_Heap_Mark_ok rfl ?_
 cases hb:bitAt m.mw i
 ·rw [hb] at h3
  rw [if_neg (by decide)]
  have hK:RHm (markM m i) gl=RHL m.man (m.man+m.mgd) m.bs m.rs ((obs m).set j (((16*i:Nat):Int),true)) gl:=by rw [hset]; rfl
  rw [hK]
  have hl2:((obs m).set j (((16*i:Nat):Int),true)).length=(obs m).length:=List.length_set
  repeat' (first|refine qN ?_|refine dN ?_|refine d0 ?_|refine qT ?_|refine qU ?_|refine qL ?_|refine qK ?_|refine iF (fun h=>?_) (fun h=>?_)|refine aX ?_|refine cP R9 (hI) ?_|refine S_Q [] rfl rfl (QY.ldF (j:=1) (u:=.bool false) obC_ok rfl rfl h3 rfl rfl) ?_|refine aI (hn:=?_)|refine sP 12 (fun h=>?_) (fun h=>?_)|refine qR ?_|refine qS ?_|exact ⟨rfl,rfl⟩|fail)
  refine S_wk [] rfl (wk_gro0 (b:=9) 2 rfl) ?_
  first|refine L_rs ?_|refine L_reg ?_ | skip
  refine eE rfl rfl (EW.appRR (bytes:=16) (xs:=[]) (ys:=obs m) obC_ok rfl (by kernel_rfl) rfl rfl rfl rfl rfl rfl (by decide) (by omega)) ?_
  conv=>whnf
  rw [Nat.zero_add]
  repeat' (first|refine qN ?_|refine dN ?_|refine d0 ?_|refine qT ?_|refine qU ?_|refine qL ?_|refine qK ?_|refine iF (fun h=>?_) (fun h=>?_)|refine aX ?_|refine aI (hn:=?_)|refine sP 12 (fun h=>?_) (fun h=>?_)|refine qR ?_|refine qS ?_|exact ⟨rfl,rfl⟩|fail)
  first|refine L_rs ?_|refine L_reg ?_ | skip
  refine eE rfl rfl (EW.stF (k:=j) (j:=1) (a:=(((16*i:Nat):Int),false)) (a':=(((16*i:Nat):Int),true)) (u:=.bool true) obC_ok rfl rfl rfl h3 (by decide) rfl rfl) ?_
  conv=>whnf
  repeat' (first|refine qN ?_|refine dN ?_|refine d0 ?_|refine qT ?_|refine qU ?_|refine qL ?_|refine qK ?_|refine iF (fun h=>?_) (fun h=>?_)|refine aX ?_|refine aI (hn:=?_)|refine sP 12 (fun h=>?_) (fun h=>?_)|refine qR ?_|refine qS ?_|exact ⟨rfl,rfl⟩|fail)
  refine L_ret (RetQ.pick [0,1,10,3,4,5,6,7,8] rfl rfl rfl rfl ⟨rfl,?_⟩)
  unfold RHL; rw [hl2]; rfl
 ·rw [hb] at h3
  rw [if_pos rfl]
  repeat' (first|refine qN ?_|refine dN ?_|refine dR ?_|refine d0 ?_|refine rT ?_|refine qT ?_|refine qU ?_|refine qL ?_|refine qK ?_|refine iF (fun h=>?_) (fun h=>?_)|refine aX ?_|refine cP R9 (hI) ?_|refine S_Q [] rfl rfl (QY.ldF (j:=1) (u:=.bool true) obC_ok rfl rfl h3 rfl rfl) ?_|refine aI (hn:=?_)|refine sP 12 (fun h=>?_) (fun h=>?_)|refine qR ?_|refine qS ?_|exact ⟨rfl,rfl⟩|fail)
set_option maxHeartbeats 1000000 in
theorem rUnmark_tr (m:HM) (hm:HOk m) (gl:List Gb):TrK Tryz.prog [] [0,1,5,6] 42 [ptr 0] (RHm m gl) (fun v K=>v=.int .i64 (markN (obs m))∧K=RHm (unmarkM m) gl):=by
 have hL:=obs_len hm
 have hK:RHm (unmarkM m) gl=RHL m.man (m.man+m.mgd) m.bs m.rs ((obs m).map fun x=>(x.1,false)) gl:=by rw [RHm,obs_unmark]; rfl
 rw [hK]
 unfold RHm
 generalize obs m=L at *
 have hl2:(L.map fun x=>(x.1,false)).length=L.length:=List.length_map _
 obtain ⟨F,hF⟩:∃ F:Nat→List Ob,F=fun k=>(L.take k).map fun x=>(x.1,false):=⟨_,rfl⟩
 have hF0:F 0=[]:=by rw [hF]; simp
 have hFs:∀ k (h:k<L.length),F (k+1)=F k++[(L[k].1,false)]:=fun k h=>by
  rw [hF]; simp only; rw [List.take_succ_eq_append_getElem h,List.map_append]; rfl
 have hFl:∀ k,k≤L.length→(F k).length=k:=fun k hk=>by rw [hF]; simp only [List.length_map,List.length_take]; omega
 have hFe:F L.length=L.map fun x=>(x.1,false):=by rw [hF]; simp only; rw [List.take_length]
 have hNs:∀ k (h:k<L.length),markN (L.take (k+1))=markN (L.take k)+(if L[k].2 then 1 else 0):=fun k h=>by
  unfold markN
  rw [List.take_succ_eq_append_getElem h,List.filter_append,List.length_append,List.filter_cons]
  split <;> rfl
 have hNl:∀ k,markN (L.take k)≤4096:=fun k=>by
  unfold markN
  have:=List.length_filter_le (fun x:Ob=>x.2) (L.take k)
  rw [List.length_take] at this
  omega
 rw [← hFe] at hl2 ⊢
 refine Tr.of row_tumbrelref18_Heap_Unmark_ok rfl ?_
 repeat' (first|refine qN ?_|refine dN ?_|refine d0 ?_|refine qB ?_|refine qT ?_|refine qU ?_|refine qL ?_|refine qK ?_|refine qF ?_|refine qE ?_|refine iF (fun h=>?_) (fun h=>?_)|refine aX ?_|refine aA ?_|refine aI (hn:=?_)|refine qR ?_|refine qS ?_|exact ⟨rfl,rfl⟩|fail)
 refine LWp.nilE 4 2 rfl (LWp.pick [0,3,4,10,11,12] [0,1,2,3,4,5,6,7,8,9] rfl rfl rfl (L_loop (fun q l K=>∃ k:Nat,q=L.length-k∧k≤L.length∧l=[(0,ptr 0),(3,.int .i64 (markN (L.take k))),(4,slB 9 k),(10,slB 2 L.length),(11,.int .i64 L.length),(12,.int .i64 k)]∧K=RHL m.man (m.man+m.mgd) m.bs m.rs L gl++[.gro 2 (rowsC obC (F k))]) L.length ⟨0,rfl,by omega,rfl,by rw [hF0]; rfl⟩ ?_))
 rintro q _ _ ⟨k,rfl,hk,rfl,rfl⟩
 first|refine L_seq (L_rs (S_done [] rfl (Nx.goL (iF (fun h=>L_skip (Nx.goL ?_)) (fun h=>L_exit ?_)))))|refine L_rs (S_done [] rfl (Nx.goL (L_seq (iF (fun h=>L_skip (Nx.goL ?_)) (fun h=>L_exit ?_)))))
 ·have hk2:k<L.length:=by omega
  have hg:L[k]?=some L[k]:=List.getElem?_eq_getElem hk2
  have hFk:=hFs k hk2
  have hNk:=hNs k hk2
  have hNk2:=hNl k
  obtain ⟨x,hx⟩:∃ x,x=L[k]:=⟨_,rfl⟩
  rw [← hx] at hg hFk hNk
  obtain ⟨a,b⟩:=x
  cases b
  ·change markN _=markN _+0 at hNk
   rw [Nat.add_zero] at hNk
   repeat' (first|refine qN ?_|refine dN ?_|refine d0 ?_|refine qB ?_|refine qT ?_|refine qU ?_|refine qL ?_|refine qK ?_|refine qF ?_|refine qE ?_|refine iF (fun h=>?_) (fun h=>?_)|refine aX ?_|refine S_Q [] rfl rfl (QY.ldRow (a:=(a,false)) obC_ok rfl rfl hg (by decide)) ?_|refine aA ?_|refine aI (hn:=?_)|refine qR ?_|refine qS ?_|exact ⟨rfl,rfl⟩|fail)
   first|refine L_rs ?_|refine L_reg ?_ | skip
   refine eE rfl rfl (EW.appR1 (bytes:=16) (a:=(a,false)) obC_ok rfl (by kernel_rfl) rfl rfl rfl rfl (hFl k hk) (by omega)) ?_
   conv=>whnf
   repeat' (first|refine qN ?_|refine dN ?_|refine d0 ?_|refine qB ?_|refine qT ?_|refine qU ?_|refine qL ?_|refine qK ?_|refine qF ?_|refine qE ?_|refine iF (fun h=>?_) (fun h=>?_)|refine aX ?_|refine aA ?_|refine aI (hn:=?_)|refine qR ?_|refine qS ?_|exact ⟨rfl,rfl⟩|fail)
   exact Nx.pick [0,3,4,10,11,12] [0,1,2,3,4,5,6,7,8,12] rfl rfl rfl ⟨L.length-(k+1),by omega,k+1,rfl,by omega,by rw [hNk]; rfl,by rw [hFk]; rfl⟩
  ·change markN _=markN _+1 at hNk
   repeat' (first|refine qN ?_|refine dN ?_|refine d0 ?_|refine qB ?_|refine qT ?_|refine qU ?_|refine qL ?_|refine qK ?_|refine qF ?_|refine qE ?_|refine iF (fun h=>?_) (fun h=>?_)|refine aX ?_|refine S_Q [] rfl rfl (QY.ldRow (a:=(a,true)) obC_ok rfl rfl hg (by decide)) ?_|refine aA ?_|refine aI (hn:=?_)|refine qR ?_|refine qS ?_|exact ⟨rfl,rfl⟩|fail)
   first|refine L_rs ?_|refine L_reg ?_ | skip
   refine eE rfl rfl (EW.appR1 (bytes:=16) (a:=(a,false)) obC_ok rfl (by kernel_rfl) rfl rfl rfl rfl (hFl k hk) (by omega)) ?_
   conv=>whnf
   repeat' (first|refine qN ?_|refine dN ?_|refine d0 ?_|refine qB ?_|refine qT ?_|refine qU ?_|refine qL ?_|refine qK ?_|refine qF ?_|refine qE ?_|refine iF (fun h=>?_) (fun h=>?_)|refine aX ?_|refine aA ?_|refine aI (hn:=?_)|refine qR ?_|refine qS ?_|exact ⟨rfl,rfl⟩|fail)
   exact Nx.pick [0,3,4,10,11,12] [0,1,2,3,4,5,6,7,8,12] rfl rfl rfl ⟨L.length-(k+1),by omega,k+1,rfl,by omega,by rw [hNk]; rfl,by rw [hFk]; rfl⟩
 ·obtain rfl:k=L.length:=by omega
  refine Nx.goL ?_
  repeat' (first|refine qN ?_|refine dN ?_|refine d0 ?_|refine qB ?_|refine qT ?_|refine qU ?_|refine qL ?_|refine qK ?_|refine qF ?_|refine qE ?_|refine iF (fun h=>?_) (fun h=>?_)|refine aX ?_|refine aA ?_|refine aI (hn:=?_)|refine qR ?_|refine qS ?_|exact ⟨rfl,rfl⟩|fail)
  refine L_ret (RetQ.pick [0,1,9,3,4,5,6,7,8] rfl rfl rfl rfl ⟨by rw [List.take_length]; rfl,?_⟩)
  unfold RHL; rw [hl2]; rfl
theorem rFree_no (m:HM) (hm:HOk m) (gl:List Gb) (a:Int) (h:hasH m a=false):TrK Tryz.prog [] [0,1,5,6] 54 [ptr 0,.int .i64 a] (RHm m gl) (fun v K=>v=.int .i64 6∧K=RHm m gl):=by
 have hI:=rIndex_tr m.man (m.man+m.mgd) m.bs m.rs (obs m) gl (obs_len hm) a
 rw [idx_no h] at hI
 refine Tr.of row_tumbrelref18_Heap_Free_ok rfl ?_
 repeat' (first|refine qN ?_|refine dN ?_|refine dR ?_|refine d0 ?_|refine qB ?_|refine rT ?_|refine qT ?_|refine qU ?_|refine qL ?_|refine qK ?_|refine qF ?_|refine qE ?_|refine iF (fun h=>?_) (fun h=>?_)|refine aX ?_|refine cP R9 (hI) ?_|refine aA ?_|refine aI (hn:=?_)|refine aD ?_|refine qR ?_|refine qS ?_|exact ⟨rfl,rfl⟩|fail)
set_option maxHeartbeats 2000000 in
theorem rFree_ok (m:HM) (hm:HOk m) (gl:List Gb) (i:Nat) (hi:i<16*(m.man+m.mgd)) (h:bitAt m.hw i=true):TrK Tryz.prog [] [0,1,5,6] 54 [ptr 0,.int .i64 (16*i:Nat)] (RHm m gl) (fun v K=>v=.int .i64 0∧K=RHm (freeM m i) gl):=by
 have hn1:=hm.n1
 have hnb:=hm.nb
 have hnr:=hm.nr
 obtain ⟨j,h1,h2,h3,h4⟩:=idx_at hi h
 have hL:=obs_len hm
 have hI:=rIndex_tr m.man (m.man+m.mgd) m.bs m.rs (obs m) gl hL (16*i:Nat)
 rw [h1] at hI
 have hfr:=obs_free hm hi h4
 obtain ⟨c,hc,hcl,hroom⟩:=obj_room hm hi h
 have hZ:=rSize_tr c
 rw [sizeC_sz hc] at hZ
 have hp:i / 16<m.rs.length:=by omega
 have hg:m.rs[i / 16]?=some m.rs[i / 16]:=List.getElem?_eq_getElem hp
 have hgc:m.rs[i / 16].cls=c:=by rw [← hcl,pAt_nat,List.getD_eq_getElem?_getD,hg]; rfl
 have hK:RHm (freeM m i) gl=RHL m.man (m.man+m.mgd) (overB m.bs (16*i) (List.replicate (szC c) 221#8)) m.rs ((obs m).take j++(obs m).drop (j+1)) gl:=by
  rw [hfr,RHm]; unfold freeM; rw [hcl]; rfl
 have hl:∀ k,k≤szC c→(overB m.bs (16*i) (List.replicate k 221#8)).length=m.bs.length:=fun k hk=>overB_length (by rw [List.length_replicate]; omega)
 have hzc:=szC_cases c
 have hl3:((obs m).take j++(obs m).drop (j+1)).length=j+((obs m).length-(j+1)):=by simp; omega
 rw [hK]
 refine Tr.of row_tumbrelref18_Heap_Free_ok rfl ?_
 repeat' (first|refine qN ?_|refine dN ?_|refine d0 ?_|refine qB ?_|refine qT ?_|refine qU ?_|refine qL ?_|refine qK ?_|refine qF ?_|refine qE ?_|refine iF (fun h=>?_) (fun h=>?_)|refine aX ?_|refine cP R9 (hI) ?_|refine aA ?_|refine aI (hn:=?_)|refine aD ?_|refine qR ?_|refine qS ?_|exact ⟨rfl,rfl⟩|fail)
 first|refine L_rs ?_|refine L_reg ?_ | skip
 refine S_Q [] rfl rfl (QY.slc0 (b:=2) (lo':=0) (hi':=j) rfl rfl rfl (by omega) (by omega)) ?_
 first|refine L_rs ?_|refine L_reg ?_ | skip
 refine S_Q [] rfl rfl (QY.add (c:=((j+1:Nat):Int)) rfl rfl (by omega) (by omega) (by omega)) ?_
 first|refine L_rs ?_|refine L_reg ?_ | skip
 refine S_Q [] rfl rfl (QY.slc0 (b:=2) (lo':=j+1) (hi':=(obs m).length) rfl rfl rfl (by omega) (by omega)) ?_
 rw [Nat.sub_zero]
 first|refine L_rs ?_|refine L_reg ?_ | skip
 refine eE rfl rfl (esafe_ok rfl) ?_
 conv=>whnf
 refine S_wk [] rfl (wk_gro0 (b:=9) 2 rfl) ?_
 first|refine L_rs ?_|refine L_reg ?_ | skip
 refine eE rfl rfl (EW.appRS (bytes:=16) (i:=0) (xs:=[]) (ys:=obs m) obC_ok rfl (by kernel_rfl) rfl rfl rfl rfl rfl rfl (by omega) (by decide) (by omega)) ?_
 conv=>whnf
 rw [Nat.zero_add,show []++((obs m).drop 0).take j=(obs m).take j by simp]
 first|refine L_rs ?_|refine L_reg ?_ | skip
 refine eE rfl rfl (EW.appRS (bytes:=16) (i:=j+1) (xs:=(obs m).take j) (ys:=obs m) obC_ok rfl (by kernel_rfl) rfl rfl rfl rfl rfl (by rw [List.length_take]; omega) (by omega) (by decide) (by omega)) ?_
 conv=>whnf
 rw [show ((obs m).drop (j+1)).take ((obs m).length-(j+1))=(obs m).drop (j+1) from List.take_of_length_le (by rw [List.length_drop]; omega)]
 generalize hL':(obs m).take j++(obs m).drop (j+1)=L' at *
 rw [← hl3]
 repeat' (first|refine qN ?_|refine dN ?_|refine d0 ?_|refine qB ?_|refine qT ?_|refine qU ?_|refine qL ?_|refine qK ?_|refine qF ?_|refine qE ?_|refine iF (fun h=>?_) (fun h=>?_)|refine aX ?_|refine aA ?_|refine aI (hn:=?_)|refine aD ?_|refine qR ?_|refine qS ?_|exact ⟨rfl,rfl⟩|fail)
 refine S_wk [] rfl (wk_gro0 (b:=12) 1 rfl) ?_
 first|refine L_rs ?_|refine L_reg ?_ | skip
 refine eE rfl rfl (EW.appRR (bytes:=1) (xs:=[]) (ys:=m.bs) byteC_ok rfl (by kernel_rfl) rfl rfl rfl rfl rfl rfl (by decide) (by omega)) ?_
 conv=>whnf
 rw [Nat.zero_add]
 repeat' (first|refine qN ?_|refine dN ?_|refine d0 ?_|refine qB ?_|refine qT ?_|refine qU ?_|refine qL ?_|refine qK ?_|refine qF ?_|refine qE ?_|refine iF (fun h=>?_) (fun h=>?_)|refine aX ?_|refine aA ?_|refine aI (hn:=?_)|refine aD ?_|refine qR ?_|refine qS ?_|exact ⟨rfl,rfl⟩|fail)
 refine LWp.pick [0,1,6,7] [0,1,11,3,4,5,6,7,8,13] rfl rfl rfl (L_loop (fun q l K=>∃ k:Nat,q=szC c-k∧k≤szC c∧l=[(0,ptr 0),(1,.int .i64 (16*i:Nat)),(6,slB 9 m.bs.length),(7,.int .i64 k)]∧K=RHL m.man (m.man+m.mgd) m.bs m.rs L' gl++[BL (overB m.bs (16*i) (List.replicate k 221#8))]) (szC c) ⟨0,rfl,by omega,rfl,by rw [List.replicate_zero,overB_nil]; rfl⟩ ?_)
 rintro q _ _ ⟨k,rfl,hk,rfl,rfl⟩
 have hlk:=hl k hk
 repeat' (first|refine qN ?_|refine dN ?_|refine d0 ?_|refine qB ?_|refine qT ?_|refine qU ?_|refine qL ?_|refine qK ?_|refine qF ?_|refine qE ?_|refine iF (fun h=>?_) (fun h=>?_)|refine aX ?_|refine S_Q [] rfl rfl (QY.divN (c:=((i / 16:Nat):Int)) rfl rfl (by omega) (by omega) (by omega)) ?_|refine S_Q [] rfl rfl (QY.ldF (j:=1) (u:=.int .i64 c) PRow.ok rfl rfl hg (by rw [← hgc]; rfl) rfl) ?_|refine cP [] (hZ) ?_|refine S_Q [] rfl rfl (QY.add (c:=((16*i+k:Nat):Int)) rfl rfl (by omega) (by omega) (by omega)) ?_|refine aA ?_|refine aI (hn:=?_)|refine aD ?_|refine qR ?_|refine qS ?_|exact ⟨rfl,rfl⟩|fail)
 ·have hk2:k<szC c:=by omega
  have hsn:=overB_snoc (bs:=m.bs) (i:=16*i) (ys:=List.replicate k 221#8) 221#8 (by rw [List.length_replicate]; omega)
  rw [List.length_replicate,← List.replicate_succ'] at hsn
  first|refine L_rs ?_|refine L_reg ?_ | skip
  refine eE rfl rfl (EW.stY (k:=16*i+k) (a:=221#8) rfl rfl rfl (by rw [hlk]; omega)) ?_
  conv=>whnf
  rw [hsn]
  repeat' (first|refine qN ?_|refine dN ?_|refine d0 ?_|refine qB ?_|refine qT ?_|refine qU ?_|refine qL ?_|refine qK ?_|refine qF ?_|refine qE ?_|refine iF (fun h=>?_) (fun h=>?_)|refine aX ?_|refine aA ?_|refine aI (hn:=?_)|refine aD ?_|refine qR ?_|refine qS ?_|exact ⟨rfl,rfl⟩|fail)
  exact Nx.pick [0,1,6,7] [0,1,2,3,4,5,6,7,8,9] rfl rfl rfl ⟨szC c-(k+1),by omega,k+1,rfl,by omega,rfl,rfl⟩
 ·obtain rfl:k=szC c:=by omega
  refine L_ret (RetQ.pick [0,1,2,9,4,5,6,7,8] rfl rfl rfl rfl ⟨rfl,?_⟩)
  unfold RHL; rw [hlk]; rfl
end Go.Proofs.YthmdialagibpfaaGreatDoor
end
section
namespace Go.Proofs.YthmdialagibpfaaGreatDoor
open Go Go.Tum Go.Tum.Base
set_option maxRecDepth 4000
theorem freeR_no {m:HM} {a:Int} (h:hasH m a=false):freeR m a=m:=by unfold freeR; rw [h]; rfl
theorem freeR_at {m:HM} {i:Nat} (h1:i<16*(m.man+m.mgd)) (h2:bitAt m.hw i=true):freeR m (16*i:Nat)=freeM m i:=by
 unfold freeR; rw [hasH_at h1,h2,if_pos rfl,Int.toNat_natCast,Nat.mul_div_cancel_left _ (by decide)]
theorem hFree_u (m:HM) (hm:HOk m) (a:Int) (ha:a≤9223372036854775807):Tr Tryz.prog 53 [ptr 0,.int .i64 a] (HL m) (fun v K=>v=.int .i64 (if hasH m a then 0 else 6)∧K=HL (freeR m a)):=by
 cases h:hasH m a
 ·rw [freeR_no h]; exact hFree_no m hm a ha h
 ·obtain ⟨i,rfl,h1,h2⟩:=hasH_nat h
  rw [freeR_at h1 h2]; exact hFree_ok m hm i h1 h2
theorem rFree_u (m:HM) (hm:HOk m) (gl:List Gb) (a:Int):TrK Tryz.prog [] [0,1,5,6] 54 [ptr 0,.int .i64 a] (RHm m gl) (fun v K=>v=.int .i64 (if hasH m a then 0 else 6)∧K=RHm (freeR m a) gl):=by
 cases h:hasH m a
 ·rw [freeR_no h]; exact rFree_no m hm gl a h
 ·obtain ⟨i,rfl,h1,h2⟩:=hasH_nat h
  rw [freeR_at h1 h2]; exact rFree_ok m hm gl i h1 h2
def markB (m:HM) (a:Int):Bool:=hasH m a && !bitAt m.mw (a.toNat / 16)
theorem markR_no {m:HM} {a:Int} (h:hasH m a=false):markR m a=m∧markB m a=false:=by unfold markR markB; rw [h]; exact ⟨rfl,rfl⟩
theorem markR_at {m:HM} {i:Nat} (h1:i<16*(m.man+m.mgd)) (h2:bitAt m.hw i=true):markR m (16*i:Nat)=(if bitAt m.mw i then m else markM m i)∧markB m (16*i:Nat) = !bitAt m.mw i:=by
 unfold markR markB
 rw [hasH_at h1,h2,Int.toNat_natCast,Nat.mul_div_cancel_left _ (by decide)]
 cases bitAt m.mw i <;> exact ⟨rfl,rfl⟩
theorem hMark_u (m:HM) (hm:HOk m) (a:Int) (ha:a≤9223372036854775807):Tr Tryz.prog 55 [ptr 0,.int .i64 a] (HL m) (fun v K=>v=.bool (markB m a)∧K=HL (markR m a)):=by
 cases h:hasH m a
 ·rw [(markR_no h).1,(markR_no h).2]; exact hMark_no m hm a ha h
 ·obtain ⟨i,rfl,h1,h2⟩:=hasH_nat h
  rw [(markR_at h1 h2).1,(markR_at h1 h2).2]; exact hMark_ok m hm i h1 h2
theorem rMark_u (m:HM) (hm:HOk m) (gl:List Gb) (a:Int):TrK Tryz.prog [] [0,1,5,6] 56 [ptr 0,.int .i64 a] (RHm m gl) (fun v K=>v=.bool (markB m a)∧K=RHm (markR m a) gl):=by
 cases h:hasH m a
 ·rw [(markR_no h).1,(markR_no h).2]; exact rMark_no m hm gl a h
 ·obtain ⟨i,rfl,h1,h2⟩:=hasH_nat h
  rw [(markR_at h1 h2).1,(markR_at h1 h2).2]; exact rMark_ok m hm gl i h1 h2
theorem hUnmark_u (m:HM) (hm:HOk m):TrK Tryz.prog [] [0,1,2,3,4,5,6,7,8,9,10] 57 [ptr 0] (HL m) (fun v K=>v=.int .i64 (markN (obs m))∧K=HL (unmarkM m)):=by
 have h:=hUnmark_tr m hm
 rw [cnt_marks hm] at h
 exact h
theorem tidyR_no {m:HM} {a:Int} (h:mgP m.rs a=false):tidyR m a=m∧tidyE m a=6:=by unfold tidyR tidyE; rw [h]; exact ⟨if_neg (fun e=>by cases e.1),rfl⟩
theorem tidyR_full {m:HM} {a:Int} (h:mgP m.rs a=true) (h2:inH m a≠[]):tidyR m a=m∧tidyE m a=8:=by unfold tidyR tidyE; rw [if_neg (fun e=>h2 e.2),if_pos h,if_neg h2]; exact ⟨rfl,rfl⟩
theorem tidyR_ok {m:HM} {p:Nat} (h:mgP m.rs p=true) (h2:inH m p=[]):tidyR m p=tidyM m p∧tidyE m p=0:=by unfold tidyR tidyE; rw [if_pos ⟨h,h2⟩,if_pos h,if_pos h2,Int.toNat_natCast]; exact ⟨rfl,rfl⟩
theorem hTidy_u (m:HM) (hm:HOk m) (a:Int):Tr Tryz.prog 58 [ptr 0,.int .i64 a] (HL m) (fun v K=>v=.int .i64 (tidyE m a)∧K=HL (tidyR m a)):=by
 cases h:mgP m.rs a
 ·rw [(tidyR_no h).1,(tidyR_no h).2]; exact hTidy_no m a h
 ·by_cases h2:inH m a=[]
  ·obtain ⟨p,rfl,_⟩:=mgP_in h
   rw [(tidyR_ok h h2).1,(tidyR_ok h h2).2]; exact hTidy_ok m hm p h h2
  ·rw [(tidyR_full h h2).1,(tidyR_full h h2).2]; exact hTidy_full m hm a h h2
theorem rTidy_u (m:HM) (hm:HOk m) (gl:List Gb) (a:Int):TrK Tryz.prog [] [0,1,5,6] 59 [ptr 0,.int .i64 a] (RHm m gl) (fun v K=>v=.int .i64 (tidyE m a)∧K=RHm (tidyR m a) gl):=by
 cases h:mgP m.rs a
 ·rw [(tidyR_no h).1,(tidyR_no h).2]; exact rTidy_no m hm gl a h
 ·by_cases h2:inH m a=[]
  ·obtain ⟨p,rfl,_⟩:=mgP_in h
   rw [(tidyR_ok h h2).1,(tidyR_ok h h2).2]; exact rTidy_ok m hm gl p h h2
  ·rw [(tidyR_full h h2).1,(tidyR_full h h2).2]; exact rTidy_full m hm gl a h h2
theorem allocR_arg {m:HM} {r n:Int} (h:shOk r n=false):allocR m r n=(0,1,m):=by unfold allocR; rw [h]; rfl
theorem allocR_full {m:HM} {r n:Int} (h:shOk r n=true) (h1:placeH m.rs m.hw (cOf r n) m.mgd m.man=none) (h2:placeP m.rs 1 m.mgd m.man 0=none):allocR m r n=(0,5,m):=by unfold allocR layF; rw [h,if_pos rfl,h1]; simp only [h2]
theorem allocR_in {m:HM} {r n:Int} (h:shOk r n=true) {a:Nat} (h1:placeH m.rs m.hw (cOf r n) m.mgd m.man=some a):allocR m r n=((a:Int),0,allocM m a none r n):=by unfold allocR layF; rw [h,if_pos rfl,h1]
theorem allocR_new {m:HM} {r n:Int} (h:shOk r n=true) {A:Nat} (h1:placeH m.rs m.hw (cOf r n) m.mgd m.man=none) (h2:placeP m.rs 1 m.mgd m.man 0=some (A:Int)):allocR m r n=(((256*A:Nat):Int),0,allocM m (256*A) (some A) r n):=by unfold allocR layF; rw [h,if_pos rfl,h1]; simp only [h2,Int.toNat_natCast]
theorem hAlloc_u (m:HM) (hm:HOk m) (r n:Int):Tr Tryz.prog 50 [ptr 0,shV r n] (HL m) (fun v K=>v=.tuple ⟨[.int .i64 (allocR m r n).1,.int .i64 (allocR m r n).2.1]⟩∧K=HL (allocR m r n).2.2):=by
 cases h:shOk r n
 ·rw [allocR_arg h]; exact hAlloc_arg m r n h
 ·cases h1:placeH m.rs m.hw (cOf r n) m.mgd m.man with
  | some a=>rw [allocR_in h h1]; exact hAlloc_in m hm r n h a h1
  | none=>cases h2:placeP m.rs 1 m.mgd m.man 0 with
   | none=>rw [allocR_full h h1 h2]; exact hAlloc_full m hm r n h h1 h2
   | some A =>
    have hl:=LayAt.new hm (c:=0) (A:=A.toNat) (by obtain ⟨A',e,_⟩:=placeP_nat h2; subst e; exact h2)
    obtain ⟨A',rfl,_⟩:=placeP_nat h2
    have:=hl.hi
    rw [allocR_new h h1 h2]; exact hAlloc_new m hm r n h A' h1 h2 (by omega)
theorem rAlloc_u (m:HM) (hm:HOk m) (gl:List Gb) (r n:Int):TrK Tryz.prog [] [0,1,5,6] 52 [ptr 0,shV r n] (RHm m gl) (fun v K=>v=.tuple ⟨[.int .i64 (allocR m r n).1,.int .i64 (allocR m r n).2.1]⟩∧K=RHm (allocR m r n).2.2 gl):=by
 cases h:shOk r n
 ·rw [allocR_arg h]; exact rAlloc_arg m gl r n h
 ·have hs:=shOk_t h
  obtain ⟨r',rfl⟩:=Int.eq_ofNat_of_zero_le hs.1
  obtain ⟨n',rfl⟩:=Int.eq_ofNat_of_zero_le hs.2.1
  have hcr:=cOf_room h
  cases h1:placeH m.rs m.hw (cOf r' n') m.mgd m.man with
  | some a =>
   rw [allocR_in h h1]
   have hl:=LayAt.inp hm h1
   have g1:=hl.hi
   have g2:=hl.room
   exact rAlloc_ok m hm gl r' n' h a none (by unfold rpA; rw [h1]) (by unfold rpP; rw [h1]) (fun _ e=>by cases e) hl.a16 (by omega) hl.free
  | none=>cases h2:placeP m.rs 1 m.mgd m.man 0 with
   | none=>rw [allocR_full h h1 h2]; exact rAlloc_full m hm gl r' n' h (by unfold rpA; rw [h1]; simp only [h2])
   | some A =>
    obtain ⟨A',rfl,_⟩:=placeP_nat h2
    have hl:=LayAt.new hm (c:=cOf r' n') h2
    have g1:=hl.hi
    have g2:=hl.room
    rw [allocR_new h h1 h2]
    exact rAlloc_ok m hm gl r' n' h (256*A') (some A') (by unfold rpA; rw [h1]; simp only [h2]; omega) (by unfold rpP; rw [h1]; simp only [h2]) (fun B e=>by cases e; omega) hl.a16 (by omega) hl.free
theorem greatR_arg {m:HM} {gl:List Gb} {n:Int} (h:greatC n=false):greatR m gl n=(0,1,m,gl):=by unfold greatR; rw [h]; rfl
theorem greatR_full {m:HM} {gl:List Gb} {n:Int} (h:greatC n=true) (h1:placeP m.rs (pagesC n) m.man 0 0=none):greatR m gl n=(0,5,m,gl):=by unfold greatR; rw [h,if_pos rfl,h1]
theorem greatR_ok {m:HM} {gl:List Gb} {n:Int} (h:greatC n=true) {A M:Nat} (hM:pagesC n=M) (h1:placeP m.rs M m.man 0 0=some (A:Int)):greatR m gl n=(((256*A:Nat):Int),0,greatM m A M n,glPut gl A n):=by unfold greatR; rw [h,if_pos rfl,hM,h1]; rfl
theorem regGreat_u (m:HM) (gl:List Gb) (h:HI m gl) (n:Int):Tr Tryz.prog 64 [ptr 0,.int .i64 n] (RL m.man m.mgd 1#64 m.bs m.rs m.G m.c) (fun v K=>v=.tuple ⟨[.int .i64 (greatR m gl n).1,.int .i64 (greatR m gl n).2.1]⟩∧K=RL m.man m.mgd 1#64 (greatR m gl n).2.2.1.bs (greatR m gl n).2.2.1.rs (greatR m gl n).2.2.1.G (greatR m gl n).2.2.1.c):=by
 have hnr:=h.nr
 have hn1:=h.n1
 have hnb:=h.nb
 cases hn:greatC n
 ·rw [greatR_arg hn]; exact regGreat_arg _ _ _ _ _ _ _ n hn
 ·obtain ⟨M,hM,hM1,hM2⟩:=greatC_pages hn
  cases hp:placeP m.rs M m.man 0 0 with
  | none=>rw [greatR_full hn (by rw [hM]; exact hp)]; exact regGreat_full _ _ _ _ _ hnr (by omega) _ _ n hn (by rw [hM]; exact hp)
  | some A =>
   obtain ⟨a,rfl,h1,h2⟩:=great_at hM1 hp
   rw [greatR_ok hn hM hp]
   exact regGreat_ok _ _ _ _ _ hnr (by omega) (by omega) _ _ (h.gi.small (by omega)) h.gi.gok n hn a M hM h1 hp (h.gi.meets hM1 h2)
end Go.Proofs.YthmdialagibpfaaGreatDoor
end
section
namespace Go.Proofs.YthmdialagibpfaaGreatDoor
open Go Go.Tum Go.Tum.Base
set_option maxRecDepth 4000
def SHL (m:HM) (xs:List Int) (j:Nat) (g:Nat):LH :=
 [.cells 0 [ptr 2,.slice (some ⟨1,j*1,none⟩) (xs.length-j) (xs.length-j),.int .i64 g],.gro 1 (rowsC intC xs),
  .cells 0 [ptr 3,.int .i64 m.man,.int .i64 (m.man+m.mgd:Nat),ptr 11,ptr 13],
  .cells 0 [.int .i64 m.man,.int .i64 m.mgd,.int .u64 ((1#64).toNat:Int),ptr 4,ptr 6,.int .u64 ((keyW 1#64).toNat:Int),.map (some 8),ptr 9],
  .cells 0 [slB 5 m.bs.length],BL m.bs,.cells 0 [slB 7 m.rs.length],.gro 4 (rowsC PRow.cells m.rs),.imap [] 0,
  .cells 0 [ptr 4,.int .u64 ((keyW 1#64).toNat:Int),.map (some 10)],.imap m.G m.c,
  .cells 0 [slB 12 m.hw.length,.int .i64 (16*(m.man+m.mgd):Nat)],.gro 1 (rowsC wordC m.hw),
  .cells 0 [slB 14 m.mw.length,.int .i64 (16*(m.man+m.mgd):Nat)],.gro 1 (rowsC wordC m.mw)]
abbrev SH:List Nat:=[2,3,4,5,6,7,8,9,10,11,12,13,14]
abbrev S15:List Nat:=[0,1,2,3,4,5,6,7,8,9,10,11,12,13,14]
abbrev SK:List Nat:=[0,1,2,3,4,5,6,7,8,9,10,11,12]
theorem swLeft_tr (m:HM) (xs:List Int) (j g:Nat):Tr Tryz.prog 104 [ptr 0] (SHL m xs j g) (fun v K=>v=.int .i64 (xs.length-j:Nat)∧K=SHL m xs j g):=by
 refine Tr.of row_sweep_Sweeper_Left_ok rfl ?_
 repeat' (first|refine qN ?_|refine dN ?_|refine dR ?_|refine d0 ?_|refine rT ?_|refine qT ?_|refine qU ?_|refine qL ?_|refine qK ?_|refine iF (fun h=>?_) (fun h=>?_)|refine aI (hn:=?_)|refine qR ?_|refine qS ?_|exact ⟨rfl,rfl⟩|fail)
theorem swGone_tr (m:HM) (xs:List Int) (j g:Nat):Tr Tryz.prog 106 [ptr 0] (SHL m xs j g) (fun v K=>v=.int .i64 g∧K=SHL m xs j g):=by
 refine Tr.of row_sweep_Sweeper_Gone_ok rfl ?_
 repeat' (first|refine qN ?_|refine dN ?_|refine dR ?_|refine d0 ?_|refine rT ?_|refine qT ?_|refine qU ?_|refine qL ?_|refine qK ?_|refine iF (fun h=>?_) (fun h=>?_)|refine aI (hn:=?_)|refine qR ?_|refine qS ?_|exact ⟨rfl,rfl⟩|fail)
set_option maxHeartbeats 2000000 in
theorem swPage_tr (m:HM) (gl:List Gb) (h:HI m gl) (xs:List Int) (j g:Nat) (p:Int):Tr Tryz.prog 159 [ptr 0,.int .i64 p] (SHL m xs j g) (fun v K=>v=.int .i64 (swP m p).2∧K=SHL (swM m p) xs j g):=by
 have hIn:=hIn_tr m h.toHOk p
 have hat:=SwI.at h p
 have hall:=swK_all m p
 have hsu:=fun k (hk:k<(inH m p).length)=>swK_succ m (inH m p) hk
 have hln:=inH_len h.toHOk p
 have h0:=swK_zero m (inH m p)
 have hsM:swM m p=tidyR (swP m p).1 p:=rfl
 rw [hsM]
 generalize inH m p=l at *
 refine Tr.of row_sweep_Sweeper_page_ok rfl ?_
 repeat' (first|refine qN ?_|refine dN ?_|refine dR ?_|refine d0 ?_|refine qB ?_|refine rT ?_|refine qT ?_|refine qU ?_|refine qL ?_|refine qK ?_|refine qF ?_|refine qE ?_|refine iF (fun h=>?_) (fun h=>?_)|refine aX ?_|(refine cF SH (hIn) ?_; conv=>whnf)|refine aA ?_|refine aI (hn:=?_)|refine qR ?_|refine qS ?_|exact ⟨rfl,rfl⟩|fail)
 refine LWp.pick [0,1,5,13,14,15] [0,1,2,3,4,5,6,7,8,9,10,11,12,13,14,15] rfl rfl rfl (L_loop (fun q s K=>∃ k:Nat,q=l.length-k∧k≤l.length∧s=[(0,ptr 0),(1,.int .i64 p),(5,.int .i64 (swK m l k).2),(13,slB 15 l.length),(14,.int .i64 l.length),(15,.int .i64 k)]∧K=SHL (swK m l k).1 xs j g++[.gro 1 (rowsC intC l)]) l.length ⟨0,rfl,by omega,rfl,rfl⟩ ?_)
 rintro q _ _ ⟨k,rfl,hk,rfl,rfl⟩
 first|refine L_seq (L_rs (S_done [] rfl (Nx.goL (iF (fun h=>L_skip (Nx.goL ?_)) (fun h=>L_exit ?_)))))|refine L_rs (S_done [] rfl (Nx.goL (L_seq (iF (fun h=>L_skip (Nx.goL ?_)) (fun h=>L_exit ?_)))))
 ·have hk2:k<l.length:=by omega
  have hx:=hat k hk
  have hg:l[k]?=some l[k]:=List.getElem?_eq_getElem hk2
  have hs:=hsu k hk2
  have hle:=hx.le
  obtain ⟨i,e,g1,g2⟩:=hasH_nat (hx.has k hk2 (Nat.le_refl _))
  rw [e] at hs hg
  have hMd:=hMarked_ok (swK m l k).1 hx.hi.toHOk i g1 g2
  have hFr:=hFree_u (swK m l k).1 hx.hi.toHOk (16*i:Nat) (by have:=hx.hi.n1; omega)
  unfold swF at hs
  rw [Int.toNat_natCast,Nat.mul_div_cancel_left _ (by decide)] at hs
  cases hb:bitAt (swK m l k).1.mw i
  ·rw [hb] at hMd hs
   rw [if_neg (by decide)] at hs
   generalize freeR (swK m l k).1 (16*i:Nat)=m' at *
   repeat' (first|refine qN ?_|refine dN ?_|refine dR ?_|refine d0 ?_|refine qB ?_|refine rT ?_|refine qT ?_|refine qU ?_|refine qL ?_|refine qK ?_|refine qF ?_|refine qE ?_|refine iF (fun h=>?_) (fun h=>?_)|refine aX ?_|refine S_Q [] rfl rfl (QY.ldI rfl rfl hg) ?_|refine cP SH (hMd) ?_|(refine cF SH (hFr) ?_; conv=>whnf)|refine aA ?_|refine aI (hn:=?_)|refine qR ?_|refine qS ?_|exact ⟨rfl,rfl⟩|fail)
   exact Nx.pick [0,1,5,13,14,15] [0,1,2,3,4,5,6,7,8,9,10,11,12,13,14,15] rfl rfl rfl ⟨l.length-(k+1),by omega,k+1,rfl,by omega,by rw [hs]; rfl,by rw [hs]; rfl⟩
  ·rw [hb] at hMd hs
   rw [if_pos rfl] at hs
   repeat' (first|refine qN ?_|refine dN ?_|refine dR ?_|refine d0 ?_|refine qB ?_|refine rT ?_|refine qT ?_|refine qU ?_|refine qL ?_|refine qK ?_|refine qF ?_|refine qE ?_|refine iF (fun h=>?_) (fun h=>?_)|refine aX ?_|refine S_Q [] rfl rfl (QY.ldI rfl rfl hg) ?_|refine cP SH (hMd) ?_|refine aA ?_|refine aI (hn:=?_)|refine qR ?_|refine qS ?_|exact ⟨rfl,rfl⟩|fail)
   exact Nx.pick [0,1,5,13,14,15] [0,1,2,3,4,5,6,7,8,9,10,11,12,13,14,15] rfl rfl rfl ⟨l.length-(k+1),by omega,k+1,rfl,by omega,by rw [hs]; rfl,by rw [hs]; rfl⟩
 ·obtain rfl:k=l.length:=by omega
  have hx:=hat l.length (Nat.le_refl _)
  rw [hall] at hx ⊢
  have hT:=hTidy_u (swP m p).1 hx.hi.toHOk p
  refine Nx.goL ?_
  repeat' (first|refine qN ?_|refine dN ?_|refine dR ?_|refine d0 ?_|refine qB ?_|refine rT ?_|refine qT ?_|refine qU ?_|refine qL ?_|refine qK ?_|refine qF ?_|refine qE ?_|refine iF (fun h=>?_) (fun h=>?_)|refine aX ?_|(refine cF SH (hT) ?_; conv=>whnf)|refine aA ?_|refine aI (hn:=?_)|refine qR ?_|refine qS ?_|exact ⟨rfl,rfl⟩|fail)
def swS (m:HM) (xs:List Int) (j:Nat):HM:=if j+1=xs.length then unmarkM (swM m (xs.getD j 0)) else swM m (xs.getD j 0)
def swN (m:HM) (xs:List Int) (j:Nat):Nat:=(swP m (xs.getD j 0)).2
set_option maxHeartbeats 2000000 in
theorem swStep_ok (m:HM) (gl:List Gb) (h:HI m gl) (xs:List Int) (hxs:xs.length≤256) (j g:Nat) (hj:j<xs.length) (hg:g≤1000000000):TrK Tryz.prog [] SK 105 [ptr 0] (SHL m xs j g) (fun v K=>v=.tuple ⟨[.int .i64 (swN m xs j),.bool (decide (j+1<xs.length))]⟩∧K=SHL (swS m xs j) xs (j+1) (g+swN m xs j)):=by
 have hL:=swLeft_tr m xs j g
 have hx:xs[j]?=some xs[j]:=List.getElem?_eq_getElem hj
 have hD:xs.getD j 0=xs[j]:=by rw [List.getD_eq_getElem?_getD,hx]; rfl
 have hP:=swPage_tr m gl h xs j g xs[j]
 have hI:=h.swM xs[j]
 obtain ⟨_,hn⟩:=h.swept xs[j]
 have hU:=hUnmark_u (swM m xs[j]) hI.toHOk
 unfold swS swN
 rw [hD]
 generalize (swP m xs[j]).2=n at *
 generalize swM m xs[j]=m' at *
 obtain ⟨d,hd⟩:∃ d,xs.length-j=d+1:=⟨xs.length-j-1,by omega⟩
 unfold SHL at *
 rw [hd] at hL hP ⊢
 rw [show xs.length-(j+1)=d by omega]
 refine Tr.of row_sweep_Sweeper_Step_ok rfl ?_
 by_cases h1:j+1=xs.length
 ·obtain rfl:d=0:=by omega
  rw [if_pos h1,decide_eq_false (by omega)]
  repeat' (first|refine qN ?_|refine dN ?_|refine dR ?_|refine d0 ?_|refine rT ?_|refine qT ?_|refine qU ?_|refine qL ?_|refine qK ?_|refine iF (fun h=>?_) (fun h=>?_)|refine aX ?_|refine cP S15 (hL) ?_|refine S_Q [] rfl rfl (QY.idxO (k:=0) rfl rfl (by omega)) ?_|refine S_Q [] rfl rfl (QY.ldI (k:=j) rfl rfl hx) ?_|(refine cF S15 (hP) ?_; conv=>whnf)|refine S_Q [] rfl rfl (QY.slc (lo':=1) (hi':=0+1) rfl rfl rfl (by omega) (by omega)) ?_|(refine cW SH (hU) ?_; conv=>whnf)|refine aA ?_|refine aI (hn:=?_)|refine qR ?_|refine qS ?_|exact ⟨rfl,rfl⟩|fail)
 ·obtain ⟨c,rfl⟩:∃ c,d=c+1:=⟨d-1,by omega⟩
  rw [if_neg h1,decide_eq_true (by omega)]
  repeat' (first|refine qN ?_|refine dN ?_|refine dR ?_|refine d0 ?_|refine rT ?_|refine qT ?_|refine qU ?_|refine qL ?_|refine qK ?_|refine iF (fun h=>?_) (fun h=>?_)|refine aX ?_|refine cP S15 (hL) ?_|refine S_Q [] rfl rfl (QY.idxO (k:=0) rfl rfl (by omega)) ?_|refine S_Q [] rfl rfl (QY.ldI (k:=j) rfl rfl hx) ?_|(refine cF S15 (hP) ?_; conv=>whnf)|refine S_Q [] rfl rfl (QY.slc (lo':=1) (hi':=c+1+1) rfl rfl rfl (by omega) (by omega)) ?_|refine aA ?_|refine aI (hn:=?_)|refine qR ?_|refine qS ?_|exact ⟨rfl,rfl⟩|fail)
  exact ⟨VT2 rfl (decide_eq_true (by omega)),rfl⟩
end Go.Proofs.YthmdialagibpfaaGreatDoor
end
section
namespace Go.Proofs.YthmdialagibpfaaGreatDoor
open Go Go.Tum Go.Tum.Base
set_option maxRecDepth 4000
def SRd (m:HM) (gl:List Gb) (xs:List Int) (j d:Nat) (g:Nat):LH :=
 [.cells 0 [ptr 2,.slice (some ⟨1,j*1,none⟩) d d,.int .i64 g],.gro 1 (rowsC intC xs),
  .cells 0 [ptr 3,slB 4 (obs m).length],.cells 0 [.int .i64 m.man,.int .u64 ((keyW 1#64).toNat:Int),slB 5 m.bs.length,slB 6 m.rs.length,slB 7 (m.man+m.mgd),ptr 8],
  .gro 2 (rowsC obC (obs m)),BL m.bs,TB m.rs,.dead,.cells 0 [slB 10 m.bs.length,.int .u64 ((keyW 1#64).toNat:Int),slB 9 gl.length],.gro 2 (rowsC gbC gl),.dead]
abbrev SRL (m:HM) (gl:List Gb) (xs:List Int) (j:Nat) (g:Nat):LH:=SRd m gl xs j (xs.length-j) g
abbrev SR9:List Nat:=[2,3,4,5,6,7,8,9,10]
abbrev SRK:List Nat:=[0,1,2,3,7,8]
set_option maxHeartbeats 4000000 in
theorem rsStep_ok (m:HM) (gl:List Gb) (h:HI m gl) (xs:List Int) (hxs:xs.length≤256) (j g:Nat) (hj:j<xs.length) (hg:g≤1000000000):TrK Tryz.prog [] SRK 46 [ptr 0] (SRL m gl xs j g) (fun v K=>v=.tuple ⟨[.int .i64 (swN m xs j),.bool (decide (j+1<xs.length))]⟩∧K=SRL (swS m xs j) gl xs (j+1) (g+swN m xs j)):=by
 have hx:xs[j]?=some xs[j]:=List.getElem?_eq_getElem hj
 have hD:xs.getD j 0=xs[j]:=by rw [List.getD_eq_getElem?_getD,hx]; rfl
 unfold swS swN
 rw [hD]
 generalize xs[j]=p at *
 have hIn:=rIn_tr18 m h.toHOk gl p
 have hat:=SwI.at h p
 have hall:=swK_all m p
 have hsu:=fun k (hk:k<(inH m p).length)=>swK_succ m (inH m p) hk
 have hln:=inH_len h.toHOk p
 have hsM:swM m p=tidyR (swP m p).1 p:=rfl
 have hI:=h.swM p
 have hU:=rUnmark_tr (swM m p) hI.toHOk gl
 have hn:=(h.swept p).2
 generalize inH m p=l at *
 obtain ⟨d,hd⟩:∃ d,xs.length-j=d+1:=⟨xs.length-j-1,by omega⟩
 unfold SRL
 rw [hd,show xs.length-(j+1)=d by omega]
 refine Tr.of row_tumbrelref20_Sweeper_Step_ok rfl ?_
 repeat' (first|refine qN ?_|refine dN ?_|refine dR ?_|refine d0 ?_|refine qB ?_|refine rT ?_|refine qT ?_|refine qU ?_|refine qL ?_|refine qK ?_|refine qF ?_|refine qE ?_|refine iF (fun h=>?_) (fun h=>?_)|refine aX ?_|refine S_Q [] rfl rfl (QY.idxO (k:=0) rfl rfl (by omega)) ?_|refine S_Q [] rfl rfl (QY.ldI (k:=j) rfl rfl hx) ?_|(refine cF SR9 (hIn) ?_; conv=>whnf)|refine aA ?_|refine aI (hn:=?_)|refine qR ?_|refine qS ?_|exact ⟨rfl,rfl⟩|fail)
 refine LWp.pick [0,4,23,24,25] [0,1,2,3,4,5,6,7,8,9,10,11] rfl rfl rfl (L_loop (fun q s K=>∃ k:Nat,q=l.length-k∧k≤l.length∧s=[(0,ptr 0),(4,.int .i64 (swK m l k).2),(23,slB 11 l.length),(24,.int .i64 l.length),(25,.int .i64 k)]∧K=SRd (swK m l k).1 gl xs j (d+1) g++[.gro 1 (rowsC intC l)]) l.length ⟨0,rfl,by omega,rfl,rfl⟩ ?_)
 rintro q _ _ ⟨k,rfl,hk,rfl,rfl⟩
 first|refine L_seq (L_rs (S_done [] rfl (Nx.goL (iF (fun h=>L_skip (Nx.goL ?_)) (fun h=>L_exit ?_)))))|refine L_rs (S_done [] rfl (Nx.goL (L_seq (iF (fun h=>L_skip (Nx.goL ?_)) (fun h=>L_exit ?_)))))
 ·have hk2:k<l.length:=by omega
  have hxk:=hat k hk
  have hg:l[k]?=some l[k]:=List.getElem?_eq_getElem hk2
  have hs:=hsu k hk2
  have hle:=hxk.le
  have hol:=obs_len hxk.hi.toHOk
  obtain ⟨i,e,g1,g2⟩:=hasH_nat (hxk.has k hk2 (Nat.le_refl _))
  obtain ⟨c,f1,f2,f3,_⟩:=idx_at g1 g2
  rw [e] at hs hg
  have hIx:=rIndex_tr (swK m l k).1.man ((swK m l k).1.man+(swK m l k).1.mgd) (swK m l k).1.bs (swK m l k).1.rs (obs (swK m l k).1) gl hol (16*i:Nat)
  rw [f1] at hIx
  have hFr:=rFree_u (swK m l k).1 hxk.hi.toHOk gl (16*i:Nat)
  unfold swF at hs
  rw [Int.toNat_natCast,Nat.mul_div_cancel_left _ (by decide)] at hs
  cases hb:bitAt (swK m l k).1.mw i
  ·rw [hb] at f3 hs
   rw [if_neg (by decide)] at hs
   generalize freeR (swK m l k).1 (16*i:Nat)=m' at *
   repeat' (first|refine qN ?_|refine dN ?_|refine dR ?_|refine d0 ?_|refine qB ?_|refine rT ?_|refine qT ?_|refine qU ?_|refine qL ?_|refine qK ?_|refine qF ?_|refine qE ?_|refine iF (fun h=>?_) (fun h=>?_)|refine aX ?_|refine S_Q [] rfl rfl (QY.ldI rfl rfl hg) ?_|refine cP SR9 (hIx) ?_|refine S_Q [] rfl rfl (QY.ldF (j:=1) (u:=.bool false) obC_ok rfl rfl f3 rfl rfl) ?_|refine aA ?_|refine aI (hn:=?_)|refine qR ?_|refine qS ?_|exact ⟨rfl,rfl⟩|fail)
   first|refine LSt.drop [0,4,6,23,24,25] (LSt.nf ?_)|refine LWp.drop [0,4,6,23,24,25] (LWp.nf ?_)
   conv=>whnf
   repeat' (first|refine qN ?_|refine dN ?_|refine dR ?_|refine d0 ?_|refine qB ?_|refine rT ?_|refine qT ?_|refine qU ?_|refine qL ?_|refine qK ?_|refine qF ?_|refine qE ?_|refine iF (fun h=>?_) (fun h=>?_)|refine aX ?_|(refine cW SR9 (hFr) ?_; conv=>whnf)|refine aA ?_|refine aI (hn:=?_)|refine qR ?_|refine qS ?_|exact ⟨rfl,rfl⟩|fail)
   exact Nx.pick [0,4,23,24,25] [0,1,2,3,4,5,6,7,8,9,10,11] rfl rfl rfl ⟨l.length-(k+1),by omega,k+1,rfl,by omega,by rw [hs]; rfl,by rw [hs]; rfl⟩
  ·rw [hb] at f3 hs
   rw [if_pos rfl] at hs
   repeat' (first|refine qN ?_|refine dN ?_|refine dR ?_|refine d0 ?_|refine qB ?_|refine rT ?_|refine qT ?_|refine qU ?_|refine qL ?_|refine qK ?_|refine qF ?_|refine qE ?_|refine iF (fun h=>?_) (fun h=>?_)|refine aX ?_|refine S_Q [] rfl rfl (QY.ldI rfl rfl hg) ?_|refine cP SR9 (hIx) ?_|refine S_Q [] rfl rfl (QY.ldF (j:=1) (u:=.bool true) obC_ok rfl rfl f3 rfl rfl) ?_|refine aA ?_|refine aI (hn:=?_)|refine qR ?_|refine qS ?_|exact ⟨rfl,rfl⟩|fail)
   exact Nx.pick [0,4,23,24,25] [0,1,2,3,4,5,6,7,8,9,10,11] rfl rfl rfl ⟨l.length-(k+1),by omega,k+1,rfl,by omega,by rw [hs]; rfl,by rw [hs]; rfl⟩
 ·obtain rfl:k=l.length:=by omega
  have hxk:=hat l.length (Nat.le_refl _)
  rw [hall] at hxk ⊢
  have hT:=rTidy_u (swP m p).1 hxk.hi.toHOk gl p
  rw [← hsM] at hT
  generalize (swP m p).2=n at *
  generalize swM m p=m' at *
  refine Nx.goL ?_
  by_cases h1:j+1=xs.length
  ·obtain rfl:d=0:=by omega
   rw [if_pos h1,decide_eq_false (by omega)]
   repeat' (first|refine qN ?_|refine dN ?_|refine dR ?_|refine d0 ?_|refine qB ?_|refine rT ?_|refine qT ?_|refine qU ?_|refine qL ?_|refine qK ?_|refine qF ?_|refine qE ?_|refine iF (fun h=>?_) (fun h=>?_)|refine aX ?_|refine S_Q [] rfl rfl (QY.idxO (k:=0) rfl rfl (by omega)) ?_|refine S_Q [] rfl rfl (QY.ldI (k:=j) rfl rfl hx) ?_|(refine cW SR9 (hT) ?_; conv=>whnf)|refine S_Q [] rfl rfl (QY.slc (lo':=1) (hi':=0+1) rfl rfl rfl (by omega) (by omega)) ?_|(refine cW SR9 (hU) ?_; conv=>whnf)|refine aA ?_|refine aI (hn:=?_)|refine qR ?_|refine qS ?_|exact ⟨rfl,rfl⟩|fail)
  ·obtain ⟨c,rfl⟩:∃ c,d=c+1:=⟨d-1,by omega⟩
   rw [if_neg h1,decide_eq_true (by omega)]
   repeat' (first|refine qN ?_|refine dN ?_|refine dR ?_|refine d0 ?_|refine qB ?_|refine rT ?_|refine qT ?_|refine qU ?_|refine qL ?_|refine qK ?_|refine qF ?_|refine qE ?_|refine iF (fun h=>?_) (fun h=>?_)|refine aX ?_|refine S_Q [] rfl rfl (QY.idxO (k:=0) rfl rfl (by omega)) ?_|refine S_Q [] rfl rfl (QY.ldI (k:=j) rfl rfl hx) ?_|(refine cW SR9 (hT) ?_; conv=>whnf)|refine S_Q [] rfl rfl (QY.slc (lo':=1) (hi':=c+1+1) rfl rfl rfl (by omega) (by omega)) ?_|refine aA ?_|refine aI (hn:=?_)|refine qR ?_|refine qS ?_|exact ⟨rfl,rfl⟩|fail)
   exact ⟨VT2 rfl (decide_eq_true (by omega)),rfl⟩
end Go.Proofs.YthmdialagibpfaaGreatDoor
end
section
namespace Go.Proofs.YthmdialagibpfaaGreatDoor
open Go Go.Tum Go.Tum.Base
set_option maxRecDepth 4000
def GSL (bs:Bytes) (gl:List Gb):LH:=[.cells 0 [slB 1 bs.length,.int .u64 ((keyW 1#64).toNat:Int),slB 2 gl.length],BL bs,.gro 2 (rowsC gbC gl)]
set_option maxHeartbeats 1000000 in
theorem rFill_tr (bs:Bytes) (hb:bs.length≤65536) (gl:List Gb) (p M:Nat) (h:256*(p+M)≤bs.length) (c:BitVec 8):TrK Tryz.prog [] [0,2] 179 [ptr 0,.int .i64 p,.int .i64 M,.int .u8 (c.toNat:Int)] (GSL bs gl) (fun v K=>v=undef∧K=GSL (overB bs (256*p) (List.replicate (256*M) c)) gl):=by
 have hl:∀ k,k≤256*M→(overB bs (256*p) (List.replicate k c)).length=bs.length:=fun k hk=>overB_length (by rw [List.length_replicate]; omega)
 refine Tr.of row_tumbrelref08_Set_fill_ok rfl ?_
 repeat' (first|refine qN ?_|refine dN ?_|refine d0 ?_|refine qB ?_|refine qT ?_|refine qU ?_|refine qL ?_|refine qK ?_|refine qF ?_|refine qE ?_|refine iF (fun h=>?_) (fun h=>?_)|refine aX ?_|refine aA ?_|refine aI (hn:=?_)|refine aM ?_|refine qR ?_|refine qS ?_|exact ⟨rfl,rfl⟩|fail)
 refine S_wk [] rfl (wk_gro0 (b:=3) 1 rfl) ?_
 first|refine L_rs ?_|refine L_reg ?_ | skip
 refine eE rfl rfl (EW.appRR (bytes:=1) (xs:=[]) (ys:=bs) byteC_ok rfl (by kernel_rfl) rfl rfl rfl rfl rfl rfl (by decide) (by omega)) ?_
 conv=>whnf
 rw [Nat.zero_add]
 repeat' (first|refine qN ?_|refine dN ?_|refine d0 ?_|refine qB ?_|refine qT ?_|refine qU ?_|refine qL ?_|refine qK ?_|refine qF ?_|refine qE ?_|refine iF (fun h=>?_) (fun h=>?_)|refine aX ?_|refine S_Q [] rfl rfl (QY.mul (c:=((256*p:Nat):Int)) rfl rfl (by omega) (by omega) (by omega)) ?_|refine aA ?_|refine aI (hn:=?_)|refine aM ?_|refine qR ?_|refine qS ?_|exact ⟨rfl,rfl⟩|fail)
 refine LWp.pick [0,1,2,3,8,9] [0,1,2,4] rfl rfl rfl (L_loop (fun q l K=>∃ k:Nat,q=256*M-k∧k≤256*M∧l=[(0,ptr 0),(1,.int .i64 p),(2,.int .i64 M),(3,.int .u8 (c.toNat:Int)),(8,slB 3 bs.length),(9,.int .i64 (256*p+k:Nat))]∧K=GSL bs gl++[BL (overB bs (256*p) (List.replicate k c))]) (256*M) ⟨0,rfl,by omega,rfl,by rw [List.replicate_zero,overB_nil]; rfl⟩ ?_)
 rintro q _ _ ⟨k,rfl,hk,rfl,rfl⟩
 have hlk:=hl k hk
 repeat' (first|refine qN ?_|refine dN ?_|refine d0 ?_|refine qB ?_|refine qT ?_|refine qU ?_|refine qL ?_|refine qK ?_|refine qF ?_|refine qE ?_|refine iF (fun h=>?_) (fun h=>?_)|refine aX ?_|refine S_Q [] rfl rfl (QY.mul (c:=((256*(p+M):Nat):Int)) rfl rfl (by omega) (by omega) (by omega)) ?_|refine aA ?_|refine aI (hn:=?_)|refine aM ?_|refine qR ?_|refine qS ?_|exact ⟨rfl,rfl⟩|fail)
 ·have hk2:k<256*M:=by omega
  have hsn:=overB_snoc (bs:=bs) (i:=256*p) (ys:=List.replicate k c) c (by rw [List.length_replicate]; omega)
  rw [List.length_replicate,← List.replicate_succ'] at hsn
  first|refine L_rs ?_|refine L_reg ?_ | skip
  refine eE rfl rfl (EW.stY (k:=256*p+k) (a:=c) rfl rfl rfl (by rw [hlk]; omega)) ?_
  conv=>whnf
  rw [hsn]
  repeat' (first|refine qN ?_|refine dN ?_|refine d0 ?_|refine qB ?_|refine qT ?_|refine qU ?_|refine qL ?_|refine qK ?_|refine qF ?_|refine qE ?_|refine iF (fun h=>?_) (fun h=>?_)|refine aX ?_|refine aA ?_|refine aI (hn:=?_)|refine aM ?_|refine qR ?_|refine qS ?_|exact ⟨rfl,rfl⟩|fail)
  exact Nx.pick [0,1,2,3,8,9] [0,1,2,3] rfl rfl rfl ⟨256*M-(k+1),by omega,k+1,rfl,by omega,rfl,rfl⟩
 ·obtain rfl:k=256*M:=by omega
  refine RetQ.end [0,3,2] rfl rfl rfl rfl ⟨rfl,?_⟩
  unfold GSL; rw [hlk]; rfl
theorem takeG_succ {L:List Gb} {p:Gb→Bool} {k:Nat} (h:k<L.length):(L.take (k+1)).filter p=(L.take k).filter p++(if p L[k] then [L[k]] else []):=by
 rw [List.take_succ_eq_append_getElem h,List.filter_append]
 congr 1
 rw [List.filter_cons]; rfl
theorem takeG_len {L:List Gb} {p:Gb→Bool} (k:Nat):((L.take k).filter p).length≤L.length:=by
 have:=List.length_filter_le p (L.take k)
 rw [List.length_take] at this
 omega
set_option maxHeartbeats 2000000 in
theorem rMake8_tr (bs:Bytes) (N:Nat) (hN:bs.length=256*N) (hN2:N≤256) (gl:List Gb) (hgl:gl.length≤256) (hgb:∀ x∈gl,0≤x.1∧x.1≤256) (p M:Nat) (n:Int) (hn:greatC n=true) (hM:pagesC n=M) (hpM:p+M≤N) (hno:∀ x∈gl,∀ i:Nat,i<M→(p:Int)+i<x.1∨x.1+pagesC x.2≤(p:Int)+i) :
  TrK Tryz.prog [] [0] 134 [ptr 0,.int .i64 p,.int .i64 n] (GSL bs gl) (fun v K=>v=.int .i64 0∧K=GSL (madeB (keyW 1#64) bs p M) (glPut gl p n)):=by
 obtain ⟨M',hM',hM1,hM17⟩:=greatC_pages hn
 obtain rfl:M'=M:=by omega
 have hP:=rPages_tr n
 rw [hM] at hP
 refine Tr.of row_tumbrelref08_Set_Make_ok rfl ?_
 repeat' (first|refine qN ?_|refine dN ?_|refine d0 ?_|refine qB ?_|refine qT ?_|refine qU ?_|refine qL ?_|refine qK ?_|refine qF ?_|refine qE ?_|refine iF (fun h=>?_) (fun h=>?_)|refine aX ?_|refine cP [] (hP) ?_|refine S_Q [] rfl rfl (QY.divN (c:=(N:Int)) rfl rfl (by omega) (by omega) (by omega)) ?_|refine aA ?_|refine aS ?_|refine aI (hn:=?_)|refine aD ?_|refine aM ?_|refine sP 18 (fun h=>?_) (fun h=>?_)|refine sP 30 (fun h=>?_) (fun h=>?_)|refine sP 62 (fun h=>?_) (fun h=>?_)|refine qR ?_|refine qS ?_|exact ⟨rfl,rfl⟩|fail)
 all_goals try (exfalso; omega)
 refine LWp.nilE 8 2 rfl (LWp.pick [0,1,2,7,8,45,46,47] [0,1,2,3] rfl rfl rfl (L_loop (fun q l K=>∃ k:Nat,q=gl.length-k∧k≤gl.length∧l=[(0,ptr 0),(1,.int .i64 p),(2,.int .i64 n),(7,.int .i64 M'),(8,slB 3 ((gl.take k).filter fun x=>decide (x.1<(p:Int))).length),(45,slB 2 gl.length),(46,.int .i64 gl.length),(47,.int .i64 k)]∧K=GSL bs gl++[.gro 2 (rowsC gbC ((gl.take k).filter fun x=>decide (x.1<(p:Int))))]) gl.length ⟨0,rfl,by omega,rfl,rfl⟩ ?_))
 rintro q _ _ ⟨k,rfl,hk,rfl,rfl⟩
 first|refine L_seq (L_rs (S_done [] rfl (Nx.goL (iF (fun h=>L_skip (Nx.goL ?_)) (fun h=>L_exit ?_)))))|refine L_rs (S_done [] rfl (Nx.goL (L_seq (iF (fun h=>L_skip (Nx.goL ?_)) (fun h=>L_exit ?_)))))
 ·have hk2:k<gl.length:=by omega
  have hg:gl[k]?=some gl[k]:=List.getElem?_eq_getElem hk2
  have hFk:=takeG_succ (p:=fun x=>decide (x.1<(p:Int))) hk2
  have hFl:=takeG_len (L:=gl) (p:=fun x=>decide (x.1<(p:Int))) k
  have hx:=hgb gl[k] (List.getElem_mem hk2)
  have hxn:=hno gl[k] (List.getElem_mem hk2)
  have hPx:=rPages_tr gl[k].2
  have hPb:=pagesC_bd gl[k].2
  refine L_seq (L_block ?_)
  repeat' (first|refine qN ?_|refine dN ?_|refine d0 ?_|refine qB ?_|refine qT ?_|refine qU ?_|refine qL ?_|refine qK ?_|refine qF ?_|refine qE ?_|refine iF (fun h=>?_) (fun h=>?_)|refine aX ?_|refine S_Q [] rfl rfl (QY.ldRow gbC_ok rfl rfl hg (by decide)) ?_|refine aA ?_|refine aS ?_|refine aI (hn:=?_)|refine aD ?_|refine aM ?_|refine sP 18 (fun h=>?_) (fun h=>?_)|refine sP 30 (fun h=>?_) (fun h=>?_)|refine sP 62 (fun h=>?_) (fun h=>?_)|refine qR ?_|refine qS ?_|exact ⟨rfl,rfl⟩|fail)
  refine LWp.pick [0,1,2,7,8,10,11,45,46,47] [0,1,2,3,4] rfl rfl rfl (L_loop (fun q l K=>∃ i:Nat,q=M'-i∧i≤M'∧l=[(0,ptr 0),(1,.int .i64 p),(2,.int .i64 n),(7,.int .i64 M'),(8,slB 3 ((gl.take k).filter fun x=>decide (x.1<(p:Int))).length),(10,ptr 4),(11,.int .i64 i),(45,slB 2 gl.length),(46,.int .i64 gl.length),(47,.int .i64 k)]∧K=GSL bs gl++[.gro 2 (rowsC gbC ((gl.take k).filter fun x=>decide (x.1<(p:Int)))),.cells 0 [.int .i64 gl[k].1,.int .i64 gl[k].2]]) M' ⟨0,rfl,by omega,rfl,rfl⟩ ?_)
  rintro q _ _ ⟨i,rfl,hi,rfl,rfl⟩
  by_cases hi2:i<M'
  ·have hxi:=hxn i hi2
   repeat' (first|refine qN ?_|refine dN ?_|refine d0 ?_|refine qB ?_|refine qT ?_|refine qU ?_|refine qL ?_|refine qK ?_|refine qF ?_|refine qE ?_|refine iF (fun h=>?_) (fun h=>?_)|refine aX ?_|refine cP [] (hPx) ?_|refine aA ?_|refine aS ?_|refine aI (hn:=?_)|refine aD ?_|refine aM ?_|refine sP 18 (fun h=>?_) (fun h=>?_)|refine sP 30 (fun h=>?_) (fun h=>?_)|refine sP 62 (fun h=>?_) (fun h=>?_)|refine qR ?_|refine qS ?_|exact ⟨rfl,rfl⟩|fail)
   all_goals first | (exfalso; omega)|exact Nx.pick [0,1,2,7,8,10,11,45,46,47] [0,1,2,3,4] rfl rfl rfl ⟨M'-(i+1),by omega,i+1,rfl,by omega,rfl,rfl⟩
  ·obtain rfl:i=M':=by omega
   repeat' (first|refine qN ?_|refine dN ?_|refine d0 ?_|refine qB ?_|refine qT ?_|refine qU ?_|refine qL ?_|refine qK ?_|refine qF ?_|refine qE ?_|refine iF (fun h=>?_) (fun h=>?_)|refine aX ?_|refine aA ?_|refine aS ?_|refine aI (hn:=?_)|refine aD ?_|refine aM ?_|refine sP 18 (fun h=>?_) (fun h=>?_)|refine sP 30 (fun h=>?_) (fun h=>?_)|refine sP 62 (fun h=>?_) (fun h=>?_)|refine qR ?_|refine qS ?_|exact ⟨rfl,rfl⟩|fail)
   all_goals try (exfalso; omega)
   ·rw [if_pos (by simpa using h)] at hFk
    first|refine L_rs ?_|refine L_reg ?_ | skip
    refine eE rfl rfl (EW.appR1 (bytes:=16) (a:=gl[k]) gbC_ok rfl (by kernel_rfl) rfl rfl rfl rfl rfl (by omega)) ?_
    conv=>whnf
    repeat' (first|refine qN ?_|refine dN ?_|refine d0 ?_|refine qB ?_|refine qT ?_|refine qU ?_|refine qL ?_|refine qK ?_|refine qF ?_|refine qE ?_|refine iF (fun h=>?_) (fun h=>?_)|refine aX ?_|refine aA ?_|refine aS ?_|refine aI (hn:=?_)|refine aD ?_|refine aM ?_|refine sP 18 (fun h=>?_) (fun h=>?_)|refine sP 30 (fun h=>?_) (fun h=>?_)|refine sP 62 (fun h=>?_) (fun h=>?_)|refine qR ?_|refine qS ?_|exact ⟨rfl,rfl⟩|fail)
    refine Nx.pick [0,1,2,7,8,45,46,47] [0,1,2,6] rfl rfl rfl ⟨gl.length-(k+1),by omega,k+1,rfl,by omega,?_,by rw [hFk]; rfl⟩
    rw [hFk,List.length_append]; rfl
   ·rw [if_neg (by simpa using h),List.append_nil] at hFk
    refine Nx.pick [0,1,2,7,8,45,46,47] [0,1,2,3] rfl rfl rfl ⟨gl.length-(k+1),by omega,k+1,rfl,by omega,?_,by rw [hFk]; rfl⟩
    rw [hFk]; rfl
 ·obtain rfl:k=gl.length:=by omega
  refine Nx.goL ?_
  rw [List.take_length]
  have hl1:=List.length_filter_le (fun x:Gb=>decide (x.1<(p:Int))) gl
  have hgp:glPut gl p n=gl.filter (fun x=>decide (x.1<(p:Int)))++((p:Int),n)::gl.filter (fun x=>decide ((p:Int)<x.1)):=rfl
  generalize gl.filter (fun x=>decide (x.1<(p:Int)))=A1 at *
  repeat' (first|refine qN ?_|refine dN ?_|refine d0 ?_|refine qB ?_|refine qT ?_|refine qU ?_|refine qL ?_|refine qK ?_|refine qF ?_|refine qE ?_|refine iF (fun h=>?_) (fun h=>?_)|refine aX ?_|refine aA ?_|refine aS ?_|refine aI (hn:=?_)|refine aD ?_|refine aM ?_|refine sP 18 (fun h=>?_) (fun h=>?_)|refine sP 30 (fun h=>?_) (fun h=>?_)|refine sP 62 (fun h=>?_) (fun h=>?_)|refine qR ?_|refine qS ?_|exact ⟨rfl,rfl⟩|fail)
  first|refine L_rs ?_|refine L_reg ?_ | skip
  refine eE rfl rfl (EW.appR1 (bytes:=16) (a:=((p:Int),n)) gbC_ok rfl (by kernel_rfl) rfl rfl rfl rfl rfl (by omega)) ?_
  conv=>whnf
  repeat' (first|refine qN ?_|refine dN ?_|refine d0 ?_|refine qB ?_|refine qT ?_|refine qU ?_|refine qL ?_|refine qK ?_|refine qF ?_|refine qE ?_|refine iF (fun h=>?_) (fun h=>?_)|refine aX ?_|refine aA ?_|refine aS ?_|refine aI (hn:=?_)|refine aD ?_|refine aM ?_|refine sP 18 (fun h=>?_) (fun h=>?_)|refine sP 30 (fun h=>?_) (fun h=>?_)|refine sP 62 (fun h=>?_) (fun h=>?_)|refine qR ?_|refine qS ?_|exact ⟨rfl,rfl⟩|fail)
  refine LWp.pick [0,1,2,7,8,92,93,94] [0,1,2,5] rfl rfl rfl (L_loop (fun q l K=>∃ k:Nat,q=gl.length-k∧k≤gl.length∧l=[(0,ptr 0),(1,.int .i64 p),(2,.int .i64 n),(7,.int .i64 M'),(8,slB 3 (A1++[((p:Int),n)]++(gl.take k).filter fun x=>decide ((p:Int)<x.1)).length),(92,slB 2 gl.length),(93,.int .i64 gl.length),(94,.int .i64 k)]∧K=GSL bs gl++[.gro 2 (rowsC gbC (A1++[((p:Int),n)]++(gl.take k).filter fun x=>decide ((p:Int)<x.1)))]) gl.length ⟨0,rfl,by omega,by rw [List.take_zero,List.filter_nil,List.append_nil,List.length_append]; rfl,by rw [List.take_zero,List.filter_nil,List.append_nil]; rfl⟩ ?_)
  rintro q _ _ ⟨k,rfl,hk,rfl,rfl⟩
  first|refine L_seq (L_rs (S_done [] rfl (Nx.goL (iF (fun h=>L_skip (Nx.goL ?_)) (fun h=>L_exit ?_)))))|refine L_rs (S_done [] rfl (Nx.goL (L_seq (iF (fun h=>L_skip (Nx.goL ?_)) (fun h=>L_exit ?_)))))
  ·have hk2:k<gl.length:=by omega
   have hg:gl[k]?=some gl[k]:=List.getElem?_eq_getElem hk2
   have hFk:=takeG_succ (p:=fun x=>decide ((p:Int)<x.1)) hk2
   have hFl:=takeG_len (L:=gl) (p:=fun x=>decide ((p:Int)<x.1)) k
   repeat' (first|refine qN ?_|refine dN ?_|refine d0 ?_|refine qB ?_|refine qT ?_|refine qU ?_|refine qL ?_|refine qK ?_|refine qF ?_|refine qE ?_|refine iF (fun h=>?_) (fun h=>?_)|refine aX ?_|refine S_Q [] rfl rfl (QY.ldRow gbC_ok rfl rfl hg (by decide)) ?_|refine aA ?_|refine aS ?_|refine aI (hn:=?_)|refine aD ?_|refine aM ?_|refine sP 18 (fun h=>?_) (fun h=>?_)|refine sP 30 (fun h=>?_) (fun h=>?_)|refine sP 62 (fun h=>?_) (fun h=>?_)|refine qR ?_|refine qS ?_|exact ⟨rfl,rfl⟩|fail)
   ·rw [if_pos (by simpa using h)] at hFk
    first|refine L_rs ?_|refine L_reg ?_ | skip
    refine eE rfl rfl (EW.appR1 (bytes:=16) (a:=gl[k]) gbC_ok rfl (by kernel_rfl) rfl rfl rfl rfl rfl (by simp only [List.length_append,List.length_cons,List.length_nil]; omega)) ?_
    conv=>whnf
    repeat' (first|refine qN ?_|refine dN ?_|refine d0 ?_|refine qB ?_|refine qT ?_|refine qU ?_|refine qL ?_|refine qK ?_|refine qF ?_|refine qE ?_|refine iF (fun h=>?_) (fun h=>?_)|refine aX ?_|refine aA ?_|refine aS ?_|refine aI (hn:=?_)|refine aD ?_|refine aM ?_|refine sP 18 (fun h=>?_) (fun h=>?_)|refine sP 30 (fun h=>?_) (fun h=>?_)|refine sP 62 (fun h=>?_) (fun h=>?_)|refine qR ?_|refine qS ?_|exact ⟨rfl,rfl⟩|fail)
    refine Nx.pick [0,1,2,7,8,92,93,94] [0,1,2,6] rfl rfl rfl ⟨gl.length-(k+1),by omega,k+1,rfl,by omega,?_,by rw [hFk,← List.append_assoc]; rfl⟩
    rw [hFk,← List.append_assoc,List.length_append (bs:=[gl[k]])]; rfl
   ·rw [if_neg (by simpa using h),List.append_nil] at hFk
    refine Nx.pick [0,1,2,7,8,92,93,94] [0,1,2,3] rfl rfl rfl ⟨gl.length-(k+1),by omega,k+1,rfl,by omega,?_,by rw [hFk]; rfl⟩
    rw [hFk]; rfl
  ·obtain rfl:k=gl.length:=by omega
   refine Nx.goL ?_
   rw [List.take_length]
   rw [List.append_cons] at hgp
   generalize gl.filter (fun x=>decide ((p:Int)<x.1))=A2 at *
   rw [hgp]
   generalize A1++[((p:Int),n)]++A2=X at *
   have hF:=rFill_tr bs (by omega) gl p M' (by omega) 0#8
   have hlb:(overB bs (256*p) (List.replicate (256*M') 0#8)).length=bs.length:=overB_length (by rw [List.length_replicate]; omega)
   simp only [GSL,hlb] at hF
   have hMx:=rMix_tr (keyW 1#64 ^^^ BitVec.ofInt 64 (256*(p:Int)))
   have hPt:=rPut_tr (canW (keyW 1#64) (256*(p:Int)))
   change Tr Tryz.prog _ _ _ (fun v K=>v=.int .u64 ((canW (keyW 1#64) (256*(p:Int))).toNat:Int)∧K=[]) at hMx
   repeat' (first|refine qN ?_|refine dN ?_|refine d0 ?_|refine qB ?_|refine qT ?_|refine qU ?_|refine qL ?_|refine qK ?_|refine qF ?_|refine qE ?_|refine iF (fun h=>?_) (fun h=>?_)|refine aX ?_|(refine cW [0,1,2] (hF) ?_; conv=>whnf)|refine S_Q [] rfl rfl (QY.sub (c:=((256*(p+M')-8:Nat):Int)) rfl rfl (by omega) (by omega) (by omega)) ?_|refine S_Q [] rfl rfl (QY.slc0 (b:=1) (lo':=256*(p+M')-8) (hi':=bs.length) rfl rfl rfl (by omega) (by omega)) ?_|refine S_Q [] rfl rfl (QY.cvIW rfl) ?_|refine S_Q [] rfl rfl (QY.xorW rfl rfl) ?_|refine cP [] (hMx) ?_|(refine cF [] (hPt) ?_; conv=>whnf)|refine aA ?_|refine aS ?_|refine aI (hn:=?_)|refine aD ?_|refine aM ?_|refine sP 18 (fun h=>?_) (fun h=>?_)|refine sP 30 (fun h=>?_) (fun h=>?_)|refine sP 62 (fun h=>?_) (fun h=>?_)|refine qR ?_|refine qS ?_|exact ⟨rfl,rfl⟩|fail)
   first|refine L_rs ?_|refine L_reg ?_ | skip
   refine eE rfl rfl (EW.copyg (i:=256*(p+M')-8) (j:=0) (xs:=overB bs (256*p) (List.replicate (256*M') 0#8)) (ys:=putB (canW (keyW 1#64) (256*(p:Int))) 8) byteC_ok rfl (by kernel_rfl) rfl rfl rfl rfl (by rw [hlb]; omega) (by rw [putB_length]; omega) (by decide)) ?_
   conv=>whnf
   rw [overB_copy _ _ _ (putB_length _ _).symm (by omega)]
   repeat' (first|refine qN ?_|refine dN ?_|refine d0 ?_|refine qB ?_|refine qT ?_|refine qU ?_|refine qL ?_|refine qK ?_|refine qF ?_|refine qE ?_|refine iF (fun h=>?_) (fun h=>?_)|refine aX ?_|refine aA ?_|refine aS ?_|refine aI (hn:=?_)|refine aD ?_|refine aM ?_|refine sP 18 (fun h=>?_) (fun h=>?_)|refine sP 30 (fun h=>?_) (fun h=>?_)|refine sP 62 (fun h=>?_) (fun h=>?_)|refine qR ?_|refine qS ?_|exact ⟨rfl,rfl⟩|fail)
   refine L_ret (RetQ.pick [0,1,3] rfl rfl rfl rfl ⟨rfl,?_⟩)
   have hmb:=madeB_length (key:=keyW 1#64) (bs:=bs) (p:=p) (M:=M') (by omega) hM1
   unfold GSL; rw [hmb]; rfl
end Go.Proofs.YthmdialagibpfaaGreatDoor
end
section
namespace Go.Proofs.YthmdialagibpfaaGreatDoor
open Go Go.Tum Go.Tum.Base
set_option maxRecDepth 4000
def RGL (man N:Nat) (bs:Bytes) (rs:PRows) (gl:List Gb):LH :=
 [.cells 0 [.int .i64 man,.int .u64 ((keyW 1#64).toNat:Int),slB 1 bs.length,slB 2 rs.length,slB 3 N,ptr 4],BL bs,TB rs,.dead,.cells 0 [slB 6 bs.length,.int .u64 ((keyW 1#64).toNat:Int),slB 5 gl.length],.gro 2 (rowsC gbC gl),.dead]
set_option maxHeartbeats 2000000 in
theorem rNew9_tr (man mgd:Nat) (h:man+mgd≤256) (h1:1≤man+mgd):Tr Tryz.prog 35 [.int .i64 man,.int .i64 mgd,.int .u64 1] [] (fun v K=>v=ptr 0∧K=RGL man (man+mgd) (List.replicate (256*(man+mgd)) 0) (List.replicate (man+mgd) PRow.Z) []):=by
 have hK:=rKey_tr 1#64
 have hP:=rNew4_tr (man+mgd) h
 refine Tr.of row_tumbrelref09_New_ok rfl ?_
 have hr1:=repC_rows (g:=byteC) (0:BitVec 8) (256*(man+mgd))
 have hE:[LB.cells 0 [.int .i64 man,.int .u64 ((keyW 1#64).toNat:Int),slB 1 (256*(man+mgd)),slB 2 (man+mgd),slB 3 (man+mgd),ptr 4],BL (List.replicate (256*(man+mgd)) 0),TB (List.replicate (man+mgd) PRow.Z),.dead,.cells 0 [slB 6 (256*(man+mgd)),.int .u64 ((keyW 1#64).toNat:Int),slB 5 0],.gro 2 (rowsC gbC []),.dead]=RGL man (man+mgd) (List.replicate (256*(man+mgd)) 0) (List.replicate (man+mgd) PRow.Z) []:=by
  unfold RGL; rw [List.length_replicate,List.length_replicate]; rfl
 repeat' (first|refine qN ?_|refine dN ?_|refine d0 ?_|refine S_Q [] rfl rfl (QY.add (c:=((man+mgd:Nat):Int)) rfl rfl (by omega) (by omega) (by omega)) ?_|refine S_Q [] rfl rfl (QY.mul (c:=((256*(man+mgd):Nat):Int)) rfl rfl (by omega) (by omega) (by omega)) ?_|refine cP [] (hK) ?_|(refine cF [] (hP) ?_; conv=>whnf)|(refine S_E [] rfl rfl (EW.mk (sz:=1) (bytes:=1) (k:=256*(man+mgd)) (zs:=byteC (0:BitVec 8)) rfl (by kernel_rfl) rfl rfl (by omega) (by omega)) ?_; rw [hr1]; rintro _ _ ⟨rfl,rfl⟩; refine ⟨(by repeat' (first|exact trivial|refine ⟨⟨qsafe_ok (st:=[]) rfl,Sure.of rfl⟩,?_⟩|refine ⟨.inl rfl,?_⟩|refine ⟨.inr ⟨qsafe_ok (st:=[]) rfl,Sure.of rfl⟩,?_⟩|refine ⟨⟨qsafe_ok (st:=[]) rfl,Sure.slice (by omega)⟩,?_⟩|refine ⟨.inr ⟨qsafe_ok (st:=[]) rfl,Sure.slice (by omega)⟩,?_⟩|refine ⟨.inr ⟨QY.neqB rfl (by kernel_rfl) rfl rfl,Sure.of rfl⟩,?_⟩|refine ⟨.inr ⟨QY.eqlB rfl (by kernel_rfl) rfl rfl,Sure.of rfl⟩,?_⟩ | fail)),LSt.nf ?_⟩; conv=>whnf)|(refine S_E [] rfl rfl (EW.mk (sz:=1) (bytes:=8) (k:=man+mgd) (zs:=[.pointer none]) rfl (by kernel_rfl) rfl rfl (by omega) (by omega)) ?_; rintro _ _ ⟨rfl,rfl⟩; refine ⟨(by repeat' (first|exact trivial|refine ⟨⟨qsafe_ok (st:=[]) rfl,Sure.of rfl⟩,?_⟩|refine ⟨.inl rfl,?_⟩|refine ⟨.inr ⟨qsafe_ok (st:=[]) rfl,Sure.of rfl⟩,?_⟩|refine ⟨⟨qsafe_ok (st:=[]) rfl,Sure.slice (by omega)⟩,?_⟩|refine ⟨.inr ⟨qsafe_ok (st:=[]) rfl,Sure.slice (by omega)⟩,?_⟩|refine ⟨.inr ⟨QY.neqB rfl (by kernel_rfl) rfl rfl,Sure.of rfl⟩,?_⟩|refine ⟨.inr ⟨QY.eqlB rfl (by kernel_rfl) rfl rfl,Sure.of rfl⟩,?_⟩ | fail)),LSt.nf ?_⟩; conv=>whnf)|(refine S_E [] rfl rfl (esafe_ok rfl) ?_; rintro _ _ ⟨rfl,rfl⟩; refine ⟨(by repeat' (first|exact trivial|refine ⟨⟨qsafe_ok (st:=[]) rfl,Sure.of rfl⟩,?_⟩|refine ⟨.inl rfl,?_⟩|refine ⟨.inr ⟨qsafe_ok (st:=[]) rfl,Sure.of rfl⟩,?_⟩|refine ⟨⟨qsafe_ok (st:=[]) rfl,Sure.slice (by omega)⟩,?_⟩|refine ⟨.inr ⟨qsafe_ok (st:=[]) rfl,Sure.slice (by omega)⟩,?_⟩|refine ⟨.inr ⟨QY.neqB rfl (by kernel_rfl) rfl rfl,Sure.of rfl⟩,?_⟩|refine ⟨.inr ⟨QY.eqlB rfl (by kernel_rfl) rfl rfl,Sure.of rfl⟩,?_⟩ | fail)),LSt.nf ?_⟩; conv=>whnf)|refine L_rT ?_|refine L_regT ?_|refine P_lin rfl ?_|refine P_A [] rfl ?_ ?_|refine P_Q [] rfl rfl (QY.add (c:=((man+mgd:Nat):Int)) rfl rfl (by omega) (by omega) (by omega)) ?_|refine P_Q [] rfl rfl (QY.mul (c:=((256*(man+mgd):Nat):Int)) rfl rfl (by omega) (by omega) (by omega)) ?_|(refine P_Ed [] rfl rfl (EWd.callP [] (hK) rfl rfl (by decide) (by repeat' (first|exact trivial|refine ⟨rfl,?_⟩ | fail)) rfl rfl) (disj_nil _) (nm_nilE _) (nm_nilT _) ?_; rintro _ _ ⟨rfl,rfl⟩; refine ⟨(by repeat' (first|exact trivial|refine ⟨⟨qsafe_ok (st:=[]) rfl,Sure.of rfl⟩,?_⟩|refine ⟨.inl rfl,?_⟩|refine ⟨.inr ⟨qsafe_ok (st:=[]) rfl,Sure.of rfl⟩,?_⟩|refine ⟨⟨qsafe_ok (st:=[]) rfl,Sure.slice (by omega)⟩,?_⟩|refine ⟨.inr ⟨qsafe_ok (st:=[]) rfl,Sure.slice (by omega)⟩,?_⟩|refine ⟨.inr ⟨QY.neqB rfl (by kernel_rfl) rfl rfl,Sure.of rfl⟩,?_⟩|refine ⟨.inr ⟨QY.eqlB rfl (by kernel_rfl) rfl rfl,Sure.of rfl⟩,?_⟩ | fail)),?_⟩)|(refine P_E [] rfl rfl (EW.callF [] (hP) rfl rfl (by decide) (by repeat' (first|exact trivial|refine ⟨rfl,?_⟩ | fail)) rfl rfl) ?_; rintro _ _ ⟨rfl,rfl⟩; refine ⟨(by repeat' (first|exact trivial|refine ⟨⟨qsafe_ok (st:=[]) rfl,Sure.of rfl⟩,?_⟩|refine ⟨.inl rfl,?_⟩|refine ⟨.inr ⟨qsafe_ok (st:=[]) rfl,Sure.of rfl⟩,?_⟩|refine ⟨⟨qsafe_ok (st:=[]) rfl,Sure.slice (by omega)⟩,?_⟩|refine ⟨.inr ⟨qsafe_ok (st:=[]) rfl,Sure.slice (by omega)⟩,?_⟩|refine ⟨.inr ⟨QY.neqB rfl (by kernel_rfl) rfl rfl,Sure.of rfl⟩,?_⟩|refine ⟨.inr ⟨QY.eqlB rfl (by kernel_rfl) rfl rfl,Sure.of rfl⟩,?_⟩ | fail)),LPt.nf ?_⟩; conv=>whnf)|(refine P_E [] rfl rfl (EW.mk (sz:=1) (bytes:=1) (k:=256*(man+mgd)) (zs:=byteC (0:BitVec 8)) rfl (by kernel_rfl) rfl rfl (by omega) (by omega)) ?_; rw [hr1]; rintro _ _ ⟨rfl,rfl⟩; refine ⟨(by repeat' (first|exact trivial|refine ⟨⟨qsafe_ok (st:=[]) rfl,Sure.of rfl⟩,?_⟩|refine ⟨.inl rfl,?_⟩|refine ⟨.inr ⟨qsafe_ok (st:=[]) rfl,Sure.of rfl⟩,?_⟩|refine ⟨⟨qsafe_ok (st:=[]) rfl,Sure.slice (by omega)⟩,?_⟩|refine ⟨.inr ⟨qsafe_ok (st:=[]) rfl,Sure.slice (by omega)⟩,?_⟩|refine ⟨.inr ⟨QY.neqB rfl (by kernel_rfl) rfl rfl,Sure.of rfl⟩,?_⟩|refine ⟨.inr ⟨QY.eqlB rfl (by kernel_rfl) rfl rfl,Sure.of rfl⟩,?_⟩ | fail)),LPt.nf ?_⟩; conv=>whnf)|(refine P_E [] rfl rfl (EW.mk (sz:=1) (bytes:=8) (k:=man+mgd) (zs:=[.pointer none]) rfl (by kernel_rfl) rfl rfl (by omega) (by omega)) ?_; rintro _ _ ⟨rfl,rfl⟩; refine ⟨(by repeat' (first|exact trivial|refine ⟨⟨qsafe_ok (st:=[]) rfl,Sure.of rfl⟩,?_⟩|refine ⟨.inl rfl,?_⟩|refine ⟨.inr ⟨qsafe_ok (st:=[]) rfl,Sure.of rfl⟩,?_⟩|refine ⟨⟨qsafe_ok (st:=[]) rfl,Sure.slice (by omega)⟩,?_⟩|refine ⟨.inr ⟨qsafe_ok (st:=[]) rfl,Sure.slice (by omega)⟩,?_⟩|refine ⟨.inr ⟨QY.neqB rfl (by kernel_rfl) rfl rfl,Sure.of rfl⟩,?_⟩|refine ⟨.inr ⟨QY.eqlB rfl (by kernel_rfl) rfl rfl,Sure.of rfl⟩,?_⟩ | fail)),LPt.nf ?_⟩; conv=>whnf)|(refine P_E [] rfl rfl (esafe_ok rfl) ?_; rintro _ _ ⟨rfl,rfl⟩; refine ⟨(by repeat' (first|exact trivial|refine ⟨⟨qsafe_ok (st:=[]) rfl,Sure.of rfl⟩,?_⟩|refine ⟨.inl rfl,?_⟩|refine ⟨.inr ⟨qsafe_ok (st:=[]) rfl,Sure.of rfl⟩,?_⟩|refine ⟨⟨qsafe_ok (st:=[]) rfl,Sure.slice (by omega)⟩,?_⟩|refine ⟨.inr ⟨qsafe_ok (st:=[]) rfl,Sure.slice (by omega)⟩,?_⟩|refine ⟨.inr ⟨QY.neqB rfl (by kernel_rfl) rfl rfl,Sure.of rfl⟩,?_⟩|refine ⟨.inr ⟨QY.eqlB rfl (by kernel_rfl) rfl rfl,Sure.of rfl⟩,?_⟩ | fail)),LPt.nf ?_⟩; conv=>whnf)|refine aA ?_|refine aI (hn:=?_)|refine aM ?_|refine qR ?_|refine qS ?_|exact ⟨rfl,rfl⟩|fail)
 all_goals first|refine LWp.wk (fun _ _ _ _ h=>h.kill 2) (LWp.nilG (b:=4) (o:=2) 2 rfl rfl (LWp.alias (b:=4) (o:=0) rfl rfl (Nat.le_of_ble_eq_true rfl) (L_ret (RetQ.pick [3,0,1,2,4,5,6] rfl rfl rfl rfl ⟨rfl,hE⟩))))|refine LWp.wk (fun _ _ _ _ h=>h.kill 1) (LWp.nilG (b:=4) (o:=2) 2 rfl rfl (LWp.alias (b:=4) (o:=0) rfl rfl (Nat.le_of_ble_eq_true rfl) (L_ret (RetQ.pick [3,0,2,1,4,5,6] rfl rfl rfl rfl ⟨rfl,hE⟩))))|refine LWp.wk (fun _ _ _ _ h=>h.kill 2) (LWp.nilG (b:=4) (o:=2) 2 rfl rfl (LWp.alias (b:=4) (o:=0) rfl rfl (Nat.le_of_ble_eq_true rfl) (L_ret (RetQ.pick [3,1,0,2,4,5,6] rfl rfl rfl rfl ⟨rfl,hE⟩))))|refine LWp.wk (fun _ _ _ _ h=>h.kill 0) (LWp.nilG (b:=4) (o:=2) 2 rfl rfl (LWp.alias (b:=4) (o:=0) rfl rfl (Nat.le_of_ble_eq_true rfl) (L_ret (RetQ.pick [3,1,2,0,4,5,6] rfl rfl rfl rfl ⟨rfl,hE⟩))))|refine LWp.wk (fun _ _ _ _ h=>h.kill 1) (LWp.nilG (b:=4) (o:=2) 2 rfl rfl (LWp.alias (b:=4) (o:=0) rfl rfl (Nat.le_of_ble_eq_true rfl) (L_ret (RetQ.pick [3,2,0,1,4,5,6] rfl rfl rfl rfl ⟨rfl,hE⟩))))|refine LWp.wk (fun _ _ _ _ h=>h.kill 0) (LWp.nilG (b:=4) (o:=2) 2 rfl rfl (LWp.alias (b:=4) (o:=0) rfl rfl (Nat.le_of_ble_eq_true rfl) (L_ret (RetQ.pick [3,2,1,0,4,5,6] rfl rfl rfl rfl ⟨rfl,hE⟩))))
set_option maxHeartbeats 2000000 in
theorem rGreat_u (m:HM) (gl:List Gb) (h:HI m gl) (n:Int):TrK Tryz.prog [] [0,3,4] 65 [ptr 0,.int .i64 n] (RGL m.man (m.man+m.mgd) m.bs m.rs gl) (fun v K=>v=.tuple ⟨[.int .i64 (greatR m gl n).1,.int .i64 (greatR m gl n).2.1]⟩∧K=RGL m.man (m.man+m.mgd) (greatR m gl n).2.2.1.bs (greatR m gl n).2.2.1.rs (greatR m gl n).2.2.2):=by
 have hnr:=h.nr
 have hn1:=h.n1
 have hnb:=h.nb
 have hP:=rPages_tr n
 have hpb:=pagesC_bd n
 cases hn:greatC n
 ·rw [greatR_arg hn]
  have h0:pagesC n=0:=by unfold greatC at hn; unfold pagesC; simp at hn; rw [if_pos (by omega)]
  rw [h0] at hP
  refine Tr.of row_tumbrelref09_Region_Great_ok rfl ?_
  repeat' (first|refine qN ?_|refine dN ?_|refine dR ?_|refine d0 ?_|refine rT ?_|refine qT ?_|refine qU ?_|refine qL ?_|refine qK ?_|refine iF (fun h=>?_) (fun h=>?_)|refine cP [] (hP) ?_|refine aI (hn:=?_)|refine aM ?_|refine qR ?_|refine qS ?_|exact ⟨rfl,rfl⟩|fail)
 ·obtain ⟨M,hM,hM1,hM2⟩:=greatC_pages hn
  rw [hM] at hP
  have hPl:=rPlace_tr m.rs (by omega) 0 m.man M ⟨hM1,by omega⟩ (by omega) (by omega)
  rw [Nat.sub_zero] at hPl
  cases hp:placeP m.rs M m.man 0 0 with
  | none =>
   rw [greatR_full hn (by rw [hM]; exact hp)]
   rw [hp] at hPl
   refine Tr.of row_tumbrelref09_Region_Great_ok rfl ?_
   repeat' (first|refine qN ?_|refine dN ?_|refine dR ?_|refine d0 ?_|refine rT ?_|refine qT ?_|refine qU ?_|refine qL ?_|refine qK ?_|refine iF (fun h=>?_) (fun h=>?_)|refine cP [] (hP) ?_|refine cP [2] (hPl) ?_|refine aI (hn:=?_)|refine aM ?_|refine qR ?_|refine qS ?_|exact ⟨rfl,rfl⟩|fail)
   all_goals (exfalso; omega)
  | some A =>
   obtain ⟨a,rfl,h1,h2⟩:=great_at hM1 hp
   rw [greatR_ok hn hM hp]
   rw [hp] at hPl
   change Tr Tryz.prog _ _ _ (fun v K=>v=.int .i64 (a:Int)∧K=[TB m.rs]) at hPl
   have hLy:=rLay_tr m.rs (by omega) a M (lrow M) rfl hM1 (by omega)
   have hMk:=rMake8_tr m.bs (m.man+m.mgd) hnb hn1 gl (h.gi.llen (by omega)) (fun x hx=>by have:=h.gi.ls x hx; have:=pagesC_bd x.2; omega) a M n hn hM (by omega) (h.gi.apart h2)
   have hml:=madeB_length (key:=keyW 1#64) (bs:=m.bs) (p:=a) (M:=M) (by omega) hM1
   refine Tr.of row_tumbrelref09_Region_Great_ok rfl ?_
   repeat' (first|refine qN ?_|refine dN ?_|refine d0 ?_|refine qT ?_|refine qU ?_|refine qL ?_|refine qK ?_|refine iF (fun h=>?_) (fun h=>?_)|refine cP [] (hP) ?_|refine cP [2] (hPl) ?_|refine aI (hn:=?_)|refine aM ?_|refine qR ?_|refine qS ?_|exact ⟨rfl,rfl⟩|fail)
   all_goals try (exfalso; omega)
   first|refine L_rs ?_|refine L_reg ?_ | skip
   refine cF [2] (hLy) ?_
   conv=>whnf
   refine dN ?_
   refine L_rs (dN ?_)
   simp only [GSL,hml] at hMk
   have hrl:=layP_length (rs:=m.rs) (a:=a) (m:=M) (r:=lrow M) (by omega) hM1
   refine LWp.pick [0,1,6,7] [0,1,7,3,4,5] rfl rfl rfl ?_
   refine LWp.alias (b:=0) (o:=2) rfl rfl (Nat.le_of_ble_eq_true rfl) ?_
   refine L_rs ?_
   refine cW [4,1,5] hMk ?_
   conv=>whnf
   repeat' (first|refine qN ?_|refine dN ?_|refine d0 ?_|refine qT ?_|refine qU ?_|refine qL ?_|refine qK ?_|refine iF (fun h=>?_) (fun h=>?_)|refine S_Q [] rfl rfl (QY.mul (c:=((256*a:Nat):Int)) rfl rfl (by omega) (by omega) (by omega)) ?_|refine aI (hn:=?_)|refine aM ?_|refine qR ?_|refine qS ?_|exact ⟨rfl,rfl⟩|fail)
   refine LWp.alias (b:=4) (o:=0) rfl rfl (Nat.le_of_ble_eq_true rfl) (L_ret (RetQ.pick [0,1,2,3,4,5,7] rfl rfl rfl rfl ⟨rfl,?_⟩))
   show _=RGL _ _ (madeB (keyW 1#64) m.bs a M) (layP m.rs a (lrow M) M) (glPut gl a n)
   unfold RGL; rw [hml,hrl]; rfl
end Go.Proofs.YthmdialagibpfaaGreatDoor
end
section
namespace Go.Proofs.YthmdialagibpfaaGreatDoor
open Go Go.Tum Go.Tum.Base
set_option maxRecDepth 4000
def HT (man mgd:Nat):LH:=[.cells 0 [ptr 0,.int .i64 man,.int .i64 (man+mgd:Nat),ptr 9,ptr 11],
 .cells 0 [slB 10 ((16*(man+mgd)+63) / 64),.int .i64 (16*(man+mgd):Nat)],.gro 1 (rowsC wordC (List.replicate ((16*(man+mgd)+63) / 64) 0)),
 .cells 0 [slB 12 ((16*(man+mgd)+63) / 64),.int .i64 (16*(man+mgd):Nat)],.gro 1 (rowsC wordC (List.replicate ((16*(man+mgd)+63) / 64) 0))]
set_option maxHeartbeats 1000000 in
theorem hNew_tr (man mgd:Nat) (h:man+mgd≤256) (bs:Bytes) (hb:bs.length=256*(man+mgd)) (rs:PRows) (G:Great) (c:Nat):Tr Tryz.prog 34 [ptr 0] (RL man mgd 1#64 bs rs G c) (fun v K=>v=ptr 8∧K=RL man mgd 1#64 bs rs G c++HT man mgd):=by
 have h1:=regConfig_tr man mgd 1#64 bs rs G c
 have h2:=regArena_tr man mgd 1#64 bs rs G c
 have h3:=arenaLen_tr bs
 have h4:=bsNew_tr (16*(man+mgd):Nat) (16*(man+mgd)) (by omega)
 simp only [BS,List.length_replicate] at h4
 refine Tr.of row_gheap_New_ok rfl ?_
 repeat' (first|refine qN ?_|refine dN ?_|refine d0 ?_|refine qT ?_|refine qU ?_|refine qL ?_|refine qK ?_|refine iF (fun h=>?_) (fun h=>?_)|refine cP [0,1,2,3,4,5,6,7] (h1) ?_|(refine cF [0,1,2,3,4,5,6,7] (h2) ?_; conv=>whnf)|refine cP [1,2] (h3) ?_|refine S_Q [] rfl rfl (QY.divN (c:=((16*(man+mgd):Nat):Int)) rfl rfl (by omega) (by omega) (by omega)) ?_|refine S_Q [] rfl rfl (QY.add (c:=((man+mgd:Nat):Int)) rfl rfl (by omega) (by omega) (by omega)) ?_|(refine cF [] (h4) ?_; conv=>whnf)|(refine S_E [] rfl rfl (esafe_ok rfl) ?_; rintro _ _ ⟨rfl,rfl⟩; refine ⟨(by repeat' (first|exact trivial|refine ⟨⟨qsafe_ok (st:=[]) rfl,Sure.of rfl⟩,?_⟩|refine ⟨.inl rfl,?_⟩|refine ⟨.inr ⟨qsafe_ok (st:=[]) rfl,Sure.of rfl⟩,?_⟩|refine ⟨⟨qsafe_ok (st:=[]) rfl,Sure.slice (by omega)⟩,?_⟩|refine ⟨.inr ⟨qsafe_ok (st:=[]) rfl,Sure.slice (by omega)⟩,?_⟩|refine ⟨.inr ⟨QY.neqB rfl (by kernel_rfl) rfl rfl,Sure.of rfl⟩,?_⟩|refine ⟨.inr ⟨QY.eqlB rfl (by kernel_rfl) rfl rfl,Sure.of rfl⟩,?_⟩ | fail)),LSt.nf ?_⟩; conv=>whnf)|refine aA ?_|refine aI (hn:=?_)|refine aD ?_|refine qR ?_|refine qS ?_|exact ⟨rfl,rfl⟩|fail)
 exact L_ret (RetQ.pick [0,1,2,3,4,5,6,7,13,9,10,11,12] rfl rfl rfl rfl ⟨rfl,rfl⟩)
end Go.Proofs.YthmdialagibpfaaGreatDoor
end
section
namespace Go.Proofs.YthmdialagibpfaaGreatDoor
open Go Go.Tum Go.Tum.Base
set_option maxRecDepth 4000
def PLg (m n:HM) (gl:List Gb):LH :=
 [.cells 0 [ptr 1,ptr 14],
  .cells 0 [ptr 2,.int .i64 m.man,.int .i64 (m.man+m.mgd:Nat),ptr 10,ptr 12],
  .cells 0 [.int .i64 m.man,.int .i64 m.mgd,.int .u64 ((1#64).toNat:Int),ptr 3,ptr 5,.int .u64 ((keyW 1#64).toNat:Int),.map (some 7),ptr 8],
  .cells 0 [slB 4 m.bs.length],BL m.bs,.cells 0 [slB 6 m.rs.length],.gro 4 (rowsC PRow.cells m.rs),.imap [] 0,
  .cells 0 [ptr 3,.int .u64 ((keyW 1#64).toNat:Int),.map (some 9)],.imap m.G m.c,
  .cells 0 [slB 11 m.hw.length,.int .i64 (16*(m.man+m.mgd):Nat)],.gro 1 (rowsC wordC m.hw),
  .cells 0 [slB 13 m.mw.length,.int .i64 (16*(m.man+m.mgd):Nat)],.gro 1 (rowsC wordC m.mw),
  .cells 0 [ptr 15,slB 16 (obs n).length],.cells 0 [.int .i64 n.man,.int .u64 ((keyW 1#64).toNat:Int),slB 17 n.bs.length,slB 18 n.rs.length,slB 19 (n.man+n.mgd),ptr 20],
  .gro 2 (rowsC obC (obs n)),BL n.bs,TB n.rs,.dead,.cells 0 [slB 22 n.bs.length,.int .u64 ((keyW 1#64).toNat:Int),slB 21 gl.length],.gro 2 (rowsC gbC gl),.dead]
abbrev PL (m:HM) (gl:List Gb):LH:=PLg m m gl
abbrev PK:List Nat:=[0,1,2,3,4,5,6,7,8,9,10,11,14,15,19,20]
abbrev P23:List Nat:=[0,1,2,3,4,5,6,7,8,9,10,11,12,13,14,15,16,17,18,19,20,21,22]
abbrev PH:List Nat:=[1,2,3,4,5,6,7,8,9,10,11,12,13]
abbrev PR:List Nat:=[14,15,16,17,18,19,20,21,22]
theorem ours_tr (r n:Int):Tr Tryz.prog 51 [shV r n] [] (fun v K=>v=shV r n∧K=[]):=by
 refine Tr.of row_tumbrellaw18_ours_ok rfl ?_
 repeat' (first|refine qN ?_|refine dN ?_|refine dR ?_|refine d0 ?_|refine rT ?_|refine aI (hn:=?_)|refine qR ?_|refine qS ?_|exact ⟨rfl,rfl⟩|fail)
set_option maxHeartbeats 1000000 in
theorem pAt_tr (m n:HM) (gl:List Gb) (w a:Int):Tr Tryz.prog 47 [ptr 0,.int .i64 w,.int .i64 a] (PLg m n gl) (fun v K=>v=.int .i64 (atP n w a)∧K=PLg m n gl):=by
 refine Tr.of row_tumbrellaw18_Pair_at_ok rfl ?_
 by_cases h0:0≤w
 ·obtain ⟨k,rfl⟩:=Int.eq_ofNat_of_zero_le h0
  by_cases h1:k<(obs n).length
  ·have hg:(obs n)[k]?=some (obs n)[k]:=List.getElem?_eq_getElem h1
   rw [show atP n k a=(obs n)[k].1 by unfold atP; rw [if_pos ⟨h0,by omega⟩,Int.toNat_natCast,List.getD_eq_getElem?_getD,hg]; rfl]
   repeat' (first|refine qN ?_|refine dN ?_|refine dR ?_|refine d0 ?_|refine rT ?_|refine qT ?_|refine qU ?_|refine qL ?_|refine qK ?_|refine iF (fun h=>?_) (fun h=>?_)|refine aX ?_|refine S_Q [] rfl rfl (QY.ldF (j:=0) (u:=.int .i64 (obs n)[k].1) obC_ok rfl rfl hg rfl rfl) ?_|refine aI (hn:=?_)|refine sP 9 (fun h=>?_) (fun h=>?_)|refine qR ?_|refine qS ?_|exact ⟨rfl,rfl⟩|fail)
   all_goals (exfalso; omega)
  ·rw [show atP n k a=a by unfold atP; rw [if_neg (by omega)]]
   repeat' (first|refine qN ?_|refine dN ?_|refine dR ?_|refine d0 ?_|refine rT ?_|refine qT ?_|refine qU ?_|refine qL ?_|refine qK ?_|refine iF (fun h=>?_) (fun h=>?_)|refine aX ?_|refine aI (hn:=?_)|refine sP 9 (fun h=>?_) (fun h=>?_)|refine qR ?_|refine qS ?_|exact ⟨rfl,rfl⟩|fail)
   all_goals (exfalso; omega)
 ·rw [show atP n w a=a by unfold atP; rw [if_neg (by omega)]]
  repeat' (first|refine qN ?_|refine dN ?_|refine dR ?_|refine d0 ?_|refine rT ?_|refine qT ?_|refine qU ?_|refine qL ?_|refine qK ?_|refine iF (fun h=>?_) (fun h=>?_)|refine aX ?_|refine aI (hn:=?_)|refine sP 9 (fun h=>?_) (fun h=>?_)|refine qR ?_|refine qS ?_|exact ⟨rfl,rfl⟩|fail)
  all_goals (exfalso; omega)
theorem partB_all (bs:Bytes):partB bs 0 bs.length=bs:=by unfold partB; rw [List.drop_zero,List.take_length]
set_option maxHeartbeats 1000000 in
theorem pBytes_tr (m n:HM) (hb0:1≤m.bs.length) (hb:m.bs.length≤65536) (hbn:n.bs.length=m.bs.length) (gl:List Gb):TrK Tryz.prog [] PK 63 [ptr 0] (PLg m n gl) (fun v K=>v=undef∧K=PLg m (wrM n m.bs) gl):=by
 have hR:=hRegion_tr m
 have hA:=regArena_tr m.man m.mgd 1#64 m.bs m.rs m.G m.c
 have hLd:=arenaLoad_ok m.bs hb 0 m.bs.length (by omega)
 rw [partB_all] at hLd
 refine Tr.of row_tumbrellaw18_Pair_bytes_ok rfl ?_
 unfold PLg
 rw [hbn]
 repeat' (first|refine qN ?_|refine dN ?_|refine d0 ?_|(refine cF PH (hR) ?_; conv=>whnf)|(refine cF [2,3,4,5,6,7,8,9] (hA) ?_; conv=>whnf)|(refine cF [3,4] (hLd) ?_; conv=>whnf)|refine aI (hn:=?_)|refine qR ?_|refine qS ?_|exact ⟨rfl,rfl⟩|fail)
 exact RetQ.end [0,1,2,3,4,5,6,7,8,9,10,11,12,13,14,15,16,23,18,19,20,21,22] rfl rfl rfl rfl ⟨rfl,rfl⟩
end Go.Proofs.YthmdialagibpfaaGreatDoor
end
section
namespace Go.Tum.Base
open Go Go.Tum
theorem pagesH_all {m:HM} (hm:HOk m):pagesH m=(List.range' 0 (m.man+m.mgd)).filter fun p:Nat=>mgP m.rs (p:Int):=by
 unfold pagesH
 rw [← List.range'_append_1,List.filter_append]
 have e:(List.range' 0 m.man).filter (fun p:Nat=>mgP m.rs (p:Int))=[]:=by
  rw [List.filter_eq_nil_iff]
  intro x hx hk
  rw [List.mem_range'] at hx
  obtain ⟨j,hj,rfl⟩:=hx
  have:=(hm.row _ (of_decide_eq_true hk)).1
  omega
 rw [e,List.nil_append,Nat.zero_add]
def pgN (m:HM) (p:Nat):Nat:=((List.range' 0 p).filter fun p:Nat=>mgP m.rs (p:Int)).length
theorem pgN_succ (m:HM) (p:Nat):pgN m (p+1)=pgN m p+if mgP m.rs (p:Int) then 1 else 0:=by
 unfold pgN
 rw [← List.range'_append_1,List.filter_append,List.length_append,Nat.zero_add]
 congr 1
 show (List.filter _ [p]).length=_
 rw [List.filter_cons]
 split <;> rfl
theorem pgN_at {m:HM} (hm:HOk m) {p:Nat} (hp:p<m.man+m.mgd) (h:mgP m.rs (p:Int)=true):(pagesH m)[pgN m p]?=some p:=by
 rw [pagesH_all hm,show m.man+m.mgd=p+(m.man+m.mgd-p) by omega,← List.range'_append_1,List.filter_append]
 have e:m.man+m.mgd-p=(m.man+m.mgd-p-1)+1:=by omega
 unfold pgN
 rw [List.getElem?_append_right (Nat.le_refl _),Nat.sub_self,Nat.zero_add,e,List.range'_succ,List.filter_cons,if_pos h]
 rfl
theorem pgN_all {m:HM} (hm:HOk m):pgN m (m.man+m.mgd)=(pagesH m).length:=by rw [pagesH_all hm]; rfl
theorem pagesH_len (m:HM):(pagesH m).length≤m.mgd:=by
 unfold pagesH
 have:=List.length_filter_le (fun p:Nat=>mgP m.rs (p:Int)) (List.range' m.man m.mgd)
 rw [List.length_range'] at this
 exact this
theorem hasH_low (m:HM):hasH m (-16)=false:=by unfold hasH; rw [decide_eq_false (by omega)]; rfl
theorem hasH_high {m:HM} {n:Nat} (h:256*(m.man+m.mgd)≤n):hasH m n=false:=by unfold hasH; rw [decide_eq_false (by omega)]; rfl
theorem natI_get {l:List Nat} {k p:Nat} (h:l[k]?=some p):(natI l)[k]?=some (p:Int):=by unfold natI; rw [List.getElem?_map,h]; rfl
theorem objI_get {m:HM} {k i:Nat} (h:(objN m)[k]?=some i):(objI m)[k]?=some ((16*i:Nat):Int):=by unfold objI; rw [List.getElem?_map,h]; rfl
theorem objI_obs (m:HM):objI m=(obs m).map (·.1):=by
 unfold objI obs
 rw [List.map_map]; rfl
end Go.Tum.Base
namespace Go.Proofs.YthmdialagibpfaaGreatDoor
open Go Go.Tum Go.Tum.Base
set_option maxRecDepth 4000
theorem ours4_tr (x:PRow):Tr Tryz.prog 143 [.agg ⟨x.cells⟩] [] (fun v K=>v=.agg ⟨x.cells⟩∧K=[]):=by
 refine Tr.of row_tumbrellaw04_ours_ok rfl ?_
 repeat' (first|refine qN ?_|refine dN ?_|refine dR ?_|refine d0 ?_|refine rT ?_|refine aI (hn:=?_)|refine qR ?_|refine qS ?_|exact ⟨rfl,rfl⟩|fail)
set_option maxHeartbeats 2000000 in
theorem same4_tr (rs:PRows) (hl:rs.length≤256):Tr Tryz.prog 72 [ptr 0,slB 2 rs.length] (TL rs++[TB rs]) (fun v K=>v=.bool true∧K=TL rs++[TB rs]):=by
 have hLn:=pagesLen_tr rs
 refine Tr.of row_tumbrellaw04_Same_ok rfl ?_
 repeat' (first|refine qN ?_|refine dN ?_|refine dR ?_|refine d0 ?_|refine qB ?_|refine rT ?_|refine qT ?_|refine qU ?_|refine qL ?_|refine qK ?_|refine qF ?_|refine qE ?_|refine iF (fun h=>?_) (fun h=>?_)|refine aX ?_|refine cP [0,1] (hLn) ?_|refine aA ?_|refine aI (hn:=?_)|refine sP 30 (fun h=>?_) (fun h=>?_)|refine qR ?_|refine qS ?_|exact ⟨rfl,rfl⟩|fail)
 ·exact absurd rfl h
 refine LWp.pick [0,1,12,13,14] [0,1,2] rfl rfl rfl (L_loop (fun q l K=>∃ k:Nat,q=rs.length-k∧k≤rs.length∧l=[(0,ptr 0),(1,slB 2 rs.length),(12,slB 2 rs.length),(13,.int .i64 rs.length),(14,.int .i64 k)]∧K=TL rs++[TB rs]) rs.length ⟨0,rfl,by omega,rfl,rfl⟩ ?_)
 rintro q _ _ ⟨k,rfl,hk,rfl,rfl⟩
 first|refine L_seq (L_rs (S_done [] rfl (Nx.goL (iF (fun h=>L_skip (Nx.goL ?_)) (fun h=>L_exit ?_)))))|refine L_rs (S_done [] rfl (Nx.goL (L_seq (iF (fun h=>L_skip (Nx.goL ?_)) (fun h=>L_exit ?_)))))
 ·have hk2:k<rs.length:=by omega
  have hg:rs[k]?=some rs[k]:=List.getElem?_eq_getElem hk2
  have hR:=pagesRow_tr rs k
  rw [pAt_nat,List.getD_eq_getElem?_getD,hg] at hR
  change Tr Tryz.prog _ _ _ (fun v K=>v=.agg ⟨(rs[k]).cells⟩∧K=TL rs) at hR
  generalize rs[k]=x at *
  have hO:=ours4_tr x
  repeat' (first|refine qN ?_|refine dN ?_|refine dR ?_|refine d0 ?_|refine qB ?_|refine rT ?_|refine qT ?_|refine qU ?_|refine qL ?_|refine qK ?_|refine qF ?_|refine qE ?_|refine iF (fun h=>?_) (fun h=>?_)|refine aX ?_|refine S_Q [] rfl rfl (QY.ldRow PRow.ok rfl rfl hg (by decide)) ?_|refine cP [0,1] (hR) ?_|refine cP [] (hO) ?_|refine S_Q [] rfl rfl (QY.tt (QY.neqS (bs:=[x.kind == x.kind,x.cls == x.cls,x.owner == x.owner,x.run == x.run]) rfl rfl rfl (by kernel_rfl)) (u:=false) (by simp)) ?_|refine aA ?_|refine aI (hn:=?_)|refine sP 30 (fun h=>?_) (fun h=>?_)|refine qR ?_|refine qS ?_|exact ⟨rfl,rfl⟩|fail)
  exact Nx.pick [0,1,12,13,14] [0,1,2] rfl rfl rfl ⟨rs.length-(k+1),by omega,k+1,rfl,by omega,rfl,rfl⟩
 ·obtain rfl:k=rs.length:=by omega
  have hR1:=pagesRow_tr rs (-1)
  rw [pAt_out (.inl (by omega))] at hR1
  have hR2:=pagesRow_tr rs rs.length
  rw [pAt_out (.inr (by omega))] at hR2
  refine Nx.goL ?_
  repeat' (first|refine qN ?_|refine dN ?_|refine dR ?_|refine d0 ?_|refine qB ?_|refine rT ?_|refine qT ?_|refine qU ?_|refine qL ?_|refine qK ?_|refine qF ?_|refine qE ?_|refine iF (fun h=>?_) (fun h=>?_)|refine aX ?_|refine cP [0,1] (hR1) ?_|refine cP [0,1] (hR2) ?_|refine S_Q [] rfl rfl (QY.tt (QY.eqlS (bs:=[(0:Int) == 0,(0:Int) == 0,(0:Int) == 0,(0:Int) == 0]) rfl rfl rfl (by kernel_rfl)) (u:=true) rfl) ?_|refine aA ?_|refine aI (hn:=?_)|refine sP 30 (fun h=>?_) (fun h=>?_)|refine qR ?_|refine qS ?_|exact ⟨rfl,rfl⟩|fail)
theorem str_neq {l:Env} {L:LH} {n0:NA} {o:Oper} {t ty:TypeId} {x y:Operand} {a:List (BitVec 8)} (ho:o.op=.binOp .neq t x y ty) (hx:lv l x=some (.string (bytesS a))) (hy:lv l y=some (.string (bytesS a))):QY Tryz.prog n0 L l (.raw o) (.bool false):=QY.tt (QY.neqStr ho hx hy) (by simp)
set_option maxHeartbeats 4000000 in
theorem pSame_tr (m:HM) (gl:List Gb) (hI:HI m gl):Tr Tryz.prog 22 [ptr 0] (PL m gl) (fun v K=>v=.bool true∧K=PL m gl):=by
 have hm:=hI.toHOk
 obtain ⟨hb0,hb1⟩:=hI.b0
 have hnr:=hm.nr
 have hn1:=hm.n1
 have hR:=hRegion_tr m
 have hA:=regArena_tr m.man m.mgd 1#64 m.bs m.rs m.G m.c
 have hP:=regPages_tr m.man m.mgd 1#64 m.bs m.rs m.G m.c
 have hLd:=arenaLoad_ok m.bs hb1 0 m.bs.length (by omega)
 rw [partB_all] at hLd
 have hS4:=same4_tr m.rs (by omega)
 have hAll:=hAll_tr m hm
 have hol:(objI m).length=(obs m).length:=by rw [objI_obs,List.length_map]
 rw [hol] at hAll
 refine Tr.of row_tumbrellaw18_Pair_Same_ok rfl ?_
 have hm1:=hI.m1
 repeat' (first|refine qN ?_|refine dN ?_|refine dR ?_|refine d0 ?_|refine qB ?_|refine rT ?_|refine qT ?_|refine qU ?_|refine qL ?_|refine qK ?_|refine qF ?_|refine qE ?_|refine iF (fun h=>?_) (fun h=>?_)|refine aX ?_|(refine cF PH (hR) ?_ (hc:=(by repeat' (first|exact trivial|refine ⟨⟨qsafe_ok (st:=[]) rfl,Sure.of rfl⟩,?_⟩|refine ⟨.inl rfl,?_⟩|refine ⟨.inr ⟨qsafe_ok (st:=[]) rfl,Sure.of rfl⟩,?_⟩|refine ⟨⟨qsafe_ok (st:=[]) rfl,Sure.slice (by omega)⟩,?_⟩|refine ⟨.inr ⟨qsafe_ok (st:=[]) rfl,Sure.slice (by omega)⟩,?_⟩|refine ⟨.inr ⟨QY.neqB rfl (by kernel_rfl) rfl rfl,Sure.of rfl⟩,?_⟩|refine ⟨.inr ⟨QY.eqlB rfl (by kernel_rfl) rfl rfl,Sure.of rfl⟩,?_⟩|refine ⟨⟨QY.str (i:=0) rfl (by kernel_rfl) rfl rfl (by omega),Sure.of rfl⟩,?_⟩|refine ⟨⟨str_neq rfl rfl rfl,Sure.of rfl⟩,?_⟩ | fail))); conv=>whnf)|(refine cF [2,3,4,5,6,7,8,9] (hA) ?_; conv=>whnf)|(refine cF [3,4] (hLd) ?_; conv=>whnf)|refine S_Q [] rfl rfl (QY.str (i:=0) rfl (by kernel_rfl) rfl rfl (by omega)) ?_|refine S_Q [] rfl rfl (str_neq rfl rfl rfl) ?_|(refine cF [2,3,4,5,6,7,8,9] (hP) ?_ (hc:=(by repeat' (first|exact trivial|refine ⟨⟨qsafe_ok (st:=[]) rfl,Sure.of rfl⟩,?_⟩|refine ⟨.inl rfl,?_⟩|refine ⟨.inr ⟨qsafe_ok (st:=[]) rfl,Sure.of rfl⟩,?_⟩|refine ⟨⟨qsafe_ok (st:=[]) rfl,Sure.slice (by omega)⟩,?_⟩|refine ⟨.inr ⟨qsafe_ok (st:=[]) rfl,Sure.slice (by omega)⟩,?_⟩|refine ⟨.inr ⟨QY.neqB rfl (by kernel_rfl) rfl rfl,Sure.of rfl⟩,?_⟩|refine ⟨.inr ⟨QY.eqlB rfl (by kernel_rfl) rfl rfl,Sure.of rfl⟩,?_⟩|refine ⟨⟨QY.str (i:=0) rfl (by kernel_rfl) rfl rfl (by omega),Sure.of rfl⟩,?_⟩|refine ⟨⟨str_neq rfl rfl rfl,Sure.of rfl⟩,?_⟩ | fail))); conv=>whnf)|refine cP [5,6,18] (hS4) ?_ (hc:=(by repeat' (first|exact trivial|refine ⟨⟨qsafe_ok (st:=[]) rfl,Sure.of rfl⟩,?_⟩|refine ⟨.inl rfl,?_⟩|refine ⟨.inr ⟨qsafe_ok (st:=[]) rfl,Sure.of rfl⟩,?_⟩|refine ⟨⟨qsafe_ok (st:=[]) rfl,Sure.slice (by omega)⟩,?_⟩|refine ⟨.inr ⟨qsafe_ok (st:=[]) rfl,Sure.slice (by omega)⟩,?_⟩|refine ⟨.inr ⟨QY.neqB rfl (by kernel_rfl) rfl rfl,Sure.of rfl⟩,?_⟩|refine ⟨.inr ⟨QY.eqlB rfl (by kernel_rfl) rfl rfl,Sure.of rfl⟩,?_⟩|refine ⟨.inr ⟨QY.str (i:=0) rfl (by kernel_rfl) rfl rfl (by omega),Sure.of rfl⟩,?_⟩|refine ⟨.inr ⟨str_neq rfl rfl rfl,Sure.of rfl⟩,?_⟩ | fail)))|(refine cF PH (hAll) ?_; conv=>whnf)|refine aA ?_|refine aI (hn:=?_)|refine sP 35 (fun h=>?_) (fun h=>?_)|refine sP 51 (fun h=>?_) (fun h=>?_)|refine sP 107 (fun h=>?_) (fun h=>?_)|refine sP 117 (fun h=>?_) (fun h=>?_)|refine sP 175 (fun h=>?_) (fun h=>?_)|refine sP 198 (fun h=>?_) (fun h=>?_)|refine sP 206 (fun h=>?_) (fun h=>?_)|refine qR ?_|refine qS ?_|exact ⟨rfl,rfl⟩|fail)
 ·exact absurd rfl h
 have hnb:=hm.nb
 refine LWp.pick [0,3,5,93,94,95] [0,1,2,3,4,5,6,7,8,9,10,11,12,13,14,15,16,17,18,19,20,21,22,23,24] rfl rfl rfl (L_loop (fun q l K=>∃ k:Nat,q=(obs m).length-k∧k≤(obs m).length∧l=[(0,ptr 0),(3,slB 23 m.bs.length),(5,slB 24 (obs m).length),(93,slB 16 (obs m).length),(94,.int .i64 (obs m).length),(95,.int .i64 k)]∧K=PL m gl++[BL m.bs,.gro 1 (rowsC intC (objI m))]) (obs m).length ⟨0,rfl,by omega,rfl,rfl⟩ ?_)
 rintro q _ _ ⟨k,rfl,hk,rfl,rfl⟩
 first|refine L_seq (L_rs (S_done [] rfl (Nx.goL (iF (fun h=>L_skip (Nx.goL ?_)) (fun h=>L_exit ?_)))))|refine L_rs (S_done [] rfl (Nx.goL (L_seq (iF (fun h=>L_skip (Nx.goL ?_)) (fun h=>L_exit ?_)))))
 ·have hk2:k<(obs m).length:=by omega
  have hg:(obs m)[k]?=some (obs m)[k]:=List.getElem?_eq_getElem hk2
  obtain ⟨i,g1,g2,g3,g4⟩:=obs_get hg
  rw [g2] at hg
  have hki:=objI_get g1
  have hH:=hHas_tr m hm (16*i:Nat) (by omega)
  rw [hasH_at g3,g4] at hH
  have hMd:=hMarked_ok m hm i g3 g4
  have hol2:=obs_len hm
  clear hR hA hP hLd hS4 hAll g1 g2 g4
  repeat' (first|refine qN ?_|refine dN ?_|refine dR ?_|refine d0 ?_|refine qB ?_|refine rT ?_|refine qT ?_|refine qU ?_|refine qL ?_|refine qK ?_|refine qF ?_|refine qE ?_|refine iF (fun h=>?_) (fun h=>?_)|refine aX ?_|refine S_Q [] rfl rfl (QY.ldRow obC_ok rfl rfl hg (by decide)) ?_|refine S_Q [] rfl rfl (QY.ldI rfl rfl hki) ?_|refine cP PH (hH) ?_ (hc:=(by repeat' (first|exact trivial|refine ⟨⟨qsafe_ok (st:=[]) rfl,Sure.of rfl⟩,?_⟩|refine ⟨.inl rfl,?_⟩|refine ⟨.inr ⟨qsafe_ok (st:=[]) rfl,Sure.of rfl⟩,?_⟩|refine ⟨⟨qsafe_ok (st:=[]) rfl,Sure.slice (by omega)⟩,?_⟩|refine ⟨.inr ⟨qsafe_ok (st:=[]) rfl,Sure.slice (by omega)⟩,?_⟩|refine ⟨.inr ⟨QY.neqB rfl (by kernel_rfl) rfl rfl,Sure.of rfl⟩,?_⟩|refine ⟨.inr ⟨QY.eqlB rfl (by kernel_rfl) rfl rfl,Sure.of rfl⟩,?_⟩|refine ⟨.inr ⟨QY.ldI rfl rfl hki,Sure.of rfl⟩,?_⟩ | fail)))|refine cP PH (hMd) ?_ (hc:=(by repeat' (first|exact trivial|refine ⟨⟨qsafe_ok (st:=[]) rfl,Sure.of rfl⟩,?_⟩|refine ⟨.inl rfl,?_⟩|refine ⟨.inr ⟨qsafe_ok (st:=[]) rfl,Sure.of rfl⟩,?_⟩|refine ⟨⟨qsafe_ok (st:=[]) rfl,Sure.slice (by omega)⟩,?_⟩|refine ⟨.inr ⟨qsafe_ok (st:=[]) rfl,Sure.slice (by omega)⟩,?_⟩|refine ⟨.inr ⟨QY.neqB rfl (by kernel_rfl) rfl rfl,Sure.of rfl⟩,?_⟩|refine ⟨.inr ⟨QY.eqlB rfl (by kernel_rfl) rfl rfl,Sure.of rfl⟩,?_⟩|refine ⟨.inr ⟨QY.ldI rfl rfl hki,Sure.of rfl⟩,?_⟩ | fail)))|refine S_Q [] rfl rfl (QY.neqB rfl (by kernel_rfl) rfl rfl) ?_|refine aA ?_|refine aI (hn:=?_)|refine sP 35 (fun h=>?_) (fun h=>?_)|refine sP 51 (fun h=>?_) (fun h=>?_)|refine sP 107 (fun h=>?_) (fun h=>?_)|refine sP 117 (fun h=>?_) (fun h=>?_)|refine sP 175 (fun h=>?_) (fun h=>?_)|refine sP 198 (fun h=>?_) (fun h=>?_)|refine sP 206 (fun h=>?_) (fun h=>?_)|refine qR ?_|refine qS ?_|exact ⟨rfl,rfl⟩|fail)
  all_goals first|exact absurd rfl h|exact Nx.pick [0,3,5,93,94,95] [0,1,2,3,4,5,6,7,8,9,10,11,12,13,14,15,16,17,18,19,20,21,22,23,24] rfl rfl rfl ⟨(obs m).length-(k+1),by omega,k+1,rfl,by omega,rfl,rfl⟩
 ·refine Nx.goL ?_
  clear hR hA hP hLd hS4 hAll
  have hPg:=hPages_tr m hm
  repeat' (first|refine qN ?_|refine dN ?_|refine dR ?_|refine d0 ?_|refine qB ?_|refine rT ?_|refine qT ?_|refine qU ?_|refine qL ?_|refine qK ?_|refine qF ?_|refine qE ?_|refine iF (fun h=>?_) (fun h=>?_)|refine aX ?_|refine aA ?_|refine aI (hn:=?_)|refine sP 35 (fun h=>?_) (fun h=>?_)|refine sP 51 (fun h=>?_) (fun h=>?_)|refine sP 107 (fun h=>?_) (fun h=>?_)|refine sP 117 (fun h=>?_) (fun h=>?_)|refine sP 175 (fun h=>?_) (fun h=>?_)|refine sP 198 (fun h=>?_) (fun h=>?_)|refine sP 206 (fun h=>?_) (fun h=>?_)|refine qR ?_|refine qS ?_|exact ⟨rfl,rfl⟩|fail)
  refine LWp.pick [0,3,8,139,140,141] [0,1,2,3,4,5,6,7,8,9,10,11,12,13,14,15,16,17,18,19,20,21,22,23] rfl rfl rfl (L_loop (fun q l K=>∃ p:Nat,q=m.rs.length-p∧p≤m.rs.length∧l=[(0,ptr 0),(3,slB 23 m.bs.length),(8,.int .i64 (pgN m p)),(139,slB 18 m.rs.length),(140,.int .i64 m.rs.length),(141,.int .i64 p)]∧K=PL m gl++[BL m.bs]) m.rs.length ⟨0,rfl,by omega,rfl,rfl⟩ ?_)
  rintro q _ _ ⟨p,rfl,hp,rfl,rfl⟩
  first|refine L_seq (L_rs (S_done [] rfl (Nx.goL (iF (fun h=>L_skip (Nx.goL ?_)) (fun h=>L_exit ?_)))))|refine L_rs (S_done [] rfl (Nx.goL (L_seq (iF (fun h=>L_skip (Nx.goL ?_)) (fun h=>L_exit ?_)))))
  ·have hp2:p<m.rs.length:=by omega
   have hIn:=hIn_tr m hm p
   have rIn:=rIn_tr18 m hm gl p
   have hMg:=rManaged_tr m.man (m.man+m.mgd) m.bs m.rs (obs m) gl (by omega) p
   have hsu:=pgN_succ m p
   cases hq:mgP m.rs (p:Int)
   ·rw [hq] at hMg hsu
    rw [if_neg (by decide),Nat.add_zero] at hsu
    repeat' (first|refine qN ?_|refine dN ?_|refine dR ?_|refine d0 ?_|refine qB ?_|refine rT ?_|refine qT ?_|refine qU ?_|refine qL ?_|refine qK ?_|refine qF ?_|refine qE ?_|refine iF (fun h=>?_) (fun h=>?_)|refine aX ?_|(refine cF PH (hIn) ?_; conv=>whnf)|(refine cF PR (rIn) ?_; conv=>whnf)|refine cP PR (hMg) ?_|refine aA ?_|refine aI (hn:=?_)|refine sP 35 (fun h=>?_) (fun h=>?_)|refine sP 51 (fun h=>?_) (fun h=>?_)|refine sP 107 (fun h=>?_) (fun h=>?_)|refine sP 117 (fun h=>?_) (fun h=>?_)|refine sP 175 (fun h=>?_) (fun h=>?_)|refine sP 198 (fun h=>?_) (fun h=>?_)|refine sP 206 (fun h=>?_) (fun h=>?_)|refine qR ?_|refine qS ?_|exact ⟨rfl,rfl⟩|fail)
    all_goals first|exact absurd rfl h|exact Nx.pick [0,3,8,139,140,141] [0,1,2,3,4,5,6,7,8,9,10,11,12,13,14,15,16,17,18,19,20,21,22,23] rfl rfl rfl ⟨m.rs.length-(p+1),by omega,p+1,rfl,by omega,by rw [hsu]; rfl,rfl⟩
   ·rw [hq] at hMg hsu
    rw [if_pos rfl] at hsu
    have hat:=pgN_at hm (by omega) hq
    have hlt:pgN m p<(pagesH m).length:=(List.getElem?_eq_some_iff.1 hat).1
    have hat2:=natI_get hat
    have hpl:=pagesH_len m
    have e:((pgN m (p+1):Nat):Int)=(pgN m p:Int)+1:=by omega
    repeat' (first|refine qN ?_|refine dN ?_|refine dR ?_|refine d0 ?_|refine qB ?_|refine rT ?_|refine qT ?_|refine qU ?_|refine qL ?_|refine qK ?_|refine qF ?_|refine qE ?_|refine iF (fun h=>?_) (fun h=>?_)|refine aX ?_|(refine cF PH (hIn) ?_; conv=>whnf)|(refine cF PR (rIn) ?_; conv=>whnf)|refine cP PR (hMg) ?_|(refine cF PH (hPg) ?_; conv=>whnf)|refine S_Q [] rfl rfl (QY.ldI rfl rfl hat2) ?_|refine aA ?_|refine aI (hn:=?_)|refine sP 35 (fun h=>?_) (fun h=>?_)|refine sP 51 (fun h=>?_) (fun h=>?_)|refine sP 107 (fun h=>?_) (fun h=>?_)|refine sP 117 (fun h=>?_) (fun h=>?_)|refine sP 175 (fun h=>?_) (fun h=>?_)|refine sP 198 (fun h=>?_) (fun h=>?_)|refine sP 206 (fun h=>?_) (fun h=>?_)|refine qR ?_|refine qS ?_|exact ⟨rfl,rfl⟩|fail)
    all_goals first|exact absurd rfl h | (exfalso; omega)|exact Nx.pick [0,3,8,139,140,141] [0,1,2,3,4,5,6,7,8,9,10,11,12,13,14,15,16,17,18,19,20,21,22,23] rfl rfl rfl ⟨m.rs.length-(p+1),by omega,p+1,rfl,by omega,by rw [e]; rfl,rfl⟩
  ·refine Nx.goL ?_
   obtain rfl:p=m.rs.length:=by omega
   have hal:=pgN_all hm
   rw [← hnr] at hal
   have h16:=hHas_tr m hm (-16) (by omega)
   rw [hasH_low] at h16
   have hhi:=hHas_tr m hm m.bs.length (by omega)
   rw [hasH_high (by omega)] at hhi
   repeat' (first|refine qN ?_|refine dN ?_|refine dR ?_|refine d0 ?_|refine qB ?_|refine rT ?_|refine qT ?_|refine qU ?_|refine qL ?_|refine qK ?_|refine qF ?_|refine qE ?_|refine iF (fun h=>?_) (fun h=>?_)|refine aX ?_|(refine cF PH (hPg) ?_; conv=>whnf)|refine cP PH (h16) ?_|refine cP PH (hhi) ?_|refine aA ?_|refine aI (hn:=?_)|refine sP 35 (fun h=>?_) (fun h=>?_)|refine sP 51 (fun h=>?_) (fun h=>?_)|refine sP 107 (fun h=>?_) (fun h=>?_)|refine sP 117 (fun h=>?_) (fun h=>?_)|refine sP 175 (fun h=>?_) (fun h=>?_)|refine sP 198 (fun h=>?_) (fun h=>?_)|refine sP 206 (fun h=>?_) (fun h=>?_)|refine qR ?_|refine qS ?_|exact ⟨rfl,rfl⟩|fail)
   all_goals (exfalso; omega)
end Go.Proofs.YthmdialagibpfaaGreatDoor
end
section
namespace Go.Tum.Base
open Go Go.Tum
def pgL (m:HM) (p:Nat):List Nat:=(List.range' 0 p).filter fun p:Nat=>mgP m.rs (p:Int)
theorem pgL_succ (m:HM) (p:Nat):pgL m (p+1)=pgL m p++if mgP m.rs (p:Int) then [p] else []:=by
 unfold pgL
 rw [← List.range'_append_1,List.filter_append,Nat.zero_add]
 congr 1
 rw [show List.range' p 1=[p] from rfl,List.filter_cons]
 split <;> rfl
theorem pgL_len (m:HM) (p:Nat):(pgL m p).length≤p:=by
 unfold pgL
 have:=List.length_filter_le (fun p:Nat=>mgP m.rs (p:Int)) (List.range' 0 p)
 rw [List.length_range'] at this
 exact this
theorem natI_app (a b:List Nat):natI (a++b)=natI a++natI b:=List.map_append
theorem natI_length (a:List Nat):(natI a).length=a.length:=List.length_map _
end Go.Tum.Base
namespace Go.Proofs.YthmdialagibpfaaGreatDoor
open Go Go.Tum Go.Tum.Base
set_option maxRecDepth 4000
theorem swNew_tr (m:HM) (hm:HOk m):Tr Tryz.prog 103 [ptr 0] (HL m) (fun v K=>v=ptr 14∧K=HL m++[.gro 1 (rowsC intC (natI (pagesH m))),.cells 0 [ptr 0,slB 13 (pagesH m).length,.int .i64 0]]):=by
 have hP:=hPages_tr m hm
 refine Tr.of row_sweep_New_ok rfl ?_
 repeat' (first|refine qN ?_|refine dN ?_|refine d0 ?_|refine qT ?_|refine qU ?_|refine qL ?_|refine qK ?_|refine iF (fun h=>?_) (fun h=>?_)|(refine cF [0,1,2,3,4,5,6,7,8,9,10,11,12] (hP) ?_; conv=>whnf)|refine aI (hn:=?_)|refine qR ?_|refine qS ?_|exact ⟨rfl,rfl⟩|fail)
 exact L_ret (RetQ.pick [0,1,2,3,4,5,6,7,8,9,10,11,12,13,14] rfl rfl rfl rfl ⟨rfl,rfl⟩)
set_option maxHeartbeats 1000000 in
theorem rsNew_tr (m:HM) (gl:List Gb) (hm:HOk m):Tr Tryz.prog 45 [ptr 0] (RHm m gl) (fun v K=>v=ptr 9∧K=RHm m gl++[.cells 0 [ptr 0,slB 10 (pagesH m).length,.int .i64 0],.gro 1 (rowsC intC (natI (pagesH m)))]):=by
 have hnr:=hm.nr
 have hn1:=hm.n1
 rw [pagesH_all hm]
 change Tr _ _ _ _ (fun v K=>v=ptr 9∧K=RHm m gl++[.cells 0 [ptr 0,slB 10 (pgL m (m.man+m.mgd)).length,.int .i64 0],.gro 1 (rowsC intC (natI (pgL m (m.man+m.mgd))))])
 refine Tr.of row_tumbrelref20_New_ok rfl ?_
 repeat' (first|refine qN ?_|refine dN ?_|refine dR ?_|refine d0 ?_|refine qB ?_|refine rT ?_|refine qT ?_|refine qU ?_|refine qL ?_|refine qK ?_|refine qF ?_|refine qE ?_|refine iF (fun h=>?_) (fun h=>?_)|refine aA ?_|refine aI (hn:=?_)|refine qR ?_|refine qS ?_|exact ⟨rfl,rfl⟩|fail)
 refine LWp.nilG (b:=9) (o:=1) 1 rfl rfl (LWp.pick [0,3,14,15,16] [0,1,2,3,4,5,6,7,8,9,10] rfl rfl rfl (L_loop (fun q s K=>∃ p:Nat,q=m.rs.length-p∧p≤m.rs.length∧s=[(0,ptr 0),(3,ptr 9),(14,slB 4 m.rs.length),(15,.int .i64 m.rs.length),(16,.int .i64 p)]∧K=RHm m gl++[.cells 0 [ptr 0,slB 10 (pgL m p).length,.int .i64 0],.gro 1 (rowsC intC (natI (pgL m p)))]) m.rs.length ⟨0,rfl,by omega,rfl,rfl⟩ ?_))
 rintro q _ _ ⟨p,rfl,hp,rfl,rfl⟩
 first|refine L_seq (L_rs (S_done [] rfl (Nx.goL (iF (fun h=>L_skip (Nx.goL ?_)) (fun h=>L_exit ?_)))))|refine L_rs (S_done [] rfl (Nx.goL (L_seq (iF (fun h=>L_skip (Nx.goL ?_)) (fun h=>L_exit ?_)))))
 ·have hp2:p<m.rs.length:=by omega
  have hM:=rManaged_tr m.man (m.man+m.mgd) m.bs m.rs (obs m) gl (by omega) p
  have hs:=pgL_succ m p
  have hl:=pgL_len m p
  have hnl:=natI_length (pgL m p)
  cases hq:mgP m.rs (p:Int)
  ·rw [hq] at hM hs
   rw [if_neg (by decide),List.append_nil] at hs
   repeat' (first|refine qN ?_|refine dN ?_|refine dR ?_|refine d0 ?_|refine qB ?_|refine rT ?_|refine qT ?_|refine qU ?_|refine qL ?_|refine qK ?_|refine qF ?_|refine qE ?_|refine iF (fun h=>?_) (fun h=>?_)|refine cP R9 (hM) ?_|refine aA ?_|refine aI (hn:=?_)|refine qR ?_|refine qS ?_|exact ⟨rfl,rfl⟩|fail)
   exact Nx.pick [0,3,14,15,16] [0,1,2,3,4,5,6,7,8,9,10] rfl rfl rfl ⟨m.rs.length-(p+1),by omega,p+1,rfl,by omega,rfl,by rw [hs]; rfl⟩
  ·rw [hq] at hM hs
   rw [if_pos rfl] at hs
   repeat' (first|refine qN ?_|refine dN ?_|refine dR ?_|refine d0 ?_|refine qB ?_|refine rT ?_|refine qT ?_|refine qU ?_|refine qL ?_|refine qK ?_|refine qF ?_|refine qE ?_|refine iF (fun h=>?_) (fun h=>?_)|refine cP R9 (hM) ?_|refine aA ?_|refine aI (hn:=?_)|refine qR ?_|refine qS ?_|exact ⟨rfl,rfl⟩|fail)
   first|refine L_rs ?_|refine L_reg ?_ | skip
   refine eE rfl rfl (EW.appR1 (bytes:=8) (a:=(p:Int)) intC_ok rfl (by kernel_rfl) rfl rfl rfl rfl hnl (by omega)) ?_
   conv=>whnf
   repeat' (first|refine qN ?_|refine dN ?_|refine dR ?_|refine d0 ?_|refine qB ?_|refine rT ?_|refine qT ?_|refine qU ?_|refine qL ?_|refine qK ?_|refine qF ?_|refine qE ?_|refine iF (fun h=>?_) (fun h=>?_)|refine aA ?_|refine aI (hn:=?_)|refine qR ?_|refine qS ?_|exact ⟨rfl,rfl⟩|fail)
   exact Nx.pick [0,3,14,15,16] [0,1,2,3,4,5,6,7,8,9,12] rfl rfl rfl ⟨m.rs.length-(p+1),by omega,p+1,rfl,by omega,rfl,by rw [hs,natI_app,List.length_append]; rfl⟩
 ·obtain rfl:p=m.rs.length:=by omega
  refine Nx.goL ?_
  rw [hnr]
  repeat' (first|refine qN ?_|refine dN ?_|refine d0 ?_|refine qB ?_|refine qT ?_|refine qU ?_|refine qL ?_|refine qK ?_|refine qF ?_|refine qE ?_|refine iF (fun h=>?_) (fun h=>?_)|refine aA ?_|refine aI (hn:=?_)|refine qR ?_|refine qS ?_|exact ⟨rfl,rfl⟩|fail)
  exact L_ret (RetQ.pick [0,1,2,3,4,5,6,7,8,9,10] rfl rfl rfl rfl ⟨rfl,rfl⟩)
end Go.Proofs.YthmdialagibpfaaGreatDoor
end
section
namespace Go.Proofs.YthmdialagibpfaaGreatDoor
open Go Go.Tum Go.Tum.Base
set_option maxRecDepth 4000
abbrev StepT (m m':HM) (gl gl':List Gb) (o:Op18) (others:Bool):Prop:=TrK Tryz.prog [] PK 15 [ptr 0,.agg ⟨o.cells⟩,.bool others] (PL m gl) (fun v K=>v=.bool true∧K=PL m' gl')
set_option maxHeartbeats 2000000 in
theorem step_alloc (m:HM) (gl:List Gb) (h:HI m gl) (wh at_ pg k to n:Int) (v:BitVec 64) (r s:Int) (kd:Int) (hk:kd=0∨kd=1∨kd=2) (others:Bool):StepT m (allocR m r s).2.2 gl gl ⟨kd,wh,at_,pg,k,to,n,v,r,s⟩ others:=by
 have hAt:=pAt_tr m m gl wh at_
 have hR:=hRegion_tr m
 have hA:=regArena_tr m.man m.mgd 1#64 m.bs m.rs m.G m.c
 have hO:=ours_tr r s
 have hh:=hAlloc_u m h.toHOk r s
 have hr:=rAlloc_u m h.toHOk gl r s
 generalize (allocR m r s).2.2=m' at *
 generalize (allocR m r s).1=x at *
 generalize (allocR m r s).2.1=y at *
 generalize atP m wh at_=a at *
 rcases hk with rfl | rfl | rfl
 all_goals
  refine Tr.of row_tumbrellaw18_Pair_Step_ok rfl ?_
  repeat' (first|refine qN ?_|refine dN ?_|refine dR ?_|refine d0 ?_|refine qB ?_|refine rT ?_|refine qT ?_|refine qU ?_|refine qL ?_|refine qK ?_|refine iF (fun h=>?_) (fun h=>?_)|refine cP P23 (hAt) ?_|(refine cF PH (hR) ?_; conv=>whnf)|(refine cF [2,3,4,5,6,7,8,9] (hA) ?_; conv=>whnf)|refine cP [] (hO) ?_|(refine cF PH (hh) ?_; conv=>whnf)|(refine cW PR (hr) ?_; conv=>whnf)|refine aI (hn:=?_)|refine sP 59 (fun h=>?_) (fun h=>?_)|refine sP 184 (fun h=>?_) (fun h=>?_)|refine qR ?_|refine qS ?_|exact ⟨rfl,rfl⟩|fail)
  all_goals first|exact absurd rfl h|exact ⟨congrArg Value.bool (beq_self_eq_true _),rfl⟩
set_option maxHeartbeats 2000000 in
theorem step_free (m:HM) (gl:List Gb) (h:HI m gl) (wh at_ pg k to n:Int) (v:BitVec 64) (r s:Int) (ha:atP m wh at_≤9223372036854775807) (others:Bool):StepT m (freeR m (atP m wh at_)) gl gl ⟨3,wh,at_,pg,k,to,n,v,r,s⟩ others:=by
 have hAt:=pAt_tr m m gl wh at_
 have hR:=hRegion_tr m
 have hA:=regArena_tr m.man m.mgd 1#64 m.bs m.rs m.G m.c
 generalize atP m wh at_=a at *
 have hh:=hFree_u m h.toHOk a ha
 have hr:=rFree_u m h.toHOk gl a
 generalize freeR m a=m' at *
 generalize (if hasH m a then (0:Int) else 6)=x at *
 refine Tr.of row_tumbrellaw18_Pair_Step_ok rfl ?_
 repeat' (first|refine qN ?_|refine dN ?_|refine dR ?_|refine d0 ?_|refine qB ?_|refine rT ?_|refine qT ?_|refine qU ?_|refine qL ?_|refine qK ?_|refine iF (fun h=>?_) (fun h=>?_)|refine cP P23 (hAt) ?_|(refine cF PH (hR) ?_; conv=>whnf)|(refine cF [2,3,4,5,6,7,8,9] (hA) ?_; conv=>whnf)|(refine cF PH (hh) ?_; conv=>whnf)|(refine cW PR (hr) ?_; conv=>whnf)|refine aI (hn:=?_)|refine sP 59 (fun h=>?_) (fun h=>?_)|refine sP 184 (fun h=>?_) (fun h=>?_)|refine qR ?_|refine qS ?_|exact ⟨rfl,rfl⟩|fail)
 exact ⟨congrArg Value.bool (beq_self_eq_true _),rfl⟩
set_option maxHeartbeats 2000000 in
theorem step_mark (m:HM) (gl:List Gb) (h:HI m gl) (wh at_ pg k to n:Int) (v:BitVec 64) (r s:Int) (ha:atP m wh at_≤9223372036854775807) (others:Bool):StepT m (markR m (atP m wh at_)) gl gl ⟨4,wh,at_,pg,k,to,n,v,r,s⟩ others:=by
 have hAt:=pAt_tr m m gl wh at_
 have hR:=hRegion_tr m
 have hA:=regArena_tr m.man m.mgd 1#64 m.bs m.rs m.G m.c
 generalize atP m wh at_=a at *
 have hh:=hMark_u m h.toHOk a ha
 have hr:=rMark_u m h.toHOk gl a
 generalize markR m a=m' at *
 generalize markB m a=x at *
 refine Tr.of row_tumbrellaw18_Pair_Step_ok rfl ?_
 repeat' (first|refine qN ?_|refine dN ?_|refine dR ?_|refine d0 ?_|refine qB ?_|refine rT ?_|refine qT ?_|refine qU ?_|refine qL ?_|refine qK ?_|refine iF (fun h=>?_) (fun h=>?_)|refine cP P23 (hAt) ?_|(refine cF PH (hR) ?_; conv=>whnf)|(refine cF [2,3,4,5,6,7,8,9] (hA) ?_; conv=>whnf)|(refine cF PH (hh) ?_; conv=>whnf)|(refine cW PR (hr) ?_; conv=>whnf)|refine S_Q [] rfl rfl (QY.eqlB rfl (by kernel_rfl) rfl rfl) ?_|refine aI (hn:=?_)|refine sP 59 (fun h=>?_) (fun h=>?_)|refine sP 184 (fun h=>?_) (fun h=>?_)|refine qR ?_|refine qS ?_|exact ⟨rfl,rfl⟩|fail)
 exact ⟨congrArg Value.bool (beq_self_eq_true _),rfl⟩
set_option maxHeartbeats 2000000 in
theorem step_unmark (m:HM) (gl:List Gb) (h:HI m gl) (wh at_ pg k to n:Int) (v:BitVec 64) (r s:Int) (others:Bool):StepT m (unmarkM m) gl gl ⟨5,wh,at_,pg,k,to,n,v,r,s⟩ others:=by
 have hAt:=pAt_tr m m gl wh at_
 have hR:=hRegion_tr m
 have hA:=regArena_tr m.man m.mgd 1#64 m.bs m.rs m.G m.c
 generalize atP m wh at_=a at *
 have hh:=hUnmark_u m h.toHOk
 have hr:=rUnmark_tr m h.toHOk gl
 generalize unmarkM m=m' at *
 generalize markN (obs m)=x at *
 refine Tr.of row_tumbrellaw18_Pair_Step_ok rfl ?_
 repeat' (first|refine qN ?_|refine dN ?_|refine dR ?_|refine d0 ?_|refine qB ?_|refine rT ?_|refine qT ?_|refine qU ?_|refine qL ?_|refine qK ?_|refine iF (fun h=>?_) (fun h=>?_)|refine cP P23 (hAt) ?_|(refine cF PH (hR) ?_; conv=>whnf)|(refine cF [2,3,4,5,6,7,8,9] (hA) ?_; conv=>whnf)|(refine cW PH (hh) ?_; conv=>whnf)|(refine cW PR (hr) ?_; conv=>whnf)|refine aI (hn:=?_)|refine sP 59 (fun h=>?_) (fun h=>?_)|refine sP 184 (fun h=>?_) (fun h=>?_)|refine qR ?_|refine qS ?_|exact ⟨rfl,rfl⟩|fail)
 exact ⟨congrArg Value.bool (beq_self_eq_true _),rfl⟩
set_option maxHeartbeats 2000000 in
theorem step_tidy (m:HM) (gl:List Gb) (h:HI m gl) (wh at_ pg k to n:Int) (v:BitVec 64) (r s:Int) (others:Bool):StepT m (tidyR m pg) gl gl ⟨6,wh,at_,pg,k,to,n,v,r,s⟩ others:=by
 have hAt:=pAt_tr m m gl wh at_
 have hR:=hRegion_tr m
 have hA:=regArena_tr m.man m.mgd 1#64 m.bs m.rs m.G m.c
 generalize atP m wh at_=a at *
 have hh:=hTidy_u m h.toHOk pg
 have hr:=rTidy_u m h.toHOk gl pg
 generalize tidyR m pg=m' at *
 generalize tidyE m pg=x at *
 refine Tr.of row_tumbrellaw18_Pair_Step_ok rfl ?_
 repeat' (first|refine qN ?_|refine dN ?_|refine dR ?_|refine d0 ?_|refine qB ?_|refine rT ?_|refine qT ?_|refine qU ?_|refine qL ?_|refine qK ?_|refine iF (fun h=>?_) (fun h=>?_)|refine cP P23 (hAt) ?_|(refine cF PH (hR) ?_; conv=>whnf)|(refine cF [2,3,4,5,6,7,8,9] (hA) ?_; conv=>whnf)|(refine cF PH (hh) ?_; conv=>whnf)|(refine cW PR (hr) ?_; conv=>whnf)|refine aI (hn:=?_)|refine sP 59 (fun h=>?_) (fun h=>?_)|refine sP 184 (fun h=>?_) (fun h=>?_)|refine qR ?_|refine qS ?_|exact ⟨rfl,rfl⟩|fail)
 exact ⟨congrArg Value.bool (beq_self_eq_true _),rfl⟩
set_option maxHeartbeats 2000000 in
theorem step_room (m:HM) (gl:List Gb) (h:HI m gl) (kd wh at_ pg k to n:Int) (v:BitVec 64) (r s:Int) (hk:(∃ j,kd=.negSucc j)∨∃ j,kd=.ofNat (j+11)) (others:Bool):StepT m m gl gl ⟨kd,wh,at_,pg,k,to,n,v,r,s⟩ others:=by
 have hAt:=pAt_tr m m gl wh at_
 have hR:=hRegion_tr m
 have hA:=regArena_tr m.man m.mgd 1#64 m.bs m.rs m.G m.c
 generalize atP m wh at_=a at *
 have hO:=ours_tr r s
 have hh:=hRoom_tr m h.toHOk r s
 have hr:=rRoom_tr m h.toHOk gl r s
 generalize roomH m r s=x at *
 rcases hk with ⟨j,rfl⟩ | ⟨j,rfl⟩
 all_goals
  refine Tr.of row_tumbrellaw18_Pair_Step_ok rfl ?_
  repeat' (first|refine qN ?_|refine dN ?_|refine dR ?_|refine d0 ?_|refine qB ?_|refine rT ?_|refine qT ?_|refine qU ?_|refine qL ?_|refine qK ?_|refine iF (fun h=>?_) (fun h=>?_)|refine cP P23 (hAt) ?_|(refine cF PH (hR) ?_; conv=>whnf)|(refine cF [2,3,4,5,6,7,8,9] (hA) ?_; conv=>whnf)|refine cP [] (hO) ?_|refine cP PH (hh) ?_|refine cP PR (hr) ?_|refine S_Q [] rfl rfl (QY.eqlB rfl (by kernel_rfl) rfl rfl) ?_|refine aI (hn:=?_)|refine sP 59 (fun h=>?_) (fun h=>?_)|refine sP 184 (fun h=>?_) (fun h=>?_)|refine qR ?_|refine qS ?_|exact ⟨rfl,rfl⟩|fail)
  exact ⟨congrArg Value.bool (beq_self_eq_true _),rfl⟩
end Go.Proofs.YthmdialagibpfaaGreatDoor
end
section
namespace Go.Tum.Base
open Go Go.Tum
theorem atP_in {m:HM} (hm:HOk m) (w:Int) {a:Int} (ha:inI a):inI (atP m w a):=by
 unfold atP
 split
 ·rename_i h
  obtain ⟨k,rfl⟩:=Int.eq_ofNat_of_zero_le h.1
  have hk:k<(obs m).length:=by omega
  rw [Int.toNat_natCast,List.getD_eq_getElem?_getD,List.getElem?_eq_getElem hk]
  obtain ⟨i,h1,h2,h3⟩:=obs_mem.1 (List.getElem_mem hk)
  have h4:((obs m)[k]).1=((16*i:Nat):Int):=by rw [h3]
  have hn:=hm.n1
  show inI ((obs m)[k]).1
  rw [h4]
  unfold inI
  omega
 ·exact ha
theorem greatR_keep (m:HM) (gl:List Gb) (n:Int):(greatR m gl n).2.2.1={ m with bs:=(greatR m gl n).2.2.1.bs,rs:=(greatR m gl n).2.2.1.rs,G:=(greatR m gl n).2.2.1.G,c:=(greatR m gl n).2.2.1.c }:=by
 unfold greatR
 split
 ·split <;> rfl
 ·rfl
end Go.Tum.Base
namespace Go.Proofs.YthmdialagibpfaaGreatDoor
open Go Go.Tum Go.Tum.Base
set_option maxRecDepth 4000
abbrev StepU (m m':HM) (gl gl':List Gb) (o:Op18) (others:Bool):Prop:=TrK Tryz.prog [] PK 15 [ptr 0,.agg ⟨o.cells⟩,.bool others] (PL m gl) (fun v K=>v=.bool true∧K=PL m' gl')
set_option maxHeartbeats 2000000 in
theorem step_great (m:HM) (gl:List Gb) (h:HI m gl) (wh at_ pg k to n:Int) (v:BitVec 64) (r s:Int) (others:Bool):StepU m (greatR m gl n).2.2.1 gl (greatR m gl n).2.2.2 ⟨9,wh,at_,pg,k,to,n,v,r,s⟩ others:=by
 have hAt:=pAt_tr m m gl wh at_
 have hR:=hRegion_tr m
 have hA:=regArena_tr m.man m.mgd 1#64 m.bs m.rs m.G m.c
 generalize atP m wh at_=a at *
 have hh:=regGreat_u m gl h n
 have hr:=rGreat_u m gl h n
 rw [greatR_keep]
 generalize (greatR m gl n).2.2.1.bs=bs' at *
 generalize (greatR m gl n).2.2.1.rs=rs' at *
 generalize (greatR m gl n).2.2.1.G=G' at *
 generalize (greatR m gl n).2.2.1.c=c' at *
 generalize (greatR m gl n).2.2.2=gl' at *
 generalize (greatR m gl n).1=x at *
 generalize (greatR m gl n).2.1=y at *
 refine Tr.of row_tumbrellaw18_Pair_Step_ok rfl ?_
 repeat' (first|refine qN ?_|refine dN ?_|refine dR ?_|refine d0 ?_|refine qB ?_|refine rT ?_|refine qT ?_|refine qU ?_|refine qL ?_|refine qK ?_|refine iF (fun h=>?_) (fun h=>?_)|refine cP P23 (hAt) ?_|(refine cF PH (hR) ?_; conv=>whnf)|(refine cF [2,3,4,5,6,7,8,9] (hA) ?_; conv=>whnf)|(refine cF [2,3,4,5,6,7,8,9] (hh) ?_; conv=>whnf)|(refine cW [15,17,18,19,20,21,22] (hr) ?_; conv=>whnf)|refine aI (hn:=?_)|refine sP 59 (fun h=>?_) (fun h=>?_)|refine sP 184 (fun h=>?_) (fun h=>?_)|refine qR ?_|refine qS ?_|exact ⟨rfl,rfl⟩|fail)
 all_goals first|exact absurd rfl h|exact ⟨congrArg Value.bool (beq_self_eq_true _),rfl⟩
end Go.Proofs.YthmdialagibpfaaGreatDoor
end
section
namespace Go.Proofs.YthmdialagibpfaaGreatDoor
open Go Go.Tum Go.Tum.Base
set_option maxRecDepth 4000
abbrev StepV (m m':HM) (gl gl':List Gb) (o:Op18) (others:Bool):Prop:=TrK Tryz.prog [] PK 15 [ptr 0,.agg ⟨o.cells⟩,.bool others] (PL m gl) (fun v K=>v=.bool true∧K=PL m' gl')
set_option maxHeartbeats 2000000 in
theorem step_word (m:HM) (gl:List Gb) (h:HI m gl) (wh at_ pg k to n:Int) (v:BitVec 64) (r s:Int) (others:Bool):StepV m (if others then wordR m at_ v else m) gl gl ⟨10,wh,at_,pg,k,to,n,v,r,s⟩ others:=by
 have hAt:=pAt_tr m m gl wh at_
 have hR:=hRegion_tr m
 have hA:=regArena_tr m.man m.mgd 1#64 m.bs m.rs m.G m.c
 generalize atP m wh at_=a at *
 obtain ⟨hb0,hb1⟩:=h.b0
 cases others
 ·refine Tr.of row_tumbrellaw18_Pair_Step_ok rfl ?_
  repeat' (first|refine qN ?_|refine dN ?_|refine dR ?_|refine d0 ?_|refine qB ?_|refine rT ?_|refine qT ?_|refine qU ?_|refine qL ?_|refine qK ?_|refine iF (fun h=>?_) (fun h=>?_)|refine cP P23 (hAt) ?_|(refine cF PH (hR) ?_; conv=>whnf)|(refine cF [2,3,4,5,6,7,8,9] (hA) ?_; conv=>whnf)|refine aI (hn:=?_)|refine sP 59 (fun h=>?_) (fun h=>?_)|refine sP 184 (fun h=>?_) (fun h=>?_)|refine qR ?_|refine qS ?_|exact ⟨rfl,rfl⟩|fail)
 ·rw [if_pos rfl]
  by_cases he:errW m.bs.length at_=0
  ·obtain ⟨i,rfl,h1,h2⟩:=errW_nat he
   rw [show wordR m i v=wrM m (overB m.bs i (putB v 8)) by unfold wordR; rw [if_pos he,Int.toNat_natCast]]
   have hW:=arenaSetWord_ok m.bs hb1 i h1 h2 v
   have hl:(overB m.bs i (putB v 8)).length=m.bs.length:=overB_length (by rw [putB_length]; exact h1)
   generalize overB m.bs i (putB v 8)=bs' at *
   have hB:=pBytes_tr (wrM m bs') m (by show 1≤bs'.length; omega) (by show bs'.length≤_; omega) hl.symm gl
   refine Tr.of row_tumbrellaw18_Pair_Step_ok rfl ?_
   repeat' (first|refine qN ?_|refine dN ?_|refine dR ?_|refine d0 ?_|refine qB ?_|refine rT ?_|refine qT ?_|refine qU ?_|refine qL ?_|refine qK ?_|refine iF (fun h=>?_) (fun h=>?_)|refine cP P23 (hAt) ?_|(refine cF PH (hR) ?_; conv=>whnf)|(refine cF [2,3,4,5,6,7,8,9] (hA) ?_; conv=>whnf)|(refine cF [3,4] (hW) ?_; conv=>whnf)|(refine cW P23 (hB) ?_; conv=>whnf)|refine aI (hn:=?_)|refine sP 59 (fun h=>?_) (fun h=>?_)|refine sP 184 (fun h=>?_) (fun h=>?_)|refine qR ?_|refine qS ?_|exact ⟨rfl,rfl⟩|fail)
  ·rw [show wordR m at_ v=m by unfold wordR; rw [if_neg he]]
   have hW:=arenaSetWord_no m.bs hb1 at_ v he
   have hB:=pBytes_tr m m hb0 hb1 rfl gl
   refine Tr.of row_tumbrellaw18_Pair_Step_ok rfl ?_
   repeat' (first|refine qN ?_|refine dN ?_|refine dR ?_|refine d0 ?_|refine qB ?_|refine rT ?_|refine qT ?_|refine qU ?_|refine qL ?_|refine qK ?_|refine iF (fun h=>?_) (fun h=>?_)|refine cP P23 (hAt) ?_|(refine cF PH (hR) ?_; conv=>whnf)|(refine cF [2,3,4,5,6,7,8,9] (hA) ?_; conv=>whnf)|refine cP [3,4] (hW) ?_|(refine cW P23 (hB) ?_; conv=>whnf)|refine aI (hn:=?_)|refine sP 59 (fun h=>?_) (fun h=>?_)|refine sP 184 (fun h=>?_) (fun h=>?_)|refine qR ?_|refine qS ?_|exact ⟨rfl,rfl⟩|fail)
set_option maxHeartbeats 4000000 in
theorem step_set (m:HM) (gl:List Gb) (h:HI m gl) (kd wh at_ pg k to n:Int) (hk:kd=7∨kd=8) (v:BitVec 64) (r s:Int) (others:Bool):StepV m (setR m ⟨kd,wh,at_,pg,k,to,n,v,r,s⟩) gl gl ⟨kd,wh,at_,pg,k,to,n,v,r,s⟩ others:=by
 have hAt:=pAt_tr m m gl wh at_
 have hR:=hRegion_tr m
 have hA:=regArena_tr m.man m.mgd 1#64 m.bs m.rs m.G m.c
 have hI:=rIndex_tr m.man (m.man+m.mgd) m.bs m.rs (obs m) gl (obs_len h.toHOk) (atP m wh at_)
 have hto:=atP_in h.toHOk to (a := -1) (by unfold inI; omega)
 have hAt2:=pAt_tr m m gl to (-1)
 obtain ⟨hb0,hb1⟩:=h.b0
 have hnb:=h.nb
 unfold setR
 simp only
 generalize atP m wh at_=a at *
 generalize atP m to (-1)=b at *
 cases hh:hasH m a
 ·rw [idx_no hh] at hI
  rw [if_neg (by decide)]
  rcases hk with rfl | rfl
  all_goals
   refine Tr.of row_tumbrellaw18_Pair_Step_ok rfl ?_
   repeat' (first|refine qN ?_|refine dN ?_|refine dR ?_|refine d0 ?_|refine qB ?_|refine rT ?_|refine qT ?_|refine qU ?_|refine qL ?_|refine qK ?_|refine iF (fun h=>?_) (fun h=>?_)|refine cP P23 (hAt) ?_|(refine cF PH (hR) ?_; conv=>whnf)|(refine cF [2,3,4,5,6,7,8,9] (hA) ?_; conv=>whnf)|refine cP PR (hI) ?_|refine aI (hn:=?_)|refine sP 59 (fun h=>?_) (fun h=>?_)|refine sP 184 (fun h=>?_) (fun h=>?_)|refine qR ?_|refine qS ?_|exact ⟨rfl,rfl⟩|fail)
 ·obtain ⟨i,rfl,h1,h2⟩:=hasH_nat hh
  obtain ⟨j,h3,h4,_⟩:=idx_at h1 h2
  rw [h3] at hI
  rw [if_pos rfl,Int.toNat_natCast]
  rcases hk with rfl | rfl
  ·rw [if_pos rfl]
   have hS:=objSetRef_tr m.bs hb1 (16*i) (by omega) (by omega) k b hto
   have hl:(setRefB m.bs (16*i) k b).length=m.bs.length:=setRefB_length
   generalize setRefB m.bs (16*i) k b=bs' at *
   have hB:=pBytes_tr (wrM m bs') m (by show 1≤bs'.length; omega) (by show bs'.length≤_; omega) hl.symm gl
   refine Tr.of row_tumbrellaw18_Pair_Step_ok rfl ?_
   repeat' (first|refine qN ?_|refine dN ?_|refine dR ?_|refine d0 ?_|refine qB ?_|refine rT ?_|refine qT ?_|refine qU ?_|refine qL ?_|refine qK ?_|refine iF (fun h=>?_) (fun h=>?_)|refine cP P23 (hAt) ?_|(refine cF PH (hR) ?_; conv=>whnf)|(refine cF [2,3,4,5,6,7,8,9] (hA) ?_; conv=>whnf)|refine cP PR (hI) ?_|refine cP P23 (hAt2) ?_|(refine cF [3,4] (hS) ?_; conv=>whnf)|(refine cW P23 (hB) ?_; conv=>whnf)|refine aI (hn:=?_)|refine sP 59 (fun h=>?_) (fun h=>?_)|refine sP 184 (fun h=>?_) (fun h=>?_)|refine qR ?_|refine qS ?_|exact ⟨rfl,rfl⟩|fail)
   all_goals (exfalso; omega)
  ·rw [if_neg (by decide)]
   have hS:=objSetNum_tr m.bs hb1 (16*i) (by omega) (by omega) k v
   have hl:(setNumB m.bs (16*i) k v).length=m.bs.length:=setNumB_length
   generalize setNumB m.bs (16*i) k v=bs' at *
   have hB:=pBytes_tr (wrM m bs') m (by show 1≤bs'.length; omega) (by show bs'.length≤_; omega) hl.symm gl
   refine Tr.of row_tumbrellaw18_Pair_Step_ok rfl ?_
   repeat' (first|refine qN ?_|refine dN ?_|refine dR ?_|refine d0 ?_|refine qB ?_|refine rT ?_|refine qT ?_|refine qU ?_|refine qL ?_|refine qK ?_|refine iF (fun h=>?_) (fun h=>?_)|refine cP P23 (hAt) ?_|(refine cF PH (hR) ?_; conv=>whnf)|(refine cF [2,3,4,5,6,7,8,9] (hA) ?_; conv=>whnf)|refine cP PR (hI) ?_|(refine cF [3,4] (hS) ?_; conv=>whnf)|(refine cW P23 (hB) ?_; conv=>whnf)|refine aI (hn:=?_)|refine sP 59 (fun h=>?_) (fun h=>?_)|refine sP 184 (fun h=>?_) (fun h=>?_)|refine qR ?_|refine qS ?_|exact ⟨rfl,rfl⟩|fail)
   all_goals (exfalso; omega)
end Go.Proofs.YthmdialagibpfaaGreatDoor
end
section
namespace Go.Tum.Base
open Go Go.Tum
def initM (man mgd:Nat):HM:=⟨man,mgd,List.replicate (256*(man+mgd)) 0,List.replicate (man+mgd) PRow.Z,[],0,List.replicate ((16*(man+mgd)+63) / 64) 0,List.replicate ((16*(man+mgd)+63) / 64) 0⟩
theorem pAt_init (n:Nat) (a:Int):pAt (List.replicate n PRow.Z) a=PRow.Z:=by
 unfold pAt
 split
 ·rfl
 ·rw [List.getD_eq_getElem?_getD,List.getElem?_replicate]; split <;> rfl
theorem HI.init {man mgd:Nat} (h1:1≤man) (h:man+mgd≤256):HI (initM man mgd) [] where
 n1:=h
 nb:=List.length_replicate
 nr:=List.length_replicate
 lh:=List.length_replicate
 lm:=List.length_replicate
 row p hp:=by change (pAt (List.replicate _ PRow.Z) p).kind=4 at hp; rw [pAt_init] at hp; exact absurd hp (by decide)
 obj i _ hb:=by change bitAt (List.replicate _ 0) i=true at hb; rw [bitAt_zero] at hb; cases hb
 mrk i _ hb:=by change bitAt (List.replicate _ 0) i=true at hb; rw [bitAt_zero] at hb; cases hb
 mhi _ _:=bitAt_zero _ _
 gi:=⟨GOk.nil,fun _ hx=>absurd hx List.not_mem_nil,fun _ hx=>absurd hx List.not_mem_nil,List.Pairwise.nil⟩
 m1:=h1
theorem objN_init (man mgd:Nat):objN (initM man mgd)=[]:=by
 unfold objN allF
 rw [List.filter_eq_nil_iff]
 intro x _
 show ¬ bitAt (List.replicate _ 0) x=true
 rw [bitAt_zero]; decide
theorem obs_init (man mgd:Nat):obs (initM man mgd)=[]:=by unfold obs; rw [objN_init]; rfl
end Go.Tum.Base
namespace Go.Proofs.YthmdialagibpfaaGreatDoor
open Go Go.Tum Go.Tum.Base
set_option maxRecDepth 4000
set_option maxHeartbeats 2000000 in
theorem make18_tr (man mgd:Nat) (h1:1≤man) (h:man+mgd≤256):Tr Tryz.prog 5 [.int .i64 man,.int .i64 mgd] [] (fun v K=>v=ptr 0∧K=PL (initM man mgd) []):=by
 have hR:=regNew_tr man mgd 1#64 h (by omega)
 have hN:=hNew_tr man mgd h (List.replicate (256*(man+mgd)) 0) List.length_replicate (List.replicate (man+mgd) PRow.Z) [] 0
 have hG:=rNew9_tr man mgd h (by omega)
 refine Tr.of row_tumbrellaw18_Make_ok rfl ?_
 repeat' (first|refine qN ?_|refine dN ?_|refine d0 ?_|refine qT ?_|refine qU ?_|refine qL ?_|refine qK ?_|refine iF (fun h=>?_) (fun h=>?_)|(refine cF [] (hR) ?_; conv=>whnf)|(refine cF [0,1,2,3,4,5,6,7] (hN) ?_; conv=>whnf)|(refine cF [] (hG) ?_; conv=>whnf)|refine aI (hn:=?_)|refine sP 16 (fun h=>?_) (fun h=>?_)|refine qR ?_|refine qS ?_|exact ⟨rfl,rfl⟩|fail)
 refine LWp.nilG (b:=20) (o:=1) 2 rfl rfl (L_ret (RetQ.pick [21,8,0,1,2,3,4,5,6,7,9,10,11,12,20,13,22,14,15,16,17,18,19] rfl rfl rfl rfl ⟨rfl,?_⟩))
 show _=PLg (initM man mgd) (initM man mgd) []
 unfold PLg
 rw [obs_init]
 simp only [initM,List.length_replicate]
 rfl
end Go.Proofs.YthmdialagibpfaaGreatDoor
end
section
namespace Go.Proofs.YthmdialagibpfaaGreatDoor
open Go Go.Tum Go.Tum.Base
set_option maxRecDepth 4000
theorem step_tr (m:HM) (gl:List Gb) (h:HI m gl) (o:Op18) (ho:o.In) (others:Bool):TrK Tryz.prog [] PK 15 [ptr 0,.agg ⟨o.cells⟩,.bool others] (PL m gl) (fun v K=>v=.bool true∧K=PL (stepM m gl o others).1 (stepM m gl o others).2):=by
 have ha:=atP_in h.toHOk o.which ho.1
 obtain ⟨kd,wh,at_,pg,k,to,n,v,r,s⟩:=o
 have hb:=ha.2
 simp only at hb
 clear ha
 unfold stepM
 simp only
 by_cases h0:kd=0∨kd=1∨kd=2
 ·rw [if_pos h0]; exact step_alloc m gl h wh at_ pg k to n v r s kd h0 others
 rw [if_neg h0]
 by_cases h3:kd=3
 ·rw [if_pos h3]; subst h3; exact step_free m gl h wh at_ pg k to n v r s hb others
 rw [if_neg h3]
 by_cases h4:kd=4
 ·rw [if_pos h4]; subst h4; exact step_mark m gl h wh at_ pg k to n v r s hb others
 rw [if_neg h4]
 by_cases h5:kd=5
 ·rw [if_pos h5]; subst h5; exact step_unmark m gl h wh at_ pg k to n v r s others
 rw [if_neg h5]
 by_cases h6:kd=6
 ·rw [if_pos h6]; subst h6; exact step_tidy m gl h wh at_ pg k to n v r s others
 rw [if_neg h6]
 by_cases h7:kd=7∨kd=8
 ·rw [if_pos h7]; exact step_set m gl h kd wh at_ pg k to n h7 v r s others
 rw [if_neg h7]
 by_cases h9:kd=9
 ·rw [if_pos h9]; subst h9; exact step_great m gl h wh at_ pg k to n v r s others
 rw [if_neg h9]
 by_cases h10:kd=10
 ·rw [if_pos h10]; subst h10; exact step_word m gl h wh at_ pg k to n v r s others
 rw [if_neg h10]
 refine step_room m gl h kd wh at_ pg k to n v r s ?_ others
 cases kd with
 | negSucc j=>exact .inl ⟨j,rfl⟩
 | ofNat j=>exact .inr ⟨j-11,congrArg Int.ofNat (by have h0:¬ ((j:Int)=0∨(j:Int)=1∨(j:Int)=2):=h0; have h3:¬ (j:Int)=3:=h3; have h4:¬ (j:Int)=4:=h4; have h5:¬ (j:Int)=5:=h5; have h6:¬ (j:Int)=6:=h6; have h7:¬ ((j:Int)=7∨(j:Int)=8):=h7; have h9:¬ (j:Int)=9:=h9; have h10:¬ (j:Int)=10:=h10; omega)⟩
def PL1 (m:HM) (gl:List Gb):LH :=
 [.dead,.cells 0 [ptr 2,ptr 15],
  .cells 0 [ptr 3,.int .i64 m.man,.int .i64 (m.man+m.mgd:Nat),ptr 11,ptr 13],
  .cells 0 [.int .i64 m.man,.int .i64 m.mgd,.int .u64 ((1#64).toNat:Int),ptr 4,ptr 6,.int .u64 ((keyW 1#64).toNat:Int),.map (some 8),ptr 9],
  .cells 0 [slB 5 m.bs.length],BL m.bs,.cells 0 [slB 7 m.rs.length],.gro 4 (rowsC PRow.cells m.rs),.imap [] 0,
  .cells 0 [ptr 4,.int .u64 ((keyW 1#64).toNat:Int),.map (some 10)],.imap m.G m.c,
  .cells 0 [slB 12 m.hw.length,.int .i64 (16*(m.man+m.mgd):Nat)],.gro 1 (rowsC wordC m.hw),
  .cells 0 [slB 14 m.mw.length,.int .i64 (16*(m.man+m.mgd):Nat)],.gro 1 (rowsC wordC m.mw),
  .cells 0 [ptr 16,slB 17 (obs m).length],.cells 0 [.int .i64 m.man,.int .u64 ((keyW 1#64).toNat:Int),slB 18 m.bs.length,slB 19 m.rs.length,slB 20 (m.man+m.mgd),ptr 21],
  .gro 2 (rowsC obC (obs m)),BL m.bs,TB m.rs,.dead,.cells 0 [slB 23 m.bs.length,.int .u64 ((keyW 1#64).toNat:Int),slB 22 gl.length],.gro 2 (rowsC gbC gl),.dead]
abbrev Q24:List Nat:=[0,1,2,3,4,5,6,7,8,9,10,11,12,13,14,15,16,17,18,19,20,21,22,23]
abbrev Q23:List Nat:=[1,2,3,4,5,6,7,8,9,10,11,12,13,14,15,16,17,18,19,20,21,22,23]
abbrev QH:List Nat:=[2,3,4,5,6,7,8,9,10,11,12,13,14]
abbrev QR:List Nat:=[15,16,17,18,19,20,21,22,23]
end Go.Proofs.YthmdialagibpfaaGreatDoor
end
section
namespace Go.Tum
open Go
theorem Tr.closedT {P:Program} {f:FuncId} {vs:List Value} {v:Value} (hc:callable P f=true) (hvs:vs.all stillS=true) (hs:stillT v=true) (h:∀ w,TabOk P (fun _=>False) w→Does P f vs.toArray w fun v' w'=>v'=v∧Fr (fun _=>False) w w'):Tr P f vs [] (fun u K=>u=v∧K=[]):=by
 intro X w0 w E vs' hA hR hv
 obtain rfl:=L2.vr_still hvs hv
 refine ⟨hc,(h w fun g hg=>?_).mono ?_⟩
 ·obtain ⟨h1,h2,h3⟩:=hA.2.2 g hg
  exact ⟨fun i x hx=>by rw [hR.fr.cell h3 h2]; exact h1 i x hx,fun e=>e,Nat.lt_of_lt_of_le h3 hR.fr.size⟩
 ·rintro _ w' ⟨rfl,hf⟩
  exact ⟨E,_,[],NA.Ext.refl _ E,Nat.le_refl _,VR.selfT hs,hR.keep hf,rfl,rfl⟩
end Go.Tum
end
section
namespace Go.Proofs.YthmdialagibpfaaGreatDoor
open Go Go.Tum
theorem DoorH.of {w:World} (h:TabOk Tryz.prog (fun _=>False) w):DoorH (fun _=>False) w:=by
 obtain ⟨h1,h2,h3⟩:=h 0 (by kernel_rfl)
 exact ⟨h1,h2,h3⟩
theorem DoorH.tab {w:World} (h:DoorH (fun _=>False) w):TabOk Tryz.prog (fun _=>False) w:=fun g hg=>by
 obtain rfl:g=0:=Option.some.inj (hg.symm.trans (by kernel_rfl))
 exact ⟨h.1,h.2.1,h.2.2⟩
end Go.Proofs.YthmdialagibpfaaGreatDoor
end
section
namespace Go.Proofs.YthmdialagibpfaaGreatDoor
open Go Go.Tum Go.Tum.Base
set_option maxRecDepth 4000
def SHd (m:HM) (xs:List Int) (j d:Nat) (g:Nat):LH :=
 [.cells 0 [ptr 2,.slice (some ⟨1,j*1,none⟩) d d,.int .i64 g],.gro 1 (rowsC intC xs),
  .cells 0 [ptr 3,.int .i64 m.man,.int .i64 (m.man+m.mgd:Nat),ptr 11,ptr 13],
  .cells 0 [.int .i64 m.man,.int .i64 m.mgd,.int .u64 ((1#64).toNat:Int),ptr 4,ptr 6,.int .u64 ((keyW 1#64).toNat:Int),.map (some 8),ptr 9],
  .cells 0 [slB 5 m.bs.length],BL m.bs,.cells 0 [slB 7 m.rs.length],.gro 4 (rowsC PRow.cells m.rs),.imap [] 0,
  .cells 0 [ptr 4,.int .u64 ((keyW 1#64).toNat:Int),.map (some 10)],.imap m.G m.c,
  .cells 0 [slB 12 m.hw.length,.int .i64 (16*(m.man+m.mgd):Nat)],.gro 1 (rowsC wordC m.hw),
  .cells 0 [slB 14 m.mw.length,.int .i64 (16*(m.man+m.mgd):Nat)],.gro 1 (rowsC wordC m.mw)]
theorem SHL_d (m:HM) {xs:List Int} {j d:Nat} (g:Nat) (h:xs.length=j+d):SHL m xs j g=SHd m xs j d g:=by
 unfold SHL SHd
 rw [show xs.length-j=d by omega]
theorem swLeft_d (m:HM) {xs:List Int} {j d:Nat} (g:Nat) (h:xs.length=j+d):Tr Tryz.prog 104 [ptr 0] (SHd m xs j d g) (fun v K=>v=.int .i64 d∧K=SHd m xs j d g):=by
 have:=swLeft_tr m xs j g
 rw [SHL_d m g h,show xs.length-j=d by omega] at this
 exact this
theorem swGone_d (m:HM) {xs:List Int} {j d:Nat} (g:Nat) (h:xs.length=j+d):Tr Tryz.prog 106 [ptr 0] (SHd m xs j d g) (fun v K=>v=.int .i64 g∧K=SHd m xs j d g):=by
 have:=swGone_tr m xs j g
 rw [SHL_d m g h] at this
 exact this
theorem swStep_ds (m:HM) (gl:List Gb) (hI:HI m gl) {xs:List Int} (hx:xs.length≤256) {j c:Nat} (g:Nat) (hg:g≤1000000000) (h:xs.length=j+(c+1)):TrK Tryz.prog [] SK 105 [ptr 0] (SHd m xs j (c+1) g) (fun v K=>v=.tuple ⟨[.int .i64 (swN m xs j),.bool (decide (j+1<xs.length))]⟩∧K=SHd (swS m xs j) xs (j+1) c (g+swN m xs j)):=by
 have:=swStep_ok m gl hI xs hx j g (by omega) hg
 rw [SHL_d m g h,SHL_d (d:=c) _ _ (by omega)] at this
 exact this
theorem rsStep_ds (m:HM) (gl:List Gb) (hI:HI m gl) {xs:List Int} (hx:xs.length≤256) {j c:Nat} (g:Nat) (hg:g≤1000000000) (h:xs.length=j+(c+1)):TrK Tryz.prog [] SRK 46 [ptr 0] (SRd m gl xs j (c+1) g) (fun v K=>v=.tuple ⟨[.int .i64 (swN m xs j),.bool (decide (j+1<xs.length))]⟩∧K=SRd (swS m xs j) gl xs (j+1) c (g+swN m xs j)):=by
 have:=rsStep_ok m gl hI xs hx j g (by omega) hg
 unfold SRL at this
 rw [show xs.length-j=c+1 by omega,show xs.length-(j+1)=c by omega] at this
 exact this
theorem HIswS {m:HM} {gl:List Gb} (h:HI m gl) (xs:List Int) (j:Nat):HI (swS m xs j) gl:=by
 unfold swS
 split
 ·exact (h.swM _).unmark
 ·exact h.swM _
theorem swN_le {m:HM} {gl:List Gb} (h:HI m gl) (xs:List Int) (j:Nat):swN m xs j≤4096:=(h.swept _).2
end Go.Proofs.YthmdialagibpfaaGreatDoor
end
section
namespace Go.Tum
open Go
section
variable {P:Program} {n0:NA} {L:LH} {l:Env}
theorem EW.appIn {α:Type} {g:α→List Value} {sz:Nat} {o:Oper} {s x:Operand} {sT xT:TypeId} {bytes b n k bx:Nat} {xs:List α} {a:α} (h:RowOk g sz) (ho:o.op=.call ⟨.builtin .append,⟨[s,x]⟩,⟨[sT,xT]⟩⟩) (ht:appT P sT xT=some (sz,bytes)) (hs:lv l s=some (.slice (some ⟨b,0,none⟩) k n)) (hx:lv l x=some (.slice (some ⟨bx,0,none⟩) 1 1))
  (hb:L[b]?=some (.gro sz (rowsC g xs))) (hbx:L[bx]?=some (.cells 0 (g a))) (hn:xs.length=n) (hk:k<n) (hz0:0<sz) (hbd:(2*(k+1)+2048)*bytes≤281474976710656) :
  EW P n0 L l (.raw o) (fun v K=>v=.slice (some ⟨b,0,none⟩) (k+1) n∧K=L.set b (.gro sz (rowsC g (xs.set k a)))):=by
 intro X w0 E0 w E l' Kf h0 hE hR hl hK
 have hrl:(rowsC g xs).length=n*sz:=by rw [rowsC_length h,hn]
 have hks:k*sz+sz≤n*sz:=by rw [← Nat.succ_mul]; exact Nat.mul_le_mul_right _ hk
 have hga:=h.len a
 have hc1:∃ cells,lslc L sz (.slice (some ⟨b,0,none⟩) k n)=some cells:=by
  cases k with
  | zero=>exact ⟨[],rfl⟩
  | succ k =>
   have h1:Nat.ble (0+(k+1)*sz) (rowsC g xs).length=true:=Nat.ble_eq_true_of_le (by omega)
   have h2:(rowsC g xs).isEmpty=false:=by
    cases hq:rowsC g xs with
    | nil=>rw [hq] at hrl; simp at hrl; omega
    | cons=>rfl
   have h3:(((rowsC g xs).drop 0).take ((k+1)*sz)).all stillS=true:=List.all_eq_true.2 fun a ha=>List.all_eq_true.1 (rowsC_still h xs) a (List.mem_of_mem_drop (List.mem_of_mem_take ha))
   exact ⟨_,by simp only [lslc,lcells,hb,h1,h2,h3,Bool.and_self,Bool.not_false,cond_true]; rfl⟩
 have hc2:lslc L sz (.slice (some ⟨bx,0,none⟩) 1 1)=some (g a):=by
  have h1:Nat.ble (0+(0+1)*sz) (g a).length=true:=Nat.ble_eq_true_of_le (by rw [h.len]; omega)
  have h3:((g a).drop 0).take ((0+1)*sz)=g a:=by rw [List.drop_zero,List.take_of_length_le]; rw [h.len]; omega
  simp only [lslc,lcells,hbx,h1,h3,cond_true]
 obtain ⟨cells,hc1⟩:=hc1
 obtain ⟨vs',h1,hsr⟩:=lv_ev hl hs
 obtain ⟨vx',h3,hxr⟩:=lv_ev hl hx
 obtain ⟨us,hrd1,hl1⟩:=lslc_ok hR (hsr.sr rfl) hc1
 obtain ⟨us2,hrd2,hl2⟩:=lslc_ok hR (hxr.sr rfl) hc2
 obtain rfl:us2=g a:=L2.eq_still (h.still a) hl2
 have hlen1:us.length=k*sz:=hrd1.1
 unfold appT at ht
 split at ht
 rotate_left
 ·cases ht
 rename_i e i z he
 cases hc:(isSl P xT && Nat.beq z.cells.toList.length i.size && z.cells.toList.all one && Nat.blt 0 i.bytes && Nat.blt 0 i.size)
 ·rw [hc] at ht; cases ht
 rw [hc] at ht
 cases ht
 simp only [Bool.and_eq_true] at hc
 obtain ⟨hu,hi,hz⟩:=elemOf_ok he
 have he':ElemT P sT e i.size i.bytes:=⟨hu,i,z,hi,rfl,rfl,hz,by simpa using Nat.eq_of_beq_eq_true hc.1.1.1.2,fun u hu=>List.all_eq_true.1 hc.1.1.2 u hu⟩
 obtain ⟨d,op,ty,pos,af,g'⟩:=o
 simp only at ho
 subst ho
 rcases hR.blk b _ _ hb (hR.ent hb).choose_spec with ⟨hne,_⟩ | ⟨hne,hsz,cs,hB,hcs,hroom⟩
 ·rw [hne] at hrl; simp at hrl; omega
 obtain ⟨hsp,r,hr,⟨a',c',rfl,⟨rfl,rfl⟩ | ⟨_,hc0,_⟩⟩ | ⟨_,hc0,_⟩⟩:=hsr.sr rfl
 rotate_left
 ·omega
 ·omega
 have er:(hR.ent hb).choose=r:=Option.some.inj ((hR.ent hb).choose_spec.symm.trans hr)
 rw [er] at hB hcs hroom
 refine append_any he' (isSl_ok hc.1.1.1.1) h1 h3 hrd1 hrd2 hbd (Nat.le_of_ble_eq_true hc.1.2) (fun hle' a2 ha=>.inr ?_) (fun _ ha=>by cases ha) (fun hlt' c'' zs hc'' hlz=>by omega)
 cases ha
 have hcl:0+r.2.1+k*i.size+(g a).length≤cs.length:=by omega
 have hls:(rowsC g (xs.set k a)).length=(rowsC g xs).length:=by rw [rowsC_length h,rowsC_length h,List.length_set]
 have hne2:rowsC g (xs.set k a)≠[]:=by intro e; rw [e] at hls; simp at hls; exact hne (List.length_eq_zero_iff.1 hls.symm)
 refine ⟨_,_,cs,rfl,hB,hcl,hK _ E _ _ _ ⟨rfl,rfl⟩ (Ext.refl E) (hR.upd hb hr ?_ (.inr ⟨hne2,hsz,_,putCells_blk (g a) 0 w cs hB (by omega),?_,?_⟩) ?_) ⟨rfl,r,hr,.inl ⟨_,_,rfl,.inl ⟨rfl,rfl⟩⟩⟩⟩
 ·rw [gro_foot hne]; exact putCells_fr (p:=⟨r.1,0+r.2.1+k*i.size,none⟩) (g a) 0 w
 ·rw [hls,Nat.add_zero,splice_drop hcl (by omega),show 0+r.2.1+k*i.size-r.2.1=k*i.size by omega,splice_take (by omega) (by simp; omega),hcs,rowsC_set h a (by omega)]
 ·rw [hls,Nat.add_zero,splice_length hcl]; exact hroom
 ·rw [gro_foot hne,gro_foot hne2]; exact fun _ h=>.inl h
theorem EW.cpy {α:Type} {g:α→List Value} {sz:Nat} {o:Oper} {s x:Operand} {sT xT:TypeId} {bytes b bx ox i m cx:Nat} {ys:List α} (zs:List α) (h:RowOk g sz) (ho:o.op=.call ⟨.builtin .append,⟨[s,x]⟩,⟨[sT,xT]⟩⟩) (ht:appT P sT xT=some (sz,bytes)) (hs:lv l s=some (.slice (some ⟨b,0,none⟩) 0 0)) (hx:lv l x=some (.slice (some ⟨bx,ox,none⟩) m cx))
  (hb:L[b]?=some (.gro sz [])) (hbx:L[bx]?=some (.gro sz (rowsC g ys))) (hox:ox=i*sz) (hm:i+m≤ys.length) (hzs:(ys.drop i).take m=zs) (hz:0<sz) (hbd:(2*m+2048)*bytes≤281474976710656) :
  EW P n0 L l (.raw o) (fun v K=>v=.slice (some ⟨L.length,0,none⟩) m m∧K=L.set b .dead++[.gro sz (rowsC g zs)]):=by
 have:=EW.appRS (P:=P) (n0:=n0) (L:=L) (xs:=[]) h ho ht hs hx hb hbx hox rfl hm hz (by rw [Nat.zero_add]; exact hbd)
 rw [hzs,List.nil_append,Nat.zero_add] at this
 exact this
theorem L2.setL {R:Value→Value→Prop}:∀ {x y:List Value} {j:Nat} {u:Value},L2 R x y→(∀ a c,x[j]?=some a→R a c→R u c)→L2 R (x.set j u) y
 | [],_,_,_,h,_=>h
 | _::_,[],_,_,h,_=>h.elim
 | a::x,c::y,0,u,h,hu=>⟨hu a c rfl h.1,h.2⟩
 | a::x,c::y,j+1,u,h,hu=>⟨h.1,L2.setL h.2 fun a' c' ha=>hu a' c' (by simpa using ha)⟩
theorem rep_nilC {b j sz:Nat} (szg:Nat) {vs:List Value} {X:Nat→Prop} {w0 w:World} {E:Emb} (hb:L[b]?=some (.cells sz vs)) (hv:vs[j]?=some (.slice none 0 0)) (hR:Rep X w0 E L w):Rep X w0 (E++[(0,0,0)]) (L.set b (.cells sz (vs.set j (.slice (some ⟨L.length,0,none⟩) 0 0)))++[.gro szg []]) w:=by
 have h1:Rep X w0 (E++[(0,0,0)]) (L++[.gro szg []]) w:=hR.push (Fr.refl _ w) (fun _ h=>h.elim) (.inl ⟨rfl,rfl⟩)
 have hlast:(E++[(0,0,0)])[L.length]?=some (0,0,0):=by rw [← hR.len]; simp
 have hlt:=(List.getElem?_eq_some_iff.1 hb).1
 have hb1:(L++[LB.gro szg []])[b]?=some (.cells sz vs):=by rw [List.getElem?_append_left hlt]; exact hb
 obtain ⟨r,hr⟩:=h1.ent hb1
 obtain ⟨cs,hB,hl2,hroom,hz⟩:=h1.blk b _ r hb1 hr
 have h2:=h1.upd (x:=.cells sz (vs.set j (.slice (some ⟨L.length,0,none⟩) 0 0))) hb1 hr (Fr.refl _ w) ⟨cs,hB,?_,by rw [List.length_set]; exact hroom,hz⟩ (fun _ h=>.inl h)
 ·rw [List.set_append_left _ _ hlt] at h2; exact h2
 ·rw [List.length_set]
  refine L2.setL hl2 fun a c ha hc=>?_
  rw [hv] at ha; cases ha
  have hc:c=Value.slice none 0 0:=hc
  subst hc
  exact ⟨rfl,_,hlast,.inr ⟨rfl,rfl,_,rfl⟩⟩
theorem Tr.nilC {A:Args} {keep:List Nat} {f:FuncId} {us:List Value} {v1:Value} {K1:LH} (b j szg:Nat) {sz:Nat} {vs:List Value} (h:TrK P A keep f us L (fun v K=>v=v1∧K=K1)) (hb:K1[b]?=some (.cells sz vs)) (hv:vs[j]?=some (.slice none 0 0)):TrK P A keep f us L (fun v K=>v=v1∧K=K1.set b (.cells sz (vs.set j (.slice (some ⟨K1.length,0,none⟩) 0 0)))++[.gro szg []]):=by
 intro X w0 w E vs' h0 hR hv'
 obtain ⟨h1,h2⟩:=h X w0 w E vs' h0 hR hv'
 refine ⟨h1,h2.mono ?_⟩
 rintro v' w' ⟨E',v,L',hE,hle,hvr,hR',rfl,rfl⟩
 exact ⟨_,v,_,hE.trans (Ext.push E' _),by simp; omega,hvr.ext (Ext.push E' _),rep_nilC szg hb hv hR',rfl,rfl⟩
end
end Go.Tum
end
