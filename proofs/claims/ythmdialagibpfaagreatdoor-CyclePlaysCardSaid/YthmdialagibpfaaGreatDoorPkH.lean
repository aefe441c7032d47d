/-
  What the proof leans on, part 8: of the texts MarkC, MarkM, RefN, MarkS, Lw21, CycleC, CycleG, CycleD, CycleH, CycleE, CycleF, CycleS, MarkR, RCycleA, RCycleB, RCycleC, Lw20, Lw26, Lw32, RCycleD, GoodM, MarkL, CycleP, CycleT, Lw33, CycleQ, CycleU, CycleV, CycleW, Lw28, Lw29, CycleX, CycleY, CycleZ, CycleK, CycleG2.
-/
import Derived.Test.YthmdialagibpfaaGreatDoorPkG
import Derived.Lib.AppendZerosOnto
import Derived.Lib.Overlaps
set_option linter.unusedVariables false
set_option linter.unusedSimpArgs false
set_option linter.unusedSectionVars false
section
namespace Go.Proofs.YthmdialagibpfaaGreatDoor
open Go Go.Tum Go.Tum.Base
set_option maxRecDepth 4000
def MKs (xs:List Int) (k n w:Nat):LH:=[.cells 0 [ptr 0,.slice (some ⟨14,0,none⟩) k n,.int .i64 w],.gro 1 (rowsC intC xs)]
theorem mNew_tr (m:HM):Tr Tryz.prog 99 [ptr 0] (HL m) (fun v K=>v=ptr 13∧K=HL m++MKs [] 0 0 0):=by
 have h:Tr Tryz.prog 99 [ptr 0] (HL m) (fun v K=>v=ptr 13∧K=HL m++[.cells 0 [ptr 0,.slice none 0 0,.int .i64 0]]):=by
  refine Tr.of row_mark_New_ok rfl ?_
  repeat' (first|refine qN ?_|refine dN ?_|refine dR ?_|refine d0 ?_|refine rT ?_|refine qT ?_|refine qU ?_|refine qL ?_|refine qK ?_|refine iF (fun h=>?_) (fun h=>?_)|refine aI (hn:=?_)|refine qR ?_|refine qS ?_|exact ⟨rfl,rfl⟩|fail)
  exact L_ret (RetQ.all rfl ⟨rfl,rfl⟩)
 exact Tr.nilC 13 1 1 h rfl rfl
theorem mLeft_tr (m:HM) (xs:List Int) (k n w:Nat):Tr Tryz.prog 101 [ptr 13] (HL m++MKs xs k n w) (fun v K=>v=.int .i64 k∧K=HL m++MKs xs k n w):=by
 refine Tr.of row_mark_Marker_Left_ok rfl ?_
 repeat' (first|refine qN ?_|refine dN ?_|refine dR ?_|refine d0 ?_|refine rT ?_|refine qT ?_|refine qU ?_|refine qL ?_|refine qK ?_|refine iF (fun h=>?_) (fun h=>?_)|refine aI (hn:=?_)|refine qR ?_|refine qS ?_|exact ⟨rfl,rfl⟩|fail)
def pushS (xs:List Int) (k:Nat) (a:Int):List Int:=if k<xs.length then xs.set k a else xs++[a]
theorem pushS_take {xs:List Int} {k:Nat} (a:Int) (hk:k≤xs.length):(pushS xs k a).take (k+1)=xs.take k++[a]:=by
 unfold pushS
 split
 ·rw [List.take_succ_eq_append_getElem (by rw [List.length_set]; omega),List.getElem_set_self,List.take_set_of_le (Nat.le_refl _)]
 ·obtain rfl:k=xs.length:=by omega
  rw [List.take_of_length_le (by simp),List.take_of_length_le (Nat.le_refl _)]
theorem pushS_length {xs:List Int} {k:Nat} (a:Int) (hk:k≤xs.length):k+1≤(pushS xs k a).length∧(pushS xs k a).length≤xs.length+1:=by
 unfold pushS
 split
 ·rw [List.length_set]; omega
 ·simp; omega
def noteS (m:HM) (xs:List Int) (k:Nat) (a:Int):List Int:=bif markB m a then pushS xs k a else xs
def noteK (m:HM) (k:Nat) (a:Int):Nat:=bif markB m a then k+1 else k
theorem mNote_tr (m:HM) (hm:HOk m) (a:Int) (ha:a≤9223372036854775807) (xs:List Int) (k w:Nat) (hk:k≤xs.length) (hn6:xs.length≤65536):TrK Tryz.prog [] [0,1,2,3,4,5,6,7,8,9,10,11,12,13] 158 [ptr 13,.int .i64 a] (HL m++MKs xs k xs.length w)
  (fun v K=>v=undef∧K=HL (markR m a)++MKs (noteS m xs k a) (noteK m k a) (noteS m xs k a).length w):=by
 have hM:=hMark_u m hm a ha
 refine Tr.of row_mark_Marker_note_ok rfl ?_
 unfold noteS noteK
 cases hb:markB m a
 ·rw [hb] at hM
  repeat' (first|refine qN ?_|refine dN ?_|refine dR ?_|refine d0 ?_|refine rT ?_|refine qT ?_|refine qU ?_|refine qL ?_|refine qK ?_|refine iF (fun h=>?_) (fun h=>?_)|(refine cF [0,1,2,3,4,5,6,7,8,9,10,11,12] (hM) ?_; conv=>whnf)|refine aI (hn:=?_)|refine qR ?_|refine qS ?_|exact ⟨rfl,rfl⟩|fail)
  exact RetQ.end [0,1,2,3,4,5,6,7,8,9,10,11,12,13,14] rfl rfl rfl rfl ⟨rfl,rfl⟩
 ·rw [hb] at hM
  obtain ⟨n,hn⟩:∃ n,n=xs.length:=⟨_,rfl⟩
  have hn':=hn.symm
  rw [← hn] at hk hn6 ⊢
  simp only [cond_true]
  by_cases hkn:k<n
  ·rw [show pushS xs k a=xs.set k a from if_pos (by omega),show (xs.set k a).length=n by rw [List.length_set,hn']]
   repeat' (first|refine qN ?_|refine dN ?_|refine dR ?_|refine d0 ?_|refine rT ?_|refine qT ?_|refine qU ?_|refine qL ?_|refine qK ?_|refine iF (fun h=>?_) (fun h=>?_)|(refine cF [0,1,2,3,4,5,6,7,8,9,10,11,12] (hM) ?_; conv=>whnf)|refine aI (hn:=?_)|refine qR ?_|refine qS ?_|exact ⟨rfl,rfl⟩|fail)
   first|refine L_rs ?_|refine L_reg ?_ | skip
   refine eE rfl rfl (EW.appIn (bytes:=8) (a:=a) intC_ok rfl (by kernel_rfl) rfl rfl rfl rfl hn' hkn (by omega) (by omega)) ?_
   conv=>whnf
   repeat' (first|refine qN ?_|refine dN ?_|refine dR ?_|refine d0 ?_|refine rT ?_|refine qT ?_|refine qU ?_|refine qL ?_|refine qK ?_|refine iF (fun h=>?_) (fun h=>?_)|refine aI (hn:=?_)|refine qR ?_|refine qS ?_|exact ⟨rfl,rfl⟩|fail)
  ·obtain rfl:k=n:=by omega
   rw [show pushS xs k a=xs++[a] from if_neg (by omega),show (xs++[a]).length=k+1 by simp [hn']]
   repeat' (first|refine qN ?_|refine dN ?_|refine dR ?_|refine d0 ?_|refine rT ?_|refine qT ?_|refine qU ?_|refine qL ?_|refine qK ?_|refine iF (fun h=>?_) (fun h=>?_)|(refine cF [0,1,2,3,4,5,6,7,8,9,10,11,12] (hM) ?_; conv=>whnf)|refine aI (hn:=?_)|refine qR ?_|refine qS ?_|exact ⟨rfl,rfl⟩|fail)
   first|refine L_rs ?_|refine L_reg ?_ | skip
   refine eE rfl rfl (EW.appR1 (bytes:=8) (a:=a) intC_ok rfl (by kernel_rfl) rfl rfl rfl rfl hn' (by omega)) ?_
   conv=>whnf
   repeat' (first|refine qN ?_|refine dN ?_|refine dR ?_|refine d0 ?_|refine rT ?_|refine qT ?_|refine qU ?_|refine qL ?_|refine qK ?_|refine iF (fun h=>?_) (fun h=>?_)|refine aI (hn:=?_)|refine qR ?_|refine qS ?_|exact ⟨rfl,rfl⟩|fail)
   exact RetQ.end [0,1,2,3,4,5,6,7,8,9,10,11,12,13,16] rfl rfl rfl rfl ⟨rfl,rfl⟩
theorem mRoot_tr (m:HM) (hm:HOk m) (a:Int) (ha:a≤9223372036854775807) (xs:List Int) (k w:Nat) (hk:k≤xs.length) (hn6:xs.length≤65536):TrK Tryz.prog [] [0,1,2,3,4,5,6,7,8,9,10,11,12,13] 100 [ptr 13,.int .i64 a] (HL m++MKs xs k xs.length w)
  (fun v K=>v=.int .i64 (if a<0∨hasH m a=true then 0 else 6)∧K=HL (markR m a)++MKs (noteS m xs k a) (noteK m k a) (noteS m xs k a).length w):=by
 have hN:=mNote_tr m hm a ha xs k w hk hn6
 have hH:=hHas_tr m hm a ha
 refine Tr.of row_mark_Marker_Root_ok rfl ?_
 by_cases h0:a<0
 ·obtain ⟨e1,e2⟩:=markR_no (m:=m) (a:=a) (by rw [hasH,decide_eq_false (by omega),Bool.false_and])
  rw [if_pos (.inl h0),show noteS m xs k a=xs by unfold noteS; rw [e2]; rfl,show noteK m k a=k by unfold noteK; rw [e2]; rfl,e1]
  repeat' (first|refine qN ?_|refine dN ?_|refine dR ?_|refine d0 ?_|refine qB ?_|refine rT ?_|refine qT ?_|refine qU ?_|refine qL ?_|refine qK ?_|refine iF (fun h=>?_) (fun h=>?_)|refine aI (hn:=?_)|refine qR ?_|refine qS ?_|exact ⟨rfl,rfl⟩|fail)
  all_goals try (exfalso; omega)
 ·cases hh:hasH m a
  ·obtain ⟨e1,e2⟩:=markR_no hh
   rw [hh] at hH
   rw [if_neg (fun h=>h.elim h0 (fun h=>by cases h)),show noteS m xs k a=xs by unfold noteS; rw [e2]; rfl,show noteK m k a=k by unfold noteK; rw [e2]; rfl,e1]
   repeat' (first|refine qN ?_|refine dN ?_|refine dR ?_|refine d0 ?_|refine qB ?_|refine rT ?_|refine qT ?_|refine qU ?_|refine qL ?_|refine qK ?_|refine iF (fun h=>?_) (fun h=>?_)|refine cP [0,1,2,3,4,5,6,7,8,9,10,11,12] (hH) ?_|refine aI (hn:=?_)|refine qR ?_|refine qS ?_|exact ⟨rfl,rfl⟩|fail)
   all_goals try (exfalso; omega)
  ·rw [hh] at hH
   rw [if_pos (.inr rfl)]
   repeat' (first|refine qN ?_|refine dN ?_|refine dR ?_|refine d0 ?_|refine qB ?_|refine rT ?_|refine qT ?_|refine qU ?_|refine qL ?_|refine qK ?_|refine iF (fun h=>?_) (fun h=>?_)|refine cP [0,1,2,3,4,5,6,7,8,9,10,11,12] (hH) ?_|refine aI (hn:=?_)|refine qR ?_|refine qS ?_|exact ⟨rfl,rfl⟩|fail)
   all_goals try (exfalso; omega)
   repeat' (first|refine qN ?_|refine dN ?_|refine dR ?_|refine d0 ?_|refine qB ?_|refine rT ?_|refine qT ?_|refine qU ?_|refine qL ?_|refine qK ?_|refine iF (fun h=>?_) (fun h=>?_)|(refine cW [0,1,2,3,4,5,6,7,8,9,10,11,12,13,14] (hN) ?_; conv=>whnf)|refine aI (hn:=?_)|refine qR ?_|refine qS ?_|exact ⟨rfl,rfl⟩|fail)
end Go.Proofs.YthmdialagibpfaaGreatDoor
end
section
namespace Go.Tum.Base
open Go Go.Tum Go.Proofs.YthmdialagibpfaaGreatDoor
abbrev MkS:=HM × List Int × Nat
def stk (x:MkS):List Int:=x.2.1.take x.2.2
def ntK (x:MkS) (a:Int):MkS:=(markR x.1 a,noteS x.1 x.2.1 x.2.2 a,noteK x.1 x.2.2 a)
def ntL (x:MkS) (l:List Int) (j:Nat):MkS:=(l.take j).foldl ntK x
def ntA (x:MkS) (l:List Int):MkS:=l.foldl ntK x
theorem ntL_succ (x:MkS) (l:List Int) {j:Nat} (h:j<l.length):ntL x l (j+1)=ntK (ntL x l j) l[j]:=by
 unfold ntL
 rw [List.take_succ_eq_append_getElem h,List.foldl_append]; rfl
theorem ntL_all (x:MkS) (l:List Int):ntL x l l.length=ntA x l:=by unfold ntL ntA; rw [List.take_length]
theorem markR_keep (m:HM) (a:Int):markR m a={ m with mw:=(markR m a).mw }:=by unfold markR; split <;> rfl
theorem markB_has {m:HM} {a:Int} (h:markB m a=true):hasH m a=true∧bitAt m.mw (a.toNat / 16)=false:=by
 unfold markB at h
 rw [Bool.and_eq_true] at h
 exact ⟨h.1,by simpa using h.2⟩
theorem stk_note {x:MkS} (h:x.2.2≤x.2.1.length) (a:Int):stk (ntK x a)=stk x++bif markB x.1 a then [a] else []:=by
 unfold stk ntK noteS noteK
 cases markB x.1 a
 ·simp
 ·exact pushS_take a h
theorem le_note {x:MkS} (h:x.2.2≤x.2.1.length) (a:Int):(ntK x a).2.2≤(ntK x a).2.1.length∧(ntK x a).2.1.length≤x.2.1.length+1∧(ntK x a).2.2=x.2.2+bif markB x.1 a then 1 else 0:=by
 unfold ntK noteS noteK
 cases markB x.1 a
 ·exact ⟨h,Nat.le_succ _,rfl⟩
 ·exact ⟨(pushS_length a h).1,(pushS_length a h).2,rfl⟩
theorem le_notes {l:List Int}:∀ {x:MkS},x.2.2≤x.2.1.length→(ntA x l).2.2≤(ntA x l).2.1.length∧(ntA x l).2.1.length≤x.2.1.length+l.length:=by
 induction l with
 | nil=>exact fun h=>⟨h,Nat.le_refl _⟩
 | cons a l ih =>
  intro x h
  have h1:=le_note h a
  have h2:=ih h1.1
  show (ntA (ntK x a) l).2.2≤(ntA (ntK x a) l).2.1.length∧(ntA (ntK x a) l).2.1.length≤x.2.1.length+(l.length+1)
  omega
theorem ntL_take (x:MkS) (l:List Int) (j:Nat):ntL x l j=ntA x (l.take j):=rfl
theorem HI.notes {gl:List Gb} {l:List Int}:∀ {x:MkS},HI x.1 gl→HI (ntA x l).1 gl:=by
 induction l with
 | nil=>exact fun h=>h
 | cons a l ih=>exact fun h=>ih (h.mark a)
theorem refsF_len (bs:Bytes) (i:Nat):(refsF bs i).length≤15:=by
 unfold refsF
 cases h:headF bs i with
 | none=>exact Nat.zero_le _
 | some x =>
  obtain ⟨r,n⟩:=x
  have:=(headF_some h).2.2.2
  simp only [List.length_map,List.length_range]
  omega
theorem refI_in (w:BitVec 64):inI (refI w):=by
 unfold refI inI
 have h1:=(w-1#64).toInt_lt
 have h2:=(w-1#64).le_toInt
 omega
theorem refsF_in {bs:Bytes} {i:Nat} {a:Int} (h:a∈refsF bs i):inI a:=by
 unfold refsF at h
 cases hh:headF bs i with
 | none=>rw [hh] at h; cases h
 | some x =>
  rw [hh] at h
  obtain ⟨k,_,rfl⟩:=List.mem_map.1 h
  exact refI_in _
def StkOk (m:HM) (st:List Int):Prop:=∀ a∈st,∃ i:Nat,a=(16*i:Nat)∧i<16*(m.man+m.mgd)
theorem StkOk.note {x:MkS} (hl:x.2.2≤x.2.1.length) (h:StkOk x.1 (stk x)) (a:Int):StkOk (ntK x a).1 (stk (ntK x a)):=by
 have e:(ntK x a).1={ x.1 with mw:=(ntK x a).1.mw }:=markR_keep x.1 a
 rw [e,stk_note hl]
 intro b hb
 rcases List.mem_append.1 hb with hb | hb
 ·exact h b hb
 ·cases hm:markB x.1 a
  ·rw [hm] at hb; cases hb
  ·rw [hm] at hb
   obtain rfl:=List.mem_singleton.1 hb
   obtain ⟨i,h1,h2,_⟩:=hasH_nat (markB_has hm).1
   exact ⟨i,h1,h2⟩
theorem StkOk.notes {l:List Int}:∀ {x:MkS},x.2.2≤x.2.1.length→StkOk x.1 (stk x)→StkOk (ntA x l).1 (stk (ntA x l)):=by
 induction l with
 | nil=>exact fun _ h=>h
 | cons a l ih=>exact fun hl h=>ih (le_note hl a).1 (h.note hl a)
def ntS (m:HM) (st:List Int) (a:Int):List Int:=bif markB m a then st++[a] else st
def rtK (x:HM × List Int) (a:Int):HM × List Int:=(markR x.1 a,ntS x.1 x.2 a)
def rtL (x:HM × List Int) (l:List Int) (j:Nat):HM × List Int:=(l.take j).foldl rtK x
def rtA (x:HM × List Int) (l:List Int):HM × List Int:=l.foldl rtK x
theorem rtL_succ (x:HM × List Int) (l:List Int) {j:Nat} (h:j<l.length):rtL x l (j+1)=rtK (rtL x l j) l[j]:=by
 unfold rtL
 rw [List.take_succ_eq_append_getElem h,List.foldl_append]; rfl
theorem rtL_all (x:HM × List Int) (l:List Int):rtL x l l.length=rtA x l:=by unfold rtL rtA; rw [List.take_length]
theorem rt_nt {x:MkS} (h:x.2.2≤x.2.1.length) (a:Int):rtK (x.1,stk x) a=((ntK x a).1,stk (ntK x a)):=by
 rw [stk_note h]
 unfold rtK ntS ntK
 cases markB x.1 a
 ·simp
 ·rfl
theorem rt_nts {l:List Int}:∀ {x:MkS},x.2.2≤x.2.1.length→rtA (x.1,stk x) l=((ntA x l).1,stk (ntA x l)):=by
 induction l with
 | nil=>exact fun _=>rfl
 | cons a l ih =>
  intro x h
  show rtA (rtK (x.1,stk x) a) l=_
  rw [rt_nt h,ih (le_note h a).1]; rfl
theorem rtL_len (x:HM × List Int) (l:List Int) (j:Nat):(rtL x l j).2.length≤x.2.length+j:=by
 have:∀ (l:List Int) (x:HM × List Int),(rtA x l).2.length≤x.2.length+l.length:=by
  intro l
  induction l with
  | nil=>exact fun x=>Nat.le_refl _
  | cons a l ih =>
   intro x
   have h1:=ih (rtK x a)
   have h2:(rtK x a).2.length≤x.2.length+1:=by
    show (ntS x.1 x.2 a).length≤_
    unfold ntS
    cases markB x.1 a
    ·exact Nat.le_succ _
    ·simp
   show (rtA (rtK x a) l).2.length≤x.2.length+(l.length+1)
   omega
 have h:=this (l.take j) x
 rw [List.length_take] at h
 show (rtA x (l.take j)).2.length≤_
 omega
theorem HI.rnotes {gl:List Gb} {l:List Int}:∀ {x:HM × List Int},HI x.1 gl→HI (rtA x l).1 gl:=by
 induction l with
 | nil=>exact fun h=>h
 | cons a l ih=>exact fun h=>ih (h.mark a)
end Go.Tum.Base
end
section
namespace Go.Proofs.YthmdialagibpfaaGreatDoor
open Go Go.Tum Go.Tum.Base
set_option maxRecDepth 4000
theorem rField_tr (bs:Bytes) (hb:bs.length≤65536) (i:Nat) (h:i+8≤bs.length) (h8:i % 8=0) {r n:Nat} (hh:headF bs i=some (r,n)) (k:Nat) (hk:k<r):Tr Tryz.prog 85 [slB 0 bs.length,.int .i64 i,.int .i64 k,.bool false] [BL bs] (fun v K=>v=.tuple ⟨[.int .i64 (i+8*(1+k):Nat),.int .i64 0]⟩∧K=[BL bs]):=by
 have hH:=rHead_tr bs hb i h h8
 rw [hh] at hH
 change Tr Tryz.prog _ _ _ (fun v K=>v=.tuple ⟨[shV r n,.int .i64 0]⟩∧K=[BL bs]) at hH
 have hr:=(headF_some hh).2.2.2
 refine Tr.of row_tumbrelref17_Field_ok rfl ?_
 repeat' (first|refine qN ?_|refine dN ?_|refine dR ?_|refine d0 ?_|refine rT ?_|refine qT ?_|refine qU ?_|refine qL ?_|refine qK ?_|refine iF (fun h=>?_) (fun h=>?_)|refine cP [0] (hH) ?_|refine S_Q [] rfl rfl (QY.add (c:=((i+8*(1+k):Nat):Int)) rfl rfl (by omega) (by omega) (by omega)) ?_|refine aA ?_|refine aI (hn:=?_)|refine aM ?_|refine sP 22 (fun h=>?_) (fun h=>?_)|refine sP 26 (fun h=>?_) (fun h=>?_)|refine sP 43 (fun h=>?_) (fun h=>?_)|refine sP 47 (fun h=>?_) (fun h=>?_)|refine qR ?_|refine qS ?_|exact ⟨rfl,rfl⟩|fail)
 all_goals first | (exfalso; omega) | skip
set_option maxHeartbeats 2000000 in
theorem rRefs_tr (m:HM) (gl:List Gb) (hb:m.bs.length≤65536) (i:Nat) (h:i+8≤m.bs.length) (h8:i % 8=0):Tr Tryz.prog 29 [ptr 0,.int .i64 i] (RHm m gl) (fun v K=>v=slB 9 (refsF m.bs i).length∧K=RHm m gl++[.gro 1 (rowsC intC (refsF m.bs i))]):=by
 have hH:=rHead_tr m.bs hb i h h8
 refine Tr.of row_tumbrelref19_Refs_ok rfl ?_
 cases hh:headF m.bs i with
 | none =>
  rw [hh] at hH
  change Tr Tryz.prog _ _ _ (fun v K=>v=.tuple ⟨[shV 0 0,.int .i64 4]⟩∧K=[BL m.bs]) at hH
  rw [show refsF m.bs i=[] by unfold refsF; rw [hh]]
  repeat' (first|refine qN ?_|refine dN ?_|refine dR ?_|refine d0 ?_|refine qB ?_|refine rT ?_|refine qT ?_|refine qU ?_|refine qL ?_|refine qK ?_|refine qF ?_|refine qE ?_|refine iF (fun h=>?_) (fun h=>?_)|refine cP [3] (hH) ?_|refine aA ?_|refine aS ?_|refine aI (hn:=?_)|refine sP 25 (fun h=>?_) (fun h=>?_)|refine qR ?_|refine qS ?_|exact ⟨rfl,rfl⟩|fail)
  refine LWp.nilE 5 1 rfl (LWp.pick [0,1,5,6,7,8] [0,1,2,3,4,5,6,7,8,9,10] rfl rfl rfl (L_loop (fun _ l K=>l=[(0,ptr 0),(1,.int .i64 i),(5,slB 10 0),(6,ptr 9),(7,.int .i64 4),(8,.int .i64 0)]∧K=RHm m gl++[.cells 0 [.int .i64 0,.int .i64 0],.gro 1 []]) 0 ⟨rfl,rfl⟩ ?_))
  rintro q _ _ ⟨rfl,rfl⟩
  repeat' (first|refine qN ?_|refine dN ?_|refine d0 ?_|refine qB ?_|refine qT ?_|refine qU ?_|refine qL ?_|refine qK ?_|refine qF ?_|refine qE ?_|refine iF (fun h=>?_) (fun h=>?_)|refine aA ?_|refine aS ?_|refine aI (hn:=?_)|refine sP 25 (fun h=>?_) (fun h=>?_)|refine qR ?_|refine qS ?_|exact ⟨rfl,rfl⟩|fail)
  exact L_ret (RetQ.pick [0,1,2,3,4,5,6,7,8,10] rfl rfl rfl rfl ⟨rfl,rfl⟩)
 | some x =>
  obtain ⟨r,n⟩:=x
  rw [hh] at hH
  change Tr Tryz.prog _ _ _ (fun v K=>v=.tuple ⟨[shV r n,.int .i64 0]⟩∧K=[BL m.bs]) at hH
  obtain ⟨_,_,hle,hrn⟩:=headF_some hh
  have hF:=fun k (hk:k<r)=>rField_tr m.bs hb i h h8 hh k hk
  have hrl:(refsF m.bs i).length=r:=by unfold refsF; rw [hh]; simp
  have hrk:∀ k,k<r→(refsF m.bs i)[k]?=some (refI (wordB m.bs (i+8*(1+k)))):=fun k hk=>by
   unfold refsF; rw [hh]; simp [List.getElem?_map,List.getElem?_range hk]
  rw [hrl]
  generalize refsF m.bs i=rf at *
  repeat' (first|refine qN ?_|refine dN ?_|refine dR ?_|refine d0 ?_|refine qB ?_|refine rT ?_|refine qT ?_|refine qU ?_|refine qL ?_|refine qK ?_|refine qF ?_|refine qE ?_|refine iF (fun h=>?_) (fun h=>?_)|refine cP [3] (hH) ?_|refine aA ?_|refine aS ?_|refine aI (hn:=?_)|refine sP 25 (fun h=>?_) (fun h=>?_)|refine qR ?_|refine qS ?_|exact ⟨rfl,rfl⟩|fail)
  refine LWp.nilE 5 1 rfl (LWp.pick [0,1,5,6,7,8] [0,1,2,3,4,5,6,7,8,9,10] rfl rfl rfl (L_loop (fun q l K=>∃ k:Nat,q=r-k∧k≤r∧l=[(0,ptr 0),(1,.int .i64 i),(5,slB 10 k),(6,ptr 9),(7,.int .i64 0),(8,.int .i64 k)]∧K=RHm m gl++[.cells 0 [.int .i64 r,.int .i64 n],.gro 1 (rowsC intC (rf.take k))]) r ⟨0,rfl,by omega,rfl,rfl⟩ ?_))
  rintro q _ _ ⟨k,rfl,hk,rfl,rfl⟩
  by_cases hk2:k<r
  ·have hFk:=hF k hk2
   have hrk2:=hrk k hk2
   have hts:rf.take (k+1)=rf.take k++[refI (wordB m.bs (i+8*(1+k)))]:=by
    obtain ⟨h1,h2⟩:=List.getElem?_eq_some_iff.1 hrk2
    rw [List.take_succ_eq_append_getElem h1,h2]
   have htl:(rf.take k).length=k:=by rw [List.length_take]; omega
   obtain ⟨p,hp⟩:∃ p,p=i+8*(1+k):=⟨_,rfl⟩
   rw [← hp] at hFk hts
   have hG:=rGet_tr m.bs p (m.bs.length-p) (by omega) hb
   clear hF hrk
   repeat' (first|refine qN ?_|refine dN ?_|refine dR ?_|refine d0 ?_|refine qB ?_|refine rT ?_|refine qT ?_|refine qU ?_|refine qL ?_|refine qK ?_|refine qF ?_|refine qE ?_|refine iF (fun h=>?_) (fun h=>?_)|refine cP [3] (hFk) ?_|refine S_Q [] rfl rfl (QY.add (c:=((p+8:Nat):Int)) rfl rfl (by omega) (by omega) (by omega)) ?_|refine S_Q [] rfl rfl (QY.slc0 (b:=3) (lo':=p) (hi':=p+8) rfl rfl rfl (by omega) (by omega)) ?_|refine aA ?_|refine aS ?_|refine aI (hn:=?_)|refine sP 25 (fun h=>?_) (fun h=>?_)|refine qR ?_|refine qS ?_|exact ⟨rfl,rfl⟩|fail)
   all_goals try (exfalso; omega)
   rw [show p+8-p=8 by omega]
   repeat' (first|refine qN ?_|refine dN ?_|refine dR ?_|refine d0 ?_|refine qB ?_|refine rT ?_|refine qT ?_|refine qU ?_|refine qL ?_|refine qK ?_|refine qF ?_|refine qE ?_|refine iF (fun h=>?_) (fun h=>?_)|refine cP [3] (hG) ?_|refine S_Q [] rfl rfl (QY.cvWI rfl) ?_|refine S_Q [] rfl rfl (QY.arith rfl rfl (congrArg (fun z=>some (Value.int .i64 z)) (refI_wrap _)) rfl) ?_|refine aA ?_|refine aS ?_|refine aI (hn:=?_)|refine sP 25 (fun h=>?_) (fun h=>?_)|refine qR ?_|refine qS ?_|exact ⟨rfl,rfl⟩|fail)
   first|refine L_rs ?_|refine L_reg ?_ | skip
   refine eE rfl rfl (EW.appR1 (bytes:=8) (a:=refI (wordB m.bs p)) intC_ok rfl (by kernel_rfl) rfl rfl rfl rfl htl (by omega)) ?_
   conv=>whnf
   repeat' (first|refine qN ?_|refine dN ?_|refine dR ?_|refine d0 ?_|refine qB ?_|refine rT ?_|refine qT ?_|refine qU ?_|refine qL ?_|refine qK ?_|refine qF ?_|refine qE ?_|refine iF (fun h=>?_) (fun h=>?_)|refine aA ?_|refine aS ?_|refine aI (hn:=?_)|refine sP 25 (fun h=>?_) (fun h=>?_)|refine qR ?_|refine qS ?_|exact ⟨rfl,rfl⟩|fail)
   exact Nx.pick [0,1,5,6,7,8] [0,1,2,3,4,5,6,7,8,9,12] rfl rfl rfl ⟨r-(k+1),by omega,k+1,rfl,by omega,rfl,by rw [hts]; rfl⟩
  ·obtain rfl:k=r:=by omega
   rw [List.take_of_length_le (by omega)]
   repeat' (first|refine qN ?_|refine dN ?_|refine d0 ?_|refine qB ?_|refine qT ?_|refine qU ?_|refine qL ?_|refine qK ?_|refine qF ?_|refine qE ?_|refine iF (fun h=>?_) (fun h=>?_)|refine aA ?_|refine aS ?_|refine aI (hn:=?_)|refine sP 25 (fun h=>?_) (fun h=>?_)|refine qR ?_|refine qS ?_|exact ⟨rfl,rfl⟩|fail)
   all_goals try (exfalso; omega)
   exact L_ret (RetQ.pick [0,1,2,3,4,5,6,7,8,10] rfl rfl rfl rfl ⟨rfl,rfl⟩)
end Go.Proofs.YthmdialagibpfaaGreatDoor
end
section
namespace Go.Proofs.YthmdialagibpfaaGreatDoor
open Go Go.Tum Go.Tum.Base
set_option maxRecDepth 4000
abbrev M15:List Nat:=[0,1,2,3,4,5,6,7,8,9,10,11,12,13,14]
theorem cloneI_tr (xs:List Int) (k c:Nat) (h:k≤xs.length) (hb:xs.length≤65536):Tr Tryz.prog 37 [.slice (some ⟨0,0,none⟩) k c] [.gro 1 (rowsC intC xs)] (fun v K=>v=slB 1 k∧K=[.gro 1 (rowsC intC xs),.gro 1 (rowsC intC (xs.take k))]):=by
 refine Tr.of row_slices_Clone_int_int__ok rfl ?_
 repeat' (first|refine qN ?_|refine dN ?_|refine dR ?_|refine d0 ?_|refine rT ?_|refine qT ?_|refine qU ?_|refine qL ?_|refine qK ?_|refine iF (fun h=>?_) (fun h=>?_)|refine aI (hn:=?_)|refine qR ?_|refine qS ?_|exact ⟨rfl,rfl⟩|fail)
 rcases Nat.eq_zero_or_pos k with rfl | hm
 ·refine S_Q2 [] rfl rfl (QY.nilS2 rfl (by kernel_rfl) rfl) ?_ ?_
  ·refine S_done [] rfl (Nx.goL (L_true rfl (L_rs (S_done [] rfl (Nx.goL ?_)))))
   refine LWp.nilE 2 1 rfl ?_
   exact L_ret (RetQ.pick [0,1] rfl rfl rfl rfl ⟨rfl,rfl⟩)
  ·repeat' (first|refine qN ?_|refine dN ?_|refine dR ?_|refine d0 ?_|refine rT ?_|refine qT ?_|refine qU ?_|refine qL ?_|refine qK ?_|refine iF (fun h=>?_) (fun h=>?_)|refine aI (hn:=?_)|refine qR ?_|refine qS ?_|exact ⟨rfl,rfl⟩|fail)
   refine S_wk [] rfl (wk_gro0 (b:=1) 1 rfl) ?_
   first|refine L_rs ?_|refine L_reg ?_ | skip
   refine eE rfl rfl (EW.appRS (bytes:=8) (xs:=[]) (i:=0) intC_ok rfl (by kernel_rfl) rfl rfl rfl rfl rfl rfl (by omega) (by decide) (by simp)) ?_
   conv=>whnf
   repeat' (first|refine qN ?_|refine dN ?_|refine dR ?_|refine d0 ?_|refine rT ?_|refine qT ?_|refine qU ?_|refine qL ?_|refine qK ?_|refine iF (fun h=>?_) (fun h=>?_)|refine aI (hn:=?_)|refine qR ?_|refine qS ?_|exact ⟨rfl,rfl⟩|fail)
   exact L_ret (RetQ.pick [0,2] rfl rfl rfl rfl ⟨rfl,rfl⟩)
 ·refine S_Q [] rfl rfl (QY.nilS rfl (by kernel_rfl) rfl hm) ?_
  repeat' (first|refine qN ?_|refine dN ?_|refine dR ?_|refine d0 ?_|refine rT ?_|refine qT ?_|refine qU ?_|refine qL ?_|refine qK ?_|refine iF (fun h=>?_) (fun h=>?_)|refine aI (hn:=?_)|refine qR ?_|refine qS ?_|exact ⟨rfl,rfl⟩|fail)
  refine S_wk [] rfl (wk_gro0 (b:=1) 1 rfl) ?_
  first|refine L_rs ?_|refine L_reg ?_ | skip
  refine eE rfl rfl (EW.appRS (bytes:=8) (xs:=[]) (i:=0) intC_ok rfl (by kernel_rfl) rfl rfl rfl rfl rfl rfl (by omega) (by decide) (by simp; omega)) ?_
  conv=>whnf
  repeat' (first|refine qN ?_|refine dN ?_|refine dR ?_|refine d0 ?_|refine rT ?_|refine qT ?_|refine qU ?_|refine qL ?_|refine qK ?_|refine iF (fun h=>?_) (fun h=>?_)|refine aI (hn:=?_)|refine qR ?_|refine qS ?_|exact ⟨rfl,rfl⟩|fail)
  exact L_ret (RetQ.pick [0,2] rfl rfl rfl rfl ⟨by show Value.slice _ (0+k) (0+k)=_; rw [Nat.zero_add]; rfl,rfl⟩)
set_option maxHeartbeats 2000000 in
theorem mStep_ok (m:HM) (gl:List Gb) (hI:HI m gl) (xs:List Int) (k w i0:Nat) (hx:xs[k]?=some ((16*i0:Nat):Int)) (hi:i0<16*(m.man+m.mgd)) (h6:xs.length≤60000) (hw:w≤1000000000) :
  TrK Tryz.prog [] [0,1,2,3,4,5,6,7,8,9,10,11,12,13] 102 [ptr 13] (HL m++MKs xs (k+1) xs.length w)
   (fun v K=>v=.bool (decide (0<(ntA (m,xs,k) (refsF m.bs (16*i0))).2.2))∧K=HL (ntA (m,xs,k) (refsF m.bs (16*i0))).1++MKs (ntA (m,xs,k) (refsF m.bs (16*i0))).2.1 (ntA (m,xs,k) (refsF m.bs (16*i0))).2.2 (ntA (m,xs,k) (refsF m.bs (16*i0))).2.1.length (w+1)):=by
 have hkx:=(List.getElem?_eq_some_iff.1 hx).1
 have hnb:=hI.nb
 have hn1:=hI.n1
 have hL:=mLeft_tr m xs (k+1) xs.length w
 have hR:=hRegion_tr m
 have hA:=regArena_tr m.man m.mgd 1#64 m.bs m.rs m.G m.c
 have hO:=objRefs_tr m.bs (by omega) (16*i0) (by omega) (by omega)
 have hl15:=refsF_len m.bs (16*i0)
 have hin:∀ a∈refsF m.bs (16*i0),inI a:=fun a=>refsF_in
 rw [← ntL_all]
 have hx0:ntL (m,xs,k) (refsF m.bs (16*i0)) 0=(m,xs,k):=rfl
 have hxs:=fun j (h:j<(refsF m.bs (16*i0)).length)=>ntL_succ (m,xs,k) (refsF m.bs (16*i0)) h
 have hxi:∀ j,HI (ntL (m,xs,k) (refsF m.bs (16*i0)) j).1 gl:=fun j=>HI.notes (x:=(m,xs,k)) hI
 have hxl:∀ j,j≤(refsF m.bs (16*i0)).length→(ntL (m,xs,k) (refsF m.bs (16*i0)) j).2.2≤(ntL (m,xs,k) (refsF m.bs (16*i0)) j).2.1.length∧(ntL (m,xs,k) (refsF m.bs (16*i0)) j).2.1.length≤65536:=fun j hj=>by
  have:=le_notes (x:=(m,xs,k)) (l:=(refsF m.bs (16*i0)).take j) (by show k≤xs.length; omega)
  rw [← ntL_take] at this
  have h2:((refsF m.bs (16*i0)).take j).length≤15:=by rw [List.length_take]; omega
  have h3:(m,xs,k).2.1.length=xs.length:=rfl
  omega
 generalize ntL (m,xs,k) (refsF m.bs (16*i0))=X at *
 generalize refsF m.bs (16*i0)=l at *
 refine Tr.of row_mark_Marker_Step_ok rfl ?_
 repeat' (first|refine qN ?_|refine dN ?_|refine dR ?_|refine d0 ?_|refine qB ?_|refine rT ?_|refine qT ?_|refine qU ?_|refine qL ?_|refine qK ?_|refine qF ?_|refine qE ?_|refine iF (fun h=>?_) (fun h=>?_)|refine aX ?_|refine cP M15 (hL) ?_|refine S_Q [] rfl rfl (QY.sub (c:=(k:Int)) rfl rfl (by omega) (by omega) (by omega)) ?_|refine S_Q [] rfl rfl (QY.ldI (k:=k) rfl rfl hx) ?_|refine S_Q [] rfl rfl (QY.slc0 (b:=14) (lo':=0) (hi':=k) rfl rfl rfl (by omega) (by omega)) ?_|(refine cF [0,1,2,3,4,5,6,7,8,9,10,11,12] (hR) ?_; conv=>whnf)|(refine cF [1,2,3,4,5,6,7,8] (hA) ?_; conv=>whnf)|(refine cF [2,3] (hO) ?_; conv=>whnf)|refine aA ?_|refine aS ?_|refine aI (hn:=?_)|refine qR ?_|refine qS ?_|exact ⟨rfl,rfl⟩|fail)
 refine LWp.pick [0,48,49,50] [0,1,2,3,4,5,6,7,8,9,10,11,12,13,14,15] rfl rfl rfl (L_loop (fun q s K=>∃ j:Nat,q=l.length-j∧j≤l.length∧s=[(0,ptr 13),(48,slB 15 l.length),(49,.int .i64 l.length),(50,.int .i64 j)]∧K=HL (X j).1++MKs (X j).2.1 (X j).2.2 (X j).2.1.length (w+1)++[.gro 1 (rowsC intC l)]) l.length ⟨0,rfl,by omega,rfl,by rw [hx0]; rfl⟩ ?_)
 clear hL hR hA hO hx
 rintro q _ _ ⟨j,rfl,hj,rfl,rfl⟩
 first|refine L_seq (L_rs (S_done [] rfl (Nx.goL (iF (fun h=>L_skip (Nx.goL ?_)) (fun h=>L_exit ?_)))))|refine L_rs (S_done [] rfl (Nx.goL (L_seq (iF (fun h=>L_skip (Nx.goL ?_)) (fun h=>L_exit ?_)))))
 ·have hj2:j<l.length:=by omega
  have hg:l[j]?=some l[j]:=List.getElem?_eq_getElem hj2
  have hs:=hxs j hj2
  have hI2:=hxi j
  obtain ⟨hl1,hl2⟩:=hxl j hj
  have ha:=hin _ (List.getElem_mem hj2)
  generalize l[j]=a at *
  clear hxs hxi hxl hx0 hin
  generalize X j=Y at *
  obtain ⟨m1,xs1,k1⟩:=Y
  simp only at hI2 hl1 hl2 hs
  have hN:=mNote_tr m1 hI2.toHOk a ha.2 xs1 k1 (w+1) hl1 hl2
  repeat' (first|refine qN ?_|refine dN ?_|refine dR ?_|refine d0 ?_|refine qB ?_|refine rT ?_|refine qT ?_|refine qU ?_|refine qL ?_|refine qK ?_|refine qF ?_|refine qE ?_|refine iF (fun h=>?_) (fun h=>?_)|refine aX ?_|refine S_Q [] rfl rfl (QY.ldI rfl rfl hg) ?_|(refine cW M15 (hN) ?_; conv=>whnf)|refine aA ?_|refine aS ?_|refine aI (hn:=?_)|refine qR ?_|refine qS ?_|exact ⟨rfl,rfl⟩|fail)
  exact Nx.pick [0,48,49,50] [0,1,2,3,4,5,6,7,8,9,10,11,12,13,14,15] rfl rfl rfl ⟨l.length-(j+1),by omega,j+1,rfl,by omega,rfl,by rw [hs]; rfl⟩
 ·refine Nx.goL ?_
  obtain rfl:j=l.length:=by omega
  generalize X l.length=Y at *
  obtain ⟨m1,xs1,k1⟩:=Y
  have hL:=mLeft_tr m1 xs1 k1 xs1.length (w+1)
  repeat' (first|refine qN ?_|refine dN ?_|refine dR ?_|refine d0 ?_|refine qB ?_|refine rT ?_|refine qT ?_|refine qU ?_|refine qL ?_|refine qK ?_|refine qF ?_|refine qE ?_|refine iF (fun h=>?_) (fun h=>?_)|refine aX ?_|refine cP M15 (hL) ?_|refine aA ?_|refine aS ?_|refine aI (hn:=?_)|refine qR ?_|refine qS ?_|exact ⟨rfl,rfl⟩|fail)
  exact ⟨congrArg Value.bool (decide_eq_decide.2 (show (k1:Int) > 0↔0<k1 by omega)),rfl⟩
end Go.Proofs.YthmdialagibpfaaGreatDoor
end
section
namespace Go.Tum
open Go
section
variable {P:Program} {L:LH}
theorem Tr.fillD {A:Args} {keep:List Nat} {f:FuncId} {us:List Value} {v1:Value} {K1:LH} (h:TrK P A keep f us L (fun v K=>v=v1∧K=K1)):TrK P A keep f us L (fun v K=>v=v1∧K=K1++[.dead]):=by
 intro X w0 w E vs' h0 hR hv'
 obtain ⟨h1,h2⟩:=h X w0 w E vs' h0 hR hv'
 refine ⟨h1,h2.mono ?_⟩
 rintro v' w' ⟨E',v,L',hE,hle,hvr,hR',rfl,rfl⟩
 exact ⟨E'++[(0,0,0)],v,_,hE.trans (Ext.push E' _),by simp; omega,hvr.ext (Ext.push E' _),hR'.push (x:=.dead) (Fr.refl _ _) (fun _ h=>h.elim) trivial,rfl,rfl⟩
theorem Tr.fillG {A:Args} {keep:List Nat} {f:FuncId} {us:List Value} {v1:Value} {K1:LH} (sz:Nat) (h:TrK P A keep f us L (fun v K=>v=v1∧K=K1)):TrK P A keep f us L (fun v K=>v=v1∧K=K1++[.gro sz []]):=by
 intro X w0 w E vs' h0 hR hv'
 obtain ⟨h1,h2⟩:=h X w0 w E vs' h0 hR hv'
 refine ⟨h1,h2.mono ?_⟩
 rintro v' w' ⟨E',v,L',hE,hle,hvr,hR',rfl,rfl⟩
 exact ⟨E'++[(0,0,0)],v,_,hE.trans (Ext.push E' _),by simp; omega,hvr.ext (Ext.push E' _),hR'.push (x:=.gro sz []) (Fr.refl _ _) (fun _ h=>h.elim) (.inl ⟨rfl,rfl⟩),rfl,rfl⟩
theorem Tr.pickK {A:Args} {keep:List Nat} {f:FuncId} {us:List Value} {v1 v2:Value} {K1 K2:LH} (sel:List Nat) (h:TrK P A keep f us L (fun v K=>v=v1∧K=K1)) (g0:keepOk sel keep=true) (g1:letGoV sel K1 v1=some v2) (g2:letGo sel K1=some K2) (hn:Nat.ble L.length sel.length=true):TrK P A keep f us L (fun v K=>v=v2∧K=K2):=by
 intro X w0 w E vs' h0 hR hv'
 obtain ⟨h1,h2⟩:=h X w0 w E vs' h0 hR hv'
 refine ⟨h1,h2.mono ?_⟩
 rintro v' w' ⟨E',v,L',hE,hle,hvr,hR',rfl,rfl⟩
 exact ⟨subE E' sel,v2,K2,hE.sub g0,by rw [letGo_length g2]; exact Nat.le_of_ble_eq_true hn,letGoV_ok g1 hR' hvr,letGo_ok g2 hR',rfl,rfl⟩
theorem Tr.runK {L2:LH} {tab:List FnRow} {rawQ:RawQ} {rawE:RawE} {keep:List Nat} (sel:List Nat) (ht:∀ x∈tab,x.Ok P) (hq:RawOk P rawQ) (he:RawEOk P rawE) {fuel:Nat} {f:FuncId} {vs:List Value} {v:Value}
  (hc:callable P f=true) (h:(match lcall noOv tab rawQ rawE fuel f vs L with
   | some x=>(match letGoV sel x.2 x.1,letGo sel x.2 with
    | some u,some K=>some (u,K)
    | _,_=>none)
   | none=>none)=some (v,L2)) (g0:keepOk sel keep=true) (hn:Nat.ble L.length sel.length=true):TrK P [] keep f vs L (fun u K=>u=v∧K=L2):=by
 intro X w0 w E vs' hA hR hv
 split at h
 ·rename_i x hx
  split at h
  ·rename_i u K h1 h2
   obtain ⟨u0,L1⟩:=x
   cases h
   refine ⟨hc,((lrun_ok (H:=fun _ _=>True) (noOv_ok _ P) ht hq he fuel).1 X w0 trivial w E L f vs vs' u0 L1 hx hR hv).2.mono ?_⟩
   rintro v' w' ⟨E',k1,k2,k3⟩
   exact ⟨subE E' sel,v,L2,NA.Ext.sub (fun k r _ hr=>k1 k r hr) g0,by rw [letGo_length h2]; exact Nat.le_of_ble_eq_true hn,letGoV_ok h1 k3 k2,letGo_ok h2 k3,rfl,rfl⟩
  ·cases h
 ·cases h
end
theorem wk_dead {L:LH} (b:Nat) {x:LB} (hb:L[b]?=some x):∀ X w0 E w,Rep X w0 E L w→Rep X w0 E (L.set b .dead) w:=by
 intro X w0 E w hR
 obtain ⟨r,hr⟩:=hR.ent hb
 exact hR.upd (x:=.dead) hb hr (Fr.refl _ w) trivial (fun _ h=>h.elim)
section
variable {P:Program} {n0:NA} {Q:Exit→Env→LH→Prop} {K:Env→LH→Prop} {l l1:Env} {L L1 L2 K2 Lc:LH} {T T1:Taken} {k:Nat} {d:Option Nat} {g:Option (Nat × Bool)} {rd:Bool} {r ss ss1:List Step} {x y:Operand} {b:MC} {op:QOp} {eo:EOp} {pend:List Nat} {v v1 v2:Value}
theorem cV {keep:List Nat} {f:FuncId} {args:List Operand} {a c vs us:List Value} (φ:List Nat) (ht:TrK P [] keep f us Lc (fun v K=>v=v1∧K=L2)) (hn:nE (dpush d v2 l1) fun l=>nL K2 fun L=>LSt P n0 r K l T1 L) (h:arun [] ss l T L=(.e d g (.callv x args) pend::r,l1,T1,L1):=by exact rfl) (hg:gw g l1=some true:=by exact rfl)
  (hx:lv l1 x=some (.func (.func f) ⟨a⟩ ⟨c⟩):=by exact rfl) (hv:lvs l1 args=some vs:=by exact rfl) (he:us.map (rnV L1.length φ)=a++vs++c:=by exact rfl) (h1:φ.Nodup:=by decide) (h2:partL L1 φ φ Lc:=by repeat' (first|exact trivial|refine ⟨rfl,?_⟩ | fail)) (hm:nmL (dropped keep 0 φ) φ 0 L1=true:=by kernel_rfl) (h3:rnV (L1.length+L2.length) (phi2 φ L1.length L2) v1=v2:=by exact rfl) (h4:joinQ φ L1 L2=K2:=by exact rfl)
  (h5:disj (dropped keep 0 φ) n0.keep=true:=by kernel_rfl) (h6:nmE (dropped keep 0 φ) l1=true:=by kernel_rfl) (h7:nmT (dropped keep 0 φ) T1=true:=by kernel_rfl)
  (hc:chkG P n0 φ T1 L1 K2 pend:=by repeat' (first|exact trivial|refine ⟨.inl rfl,?_⟩|refine ⟨.inr ⟨qsafe_ok (st:=[]) rfl,Sure.of rfl⟩,?_⟩ | fail)):LSt P n0 ss K l T L :=
 S_Ed [] h hg ((EWd.callv φ ht hx hv he (Part.of h1 h2) handed_nil hm).mono fun v K ⟨v',L',⟨h3',h4'⟩,h5',h6'⟩=>(by subst h3'; subst h4'; exact ⟨h5'.trans h3,h6'.trans ((joinQ_eq h1).trans h4)⟩:v=v2∧K=K2)) h5 h6 h7 (by rintro _ _ ⟨rfl,rfl⟩; exact ⟨hc,LSt.nf hn⟩)
end
end Go.Tum
end
section
namespace Go.Proofs.YthmdialagibpfaaGreatDoor
open Go Go.Tum Go.Tum.Base
set_option maxRecDepth 4000
abbrev nilP:Value:=.pointer none
structure Ths where
 s0:Bool
 s1:Bool
 s2:Bool
 r0:List Int
 r1:List Int
 r2:List Int
abbrev T0:Ths:=⟨false,false,false,[],[],[]⟩
def thC (n:Nat) (t:Ths):List Value:=[.bool t.s0,slB 15 t.r0.length,.bool t.s1,slB 16 t.r1.length,.bool t.s2,slB 17 t.r2.length].take (2*n)
inductive Kd where
 | w0
 | w1
 | m0
 | m1
 | s
def mpV:Kd→Value
 | .w0=>nilP
 | _=>ptr 18
def spV:Kd→Value
 | .w0=>nilP
 | .m0=>nilP
 | _=>ptr 19
def tlB (kd:Kd) (xs:List Int) (j k w:Nat):LH:=match kd with
 | .m0=>[.cells 0 [ptr 0,.slice (some ⟨20,0,none⟩) k xs.length,.int .i64 w],.dead,.gro 1 (rowsC intC xs)]
 | .m1=>[.cells 0 [ptr 0,.slice (some ⟨20,0,none⟩) k xs.length,.int .i64 w],.dead,.gro 1 (rowsC intC xs)]
 | .s=>[.dead,.cells 0 [ptr 0,.slice (some ⟨20,j*1,none⟩) k k,.int .i64 w],.gro 1 (rowsC intC xs)]
 | _=>[.dead,.dead,.dead]
def CY (n:Nat) (kd:Kd) (m:HM) (t:Ths) (ph a:Int) (ct gn:Nat) (xs:List Int) (j k w:Nat):LH :=
 HL m++[.cells 0 [ptr 0,slB 14 n,.int .i64 ph,.int .i64 a,mpV kd,spV kd,.int .i64 ct,.int .i64 gn],.cells 0 (thC n t),.gro 1 (rowsC intC t.r0),.gro 1 (rowsC intC t.r1),.gro 1 (rowsC intC t.r2)]++tlB kd xs j k w
abbrev KC:List Nat:=[0,1,2,3,4,5,6,7,8,9,10,13,14,15,16,17]
abbrev KD:List Nat:=[0,1,2,3,4,5,6,7,8,9,10,13,14]
abbrev HC13:List Nat:=[0,1,2,3,4,5,6,7,8,9,10,11,12]
abbrev HMk:List Nat:=[0,1,2,3,4,5,6,7,8,9,10,11,12,18,20]
abbrev HSw:List Nat:=[19,20,0,1,2,3,4,5,6,7,8,9,10,11,12]
abbrev N21:List Nat:=[0,1,2,3,4,5,6,7,8,9,10,11,12,13,14,15,16,17,18,19,20]
theorem cNew_tr (m:HM) (n:Nat) (hn:n≤3):Tr Tryz.prog 6 [ptr 0,.int .i64 n] (HL m) (fun v K=>v=ptr 13∧K=CY n .w0 m T0 0 0 0 0 [] 0 0 0):=by
 obtain rfl | rfl | rfl | rfl:n=0∨n=1∨n=2∨n=3:=by omega
 ·have h:Tr Tryz.prog 6 [ptr 0,.int .i64 (0:Nat)] (HL m) (fun v K=>v=ptr 13∧K=HL m++[.cells 0 [ptr 0,slB 14 0,.int .i64 0,.int .i64 0,nilP,nilP,.int .i64 0,.int .i64 0],.cells 0 []]):=by
   refine Tr.of row_cycle_New_ok rfl ?_
   repeat' (first|refine qN ?_|refine dN ?_|refine dR ?_|refine d0 ?_|refine rT ?_|refine qT ?_|refine qU ?_|refine qL ?_|refine qK ?_|refine iF (fun h=>?_) (fun h=>?_)|refine aI (hn:=?_)|refine qR ?_|refine qS ?_|exact ⟨rfl,rfl⟩|fail)
   first|refine L_rs ?_|refine L_reg ?_ | skip
   refine eE rfl rfl (EW.of (v:=slB 13 0) (L':=HL m++[.cells 0 []]) (by kernel_rfl)) ?_
   conv=>whnf
   repeat' (first|refine qN ?_|refine dN ?_|refine d0 ?_|refine qT ?_|refine qU ?_|refine qL ?_|refine qK ?_|refine iF (fun h=>?_) (fun h=>?_)|refine aI (hn:=?_)|refine qR ?_|refine qS ?_|exact ⟨rfl,rfl⟩|fail)
   exact L_ret (RetQ.pick [0,1,2,3,4,5,6,7,8,9,10,11,12,14,13] rfl rfl rfl rfl ⟨rfl,rfl⟩)
  exact Tr.fillD (Tr.fillD (Tr.fillD (Tr.fillG 1 (Tr.fillG 1 (Tr.fillG 1 h)))))
 ·have h:Tr Tryz.prog 6 [ptr 0,.int .i64 (1:Nat)] (HL m) (fun v K=>v=ptr 13∧K=HL m++[.cells 0 [ptr 0,slB 14 1,.int .i64 0,.int .i64 0,nilP,nilP,.int .i64 0,.int .i64 0],.cells 0 [.bool false,.slice none 0 0]]):=by
   refine Tr.of row_cycle_New_ok rfl ?_
   repeat' (first|refine qN ?_|refine dN ?_|refine dR ?_|refine d0 ?_|refine rT ?_|refine qT ?_|refine qU ?_|refine qL ?_|refine qK ?_|refine iF (fun h=>?_) (fun h=>?_)|refine aI (hn:=?_)|refine qR ?_|refine qS ?_|exact ⟨rfl,rfl⟩|fail)
   first|refine L_rs ?_|refine L_reg ?_ | skip
   refine eE rfl rfl (EW.of (v:=slB 13 1) (L':=HL m++[.cells 0 [.bool false,.slice none 0 0]]) (by kernel_rfl)) ?_
   conv=>whnf
   repeat' (first|refine qN ?_|refine dN ?_|refine d0 ?_|refine qT ?_|refine qU ?_|refine qL ?_|refine qK ?_|refine iF (fun h=>?_) (fun h=>?_)|refine aI (hn:=?_)|refine qR ?_|refine qS ?_|exact ⟨rfl,rfl⟩|fail)
   exact L_ret (RetQ.pick [0,1,2,3,4,5,6,7,8,9,10,11,12,14,13] rfl rfl rfl rfl ⟨rfl,rfl⟩)
  exact Tr.fillD (Tr.fillD (Tr.fillD (Tr.fillG 1 (Tr.fillG 1 (Tr.nilC 14 1 1 h rfl rfl)))))
 ·have h:Tr Tryz.prog 6 [ptr 0,.int .i64 (2:Nat)] (HL m) (fun v K=>v=ptr 13∧K=HL m++[.cells 0 [ptr 0,slB 14 2,.int .i64 0,.int .i64 0,nilP,nilP,.int .i64 0,.int .i64 0],.cells 0 [.bool false,.slice none 0 0,.bool false,.slice none 0 0]]):=by
   refine Tr.of row_cycle_New_ok rfl ?_
   repeat' (first|refine qN ?_|refine dN ?_|refine dR ?_|refine d0 ?_|refine rT ?_|refine qT ?_|refine qU ?_|refine qL ?_|refine qK ?_|refine iF (fun h=>?_) (fun h=>?_)|refine aI (hn:=?_)|refine qR ?_|refine qS ?_|exact ⟨rfl,rfl⟩|fail)
   first|refine L_rs ?_|refine L_reg ?_ | skip
   refine eE rfl rfl (EW.of (v:=slB 13 2) (L':=HL m++[.cells 0 [.bool false,.slice none 0 0,.bool false,.slice none 0 0]]) (by kernel_rfl)) ?_
   conv=>whnf
   repeat' (first|refine qN ?_|refine dN ?_|refine d0 ?_|refine qT ?_|refine qU ?_|refine qL ?_|refine qK ?_|refine iF (fun h=>?_) (fun h=>?_)|refine aI (hn:=?_)|refine qR ?_|refine qS ?_|exact ⟨rfl,rfl⟩|fail)
   exact L_ret (RetQ.pick [0,1,2,3,4,5,6,7,8,9,10,11,12,14,13] rfl rfl rfl rfl ⟨rfl,rfl⟩)
  exact Tr.fillD (Tr.fillD (Tr.fillD (Tr.fillG 1 (Tr.nilC 14 3 1 (Tr.nilC 14 1 1 h rfl rfl) rfl rfl))))
 ·have h:Tr Tryz.prog 6 [ptr 0,.int .i64 (3:Nat)] (HL m) (fun v K=>v=ptr 13∧K=HL m++[.cells 0 [ptr 0,slB 14 3,.int .i64 0,.int .i64 0,nilP,nilP,.int .i64 0,.int .i64 0],.cells 0 [.bool false,.slice none 0 0,.bool false,.slice none 0 0,.bool false,.slice none 0 0]]):=by
   refine Tr.of row_cycle_New_ok rfl ?_
   repeat' (first|refine qN ?_|refine dN ?_|refine dR ?_|refine d0 ?_|refine rT ?_|refine qT ?_|refine qU ?_|refine qL ?_|refine qK ?_|refine iF (fun h=>?_) (fun h=>?_)|refine aI (hn:=?_)|refine qR ?_|refine qS ?_|exact ⟨rfl,rfl⟩|fail)
   first|refine L_rs ?_|refine L_reg ?_ | skip
   refine eE rfl rfl (EW.of (v:=slB 13 3) (L':=HL m++[.cells 0 [.bool false,.slice none 0 0,.bool false,.slice none 0 0,.bool false,.slice none 0 0]]) (by kernel_rfl)) ?_
   conv=>whnf
   repeat' (first|refine qN ?_|refine dN ?_|refine d0 ?_|refine qT ?_|refine qU ?_|refine qL ?_|refine qK ?_|refine iF (fun h=>?_) (fun h=>?_)|refine aI (hn:=?_)|refine qR ?_|refine qS ?_|exact ⟨rfl,rfl⟩|fail)
   exact L_ret (RetQ.pick [0,1,2,3,4,5,6,7,8,9,10,11,12,14,13] rfl rfl rfl rfl ⟨rfl,rfl⟩)
  exact Tr.fillD (Tr.fillD (Tr.fillD (Tr.nilC 14 5 1 (Tr.nilC 14 3 1 (Tr.nilC 14 1 1 h rfl rfl) rfl rfl) rfl rfl)))
def rowsCP:List FnRow:=[row_cycle_Cycle_Phase,row_cycle_Cycle_Gone,row_cycle_Cycle_Count]
theorem rowsCP_ok:∀ x∈rowsCP,x.Ok Tryz.prog:=by
 refine List.forall_mem_cons.2 ⟨row_cycle_Cycle_Phase_ok,?_⟩
 refine List.forall_mem_cons.2 ⟨row_cycle_Cycle_Gone_ok,?_⟩
 refine List.forall_mem_cons.2 ⟨row_cycle_Cycle_Count_ok,?_⟩
 exact fun x hx=>by cases hx
theorem cPhase_tr (n:Nat) (hn:n≤3) (kd:Kd) (m:HM) (t:Ths) (ph a:Int) (ct gn:Nat) (xs:List Int) (j k w:Nat):Tr Tryz.prog 16 [ptr 13] (CY n kd m t ph a ct gn xs j k w) (fun v K=>v=.int .i64 ph∧K=CY n kd m t ph a ct gn xs j k w):=by
 obtain rfl | rfl | rfl | rfl:n=0∨n=1∨n=2∨n=3:=by omega
 all_goals cases kd
 all_goals exact Tr.runK N21 (fuel:=200) rowsCP_ok (rawQ1_ok _) (rawE2_ok _) (by kernel_rfl) (by kernel_rfl) (by kernel_rfl) (by kernel_rfl)
theorem cGone_tr (n:Nat) (hn:n≤3) (kd:Kd) (m:HM) (t:Ths) (ph a:Int) (ct gn:Nat) (xs:List Int) (j k w:Nat):Tr Tryz.prog 18 [ptr 13] (CY n kd m t ph a ct gn xs j k w) (fun v K=>v=.int .i64 gn∧K=CY n kd m t ph a ct gn xs j k w):=by
 obtain rfl | rfl | rfl | rfl:n=0∨n=1∨n=2∨n=3:=by omega
 all_goals cases kd
 all_goals exact Tr.runK N21 (fuel:=200) rowsCP_ok (rawQ1_ok _) (rawE2_ok _) (by kernel_rfl) (by kernel_rfl) (by kernel_rfl) (by kernel_rfl)
theorem cCount_tr (n:Nat) (hn:n≤3) (kd:Kd) (m:HM) (t:Ths) (ph a:Int) (ct gn:Nat) (xs:List Int) (j k w:Nat):Tr Tryz.prog 17 [ptr 13] (CY n kd m t ph a ct gn xs j k w) (fun v K=>v=.int .i64 ct∧K=CY n kd m t ph a ct gn xs j k w):=by
 obtain rfl | rfl | rfl | rfl:n=0∨n=1∨n=2∨n=3:=by omega
 all_goals cases kd
 all_goals exact Tr.runK N21 (fuel:=200) rowsCP_ok (rawQ1_ok _) (rawE2_ok _) (by kernel_rfl) (by kernel_rfl) (by kernel_rfl) (by kernel_rfl)
end Go.Proofs.YthmdialagibpfaaGreatDoor
end
section
namespace Go.Proofs.YthmdialagibpfaaGreatDoor
open Go Go.Tum Go.Tum.Base
set_option maxRecDepth 4000
def rowsCA:List FnRow:=[row_cycle_Cycle_All,row_cycle_Cycle_All_c1,row_slices_ContainsFunc_cycle_thread_cycle_thread_,row_slices_IndexFunc_cycle_thread_cycle_thread_]
theorem rowsCA_ok:∀ x∈rowsCA,x.Ok Tryz.prog:=by
 refine List.forall_mem_cons.2 ⟨row_cycle_Cycle_All_ok,?_⟩
 refine List.forall_mem_cons.2 ⟨row_cycle_Cycle_All_c1_ok,?_⟩
 refine List.forall_mem_cons.2 ⟨row_slices_ContainsFunc_cycle_thread_cycle_thread__ok,?_⟩
 refine List.forall_mem_cons.2 ⟨row_slices_IndexFunc_cycle_thread_cycle_thread__ok,?_⟩
 exact fun x hx=>by cases hx
def allT (n:Nat) (t:Ths):Bool:=([t.s0,t.s1,t.s2].take n).all id
set_option maxHeartbeats 4000000 in
theorem cAll_tr (n:Nat) (hn:n≤3) (old:Bool) (m:HM) (t:Ths) (ph a:Int) (ct gn:Nat):Tr Tryz.prog 19 [ptr 13] (CY n (bif old then .w1 else .w0) m t ph a ct gn [] 0 0 0) (fun v K=>v=.bool (allT n t)∧K=CY n (bif old then .w1 else .w0) m t ph a ct gn [] 0 0 0):=by
 obtain ⟨s0,s1,s2,r0,r1,r2⟩:=t
 obtain rfl | rfl | rfl | rfl:n=0∨n=1∨n=2∨n=3:=by omega
 all_goals cases old <;> cases s0 <;> cases s1 <;> cases s2
 all_goals exact Tr.runK N21 (fuel:=2000) rowsCA_ok (rawQ1_ok _) (rawE2_ok _) (by kernel_rfl) (by kernel_rfl) (by kernel_rfl) (by kernel_rfl)
def rowsCR:List FnRow:=[row_cycle_Cycle_Request,row_cycle_Cycle_Stopped,row_cycle_Cycle_in]
theorem rowsCR_ok:∀ x∈rowsCR,x.Ok Tryz.prog:=by
 refine List.forall_mem_cons.2 ⟨row_cycle_Cycle_Request_ok,?_⟩
 refine List.forall_mem_cons.2 ⟨row_cycle_Cycle_Stopped_ok,?_⟩
 refine List.forall_mem_cons.2 ⟨row_cycle_Cycle_in_ok,?_⟩
 exact fun x hx=>by cases hx
theorem cRequest_tr (n:Nat) (hn:n≤3) (old:Bool) (m:HM) (t:Ths) (a:Int) (ct gn:Nat):Tr Tryz.prog 8 [ptr 13] (CY n (bif old then .w1 else .w0) m t 0 a ct gn [] 0 0 0) (fun v K=>v=.int .i64 0∧K=CY n (bif old then .w1 else .w0) m t 1 a ct gn [] 0 0 0):=by
 obtain rfl | rfl | rfl | rfl:n=0∨n=1∨n=2∨n=3:=by omega
 all_goals cases old
 all_goals exact Tr.runK N21 (fuel:=200) rowsCR_ok (rawQ1_ok _) (rawE2_ok _) (by kernel_rfl) (by kernel_rfl) (by kernel_rfl) (by kernel_rfl)
theorem cStopped_tr (n:Nat) (hn:n≤3) (kd:Kd) (m:HM) (t:Ths) (i:Nat) (hi:i<n) (ph a:Int) (ct gn:Nat) (xs:List Int) (j k w:Nat):Tr Tryz.prog 21 [ptr 13,.int .i64 i] (CY n kd m t ph a ct gn xs j k w) (fun v K=>v=.bool ([t.s0,t.s1,t.s2].getD i false)∧K=CY n kd m t ph a ct gn xs j k w):=by
 obtain ⟨s0,s1,s2,r0,r1,r2⟩:=t
 obtain ⟨rfl,rfl⟩ | ⟨rfl,rfl⟩ | ⟨rfl,rfl⟩ | ⟨rfl,rfl⟩ | ⟨rfl,rfl⟩ | ⟨rfl,rfl⟩:(n=1∧i=0)∨(n=2∧i=0)∨(n=2∧i=1)∨(n=3∧i=0)∨(n=3∧i=1)∨(n=3∧i=2):=by omega
 all_goals cases kd <;> cases s0 <;> cases s1 <;> cases s2
 all_goals exact Tr.runK N21 (fuel:=200) rowsCR_ok (rawQ1_ok _) (rawE2_ok _) (by kernel_rfl) (by kernel_rfl) (by kernel_rfl) (by kernel_rfl)
end Go.Proofs.YthmdialagibpfaaGreatDoor
end
section
namespace Go.Proofs.YthmdialagibpfaaGreatDoor
open Go Go.Tum Go.Tum.Base
set_option maxRecDepth 4000
set_option maxHeartbeats 4000000 in
theorem cBegin_tr (m:HM) (hm:HOk m) (n:Nat) (hn:n≤3) (old:Bool) (t:Ths) (a:Int) (ct gn:Nat):TrK Tryz.prog [] KC 38 [ptr 13] (CY n (bif old then .w1 else .w0) m t 1 a ct gn [] 0 0 0) (fun v K=>v=undef∧K=CY n (bif old then .m1 else .m0) (unmarkM m) t (if n=0 then 3 else 2) 0 ct gn [] 0 0 0):=by
 have hU:=hUnmark_u m hm
 have hN:=mNew_tr (unmarkM m)
 refine Tr.of row_cycle_Cycle_begin_ok rfl ?_
 generalize unmarkM m=m1 at *
 obtain rfl | rfl | rfl | rfl:n=0∨n=1∨n=2∨n=3:=by omega
 all_goals cases old
 all_goals
  repeat' (first|refine qN ?_|refine dN ?_|refine dR ?_|refine d0 ?_|refine rT ?_|refine qT ?_|refine qU ?_|refine qL ?_|refine qK ?_|refine iF (fun h=>?_) (fun h=>?_)|(refine cW HC13 (hU) ?_; conv=>whnf)|(refine cF HC13 (hN) ?_; conv=>whnf)|refine aI (hn:=?_)|refine qR ?_|refine qS ?_|exact ⟨rfl,rfl⟩|fail)
 all_goals exact RetQ.end [0,1,2,3,4,5,6,7,8,9,10,11,12,13,14,15,16,17,21,19,22] rfl rfl rfl rfl ⟨rfl,rfl⟩
def rOf (t:Ths):Nat→List Int
 | 0=>t.r0
 | 1=>t.r1
 | _=>t.r2
set_option maxHeartbeats 4000000 in
theorem cRoot_tr (m:HM) (gl:List Gb) (hI:HI m gl) (n:Nat) (hn:n≤3) (old:Bool) (t:Ths) (i:Nat) (hi:i<n) (ct gn:Nat) (xs:List Int) (k w:Nat) (hk:k≤xs.length) (hx6:xs.length≤60000) (hr:∀ a∈rOf t i,inI a) (hr6:(rOf t i).length≤16) :
  TrK Tryz.prog [] KC 39 [ptr 13] (CY n (bif old then .m1 else .m0) m t 2 i ct gn xs 0 k w)
   (fun v K=>v=undef∧K=CY n (bif old then .m1 else .m0) (ntA (m,xs,k) (rOf t i)).1 t (if i+1=n then 3 else 2) (i+1:Nat) ct gn (ntA (m,xs,k) (rOf t i)).2.1 0 (ntA (m,xs,k) (rOf t i)).2.2 w):=by
 rw [← ntL_all]
 have hx0:ntL (m,xs,k) (rOf t i) 0=(m,xs,k):=rfl
 have hxs:=fun j (h:j<(rOf t i).length)=>ntL_succ (m,xs,k) (rOf t i) h
 have hxi:∀ j,HI (ntL (m,xs,k) (rOf t i) j).1 gl:=fun j=>HI.notes (x:=(m,xs,k)) hI
 have hxl:∀ j,j≤(rOf t i).length→(ntL (m,xs,k) (rOf t i) j).2.2≤(ntL (m,xs,k) (rOf t i) j).2.1.length∧(ntL (m,xs,k) (rOf t i) j).2.1.length≤65536:=fun j hj=>by
  have:=le_notes (x:=(m,xs,k)) (l:=(rOf t i).take j) hk
  rw [← ntL_take] at this
  have h2:((rOf t i).take j).length≤16:=by rw [List.length_take]; omega
  have h3:(m,xs,k).2.1.length=xs.length:=rfl
  omega
 have hnx:∀ j,j<(rOf t i).length→∃ a,(rOf t i)[j]?=some a∧inI a∧ntL (m,xs,k) (rOf t i) (j+1)=ntK (ntL (m,xs,k) (rOf t i) j) a:=fun j h=>⟨_,List.getElem?_eq_getElem h,hr _ (List.getElem_mem h),hxs j h⟩
 clear hxs hr
 refine Tr.of row_cycle_Cycle_root_ok rfl ?_
 generalize ntL (m,xs,k) (rOf t i)=X at *
 obtain ⟨N,hN⟩:∃ N,N=n:=⟨_,rfl⟩
 obtain ⟨I,hJ⟩:∃ I,I=i:=⟨_,rfl⟩
 obtain ⟨O,hO⟩:∃ O,O=old:=⟨_,rfl⟩
 have hNI:(if i+1=n then 3 else 2:Int)=if I+1=N then 3 else 2:=by rw [hN,hJ]
 rw [hNI]
 clear hNI
 obtain ⟨rfl,rfl⟩ | ⟨rfl,rfl⟩ | ⟨rfl,rfl⟩ | ⟨rfl,rfl⟩ | ⟨rfl,rfl⟩ | ⟨rfl,rfl⟩:(n=1∧i=0)∨(n=2∧i=0)∨(n=2∧i=1)∨(n=3∧i=0)∨(n=3∧i=1)∨(n=3∧i=2):=by omega
 all_goals cases old
 all_goals
  repeat' (first|refine qN ?_|refine dN ?_|refine dR ?_|refine d0 ?_|refine qB ?_|refine rT ?_|refine qT ?_|refine qU ?_|refine qL ?_|refine qK ?_|refine qF ?_|refine qE ?_|refine iF (fun h=>?_) (fun h=>?_)|refine aX ?_|refine aA ?_|refine aI (hn:=?_)|refine qR ?_|refine qS ?_|exact ⟨rfl,rfl⟩|fail)
  refine LWp.pick [0,14,15,16] N21 rfl rfl rfl (L_loop (fun q s K=>∃ j:Nat,q=(rOf t I).length-j∧j≤(rOf t I).length∧s=[(0,ptr 13),(14,slB (15+I) (rOf t I).length),(15,.int .i64 (rOf t I).length),(16,.int .i64 j)]∧K=CY N (bif O then .m1 else .m0) (X j).1 t 2 I ct gn (X j).2.1 0 (X j).2.2 w) (rOf t I).length ⟨0,rfl,by omega,by subst hJ; rfl,by subst hN; subst hJ; subst hO; rw [hx0]; rfl⟩ ?_)
  subst hN; subst hJ; subst hO
  clear hx0
  rintro q _ _ ⟨j,rfl,hj,rfl,rfl⟩
  first|refine L_seq (L_rs (S_done [] rfl (Nx.goL (iF (fun h=>L_skip (Nx.goL ?_)) (fun h=>L_exit ?_)))))|refine L_rs (S_done [] rfl (Nx.goL (L_seq (iF (fun h=>L_skip (Nx.goL ?_)) (fun h=>L_exit ?_)))))
  ·have hj2:=Int.ofNat_lt.1 h
   obtain ⟨a,hg,ha,hs⟩:=hnx j hj2
   have hI2:=hxi j
   obtain ⟨hl1,hl2⟩:=hxl j hj
   clear hxi hxl hnx
   generalize X j=Y at *
   obtain ⟨m1,xs1,k1⟩:=Y
   simp only at hI2 hl1 hl2 hs
   have hR:=mRoot_tr m1 hI2.toHOk a ha.2 xs1 k1 w hl1 hl2
   generalize (if a<0∨hasH m1 a=true then 0 else 6:Int)=er at *
   repeat' (first|refine qN ?_|refine dN ?_|refine dR ?_|refine d0 ?_|refine qB ?_|refine rT ?_|refine qT ?_|refine qU ?_|refine qL ?_|refine qK ?_|refine qF ?_|refine qE ?_|refine iF (fun h=>?_) (fun h=>?_)|refine aX ?_|refine S_Q [] rfl rfl (QY.ldI rfl rfl hg) ?_|(refine cW HMk (hR) ?_; conv=>whnf)|refine aA ?_|refine aI (hn:=?_)|refine qR ?_|refine qS ?_|exact ⟨rfl,rfl⟩|fail)
   exact Nx.pick [0,14,15,16] N21 rfl rfl rfl ⟨_,by omega,j+1,rfl,by omega,rfl,by rw [hs]; rfl⟩
  ·refine Nx.goL ?_
   obtain rfl:j=_:=Nat.le_antisymm hj (by omega)
   clear hxi hxl hnx
   generalize X _=Y at *
   obtain ⟨m1,xs1,k1⟩:=Y
   repeat' (first|refine qN ?_|refine dN ?_|refine dR ?_|refine d0 ?_|refine qB ?_|refine rT ?_|refine qT ?_|refine qU ?_|refine qL ?_|refine qK ?_|refine qF ?_|refine qE ?_|refine iF (fun h=>?_) (fun h=>?_)|refine aX ?_|refine aA ?_|refine aI (hn:=?_)|refine qR ?_|refine qS ?_|exact ⟨rfl,rfl⟩|fail)
   all_goals exact RetQ.end N21 rfl rfl rfl rfl ⟨rfl,rfl⟩
end Go.Proofs.YthmdialagibpfaaGreatDoor
end
section
namespace Go.Proofs.YthmdialagibpfaaGreatDoor
open Go Go.Tum Go.Tum.Base
set_option maxRecDepth 4000
def rowsCI:List FnRow:=[row_cycle_Cycle_in]
theorem rowsCI_ok:∀ x∈rowsCI,x.Ok Tryz.prog:=by
 refine List.forall_mem_cons.2 ⟨row_cycle_Cycle_in_ok,?_⟩
 exact fun x hx=>by cases hx
theorem cIn_tr (n:Nat) (hn:n≤3) (kd:Kd) (m:HM) (t:Ths) (i:Nat) (hi:i<n) (ph a:Int) (ct gn:Nat) (xs:List Int) (j k w:Nat):Tr Tryz.prog 36 [ptr 13,.int .i64 i] (CY n kd m t ph a ct gn xs j k w) (fun v K=>v=.bool true∧K=CY n kd m t ph a ct gn xs j k w):=by
 obtain ⟨rfl,rfl⟩ | ⟨rfl,rfl⟩ | ⟨rfl,rfl⟩ | ⟨rfl,rfl⟩ | ⟨rfl,rfl⟩ | ⟨rfl,rfl⟩:(n=1∧i=0)∨(n=2∧i=0)∨(n=2∧i=1)∨(n=3∧i=0)∨(n=3∧i=1)∨(n=3∧i=2):=by omega
 all_goals cases kd
 all_goals exact Tr.runK N21 (fuel:=200) rowsCI_ok (rawQ1_ok _) (rawE2_ok _) (by kernel_rfl) (by kernel_rfl) (by kernel_rfl) (by kernel_rfl)
def stopT (t:Ths) (i:Nat) (r:List Int):Ths:=match i with
 | 0=>⟨true,t.s1,t.s2,r,t.r1,t.r2⟩
 | 1=>⟨t.s0,true,t.s2,t.r0,r,t.r2⟩
 | _=>⟨t.s0,t.s1,true,t.r0,t.r1,r⟩
abbrev KS:List Nat:=[0,1,2,3,4,5,6,7,8,9,10,11,12,13,14,18,19,20,21]
set_option maxHeartbeats 4000000 in
theorem cStop_tr (n:Nat) (hn:n≤3) (old:Bool) (m:HM) (t:Ths) (i:Nat) (hi:i<n) (hs:[t.s0,t.s1,t.s2].getD i false=false) (a:Int) (ct gn:Nat) (x:List Int) (hx:x.length≤65536) :
  TrK Tryz.prog [] KS 11 [ptr 13,.int .i64 i,slB 21 x.length] (CY n (bif old then .w1 else .w0) m t 1 a ct gn [] 0 0 0++[.gro 1 (rowsC intC x)])
   (fun v K=>v=.int .i64 0∧K=CY n (bif old then .w1 else .w0) m (stopT t i x) 1 a ct gn [] 0 0 0++[.gro 1 (rowsC intC x)]):=by
 have hC:=cloneI_tr x x.length x.length (Nat.le_refl _) hx
 rw [List.take_length] at hC
 have hI:=cIn_tr n hn (bif old then .w1 else .w0) m t i hi 1 a ct gn [] 0 0 0
 refine Tr.of row_cycle_Cycle_Stop_ok rfl ?_
 obtain ⟨s0,s1,s2,r0,r1,r2⟩:=t
 obtain ⟨rfl,rfl⟩ | ⟨rfl,rfl⟩ | ⟨rfl,rfl⟩ | ⟨rfl,rfl⟩ | ⟨rfl,rfl⟩ | ⟨rfl,rfl⟩:(n=1∧i=0)∨(n=2∧i=0)∨(n=2∧i=1)∨(n=3∧i=0)∨(n=3∧i=1)∨(n=3∧i=2):=by omega
 all_goals cases old
 all_goals
  obtain rfl:=hs
  repeat' (first|refine qN ?_|refine dN ?_|refine d0 ?_|refine qB ?_|refine qT ?_|refine qU ?_|refine qL ?_|refine qK ?_|refine iF (fun h=>?_) (fun h=>?_)|refine aX ?_|refine cP N21 (hI) ?_|(refine cF [21] (hC) ?_; conv=>whnf)|refine aI (hn:=?_)|refine qR ?_|refine qS ?_|exact ⟨rfl,rfl⟩|fail)
 all_goals first
  |exact L_ret (RetQ.pick [0,1,2,3,4,5,6,7,8,9,10,11,12,13,14,22,16,17,18,19,20,21] rfl rfl rfl rfl ⟨rfl,rfl⟩)
  |exact L_ret (RetQ.pick [0,1,2,3,4,5,6,7,8,9,10,11,12,13,14,15,22,17,18,19,20,21] rfl rfl rfl rfl ⟨rfl,rfl⟩)
  |exact L_ret (RetQ.pick [0,1,2,3,4,5,6,7,8,9,10,11,12,13,14,15,16,22,18,19,20,21] rfl rfl rfl rfl ⟨rfl,rfl⟩)
end Go.Proofs.YthmdialagibpfaaGreatDoor
end
section
namespace Go.Proofs.YthmdialagibpfaaGreatDoor
open Go Go.Tum Go.Tum.Base
set_option maxRecDepth 4000
set_option maxHeartbeats 4000000 in
theorem cLook_tr (m:HM) (gl:List Gb) (hI:HI m gl) (n:Nat) (hn:n≤3) (old:Bool) (t:Ths) (a:Int) (ct gn:Nat) (xs:List Int) (k w i0:Nat) (hx:xs[k]?=some ((16*i0:Nat):Int)) (hi:i0<16*(m.man+m.mgd)) (h6:xs.length≤60000) (hw:w≤1000000000) :
  TrK Tryz.prog [] KC 40 [ptr 13] (CY n (bif old then .m1 else .m0) m t 3 a ct gn xs 0 (k+1) w)
   (fun v K=>v=undef∧K=CY n (bif old then .m1 else .m0) (ntA (m,xs,k) (refsF m.bs (16*i0))).1 t 3 a ct gn (ntA (m,xs,k) (refsF m.bs (16*i0))).2.1 0 (ntA (m,xs,k) (refsF m.bs (16*i0))).2.2 (w+1)):=by
 have hL:=mLeft_tr m xs (k+1) xs.length w
 have hS:=mStep_ok m gl hI xs k w i0 hx hi h6 hw
 generalize ntA (m,xs,k) (refsF m.bs (16*i0))=Y at *
 obtain ⟨m1,xs1,k1⟩:=Y
 simp only at hS ⊢
 generalize decide (0<k1)=bb at *
 refine Tr.of row_cycle_Cycle_look_ok rfl ?_
 obtain rfl | rfl | rfl | rfl:n=0∨n=1∨n=2∨n=3:=by omega
 all_goals cases old
 all_goals
  repeat' (first|refine qN ?_|refine dN ?_|refine dR ?_|refine d0 ?_|refine rT ?_|refine qT ?_|refine qU ?_|refine qL ?_|refine qK ?_|refine iF (fun h=>?_) (fun h=>?_)|refine cP HMk (hL) ?_|(refine cW HMk (hS) ?_; conv=>whnf)|refine aI (hn:=?_)|refine qR ?_|refine qS ?_|exact ⟨rfl,rfl⟩|fail)
 all_goals (exfalso; omega)
set_option maxHeartbeats 4000000 in
theorem cLook_no (m:HM) (hm:HOk m) (n:Nat) (hn:n≤3) (old:Bool) (t:Ths) (a:Int) (ct gn:Nat) (xs:List Int) (w:Nat) :
  TrK Tryz.prog [] KC 40 [ptr 13] (CY n (bif old then .m1 else .m0) m t 3 a ct gn xs 0 0 w)
   (fun v K=>v=undef∧K=CY n .s m t 4 a ct gn (natI (pagesH m)) 0 (pagesH m).length 0):=by
 have hL:=mLeft_tr m xs 0 xs.length w
 have hN:=swNew_tr m hm
 have hnl:=natI_length (pagesH m)
 generalize pagesH m=ps at *
 refine Tr.of row_cycle_Cycle_look_ok rfl ?_
 obtain rfl | rfl | rfl | rfl:n=0∨n=1∨n=2∨n=3:=by omega
 all_goals cases old
 all_goals
  repeat' (first|refine qN ?_|refine dN ?_|refine dR ?_|refine d0 ?_|refine rT ?_|refine qT ?_|refine qU ?_|refine qL ?_|refine qK ?_|refine iF (fun h=>?_) (fun h=>?_)|refine cP HMk (hL) ?_|refine aI (hn:=?_)|refine qR ?_|refine qS ?_|exact ⟨rfl,rfl⟩|fail)
  all_goals try (exfalso; omega)
  refine S_wk [] rfl (wk_dead 18 rfl) ?_
  repeat' (first|refine qN ?_|refine dN ?_|refine dR ?_|refine d0 ?_|refine rT ?_|refine qT ?_|refine qU ?_|refine qL ?_|refine qK ?_|refine iF (fun h=>?_) (fun h=>?_)|(refine cF HC13 (hN) ?_; conv=>whnf)|refine aI (hn:=?_)|refine qR ?_|refine qS ?_|exact ⟨rfl,rfl⟩|fail)
 all_goals exact RetQ.end [0,1,2,3,4,5,6,7,8,9,10,11,12,13,14,15,16,17,18,22,21] rfl rfl rfl rfl ⟨rfl,rfl⟩
end Go.Proofs.YthmdialagibpfaaGreatDoor
end
section
namespace Go.Proofs.YthmdialagibpfaaGreatDoor
open Go Go.Tum Go.Tum.Base
set_option maxRecDepth 4000
set_option maxHeartbeats 4000000 in
theorem cClean_tr (m:HM) (gl:List Gb) (hI:HI m gl) (n:Nat) (hn:n≤3) (t:Ths) (a:Int) (ct gn:Nat) (xs:List Int) (hx:xs.length≤256) (j c g:Nat) (hg:g≤1000000000) (h:xs.length=j+(c+1)) :
  TrK Tryz.prog [] KC 41 [ptr 13] (CY n .s m t 4 a ct gn xs j (c+1) g)
   (fun v K=>v=undef∧K=CY n .s (swS m xs j) t 4 a ct gn xs (j+1) c (g+swN m xs j)):=by
 have hL:=swLeft_d m (j:=j) (d:=c+1) g h
 have hS:=swStep_ds m gl hI hx (j:=j) (c:=c) g hg h
 generalize swS m xs j=m1 at *
 generalize swN m xs j=g1 at *
 generalize decide (j+1<xs.length)=bb at *
 refine Tr.of row_cycle_Cycle_clean_ok rfl ?_
 obtain rfl | rfl | rfl | rfl:n=0∨n=1∨n=2∨n=3:=by omega
 all_goals
  repeat' (first|refine qN ?_|refine dN ?_|refine dR ?_|refine d0 ?_|refine rT ?_|refine qT ?_|refine qU ?_|refine qL ?_|refine qK ?_|refine iF (fun h=>?_) (fun h=>?_)|refine cP HSw (hL) ?_|(refine cW HSw (hS) ?_; conv=>whnf)|refine aA ?_|refine aI (hn:=?_)|refine qR ?_|refine qS ?_|exact ⟨rfl,rfl⟩|fail)
 all_goals (exfalso; omega)
def clr (n:Nat):List Value:=[Value.bool false,.slice none 0 0,.bool false,.slice none 0 0,.bool false,.slice none 0 0].take (2*n)
def CZ (m:HM) (n:Nat) (t:Ths) (a:Int) (ct g:Nat) (xs:List Int):LH :=
 HL m++[.cells 0 [ptr 0,slB 14 n,.int .i64 0,.int .i64 a,ptr 18,ptr 19,.int .i64 (ct+1:Nat),.int .i64 g],.cells 0 (clr n),.gro 1 (rowsC intC t.r0),.gro 1 (rowsC intC t.r1),.gro 1 (rowsC intC t.r2),.dead,.dead,.dead]
set_option maxHeartbeats 4000000 in
theorem cClean_z (m:HM) (n:Nat) (hn:n≤3) (t:Ths) (a:Int) (ct gn:Nat) (hct:ct≤1000000000) (xs:List Int) (j g:Nat) (h:xs.length=j+0) :
  TrK Tryz.prog [] KD 41 [ptr 13] (CY n .s m t 4 a ct gn xs j 0 g) (fun v K=>v=undef∧K=CZ m n t a ct g xs):=by
 have hL:=swLeft_d m (j:=j) (d:=0) g h
 have hG:=swGone_d m (j:=j) (d:=0) g h
 refine Tr.of row_cycle_Cycle_clean_ok rfl ?_
 obtain ⟨N,hN⟩:∃ N,N=n:=⟨_,rfl⟩
 obtain rfl | rfl | rfl | rfl:n=0∨n=1∨n=2∨n=3:=by omega
 all_goals
  repeat' (first|refine qN ?_|refine dN ?_|refine dR ?_|refine d0 ?_|refine rT ?_|refine qT ?_|refine qU ?_|refine qL ?_|refine qK ?_|refine iF (fun h=>?_) (fun h=>?_)|refine cP HSw (hL) ?_|refine cP HSw (hG) ?_|refine aA ?_|refine aI (hn:=?_)|refine qR ?_|refine qS ?_|exact ⟨rfl,rfl⟩|fail)
  all_goals try (exfalso; omega)
  refine S_wk [] rfl (wk_dead 19 rfl) (S_wk [] rfl (wk_dead 20 rfl) ?_)
  first|refine L_rs ?_|refine L_reg ?_ | skip
  refine eE rfl rfl (EW.of (v:=.tuple #[]) (L':=CZ m N t a ct g xs) (by subst hN; kernel_rfl)) ?_
  conv=>whnf
  subst hN
  repeat' (first|refine qN ?_|refine dN ?_|refine dR ?_|refine d0 ?_|refine rT ?_|refine qT ?_|refine qU ?_|refine qL ?_|refine qK ?_|refine iF (fun h=>?_) (fun h=>?_)|refine aA ?_|refine aI (hn:=?_)|refine qR ?_|refine qS ?_|exact ⟨rfl,rfl⟩|fail)
  all_goals exact RetQ.end N21 rfl rfl rfl rfl ⟨rfl,rfl⟩
set_option maxHeartbeats 4000000 in
theorem cClean_no (m:HM) (n:Nat) (hn:n≤3) (t:Ths) (a:Int) (ct gn:Nat) (hct:ct≤1000000000) (xs:List Int) (j g:Nat) (h:xs.length=j+0) :
  TrK Tryz.prog [] KD 41 [ptr 13] (CY n .s m t 4 a ct gn xs j 0 g)
   (fun v K=>v=undef∧K=CY n .w1 m T0 0 a (ct+1) g [] 0 0 0):=by
 have h:=cClean_z m n hn t a ct gn hct xs j g h
 obtain rfl | rfl | rfl | rfl:n=0∨n=1∨n=2∨n=3:=by omega
 ·exact Tr.pickK [0,1,2,3,4,5,6,7,8,9,10,11,12,13,14,21,22,23,18,19,20] (Tr.fillG 1 (Tr.fillG 1 (Tr.fillG 1 h))) rfl rfl rfl rfl
 ·exact Tr.pickK [0,1,2,3,4,5,6,7,8,9,10,11,12,13,14,21,22,23,18,19,20] (Tr.fillG 1 (Tr.fillG 1 (Tr.nilC 14 1 1 h rfl rfl))) rfl rfl rfl rfl
 ·exact Tr.pickK [0,1,2,3,4,5,6,7,8,9,10,11,12,13,14,21,22,23,18,19,20] (Tr.fillG 1 (Tr.nilC 14 3 1 (Tr.nilC 14 1 1 h rfl rfl) rfl rfl)) rfl rfl rfl rfl
 ·exact Tr.pickK [0,1,2,3,4,5,6,7,8,9,10,11,12,13,14,21,22,23,18,19,20] (Tr.nilC 14 5 1 (Tr.nilC 14 3 1 (Tr.nilC 14 1 1 h rfl rfl) rfl rfl) rfl rfl) rfl rfl rfl rfl
end Go.Proofs.YthmdialagibpfaaGreatDoor
end
section
namespace Go.Proofs.YthmdialagibpfaaGreatDoor
open Go Go.Tum Go.Tum.Base
set_option maxRecDepth 4000
def rowsCS:List FnRow:=[row_cycle_Cycle_Step,row_cycle_Cycle_Phase,row_cycle_Cycle_All,row_cycle_Cycle_All_c1,row_slices_ContainsFunc_cycle_thread_cycle_thread_,row_slices_IndexFunc_cycle_thread_cycle_thread_]
theorem rowsCS_ok:∀ x∈rowsCS,x.Ok Tryz.prog:=by
 refine List.forall_mem_cons.2 ⟨row_cycle_Cycle_Step_ok,?_⟩
 refine List.forall_mem_cons.2 ⟨row_cycle_Cycle_Phase_ok,?_⟩
 refine List.forall_mem_cons.2 ⟨row_cycle_Cycle_All_ok,?_⟩
 refine List.forall_mem_cons.2 ⟨row_cycle_Cycle_All_c1_ok,?_⟩
 refine List.forall_mem_cons.2 ⟨row_slices_ContainsFunc_cycle_thread_cycle_thread__ok,?_⟩
 refine List.forall_mem_cons.2 ⟨row_slices_IndexFunc_cycle_thread_cycle_thread__ok,?_⟩
 exact fun x hx=>by cases hx
theorem cStep_idle (n:Nat) (hn:n≤3) (old:Bool) (m:HM) (t:Ths) (a:Int) (ct gn:Nat):Tr Tryz.prog 13 [ptr 13] (CY n (bif old then .w1 else .w0) m t 0 a ct gn [] 0 0 0) (fun v K=>v=.bool false∧K=CY n (bif old then .w1 else .w0) m t 0 a ct gn [] 0 0 0):=by
 obtain rfl | rfl | rfl | rfl:n=0∨n=1∨n=2∨n=3:=by omega
 all_goals cases old
 all_goals exact Tr.runK N21 (fuel:=2000) rowsCS_ok (rawQ1_ok _) (rawE2_ok _) (by kernel_rfl) (by kernel_rfl) (by kernel_rfl) (by kernel_rfl)
set_option maxHeartbeats 4000000 in
theorem cStep_wait (n:Nat) (hn:n≤3) (old:Bool) (m:HM) (t:Ths) (ht:allT n t=false) (a:Int) (ct gn:Nat):Tr Tryz.prog 13 [ptr 13] (CY n (bif old then .w1 else .w0) m t 1 a ct gn [] 0 0 0) (fun v K=>v=.bool false∧K=CY n (bif old then .w1 else .w0) m t 1 a ct gn [] 0 0 0):=by
 obtain ⟨s0,s1,s2,r0,r1,r2⟩:=t
 obtain rfl | rfl | rfl | rfl:n=0∨n=1∨n=2∨n=3:=by omega
 all_goals cases old <;> cases s0 <;> cases s1 <;> cases s2
 all_goals first
  |exact absurd (show true=false from ht) (by decide)
  |exact Tr.runK N21 (fuel:=2000) rowsCS_ok (rawQ1_ok _) (rawE2_ok _) (by kernel_rfl) (by kernel_rfl) (by kernel_rfl) (by kernel_rfl)
set_option maxHeartbeats 4000000 in
theorem cStep_begin (m:HM) (hm:HOk m) (n:Nat) (hn:n≤3) (old:Bool) (t:Ths) (ht:allT n t=true) (a:Int) (ct gn:Nat):TrK Tryz.prog [] KC 13 [ptr 13] (CY n (bif old then .w1 else .w0) m t 1 a ct gn [] 0 0 0) (fun v K=>v=.bool true∧K=CY n (bif old then .m1 else .m0) (unmarkM m) t (if n=0 then 3 else 2) 0 ct gn [] 0 0 0):=by
 have hP:=cPhase_tr n hn (bif old then .w1 else .w0) m t 1 a ct gn [] 0 0 0
 have hA:=cAll_tr n hn old m t 1 a ct gn
 have hB:=cBegin_tr m hm n hn old t a ct gn
 rw [ht] at hA
 clear ht
 refine Tr.of row_cycle_Cycle_Step_ok rfl ?_
 generalize unmarkM m=m1 at *
 obtain rfl | rfl | rfl | rfl:n=0∨n=1∨n=2∨n=3:=by omega
 all_goals cases old
 all_goals
  repeat' (first|refine qN ?_|refine dN ?_|refine dR ?_|refine d0 ?_|refine qB ?_|refine rT ?_|refine qT ?_|refine qU ?_|refine qL ?_|refine qK ?_|refine iF (fun h=>?_) (fun h=>?_)|refine cP N21 (hP) ?_|refine cP N21 (hA) ?_|(refine cV N21 hB ?_; conv=>whnf)|refine aI (hn:=?_)|refine qR ?_|refine qS ?_|exact ⟨rfl,rfl⟩|fail)
set_option maxHeartbeats 4000000 in
theorem cStep_root (m:HM) (gl:List Gb) (hI:HI m gl) (n:Nat) (hn:n≤3) (old:Bool) (t:Ths) (i:Nat) (hi:i<n) (ct gn:Nat) (xs:List Int) (k w:Nat) (hk:k≤xs.length) (hx6:xs.length≤60000) (hr:∀ a∈rOf t i,inI a) (hr6:(rOf t i).length≤16) :
  TrK Tryz.prog [] KC 13 [ptr 13] (CY n (bif old then .m1 else .m0) m t 2 i ct gn xs 0 k w)
   (fun v K=>v=.bool true∧K=CY n (bif old then .m1 else .m0) (ntA (m,xs,k) (rOf t i)).1 t (if i+1=n then 3 else 2) (i+1:Nat) ct gn (ntA (m,xs,k) (rOf t i)).2.1 0 (ntA (m,xs,k) (rOf t i)).2.2 w):=by
 have hP:=cPhase_tr n hn (bif old then .m1 else .m0) m t 2 i ct gn xs 0 k w
 have hB:=cRoot_tr m gl hI n hn old t i hi ct gn xs k w hk hx6 hr hr6
 clear hr
 refine Tr.of row_cycle_Cycle_Step_ok rfl ?_
 generalize ntA (m,xs,k) (rOf t i)=Y at *
 obtain ⟨m1,xs1,k1⟩:=Y
 obtain ⟨rfl,rfl⟩ | ⟨rfl,rfl⟩ | ⟨rfl,rfl⟩ | ⟨rfl,rfl⟩ | ⟨rfl,rfl⟩ | ⟨rfl,rfl⟩:(n=1∧i=0)∨(n=2∧i=0)∨(n=2∧i=1)∨(n=3∧i=0)∨(n=3∧i=1)∨(n=3∧i=2):=by omega
 all_goals cases old
 all_goals
  repeat' (first|refine qN ?_|refine dN ?_|refine dR ?_|refine d0 ?_|refine qB ?_|refine rT ?_|refine qT ?_|refine qU ?_|refine qL ?_|refine qK ?_|refine iF (fun h=>?_) (fun h=>?_)|refine cP N21 (hP) ?_|(refine cV N21 hB ?_; conv=>whnf)|refine aI (hn:=?_)|refine qR ?_|refine qS ?_|exact ⟨rfl,rfl⟩|fail)
set_option maxHeartbeats 4000000 in
theorem cStep_look (m:HM) (gl:List Gb) (hI:HI m gl) (n:Nat) (hn:n≤3) (old:Bool) (t:Ths) (a:Int) (ct gn:Nat) (xs:List Int) (k w i0:Nat) (hx:xs[k]?=some ((16*i0:Nat):Int)) (hi:i0<16*(m.man+m.mgd)) (h6:xs.length≤60000) (hw:w≤1000000000) :
  TrK Tryz.prog [] KC 13 [ptr 13] (CY n (bif old then .m1 else .m0) m t 3 a ct gn xs 0 (k+1) w)
   (fun v K=>v=.bool true∧K=CY n (bif old then .m1 else .m0) (ntA (m,xs,k) (refsF m.bs (16*i0))).1 t 3 a ct gn (ntA (m,xs,k) (refsF m.bs (16*i0))).2.1 0 (ntA (m,xs,k) (refsF m.bs (16*i0))).2.2 (w+1)):=by
 have hP:=cPhase_tr n hn (bif old then .m1 else .m0) m t 3 a ct gn xs 0 (k+1) w
 have hB:=cLook_tr m gl hI n hn old t a ct gn xs k w i0 hx hi h6 hw
 refine Tr.of row_cycle_Cycle_Step_ok rfl ?_
 generalize ntA (m,xs,k) (refsF m.bs (16*i0))=Y at *
 obtain ⟨m1,xs1,k1⟩:=Y
 obtain rfl | rfl | rfl | rfl:n=0∨n=1∨n=2∨n=3:=by omega
 all_goals cases old
 all_goals
  repeat' (first|refine qN ?_|refine dN ?_|refine dR ?_|refine d0 ?_|refine qB ?_|refine rT ?_|refine qT ?_|refine qU ?_|refine qL ?_|refine qK ?_|refine iF (fun h=>?_) (fun h=>?_)|refine cP N21 (hP) ?_|(refine cV N21 hB ?_; conv=>whnf)|refine aI (hn:=?_)|refine qR ?_|refine qS ?_|exact ⟨rfl,rfl⟩|fail)
set_option maxHeartbeats 4000000 in
theorem cStep_lookno (m:HM) (hm:HOk m) (n:Nat) (hn:n≤3) (old:Bool) (t:Ths) (a:Int) (ct gn:Nat) (xs:List Int) (w:Nat) :
  TrK Tryz.prog [] KC 13 [ptr 13] (CY n (bif old then .m1 else .m0) m t 3 a ct gn xs 0 0 w)
   (fun v K=>v=.bool true∧K=CY n .s m t 4 a ct gn (natI (pagesH m)) 0 (pagesH m).length 0):=by
 have hP:=cPhase_tr n hn (bif old then .m1 else .m0) m t 3 a ct gn xs 0 0 w
 have hB:=cLook_no m hm n hn old t a ct gn xs w
 refine Tr.of row_cycle_Cycle_Step_ok rfl ?_
 generalize pagesH m=ps at *
 obtain rfl | rfl | rfl | rfl:n=0∨n=1∨n=2∨n=3:=by omega
 all_goals cases old
 all_goals
  repeat' (first|refine qN ?_|refine dN ?_|refine dR ?_|refine d0 ?_|refine qB ?_|refine rT ?_|refine qT ?_|refine qU ?_|refine qL ?_|refine qK ?_|refine iF (fun h=>?_) (fun h=>?_)|refine cP N21 (hP) ?_|(refine cV N21 hB ?_; conv=>whnf)|refine aI (hn:=?_)|refine qR ?_|refine qS ?_|exact ⟨rfl,rfl⟩|fail)
set_option maxHeartbeats 4000000 in
theorem cStep_clean (m:HM) (gl:List Gb) (hI:HI m gl) (n:Nat) (hn:n≤3) (t:Ths) (a:Int) (ct gn:Nat) (xs:List Int) (hx:xs.length≤256) (j c g:Nat) (hg:g≤1000000000) (h:xs.length=j+(c+1)) :
  TrK Tryz.prog [] KC 13 [ptr 13] (CY n .s m t 4 a ct gn xs j (c+1) g)
   (fun v K=>v=.bool true∧K=CY n .s (swS m xs j) t 4 a ct gn xs (j+1) c (g+swN m xs j)):=by
 have hP:=cPhase_tr n hn .s m t 4 a ct gn xs j (c+1) g
 have hB:=cClean_tr m gl hI n hn t a ct gn xs hx j c g hg h
 refine Tr.of row_cycle_Cycle_Step_ok rfl ?_
 generalize swS m xs j=m1 at *
 generalize swN m xs j=g1 at *
 obtain rfl | rfl | rfl | rfl:n=0∨n=1∨n=2∨n=3:=by omega
 all_goals
  repeat' (first|refine qN ?_|refine dN ?_|refine dR ?_|refine d0 ?_|refine qB ?_|refine rT ?_|refine qT ?_|refine qU ?_|refine qL ?_|refine qK ?_|refine iF (fun h=>?_) (fun h=>?_)|refine cP N21 (hP) ?_|(refine cV N21 hB ?_; conv=>whnf)|refine aI (hn:=?_)|refine qR ?_|refine qS ?_|exact ⟨rfl,rfl⟩|fail)
set_option maxHeartbeats 4000000 in
theorem cStep_cleanno (m:HM) (n:Nat) (hn:n≤3) (t:Ths) (a:Int) (ct gn:Nat) (hct:ct≤1000000000) (xs:List Int) (j g:Nat) (h:xs.length=j+0) :
  TrK Tryz.prog [] KD 13 [ptr 13] (CY n .s m t 4 a ct gn xs j 0 g)
   (fun v K=>v=.bool true∧K=CY n .w1 m T0 0 a (ct+1) g [] 0 0 0):=by
 have hP:=cPhase_tr n hn .s m t 4 a ct gn xs j 0 g
 have hB:=cClean_no m n hn t a ct gn hct xs j g h
 refine Tr.of row_cycle_Cycle_Step_ok rfl ?_
 obtain rfl | rfl | rfl | rfl:n=0∨n=1∨n=2∨n=3:=by omega
 all_goals
  repeat' (first|refine qN ?_|refine dN ?_|refine dR ?_|refine d0 ?_|refine qB ?_|refine rT ?_|refine qT ?_|refine qU ?_|refine qL ?_|refine qK ?_|refine iF (fun h=>?_) (fun h=>?_)|refine cP N21 (hP) ?_|(refine cV N21 hB ?_; conv=>whnf)|refine aI (hn:=?_)|refine qR ?_|refine qS ?_|exact ⟨rfl,rfl⟩|fail)
end Go.Proofs.YthmdialagibpfaaGreatDoor
end
section
namespace Go.Proofs.YthmdialagibpfaaGreatDoor
open Go Go.Tum Go.Tum.Base
set_option maxRecDepth 4000
def RMs (st:List Int) (w:Nat):LH:=[.cells 0 [ptr 0,slB 10 st.length,.int .i64 w],.gro 1 (rowsC intC st)]
abbrev RMK:List Nat:=[0,1,5,6,9]
abbrev R11:List Nat:=[0,1,2,3,4,5,6,7,8,9,10]
set_option maxHeartbeats 1000000 in
theorem rmNote_tr (m:HM) (hm:HOk m) (gl:List Gb) (a:Int) (st:List Int) (w:Nat) (h6:st.length≤65536):TrK Tryz.prog [] RMK 107 [ptr 9,.int .i64 a] (RHm m gl++RMs st w) (fun v K=>v=undef∧K=RHm (markR m a) gl++RMs (ntS m st a) w):=by
 have hM:=rMark_u m hm gl a
 refine Tr.of row_tumbrelref19_Marker_note_ok rfl ?_
 unfold ntS
 cases hb:markB m a
 ·rw [hb] at hM
  repeat' (first|refine qN ?_|refine dN ?_|refine dR ?_|refine d0 ?_|refine rT ?_|refine qT ?_|refine qU ?_|refine qL ?_|refine qK ?_|refine iF (fun h=>?_) (fun h=>?_)|(refine cW R9 (hM) ?_; conv=>whnf)|refine aI (hn:=?_)|refine qR ?_|refine qS ?_|exact ⟨rfl,rfl⟩|fail)
  exact RetQ.end [0,1,2,3,4,5,6,7,8,9,10] rfl rfl rfl rfl ⟨rfl,rfl⟩
 ·rw [hb] at hM
  simp only [cond_true]
  unfold RMs
  rw [show (st++[a]).length=st.length+1 by simp]
  repeat' (first|refine qN ?_|refine dN ?_|refine dR ?_|refine d0 ?_|refine rT ?_|refine qT ?_|refine qU ?_|refine qL ?_|refine qK ?_|refine iF (fun h=>?_) (fun h=>?_)|(refine cW R9 (hM) ?_; conv=>whnf)|refine aI (hn:=?_)|refine qR ?_|refine qS ?_|exact ⟨rfl,rfl⟩|fail)
  refine S_wk [] rfl (wk_gro0 (b:=11) 1 rfl) ?_
  first|refine L_rs ?_|refine L_reg ?_ | skip
  refine eE rfl rfl (EW.cpy (bytes:=8) (i:=0) st intC_ok rfl (by kernel_rfl) rfl rfl rfl rfl rfl (by omega) (List.take_length) (by decide) (by omega)) ?_
  conv=>whnf
  repeat' (first|refine qN ?_|refine dN ?_|refine dR ?_|refine d0 ?_|refine rT ?_|refine qT ?_|refine qU ?_|refine qL ?_|refine qK ?_|refine iF (fun h=>?_) (fun h=>?_)|refine aI (hn:=?_)|refine qR ?_|refine qS ?_|exact ⟨rfl,rfl⟩|fail)
  first|refine L_rs ?_|refine L_reg ?_ | skip
  refine eE rfl rfl (EW.appR1 (bytes:=8) (a:=a) intC_ok rfl (by kernel_rfl) rfl rfl rfl rfl rfl (by omega)) ?_
  conv=>whnf
  repeat' (first|refine qN ?_|refine dN ?_|refine dR ?_|refine d0 ?_|refine rT ?_|refine qT ?_|refine qU ?_|refine qL ?_|refine qK ?_|refine iF (fun h=>?_) (fun h=>?_)|refine aI (hn:=?_)|refine qR ?_|refine qS ?_|exact ⟨rfl,rfl⟩|fail)
  exact RetQ.end [0,1,2,3,4,5,6,7,8,9,14] rfl rfl rfl rfl ⟨rfl,rfl⟩
theorem rmRoot_tr (m:HM) (hm:HOk m) (gl:List Gb) (a:Int) (st:List Int) (w:Nat) (h6:st.length≤65536):TrK Tryz.prog [] RMK 43 [ptr 9,.int .i64 a] (RHm m gl++RMs st w) (fun v K=>v=.int .i64 (if a<0∨hasH m a=true then 0 else 6)∧K=RHm (markR m a) gl++RMs (ntS m st a) w):=by
 have hN:=rmNote_tr m hm gl a st w h6
 have hI:=rIndex_tr m.man (m.man+m.mgd) m.bs m.rs (obs m) gl (obs_len hm) a
 refine Tr.of row_tumbrelref19_Marker_Root_ok rfl ?_
 by_cases h0:a<0
 ·obtain ⟨e1,e2⟩:=markR_no (m:=m) (a:=a) (by rw [hasH,decide_eq_false (by omega),Bool.false_and])
  rw [if_pos (.inl h0),show ntS m st a=st by unfold ntS; rw [e2]; rfl,e1]
  repeat' (first|refine qN ?_|refine dN ?_|refine dR ?_|refine d0 ?_|refine rT ?_|refine qT ?_|refine qU ?_|refine qL ?_|refine qK ?_|refine iF (fun h=>?_) (fun h=>?_)|refine aI (hn:=?_)|refine qR ?_|refine qS ?_|exact ⟨rfl,rfl⟩|fail)
  all_goals try (exfalso; omega)
 ·cases hh:hasH m a
  ·obtain ⟨e1,e2⟩:=markR_no hh
   rw [idx_no hh] at hI
   rw [if_neg (fun h=>h.elim h0 (fun h=>by cases h)),show ntS m st a=st by unfold ntS; rw [e2]; rfl,e1]
   repeat' (first|refine qN ?_|refine dN ?_|refine dR ?_|refine d0 ?_|refine rT ?_|refine qT ?_|refine qU ?_|refine qL ?_|refine qK ?_|refine iF (fun h=>?_) (fun h=>?_)|refine cP R9 (hI) ?_|refine aI (hn:=?_)|refine qR ?_|refine qS ?_|exact ⟨rfl,rfl⟩|fail)
   all_goals try (exfalso; omega)
  ·obtain ⟨i,e,h1,h2⟩:=hasH_nat hh
   obtain ⟨j,h3,_⟩:=idx_at h1 h2
   rw [← e] at h3
   rw [h3] at hI
   rw [if_pos (.inr rfl)]
   repeat' (first|refine qN ?_|refine dN ?_|refine dR ?_|refine d0 ?_|refine rT ?_|refine qT ?_|refine qU ?_|refine qL ?_|refine qK ?_|refine iF (fun h=>?_) (fun h=>?_)|refine cP R9 (hI) ?_|refine aI (hn:=?_)|refine qR ?_|refine qS ?_|exact ⟨rfl,rfl⟩|fail)
   all_goals try (exfalso; omega)
   repeat' (first|refine qN ?_|refine dN ?_|refine dR ?_|refine d0 ?_|refine rT ?_|refine qT ?_|refine qU ?_|refine qL ?_|refine qK ?_|refine iF (fun h=>?_) (fun h=>?_)|(refine cW R11 (hN) ?_; conv=>whnf)|refine aI (hn:=?_)|refine qR ?_|refine qS ?_|exact ⟨rfl,rfl⟩|fail)
set_option maxHeartbeats 4000000 in
theorem rmStep_ok (m:HM) (gl:List Gb) (hI:HI m gl) (st:List Int) (w i0:Nat) (hi:i0<16*(m.man+m.mgd)) (h6:st.length≤60000) (hw:w≤1000000000) :
  TrK Tryz.prog [] RMK 44 [ptr 9] (RHm m gl++RMs (st++[((16*i0:Nat):Int)]) w)
   (fun v K=>v=.bool (decide (0<(rtA (m,st) (refsF m.bs (16*i0))).2.length))∧K=RHm (rtA (m,st) (refsF m.bs (16*i0))).1 gl++RMs (rtA (m,st) (refsF m.bs (16*i0))).2 (w+1)):=by
 have hnb:=hI.nb
 have hn1:=hI.n1
 have hO:=rRefs_tr m gl (by omega) (16*i0) (by omega) (by omega)
 have hl15:=refsF_len m.bs (16*i0)
 have hin:∀ a∈refsF m.bs (16*i0),inI a:=fun a=>refsF_in
 rw [← rtL_all]
 have hx0:rtL (m,st) (refsF m.bs (16*i0)) 0=(m,st):=rfl
 have hxs:=fun j (h:j<(refsF m.bs (16*i0)).length)=>rtL_succ (m,st) (refsF m.bs (16*i0)) h
 have hxi:∀ j,HI (rtL (m,st) (refsF m.bs (16*i0)) j).1 gl:=fun j=>HI.rnotes (x:=(m,st)) hI
 have hxl:∀ j,(rtL (m,st) (refsF m.bs (16*i0)) j).2.length≤st.length+j:=fun j=>rtL_len (m,st) _ j
 generalize rtL (m,st) (refsF m.bs (16*i0))=X at *
 generalize refsF m.bs (16*i0)=l at *
 have hg0:(st++[((16*i0:Nat):Int)])[st.length]?=some ((16*i0:Nat):Int):=by simp
 have htk:List.take st.length (st++[((16*i0:Nat):Int)])=st:=List.take_left ..
 refine Tr.of row_tumbrelref19_Marker_Step_ok rfl ?_
 unfold RMs
 obtain ⟨ys,hys⟩:∃ ys,st++[((16*i0:Nat):Int)]=ys:=⟨_,rfl⟩
 have hyl:ys.length=st.length+1:=by rw [← hys]; simp
 rw [hys] at hg0 htk ⊢
 rw [hyl]
 repeat' (first|refine qN ?_|refine dN ?_|refine dR ?_|refine d0 ?_|refine qB ?_|refine rT ?_|refine qT ?_|refine qU ?_|refine qL ?_|refine qK ?_|refine qF ?_|refine qE ?_|refine iF (fun h=>?_) (fun h=>?_)|refine aX ?_|refine S_Q [] rfl rfl (QY.sub (c:=(st.length:Int)) rfl rfl (by omega) (by omega) (by omega)) ?_|refine S_Q [] rfl rfl (QY.ldI (k:=st.length) rfl rfl hg0) ?_|refine S_Q [] rfl rfl (QY.slc0 (b:=10) (lo':=0) (hi':=st.length) rfl rfl rfl (by omega) (by omega)) ?_|refine aA ?_|refine aS ?_|refine aI (hn:=?_)|refine qR ?_|refine qS ?_|exact ⟨rfl,rfl⟩|fail)
 refine S_E [] rfl rfl (esafe_ok rfl) ?_
 rintro _ _ ⟨rfl,rfl⟩
 refine ⟨(by repeat' (first|exact trivial|refine ⟨⟨qsafe_ok (st:=[]) rfl,Sure.of rfl⟩,?_⟩|refine ⟨.inl rfl,?_⟩|refine ⟨.inr ⟨qsafe_ok (st:=[]) rfl,Sure.of rfl⟩,?_⟩|refine ⟨⟨qsafe_ok (st:=[]) rfl,Sure.slice (by omega)⟩,?_⟩|refine ⟨.inr ⟨qsafe_ok (st:=[]) rfl,Sure.slice (by omega)⟩,?_⟩|refine ⟨.inr ⟨QY.neqB rfl (by kernel_rfl) rfl rfl,Sure.of rfl⟩,?_⟩|refine ⟨.inr ⟨QY.eqlB rfl (by kernel_rfl) rfl rfl,Sure.of rfl⟩,?_⟩ | fail)),LSt.nf ?_⟩
 conv=>whnf
 refine S_wk [] rfl (wk_gro0 (b:=11) 1 rfl) ?_
 first|refine L_rs ?_|refine L_reg ?_ | skip
 refine eE rfl rfl (EW.cpy (bytes:=8) (i:=0) st intC_ok rfl (by kernel_rfl) rfl rfl rfl rfl rfl (by omega) htk (by decide) (by omega)) ?_
 conv=>whnf
 clear htk hyl hg0
 repeat' (first|refine qN ?_|refine dN ?_|refine dR ?_|refine d0 ?_|refine qB ?_|refine rT ?_|refine qT ?_|refine qU ?_|refine qL ?_|refine qK ?_|refine qF ?_|refine qE ?_|refine iF (fun h=>?_) (fun h=>?_)|refine aX ?_|(refine cF R9 (hO) ?_; conv=>whnf)|refine aA ?_|refine aS ?_|refine aI (hn:=?_)|refine qR ?_|refine qS ?_|exact ⟨rfl,rfl⟩|fail)
 refine LWp.pick [0,52,53,54] [0,1,2,3,4,5,6,7,8,9,12,13] rfl rfl rfl (L_loop (fun q s K=>∃ j:Nat,q=l.length-j∧j≤l.length∧s=[(0,ptr 9),(52,slB 11 l.length),(53,.int .i64 l.length),(54,.int .i64 j)]∧K=RHm (X j).1 gl++RMs (X j).2 (w+1)++[.gro 1 (rowsC intC l)]) l.length ⟨0,rfl,by omega,rfl,by rw [hx0]; rfl⟩ ?_)
 clear hO hys
 rintro q _ _ ⟨j,rfl,hj,rfl,rfl⟩
 first|refine L_seq (L_rs (S_done [] rfl (Nx.goL (iF (fun h=>L_skip (Nx.goL ?_)) (fun h=>L_exit ?_)))))|refine L_rs (S_done [] rfl (Nx.goL (L_seq (iF (fun h=>L_skip (Nx.goL ?_)) (fun h=>L_exit ?_)))))
 ·have hj2:j<l.length:=by omega
  have hg:l[j]?=some l[j]:=List.getElem?_eq_getElem hj2
  have hs:=hxs j hj2
  have hI2:=hxi j
  have hl2:=hxl j
  generalize l[j]=a at *
  clear hxs hxi hxl hx0 hin
  generalize X j=Y at *
  obtain ⟨m1,st1⟩:=Y
  simp only at hI2 hl2 hs
  have hN:=rmNote_tr m1 hI2.toHOk gl a st1 (w+1) (by omega)
  repeat' (first|refine qN ?_|refine dN ?_|refine dR ?_|refine d0 ?_|refine qB ?_|refine rT ?_|refine qT ?_|refine qU ?_|refine qL ?_|refine qK ?_|refine qF ?_|refine qE ?_|refine iF (fun h=>?_) (fun h=>?_)|refine aX ?_|refine S_Q [] rfl rfl (QY.ldI rfl rfl hg) ?_|(refine cW R11 (hN) ?_; conv=>whnf)|refine aA ?_|refine aS ?_|refine aI (hn:=?_)|refine qR ?_|refine qS ?_|exact ⟨rfl,rfl⟩|fail)
  exact Nx.pick [0,52,53,54] [0,1,2,3,4,5,6,7,8,9,10,11] rfl rfl rfl ⟨l.length-(j+1),by omega,j+1,rfl,by omega,rfl,by rw [hs]; rfl⟩
 ·refine Nx.goL ?_
  obtain rfl:j=l.length:=by omega
  generalize X l.length=Y at *
  obtain ⟨m1,st1⟩:=Y
  repeat' (first|refine qN ?_|refine dN ?_|refine dR ?_|refine d0 ?_|refine qB ?_|refine rT ?_|refine qT ?_|refine qU ?_|refine qL ?_|refine qK ?_|refine qF ?_|refine qE ?_|refine iF (fun h=>?_) (fun h=>?_)|refine aX ?_|refine aA ?_|refine aS ?_|refine aI (hn:=?_)|refine qR ?_|refine qS ?_|exact ⟨rfl,rfl⟩|fail)
  exact ⟨congrArg Value.bool (decide_eq_decide.2 (show (st1.length:Int) > 0↔0<st1.length by omega)),rfl⟩
end Go.Proofs.YthmdialagibpfaaGreatDoor
end
section
namespace Go.Proofs.YthmdialagibpfaaGreatDoor
open Go Go.Tum Go.Tum.Base
set_option maxRecDepth 4000
def dRt (n:Nat) (t:Ths):List Value:=[slB 12 t.r0.length,slB 13 t.r1.length,slB 14 t.r2.length].take n
def dSt (n:Nat) (t:Ths):List Value:=[Value.bool t.s0,.bool t.s1,.bool t.s2].take n
def dmV:Kd→Value
 | .w0=>nilP
 | _=>ptr 15
def dsV:Kd→Value
 | .w0=>nilP
 | .m0=>nilP
 | _=>ptr 16
def dTl (kd:Kd) (xs:List Int) (j k w:Nat):LH:=match kd with
 | .m0=>[.cells 0 [ptr 0,slB 17 xs.length,.int .i64 w],.dead,.gro 1 (rowsC intC xs)]
 | .m1=>[.cells 0 [ptr 0,slB 17 xs.length,.int .i64 w],.dead,.gro 1 (rowsC intC xs)]
 | .s=>[.dead,.cells 0 [ptr 0,.slice (some ⟨17,j*1,none⟩) k k,.int .i64 w],.gro 1 (rowsC intC xs)]
 | _=>[.dead,.dead,.dead]
def DY (z n:Nat) (kd:Kd) (m:HM) (gl:List Gb) (t:Ths) (ph a:Int) (ct gn:Nat) (xs:List Int) (j k w:Nat):LH :=
 RHm m gl++[.cells 0 [ptr 0,slB 10 n,slB 11 n,.int .i64 ph,.int .i64 a,dmV kd,dsV kd,.int .i64 ct,.int .i64 gn],.cells z (dSt n t),.cells z (dRt n t),.gro 1 (rowsC intC t.r0),.gro 1 (rowsC intC t.r1),.gro 1 (rowsC intC t.r2)]++dTl kd xs j k w
abbrev D18:List Nat:=[0,1,2,3,4,5,6,7,8,9,10,11,12,13,14,15,16,17]
def rowsDA:List FnRow:=[row_tumbrelref22_Cycle_All,row_tumbrelref22_Cycle_Request]
theorem rowsDA_ok:∀ x∈rowsDA,x.Ok Tryz.prog:=by
 refine List.forall_mem_cons.2 ⟨row_tumbrelref22_Cycle_All_ok,?_⟩
 refine List.forall_mem_cons.2 ⟨row_tumbrelref22_Cycle_Request_ok,?_⟩
 exact fun x hx=>by cases hx
set_option maxHeartbeats 4000000 in
theorem dAll_tr (z n:Nat) (hn:n≤3) (old:Bool) (m:HM) (gl:List Gb) (t:Ths) (ph a:Int) (ct gn:Nat):Tr Tryz.prog 20 [ptr 9] (DY z n (bif old then .w1 else .w0) m gl t ph a ct gn [] 0 0 0) (fun v K=>v=.bool (allT n t)∧K=DY z n (bif old then .w1 else .w0) m gl t ph a ct gn [] 0 0 0):=by
 obtain ⟨s0,s1,s2,r0,r1,r2⟩:=t
 obtain rfl | rfl | rfl | rfl:n=0∨n=1∨n=2∨n=3:=by omega
 all_goals cases old <;> cases s0 <;> cases s1 <;> cases s2
 all_goals exact Tr.runK D18 (fuel:=2000) rowsDA_ok (rawQ1_ok _) (rawE2_ok _) (by kernel_rfl) (by kernel_rfl) (by kernel_rfl) (by kernel_rfl)
theorem dRequest_tr (z n:Nat) (hn:n≤3) (old:Bool) (m:HM) (gl:List Gb) (t:Ths) (a:Int) (ct gn:Nat):Tr Tryz.prog 9 [ptr 9] (DY z n (bif old then .w1 else .w0) m gl t 0 a ct gn [] 0 0 0) (fun v K=>v=undef∧K=DY z n (bif old then .w1 else .w0) m gl t 1 a ct gn [] 0 0 0):=by
 obtain rfl | rfl | rfl | rfl:n=0∨n=1∨n=2∨n=3:=by omega
 all_goals cases old
 all_goals exact Tr.runK D18 (fuel:=2000) rowsDA_ok (rawQ1_ok _) (rawE2_ok _) (by kernel_rfl) (by kernel_rfl) (by kernel_rfl) (by kernel_rfl)
def rowsDS:List FnRow:=[row_tumbrelref22_Cycle_Stop]
theorem rowsDS_ok:∀ x∈rowsDS,x.Ok Tryz.prog:=by
 refine List.forall_mem_cons.2 ⟨row_tumbrelref22_Cycle_Stop_ok,?_⟩
 exact fun x hx=>by cases hx
abbrev KDs:List Nat:=[0,1,2,3,4,5,6,7,8,9,15,16,17]
theorem dStop10 (z:Nat) (hz:z=0∨z=1) (m:HM) (gl:List Gb) (old:Bool) (t:Ths) (ht:t.s0=false) (a:Int) (ct gn:Nat) (x:List Int):TrK Tryz.prog [] KDs 12 [ptr 9,.int .i64 (0:Nat),slB 18 x.length] (DY z 1 (bif old then .w1 else .w0) m gl t 1 a ct gn [] 0 0 0++[.gro 1 (rowsC intC x)])
  (fun v K=>v=.int .i64 0∧K=DY 1 1 (bif old then .w1 else .w0) m gl (stopT t 0 x) 1 a ct gn [] 0 0 0++[.cells 0 []]):=by
 obtain ⟨s0,s1,s2,r0,r1,r2⟩:=t
 obtain rfl:=ht
 obtain rfl | rfl:=hz
 all_goals cases old
 all_goals exact Tr.runK [0,1,2,3,4,5,6,7,8,9,20,22,18,13,14,15,16,17,19] (fuel:=2000) rowsDS_ok (rawQ1_ok _) (rawE2_ok _) (by kernel_rfl) (by kernel_rfl) (by kernel_rfl) (by kernel_rfl)
theorem dStop20 (z:Nat) (hz:z=0∨z=1) (m:HM) (gl:List Gb) (old:Bool) (t:Ths) (ht:t.s0=false) (a:Int) (ct gn:Nat) (x:List Int):TrK Tryz.prog [] KDs 12 [ptr 9,.int .i64 (0:Nat),slB 18 x.length] (DY z 2 (bif old then .w1 else .w0) m gl t 1 a ct gn [] 0 0 0++[.gro 1 (rowsC intC x)])
  (fun v K=>v=.int .i64 0∧K=DY 1 2 (bif old then .w1 else .w0) m gl (stopT t 0 x) 1 a ct gn [] 0 0 0++[.cells 0 []]):=by
 obtain ⟨s0,s1,s2,r0,r1,r2⟩:=t
 obtain rfl:=ht
 obtain rfl | rfl:=hz
 all_goals cases old
 all_goals exact Tr.runK [0,1,2,3,4,5,6,7,8,9,20,22,18,13,14,15,16,17,19] (fuel:=2000) rowsDS_ok (rawQ1_ok _) (rawE2_ok _) (by kernel_rfl) (by kernel_rfl) (by kernel_rfl) (by kernel_rfl)
theorem dStop21 (z:Nat) (hz:z=0∨z=1) (m:HM) (gl:List Gb) (old:Bool) (t:Ths) (ht:t.s1=false) (a:Int) (ct gn:Nat) (x:List Int):TrK Tryz.prog [] KDs 12 [ptr 9,.int .i64 (1:Nat),slB 18 x.length] (DY z 2 (bif old then .w1 else .w0) m gl t 1 a ct gn [] 0 0 0++[.gro 1 (rowsC intC x)])
  (fun v K=>v=.int .i64 0∧K=DY 1 2 (bif old then .w1 else .w0) m gl (stopT t 1 x) 1 a ct gn [] 0 0 0++[.cells 0 []]):=by
 obtain ⟨s0,s1,s2,r0,r1,r2⟩:=t
 obtain rfl:=ht
 obtain rfl | rfl:=hz
 all_goals cases old
 all_goals exact Tr.runK [0,1,2,3,4,5,6,7,8,9,20,22,12,18,14,15,16,17,19] (fuel:=2000) rowsDS_ok (rawQ1_ok _) (rawE2_ok _) (by kernel_rfl) (by kernel_rfl) (by kernel_rfl) (by kernel_rfl)
theorem dStop30 (z:Nat) (hz:z=0∨z=1) (m:HM) (gl:List Gb) (old:Bool) (t:Ths) (ht:t.s0=false) (a:Int) (ct gn:Nat) (x:List Int):TrK Tryz.prog [] KDs 12 [ptr 9,.int .i64 (0:Nat),slB 18 x.length] (DY z 3 (bif old then .w1 else .w0) m gl t 1 a ct gn [] 0 0 0++[.gro 1 (rowsC intC x)])
  (fun v K=>v=.int .i64 0∧K=DY 1 3 (bif old then .w1 else .w0) m gl (stopT t 0 x) 1 a ct gn [] 0 0 0++[.cells 0 []]):=by
 obtain ⟨s0,s1,s2,r0,r1,r2⟩:=t
 obtain rfl:=ht
 obtain rfl | rfl:=hz
 all_goals cases old
 all_goals exact Tr.runK [0,1,2,3,4,5,6,7,8,9,20,22,18,13,14,15,16,17,19] (fuel:=2000) rowsDS_ok (rawQ1_ok _) (rawE2_ok _) (by kernel_rfl) (by kernel_rfl) (by kernel_rfl) (by kernel_rfl)
theorem dStop31 (z:Nat) (hz:z=0∨z=1) (m:HM) (gl:List Gb) (old:Bool) (t:Ths) (ht:t.s1=false) (a:Int) (ct gn:Nat) (x:List Int):TrK Tryz.prog [] KDs 12 [ptr 9,.int .i64 (1:Nat),slB 18 x.length] (DY z 3 (bif old then .w1 else .w0) m gl t 1 a ct gn [] 0 0 0++[.gro 1 (rowsC intC x)])
  (fun v K=>v=.int .i64 0∧K=DY 1 3 (bif old then .w1 else .w0) m gl (stopT t 1 x) 1 a ct gn [] 0 0 0++[.cells 0 []]):=by
 obtain ⟨s0,s1,s2,r0,r1,r2⟩:=t
 obtain rfl:=ht
 obtain rfl | rfl:=hz
 all_goals cases old
 all_goals exact Tr.runK [0,1,2,3,4,5,6,7,8,9,20,22,12,18,14,15,16,17,19] (fuel:=2000) rowsDS_ok (rawQ1_ok _) (rawE2_ok _) (by kernel_rfl) (by kernel_rfl) (by kernel_rfl) (by kernel_rfl)
theorem dStop32 (z:Nat) (hz:z=0∨z=1) (m:HM) (gl:List Gb) (old:Bool) (t:Ths) (ht:t.s2=false) (a:Int) (ct gn:Nat) (x:List Int):TrK Tryz.prog [] KDs 12 [ptr 9,.int .i64 (2:Nat),slB 18 x.length] (DY z 3 (bif old then .w1 else .w0) m gl t 1 a ct gn [] 0 0 0++[.gro 1 (rowsC intC x)])
  (fun v K=>v=.int .i64 0∧K=DY 1 3 (bif old then .w1 else .w0) m gl (stopT t 2 x) 1 a ct gn [] 0 0 0++[.cells 0 []]):=by
 obtain ⟨s0,s1,s2,r0,r1,r2⟩:=t
 obtain rfl:=ht
 obtain rfl | rfl:=hz
 all_goals cases old
 all_goals exact Tr.runK [0,1,2,3,4,5,6,7,8,9,20,22,12,13,18,15,16,17,19] (fuel:=2000) rowsDS_ok (rawQ1_ok _) (rawE2_ok _) (by kernel_rfl) (by kernel_rfl) (by kernel_rfl) (by kernel_rfl)
end Go.Proofs.YthmdialagibpfaaGreatDoor
end
section
namespace Go.Proofs.YthmdialagibpfaaGreatDoor
open Go Go.Tum Go.Tum.Base
set_option maxRecDepth 4000
def rowsDT:List FnRow:=[row_tumbrelref22_Cycle_Step,row_tumbrelref22_Cycle_All]
theorem rowsDT_ok:∀ x∈rowsDT,x.Ok Tryz.prog:=by
 refine List.forall_mem_cons.2 ⟨row_tumbrelref22_Cycle_Step_ok,?_⟩
 refine List.forall_mem_cons.2 ⟨row_tumbrelref22_Cycle_All_ok,?_⟩
 exact fun x hx=>by cases hx
set_option maxHeartbeats 4000000 in
theorem dStep_idle (z n:Nat) (hn:n≤3) (old:Bool) (m:HM) (gl:List Gb) (t:Ths) (a:Int) (ct gn:Nat):Tr Tryz.prog 14 [ptr 9] (DY z n (bif old then .w1 else .w0) m gl t 0 a ct gn [] 0 0 0) (fun v K=>v=.bool false∧K=DY z n (bif old then .w1 else .w0) m gl t 0 a ct gn [] 0 0 0):=by
 obtain rfl | rfl | rfl | rfl:n=0∨n=1∨n=2∨n=3:=by omega
 all_goals cases old
 all_goals exact Tr.runK D18 (fuel:=2000) rowsDT_ok (rawQ1_ok _) (rawE2_ok _) (by kernel_rfl) (by kernel_rfl) (by kernel_rfl) (by kernel_rfl)
set_option maxHeartbeats 4000000 in
theorem dStep_wait (z n:Nat) (hn:n≤3) (old:Bool) (m:HM) (gl:List Gb) (t:Ths) (ht:allT n t=false) (a:Int) (ct gn:Nat):Tr Tryz.prog 14 [ptr 9] (DY z n (bif old then .w1 else .w0) m gl t 1 a ct gn [] 0 0 0) (fun v K=>v=.bool false∧K=DY z n (bif old then .w1 else .w0) m gl t 1 a ct gn [] 0 0 0):=by
 obtain ⟨s0,s1,s2,r0,r1,r2⟩:=t
 obtain rfl | rfl | rfl | rfl:n=0∨n=1∨n=2∨n=3:=by omega
 all_goals cases old <;> cases s0 <;> cases s1 <;> cases s2
 all_goals first
  |exact absurd (show true=false from ht) (by decide)
  |exact Tr.runK D18 (fuel:=2000) rowsDT_ok (rawQ1_ok _) (rawE2_ok _) (by kernel_rfl) (by kernel_rfl) (by kernel_rfl) (by kernel_rfl)
abbrev KDY:List Nat:=[0,1,5,6,9,10,11,12,13,14]
def DZ (z n:Nat) (old:Bool) (m:HM) (gl:List Gb) (t:Ths) (ct gn:Nat):LH :=
 RHm m gl++[.cells 0 [ptr 0,slB 10 n,slB 11 n,.int .i64 (if n=0 then 3 else 2),.int .i64 0,ptr 15,dsV (bif old then .m1 else .m0),.int .i64 ct,.int .i64 gn],.cells z (dSt n t),.cells z (dRt n t),.gro 1 (rowsC intC t.r0),.gro 1 (rowsC intC t.r1),.gro 1 (rowsC intC t.r2),.cells 0 [ptr 0,.slice none 0 0,.int .i64 0],.dead,.dead]
set_option maxHeartbeats 4000000 in
theorem dStep_z (z n:Nat) (hn:n≤3) (old:Bool) (m:HM) (hm:HOk m) (gl:List Gb) (t:Ths) (ht:allT n t=true) (a:Int) (ct gn:Nat):TrK Tryz.prog [] KDY 14 [ptr 9] (DY z n (bif old then .w1 else .w0) m gl t 1 a ct gn [] 0 0 0) (fun v K=>v=.bool true∧K=DZ z n old (unmarkM m) gl t ct gn):=by
 have hU:=rUnmark_tr m hm gl
 have hA:=dAll_tr z n hn old m gl t 1 a ct gn
 rw [ht] at hA
 clear ht
 generalize unmarkM m=m1 at *
 refine Tr.of row_tumbrelref22_Cycle_Step_ok rfl ?_
 obtain rfl | rfl | rfl | rfl:n=0∨n=1∨n=2∨n=3:=by omega
 all_goals cases old
 all_goals
  repeat' (first|refine qN ?_|refine dN ?_|refine d0 ?_|refine qB ?_|refine qT ?_|refine qU ?_|refine qL ?_|refine qK ?_|refine qF ?_|refine qE ?_|refine iF (fun h=>?_) (fun h=>?_)|refine aX ?_|refine cP D18 (hA) ?_|(refine cW R9 (hU) ?_; conv=>whnf)|refine aA ?_|refine aI (hn:=?_)|refine sP 10 (fun h=>?_) (fun h=>?_)|refine sP 16 (fun h=>?_) (fun h=>?_)|refine qR ?_|refine qS ?_|exact ⟨rfl,rfl⟩|fail)
 all_goals first | (exfalso; omega)|exact absurd rfl h|exact L_ret (RetQ.pick [0,1,2,3,4,5,6,7,8,9,10,11,12,13,14,18,16,17] rfl rfl rfl rfl ⟨rfl,rfl⟩)
theorem dStep_begin (z n:Nat) (hn:n≤3) (old:Bool) (m:HM) (hm:HOk m) (gl:List Gb) (t:Ths) (ht:allT n t=true) (a:Int) (ct gn:Nat):TrK Tryz.prog [] KDY 14 [ptr 9] (DY z n (bif old then .w1 else .w0) m gl t 1 a ct gn [] 0 0 0) (fun v K=>v=.bool true∧K=DY z n (bif old then .m1 else .m0) (unmarkM m) gl t (if n=0 then 3 else 2) 0 ct gn [] 0 0 0):=by
 have h:=dStep_z z n hn old m hm gl t ht a ct gn
 obtain rfl | rfl | rfl | rfl:n=0∨n=1∨n=2∨n=3:=by omega
 all_goals cases old
 all_goals exact Tr.pickK [0,1,2,3,4,5,6,7,8,9,10,11,12,13,14,15,16,18] (Tr.nilC 15 1 1 h rfl rfl) rfl rfl rfl rfl
abbrev DMk:List Nat:=[0,1,2,3,4,5,6,7,8,15,17]
abbrev DSw:List Nat:=[16,17,0,1,2,3,4,5,6,7,8]
set_option maxHeartbeats 4000000 in
theorem dStep_root (z n:Nat) (hn:n≤3) (old:Bool) (m:HM) (gl:List Gb) (hI:HI m gl) (t:Ths) (i:Nat) (hi:i<n) (ct gn:Nat) (st:List Int) (w:Nat) (hx6:st.length≤60000) (hr6:(rOf t i).length≤16) :
  TrK Tryz.prog [] KDY 14 [ptr 9] (DY z n (bif old then .m1 else .m0) m gl t 2 i ct gn st 0 0 w)
   (fun v K=>v=.bool true∧K=DY z n (bif old then .m1 else .m0) (rtA (m,st) (rOf t i)).1 gl t (if i+1=n then 3 else 2) (i+1:Nat) ct gn (rtA (m,st) (rOf t i)).2 0 0 w):=by
 rw [← rtL_all]
 have hx0:rtL (m,st) (rOf t i) 0=(m,st):=rfl
 have hxs:=fun j (h:j<(rOf t i).length)=>rtL_succ (m,st) (rOf t i) h
 have hxi:∀ j,HI (rtL (m,st) (rOf t i) j).1 gl:=fun j=>HI.rnotes (x:=(m,st)) hI
 have hxl:=fun j=>rtL_len (m,st) (rOf t i) j
 refine Tr.of row_tumbrelref22_Cycle_Step_ok rfl ?_
 generalize rtL (m,st) (rOf t i)=X at *
 obtain ⟨N,hN⟩:∃ N,N=n:=⟨_,rfl⟩
 obtain ⟨I,hJ⟩:∃ I,I=i:=⟨_,rfl⟩
 obtain ⟨O,hO⟩:∃ O,O=old:=⟨_,rfl⟩
 have hNI:(if i+1=n then 3 else 2:Int)=if I+1=N then 3 else 2:=by rw [hN,hJ]
 rw [hNI]
 clear hNI
 obtain ⟨rfl,rfl⟩ | ⟨rfl,rfl⟩ | ⟨rfl,rfl⟩ | ⟨rfl,rfl⟩ | ⟨rfl,rfl⟩ | ⟨rfl,rfl⟩:(n=1∧i=0)∨(n=2∧i=0)∨(n=2∧i=1)∨(n=3∧i=0)∨(n=3∧i=1)∨(n=3∧i=2):=by omega
 all_goals cases old
 all_goals
  repeat' (first|refine qN ?_|refine dN ?_|refine dR ?_|refine d0 ?_|refine qB ?_|refine rT ?_|refine qT ?_|refine qU ?_|refine qL ?_|refine qK ?_|refine qF ?_|refine qE ?_|refine iF (fun h=>?_) (fun h=>?_)|refine aX ?_|refine aA ?_|refine aI (hn:=?_)|refine sP 10 (fun h=>?_) (fun h=>?_)|refine sP 16 (fun h=>?_) (fun h=>?_)|refine qR ?_|refine qS ?_|exact ⟨rfl,rfl⟩|fail)
  refine LWp.pick [0,68,69,70] D18 rfl rfl rfl (L_loop (fun q s K=>∃ j:Nat,q=(rOf t I).length-j∧j≤(rOf t I).length∧s=[(0,ptr 9),(68,slB (12+I) (rOf t I).length),(69,.int .i64 (rOf t I).length),(70,.int .i64 j)]∧K=DY z N (bif O then .m1 else .m0) (X j).1 gl t 2 I ct gn (X j).2 0 0 w) (rOf t I).length ⟨0,rfl,by omega,by subst hJ; rfl,by subst hN; subst hJ; subst hO; rw [hx0]; rfl⟩ ?_)
  subst hN; subst hJ; subst hO
  clear hx0
  rintro q _ _ ⟨j,rfl,hj,rfl,rfl⟩
  first|refine L_seq (L_rs (S_done [] rfl (Nx.goL (iF (fun h=>L_skip (Nx.goL ?_)) (fun h=>L_exit ?_)))))|refine L_rs (S_done [] rfl (Nx.goL (L_seq (iF (fun h=>L_skip (Nx.goL ?_)) (fun h=>L_exit ?_)))))
  ·have hj2:=Int.ofNat_lt.1 h
   have hg:(rOf t _)[j]?=some (rOf t _)[j]:=List.getElem?_eq_getElem hj2
   have hs:=hxs j hj2
   have hI2:=hxi j
   have hl:=hxl j
   clear hxi hxs hxl
   generalize (rOf t _)[j]=a at *
   generalize X j=Y at *
   obtain ⟨m1,st1⟩:=Y
   simp only at hI2 hl hs
   have hR:=rmRoot_tr m1 hI2.toHOk gl a st1 w (by omega)
   generalize (if a<0∨hasH m1 a=true then 0 else 6:Int)=er at *
   repeat' (first|refine qN ?_|refine dN ?_|refine dR ?_|refine d0 ?_|refine qB ?_|refine rT ?_|refine qT ?_|refine qU ?_|refine qL ?_|refine qK ?_|refine qF ?_|refine qE ?_|refine iF (fun h=>?_) (fun h=>?_)|refine aX ?_|refine S_Q [] rfl rfl (QY.ldI rfl rfl hg) ?_|(refine cW DMk (hR) ?_; conv=>whnf)|refine aA ?_|refine aI (hn:=?_)|refine sP 10 (fun h=>?_) (fun h=>?_)|refine sP 16 (fun h=>?_) (fun h=>?_)|refine qR ?_|refine qS ?_|exact ⟨rfl,rfl⟩|fail)
   exact Nx.pick [0,68,69,70] D18 rfl rfl rfl ⟨_,by omega,j+1,rfl,by omega,rfl,by rw [hs]; rfl⟩
  ·refine Nx.goL ?_
   obtain rfl:j=_:=Nat.le_antisymm hj (by omega)
   clear hxi hxs hxl
   generalize X _=Y at *
   obtain ⟨m1,st1⟩:=Y
   repeat' (first|refine qN ?_|refine dN ?_|refine dR ?_|refine d0 ?_|refine qB ?_|refine rT ?_|refine qT ?_|refine qU ?_|refine qL ?_|refine qK ?_|refine qF ?_|refine qE ?_|refine iF (fun h=>?_) (fun h=>?_)|refine aX ?_|refine aA ?_|refine aI (hn:=?_)|refine sP 10 (fun h=>?_) (fun h=>?_)|refine sP 16 (fun h=>?_) (fun h=>?_)|refine qR ?_|refine qS ?_|exact ⟨rfl,rfl⟩|fail)
   all_goals exact RetQ.end D18 rfl rfl rfl rfl ⟨rfl,rfl⟩
end Go.Proofs.YthmdialagibpfaaGreatDoor
end
section
namespace Go.Proofs.YthmdialagibpfaaGreatDoor
open Go Go.Tum Go.Tum.Base
set_option maxRecDepth 4000
set_option maxHeartbeats 4000000 in
theorem dStep_look (z n:Nat) (hn:n≤3) (old:Bool) (m:HM) (gl:List Gb) (hI:HI m gl) (t:Ths) (a:Int) (ct gn:Nat) (st:List Int) (w i0:Nat) (hi:i0<16*(m.man+m.mgd)) (h6:st.length≤60000) (hw:w≤1000000000) :
  TrK Tryz.prog [] KDY 14 [ptr 9] (DY z n (bif old then .m1 else .m0) m gl t 3 a ct gn (st++[((16*i0:Nat):Int)]) 0 0 w)
   (fun v K=>v=.bool true∧K=DY z n (bif old then .m1 else .m0) (rtA (m,st) (refsF m.bs (16*i0))).1 gl t 3 a ct gn (rtA (m,st) (refsF m.bs (16*i0))).2 0 0 (w+1)):=by
 have hS:=rmStep_ok m gl hI st w i0 hi h6 hw
 have hl:0<(st++[((16*i0:Nat):Int)]).length:=by rw [List.length_append]; exact Nat.succ_pos _
 have hl6:(st++[((16*i0:Nat):Int)]).length≤65536:=by rw [List.length_append]; simp; omega
 generalize rtA (m,st) (refsF m.bs (16*i0))=Y at *
 obtain ⟨m1,st1⟩:=Y
 simp only at hS ⊢
 generalize decide (0<st1.length)=bb at *
 generalize st++[((16*i0:Nat):Int)]=s0 at *
 refine Tr.of row_tumbrelref22_Cycle_Step_ok rfl ?_
 obtain rfl | rfl | rfl | rfl:n=0∨n=1∨n=2∨n=3:=by omega
 all_goals cases old
 all_goals
  repeat' (first|refine qN ?_|refine dN ?_|refine dR ?_|refine d0 ?_|refine qB ?_|refine rT ?_|refine qT ?_|refine qU ?_|refine qL ?_|refine qK ?_|refine qF ?_|refine qE ?_|refine iF (fun h=>?_) (fun h=>?_)|refine aX ?_|refine aA ?_|refine aI (hn:=?_)|refine sP 10 (fun h=>?_) (fun h=>?_)|refine sP 16 (fun h=>?_) (fun h=>?_)|refine qR ?_|refine qS ?_|exact ⟨rfl,rfl⟩|fail)
  all_goals try (exfalso; omega)
  first|refine LSt.drop [0] (LSt.nf ?_)|refine LWp.drop [0] (LWp.nf ?_)
  conv=>whnf
  repeat' (first|refine qN ?_|refine dN ?_|refine dR ?_|refine d0 ?_|refine qB ?_|refine rT ?_|refine qT ?_|refine qU ?_|refine qL ?_|refine qK ?_|refine qF ?_|refine qE ?_|refine iF (fun h=>?_) (fun h=>?_)|refine aX ?_|(refine cW DMk (hS) ?_; conv=>whnf)|refine aA ?_|refine aI (hn:=?_)|refine sP 10 (fun h=>?_) (fun h=>?_)|refine sP 16 (fun h=>?_) (fun h=>?_)|refine qR ?_|refine qS ?_|exact ⟨rfl,rfl⟩|fail)
 all_goals first | (exfalso; omega)|exact RetQ.end D18 rfl rfl rfl rfl ⟨rfl,rfl⟩
set_option maxHeartbeats 4000000 in
theorem dStep_lookno (z n:Nat) (hn:n≤3) (old:Bool) (m:HM) (gl:List Gb) (hm:HOk m) (t:Ths) (a:Int) (ct gn:Nat) (w:Nat) :
  TrK Tryz.prog [] KDY 14 [ptr 9] (DY z n (bif old then .m1 else .m0) m gl t 3 a ct gn [] 0 0 w)
   (fun v K=>v=.bool true∧K=DY z n .s m gl t 4 a ct gn (natI (pagesH m)) 0 (pagesH m).length 0):=by
 have hN:=rsNew_tr m gl hm
 have hnl:=natI_length (pagesH m)
 generalize pagesH m=ps at *
 refine Tr.of row_tumbrelref22_Cycle_Step_ok rfl ?_
 obtain rfl | rfl | rfl | rfl:n=0∨n=1∨n=2∨n=3:=by omega
 all_goals cases old
 all_goals
  repeat' (first|refine qN ?_|refine dN ?_|refine dR ?_|refine d0 ?_|refine qB ?_|refine rT ?_|refine qT ?_|refine qU ?_|refine qL ?_|refine qK ?_|refine qF ?_|refine qE ?_|refine iF (fun h=>?_) (fun h=>?_)|refine aX ?_|refine aA ?_|refine aI (hn:=?_)|refine sP 10 (fun h=>?_) (fun h=>?_)|refine sP 16 (fun h=>?_) (fun h=>?_)|refine qR ?_|refine qS ?_|exact ⟨rfl,rfl⟩|fail)
  all_goals try (exfalso; omega)
  refine S_wk [] rfl (wk_dead 15 rfl) ?_
  repeat' (first|refine qN ?_|refine dN ?_|refine dR ?_|refine d0 ?_|refine qB ?_|refine rT ?_|refine qT ?_|refine qU ?_|refine qL ?_|refine qK ?_|refine qF ?_|refine qE ?_|refine iF (fun h=>?_) (fun h=>?_)|refine aX ?_|(refine cF R9 (hN) ?_; conv=>whnf)|refine aA ?_|refine aI (hn:=?_)|refine sP 10 (fun h=>?_) (fun h=>?_)|refine sP 16 (fun h=>?_) (fun h=>?_)|refine qR ?_|refine qS ?_|exact ⟨rfl,rfl⟩|fail)
 all_goals first | (exfalso; omega)|exact L_ret (RetQ.pick [0,1,2,3,4,5,6,7,8,9,10,11,12,13,14,15,18,19] rfl rfl rfl rfl ⟨rfl,rfl⟩)
set_option maxHeartbeats 4000000 in
theorem dStep_clean (z n:Nat) (hn:n≤3) (m:HM) (gl:List Gb) (hI:HI m gl) (t:Ths) (a:Int) (ct gn:Nat) (xs:List Int) (hx:xs.length≤256) (j c g:Nat) (hg:g≤1000000000) (h:xs.length=j+(c+1)) :
  TrK Tryz.prog [] KDY 14 [ptr 9] (DY z n .s m gl t 4 a ct gn xs j (c+1) g)
   (fun v K=>v=.bool true∧K=DY z n .s (swS m xs j) gl t 4 a ct gn xs (j+1) c (g+swN m xs j)):=by
 have hS:=rsStep_ds m gl hI hx (j:=j) (c:=c) g hg h
 generalize swS m xs j=m1 at *
 generalize swN m xs j=g1 at *
 generalize decide (j+1<xs.length)=bb at *
 refine Tr.of row_tumbrelref22_Cycle_Step_ok rfl ?_
 obtain rfl | rfl | rfl | rfl:n=0∨n=1∨n=2∨n=3:=by omega
 all_goals
  repeat' (first|refine qN ?_|refine dN ?_|refine dR ?_|refine d0 ?_|refine qB ?_|refine rT ?_|refine qT ?_|refine qU ?_|refine qL ?_|refine qK ?_|refine qF ?_|refine qE ?_|refine iF (fun h=>?_) (fun h=>?_)|refine aX ?_|(refine cW DSw (hS) ?_; conv=>whnf)|refine aA ?_|refine aI (hn:=?_)|refine sP 10 (fun h=>?_) (fun h=>?_)|refine sP 16 (fun h=>?_) (fun h=>?_)|refine qR ?_|refine qS ?_|exact ⟨rfl,rfl⟩|fail)
 all_goals first | (exfalso; omega)|exact RetQ.end D18 rfl rfl rfl rfl ⟨rfl,rfl⟩
end Go.Proofs.YthmdialagibpfaaGreatDoor
end
section
namespace Go.Tum
open Go Go.RowKit Go.WideShapes Go.ChangeShapes Go.Deep
instance : Inhabited AV:=⟨.v undef⟩
def AV.val:AV→Value
 | .v u=>u
 | .s a n c _ _=>.slice (some ⟨a.block,a.off,some 0⟩) n c
def AV.still:AV→Bool
 | .v u=>stillS u
 | .s _ _ _ _ _=>true
theorem AV.sr {X:Nat→Prop} {w0:World} {E:Emb}:∀ {a:AV} {y:Value},a.is X w0 y→a.still=true→SR E a.val y
 | .v _,_,h,hs=>by
  have h:_=_:=h
  subst h
  exact SR.still hs
 | .s _ _ _ _ _,_,h,_=>h.1
def rowF (sz:Nat) (F:Nat→List AV):Nat→AV:=fun q=>(F (q / sz)).getD (q % sz) (.v undef)
theorem rowF_at {sz i j:Nat} {F:Nat→List AV} {u:AV} (hl:(F i).length=sz) (hu:(F i)[j]?=some u):rowF sz F (i*sz+j)=u:=by
 have hj:j<sz:=by rw [← hl]; exact (List.getElem?_eq_some_iff.1 hu).1
 have h1:(i*sz+j) / sz=i:=by rw [Nat.mul_comm,Nat.mul_add_div (by omega),Nat.div_eq_of_lt hj,Nat.add_zero]
 have h2:(i*sz+j) % sz=j:=by rw [Nat.mul_comm,Nat.mul_add_mod,Nat.mod_eq_of_lt hj]
 simp [rowF,h1,h2,hu]
theorem rowF_one {F:Nat→List AV} {i:Nat} {u:AV} (h:F i=[u]):rowF 1 F i=u:=by
 have:=rowF_at (sz:=1) (i:=i) (j:=0) (F:=F) (u:=u) (by rw [h]; rfl) (by rw [h]; rfl)
 simpa using this
theorem L2.ofIdx {R:Value→Value→Prop}:∀ {x y:List Value},x.length=y.length→(∀ (i:Nat) (a b:Value),x[i]?=some a→y[i]?=some b→R a b)→L2 R x y
 | [],[],_,_=>trivial
 | a::x,b::y,h,k=>⟨k 0 a b rfl rfl,L2.ofIdx (Nat.succ.inj h) fun i a b ha hb=>k (i+1) a b ha hb⟩
 | [],_::_,h,_=>by cases h
 | _::_,[],h,_=>by cases h
def NA.Has (n0:NA) (P:Program) (a:AV):Prop:=∀ (X:Nat→Prop) (w0:World) (E0:Emb),n0.Ok P X w0 E0→∃ y,a.is X w0 y
section
variable {P:Program} {n0:NA} {Q:Exit→Env→LH→Prop} {l:Env} {L:LH}
theorem NA.Has.arg {k M p:Nat} {G:Nat→AV} (hA:(k,M,G)∈n0.A) (hp:p<M):n0.Has P (G p):=by
 intro X w0 E0 h0
 obtain ⟨_,hA'⟩:=h0.2.1 _ hA
 obtain ⟨r,_,_,_,h4⟩:=hA' (by simp only; omega)
 obtain ⟨y,_,h6⟩:=h4 p hp
 exact ⟨y,h6⟩
theorem NA.Has.row {k n sz i j:Nat} {F:Nat→List AV} {u:AV} (hA:(k,n*sz,rowF sz F)∈n0.A) (hi:i<n) (hl:(F i).length=sz) (hu:(F i)[j]?=some u):n0.Has P u:=by
 have hj:j<sz:=by rw [← hl]; exact (List.getElem?_eq_some_iff.1 hu).1
 have hlt:i*sz+j<n*sz:=by
  have:(i+1)*sz≤n*sz:=Nat.mul_le_mul_right _ hi
  rw [Nat.add_mul] at this; omega
 have:=NA.Has.arg (P:=P) hA hlt
 rwa [rowF_at hl hu] at this
theorem QY.rowF {x:Operand} {k o n sz j:Nat} {F:Nat→List AV} (i:Nat) (hx:lv l x=some (.pointer (some ⟨k,o,none⟩))) (hA:n0.A[j]?=some (k,n*sz,Go.Tum.rowF sz F)) (ho:o=i*sz) (hi:i<n) (hl:(F i).length=sz) (hs:(F i).all AV.still=true):QY P n0 L l (.ldn x sz) (.agg ⟨(F i).map AV.val⟩):=by
 intro X w0 E0 w E l' h0 hE hR hl'
 obtain ⟨_,h1,a',rfl,_,r,hr,rfl⟩:=lv_ev hl' hx
 have hr:E[k]?=some r:=hr
 subst ho
 obtain ⟨ys,hys⟩:=choose_lt (n:=sz) (p:=fun j' (y:Value)=>w.cell? ⟨r.1,r.2.1+(i*sz+j'),none⟩=some y∧(Go.Tum.rowF sz F (i*sz+j')).is X w0 y) fun j' hj'=>by
  have hlt:i*sz+j'<n*sz:=by
   have:(i+1)*sz≤n*sz:=Nat.mul_le_mul_right _ hi
   rw [Nat.add_mul] at this; omega
  obtain ⟨r',y,h2,h3,h4⟩:=arg_cell h0 hE hR (List.mem_of_getElem? hA) hlt
  rw [hr] at h2; cases h2
  exact ⟨y,h3,h4⟩
 refine ⟨.agg ⟨(List.range sz).map ys⟩,⟨_,⟨(List.range sz).map ys⟩,h1,by simp,fun j' hj'=>?_,rfl⟩,⟨_,rfl,L2.ofIdx (by simp [hl]) fun j' a b ha hb=>?_⟩⟩
 ·rw [add_none,List.getElem?_toArray,List.getElem?_map,List.getElem?_range hj']
  show _=some (ys j')
  rw [← (hys j' hj').1]
  congr 2; show i*sz+r.2.1+j'=_; omega
 ·have hj':j'<sz:=by
   have:=(List.getElem?_eq_some_iff.1 hb).1
   rw [List.length_map,List.length_range] at this
   exact this
  rw [List.getElem?_map,List.getElem?_range hj'] at hb
  cases hb
  have hu:(F i)[j']?=some ((F i)[j']'(by omega)):=List.getElem?_eq_getElem (by omega)
  rw [List.getElem?_map,hu] at ha
  cases ha
  have h4:=(hys j' hj').2
  rw [rowF_at hl hu] at h4
  exact AV.sr h4 (List.all_eq_true.1 hs _ (List.getElem_mem _))
theorem argR_cell {X:Nat→Prop} {w0 w:World} {E0 E:Emb} {a:Addr} {n c m:Nat} {get:Nat→AV} (h0:n0.Ok P X w0 E0) (hR:Rep X w0 E L w) (h:n0.Has P (.s a n c m get)) {i:Nat} (hi:i<m) :
  ∃ y,w.cell? ⟨a.block,a.off+i,none⟩=some y∧(get i).is X w0 y:=by
 obtain ⟨y,h3⟩:=h X w0 E0 h0
 obtain ⟨h4,h5,h6⟩:=h3.2 (by omega)
 obtain ⟨y',h7,h8⟩:=h6 i hi
 exact ⟨y',by rw [← h7]; simp only [World.cell?,hR.fr.keep _ h4 h5],h8⟩
theorem QY.idxR {x i:Operand} {b o s n c k sz:Nat} {kd:IntKind} (hx:lv l x=some (.slice (some ⟨b,o,some s⟩) n c)) (hi:lv l i=some (.int kd (k:Int))) (h1:k<n):QY P n0 L l (.idx x i sz) (.pointer (some ⟨b,o+k*sz,some s⟩)):=by
 intro X w0 E0 w E l' h0 hE hR hl
 obtain ⟨_,g1,rfl | ⟨h2,_,_⟩⟩:=lv_ev hl hx
 rotate_left
 ·omega
 obtain ⟨_,g5,rfl⟩:=lv_ev hl hi
 refine ⟨_,⟨_,n,_,kd,(k:Int),g1,g5,by omega,by omega,rfl⟩,?_⟩
 rw [add_none]
 rfl
theorem QY.ldR {x:Operand} {b o s q:Nat} {n c m:Nat} {get:Nat→AV} {u:AV} (hx:lv l x=some (.pointer (some ⟨b,o,some s⟩))) (h:n0.Has P (.s ⟨b,q,none⟩ n c m get)) (i:Nat) (ho:o=q+i) (hi:i<m) (hu:get i=u) (hs:u.still=true):QY P n0 L l (.ld x) u.val:=by
 intro X w0 E0 w E l' h0 hE hR hl
 obtain ⟨_,h1,h2⟩:=lv_ev hl hx
 have h2:_=Value.pointer (some ⟨b,o,none⟩):=h2
 subst h2
 obtain ⟨y,h3,h4⟩:=argR_cell h0 hR h hi
 rw [hu] at h4
 subst ho
 exact ⟨y,⟨_,h1,h3⟩,(AV.sr h4 hs).vr⟩
end
inductive CN where
 | c (k:CK)
 | s (ks:List CN)
def CnOk:Nat→CN→AV→Prop
 | 0,_,_=>False
 | _+1,.c k,a=>∃ v,a=.v v∧CkOk k v
 | d+1,.s ks,a=>∃ b o n c F,a=.s ⟨b,o,none⟩ n c (n*ks.length) (rowF ks.length F)∧n≤c∧c≤9223372036854775807∧∀ i,i<n→(F i).length=ks.length∧∀ (j:Nat) (k:CN),ks[j]?=some k→∃ a',(F i)[j]?=some a'∧CnOk d k a'
def nestF (P:Program) (g:TypeId→Option (List CN)):List Field→Nat→Option (List CN)
 | [],_=>some []
 | f::fs,off=>match g f.type with
  | some ks=>if f.offset=off∧P.cellsOf f.type=ks.length then (match nestF P g fs (off+ks.length) with
   | some r=>some (ks++r)
   | none=>none) else none
  | none=>none
def nest (P:Program):Nat→TypeId→Option (List CN)
 | 0,_=>none
 | d+1,t=>match P.underlying t with
  | some (.int k)=>some [.c (some k)]
  | some .bool=>some [.c none]
  | some (.slice e)=>match nest P d e with
   | some ks=>if P.cellsOf e=ks.length∧0<ks.length then some [.s ks] else none
   | none=>none
  | some (.struct fs)=>match nestF P (nest P d) fs.toList 0 with
   | some ks=>if P.cellsOf t=ks.length then some ks else none
   | none=>none
  | _=>none
theorem CnOk.up:∀ {d:Nat} {k:CN} {a:AV},CnOk d k a→CnOk (d+1) k a
 | 0,_,_,h=>h.elim
 | _+1,.c _,_,h=>h
 | d+1,.s ks,a,h=>by
  obtain ⟨b,o,n,c,F,h1,h2,h3,h4⟩:=h
  exact ⟨b,o,n,c,F,h1,h2,h3,fun i hi=>⟨(h4 i hi).1,fun j k hk=>let ⟨a',g1,g2⟩:=(h4 i hi).2 j k hk; ⟨a',g1,g2.up⟩⟩⟩
section
variable {H:Type} {enc:TypeId × Value→H} {P:Program} {w:World}
def FitN (d:Nat) (w:World) (ks:List CN) (cs:List Value):Prop:=cs.length=ks.length∧∀ (i:Nat) (k:CN),ks[i]?=some k→∃ v a,cs[i]?=some v∧CnOk d k a∧a.is (fun _=>False) w v
theorem nestF_fits {d:Nat} {g:TypeId→Option (List CN)} {fuel:Nat} (hg:∀ t ks,g t=some ks→∀ cs x,DataW.trod enc P w 0 (fun _=>true) true fuel t cs=some x→FitN d w ks cs) :
  ∀ (fs:List Field) (off:Nat) (ks:List CN) (cs:List Value) (xs:List (DataW H × List MemPlace)),nestF P g fs off=some ks→fs.mapM (fun f=>DataW.trod enc P w 0 (fun _=>true) true fuel f.type ((cs.drop f.offset).take (P.cellsOf f.type)))=some xs →
   ∀ (i:Nat) (k:CN),ks[i]?=some k→∃ v a,cs[off+i]?=some v∧CnOk d k a∧a.is (fun _=>False) w v
 | [],off,ks,cs,xs,h,_,i,k,hk=>by simp only [nestF,Option.some.injEq] at h; subst h; simp at hk
 | f::fs,off,ks,cs,xs,h,hm,i,k,hk=>by
  simp only [nestF] at h
  cases h1:g f.type with
  | none=>rw [h1] at h; cases h
  | some k1 =>
   rw [h1] at h
   simp only at h
   split at h
   ·rename_i hc
    cases h2:nestF P g fs (off+k1.length) with
    | none=>rw [h2] at h; cases h
    | some k2 =>
     rw [h2] at h; cases h
     simp only [List.mapM_cons,Option.bind_eq_bind,Option.bind_eq_some_iff] at hm
     obtain ⟨x,hx,ys,hys,_⟩:=hm
     have hfit:=hg f.type k1 h1 _ _ hx
     by_cases hi:i<k1.length
     ·rw [List.getElem?_append_left hi] at hk
      obtain ⟨v,a,hv,hok⟩:=hfit.2 i k hk
      rw [List.getElem?_take] at hv
      split at hv
      ·rw [List.getElem?_drop,hc.1] at hv; exact ⟨v,a,hv,hok⟩
      ·cases hv
     ·rw [List.getElem?_append_right (by omega)] at hk
      obtain ⟨v,a,hv,hok⟩:=nestF_fits hg fs (off+k1.length) k2 cs ys h2 hys (i-k1.length) k hk
      exact ⟨v,a,by rw [show off+i=off+k1.length+(i-k1.length) by omega]; exact hv,hok⟩
   ·cases h
theorem fits_row {d:Nat} {ks:List CN} {cs:List Value} (h:FitN d w ks cs):∃ L:List AV,L.length=ks.length∧∀ (j:Nat) (k:CN),ks[j]?=some k→∃ v a,cs[j]?=some v∧L[j]?=some a∧CnOk d k a∧a.is (fun _=>False) w v:=by
 obtain ⟨f,hf⟩:=choose_lt (n:=ks.length) (p:=fun j (a:AV)=>∀ k,ks[j]?=some k→∃ v,cs[j]?=some v∧CnOk d k a∧a.is (fun _=>False) w v) fun j hj=>by
  obtain ⟨v,a,h1,h2,h3⟩:=h.2 j _ (List.getElem?_eq_getElem hj)
  refine ⟨a,fun k hk=>?_⟩
  rw [List.getElem?_eq_getElem hj] at hk; cases hk
  exact ⟨v,h1,h2,h3⟩
 refine ⟨(List.range ks.length).map f,by simp,fun j k hk=>?_⟩
 have hj:=(List.getElem?_eq_some_iff.1 hk).1
 obtain ⟨v,h1,h2,h3⟩:=hf j hj k hk
 exact ⟨v,f j,h1,by rw [List.getElem?_map,List.getElem?_range hj]; rfl,h2,h3⟩
theorem slice_av {d:Nat} {e:TypeId} {ks:List CN} {a:Addr} {len m nn:Nat} {D:Nat→DataW H} {Pl:Nat→List MemPlace} (hc:P.cellsOf e=ks.length) (hpos:0<ks.length) (hlm:len≤m)
  (hel:∀ i,i<m→∃ cs',w.cells? 0 (a.add (i*P.cellsOf e)) (P.cellsOf e)=some cs'∧DataW.trod enc P w 0 (fun _=>true) true nn e cs'=some (D i,Pl i))
  (hg:∀ cs x,DataW.trod enc P w 0 (fun _=>true) true nn e cs=some x→FitN d w ks cs) :
  ∃ F:Nat→List AV,(0<m→a.spot=none∧a.block<w.heap.size)∧(∀ i,i<m→(F i).length=ks.length∧∀ (j:Nat) (k:CN),ks[j]?=some k→∃ a',(F i)[j]?=some a'∧CnOk d k a') ∧
   ∀ i,i<m*ks.length→∃ y,w.cell? ⟨a.block,a.off+i,none⟩=some y∧(rowF ks.length F i).is (fun _=>False) w y:=by
 obtain ⟨get,hget⟩:=choose_lt (n:=m) (p:=fun i cs'=>w.cells? 0 (a.add (i*P.cellsOf e)) (P.cellsOf e)=some cs'∧DataW.trod enc P w 0 (fun _=>true) true nn e cs'=some (D i,Pl i)) hel
 obtain ⟨F,hF⟩:=choose_lt (n:=m) (p:=fun i (L:List AV)=>L.length=ks.length∧∀ (j:Nat) (k:CN),ks[j]?=some k→∃ v a,(get i)[j]?=some v∧L[j]?=some a∧CnOk d k a∧a.is (fun _=>False) w v) fun i hi=>fits_row (hg _ _ (hget i hi).2)
 obtain ⟨b,o,sp⟩:=a
 have hcell:∀ i,i<m→∀ (j:Nat) (u:Value),(get i)[j]?=some u→w.cell? ((⟨b,o,sp⟩:Addr).add (i*ks.length+j))=some u:=by
  intro i hi j u hu
  have:=(cells_cell (hget i hi).1).2 j u hu
  rw [add_add,hc] at this
  exact this
 have h00:0<m→sp=none∧b<w.heap.size:=by
  intro hm
  obtain ⟨v,_,hv,_⟩:=(hF 0 hm).2 0 _ (List.getElem?_eq_getElem hpos)
  have:=hcell 0 hm 0 v hv
  simp only [Nat.zero_mul,Nat.add_zero,Addr.add,if_true] at this
  have hsp:sp=none:=by
   cases sp with
   | none=>rfl
   | some x =>
    unfold World.cell? at this
    split at this
    ·simp at this
    ·cases this
  subst hsp
  refine ⟨rfl,?_⟩
  unfold World.cell? at this
  split at this
  ·rename_i hq; exact (Array.getElem?_eq_some_iff.1 hq).1
  ·cases this
 refine ⟨F,h00,fun i hi=>⟨(hF i hi).1,fun j k hk=>let ⟨v,a,_,h2,h3,_⟩:=(hF i hi).2 j k hk; ⟨a,h2,h3⟩⟩,fun i hi=>?_⟩
 have hdiv:i / ks.length<m:=Nat.div_lt_of_lt_mul (by rw [Nat.mul_comm]; exact hi)
 have hmod:i % ks.length<ks.length:=Nat.mod_lt _ hpos
 have hm:0<m:=Nat.lt_of_le_of_lt (Nat.zero_le _) hdiv
 obtain ⟨rfl,_⟩:=h00 hm
 obtain ⟨v,a,h1,h2,h3,h4⟩:=(hF _ hdiv).2 (i % ks.length) _ (List.getElem?_eq_getElem hmod)
 refine ⟨v,?_,?_⟩
 ·have:=hcell _ hdiv _ v h1
  rw [add_none,Nat.mul_comm,Nat.div_add_mod] at this
  exact this
 ·have:=rowF_at (F:=F) (i:=i / ks.length) (hF _ hdiv).1 h2
  rw [Nat.mul_comm,Nat.div_add_mod] at this
  rw [this]; exact h4
theorem nest_fits:∀ (d:Nat) (t:TypeId) (ks:List CN),nest P d t=some ks→∀ (fuel:Nat) (cs:List Value) (x:DataW H × List MemPlace),DataW.trod enc P w 0 (fun _=>true) true fuel t cs=some x→FitN d w ks cs:=by
 intro d
 induction d with
 | zero=>intro t ks h; cases h
 | succ d ih =>
  intro t ks h fuel cs x hx
  cases fuel with
  | zero=>cases hx
  | succ fuel =>
   simp only [nest] at h
   cases hu:P.underlying t with
   | none=>rw [hu] at h; cases h
   | some u =>
    rw [hu] at h
    cases u <;> simp only [reduceCtorEq] at h
    case int k =>
     cases h
     obtain ⟨n,e0,_,wn⟩:=DataW.trod_int hu hx
     subst e0
     refine ⟨rfl,fun i k' hk=>?_⟩
     cases i with
     | zero=>simp at hk; subst hk; exact ⟨_,.v _,rfl,⟨_,rfl,n,rfl,wn⟩,rfl⟩
     | succ i=>simp at hk
    case bool =>
     cases h
     obtain ⟨b,e0,_⟩:=DataW.trod_bool hu hx
     subst e0
     refine ⟨rfl,fun i k' hk=>?_⟩
     cases i with
     | zero=>simp at hk; subst hk; exact ⟨_,.v _,rfl,⟨_,rfl,b,rfl⟩,rfl⟩
     | succ i=>simp at hk
    case slice e =>
     cases hn:nest P d e with
     | none=>rw [hn] at h; cases h
     | some k1 =>
      rw [hn] at h
      simp only at h
      split at h
      rotate_left
      ·cases h
      rename_i hc
      cases h
      rcases open_slice hu hx with ⟨h0,_⟩ | ⟨a,len,cap,m,nn,D,Pl,h0,_,hl,hm,hmm,_,hel⟩
      ·subst h0
       refine ⟨rfl,fun i k' hk=>?_⟩
       cases i with
       | succ i=>simp at hk
       | zero =>
        simp at hk; subst hk
        exact ⟨_,.s ⟨0,0,none⟩ 0 0 (0*k1.length) (rowF k1.length fun _=>[]),rfl,⟨0,0,0,0,fun _=>[],rfl,by omega,by omega,fun i hi=>absurd hi (by omega)⟩,   .inr ⟨rfl,rfl,_,rfl⟩,fun h0=>absurd h0 (by omega)⟩
      ·subst h0
       have hm':m=cap:=by rw [hmm]; simp
       subst hm'
       have hmax:m≤9223372036854775807:=by unfold maxLen at hm; omega
       obtain ⟨F,h1,h2,h3⟩:=slice_av (d:=d) hc.1 hc.2 hl hel fun cs x hx=>ih e k1 hn nn cs x hx
       refine ⟨rfl,fun i k' hk=>?_⟩
       cases i with
       | succ i=>simp at hk
       | zero =>
        simp at hk; subst hk
        obtain ⟨b,o,sp⟩:=a
        rcases Nat.eq_zero_or_pos m with h0 | h0
        ·subst h0
         obtain rfl:len=0:=by omega
         exact ⟨_,.s ⟨b,o,none⟩ 0 0 (0*k1.length) (rowF k1.length fun _=>[]),rfl,⟨b,o,0,0,fun _=>[],rfl,by omega,by omega,fun i hi=>absurd hi (by omega)⟩,.inr ⟨rfl,rfl,_,rfl⟩,fun h0=>absurd h0 (by omega)⟩
        ·obtain ⟨rfl,hb⟩:=h1 h0
         have hle:len*k1.length≤m*k1.length:=Nat.mul_le_mul_right _ hl
         exact ⟨_,.s ⟨b,o,none⟩ len m (len*k1.length) (rowF k1.length F),rfl,⟨b,o,len,m,F,rfl,hl,hmax,fun i hi=>h2 i (by omega)⟩,.inl rfl,fun _=>⟨hb,fun x=>x,fun i hi=>h3 i (by omega)⟩⟩
    case struct fs =>
     cases hf:nestF P (nest P d) fs.toList 0 with
     | none=>rw [hf] at h; cases h
     | some k1 =>
      rw [hf] at h
      simp only at h
      split at h
      ·rename_i hc
       cases h
       have hx':(if cs.length=P.cellsOf t then (fs.toList.mapM fun f=>DataW.trod enc P w 0 (fun _=>true) true fuel f.type ((cs.drop f.offset).take (P.cellsOf f.type))).map fun xs=>((DataW.agg (xs.map (·.1)),xs.flatMap (·.2)):DataW H × List MemPlace) else none)=some x:=by
        rw [← hx]; simp only [DataW.trod,hu]
       split at hx'
       ·rename_i hl
        rw [Option.map_eq_some_iff] at hx'
        obtain ⟨xs,hxs,_⟩:=hx'
        refine ⟨by rw [hl,hc],fun i k hk=>?_⟩
        obtain ⟨v,a,h1,h2,h3⟩:=nestF_fits (enc:=enc) (w:=w) (fuel:=fuel) (fun t ks h cs x hx=>ih t ks h fuel cs x hx) fs.toList 0 _ cs xs hf hxs i k hk
        exact ⟨v,a,by simpa using h1,h2.up,h3⟩
       ·cases hx'
      ·cases h
def SlInN (w:World) (sz:Nat) (v:Value) (n:Nat) (F:Nat→List AV):Prop :=
 n≤9223372036854775807∧∃ r:Nat × Nat × Nat,∀ (E:Emb) (k:Nat),E[k]?=some r→VR E (.slice (some ⟨k,0,none⟩) n n) v∧ArgAt (fun _=>False) w E k (n*sz) (rowF sz F)
theorem open_inN {t e:TypeId} {d:Nat} {ks:List CN} {v:Value} {dd:DataW H} {p:List MemPlace} (ht:P.underlying t=some (.slice e)) (hk:nest P d e=some ks) (hc:P.cellsOf e=ks.length) (hpos:0<ks.length)
  (hv:∃ a len cap,v=.slice a len cap) (h:DataW.Trod enc P w 0 (fun _=>true) true t v dd p):∃ n F,SlInN w ks.length v n F∧∀ i,i<n→(F i).length=ks.length∧∀ (j:Nat) (k:CN),ks[j]?=some k→∃ a,(F i)[j]?=some a∧CnOk d k a:=by
 obtain ⟨a0,len,cap,rfl⟩:=hv
 obtain ⟨fuel,hf⟩:=h
 have hf':DataW.trod enc P w 0 (fun _=>true) true fuel t [.slice a0 len cap]=some (dd,p):=hf
 rcases open_slice ht hf' with ⟨h0,_⟩ | ⟨a,len',cap',m,nn,D,Pl,h0,_,hl,hm,hmm,hx,hel⟩
 ·cases h0
  exact ⟨0,fun _=>[],⟨by omega,(0,0,0),fun E k hE=>⟨⟨rfl,_,hE,.inr ⟨rfl,rfl,_,rfl⟩⟩,fun h0=>by omega⟩⟩,fun i hi=>absurd hi (by omega)⟩
 ·cases h0
  have hm':m=cap:=by rw [hmm]; simp
  subst hm'
  have hmax:len≤9223372036854775807:=by unfold maxLen at hm; omega
  obtain ⟨F,h1,h2,h3⟩:=slice_av (d:=d) hc hpos hl hel fun cs x hx=>nest_fits d e ks hk nn cs x hx
  obtain ⟨b,o,sp⟩:=a
  rcases Nat.eq_zero_or_pos m with hm0 | hm0
  ·subst hm0
   have hl0:len=0:=by omega
   subst hl0
   exact ⟨0,F,⟨by omega,(0,0,0),fun E k hE=>⟨⟨rfl,_,hE,.inr ⟨rfl,rfl,_,rfl⟩⟩,fun h0=>by omega⟩⟩,fun i hi=>absurd hi (by omega)⟩
  ·obtain ⟨rfl,hb⟩:=h1 hm0
   have hle:len*ks.length≤m*ks.length:=Nat.mul_le_mul_right _ hl
   exact ⟨len,F,⟨hmax,(b,o,m-len),fun E k hE=>⟨⟨rfl,_,hE,.inl ⟨_,_,rfl,.inl ⟨by simp,by simp; omega⟩⟩⟩,fun h0=>⟨_,hE,hb,fun x=>x,fun i hi=>h3 i (by omega)⟩⟩⟩,fun i hi=>h2 i (by omega)⟩
end
end Go.Tum
end
section
namespace Go.Tum
open Go
section
variable {P:Program} {n0:NA} {l l1:Env} {L L1 Lc:LH} {T T1:Taken} {K:Env→LH→Prop} {ss r:List Step} {d:Option Nat} {g:Option (Nat × Bool)} {pend:List Nat}
theorem S_EdK {eo:EOp} (ks:List Nat) {fr dr:List Nat} {R:Value→LH→Prop} (h:arun [] ss l T L=(.e d g eo pend::r,l1,T1,L1)) (hg:gw g l1=some true) (hw:EWd P n0 fr dr L1 l1 eo R) (hd:disj dr n0.keep=true) (hn:nmE dr (repick l1 ks)=true) (ht:nmT dr T1=true) (hk:∀ v L',R v L'→chkG P n0 fr T1 L1 L' pend∧LSt P n0 r K (dpush d v (repick l1 ks)) T1 L'):LSt P n0 ss K l T L:=by
 refine arun_ok [] ss l T L h ⟨fun X w0 E0 w E l' F h0 hE hR hl hT=>?_⟩
 simp only [stepsWp]
 refine gw_ok hl hg (fun _=>?_) (fun e=>by cases e)
 refine hw X w0 E0 w E l' _ h0 hE hR hl fun w' E' v' v L' hr h1 hL h2 h3=>?_
 obtain ⟨hc,hn'⟩:=hk v L' hr
 have hE':n0.Ext E0 E':=fun k r hk hr=>h1 k r (disj_ok hd hk) (hE k r hk hr)
 exact ⟨chkG_ok h0 hE' hL h2 hT (hT.extD h1 ht) _ hc,hn'.go X w0 E0 w' E' _ _ h0 hE' h2 (((hl.repick ks).extD h1 hn).dpush h3 d) (hT.extD h1 ht)⟩
end
end Go.Tum
end
section
namespace Go.Tum
open Go
section
variable {P:Program} {n0:NA} {l:Env} {L:LH}
theorem jgo_length (φ:List Nat) (xs:LH):∀ (M:LH) (i:Nat),(jgo φ xs i M).length=M.length
 | [],_=>rfl
 | _::r,i=>by simp [jgo,jgo_length φ xs r (i+1)]
theorem TrK.frame {keep keep2:List Nat} {f:FuncId} {us vs:List Value} {Lc K1 K2:LH} {v1 v2:Value} (φ:List Nat) (ht:TrK P [] keep f us Lc (fun v K=>v=v1∧K=K1)) (he:us.map (rnV L.length φ)=vs) (h1:φ.Nodup) (h2:partL L φ φ Lc) (hm:nmL (dropped keep 0 φ) φ 0 L=true)
  (h3:rnV (L.length+K1.length) (phi2 φ L.length K1) v1=v2) (h4:joinQ φ L K1=K2) (hk:disj (dropped keep 0 φ) keep2=true):TrK P [] keep2 f vs L (fun v K=>v=v2∧K=K2):=by
 intro X w0 w E vs' hA hR hv
 have h5:L2 (VR (subE E φ)) us vs':=by
  subst he
  rw [← hR.len] at hv
  exact L2.sub (f:=rnV E.length φ) (fun _ _ h=>VR.sub h) hv
 refine call_core (n0:=NA.mk L.length [] keep2) (E0:=E) ht (Part.of h1 h2) handed_nil hm hA (NA.Ext.refl _ _) hR h5 ?_
 rintro w' E' v' v L' ⟨_,_,⟨rfl,rfl⟩,rfl,rfl⟩ hx _ hR' hv'
 refine ⟨E',_,_,fun k r hk2 hr=>hx k r (disj_ok hk hk2) hr,?_,hv',hR',h3,(joinQ_eq h1).trans h4⟩
 rw [joinQ_eq h1,joinQ,List.length_append,jgo_length]
 omega
theorem dropped_inL {keep:List Nat}:∀ (n a b k:Nat),b≤k→k<b+n→inL (a+(k-b)) keep=false→inL k (dropped keep a (seqN b n))=true
 | 0,a,b,k,h1,h2,_=>by omega
 | n+1,a,b,k,h1,h2,h3=>by
  simp only [seqN,dropped]
  by_cases hk:k=b
  ·subst hk
   rw [Nat.sub_self,Nat.add_zero] at h3
   rw [h3]
   simp [inL]
  ·have:=dropped_inL (keep:=keep) n (a+1) (b+1) k (by omega) (by omega) (by rw [show a+1+(k-(b+1))=a+(k-b) by omega]; exact h3)
   cases inL a keep with
   | true=>simpa using this
   | false=>simp only [cond_false,inL,this]; cases Nat.beq b k <;> rfl
theorem EWd.whole {keep:List Nat} {f:FuncId} {args:List Operand} {vs:List Value} {R:Value→LH→Prop} (ht:TrK P [] keep f vs L R) (hv:lvs l args=some vs):EWd P n0 (seqN 0 L.length) (dropped keep 0 (seqN 0 L.length)) L l (.call f args) R:=by
 intro X w0 E0 w E l' Kf h0 hE hR hl hK
 obtain ⟨vs',h1,h2⟩:=lvs_evs hl hv
 have hc:=ht X w0 w E vs' ⟨hR.len,by simp,h0.2.2⟩ hR h2
 refine ⟨vs',h1,hc.2.mono ?_⟩
 rintro v' w' ⟨E',v,L',g1,g0,g2,g3,g4⟩
 refine hK w' E' v' v L' g4 (fun k r hk hr=>?_) (fun k x r b hk hx _ _=>?_) g3 g2
 ·refine g1 k r ?_ hr
  have hkl:k<L.length:=by rw [← hR.len]; exact (List.getElem?_eq_some_iff.1 hr).1
  cases hq:inL k keep with
  | true=>rfl
  | false =>
   have:=dropped_inL (keep:=keep) L.length 0 0 k (by omega) (by omega) (by simpa using hq)
   rw [hk] at this; cases this
 ·have hkl:k<L.length:=(List.getElem?_eq_some_iff.1 hx).1
  have:=seqN_get L.length 0 k hkl
  rw [Nat.zero_add] at this
  have:=inL_mem.2 (List.mem_of_getElem? this)
  rw [hk] at this; cases this
end
section
variable {P:Program} {n0:NA} {l:Env} {L:LH}
theorem EW.ofM {o:Oper} {x y:Operand} {v:Value} {L':LH} (sT:TypeId) (N:Nat) (ho:o.op=.makeSlice sT x y) (hl:L.length=N) (h:le (fun _ _ _=>none) (rawE2 P) L l (.raw o)=some (v,L')):EW P n0 L l (.raw o) (fun u K=>u=v∧K=L') :=
 (fun (_:o.op=.makeSlice sT x y) (_:L.length=N)=>EW.of h) ho hl
theorem TrK.fewer {keep keep':List Nat} {f:FuncId} {us:List Value} {R:Value→LH→Prop} (h:TrK P [] keep f us L R) (hk:(keep'.all fun k=>inL k keep)=true):TrK P [] keep' f us L R:=by
 intro X w0 w E vs' hA hR hv
 obtain ⟨h1,h2⟩:=h X w0 w E vs' ⟨hA.1,by simp,hA.2.2⟩ hR hv
 refine ⟨h1,h2.mono ?_⟩
 rintro v' w' ⟨E',v,L',g1,g0,g2,g3,g4⟩
 exact ⟨E',v,L',fun k r hq hr=>g1 k r (List.all_eq_true.1 hk k (inL_mem.1 hq)) hr,g0,g2,g3,g4⟩
end
end Go.Tum
end
section
namespace Go.Proofs.YthmdialagibpfaaGreatDoor
open Go Go.Tum Go.Tum.Base
set_option maxRecDepth 4000
abbrev tBo:TypeId:=48
abbrev tRo:TypeId:=49
abbrev bls (n:Nat):LB:=.cells 0 (List.replicate n (.bool false))
abbrev nls (n:Nat):LB:=.cells 0 (List.replicate n (.slice none 0 0))
set_option maxHeartbeats 4000000 in
theorem dNew_z (m:HM) (gl:List Gb) (n:Nat) (hn:n≤3):Tr Tryz.prog 7 [ptr 0,.int .i64 n] (RHm m gl) (fun v K=>v=ptr 9∧K=RHm m gl++[.cells 0 [ptr 0,slB 10 n,slB 11 n,.int .i64 0,.int .i64 0,nilP,nilP,.int .i64 0,.int .i64 0],bls n,nls n]):=by
 refine Tr.of row_tumbrelref22_New_ok rfl ?_
 obtain rfl | rfl | rfl | rfl:n=0∨n=1∨n=2∨n=3:=by omega
 ·repeat' (first|refine qN ?_|refine dN ?_|refine d0 ?_|refine qT ?_|refine qU ?_|refine qL ?_|refine qK ?_|refine iF (fun h=>?_) (fun h=>?_)|(refine S_E [] rfl rfl (EW.ofM tBo 9 (v:=slB 9 0) (L':=RHm m gl++[bls 0]) rfl rfl (by kernel_rfl)) ?_; rintro _ _ ⟨rfl,rfl⟩; refine ⟨(by repeat' (first|exact trivial|refine ⟨⟨qsafe_ok (st:=[]) rfl,Sure.of rfl⟩,?_⟩|refine ⟨.inl rfl,?_⟩|refine ⟨.inr ⟨qsafe_ok (st:=[]) rfl,Sure.of rfl⟩,?_⟩|refine ⟨⟨qsafe_ok (st:=[]) rfl,Sure.slice (by omega)⟩,?_⟩|refine ⟨.inr ⟨qsafe_ok (st:=[]) rfl,Sure.slice (by omega)⟩,?_⟩|refine ⟨.inr ⟨QY.neqB rfl (by kernel_rfl) rfl rfl,Sure.of rfl⟩,?_⟩|refine ⟨.inr ⟨QY.eqlB rfl (by kernel_rfl) rfl rfl,Sure.of rfl⟩,?_⟩ | fail)),LSt.nf ?_⟩; conv=>whnf)|(refine S_E [] rfl rfl (EW.ofM tRo 10 (v:=slB 10 0) (L':=RHm m gl++[bls 0,nls 0]) rfl rfl (by kernel_rfl)) ?_; rintro _ _ ⟨rfl,rfl⟩; refine ⟨(by repeat' (first|exact trivial|refine ⟨⟨qsafe_ok (st:=[]) rfl,Sure.of rfl⟩,?_⟩|refine ⟨.inl rfl,?_⟩|refine ⟨.inr ⟨qsafe_ok (st:=[]) rfl,Sure.of rfl⟩,?_⟩|refine ⟨⟨qsafe_ok (st:=[]) rfl,Sure.slice (by omega)⟩,?_⟩|refine ⟨.inr ⟨qsafe_ok (st:=[]) rfl,Sure.slice (by omega)⟩,?_⟩|refine ⟨.inr ⟨QY.neqB rfl (by kernel_rfl) rfl rfl,Sure.of rfl⟩,?_⟩|refine ⟨.inr ⟨QY.eqlB rfl (by kernel_rfl) rfl rfl,Sure.of rfl⟩,?_⟩ | fail)),LSt.nf ?_⟩; conv=>whnf)|(refine S_E [] rfl rfl (EW.ofM tRo 9 (v:=slB 9 0) (L':=RHm m gl++[nls 0]) rfl rfl (by kernel_rfl)) ?_; rintro _ _ ⟨rfl,rfl⟩; refine ⟨(by repeat' (first|exact trivial|refine ⟨⟨qsafe_ok (st:=[]) rfl,Sure.of rfl⟩,?_⟩|refine ⟨.inl rfl,?_⟩|refine ⟨.inr ⟨qsafe_ok (st:=[]) rfl,Sure.of rfl⟩,?_⟩|refine ⟨⟨qsafe_ok (st:=[]) rfl,Sure.slice (by omega)⟩,?_⟩|refine ⟨.inr ⟨qsafe_ok (st:=[]) rfl,Sure.slice (by omega)⟩,?_⟩|refine ⟨.inr ⟨QY.neqB rfl (by kernel_rfl) rfl rfl,Sure.of rfl⟩,?_⟩|refine ⟨.inr ⟨QY.eqlB rfl (by kernel_rfl) rfl rfl,Sure.of rfl⟩,?_⟩ | fail)),LSt.nf ?_⟩; conv=>whnf)|(refine S_E [] rfl rfl (EW.ofM tBo 10 (v:=slB 10 0) (L':=RHm m gl++[nls 0,bls 0]) rfl rfl (by kernel_rfl)) ?_; rintro _ _ ⟨rfl,rfl⟩; refine ⟨(by repeat' (first|exact trivial|refine ⟨⟨qsafe_ok (st:=[]) rfl,Sure.of rfl⟩,?_⟩|refine ⟨.inl rfl,?_⟩|refine ⟨.inr ⟨qsafe_ok (st:=[]) rfl,Sure.of rfl⟩,?_⟩|refine ⟨⟨qsafe_ok (st:=[]) rfl,Sure.slice (by omega)⟩,?_⟩|refine ⟨.inr ⟨qsafe_ok (st:=[]) rfl,Sure.slice (by omega)⟩,?_⟩|refine ⟨.inr ⟨QY.neqB rfl (by kernel_rfl) rfl rfl,Sure.of rfl⟩,?_⟩|refine ⟨.inr ⟨QY.eqlB rfl (by kernel_rfl) rfl rfl,Sure.of rfl⟩,?_⟩ | fail)),LSt.nf ?_⟩; conv=>whnf)|(refine S_E [] rfl rfl (esafe_ok rfl) ?_; rintro _ _ ⟨rfl,rfl⟩; refine ⟨(by repeat' (first|exact trivial|refine ⟨⟨qsafe_ok (st:=[]) rfl,Sure.of rfl⟩,?_⟩|refine ⟨.inl rfl,?_⟩|refine ⟨.inr ⟨qsafe_ok (st:=[]) rfl,Sure.of rfl⟩,?_⟩|refine ⟨⟨qsafe_ok (st:=[]) rfl,Sure.slice (by omega)⟩,?_⟩|refine ⟨.inr ⟨qsafe_ok (st:=[]) rfl,Sure.slice (by omega)⟩,?_⟩|refine ⟨.inr ⟨QY.neqB rfl (by kernel_rfl) rfl rfl,Sure.of rfl⟩,?_⟩|refine ⟨.inr ⟨QY.eqlB rfl (by kernel_rfl) rfl rfl,Sure.of rfl⟩,?_⟩ | fail)),LSt.nf ?_⟩; conv=>whnf)|refine L_rT ?_|refine L_regT ?_|refine P_lin rfl ?_|refine P_A [] rfl ?_ ?_|(refine P_E [] rfl rfl (EW.ofM tBo 9 (v:=slB 9 0) (L':=RHm m gl++[bls 0]) rfl rfl (by kernel_rfl)) ?_; rintro _ _ ⟨rfl,rfl⟩; refine ⟨(by repeat' (first|exact trivial|refine ⟨⟨qsafe_ok (st:=[]) rfl,Sure.of rfl⟩,?_⟩|refine ⟨.inl rfl,?_⟩|refine ⟨.inr ⟨qsafe_ok (st:=[]) rfl,Sure.of rfl⟩,?_⟩|refine ⟨⟨qsafe_ok (st:=[]) rfl,Sure.slice (by omega)⟩,?_⟩|refine ⟨.inr ⟨qsafe_ok (st:=[]) rfl,Sure.slice (by omega)⟩,?_⟩|refine ⟨.inr ⟨QY.neqB rfl (by kernel_rfl) rfl rfl,Sure.of rfl⟩,?_⟩|refine ⟨.inr ⟨QY.eqlB rfl (by kernel_rfl) rfl rfl,Sure.of rfl⟩,?_⟩ | fail)),LPt.nf ?_⟩; conv=>whnf)|(refine P_E [] rfl rfl (EW.ofM tRo 10 (v:=slB 10 0) (L':=RHm m gl++[bls 0,nls 0]) rfl rfl (by kernel_rfl)) ?_; rintro _ _ ⟨rfl,rfl⟩; refine ⟨(by repeat' (first|exact trivial|refine ⟨⟨qsafe_ok (st:=[]) rfl,Sure.of rfl⟩,?_⟩|refine ⟨.inl rfl,?_⟩|refine ⟨.inr ⟨qsafe_ok (st:=[]) rfl,Sure.of rfl⟩,?_⟩|refine ⟨⟨qsafe_ok (st:=[]) rfl,Sure.slice (by omega)⟩,?_⟩|refine ⟨.inr ⟨qsafe_ok (st:=[]) rfl,Sure.slice (by omega)⟩,?_⟩|refine ⟨.inr ⟨QY.neqB rfl (by kernel_rfl) rfl rfl,Sure.of rfl⟩,?_⟩|refine ⟨.inr ⟨QY.eqlB rfl (by kernel_rfl) rfl rfl,Sure.of rfl⟩,?_⟩ | fail)),LPt.nf ?_⟩; conv=>whnf)|(refine P_E [] rfl rfl (EW.ofM tRo 9 (v:=slB 9 0) (L':=RHm m gl++[nls 0]) rfl rfl (by kernel_rfl)) ?_; rintro _ _ ⟨rfl,rfl⟩; refine ⟨(by repeat' (first|exact trivial|refine ⟨⟨qsafe_ok (st:=[]) rfl,Sure.of rfl⟩,?_⟩|refine ⟨.inl rfl,?_⟩|refine ⟨.inr ⟨qsafe_ok (st:=[]) rfl,Sure.of rfl⟩,?_⟩|refine ⟨⟨qsafe_ok (st:=[]) rfl,Sure.slice (by omega)⟩,?_⟩|refine ⟨.inr ⟨qsafe_ok (st:=[]) rfl,Sure.slice (by omega)⟩,?_⟩|refine ⟨.inr ⟨QY.neqB rfl (by kernel_rfl) rfl rfl,Sure.of rfl⟩,?_⟩|refine ⟨.inr ⟨QY.eqlB rfl (by kernel_rfl) rfl rfl,Sure.of rfl⟩,?_⟩ | fail)),LPt.nf ?_⟩; conv=>whnf)|(refine P_E [] rfl rfl (EW.ofM tBo 10 (v:=slB 10 0) (L':=RHm m gl++[nls 0,bls 0]) rfl rfl (by kernel_rfl)) ?_; rintro _ _ ⟨rfl,rfl⟩; refine ⟨(by repeat' (first|exact trivial|refine ⟨⟨qsafe_ok (st:=[]) rfl,Sure.of rfl⟩,?_⟩|refine ⟨.inl rfl,?_⟩|refine ⟨.inr ⟨qsafe_ok (st:=[]) rfl,Sure.of rfl⟩,?_⟩|refine ⟨⟨qsafe_ok (st:=[]) rfl,Sure.slice (by omega)⟩,?_⟩|refine ⟨.inr ⟨qsafe_ok (st:=[]) rfl,Sure.slice (by omega)⟩,?_⟩|refine ⟨.inr ⟨QY.neqB rfl (by kernel_rfl) rfl rfl,Sure.of rfl⟩,?_⟩|refine ⟨.inr ⟨QY.eqlB rfl (by kernel_rfl) rfl rfl,Sure.of rfl⟩,?_⟩ | fail)),LPt.nf ?_⟩; conv=>whnf)|(refine P_E [] rfl rfl (esafe_ok rfl) ?_; rintro _ _ ⟨rfl,rfl⟩; refine ⟨(by repeat' (first|exact trivial|refine ⟨⟨qsafe_ok (st:=[]) rfl,Sure.of rfl⟩,?_⟩|refine ⟨.inl rfl,?_⟩|refine ⟨.inr ⟨qsafe_ok (st:=[]) rfl,Sure.of rfl⟩,?_⟩|refine ⟨⟨qsafe_ok (st:=[]) rfl,Sure.slice (by omega)⟩,?_⟩|refine ⟨.inr ⟨qsafe_ok (st:=[]) rfl,Sure.slice (by omega)⟩,?_⟩|refine ⟨.inr ⟨QY.neqB rfl (by kernel_rfl) rfl rfl,Sure.of rfl⟩,?_⟩|refine ⟨.inr ⟨QY.eqlB rfl (by kernel_rfl) rfl rfl,Sure.of rfl⟩,?_⟩ | fail)),LPt.nf ?_⟩; conv=>whnf)|refine aI (hn:=?_)|refine qR ?_|refine qS ?_|exact ⟨rfl,rfl⟩|fail)
  all_goals first | (exfalso; omega)|exact L_ret (RetQ.pick [0,1,2,3,4,5,6,7,8,11,9,10] rfl rfl rfl rfl ⟨rfl,rfl⟩)|exact L_ret (RetQ.pick [0,1,2,3,4,5,6,7,8,11,10,9] rfl rfl rfl rfl ⟨rfl,rfl⟩)
 ·repeat' (first|refine qN ?_|refine dN ?_|refine d0 ?_|refine qT ?_|refine qU ?_|refine qL ?_|refine qK ?_|refine iF (fun h=>?_) (fun h=>?_)|(refine S_E [] rfl rfl (EW.ofM tBo 9 (v:=slB 9 1) (L':=RHm m gl++[bls 1]) rfl rfl (by kernel_rfl)) ?_; rintro _ _ ⟨rfl,rfl⟩; refine ⟨(by repeat' (first|exact trivial|refine ⟨⟨qsafe_ok (st:=[]) rfl,Sure.of rfl⟩,?_⟩|refine ⟨.inl rfl,?_⟩|refine ⟨.inr ⟨qsafe_ok (st:=[]) rfl,Sure.of rfl⟩,?_⟩|refine ⟨⟨qsafe_ok (st:=[]) rfl,Sure.slice (by omega)⟩,?_⟩|refine ⟨.inr ⟨qsafe_ok (st:=[]) rfl,Sure.slice (by omega)⟩,?_⟩|refine ⟨.inr ⟨QY.neqB rfl (by kernel_rfl) rfl rfl,Sure.of rfl⟩,?_⟩|refine ⟨.inr ⟨QY.eqlB rfl (by kernel_rfl) rfl rfl,Sure.of rfl⟩,?_⟩ | fail)),LSt.nf ?_⟩; conv=>whnf)|(refine S_E [] rfl rfl (EW.ofM tRo 10 (v:=slB 10 1) (L':=RHm m gl++[bls 1,nls 1]) rfl rfl (by kernel_rfl)) ?_; rintro _ _ ⟨rfl,rfl⟩; refine ⟨(by repeat' (first|exact trivial|refine ⟨⟨qsafe_ok (st:=[]) rfl,Sure.of rfl⟩,?_⟩|refine ⟨.inl rfl,?_⟩|refine ⟨.inr ⟨qsafe_ok (st:=[]) rfl,Sure.of rfl⟩,?_⟩|refine ⟨⟨qsafe_ok (st:=[]) rfl,Sure.slice (by omega)⟩,?_⟩|refine ⟨.inr ⟨qsafe_ok (st:=[]) rfl,Sure.slice (by omega)⟩,?_⟩|refine ⟨.inr ⟨QY.neqB rfl (by kernel_rfl) rfl rfl,Sure.of rfl⟩,?_⟩|refine ⟨.inr ⟨QY.eqlB rfl (by kernel_rfl) rfl rfl,Sure.of rfl⟩,?_⟩ | fail)),LSt.nf ?_⟩; conv=>whnf)|(refine S_E [] rfl rfl (EW.ofM tRo 9 (v:=slB 9 1) (L':=RHm m gl++[nls 1]) rfl rfl (by kernel_rfl)) ?_; rintro _ _ ⟨rfl,rfl⟩; refine ⟨(by repeat' (first|exact trivial|refine ⟨⟨qsafe_ok (st:=[]) rfl,Sure.of rfl⟩,?_⟩|refine ⟨.inl rfl,?_⟩|refine ⟨.inr ⟨qsafe_ok (st:=[]) rfl,Sure.of rfl⟩,?_⟩|refine ⟨⟨qsafe_ok (st:=[]) rfl,Sure.slice (by omega)⟩,?_⟩|refine ⟨.inr ⟨qsafe_ok (st:=[]) rfl,Sure.slice (by omega)⟩,?_⟩|refine ⟨.inr ⟨QY.neqB rfl (by kernel_rfl) rfl rfl,Sure.of rfl⟩,?_⟩|refine ⟨.inr ⟨QY.eqlB rfl (by kernel_rfl) rfl rfl,Sure.of rfl⟩,?_⟩ | fail)),LSt.nf ?_⟩; conv=>whnf)|(refine S_E [] rfl rfl (EW.ofM tBo 10 (v:=slB 10 1) (L':=RHm m gl++[nls 1,bls 1]) rfl rfl (by kernel_rfl)) ?_; rintro _ _ ⟨rfl,rfl⟩; refine ⟨(by repeat' (first|exact trivial|refine ⟨⟨qsafe_ok (st:=[]) rfl,Sure.of rfl⟩,?_⟩|refine ⟨.inl rfl,?_⟩|refine ⟨.inr ⟨qsafe_ok (st:=[]) rfl,Sure.of rfl⟩,?_⟩|refine ⟨⟨qsafe_ok (st:=[]) rfl,Sure.slice (by omega)⟩,?_⟩|refine ⟨.inr ⟨qsafe_ok (st:=[]) rfl,Sure.slice (by omega)⟩,?_⟩|refine ⟨.inr ⟨QY.neqB rfl (by kernel_rfl) rfl rfl,Sure.of rfl⟩,?_⟩|refine ⟨.inr ⟨QY.eqlB rfl (by kernel_rfl) rfl rfl,Sure.of rfl⟩,?_⟩ | fail)),LSt.nf ?_⟩; conv=>whnf)|(refine S_E [] rfl rfl (esafe_ok rfl) ?_; rintro _ _ ⟨rfl,rfl⟩; refine ⟨(by repeat' (first|exact trivial|refine ⟨⟨qsafe_ok (st:=[]) rfl,Sure.of rfl⟩,?_⟩|refine ⟨.inl rfl,?_⟩|refine ⟨.inr ⟨qsafe_ok (st:=[]) rfl,Sure.of rfl⟩,?_⟩|refine ⟨⟨qsafe_ok (st:=[]) rfl,Sure.slice (by omega)⟩,?_⟩|refine ⟨.inr ⟨qsafe_ok (st:=[]) rfl,Sure.slice (by omega)⟩,?_⟩|refine ⟨.inr ⟨QY.neqB rfl (by kernel_rfl) rfl rfl,Sure.of rfl⟩,?_⟩|refine ⟨.inr ⟨QY.eqlB rfl (by kernel_rfl) rfl rfl,Sure.of rfl⟩,?_⟩ | fail)),LSt.nf ?_⟩; conv=>whnf)|refine L_rT ?_|refine L_regT ?_|refine P_lin rfl ?_|refine P_A [] rfl ?_ ?_|(refine P_E [] rfl rfl (EW.ofM tBo 9 (v:=slB 9 1) (L':=RHm m gl++[bls 1]) rfl rfl (by kernel_rfl)) ?_; rintro _ _ ⟨rfl,rfl⟩; refine ⟨(by repeat' (first|exact trivial|refine ⟨⟨qsafe_ok (st:=[]) rfl,Sure.of rfl⟩,?_⟩|refine ⟨.inl rfl,?_⟩|refine ⟨.inr ⟨qsafe_ok (st:=[]) rfl,Sure.of rfl⟩,?_⟩|refine ⟨⟨qsafe_ok (st:=[]) rfl,Sure.slice (by omega)⟩,?_⟩|refine ⟨.inr ⟨qsafe_ok (st:=[]) rfl,Sure.slice (by omega)⟩,?_⟩|refine ⟨.inr ⟨QY.neqB rfl (by kernel_rfl) rfl rfl,Sure.of rfl⟩,?_⟩|refine ⟨.inr ⟨QY.eqlB rfl (by kernel_rfl) rfl rfl,Sure.of rfl⟩,?_⟩ | fail)),LPt.nf ?_⟩; conv=>whnf)|(refine P_E [] rfl rfl (EW.ofM tRo 10 (v:=slB 10 1) (L':=RHm m gl++[bls 1,nls 1]) rfl rfl (by kernel_rfl)) ?_; rintro _ _ ⟨rfl,rfl⟩; refine ⟨(by repeat' (first|exact trivial|refine ⟨⟨qsafe_ok (st:=[]) rfl,Sure.of rfl⟩,?_⟩|refine ⟨.inl rfl,?_⟩|refine ⟨.inr ⟨qsafe_ok (st:=[]) rfl,Sure.of rfl⟩,?_⟩|refine ⟨⟨qsafe_ok (st:=[]) rfl,Sure.slice (by omega)⟩,?_⟩|refine ⟨.inr ⟨qsafe_ok (st:=[]) rfl,Sure.slice (by omega)⟩,?_⟩|refine ⟨.inr ⟨QY.neqB rfl (by kernel_rfl) rfl rfl,Sure.of rfl⟩,?_⟩|refine ⟨.inr ⟨QY.eqlB rfl (by kernel_rfl) rfl rfl,Sure.of rfl⟩,?_⟩ | fail)),LPt.nf ?_⟩; conv=>whnf)|(refine P_E [] rfl rfl (EW.ofM tRo 9 (v:=slB 9 1) (L':=RHm m gl++[nls 1]) rfl rfl (by kernel_rfl)) ?_; rintro _ _ ⟨rfl,rfl⟩; refine ⟨(by repeat' (first|exact trivial|refine ⟨⟨qsafe_ok (st:=[]) rfl,Sure.of rfl⟩,?_⟩|refine ⟨.inl rfl,?_⟩|refine ⟨.inr ⟨qsafe_ok (st:=[]) rfl,Sure.of rfl⟩,?_⟩|refine ⟨⟨qsafe_ok (st:=[]) rfl,Sure.slice (by omega)⟩,?_⟩|refine ⟨.inr ⟨qsafe_ok (st:=[]) rfl,Sure.slice (by omega)⟩,?_⟩|refine ⟨.inr ⟨QY.neqB rfl (by kernel_rfl) rfl rfl,Sure.of rfl⟩,?_⟩|refine ⟨.inr ⟨QY.eqlB rfl (by kernel_rfl) rfl rfl,Sure.of rfl⟩,?_⟩ | fail)),LPt.nf ?_⟩; conv=>whnf)|(refine P_E [] rfl rfl (EW.ofM tBo 10 (v:=slB 10 1) (L':=RHm m gl++[nls 1,bls 1]) rfl rfl (by kernel_rfl)) ?_; rintro _ _ ⟨rfl,rfl⟩; refine ⟨(by repeat' (first|exact trivial|refine ⟨⟨qsafe_ok (st:=[]) rfl,Sure.of rfl⟩,?_⟩|refine ⟨.inl rfl,?_⟩|refine ⟨.inr ⟨qsafe_ok (st:=[]) rfl,Sure.of rfl⟩,?_⟩|refine ⟨⟨qsafe_ok (st:=[]) rfl,Sure.slice (by omega)⟩,?_⟩|refine ⟨.inr ⟨qsafe_ok (st:=[]) rfl,Sure.slice (by omega)⟩,?_⟩|refine ⟨.inr ⟨QY.neqB rfl (by kernel_rfl) rfl rfl,Sure.of rfl⟩,?_⟩|refine ⟨.inr ⟨QY.eqlB rfl (by kernel_rfl) rfl rfl,Sure.of rfl⟩,?_⟩ | fail)),LPt.nf ?_⟩; conv=>whnf)|(refine P_E [] rfl rfl (esafe_ok rfl) ?_; rintro _ _ ⟨rfl,rfl⟩; refine ⟨(by repeat' (first|exact trivial|refine ⟨⟨qsafe_ok (st:=[]) rfl,Sure.of rfl⟩,?_⟩|refine ⟨.inl rfl,?_⟩|refine ⟨.inr ⟨qsafe_ok (st:=[]) rfl,Sure.of rfl⟩,?_⟩|refine ⟨⟨qsafe_ok (st:=[]) rfl,Sure.slice (by omega)⟩,?_⟩|refine ⟨.inr ⟨qsafe_ok (st:=[]) rfl,Sure.slice (by omega)⟩,?_⟩|refine ⟨.inr ⟨QY.neqB rfl (by kernel_rfl) rfl rfl,Sure.of rfl⟩,?_⟩|refine ⟨.inr ⟨QY.eqlB rfl (by kernel_rfl) rfl rfl,Sure.of rfl⟩,?_⟩ | fail)),LPt.nf ?_⟩; conv=>whnf)|refine aI (hn:=?_)|refine qR ?_|refine qS ?_|exact ⟨rfl,rfl⟩|fail)
  all_goals first | (exfalso; omega)|exact L_ret (RetQ.pick [0,1,2,3,4,5,6,7,8,11,9,10] rfl rfl rfl rfl ⟨rfl,rfl⟩)|exact L_ret (RetQ.pick [0,1,2,3,4,5,6,7,8,11,10,9] rfl rfl rfl rfl ⟨rfl,rfl⟩)
 ·repeat' (first|refine qN ?_|refine dN ?_|refine d0 ?_|refine qT ?_|refine qU ?_|refine qL ?_|refine qK ?_|refine iF (fun h=>?_) (fun h=>?_)|(refine S_E [] rfl rfl (EW.ofM tBo 9 (v:=slB 9 2) (L':=RHm m gl++[bls 2]) rfl rfl (by kernel_rfl)) ?_; rintro _ _ ⟨rfl,rfl⟩; refine ⟨(by repeat' (first|exact trivial|refine ⟨⟨qsafe_ok (st:=[]) rfl,Sure.of rfl⟩,?_⟩|refine ⟨.inl rfl,?_⟩|refine ⟨.inr ⟨qsafe_ok (st:=[]) rfl,Sure.of rfl⟩,?_⟩|refine ⟨⟨qsafe_ok (st:=[]) rfl,Sure.slice (by omega)⟩,?_⟩|refine ⟨.inr ⟨qsafe_ok (st:=[]) rfl,Sure.slice (by omega)⟩,?_⟩|refine ⟨.inr ⟨QY.neqB rfl (by kernel_rfl) rfl rfl,Sure.of rfl⟩,?_⟩|refine ⟨.inr ⟨QY.eqlB rfl (by kernel_rfl) rfl rfl,Sure.of rfl⟩,?_⟩ | fail)),LSt.nf ?_⟩; conv=>whnf)|(refine S_E [] rfl rfl (EW.ofM tRo 10 (v:=slB 10 2) (L':=RHm m gl++[bls 2,nls 2]) rfl rfl (by kernel_rfl)) ?_; rintro _ _ ⟨rfl,rfl⟩; refine ⟨(by repeat' (first|exact trivial|refine ⟨⟨qsafe_ok (st:=[]) rfl,Sure.of rfl⟩,?_⟩|refine ⟨.inl rfl,?_⟩|refine ⟨.inr ⟨qsafe_ok (st:=[]) rfl,Sure.of rfl⟩,?_⟩|refine ⟨⟨qsafe_ok (st:=[]) rfl,Sure.slice (by omega)⟩,?_⟩|refine ⟨.inr ⟨qsafe_ok (st:=[]) rfl,Sure.slice (by omega)⟩,?_⟩|refine ⟨.inr ⟨QY.neqB rfl (by kernel_rfl) rfl rfl,Sure.of rfl⟩,?_⟩|refine ⟨.inr ⟨QY.eqlB rfl (by kernel_rfl) rfl rfl,Sure.of rfl⟩,?_⟩ | fail)),LSt.nf ?_⟩; conv=>whnf)|(refine S_E [] rfl rfl (EW.ofM tRo 9 (v:=slB 9 2) (L':=RHm m gl++[nls 2]) rfl rfl (by kernel_rfl)) ?_; rintro _ _ ⟨rfl,rfl⟩; refine ⟨(by repeat' (first|exact trivial|refine ⟨⟨qsafe_ok (st:=[]) rfl,Sure.of rfl⟩,?_⟩|refine ⟨.inl rfl,?_⟩|refine ⟨.inr ⟨qsafe_ok (st:=[]) rfl,Sure.of rfl⟩,?_⟩|refine ⟨⟨qsafe_ok (st:=[]) rfl,Sure.slice (by omega)⟩,?_⟩|refine ⟨.inr ⟨qsafe_ok (st:=[]) rfl,Sure.slice (by omega)⟩,?_⟩|refine ⟨.inr ⟨QY.neqB rfl (by kernel_rfl) rfl rfl,Sure.of rfl⟩,?_⟩|refine ⟨.inr ⟨QY.eqlB rfl (by kernel_rfl) rfl rfl,Sure.of rfl⟩,?_⟩ | fail)),LSt.nf ?_⟩; conv=>whnf)|(refine S_E [] rfl rfl (EW.ofM tBo 10 (v:=slB 10 2) (L':=RHm m gl++[nls 2,bls 2]) rfl rfl (by kernel_rfl)) ?_; rintro _ _ ⟨rfl,rfl⟩; refine ⟨(by repeat' (first|exact trivial|refine ⟨⟨qsafe_ok (st:=[]) rfl,Sure.of rfl⟩,?_⟩|refine ⟨.inl rfl,?_⟩|refine ⟨.inr ⟨qsafe_ok (st:=[]) rfl,Sure.of rfl⟩,?_⟩|refine ⟨⟨qsafe_ok (st:=[]) rfl,Sure.slice (by omega)⟩,?_⟩|refine ⟨.inr ⟨qsafe_ok (st:=[]) rfl,Sure.slice (by omega)⟩,?_⟩|refine ⟨.inr ⟨QY.neqB rfl (by kernel_rfl) rfl rfl,Sure.of rfl⟩,?_⟩|refine ⟨.inr ⟨QY.eqlB rfl (by kernel_rfl) rfl rfl,Sure.of rfl⟩,?_⟩ | fail)),LSt.nf ?_⟩; conv=>whnf)|(refine S_E [] rfl rfl (esafe_ok rfl) ?_; rintro _ _ ⟨rfl,rfl⟩; refine ⟨(by repeat' (first|exact trivial|refine ⟨⟨qsafe_ok (st:=[]) rfl,Sure.of rfl⟩,?_⟩|refine ⟨.inl rfl,?_⟩|refine ⟨.inr ⟨qsafe_ok (st:=[]) rfl,Sure.of rfl⟩,?_⟩|refine ⟨⟨qsafe_ok (st:=[]) rfl,Sure.slice (by omega)⟩,?_⟩|refine ⟨.inr ⟨qsafe_ok (st:=[]) rfl,Sure.slice (by omega)⟩,?_⟩|refine ⟨.inr ⟨QY.neqB rfl (by kernel_rfl) rfl rfl,Sure.of rfl⟩,?_⟩|refine ⟨.inr ⟨QY.eqlB rfl (by kernel_rfl) rfl rfl,Sure.of rfl⟩,?_⟩ | fail)),LSt.nf ?_⟩; conv=>whnf)|refine L_rT ?_|refine L_regT ?_|refine P_lin rfl ?_|refine P_A [] rfl ?_ ?_|(refine P_E [] rfl rfl (EW.ofM tBo 9 (v:=slB 9 2) (L':=RHm m gl++[bls 2]) rfl rfl (by kernel_rfl)) ?_; rintro _ _ ⟨rfl,rfl⟩; refine ⟨(by repeat' (first|exact trivial|refine ⟨⟨qsafe_ok (st:=[]) rfl,Sure.of rfl⟩,?_⟩|refine ⟨.inl rfl,?_⟩|refine ⟨.inr ⟨qsafe_ok (st:=[]) rfl,Sure.of rfl⟩,?_⟩|refine ⟨⟨qsafe_ok (st:=[]) rfl,Sure.slice (by omega)⟩,?_⟩|refine ⟨.inr ⟨qsafe_ok (st:=[]) rfl,Sure.slice (by omega)⟩,?_⟩|refine ⟨.inr ⟨QY.neqB rfl (by kernel_rfl) rfl rfl,Sure.of rfl⟩,?_⟩|refine ⟨.inr ⟨QY.eqlB rfl (by kernel_rfl) rfl rfl,Sure.of rfl⟩,?_⟩ | fail)),LPt.nf ?_⟩; conv=>whnf)|(refine P_E [] rfl rfl (EW.ofM tRo 10 (v:=slB 10 2) (L':=RHm m gl++[bls 2,nls 2]) rfl rfl (by kernel_rfl)) ?_; rintro _ _ ⟨rfl,rfl⟩; refine ⟨(by repeat' (first|exact trivial|refine ⟨⟨qsafe_ok (st:=[]) rfl,Sure.of rfl⟩,?_⟩|refine ⟨.inl rfl,?_⟩|refine ⟨.inr ⟨qsafe_ok (st:=[]) rfl,Sure.of rfl⟩,?_⟩|refine ⟨⟨qsafe_ok (st:=[]) rfl,Sure.slice (by omega)⟩,?_⟩|refine ⟨.inr ⟨qsafe_ok (st:=[]) rfl,Sure.slice (by omega)⟩,?_⟩|refine ⟨.inr ⟨QY.neqB rfl (by kernel_rfl) rfl rfl,Sure.of rfl⟩,?_⟩|refine ⟨.inr ⟨QY.eqlB rfl (by kernel_rfl) rfl rfl,Sure.of rfl⟩,?_⟩ | fail)),LPt.nf ?_⟩; conv=>whnf)|(refine P_E [] rfl rfl (EW.ofM tRo 9 (v:=slB 9 2) (L':=RHm m gl++[nls 2]) rfl rfl (by kernel_rfl)) ?_; rintro _ _ ⟨rfl,rfl⟩; refine ⟨(by repeat' (first|exact trivial|refine ⟨⟨qsafe_ok (st:=[]) rfl,Sure.of rfl⟩,?_⟩|refine ⟨.inl rfl,?_⟩|refine ⟨.inr ⟨qsafe_ok (st:=[]) rfl,Sure.of rfl⟩,?_⟩|refine ⟨⟨qsafe_ok (st:=[]) rfl,Sure.slice (by omega)⟩,?_⟩|refine ⟨.inr ⟨qsafe_ok (st:=[]) rfl,Sure.slice (by omega)⟩,?_⟩|refine ⟨.inr ⟨QY.neqB rfl (by kernel_rfl) rfl rfl,Sure.of rfl⟩,?_⟩|refine ⟨.inr ⟨QY.eqlB rfl (by kernel_rfl) rfl rfl,Sure.of rfl⟩,?_⟩ | fail)),LPt.nf ?_⟩; conv=>whnf)|(refine P_E [] rfl rfl (EW.ofM tBo 10 (v:=slB 10 2) (L':=RHm m gl++[nls 2,bls 2]) rfl rfl (by kernel_rfl)) ?_; rintro _ _ ⟨rfl,rfl⟩; refine ⟨(by repeat' (first|exact trivial|refine ⟨⟨qsafe_ok (st:=[]) rfl,Sure.of rfl⟩,?_⟩|refine ⟨.inl rfl,?_⟩|refine ⟨.inr ⟨qsafe_ok (st:=[]) rfl,Sure.of rfl⟩,?_⟩|refine ⟨⟨qsafe_ok (st:=[]) rfl,Sure.slice (by omega)⟩,?_⟩|refine ⟨.inr ⟨qsafe_ok (st:=[]) rfl,Sure.slice (by omega)⟩,?_⟩|refine ⟨.inr ⟨QY.neqB rfl (by kernel_rfl) rfl rfl,Sure.of rfl⟩,?_⟩|refine ⟨.inr ⟨QY.eqlB rfl (by kernel_rfl) rfl rfl,Sure.of rfl⟩,?_⟩ | fail)),LPt.nf ?_⟩; conv=>whnf)|(refine P_E [] rfl rfl (esafe_ok rfl) ?_; rintro _ _ ⟨rfl,rfl⟩; refine ⟨(by repeat' (first|exact trivial|refine ⟨⟨qsafe_ok (st:=[]) rfl,Sure.of rfl⟩,?_⟩|refine ⟨.inl rfl,?_⟩|refine ⟨.inr ⟨qsafe_ok (st:=[]) rfl,Sure.of rfl⟩,?_⟩|refine ⟨⟨qsafe_ok (st:=[]) rfl,Sure.slice (by omega)⟩,?_⟩|refine ⟨.inr ⟨qsafe_ok (st:=[]) rfl,Sure.slice (by omega)⟩,?_⟩|refine ⟨.inr ⟨QY.neqB rfl (by kernel_rfl) rfl rfl,Sure.of rfl⟩,?_⟩|refine ⟨.inr ⟨QY.eqlB rfl (by kernel_rfl) rfl rfl,Sure.of rfl⟩,?_⟩ | fail)),LPt.nf ?_⟩; conv=>whnf)|refine aI (hn:=?_)|refine qR ?_|refine qS ?_|exact ⟨rfl,rfl⟩|fail)
  all_goals first | (exfalso; omega)|exact L_ret (RetQ.pick [0,1,2,3,4,5,6,7,8,11,9,10] rfl rfl rfl rfl ⟨rfl,rfl⟩)|exact L_ret (RetQ.pick [0,1,2,3,4,5,6,7,8,11,10,9] rfl rfl rfl rfl ⟨rfl,rfl⟩)
 ·repeat' (first|refine qN ?_|refine dN ?_|refine d0 ?_|refine qT ?_|refine qU ?_|refine qL ?_|refine qK ?_|refine iF (fun h=>?_) (fun h=>?_)|(refine S_E [] rfl rfl (EW.ofM tBo 9 (v:=slB 9 3) (L':=RHm m gl++[bls 3]) rfl rfl (by kernel_rfl)) ?_; rintro _ _ ⟨rfl,rfl⟩; refine ⟨(by repeat' (first|exact trivial|refine ⟨⟨qsafe_ok (st:=[]) rfl,Sure.of rfl⟩,?_⟩|refine ⟨.inl rfl,?_⟩|refine ⟨.inr ⟨qsafe_ok (st:=[]) rfl,Sure.of rfl⟩,?_⟩|refine ⟨⟨qsafe_ok (st:=[]) rfl,Sure.slice (by omega)⟩,?_⟩|refine ⟨.inr ⟨qsafe_ok (st:=[]) rfl,Sure.slice (by omega)⟩,?_⟩|refine ⟨.inr ⟨QY.neqB rfl (by kernel_rfl) rfl rfl,Sure.of rfl⟩,?_⟩|refine ⟨.inr ⟨QY.eqlB rfl (by kernel_rfl) rfl rfl,Sure.of rfl⟩,?_⟩ | fail)),LSt.nf ?_⟩; conv=>whnf)|(refine S_E [] rfl rfl (EW.ofM tRo 10 (v:=slB 10 3) (L':=RHm m gl++[bls 3,nls 3]) rfl rfl (by kernel_rfl)) ?_; rintro _ _ ⟨rfl,rfl⟩; refine ⟨(by repeat' (first|exact trivial|refine ⟨⟨qsafe_ok (st:=[]) rfl,Sure.of rfl⟩,?_⟩|refine ⟨.inl rfl,?_⟩|refine ⟨.inr ⟨qsafe_ok (st:=[]) rfl,Sure.of rfl⟩,?_⟩|refine ⟨⟨qsafe_ok (st:=[]) rfl,Sure.slice (by omega)⟩,?_⟩|refine ⟨.inr ⟨qsafe_ok (st:=[]) rfl,Sure.slice (by omega)⟩,?_⟩|refine ⟨.inr ⟨QY.neqB rfl (by kernel_rfl) rfl rfl,Sure.of rfl⟩,?_⟩|refine ⟨.inr ⟨QY.eqlB rfl (by kernel_rfl) rfl rfl,Sure.of rfl⟩,?_⟩ | fail)),LSt.nf ?_⟩; conv=>whnf)|(refine S_E [] rfl rfl (EW.ofM tRo 9 (v:=slB 9 3) (L':=RHm m gl++[nls 3]) rfl rfl (by kernel_rfl)) ?_; rintro _ _ ⟨rfl,rfl⟩; refine ⟨(by repeat' (first|exact trivial|refine ⟨⟨qsafe_ok (st:=[]) rfl,Sure.of rfl⟩,?_⟩|refine ⟨.inl rfl,?_⟩|refine ⟨.inr ⟨qsafe_ok (st:=[]) rfl,Sure.of rfl⟩,?_⟩|refine ⟨⟨qsafe_ok (st:=[]) rfl,Sure.slice (by omega)⟩,?_⟩|refine ⟨.inr ⟨qsafe_ok (st:=[]) rfl,Sure.slice (by omega)⟩,?_⟩|refine ⟨.inr ⟨QY.neqB rfl (by kernel_rfl) rfl rfl,Sure.of rfl⟩,?_⟩|refine ⟨.inr ⟨QY.eqlB rfl (by kernel_rfl) rfl rfl,Sure.of rfl⟩,?_⟩ | fail)),LSt.nf ?_⟩; conv=>whnf)|(refine S_E [] rfl rfl (EW.ofM tBo 10 (v:=slB 10 3) (L':=RHm m gl++[nls 3,bls 3]) rfl rfl (by kernel_rfl)) ?_; rintro _ _ ⟨rfl,rfl⟩; refine ⟨(by repeat' (first|exact trivial|refine ⟨⟨qsafe_ok (st:=[]) rfl,Sure.of rfl⟩,?_⟩|refine ⟨.inl rfl,?_⟩|refine ⟨.inr ⟨qsafe_ok (st:=[]) rfl,Sure.of rfl⟩,?_⟩|refine ⟨⟨qsafe_ok (st:=[]) rfl,Sure.slice (by omega)⟩,?_⟩|refine ⟨.inr ⟨qsafe_ok (st:=[]) rfl,Sure.slice (by omega)⟩,?_⟩|refine ⟨.inr ⟨QY.neqB rfl (by kernel_rfl) rfl rfl,Sure.of rfl⟩,?_⟩|refine ⟨.inr ⟨QY.eqlB rfl (by kernel_rfl) rfl rfl,Sure.of rfl⟩,?_⟩ | fail)),LSt.nf ?_⟩; conv=>whnf)|(refine S_E [] rfl rfl (esafe_ok rfl) ?_; rintro _ _ ⟨rfl,rfl⟩; refine ⟨(by repeat' (first|exact trivial|refine ⟨⟨qsafe_ok (st:=[]) rfl,Sure.of rfl⟩,?_⟩|refine ⟨.inl rfl,?_⟩|refine ⟨.inr ⟨qsafe_ok (st:=[]) rfl,Sure.of rfl⟩,?_⟩|refine ⟨⟨qsafe_ok (st:=[]) rfl,Sure.slice (by omega)⟩,?_⟩|refine ⟨.inr ⟨qsafe_ok (st:=[]) rfl,Sure.slice (by omega)⟩,?_⟩|refine ⟨.inr ⟨QY.neqB rfl (by kernel_rfl) rfl rfl,Sure.of rfl⟩,?_⟩|refine ⟨.inr ⟨QY.eqlB rfl (by kernel_rfl) rfl rfl,Sure.of rfl⟩,?_⟩ | fail)),LSt.nf ?_⟩; conv=>whnf)|refine L_rT ?_|refine L_regT ?_|refine P_lin rfl ?_|refine P_A [] rfl ?_ ?_|(refine P_E [] rfl rfl (EW.ofM tBo 9 (v:=slB 9 3) (L':=RHm m gl++[bls 3]) rfl rfl (by kernel_rfl)) ?_; rintro _ _ ⟨rfl,rfl⟩; refine ⟨(by repeat' (first|exact trivial|refine ⟨⟨qsafe_ok (st:=[]) rfl,Sure.of rfl⟩,?_⟩|refine ⟨.inl rfl,?_⟩|refine ⟨.inr ⟨qsafe_ok (st:=[]) rfl,Sure.of rfl⟩,?_⟩|refine ⟨⟨qsafe_ok (st:=[]) rfl,Sure.slice (by omega)⟩,?_⟩|refine ⟨.inr ⟨qsafe_ok (st:=[]) rfl,Sure.slice (by omega)⟩,?_⟩|refine ⟨.inr ⟨QY.neqB rfl (by kernel_rfl) rfl rfl,Sure.of rfl⟩,?_⟩|refine ⟨.inr ⟨QY.eqlB rfl (by kernel_rfl) rfl rfl,Sure.of rfl⟩,?_⟩ | fail)),LPt.nf ?_⟩; conv=>whnf)|(refine P_E [] rfl rfl (EW.ofM tRo 10 (v:=slB 10 3) (L':=RHm m gl++[bls 3,nls 3]) rfl rfl (by kernel_rfl)) ?_; rintro _ _ ⟨rfl,rfl⟩; refine ⟨(by repeat' (first|exact trivial|refine ⟨⟨qsafe_ok (st:=[]) rfl,Sure.of rfl⟩,?_⟩|refine ⟨.inl rfl,?_⟩|refine ⟨.inr ⟨qsafe_ok (st:=[]) rfl,Sure.of rfl⟩,?_⟩|refine ⟨⟨qsafe_ok (st:=[]) rfl,Sure.slice (by omega)⟩,?_⟩|refine ⟨.inr ⟨qsafe_ok (st:=[]) rfl,Sure.slice (by omega)⟩,?_⟩|refine ⟨.inr ⟨QY.neqB rfl (by kernel_rfl) rfl rfl,Sure.of rfl⟩,?_⟩|refine ⟨.inr ⟨QY.eqlB rfl (by kernel_rfl) rfl rfl,Sure.of rfl⟩,?_⟩ | fail)),LPt.nf ?_⟩; conv=>whnf)|(refine P_E [] rfl rfl (EW.ofM tRo 9 (v:=slB 9 3) (L':=RHm m gl++[nls 3]) rfl rfl (by kernel_rfl)) ?_; rintro _ _ ⟨rfl,rfl⟩; refine ⟨(by repeat' (first|exact trivial|refine ⟨⟨qsafe_ok (st:=[]) rfl,Sure.of rfl⟩,?_⟩|refine ⟨.inl rfl,?_⟩|refine ⟨.inr ⟨qsafe_ok (st:=[]) rfl,Sure.of rfl⟩,?_⟩|refine ⟨⟨qsafe_ok (st:=[]) rfl,Sure.slice (by omega)⟩,?_⟩|refine ⟨.inr ⟨qsafe_ok (st:=[]) rfl,Sure.slice (by omega)⟩,?_⟩|refine ⟨.inr ⟨QY.neqB rfl (by kernel_rfl) rfl rfl,Sure.of rfl⟩,?_⟩|refine ⟨.inr ⟨QY.eqlB rfl (by kernel_rfl) rfl rfl,Sure.of rfl⟩,?_⟩ | fail)),LPt.nf ?_⟩; conv=>whnf)|(refine P_E [] rfl rfl (EW.ofM tBo 10 (v:=slB 10 3) (L':=RHm m gl++[nls 3,bls 3]) rfl rfl (by kernel_rfl)) ?_; rintro _ _ ⟨rfl,rfl⟩; refine ⟨(by repeat' (first|exact trivial|refine ⟨⟨qsafe_ok (st:=[]) rfl,Sure.of rfl⟩,?_⟩|refine ⟨.inl rfl,?_⟩|refine ⟨.inr ⟨qsafe_ok (st:=[]) rfl,Sure.of rfl⟩,?_⟩|refine ⟨⟨qsafe_ok (st:=[]) rfl,Sure.slice (by omega)⟩,?_⟩|refine ⟨.inr ⟨qsafe_ok (st:=[]) rfl,Sure.slice (by omega)⟩,?_⟩|refine ⟨.inr ⟨QY.neqB rfl (by kernel_rfl) rfl rfl,Sure.of rfl⟩,?_⟩|refine ⟨.inr ⟨QY.eqlB rfl (by kernel_rfl) rfl rfl,Sure.of rfl⟩,?_⟩ | fail)),LPt.nf ?_⟩; conv=>whnf)|(refine P_E [] rfl rfl (esafe_ok rfl) ?_; rintro _ _ ⟨rfl,rfl⟩; refine ⟨(by repeat' (first|exact trivial|refine ⟨⟨qsafe_ok (st:=[]) rfl,Sure.of rfl⟩,?_⟩|refine ⟨.inl rfl,?_⟩|refine ⟨.inr ⟨qsafe_ok (st:=[]) rfl,Sure.of rfl⟩,?_⟩|refine ⟨⟨qsafe_ok (st:=[]) rfl,Sure.slice (by omega)⟩,?_⟩|refine ⟨.inr ⟨qsafe_ok (st:=[]) rfl,Sure.slice (by omega)⟩,?_⟩|refine ⟨.inr ⟨QY.neqB rfl (by kernel_rfl) rfl rfl,Sure.of rfl⟩,?_⟩|refine ⟨.inr ⟨QY.eqlB rfl (by kernel_rfl) rfl rfl,Sure.of rfl⟩,?_⟩ | fail)),LPt.nf ?_⟩; conv=>whnf)|refine aI (hn:=?_)|refine qR ?_|refine qS ?_|exact ⟨rfl,rfl⟩|fail)
  all_goals first | (exfalso; omega)|exact L_ret (RetQ.pick [0,1,2,3,4,5,6,7,8,11,9,10] rfl rfl rfl rfl ⟨rfl,rfl⟩)|exact L_ret (RetQ.pick [0,1,2,3,4,5,6,7,8,11,10,9] rfl rfl rfl rfl ⟨rfl,rfl⟩)
theorem dNew_tr (m:HM) (gl:List Gb) (n:Nat) (hn:n≤3):Tr Tryz.prog 7 [ptr 0,.int .i64 n] (RHm m gl) (fun v K=>v=ptr 9∧K=DY 0 n .w0 m gl T0 0 0 0 0 [] 0 0 0):=by
 have h:=dNew_z m gl n hn
 obtain rfl | rfl | rfl | rfl:n=0∨n=1∨n=2∨n=3:=by omega
 ·exact Tr.fillD (Tr.fillD (Tr.fillD (Tr.fillG 1 (Tr.fillG 1 (Tr.fillG 1 h)))))
 ·exact Tr.fillD (Tr.fillD (Tr.fillD (Tr.fillG 1 (Tr.fillG 1 (Tr.nilC 11 0 1 h rfl rfl)))))
 ·exact Tr.fillD (Tr.fillD (Tr.fillD (Tr.fillG 1 (Tr.nilC 11 1 1 (Tr.nilC 11 0 1 h rfl rfl) rfl rfl))))
 ·exact Tr.fillD (Tr.fillD (Tr.fillD (Tr.nilC 11 2 1 (Tr.nilC 11 1 1 (Tr.nilC 11 0 1 h rfl rfl) rfl rfl) rfl rfl)))
def DC (q1 q2:Value) (z n:Nat) (m:HM) (gl:List Gb) (t:Ths) (a:Int) (ct g:Nat):LH :=
 RHm m gl++[.cells 0 [ptr 0,q1,q2,.int .i64 0,.int .i64 a,ptr 15,ptr 16,.int .i64 (ct+1:Nat),.int .i64 g],.cells z (dSt n t),.cells z (dRt n t),.gro 1 (rowsC intC t.r0),.gro 1 (rowsC intC t.r1),.gro 1 (rowsC intC t.r2),.dead,.dead,.dead]
def DE (n:Nat) (m:HM) (gl:List Gb) (t:Ths) (a:Int) (ct g:Nat):LH :=
 RHm m gl++[.cells 0 [ptr 0,slB 10 n,slB 11 n,.int .i64 0,.int .i64 a,ptr 15,ptr 16,.int .i64 (ct+1:Nat),.int .i64 g],bls n,nls n,.gro 1 (rowsC intC t.r0),.gro 1 (rowsC intC t.r1),.gro 1 (rowsC intC t.r2),.dead,.dead,.dead]
set_option maxHeartbeats 4000000 in
theorem dStep_cz (z n:Nat) (hn:n≤3) (m:HM) (gl:List Gb) (t:Ths) (a:Int) (ct gn:Nat) (hct:ct≤1000000000) (xs:List Int) (j g:Nat) :
  TrK Tryz.prog [] [0,1,5,6,9] 14 [ptr 9] (DY z n .s m gl t 4 a ct gn xs j 0 g)
   (fun v K=>v=.bool true∧K=DE n m gl t a ct g):=by
 refine Tr.of row_tumbrelref22_Cycle_Step_ok rfl ?_
 obtain rfl | rfl | rfl | rfl:n=0∨n=1∨n=2∨n=3:=by omega
 ·repeat' (first|refine qN ?_|refine dN ?_|refine d0 ?_|refine qB ?_|refine qT ?_|refine qU ?_|refine qL ?_|refine qK ?_|refine qF ?_|refine qE ?_|refine iF (fun h=>?_) (fun h=>?_)|refine aX ?_|refine aA ?_|refine aI (hn:=?_)|refine sP 10 (fun h=>?_) (fun h=>?_)|refine sP 16 (fun h=>?_) (fun h=>?_)|refine qR ?_|refine qS ?_|exact ⟨rfl,rfl⟩|fail)
  all_goals try (exfalso; omega)
  refine S_wk [] rfl (wk_dead 16 rfl) (S_wk [] rfl (wk_dead 17 rfl) ?_)
  first|refine L_rs ?_|refine L_reg ?_ | skip
  refine eE rfl rfl (EW.ofM tBo 18 (v:=slB 18 0) (L':=DC (slB 10 0) (slB 11 0) z 0 m gl t a ct g++[bls 0]) rfl rfl (by kernel_rfl)) ?_
  conv=>whnf
  repeat' (first|refine qN ?_|refine dN ?_|refine d0 ?_|refine qB ?_|refine qT ?_|refine qU ?_|refine qL ?_|refine qK ?_|refine qF ?_|refine qE ?_|refine iF (fun h=>?_) (fun h=>?_)|refine aX ?_|refine aA ?_|refine aI (hn:=?_)|refine sP 10 (fun h=>?_) (fun h=>?_)|refine sP 16 (fun h=>?_) (fun h=>?_)|refine qR ?_|refine qS ?_|exact ⟨rfl,rfl⟩|fail)
  first|refine L_rs ?_|refine L_reg ?_ | skip
  refine eE rfl rfl (EW.ofM tRo 19 (v:=slB 19 0) (L':=DC (slB 18 0) (slB 11 0) z 0 m gl t a ct g++[bls 0,nls 0]) rfl rfl (by kernel_rfl)) ?_
  conv=>whnf
  repeat' (first|refine qN ?_|refine dN ?_|refine d0 ?_|refine qB ?_|refine qT ?_|refine qU ?_|refine qL ?_|refine qK ?_|refine qF ?_|refine qE ?_|refine iF (fun h=>?_) (fun h=>?_)|refine aX ?_|refine aA ?_|refine aI (hn:=?_)|refine sP 10 (fun h=>?_) (fun h=>?_)|refine sP 16 (fun h=>?_) (fun h=>?_)|refine qR ?_|refine qS ?_|exact ⟨rfl,rfl⟩|fail)
  exact L_ret (RetQ.pick [0,1,2,3,4,5,6,7,8,9,18,19,12,13,14,15,16,17] rfl rfl rfl rfl ⟨rfl,rfl⟩)
 ·repeat' (first|refine qN ?_|refine dN ?_|refine d0 ?_|refine qB ?_|refine qT ?_|refine qU ?_|refine qL ?_|refine qK ?_|refine qF ?_|refine qE ?_|refine iF (fun h=>?_) (fun h=>?_)|refine aX ?_|refine aA ?_|refine aI (hn:=?_)|refine sP 10 (fun h=>?_) (fun h=>?_)|refine sP 16 (fun h=>?_) (fun h=>?_)|refine qR ?_|refine qS ?_|exact ⟨rfl,rfl⟩|fail)
  all_goals try (exfalso; omega)
  refine S_wk [] rfl (wk_dead 16 rfl) (S_wk [] rfl (wk_dead 17 rfl) ?_)
  first|refine L_rs ?_|refine L_reg ?_ | skip
  refine eE rfl rfl (EW.ofM tBo 18 (v:=slB 18 1) (L':=DC (slB 10 1) (slB 11 1) z 1 m gl t a ct g++[bls 1]) rfl rfl (by kernel_rfl)) ?_
  conv=>whnf
  repeat' (first|refine qN ?_|refine dN ?_|refine d0 ?_|refine qB ?_|refine qT ?_|refine qU ?_|refine qL ?_|refine qK ?_|refine qF ?_|refine qE ?_|refine iF (fun h=>?_) (fun h=>?_)|refine aX ?_|refine aA ?_|refine aI (hn:=?_)|refine sP 10 (fun h=>?_) (fun h=>?_)|refine sP 16 (fun h=>?_) (fun h=>?_)|refine qR ?_|refine qS ?_|exact ⟨rfl,rfl⟩|fail)
  first|refine L_rs ?_|refine L_reg ?_ | skip
  refine eE rfl rfl (EW.ofM tRo 19 (v:=slB 19 1) (L':=DC (slB 18 1) (slB 11 1) z 1 m gl t a ct g++[bls 1,nls 1]) rfl rfl (by kernel_rfl)) ?_
  conv=>whnf
  repeat' (first|refine qN ?_|refine dN ?_|refine d0 ?_|refine qB ?_|refine qT ?_|refine qU ?_|refine qL ?_|refine qK ?_|refine qF ?_|refine qE ?_|refine iF (fun h=>?_) (fun h=>?_)|refine aX ?_|refine aA ?_|refine aI (hn:=?_)|refine sP 10 (fun h=>?_) (fun h=>?_)|refine sP 16 (fun h=>?_) (fun h=>?_)|refine qR ?_|refine qS ?_|exact ⟨rfl,rfl⟩|fail)
  exact L_ret (RetQ.pick [0,1,2,3,4,5,6,7,8,9,18,19,12,13,14,15,16,17] rfl rfl rfl rfl ⟨rfl,rfl⟩)
 ·repeat' (first|refine qN ?_|refine dN ?_|refine d0 ?_|refine qB ?_|refine qT ?_|refine qU ?_|refine qL ?_|refine qK ?_|refine qF ?_|refine qE ?_|refine iF (fun h=>?_) (fun h=>?_)|refine aX ?_|refine aA ?_|refine aI (hn:=?_)|refine sP 10 (fun h=>?_) (fun h=>?_)|refine sP 16 (fun h=>?_) (fun h=>?_)|refine qR ?_|refine qS ?_|exact ⟨rfl,rfl⟩|fail)
  all_goals try (exfalso; omega)
  refine S_wk [] rfl (wk_dead 16 rfl) (S_wk [] rfl (wk_dead 17 rfl) ?_)
  first|refine L_rs ?_|refine L_reg ?_ | skip
  refine eE rfl rfl (EW.ofM tBo 18 (v:=slB 18 2) (L':=DC (slB 10 2) (slB 11 2) z 2 m gl t a ct g++[bls 2]) rfl rfl (by kernel_rfl)) ?_
  conv=>whnf
  repeat' (first|refine qN ?_|refine dN ?_|refine d0 ?_|refine qB ?_|refine qT ?_|refine qU ?_|refine qL ?_|refine qK ?_|refine qF ?_|refine qE ?_|refine iF (fun h=>?_) (fun h=>?_)|refine aX ?_|refine aA ?_|refine aI (hn:=?_)|refine sP 10 (fun h=>?_) (fun h=>?_)|refine sP 16 (fun h=>?_) (fun h=>?_)|refine qR ?_|refine qS ?_|exact ⟨rfl,rfl⟩|fail)
  first|refine L_rs ?_|refine L_reg ?_ | skip
  refine eE rfl rfl (EW.ofM tRo 19 (v:=slB 19 2) (L':=DC (slB 18 2) (slB 11 2) z 2 m gl t a ct g++[bls 2,nls 2]) rfl rfl (by kernel_rfl)) ?_
  conv=>whnf
  repeat' (first|refine qN ?_|refine dN ?_|refine d0 ?_|refine qB ?_|refine qT ?_|refine qU ?_|refine qL ?_|refine qK ?_|refine qF ?_|refine qE ?_|refine iF (fun h=>?_) (fun h=>?_)|refine aX ?_|refine aA ?_|refine aI (hn:=?_)|refine sP 10 (fun h=>?_) (fun h=>?_)|refine sP 16 (fun h=>?_) (fun h=>?_)|refine qR ?_|refine qS ?_|exact ⟨rfl,rfl⟩|fail)
  exact L_ret (RetQ.pick [0,1,2,3,4,5,6,7,8,9,18,19,12,13,14,15,16,17] rfl rfl rfl rfl ⟨rfl,rfl⟩)
 ·repeat' (first|refine qN ?_|refine dN ?_|refine d0 ?_|refine qB ?_|refine qT ?_|refine qU ?_|refine qL ?_|refine qK ?_|refine qF ?_|refine qE ?_|refine iF (fun h=>?_) (fun h=>?_)|refine aX ?_|refine aA ?_|refine aI (hn:=?_)|refine sP 10 (fun h=>?_) (fun h=>?_)|refine sP 16 (fun h=>?_) (fun h=>?_)|refine qR ?_|refine qS ?_|exact ⟨rfl,rfl⟩|fail)
  all_goals try (exfalso; omega)
  refine S_wk [] rfl (wk_dead 16 rfl) (S_wk [] rfl (wk_dead 17 rfl) ?_)
  first|refine L_rs ?_|refine L_reg ?_ | skip
  refine eE rfl rfl (EW.ofM tBo 18 (v:=slB 18 3) (L':=DC (slB 10 3) (slB 11 3) z 3 m gl t a ct g++[bls 3]) rfl rfl (by kernel_rfl)) ?_
  conv=>whnf
  repeat' (first|refine qN ?_|refine dN ?_|refine d0 ?_|refine qB ?_|refine qT ?_|refine qU ?_|refine qL ?_|refine qK ?_|refine qF ?_|refine qE ?_|refine iF (fun h=>?_) (fun h=>?_)|refine aX ?_|refine aA ?_|refine aI (hn:=?_)|refine sP 10 (fun h=>?_) (fun h=>?_)|refine sP 16 (fun h=>?_) (fun h=>?_)|refine qR ?_|refine qS ?_|exact ⟨rfl,rfl⟩|fail)
  first|refine L_rs ?_|refine L_reg ?_ | skip
  refine eE rfl rfl (EW.ofM tRo 19 (v:=slB 19 3) (L':=DC (slB 18 3) (slB 11 3) z 3 m gl t a ct g++[bls 3,nls 3]) rfl rfl (by kernel_rfl)) ?_
  conv=>whnf
  repeat' (first|refine qN ?_|refine dN ?_|refine d0 ?_|refine qB ?_|refine qT ?_|refine qU ?_|refine qL ?_|refine qK ?_|refine qF ?_|refine qE ?_|refine iF (fun h=>?_) (fun h=>?_)|refine aX ?_|refine aA ?_|refine aI (hn:=?_)|refine sP 10 (fun h=>?_) (fun h=>?_)|refine sP 16 (fun h=>?_) (fun h=>?_)|refine qR ?_|refine qS ?_|exact ⟨rfl,rfl⟩|fail)
  exact L_ret (RetQ.pick [0,1,2,3,4,5,6,7,8,9,18,19,12,13,14,15,16,17] rfl rfl rfl rfl ⟨rfl,rfl⟩)
set_option maxHeartbeats 8000000 in
theorem dStep_cleanno (z n:Nat) (hn:n≤3) (m:HM) (gl:List Gb) (t:Ths) (a:Int) (ct gn:Nat) (hct:ct≤1000000000) (xs:List Int) (j g:Nat) :
  TrK Tryz.prog [] [0,1,5,6,9] 14 [ptr 9] (DY z n .s m gl t 4 a ct gn xs j 0 g)
   (fun v K=>v=.bool true∧K=DY 0 n .w1 m gl T0 0 a (ct+1) g [] 0 0 0):=by
 have h:=dStep_cz z n hn m gl t a ct gn hct xs j g
 obtain rfl | rfl | rfl | rfl:n=0∨n=1∨n=2∨n=3:=by omega
 ·exact Tr.pickK [0,1,2,3,4,5,6,7,8,9,10,11,18,19,20,15,16,17] (Tr.fillG 1 (Tr.fillG 1 (Tr.fillG 1 h))) rfl rfl rfl rfl
 ·exact Tr.pickK [0,1,2,3,4,5,6,7,8,9,10,11,18,19,20,15,16,17] (Tr.fillG 1 (Tr.fillG 1 (Tr.nilC 11 0 1 h rfl rfl))) rfl rfl rfl rfl
 ·exact Tr.pickK [0,1,2,3,4,5,6,7,8,9,10,11,18,19,20,15,16,17] (Tr.fillG 1 (Tr.nilC 11 1 1 (Tr.nilC 11 0 1 h rfl rfl) rfl rfl)) rfl rfl rfl rfl
 ·exact Tr.pickK [0,1,2,3,4,5,6,7,8,9,10,11,18,19,20,15,16,17] (Tr.nilC 11 2 1 (Tr.nilC 11 1 1 (Tr.nilC 11 0 1 h rfl rfl) rfl rfl) rfl rfl) rfl rfl rfl rfl
end Go.Proofs.YthmdialagibpfaaGreatDoor
end
section
namespace Go.Tum.Base
open Go Go.Tum Go.Proofs.YthmdialagibpfaaGreatDoor
theorem step_size (m:HM) (gl:List Gb) (o:Op18) (b:Bool):(stepM m gl o b).1.man=m.man∧(stepM m gl o b).1.mgd=m.mgd:=by
 unfold stepM
 split
 ·show (allocR m o.r o.s).2.2.man=_∧(allocR m o.r o.s).2.2.mgd=_
  unfold allocR
  split
  ·split <;> exact ⟨rfl,rfl⟩
  ·exact ⟨rfl,rfl⟩
 split
 ·show (freeR m _).man=_∧(freeR m _).mgd=_
  unfold freeR; split <;> exact ⟨rfl,rfl⟩
 split
 ·show (markR m _).man=_∧(markR m _).mgd=_
  unfold markR; split <;> exact ⟨rfl,rfl⟩
 split
 ·exact ⟨rfl,rfl⟩
 split
 ·show (tidyR m _).man=_∧(tidyR m _).mgd=_
  unfold tidyR; split <;> exact ⟨rfl,rfl⟩
 split
 ·show (setR m o).man=_∧(setR m o).mgd=_
  unfold setR; split <;> exact ⟨rfl,rfl⟩
 split
 ·show (greatR m gl o.n).2.2.1.man=_∧(greatR m gl o.n).2.2.1.mgd=_
  unfold greatR
  split
  ·split <;> exact ⟨rfl,rfl⟩
  ·exact ⟨rfl,rfl⟩
 split
 ·cases b
  ·exact ⟨rfl,rfl⟩
  ·show (wordR m _ _).man=_∧(wordR m _ _).mgd=_
   unfold wordR; split <;> exact ⟨rfl,rfl⟩
 ·exact ⟨rfl,rfl⟩
end Go.Tum.Base
end
section
namespace Go.Proofs.YthmdialagibpfaaGreatDoor
open Go Go.Tum Go.Tum.Base
set_option maxRecDepth 4000
structure MI (m:HM) (gl:List Gb) (xs:List Int) (k w i:Nat):Prop where
 hi:HI m gl
 le:k≤xs.length
 len:xs.length≤16*i
 w:w≤i
 ok:StkOk m (xs.take k)
theorem StkOk.same {m m':HM} {st:List Int} (h:StkOk m st) (h1:m'.man=m.man) (h2:m'.mgd=m.mgd):StkOk m' st:=fun a ha=>by
 obtain ⟨i,h3,h4⟩:=h a ha
 exact ⟨i,h3,by omega⟩
theorem MI.step {m:HM} {gl:List Gb} {xs:List Int} {k w i:Nat} (h:MI m gl xs k w i) (o:Op18) (b:Bool):MI (stepM m gl o b).1 (stepM m gl o b).2 xs k w (i+1):=by
 have hz:=step_size m gl o b
 have h1:=h.len
 have h2:=h.w
 exact ⟨h.hi.step o b,h.le,by omega,by omega,StkOk.same h.ok hz.1 hz.2⟩
theorem MI.up {m:HM} {gl:List Gb} {xs:List Int} {k w i:Nat} (h:MI m gl xs k w i):MI m gl xs k w (i+1):=by
 have h1:=h.len
 have h2:=h.w
 exact ⟨h.hi,h.le,by omega,by omega,h.ok⟩
theorem MI.look {m:HM} {gl:List Gb} {xs:List Int} {k w i i0:Nat} (h:MI m gl xs (k+1) w i) (hx:xs[k]?=some ((16*i0:Nat):Int)):MI (ntA (m,xs,k) (refsF m.bs (16*i0))).1 gl (ntA (m,xs,k) (refsF m.bs (16*i0))).2.1 (ntA (m,xs,k) (refsF m.bs (16*i0))).2.2 (w+1) (i+1):=by
 have hle:=h.le
 have hkx:=(List.getElem?_eq_some_iff.1 hx).1
 have hl:(m,xs,k).2.2≤(m,xs,k).2.1.length:=by show k≤xs.length; omega
 have hn:=le_notes (l:=refsF m.bs (16*i0)) hl
 have h15:=refsF_len m.bs (16*i0)
 have h1:=h.len
 have h2:=h.w
 have h3:(m,xs,k).2.1.length=xs.length:=rfl
 refine ⟨HI.notes (x:=(m,xs,k)) h.hi,hn.1,by omega,by omega,StkOk.notes (x:=(m,xs,k)) hl fun a ha=>h.ok a ?_⟩
 obtain ⟨h4,h5⟩:=List.getElem?_eq_some_iff.1 hx
 rw [List.take_succ_eq_append_getElem h4]
 exact List.mem_append_left _ ha
theorem MI.top {m:HM} {gl:List Gb} {xs:List Int} {k w i:Nat} (h:MI m gl xs (k+1) w i):∃ i0:Nat,xs[k]?=some ((16*i0:Nat):Int)∧i0<16*(m.man+m.mgd)∧xs.take (k+1)=xs.take k++[((16*i0:Nat):Int)]:=by
 have hle:=h.le
 have hg:xs[k]?=some xs[k]:=List.getElem?_eq_getElem (by omega)
 have ht:xs.take (k+1)=xs.take k++[xs[k]]:=List.take_succ_eq_append_getElem (by omega)
 obtain ⟨i0,h1,h2⟩:=h.ok xs[k] (by rw [ht]; exact List.mem_append_right _ (List.mem_singleton.2 rfl))
 rw [h1] at hg ht
 exact ⟨i0,hg,h2,ht⟩
end Go.Proofs.YthmdialagibpfaaGreatDoor
end
section
namespace Go.Proofs.YthmdialagibpfaaGreatDoor
open Go Go.Tum Go.Tum.Base
set_option maxRecDepth 4000
structure CS where
 kd:Kd
 m:HM
 gl:List Gb
 t:Ths
 ph:Int
 a:Int
 ct:Nat
 gn:Nat
 xs:List Int
 j:Nat
 k:Nat
 w:Nat
 st:List Int
 dk:Nat
abbrev CYs (n:Nat) (c:CS):LH:=CY n c.kd c.m c.t c.ph c.a c.ct c.gn c.xs c.j c.k c.w
abbrev DYs (z n:Nat) (c:CS):LH:=DY z n c.kd c.m c.gl c.t c.ph c.a c.ct c.gn c.st c.j c.dk c.w
structure TOk (t:Ths):Prop where
 l:∀ i,(rOf t i).length≤6
 i:∀ i,∀ a∈rOf t i,inI a
theorem TOk.t0:TOk T0:=⟨fun i=>by match i with | 0=>exact Nat.zero_le _ | 1=>exact Nat.zero_le _ | _+2=>exact Nat.zero_le _,fun i a h=>by match i,h with | 0,h=>cases h | 1,h=>cases h | _+2,h=>cases h⟩
theorem TOk.stop {t:Ths} (h:TOk t) (i:Nat) {x:List Int} (h1:x.length≤6) (h2:∀ a∈x,inI a):TOk (stopT t i x):=by
 refine ⟨fun j=>?_,fun j=>?_⟩
 ·match i,j with
  | 0,0=>exact h1
  | 0,1=>exact h.l 1
  | 0,j+2=>exact h.l (j+2)
  | 1,0=>exact h.l 0
  | 1,1=>exact h1
  | 1,j+2=>exact h.l (j+2)
  | i+2,0=>exact h.l 0
  | i+2,1=>exact h.l 1
  | i+2,j+2=>exact h1
 ·match i,j with
  | 0,0=>exact h2
  | 0,1=>exact h.i 1
  | 0,j+2=>exact h.i (j+2)
  | 1,0=>exact h.i 0
  | 1,1=>exact h2
  | 1,j+2=>exact h.i (j+2)
  | i+2,0=>exact h.i 0
  | i+2,1=>exact h.i 1
  | i+2,j+2=>exact h2
inductive COk (n:Nat):CS→Nat→Prop
 | w {old:Bool} {m:HM} {gl:List Gb} {t:Ths} {ph a:Int} {ct gn i:Nat}:HI m gl→(ph=0∨ph=1)→TOk t→ct≤i→COk n ⟨bif old then .w1 else .w0,m,gl,t,ph,a,ct,gn,[],0,0,0,[],0⟩ i
 | r {old:Bool} {m:HM} {gl:List Gb} {t:Ths} {a ct gn:Nat} {xs:List Int} {k w i:Nat}:MI m gl xs k w i→TOk t→ct≤i→a<n→COk n ⟨bif old then .m1 else .m0,m,gl,t,2,a,ct,gn,xs,0,k,w,xs.take k,0⟩ i
 | mk {old:Bool} {m:HM} {gl:List Gb} {t:Ths} {a:Int} {ct gn:Nat} {xs:List Int} {k w i:Nat}:MI m gl xs k w i→TOk t→ct≤i→COk n ⟨bif old then .m1 else .m0,m,gl,t,3,a,ct,gn,xs,0,k,w,xs.take k,0⟩ i
 | s {m:HM} {gl:List Gb} {t:Ths} {a:Int} {ct gn:Nat} {xs:List Int} {j k w i:Nat}:HI m gl→TOk t→ct≤i→xs.length=j+k→xs.length≤256→w≤4096*i→COk n ⟨.s,m,gl,t,4,a,ct,gn,xs,j,k,w,xs,k⟩ i
theorem COk.hi {n:Nat} {c:CS} {i:Nat} (h:COk n c i):HI c.m c.gl:=by
 cases h with
 | w h=>exact h
 | r h=>exact h.hi
 | mk h=>exact h.hi
 | s h=>exact h
theorem COk.up {n:Nat} {c:CS} {i:Nat} (h:COk n c i):COk n c (i+1):=by
 cases h with
 | w h1 h2 h3 h4=>exact .w h1 h2 h3 (by omega)
 | r h1 h2 h3 h4=>exact .r h1.up h2 (by omega) h4
 | mk h1 h2 h3=>exact .mk h1.up h2 (by omega)
 | s h1 h2 h3 h4 h5 h6=>exact .s h1 h2 (by omega) h4 h5 (by omega)
theorem COk.step {n:Nat} {c:CS} {i:Nat} (h:COk n c i) (o:Op18) (b:Bool):COk n { c with m:=(stepM c.m c.gl o b).1,gl:=(stepM c.m c.gl o b).2 } (i+1):=by
 cases h with
 | w h1 h2 h3 h4=>exact .w (h1.step o b) h2 h3 (Nat.le_succ_of_le h4)
 | r h1 h2 h3 h4=>exact .r (h1.step o b) h2 (Nat.le_succ_of_le h3) h4
 | mk h1 h2 h3=>exact .mk (h1.step o b) h2 (Nat.le_succ_of_le h3)
 | s h1 h2 h3 h4 h5 h6=>exact .s (h1.step o b) h2 (Nat.le_succ_of_le h3) h4 h5 (Nat.le_trans h6 (Nat.mul_le_mul_left _ (Nat.le_succ _)))
theorem MI.notes {m:HM} {gl:List Gb} {xs:List Int} {k w i:Nat} (h:MI m gl xs k w i) {l:List Int} (hl:l.length≤15):MI (ntA (m,xs,k) l).1 gl (ntA (m,xs,k) l).2.1 (ntA (m,xs,k) l).2.2 w (i+1):=by
 have hn:=le_notes (l:=l) (x:=(m,xs,k)) h.le
 have h1:=h.len
 have h2:=h.w
 have h3:(m,xs,k).2.1.length=xs.length:=rfl
 exact ⟨HI.notes (x:=(m,xs,k)) h.hi,hn.1,by omega,by omega,StkOk.notes (x:=(m,xs,k)) h.le h.ok⟩
theorem MI.zero {m:HM} {gl:List Gb} (h:HI m gl) (i:Nat):MI m gl [] 0 0 i:=⟨h,Nat.le_refl _,Nat.zero_le _,Nat.zero_le _,fun a ha=>by cases ha⟩
abbrev KP:List Nat:=[0,1,2,3,4,5,6,7,8,9,10,13]
abbrev KDo:List Nat:=[0,1,5,6,9]
def Both (n i:Nat) (c:CS) (fP fD:FuncId) (b:Value) (bD:Value):Prop:=∃ c',COk n c' i∧TrK Tryz.prog [] KP fP [ptr 13] (CYs n c) (fun v K=>v=b∧K=CYs n c')∧∀ z,z=0∨z=1→∃ z',(z'=0∨z'=1)∧TrK Tryz.prog [] KDo fD [ptr 9] (DYs z n c) (fun v K=>v=bD∧K=DYs z' n c')
theorem step_both {n:Nat} (hn:n≤3) {c:CS} {i:Nat} (hi:i≤60) (h:COk n c i):∃ b:Bool,Both n (i+1) c 13 14 (.bool b) (.bool b):=by
 cases h with
 | @w old m gl t ph a ct gn _ h1 h2 h3 h4 =>
  rcases h2 with rfl | rfl
  ·exact ⟨false,_,.w h1 (.inl rfl) h3 (by omega),(cStep_idle n hn old m t a ct gn).fewer (by kernel_rfl),fun z hz=>⟨z,hz,(dStep_idle z n hn old m gl t a ct gn).fewer (by kernel_rfl)⟩⟩
  ·cases hA:allT n t with
   | false=>exact ⟨false,_,.w h1 (.inr rfl) h3 (by omega),(cStep_wait n hn old m t hA a ct gn).fewer (by kernel_rfl),fun z hz=>⟨z,hz,(dStep_wait z n hn old m gl t hA a ct gn).fewer (by kernel_rfl)⟩⟩
   | true =>
    have hP:=(cStep_begin m h1.toHOk n hn old t hA a ct gn).fewer (keep':=KP) (by kernel_rfl)
    have hD:=fun z=>(dStep_begin z n hn old m h1.toHOk gl t hA a ct gn).fewer (keep':=KDo) (by kernel_rfl)
    by_cases h0:n=0
    ·rw [if_pos h0] at hP hD
     exact ⟨true,_,.mk (MI.zero h1.unmark (i+1)) h3 (by omega),hP,fun z hz=>⟨z,hz,hD z⟩⟩
    ·rw [if_neg h0] at hP hD
     exact ⟨true,_,.r (a:=0) (MI.zero h1.unmark (i+1)) h3 (by omega) (by omega),hP,fun z hz=>⟨z,hz,hD z⟩⟩
 | @r old m gl t a ct gn xs k w _ h1 h2 h3 h4 =>
  have hl:=h1.len
  have hr6:=h2.l a
  have hP:=(cStep_root m gl h1.hi n hn old t a h4 ct gn xs k w h1.le (by omega) (h2.i a) (by omega)).fewer (keep':=KP) (by kernel_rfl)
  have hD:=fun z=>(dStep_root z n hn old m gl h1.hi t a h4 ct gn (xs.take k) w (by rw [List.length_take]; omega) (by omega)).fewer (keep':=KDo) (by kernel_rfl)
  have hM:=h1.notes (l:=rOf t a) (by omega)
  have hrt:rtA (m,xs.take k) (rOf t a)=((ntA (m,xs,k) (rOf t a)).1,stk (ntA (m,xs,k) (rOf t a))):=rt_nts (x:=(m,xs,k)) h1.le
  rw [hrt] at hD
  by_cases h0:a+1=n
  ·rw [if_pos h0] at hP hD
   exact ⟨true,_,.mk hM h2 (by omega),hP,fun z hz=>⟨z,hz,hD z⟩⟩
  ·rw [if_neg h0] at hP hD
   exact ⟨true,_,.r hM h2 (by omega) (by omega),hP,fun z hz=>⟨z,hz,hD z⟩⟩
 | @mk old m gl t a ct gn xs k w _ h1 h2 h3 =>
  have hl:=h1.len
  have hw:=h1.w
  cases k with
  | zero =>
   have hpl:=pagesH_len m
   have hmn:=h1.hi.n1
   have hx3:(natI (pagesH m)).length=(pagesH m).length:=natI_length _
   exact ⟨true,_,.s (xs:=natI (pagesH m)) h1.hi h2 (by omega) (by omega) (by omega) (Nat.zero_le _),(cStep_lookno m h1.hi.toHOk n hn old t a ct gn xs w).fewer (by kernel_rfl),fun z hz=>⟨z,hz,(dStep_lookno z n hn old m gl h1.hi.toHOk t a ct gn w).fewer (by kernel_rfl)⟩⟩
  | succ k =>
   have hle:=h1.le
   obtain ⟨i0,hx,hi0,ht⟩:=h1.top
   have hP:=(cStep_look m gl h1.hi n hn old t a ct gn xs k w i0 hx hi0 (by omega) (by omega)).fewer (keep':=KP) (by kernel_rfl)
   have hD:=fun z=>(dStep_look z n hn old m gl h1.hi t a ct gn (xs.take k) w i0 hi0 (by rw [List.length_take]; omega) (by omega)).fewer (keep':=KDo) (by kernel_rfl)
   have hrt:rtA (m,xs.take k) (refsF m.bs (16*i0))=((ntA (m,xs,k) (refsF m.bs (16*i0))).1,stk (ntA (m,xs,k) (refsF m.bs (16*i0)))):=rt_nts (x:=(m,xs,k)) (l:=refsF m.bs (16*i0)) (by show k≤xs.length; omega)
   rw [hrt,← ht] at hD
   exact ⟨true,_,.mk (h1.look hx) h2 (by omega),hP,fun z hz=>⟨z,hz,hD z⟩⟩
 | @s m gl t a ct gn xs j k w _ h1 h2 h3 h4 h5 h6 =>
  cases k with
  | zero=>exact ⟨true,_,.w (old:=true) h1 (.inl rfl) TOk.t0 (by omega),(cStep_cleanno m n hn t a ct gn (by omega) xs j w h4).fewer (by kernel_rfl),fun z hz=>⟨0,.inl rfl,dStep_cleanno z n hn m gl t a ct gn (by omega) xs j w⟩⟩
  | succ k =>
   have hP:=(cStep_clean m gl h1 n hn t a ct gn xs h5 j k w (by omega) h4).fewer (keep':=KP) (by kernel_rfl)
   have hD:=fun z=>(dStep_clean z n hn m gl h1 t a ct gn xs h5 j k w (by omega) h4).fewer (keep':=KDo) (by kernel_rfl)
   have hs:=swN_le h1 xs j
   exact ⟨true,_,.s (HIswS h1 xs j) h2 (by omega) (by omega) h5 (by omega),hP,fun z hz=>⟨z,hz,hD z⟩⟩
end Go.Proofs.YthmdialagibpfaaGreatDoor
end
section
namespace Go.Proofs.YthmdialagibpfaaGreatDoor
open Go Go.Tum Go.Tum.Base
set_option maxRecDepth 4000
theorem CY_len (n:Nat) (kd:Kd) (m:HM) (t:Ths) (ph a:Int) (ct gn:Nat) (xs:List Int) (j k w:Nat):(CY n kd m t ph a ct gn xs j k w).length=21:=by cases kd <;> rfl
theorem DY_len (z n:Nat) (kd:Kd) (m:HM) (gl:List Gb) (t:Ths) (ph a:Int) (ct gn:Nat) (xs:List Int) (j k w:Nat):(DY z n kd m gl t ph a ct gn xs j k w).length=18:=by cases kd <;> rfl
theorem toP {n:Nat} {kd:Kd} {m:HM} {t:Ths} {ph a:Int} {ct gn:Nat} {xs:List Int} {j k w:Nat} {f:FuncId} {us:List Value} {R:Value→LH→Prop} (h:Tr Tryz.prog f us (CY n kd m t ph a ct gn xs j k w) R):TrK Tryz.prog [] KP f us (CY n kd m t ph a ct gn xs j k w) R:=h.fewer (by rw [CY_len]; kernel_rfl)
theorem toD {z n:Nat} {kd:Kd} {m:HM} {gl:List Gb} {t:Ths} {ph a:Int} {ct gn:Nat} {xs:List Int} {j k w:Nat} {f:FuncId} {us:List Value} {R:Value→LH→Prop} (h:Tr Tryz.prog f us (DY z n kd m gl t ph a ct gn xs j k w) R):TrK Tryz.prog [] KDo f us (DY z n kd m gl t ph a ct gn xs j k w) R:=h.fewer (by rw [DY_len]; kernel_rfl)
def rowsQA:List FnRow:=[row_cycle_Cycle_All,row_cycle_Cycle_All_c1,row_slices_ContainsFunc_cycle_thread_cycle_thread_,row_slices_IndexFunc_cycle_thread_cycle_thread_]
theorem rowsQA_ok:∀ x∈rowsQA,x.Ok Tryz.prog:=by
 refine List.forall_mem_cons.2 ⟨row_cycle_Cycle_All_ok,?_⟩
 refine List.forall_mem_cons.2 ⟨row_cycle_Cycle_All_c1_ok,?_⟩
 refine List.forall_mem_cons.2 ⟨row_slices_ContainsFunc_cycle_thread_cycle_thread__ok,?_⟩
 refine List.forall_mem_cons.2 ⟨row_slices_IndexFunc_cycle_thread_cycle_thread__ok,?_⟩
 exact fun x hx=>by cases hx
def rowsQR:List FnRow:=[row_cycle_Cycle_Request,row_cycle_Cycle_Stopped,row_cycle_Cycle_in]
theorem rowsQR_ok:∀ x∈rowsQR,x.Ok Tryz.prog:=by
 refine List.forall_mem_cons.2 ⟨row_cycle_Cycle_Request_ok,?_⟩
 refine List.forall_mem_cons.2 ⟨row_cycle_Cycle_Stopped_ok,?_⟩
 refine List.forall_mem_cons.2 ⟨row_cycle_Cycle_in_ok,?_⟩
 exact fun x hx=>by cases hx
def rowsQD:List FnRow:=[row_tumbrelref22_Cycle_All,row_tumbrelref22_Cycle_Request]
theorem rowsQD_ok:∀ x∈rowsQD,x.Ok Tryz.prog:=by
 refine List.forall_mem_cons.2 ⟨row_tumbrelref22_Cycle_All_ok,?_⟩
 refine List.forall_mem_cons.2 ⟨row_tumbrelref22_Cycle_Request_ok,?_⟩
 exact fun x hx=>by cases hx
set_option maxHeartbeats 8000000 in
theorem qAll_tr (n:Nat) (hn:n≤3) (kd:Kd) (m:HM) (t:Ths) (ph a:Int) (ct gn:Nat) (xs:List Int) (j k w:Nat):Tr Tryz.prog 19 [ptr 13] (CY n kd m t ph a ct gn xs j k w) (fun v K=>v=.bool (allT n t)∧K=CY n kd m t ph a ct gn xs j k w):=by
 obtain ⟨s0,s1,s2,r0,r1,r2⟩:=t
 obtain rfl | rfl | rfl | rfl:n=0∨n=1∨n=2∨n=3:=by omega
 all_goals cases kd <;> cases s0 <;> cases s1 <;> cases s2
 all_goals exact Tr.runK N21 (fuel:=2000) rowsQA_ok (rawQ1_ok _) (rawE2_ok _) (by kernel_rfl) (by kernel_rfl) (by kernel_rfl) (by kernel_rfl)
set_option maxHeartbeats 8000000 in
theorem qdAll_tr (z n:Nat) (hn:n≤3) (kd:Kd) (m:HM) (gl:List Gb) (t:Ths) (ph a:Int) (ct gn:Nat) (xs:List Int) (j k w:Nat):Tr Tryz.prog 20 [ptr 9] (DY z n kd m gl t ph a ct gn xs j k w) (fun v K=>v=.bool (allT n t)∧K=DY z n kd m gl t ph a ct gn xs j k w):=by
 obtain ⟨s0,s1,s2,r0,r1,r2⟩:=t
 obtain rfl | rfl | rfl | rfl:n=0∨n=1∨n=2∨n=3:=by omega
 all_goals cases kd <;> cases s0 <;> cases s1 <;> cases s2
 all_goals exact Tr.runK D18 (fuel:=2000) rowsQD_ok (rawQ1_ok _) (rawE2_ok _) (by kernel_rfl) (by kernel_rfl) (by kernel_rfl) (by kernel_rfl)
theorem qRequest_no (n:Nat) (hn:n≤3) (kd:Kd) (m:HM) (t:Ths) (ph:Int) (hp:ph=1∨ph=2∨ph=3∨ph=4) (a:Int) (ct gn:Nat) (xs:List Int) (j k w:Nat):Tr Tryz.prog 8 [ptr 13] (CY n kd m t ph a ct gn xs j k w) (fun v K=>v=.int .i64 0∧K=CY n kd m t ph a ct gn xs j k w):=by
 obtain rfl | rfl | rfl | rfl:=hp
 all_goals obtain rfl | rfl | rfl | rfl:n=0∨n=1∨n=2∨n=3:=by omega
 all_goals cases kd
 all_goals exact Tr.runK N21 (fuel:=200) rowsQR_ok (rawQ1_ok _) (rawE2_ok _) (by kernel_rfl) (by kernel_rfl) (by kernel_rfl) (by kernel_rfl)
theorem qdRequest_no (z n:Nat) (hn:n≤3) (kd:Kd) (m:HM) (gl:List Gb) (t:Ths) (ph:Int) (hp:ph=1∨ph=2∨ph=3∨ph=4) (a:Int) (ct gn:Nat) (xs:List Int) (j k w:Nat):Tr Tryz.prog 9 [ptr 9] (DY z n kd m gl t ph a ct gn xs j k w) (fun v K=>v=undef∧K=DY z n kd m gl t ph a ct gn xs j k w):=by
 obtain rfl | rfl | rfl | rfl:=hp
 all_goals obtain rfl | rfl | rfl | rfl:n=0∨n=1∨n=2∨n=3:=by omega
 all_goals cases kd
 all_goals exact Tr.runK D18 (fuel:=200) rowsQD_ok (rawQ1_ok _) (rawE2_ok _) (by kernel_rfl) (by kernel_rfl) (by kernel_rfl) (by kernel_rfl)
end Go.Proofs.YthmdialagibpfaaGreatDoor
end
section
namespace Go.Tum
open Go
section
variable {P:Program} {n0:NA} {l l1:Env} {L L1 Lc:LH} {T T1:Taken} {K:Env→LH→Prop} {ss r:List Step} {d:Option Nat} {g:Option (Nat × Bool)} {pend:List Nat}
theorem cWhU {v1:Value} {K2:LH} {keep:List Nat} {f:FuncId} {args:List Operand} {vs:List Value} (ht:TrK P [] keep f vs L1 (fun v K=>v=v1∧K=K2)) (hn:LSt P n0 r K (dpush d v1 l1) T1 K2) (h:arun [] ss l T L=(.e d g (.call f args) pend::r,l1,T1,L1):=by exact rfl) (hg:gw g l1=some true:=by exact rfl)
  (hv:lvs l1 args=some vs:=by exact rfl) (h5:disj (dropped keep 0 (seqN 0 L1.length)) n0.keep=true:=by kernel_rfl) (h6:nmE (dropped keep 0 (seqN 0 L1.length)) l1=true:=by kernel_rfl) (h7:nmT (dropped keep 0 (seqN 0 L1.length)) T1=true:=by kernel_rfl)
  (hc:chkG P n0 (seqN 0 L1.length) T1 L1 K2 pend:=by repeat' (first|exact trivial|refine ⟨.inl rfl,?_⟩|refine ⟨.inr ⟨qsafe_ok (st:=[]) rfl,Sure.of rfl⟩,?_⟩ | fail)):LSt P n0 ss K l T L :=
 S_Ed [] h hg (EWd.whole ht hv) h5 h6 h7 (by rintro _ _ ⟨rfl,rfl⟩; exact ⟨hc,hn⟩)
theorem cWhKU {v1:Value} {K2:LH} {keep:List Nat} {f:FuncId} {args:List Operand} {vs:List Value} (ks:List Nat) (ht:TrK P [] keep f vs L1 (fun v K=>v=v1∧K=K2)) (hn:LSt P n0 r K (dpush d v1 (repick l1 ks)) T1 K2) (h:arun [] ss l T L=(.e d g (.call f args) pend::r,l1,T1,L1):=by exact rfl) (hg:gw g l1=some true:=by exact rfl)
  (hv:lvs l1 args=some vs:=by exact rfl) (h5:disj (dropped keep 0 (seqN 0 L1.length)) n0.keep=true:=by kernel_rfl) (h6:nmE (dropped keep 0 (seqN 0 L1.length)) (repick l1 ks)=true:=by kernel_rfl) (h7:nmT (dropped keep 0 (seqN 0 L1.length)) T1=true:=by kernel_rfl)
  (hc:chkG P n0 (seqN 0 L1.length) T1 L1 K2 pend:=by repeat' (first|exact trivial|refine ⟨.inl rfl,?_⟩|refine ⟨.inr ⟨qsafe_ok (st:=[]) rfl,Sure.of rfl⟩,?_⟩ | fail)):LSt P n0 ss K l T L :=
 S_EdK ks h hg (EWd.whole ht hv) h5 h6 h7 (by rintro _ _ ⟨rfl,rfl⟩; exact ⟨hc,hn⟩)
theorem cArU {A:Args} {v1 v2:Value} {L2 K2:LH} {f:FuncId} {args:List Operand} {vs us:List Value} (φ:List Nat) (ht:TrK P A (seqN 0 Lc.length) f us Lc (fun v K=>v=v1∧K=L2)) (hd:handed φ (seqN 0 Lc.length) n0.A A) (h4:joinQ φ L1 L2=K2) (hn:LSt P n0 r K (dpush d v2 l1) T1 K2) (h:arun [] ss l T L=(.e d g (.call f args) pend::r,l1,T1,L1):=by exact rfl) (hg:gw g l1=some true:=by exact rfl)
  (hv:lvs l1 args=some vs:=by exact rfl) (he:us.map (rnV L1.length φ)=vs:=by exact rfl) (h1:φ.Nodup:=by decide) (h2:partL L1 φ φ Lc:=by repeat' (first|exact trivial|refine ⟨rfl,?_⟩ | fail)) (h3:rnV (L1.length+L2.length) (phi2 φ L1.length L2) v1=v2:=by exact rfl)
  (hc:chkP P n0 T1 K2 pend:=by repeat' (first|exact trivial|refine ⟨⟨qsafe_ok (st:=[]) rfl,Sure.of rfl⟩,?_⟩ | fail)):LSt P n0 ss K l T L :=
 S_E [] h hg ((EW.callA φ ht hv he (Part.of h1 h2) hd).mono fun v K ⟨v',L',⟨h3',h4'⟩,h5',h6'⟩=>(by subst h3'; subst h4'; exact ⟨h5'.trans h3,h6'.trans ((joinQ_eq h1).trans h4)⟩:v=v2∧K=K2)) (by rintro _ _ ⟨rfl,rfl⟩; exact ⟨hc,hn⟩)
def thinT (T:Taken):Taken:=T.map fun x=>(x.1,x.2.1,[],x.2.2.2)
theorem TR.thin {E:Emb}:∀ {T:Taken} {F:Facts},TR P E T F→TR P E (thinT T) F
 | [],[],_=>trivial
 | (_,_,_,_)::_,(_,_)::_,⟨h1,⟨l',v',h2,_,h4⟩,h5⟩=>⟨h1,⟨l',v',h2,(fun t v ht=>(by cases ht)),h4⟩,h5.thin⟩
 | [],_::_,k=>k.elim
 | _::_,[],k=>k.elim
theorem LSt.thin (h:LSt P n0 ss K l (thinT T) L):LSt P n0 ss K l T L:=⟨fun X w0 E0 w E l' F h0 hE hR hl hT=>h.go X w0 E0 w E l' F h0 hE hR hl hT.thin⟩
theorem drop_all (N:Nat):dropped (seqN 0 N) 0 (seqN 0 N)=[]:=dropped_seq _ 0 N (by rw [seqN_length]; omega)
theorem cSame {v1:Value} {f:FuncId} {args:List Operand} {vs:List Value} (ht:Tr P f vs L1 (fun v K=>v=v1∧K=L1)) (hn:LSt P n0 r K (dpush d v1 l1) T1 L1) (h:arun [] ss l T L=(.e d g (.call f args) pend::r,l1,T1,L1):=by exact rfl) (hg:gw g l1=some true:=by exact rfl)
  (hv:lvs l1 args=some vs:=by exact rfl)
  (hc:chkG P n0 (seqN 0 L1.length) T1 L1 L1 pend:=by repeat' (first|exact trivial|refine ⟨.inl rfl,?_⟩|refine ⟨.inr ⟨qsafe_ok (st:=[]) rfl,Sure.of rfl⟩,?_⟩ | fail)):LSt P n0 ss K l T L :=
 S_Ed [] h hg (EWd.whole ht hv) (by rw [drop_all]; exact disj_nil _) (by rw [drop_all]; exact nm_nilE _) (by rw [drop_all]; exact nm_nilT _) (by rintro _ _ ⟨rfl,rfl⟩; exact ⟨hc,hn⟩)
end
end Go.Tum
end
section
namespace Go.Proofs.YthmdialagibpfaaGreatDoor
open Go Go.Tum Go.Tum.Base
set_option maxRecDepth 4000
theorem request_both {n:Nat} (hn:n≤3) {c:CS} {i:Nat} (h:COk n c i):Both n (i+1) c 8 9 (.int .i64 0) undef:=by
 have hu:=h.up
 cases h with
 | @w old m gl t ph a ct gn _ h1 h2 h3 h4 =>
  rcases h2 with rfl | rfl
  ·exact ⟨_,.w h1 (.inr rfl) h3 (by omega),toP (cRequest_tr n hn old m t a ct gn),fun z hz=>⟨z,hz,toD (dRequest_tr z n hn old m gl t a ct gn)⟩⟩
  ·exact ⟨_,hu,toP (qRequest_no n hn _ m t 1 (.inl rfl) a ct gn [] 0 0 0),fun z hz=>⟨z,hz,toD (qdRequest_no z n hn _ m gl t 1 (.inl rfl) a ct gn [] 0 0 0)⟩⟩
 | r=>exact ⟨_,hu,toP (qRequest_no n hn _ _ _ 2 (.inr (.inl rfl)) _ _ _ _ _ _ _),fun z hz=>⟨z,hz,toD (qdRequest_no z n hn _ _ _ _ 2 (.inr (.inl rfl)) _ _ _ _ _ _ _)⟩⟩
 | mk=>exact ⟨_,hu,toP (qRequest_no n hn _ _ _ 3 (.inr (.inr (.inl rfl))) _ _ _ _ _ _ _),fun z hz=>⟨z,hz,toD (qdRequest_no z n hn _ _ _ _ 3 (.inr (.inr (.inl rfl))) _ _ _ _ _ _ _)⟩⟩
 | s=>exact ⟨_,hu,toP (qRequest_no n hn _ _ _ 4 (.inr (.inr (.inr rfl))) _ _ _ _ _ _ _),fun z hz=>⟨z,hz,toD (qdRequest_no z n hn _ _ _ _ 4 (.inr (.inr (.inr rfl))) _ _ _ _ _ _ _)⟩⟩
def stAt (n:Nat) (t:Ths) (i:Int):Bool:=decide (0≤i∧i<n) && [t.s0,t.s1,t.s2].getD i.toNat false
theorem qIn_at (n:Nat) (hn:n≤3) (kd:Kd) (m:HM) (t:Ths) (i:Int) (ph a:Int) (ct gn:Nat) (xs:List Int) (j k w:Nat) (X:LH):Tr Tryz.prog 36 [ptr 13,.int .i64 i] (CY n kd m t ph a ct gn xs j k w++X) (fun v K=>v=.bool (decide (0≤i∧i<n))∧K=CY n kd m t ph a ct gn xs j k w++X):=by
 refine Tr.of row_cycle_Cycle_in_ok rfl ?_
 repeat' (first|refine qN ?_|refine dN ?_|refine d0 ?_|refine aI (hn:=?_)|refine sP 7 (fun h=>?_) (fun h=>?_)|refine sP 11 (fun h=>?_) (fun h=>?_)|refine qR ?_|refine qS ?_|exact ⟨rfl,rfl⟩|fail)
 ·refine L_ret (RetQ.all rfl ⟨congrArg Value.bool ?_,rfl⟩ (Nat.ble_eq_true_of_le (Nat.le_refl _)))
  rw [decide_eq_decide]; omega
 ·refine L_ret (RetQ.all rfl ⟨congrArg Value.bool ?_,rfl⟩ (Nat.ble_eq_true_of_le (Nat.le_refl _)))
  symm; rw [decide_eq_false_iff_not]; omega
theorem qStopped_no (n:Nat) (hn:n≤3) (kd:Kd) (m:HM) (t:Ths) (i:Int) (hi:i<0∨(n:Int)≤i) (ph a:Int) (ct gn:Nat) (xs:List Int) (j k w:Nat):Tr Tryz.prog 21 [ptr 13,.int .i64 i] (CY n kd m t ph a ct gn xs j k w) (fun v K=>v=.bool false∧K=CY n kd m t ph a ct gn xs j k w):=by
 have hI:=qIn_at n hn kd m t i ph a ct gn xs j k w []
 rw [List.append_nil,decide_eq_false (by omega)] at hI
 refine Tr.of row_cycle_Cycle_Stopped_ok rfl ?_
 repeat' (first|refine qN ?_|refine dN ?_|refine d0 ?_|refine aX ?_|refine cSame hI ?_|refine aI (hn:=?_)|refine sP 8 (fun h=>?_) (fun h=>?_)|refine qR ?_|refine qS ?_|exact ⟨rfl,rfl⟩|fail)
 exact L_ret (RetQ.all rfl ⟨rfl,rfl⟩ (Nat.ble_eq_true_of_le (Nat.le_refl _)))
theorem qStopped_tr (n:Nat) (hn:n≤3) (kd:Kd) (m:HM) (t:Ths) (i:Int) (ph a:Int) (ct gn:Nat) (xs:List Int) (j k w:Nat):Tr Tryz.prog 21 [ptr 13,.int .i64 i] (CY n kd m t ph a ct gn xs j k w) (fun v K=>v=.bool (stAt n t i)∧K=CY n kd m t ph a ct gn xs j k w):=by
 by_cases h:0≤i∧i<n
 ·obtain ⟨k',rfl⟩:=Int.eq_ofNat_of_zero_le h.1
  have:=cStopped_tr n hn kd m t k' (by omega) ph a ct gn xs j k w
  rw [stAt,decide_eq_true h,Bool.true_and,Int.toNat_natCast]
  exact this
 ·rw [stAt,decide_eq_false h,Bool.false_and]
  exact qStopped_no n hn kd m t i (by omega) ph a ct gn xs j k w
end Go.Proofs.YthmdialagibpfaaGreatDoor
end
section
namespace Go.Proofs.YthmdialagibpfaaGreatDoor
open Go Go.Tum Go.Tum.Base
set_option maxRecDepth 4000
abbrev gX (x:List Int):LB:=.gro 1 (rowsC intC x)
theorem qStop_arg (n:Nat) (hn:n≤3) (kd:Kd) (m:HM) (t:Ths) (i:Int) (hi:i<0∨(n:Int)≤i) (ph a:Int) (ct gn:Nat) (xs:List Int) (j k w:Nat) (x:List Int):Tr Tryz.prog 11 [ptr 13,.int .i64 i,slB 21 x.length] (CY n kd m t ph a ct gn xs j k w++[gX x]) (fun v K=>v=.int .i64 1∧K=CY n kd m t ph a ct gn xs j k w++[gX x]):=by
 have hI:=qIn_at n hn kd m t i ph a ct gn xs j k w [gX x]
 rw [decide_eq_false (by omega)] at hI
 refine Tr.of row_cycle_Cycle_Stop_ok rfl ?_
 repeat' (first|refine qN ?_|refine dN ?_|refine d0 ?_|refine qB ?_|refine qT ?_|refine qU ?_|refine qL ?_|refine qK ?_|refine iF (fun h=>?_) (fun h=>?_)|refine aX ?_|refine cSame hI ?_|refine aI (hn:=?_)|refine qR ?_|refine qS ?_|exact ⟨rfl,rfl⟩|fail)
 exact L_ret (RetQ.all rfl ⟨rfl,rfl⟩ (Nat.ble_eq_true_of_le (Nat.le_refl _)))
theorem qStop_state (n:Nat) (hn:n≤3) (kd:Kd) (m:HM) (t:Ths) (i:Nat) (hi:i<n) (ph:Int) (hp:ph=0∨ph=2∨ph=3∨ph=4) (a:Int) (ct gn:Nat) (xs:List Int) (j k w:Nat) (x:List Int):Tr Tryz.prog 11 [ptr 13,.int .i64 i,slB 21 x.length] (CY n kd m t ph a ct gn xs j k w++[gX x]) (fun v K=>v=.int .i64 8∧K=CY n kd m t ph a ct gn xs j k w++[gX x]):=by
 have hI:=qIn_at n hn kd m t i ph a ct gn xs j k w [gX x]
 rw [decide_eq_true (by omega)] at hI
 refine Tr.of row_cycle_Cycle_Stop_ok rfl ?_
 repeat' (first|refine qN ?_|refine dN ?_|refine d0 ?_|refine qB ?_|refine qT ?_|refine qU ?_|refine qL ?_|refine qK ?_|refine iF (fun h=>?_) (fun h=>?_)|refine aX ?_|refine cSame hI ?_|refine aI (hn:=?_)|refine qR ?_|refine qS ?_|exact ⟨rfl,rfl⟩|fail)
 all_goals first | (exfalso; omega)|exact L_ret (RetQ.all rfl ⟨rfl,rfl⟩ (Nat.ble_eq_true_of_le (Nat.le_refl _)))
def rowsUS:List FnRow:=[row_cycle_Cycle_Stop,row_cycle_Cycle_in,row_slices_Clone_int_int_]
theorem rowsUS_ok:∀ x∈rowsUS,x.Ok Tryz.prog:=by
 refine List.forall_mem_cons.2 ⟨row_cycle_Cycle_Stop_ok,?_⟩
 refine List.forall_mem_cons.2 ⟨row_cycle_Cycle_in_ok,?_⟩
 refine List.forall_mem_cons.2 ⟨row_slices_Clone_int_int__ok,?_⟩
 exact fun x hx=>by cases hx
theorem qStop_there (n:Nat) (hn:n≤3) (old:Bool) (m:HM) (t:Ths) (i:Nat) (hi:i<n) (hs:[t.s0,t.s1,t.s2].getD i false=true) (a:Int) (ct gn:Nat) (x:List Int):Tr Tryz.prog 11 [ptr 13,.int .i64 i,slB 21 x.length] (CY n (bif old then .w1 else .w0) m t 1 a ct gn [] 0 0 0++[gX x]) (fun v K=>v=.int .i64 7∧K=CY n (bif old then .w1 else .w0) m t 1 a ct gn [] 0 0 0++[gX x]):=by
 obtain ⟨s0,s1,s2,r0,r1,r2⟩:=t
 obtain ⟨rfl,rfl⟩ | ⟨rfl,rfl⟩ | ⟨rfl,rfl⟩ | ⟨rfl,rfl⟩ | ⟨rfl,rfl⟩ | ⟨rfl,rfl⟩:(n=1∧i=0)∨(n=2∧i=0)∨(n=2∧i=1)∨(n=3∧i=0)∨(n=3∧i=1)∨(n=3∧i=2):=by omega
 all_goals cases old
 all_goals
  obtain rfl:=hs
  exact Tr.runK [0,1,2,3,4,5,6,7,8,9,10,11,12,13,14,15,16,17,18,19,20,21] (fuel:=2000) rowsUS_ok (rawQ1_ok _) (rawE2_ok _) (by kernel_rfl) (by kernel_rfl) (by kernel_rfl) (by kernel_rfl)
end Go.Proofs.YthmdialagibpfaaGreatDoor
end
section
namespace Go.Proofs.YthmdialagibpfaaGreatDoor
open Go Go.Tum Go.Tum.Base
set_option maxRecDepth 4000
set_option maxHeartbeats 8000000 in
theorem qdStop_arg (z n:Nat) (hn:n≤3) (kd:Kd) (m:HM) (gl:List Gb) (t:Ths) (i:Int) (hi:i<0∨(n:Int)≤i) (ph a:Int) (ct gn:Nat) (xs:List Int) (j k w:Nat) (x:List Int):Tr Tryz.prog 12 [ptr 9,.int .i64 i,slB 18 x.length] (DY z n kd m gl t ph a ct gn xs j k w++[.gro 1 (rowsC intC x)]) (fun v K=>v=.int .i64 1∧K=DY z n kd m gl t ph a ct gn xs j k w++[.gro 1 (rowsC intC x)]):=by
 refine Tr.of row_tumbrelref22_Cycle_Stop_ok rfl ?_
 repeat' (first|refine qN ?_|refine dN ?_|refine d0 ?_|refine qT ?_|refine qU ?_|refine qL ?_|refine qK ?_|refine iF (fun h=>?_) (fun h=>?_)|refine aX ?_|refine aI (hn:=?_)|refine sP 11 (fun h=>?_) (fun h=>?_)|refine qR ?_|refine qS ?_|exact ⟨rfl,rfl⟩|fail)
 all_goals first | (exfalso; omega)|exact L_ret (RetQ.all rfl ⟨rfl,rfl⟩ (Nat.ble_eq_true_of_le (Nat.le_refl _)))
def rowsVS:List FnRow:=[row_tumbrelref22_Cycle_Stop]
theorem rowsVS_ok:∀ x∈rowsVS,x.Ok Tryz.prog:=by
 refine List.forall_mem_cons.2 ⟨row_tumbrelref22_Cycle_Stop_ok,?_⟩
 exact fun x hx=>by cases hx
theorem qdStop_state (z n:Nat) (hn:n≤3) (kd:Kd) (m:HM) (gl:List Gb) (t:Ths) (i:Nat) (hi:i<n) (ph:Int) (hp:ph=0∨ph=2∨ph=3∨ph=4) (a:Int) (ct gn:Nat) (xs:List Int) (j k w:Nat) (x:List Int):Tr Tryz.prog 12 [ptr 9,.int .i64 i,slB 18 x.length] (DY z n kd m gl t ph a ct gn xs j k w++[.gro 1 (rowsC intC x)]) (fun v K=>v=.int .i64 8∧K=DY z n kd m gl t ph a ct gn xs j k w++[.gro 1 (rowsC intC x)]):=by
 refine Tr.of row_tumbrelref22_Cycle_Stop_ok rfl ?_
 repeat' (first|refine qN ?_|refine dN ?_|refine d0 ?_|refine qT ?_|refine qU ?_|refine qL ?_|refine qK ?_|refine iF (fun h=>?_) (fun h=>?_)|refine aX ?_|refine aI (hn:=?_)|refine sP 11 (fun h=>?_) (fun h=>?_)|refine qR ?_|refine qS ?_|exact ⟨rfl,rfl⟩|fail)
 all_goals first | (exfalso; omega)|exact L_ret (RetQ.all rfl ⟨rfl,rfl⟩ (Nat.ble_eq_true_of_le (Nat.le_refl _)))
theorem qdStop_there (z n:Nat) (hn:n≤3) (old:Bool) (m:HM) (gl:List Gb) (t:Ths) (i:Nat) (hi:i<n) (hs:[t.s0,t.s1,t.s2].getD i false=true) (a:Int) (ct gn:Nat) (x:List Int):Tr Tryz.prog 12 [ptr 9,.int .i64 i,slB 18 x.length] (DY z n (bif old then .w1 else .w0) m gl t 1 a ct gn [] 0 0 0++[.gro 1 (rowsC intC x)]) (fun v K=>v=.int .i64 7∧K=DY z n (bif old then .w1 else .w0) m gl t 1 a ct gn [] 0 0 0++[.gro 1 (rowsC intC x)]):=by
 obtain ⟨s0,s1,s2,r0,r1,r2⟩:=t
 obtain ⟨rfl,rfl⟩ | ⟨rfl,rfl⟩ | ⟨rfl,rfl⟩ | ⟨rfl,rfl⟩ | ⟨rfl,rfl⟩ | ⟨rfl,rfl⟩:(n=1∧i=0)∨(n=2∧i=0)∨(n=2∧i=1)∨(n=3∧i=0)∨(n=3∧i=1)∨(n=3∧i=2):=by omega
 all_goals cases old
 all_goals
  obtain rfl:=hs
  exact Tr.runK [0,1,2,3,4,5,6,7,8,9,10,11,12,13,14,15,16,17,18] (fuel:=2000) rowsVS_ok (rawQ1_ok _) (rawE2_ok _) (by kernel_rfl) (by kernel_rfl) (by kernel_rfl) (by kernel_rfl)
end Go.Proofs.YthmdialagibpfaaGreatDoor
end
section
namespace Go.Proofs.YthmdialagibpfaaGreatDoor
open Go Go.Tum Go.Tum.Base
set_option maxRecDepth 4000
theorem CYx_len (n:Nat) (kd:Kd) (m:HM) (t:Ths) (ph a:Int) (ct gn:Nat) (xs:List Int) (j k w:Nat) (b:LB):(CY n kd m t ph a ct gn xs j k w++[b]).length=22:=by rw [List.length_append,CY_len]; rfl
theorem DYx_len (z n:Nat) (kd:Kd) (m:HM) (gl:List Gb) (t:Ths) (ph a:Int) (ct gn:Nat) (xs:List Int) (j k w:Nat) (b:LB):(DY z n kd m gl t ph a ct gn xs j k w++[b]).length=19:=by rw [List.length_append,DY_len]; rfl
theorem toPx {n:Nat} {kd:Kd} {m:HM} {t:Ths} {ph a:Int} {ct gn:Nat} {xs:List Int} {j k w:Nat} {b:LB} {f:FuncId} {us:List Value} {R:Value→LH→Prop} (h:Tr Tryz.prog f us (CY n kd m t ph a ct gn xs j k w++[b]) R):TrK Tryz.prog [] (KP++[21]) f us (CY n kd m t ph a ct gn xs j k w++[b]) R:=h.fewer (by rw [CYx_len]; kernel_rfl)
theorem toDx {z n:Nat} {kd:Kd} {m:HM} {gl:List Gb} {t:Ths} {ph a:Int} {ct gn:Nat} {xs:List Int} {j k w:Nat} {b:LB} {f:FuncId} {us:List Value} {R:Value→LH→Prop} (h:Tr Tryz.prog f us (DY z n kd m gl t ph a ct gn xs j k w++[b]) R):TrK Tryz.prog [] KDo f us (DY z n kd m gl t ph a ct gn xs j k w++[b]) R:=h.fewer (by rw [DYx_len]; kernel_rfl)
def BothS (n i:Nat) (c:CS) (t:Int) (x:List Int):Prop:=∃ (e:Int) (c':CS),COk n c' i∧TrK Tryz.prog [] (KP++[21]) 11 [ptr 13,.int .i64 t,slB 21 x.length] (CYs n c++[gX x]) (fun v K=>v=.int .i64 e∧K=CYs n c'++[gX x])∧∀ z,z=0∨z=1→∃ (z':Nat) (b:LB),(z'=0∨z'=1)∧(b=gX x∨b=.cells 0 [])∧TrK Tryz.prog [] KDo 12 [ptr 9,.int .i64 t,slB 18 x.length] (DYs z n c++[gX x]) (fun v K=>v=.int .i64 e∧K=DYs z' n c'++[b])
theorem stop_state {n:Nat} (hn:n≤3) {c:CS} {i:Nat} (h:COk n c (i+1)) (hp:c.ph=0∨c.ph=2∨c.ph=3∨c.ph=4) (j:Nat) (hj:j<n) (x:List Int):BothS n (i+1) c j x :=
 ⟨8,c,h,toPx (qStop_state n hn c.kd c.m c.t j hj c.ph hp c.a c.ct c.gn c.xs c.j c.k c.w x),fun z hz=>⟨z,_,hz,.inl rfl,toDx (qdStop_state z n hn c.kd c.m c.gl c.t j hj c.ph hp c.a c.ct c.gn c.st c.j c.dk c.w x)⟩⟩
theorem stop_both {n:Nat} (hn:n≤3) {c:CS} {i:Nat} (h:COk n c i) (t:Int) (x:List Int) (hx:x.length≤6) (hxi:∀ a∈x,inI a):BothS n (i+1) c t x:=by
 have hu:=h.up
 by_cases ht:0≤t∧t<n
 ·obtain ⟨j,rfl⟩:=Int.eq_ofNat_of_zero_le ht.1
  have hj:j<n:=by omega
  cases h with
  | @w old m gl t ph a ct gn _ h1 h2 h3 h4 =>
   rcases h2 with rfl | rfl
   ·exact stop_state hn hu (.inl rfl) j hj x
   ·cases hs:[t.s0,t.s1,t.s2].getD j false with
    | true=>exact ⟨7,_,hu,toPx (qStop_there n hn old m t j hj hs a ct gn x),fun z hz=>⟨z,_,hz,.inl rfl,toDx (qdStop_there z n hn old m gl t j hj hs a ct gn x)⟩⟩
    | false =>
     refine ⟨0,_,.w (old:=old) (t:=stopT t j x) (a:=a) (ct:=ct) (gn:=gn) h1 (.inr rfl) (h3.stop j hx hxi) (by omega),(cStop_tr n hn old m t j hj hs a ct gn x (by omega)).fewer (by kernel_rfl),fun z hz=>?_⟩
     obtain ⟨rfl,rfl⟩ | ⟨rfl,rfl⟩ | ⟨rfl,rfl⟩ | ⟨rfl,rfl⟩ | ⟨rfl,rfl⟩ | ⟨rfl,rfl⟩:(n=1∧j=0)∨(n=2∧j=0)∨(n=2∧j=1)∨(n=3∧j=0)∨(n=3∧j=1)∨(n=3∧j=2):=by omega
     ·exact ⟨1,_,.inr rfl,.inr rfl,(dStop10 z hz m gl old t hs a ct gn x).fewer (by kernel_rfl)⟩
     ·exact ⟨1,_,.inr rfl,.inr rfl,(dStop20 z hz m gl old t hs a ct gn x).fewer (by kernel_rfl)⟩
     ·exact ⟨1,_,.inr rfl,.inr rfl,(dStop21 z hz m gl old t hs a ct gn x).fewer (by kernel_rfl)⟩
     ·exact ⟨1,_,.inr rfl,.inr rfl,(dStop30 z hz m gl old t hs a ct gn x).fewer (by kernel_rfl)⟩
     ·exact ⟨1,_,.inr rfl,.inr rfl,(dStop31 z hz m gl old t hs a ct gn x).fewer (by kernel_rfl)⟩
     ·exact ⟨1,_,.inr rfl,.inr rfl,(dStop32 z hz m gl old t hs a ct gn x).fewer (by kernel_rfl)⟩
  | r=>exact stop_state hn hu (.inr (.inl rfl)) j hj x
  | mk=>exact stop_state hn hu (.inr (.inr (.inl rfl))) j hj x
  | s=>exact stop_state hn hu (.inr (.inr (.inr rfl))) j hj x
 ·exact ⟨1,c,hu,toPx (qStop_arg n hn c.kd c.m c.t t (by omega) c.ph c.a c.ct c.gn c.xs c.j c.k c.w x),fun z hz=>⟨z,_,hz,.inl rfl,toDx (qdStop_arg z n hn c.kd c.m c.gl c.t t (by omega) c.ph c.a c.ct c.gn c.st c.j c.dk c.w x)⟩⟩
def mpL:Kd→Value
 | .w0=>nilP
 | _=>ptr 29
def spL:Kd→Value
 | .w0=>nilP
 | .m0=>nilP
 | _=>ptr 30
def tlA (kd:Kd) (xs:List Int) (k w:Nat):LB:=match kd with
 | .m0=>.cells 0 [ptr 2,.slice (some ⟨31,0,none⟩) k xs.length,.int .i64 w]
 | .m1=>.cells 0 [ptr 2,.slice (some ⟨31,0,none⟩) k xs.length,.int .i64 w]
 | _=>.dead
def tlS (kd:Kd) (j k w:Nat):LB:=match kd with
 | .s=>.cells 0 [ptr 2,.slice (some ⟨31,j*1,none⟩) k k,.int .i64 w]
 | _=>.dead
def tlX (kd:Kd) (xs:List Int):LB:=match kd with
 | .w0=>.dead
 | .w1=>.dead
 | _=>.gro 1 (rowsC intC xs)
def dmL:Kd→Value
 | .w0=>nilP
 | _=>ptr 38
def dsL:Kd→Value
 | .w0=>nilP
 | .m0=>nilP
 | _=>ptr 39
def dlA (kd:Kd) (st:List Int) (w:Nat):LB:=match kd with
 | .m0=>.cells 0 [ptr 15,slB 40 st.length,.int .i64 w]
 | .m1=>.cells 0 [ptr 15,slB 40 st.length,.int .i64 w]
 | _=>.dead
def dlS (kd:Kd) (j k w:Nat):LB:=match kd with
 | .s=>.cells 0 [ptr 15,.slice (some ⟨40,j*1,none⟩) k k,.int .i64 w]
 | _=>.dead
def thL (n:Nat) (t:Ths):List Value:=[.bool t.s0,slB 26 t.r0.length,.bool t.s1,slB 27 t.r1.length,.bool t.s2,slB 28 t.r2.length].take (2*n)
def drL (n:Nat) (t:Ths):List Value:=[slB 35 t.r0.length,slB 36 t.r1.length,slB 37 t.r2.length].take n
def CL (z n:Nat) (c d:CS):LH :=
 [.dead,.cells 0 [ptr 2,ptr 15],
  .cells 0 [ptr 3,.int .i64 c.m.man,.int .i64 (c.m.man+c.m.mgd:Nat),ptr 11,ptr 13],
  .cells 0 [.int .i64 c.m.man,.int .i64 c.m.mgd,.int .u64 ((1#64).toNat:Int),ptr 4,ptr 6,.int .u64 ((keyW 1#64).toNat:Int),.map (some 8),ptr 9],
  .cells 0 [slB 5 c.m.bs.length],BL c.m.bs,.cells 0 [slB 7 c.m.rs.length],.gro 4 (rowsC PRow.cells c.m.rs),.imap [] 0,
  .cells 0 [ptr 4,.int .u64 ((keyW 1#64).toNat:Int),.map (some 10)],.imap c.m.G c.m.c,
  .cells 0 [slB 12 c.m.hw.length,.int .i64 (16*(c.m.man+c.m.mgd):Nat)],.gro 1 (rowsC wordC c.m.hw),
  .cells 0 [slB 14 c.m.mw.length,.int .i64 (16*(c.m.man+c.m.mgd):Nat)],.gro 1 (rowsC wordC c.m.mw),
  .cells 0 [ptr 16,slB 17 (obs d.m).length],.cells 0 [.int .i64 d.m.man,.int .u64 ((keyW 1#64).toNat:Int),slB 18 d.m.bs.length,slB 19 d.m.rs.length,slB 20 (d.m.man+d.m.mgd),ptr 21],
  .gro 2 (rowsC obC (obs d.m)),BL d.m.bs,TB d.m.rs,.dead,.cells 0 [slB 23 d.m.bs.length,.int .u64 ((keyW 1#64).toNat:Int),slB 22 d.gl.length],.gro 2 (rowsC gbC d.gl),.dead,
  .cells 0 [ptr 2,slB 25 n,.int .i64 c.ph,.int .i64 c.a,mpL c.kd,spL c.kd,.int .i64 c.ct,.int .i64 c.gn],.cells 0 (thL n c.t),.gro 1 (rowsC intC c.t.r0),.gro 1 (rowsC intC c.t.r1),.gro 1 (rowsC intC c.t.r2),tlA c.kd c.xs c.k c.w,tlS c.kd c.j c.k c.w,tlX c.kd c.xs,
  .cells 0 [ptr 15,slB 33 n,slB 34 n,.int .i64 d.ph,.int .i64 d.a,dmL d.kd,dsL d.kd,.int .i64 d.ct,.int .i64 d.gn],.cells z (dSt n d.t),.cells z (drL n d.t),.gro 1 (rowsC intC d.t.r0),.gro 1 (rowsC intC d.t.r1),.gro 1 (rowsC intC d.t.r2),dlA d.kd d.st d.w,dlS d.kd d.j d.dk d.w,tlX d.kd d.st]
abbrev FP:List Nat:=[2,3,4,5,6,7,8,9,10,11,12,13,14,24,25,26,27,28,29,30,31]
abbrev FD:List Nat:=[15,16,17,18,19,20,21,22,23,32,33,34,35,36,37,38,39,40]
abbrev K6:List Nat:=[0,1,2,15,24,32]
def Stl (v:Value):Prop:=∀ N φ,rnV N φ v=v
set_option maxHeartbeats 8000000 in
theorem liftP {z n:Nat} (hn:n≤3) {c c':CS} {f:FuncId} {us vs:List Value} {v:Value} (h:TrK Tryz.prog [] KP f us (CYs n c) (fun u K=>u=v∧K=CYs n c')) (hu:us.map (rnV 41 FP)=vs) (hv:Stl v):TrK Tryz.prog [] K6 f vs (CL z n c c) (fun u K=>u=v∧K=CL z n c' c):=by
 obtain ⟨kd,m,gl,t,ph,a,ct,gn,xs,j,k,w,st,dk⟩:=c
 obtain ⟨kd',m',gl',t',ph',a',ct',gn',xs',j',k',w',st',dk'⟩:=c'
 obtain rfl | rfl | rfl | rfl:n=0∨n=1∨n=2∨n=3:=by omega
 all_goals cases kd <;> cases kd'
 all_goals exact TrK.frame FP h hu (by decide) (by repeat' (first|exact trivial|refine ⟨rfl,?_⟩ | fail)) (by kernel_rfl) (hv _ _) (by kernel_rfl) (by kernel_rfl)
end Go.Proofs.YthmdialagibpfaaGreatDoor
end
section
namespace Go.Tum
open Go
structure GE where
 id:Int
 xs:List Int
 p:Nat
 o:Nat
 c:Nat
 z:Value
 born:Nat
def GE.sv (e:GE):Value:=match e.xs with
 | []=>e.z
 | _=>.slice (some ⟨e.p,e.o,none⟩) e.xs.length e.c
def ge (e:GE):Int × Value × Nat:=(e.id,e.sv,e.born)
theorem ge_born (e:GE) (b:Nat):ge { e with born:=b }=(e.id,e.sv,b):=rfl
end Go.Tum
end
section
namespace Go.Tum
open Go
structure IN where
 id:Int
 b:Nat
 o:Nat
 n:Nat
 c:Nat
 xs:List Int
instance : Inhabited IN:=⟨⟨0,0,0,0,0,[]⟩⟩
def IN.Ok (P:Program) (n0:NA) (d:IN):Prop:=d.xs.length=d.n∧∃ n c F,d.n≤n∧n0.Has P (.s ⟨d.b,d.o,none⟩ n c (n*1) (rowF 1 F))∧∀ (j:Nat) (x:Int),d.xs[j]?=some x→F j=[.v (.int .i64 x)]
section
variable {P:Program} {n0:NA} {l:Env} {L:LH}
theorem QY.ldIN {x:Operand} {d:IN} {j o:Nat} {a:Int} (hd:d.Ok P n0) (hx:lv l x=some (.pointer (some ⟨d.b,o,some 0⟩))) (ho:o=d.o+j*1) (ha:d.xs[j]?=some a):QY P n0 L l (.ld x) (.int .i64 a):=by
 obtain ⟨h1,n,c,F,h2,h3,h4⟩:=hd
 have hj:=(List.getElem?_eq_some_iff.1 ha).1
 have:=QY.ldR (P:=P) (n0:=n0) (L:=L) (u:=.v (.int .i64 a)) hx h3 j (by omega) (by omega) (rowF_one (h4 j a ha)) rfl
 exact this
end
end Go.Tum
end
section
namespace Go.Proofs.YthmdialagibpfaaGreatDoor
open Go Go.Tum Go.Tum.Base
set_option maxRecDepth 4000
set_option maxHeartbeats 8000000 in
theorem liftD {z z' n:Nat} (hn:n≤3) {c c':CS} {f:FuncId} {us vs:List Value} {v:Value} (h:TrK Tryz.prog [] KDo f us (DYs z n c) (fun u K=>u=v∧K=DYs z' n c')) (hu:us.map (rnV 41 FD)=vs) (hv:Stl v):TrK Tryz.prog [] K6 f vs (CL z n c' c) (fun u K=>u=v∧K=CL z' n c' c'):=by
 obtain ⟨kd,m,gl,t,ph,a,ct,gn,xs,j,k,w,st,dk⟩:=c
 obtain ⟨kd',m',gl',t',ph',a',ct',gn',xs',j',k',w',st',dk'⟩:=c'
 obtain rfl | rfl | rfl | rfl:n=0∨n=1∨n=2∨n=3:=by omega
 all_goals cases kd <;> cases kd'
 all_goals exact TrK.frame FD h hu (by decide) (by repeat' (first|exact trivial|refine ⟨rfl,?_⟩ | fail)) (by kernel_rfl) (hv _ _) (by kernel_rfl) (by kernel_rfl)
abbrev S41:List Nat:=[0,1,2,3,4,5,6,7,8,9,10,11,12,13,14,15,16,17,18,19,20,21,22,23,24,25,26,27,28,29,30,31,32,33,34,35,36,37,38,39,40]
set_option maxHeartbeats 8000000 in
theorem liftR {z n:Nat} (hn:n≤3) {c:CS} {f:FuncId} {us vs:List Value} {v:Value} (h:Tr Tryz.prog f us (CYs n c) (fun u K=>u=v∧K=CYs n c)) (hu:us.map (rnV 41 FP)=vs) (hv:Stl v):TrK Tryz.prog [] S41 f vs (CL z n c c) (fun u K=>u=v∧K=CL z n c c):=by
 obtain ⟨kd,m,gl,t,ph,a,ct,gn,xs,j,k,w,st,dk⟩:=c
 obtain rfl | rfl | rfl | rfl:n=0∨n=1∨n=2∨n=3:=by omega
 all_goals cases kd
 all_goals exact TrK.frame FP h hu (by decide) (by repeat' (first|exact trivial|refine ⟨rfl,?_⟩ | fail)) (by kernel_rfl) (hv _ _) (by kernel_rfl) (by kernel_rfl)
set_option maxHeartbeats 8000000 in
theorem liftRd {z n:Nat} (hn:n≤3) {c:CS} {f:FuncId} {us vs:List Value} {v:Value} (h:Tr Tryz.prog f us (DYs z n c) (fun u K=>u=v∧K=DYs z n c)) (hu:us.map (rnV 41 FD)=vs) (hv:Stl v):TrK Tryz.prog [] S41 f vs (CL z n c c) (fun u K=>u=v∧K=CL z n c c):=by
 obtain ⟨kd,m,gl,t,ph,a,ct,gn,xs,j,k,w,st,dk⟩:=c
 obtain rfl | rfl | rfl | rfl:n=0∨n=1∨n=2∨n=3:=by omega
 all_goals cases kd
 all_goals exact TrK.frame FD h hu (by decide) (by repeat' (first|exact trivial|refine ⟨rfl,?_⟩ | fail)) (by kernel_rfl) (hv _ _) (by kernel_rfl) (by kernel_rfl)
end Go.Proofs.YthmdialagibpfaaGreatDoor
end
section
namespace Go.Tum.Base
open Go Go.Tum
def rt6 (f:Nat→Int) (i:Nat):List Int:=(List.range (min i 6)).map f
theorem rt6_succ (f:Nat→Int) {i:Nat} (h:i<6):rt6 f (i+1)=rt6 f i++[f i]:=by
 unfold rt6
 rw [Nat.min_eq_left (by omega),Nat.min_eq_left (by omega),List.range_succ,List.map_append]; rfl
theorem rt6_more (f:Nat→Int) {i:Nat} (h:6≤i):rt6 f i=rt6 f 6:=by
 unfold rt6
 rw [Nat.min_eq_right h,Nat.min_self]
theorem rt6_len (f:Nat→Int) (i:Nat):(rt6 f i).length=min i 6:=by unfold rt6; rw [List.length_map,List.length_range]
theorem rt6_le (f:Nat→Int) (i:Nat):(rt6 f i).length≤6:=by rw [rt6_len]; omega
end Go.Tum.Base
namespace Go.Proofs.YthmdialagibpfaaGreatDoor
open Go Go.Tum Go.Tum.Base
set_option maxRecDepth 4000
theorem L_mb {P:Program} {n0:NA} {a:MC} {i:Nat} {Q:Exit→Env→LH→Prop} {K':Env→LH→Prop} {l:Env} {L:LH} (K:Env→LH→Prop) (ha:LWp P n0 a (blkL i (thenL (Nx n0 K) Q)) l L) (hb:∀ l L,K l L→K' l L):LWp P n0 a (blkL i (thenL (Nx n0 K') Q)) l L:=by
 refine ha.mono fun e l L h=>?_
 cases e with
 | normal=>exact Nx.mono h hb
 | ret=>exact h
 | exit j =>
  by_cases hj:j=i
  ·subst hj
   simp only [blkL,if_true,beq_self_eq_true] at h ⊢
   exact Nx.mono h hb
  ·simp only [blkL,if_neg hj] at h ⊢
   exact h
 | goto i=>exact h
 | panic c=>exact h
 | outgrown=>exact h
abbrev AC (N:Nat) (F:Nat→List AV):Args:=[(0,N*13,rowF 13 F)]
def RtIn (N:Nat) (F:Nat→List AV) (d:IN):Prop:=∀ n0:NA,(0,N*13,rowF 13 F)∈n0.A→d.Ok Tryz.prog n0
set_option maxHeartbeats 4000000 in
theorem rootsN_tr (m:HM) (gl:List Gb) (hI:HI m gl) (N:Nat) (F:Nat→List AV) (d:IN) (hd:RtIn N F d) (nr:Nat) (hdn:d.n=nr) (hnr:nr≤9223372036854775807) (wh:Nat→Int) (hwh:∀ i,i<nr→d.xs[i]?=some (wh i)) :
  TrK Tryz.prog (AC N F) Q24 10 [ptr 1,.slice (some ⟨d.b,d.o,some 0⟩) nr d.c] (PL1 m gl) (fun v K=>v=slB 24 (rt6 (fun i=>atP m (wh i) (wh i)) nr).length∧K=PL1 m gl++[.gro 1 (rowsC intC (rt6 (fun i=>atP m (wh i) (wh i)) nr))]):=by
 obtain ⟨f,hf⟩:∃ f:Nat→Int,∀ i,atP m (wh i) (wh i)=f i:=⟨_,fun _=>rfl⟩
 rw [show (fun i=>atP m (wh i) (wh i))=f from funext hf]
 have hol:=obs_len hI.toHOk
 have hok:=hd { n:=(PL1 m gl).length,A:=AC N F,keep:=Q24 } (List.mem_singleton.2 rfl)
 refine Tr.of row_tumbrellaw22_roots_ok rfl ?_
 repeat' (first|refine qN ?_|refine dN ?_|refine dR ?_|refine d0 ?_|refine qB ?_|refine rT ?_|refine qT ?_|refine qU ?_|refine qL ?_|refine qK ?_|refine qF ?_|refine qE ?_|refine iF (fun h=>?_) (fun h=>?_)|refine aX ?_|refine aA ?_|refine aI (hn:=?_)|refine sP 19 (fun h=>?_) (fun h=>?_)|refine qR ?_|refine qS ?_|exact ⟨rfl,rfl⟩|fail)
 refine LWp.nilE 5 1 rfl ?_
 refine L_mb (fun l L=>l=[(5,slB 24 (rt6 f nr).length)]∧L=PL1 m gl++[.gro 1 (rowsC intC (rt6 f nr))]) ?_ ?_
 ·refine LWp.pick [0,5,8,9,10] [0,1,2,3,4,5,6,7,8,9,10,11,12,13,14,15,16,17,18,19,20,21,22,23,24] rfl rfl rfl (L_loop (fun q l K=>∃ i:Nat,q=nr-i∧i≤nr∧i≤6∧l=[(0,ptr 1),(5,slB 24 (rt6 f i).length),(8,.slice (some ⟨d.b,d.o,some 0⟩) nr d.c),(9,.int .i64 nr),(10,.int .i64 i)]∧K=PL1 m gl++[.gro 1 (rowsC intC (rt6 f i))]) nr ⟨0,rfl,by omega,by omega,rfl,rfl⟩ ?_)
  rintro q _ _ ⟨i,rfl,hi,hi6,rfl,rfl⟩
  first|refine L_seq (L_rs (S_done [] rfl (Nx.goL (iF (fun h=>L_skip (Nx.goL ?_)) (fun h=>L_exit ?_)))))|refine L_rs (S_done [] rfl (Nx.goL (L_seq (iF (fun h=>L_skip (Nx.goL ?_)) (fun h=>L_exit ?_)))))
  ·have hi':i<nr:=by omega
   have e:=hwh i hi'
   by_cases h6:i<6
   ·have hs:=rt6_succ f h6
    have hwl:=rt6_len f i
    rw [Nat.min_eq_left (by omega)] at hwl
    have hfi:=hf i
    clear hwh hf
    generalize rt6 f i=w at *
    generalize f i=fi at *
    generalize wh i=a at *
    by_cases h0:0≤a
    ·obtain ⟨k,rfl⟩:=Int.eq_ofNat_of_zero_le h0
     by_cases h1:k<(obs m).length
     ·have hg:(obs m)[k]?=some (obs m)[k]:=List.getElem?_eq_getElem h1
      rw [show atP m k k=(obs m)[k].1 by unfold atP; rw [if_pos ⟨h0,by omega⟩,Int.toNat_natCast,List.getD_eq_getElem?_getD,hg]; rfl] at hfi
      generalize (obs m)[k]=z at *
      repeat' (first|refine qN ?_|refine dN ?_|refine dR ?_|refine d0 ?_|refine qB ?_|refine rT ?_|refine qT ?_|refine qU ?_|refine qL ?_|refine qK ?_|refine qE ?_|refine iF (fun h=>?_) (fun h=>?_)|refine aX ?_|refine S_Q [] rfl rfl (QY.idxR (k:=i) rfl rfl hi') ?_|refine S_Q [] rfl rfl (QY.ldIN (d:=d) (j:=i) hok rfl (by omega) e) ?_|refine S_Q [] rfl rfl (QY.ldF (j:=0) (u:=.int .i64 z.1) obC_ok rfl rfl hg rfl rfl) ?_|refine aA ?_|refine aI (hn:=?_)|refine sP 19 (fun h=>?_) (fun h=>?_)|refine qR ?_|refine qS ?_|exact ⟨rfl,rfl⟩|fail)
      all_goals try (exfalso; omega)
      first|refine L_rs ?_|refine L_reg ?_ | skip
      refine eE rfl rfl (EW.appR1 (bytes:=8) (a:=z.1) intC_ok rfl (by kernel_rfl) rfl rfl rfl rfl rfl (by omega)) ?_
      conv=>whnf
      repeat' (first|refine qN ?_|refine dN ?_|refine dR ?_|refine d0 ?_|refine qB ?_|refine rT ?_|refine qT ?_|refine qU ?_|refine qL ?_|refine qK ?_|refine qF ?_|refine qE ?_|refine iF (fun h=>?_) (fun h=>?_)|refine aX ?_|refine aA ?_|refine aI (hn:=?_)|refine sP 19 (fun h=>?_) (fun h=>?_)|refine qR ?_|refine qS ?_|exact ⟨rfl,rfl⟩|fail)
      exact Nx.pick [0,5,8,9,10] [0,1,2,3,4,5,6,7,8,9,10,11,12,13,14,15,16,17,18,19,20,21,22,23,26] rfl rfl rfl ⟨nr-(i+1),by omega,i+1,rfl,by omega,by omega,by rw [hs,List.length_append]; rfl,by rw [hs,← hfi]; rfl⟩
     ·rw [show atP m k k=k by unfold atP; rw [if_neg (by omega)]] at hfi
      repeat' (first|refine qN ?_|refine dN ?_|refine dR ?_|refine d0 ?_|refine qB ?_|refine rT ?_|refine qT ?_|refine qU ?_|refine qL ?_|refine qK ?_|refine qE ?_|refine iF (fun h=>?_) (fun h=>?_)|refine aX ?_|refine S_Q [] rfl rfl (QY.idxR (k:=i) rfl rfl hi') ?_|refine S_Q [] rfl rfl (QY.ldIN (d:=d) (j:=i) hok rfl (by omega) e) ?_|refine aA ?_|refine aI (hn:=?_)|refine sP 19 (fun h=>?_) (fun h=>?_)|refine qR ?_|refine qS ?_|exact ⟨rfl,rfl⟩|fail)
      all_goals try (exfalso; omega)
      first|refine L_rs ?_|refine L_reg ?_ | skip
      refine eE rfl rfl (EW.appR1 (bytes:=8) (a:=(k:Int)) intC_ok rfl (by kernel_rfl) rfl rfl rfl rfl rfl (by omega)) ?_
      conv=>whnf
      repeat' (first|refine qN ?_|refine dN ?_|refine dR ?_|refine d0 ?_|refine qB ?_|refine rT ?_|refine qT ?_|refine qU ?_|refine qL ?_|refine qK ?_|refine qF ?_|refine qE ?_|refine iF (fun h=>?_) (fun h=>?_)|refine aX ?_|refine aA ?_|refine aI (hn:=?_)|refine sP 19 (fun h=>?_) (fun h=>?_)|refine qR ?_|refine qS ?_|exact ⟨rfl,rfl⟩|fail)
      exact Nx.pick [0,5,8,9,10] [0,1,2,3,4,5,6,7,8,9,10,11,12,13,14,15,16,17,18,19,20,21,22,23,26] rfl rfl rfl ⟨nr-(i+1),by omega,i+1,rfl,by omega,by omega,by rw [hs,List.length_append]; rfl,by rw [hs,← hfi]; rfl⟩
    ·rw [show atP m a a=a by unfold atP; rw [if_neg (by omega)]] at hfi
     repeat' (first|refine qN ?_|refine dN ?_|refine dR ?_|refine d0 ?_|refine qB ?_|refine rT ?_|refine qT ?_|refine qU ?_|refine qL ?_|refine qK ?_|refine qE ?_|refine iF (fun h=>?_) (fun h=>?_)|refine aX ?_|refine S_Q [] rfl rfl (QY.idxR (k:=i) rfl rfl hi') ?_|refine S_Q [] rfl rfl (QY.ldIN (d:=d) (j:=i) hok rfl (by omega) e) ?_|refine aA ?_|refine aI (hn:=?_)|refine sP 19 (fun h=>?_) (fun h=>?_)|refine qR ?_|refine qS ?_|exact ⟨rfl,rfl⟩|fail)
     all_goals try (exfalso; omega)
     first|refine L_rs ?_|refine L_reg ?_ | skip
     refine eE rfl rfl (EW.appR1 (bytes:=8) (a:=a) intC_ok rfl (by kernel_rfl) rfl rfl rfl rfl rfl (by omega)) ?_
     conv=>whnf
     repeat' (first|refine qN ?_|refine dN ?_|refine dR ?_|refine d0 ?_|refine qB ?_|refine rT ?_|refine qT ?_|refine qU ?_|refine qL ?_|refine qK ?_|refine qF ?_|refine qE ?_|refine iF (fun h=>?_) (fun h=>?_)|refine aX ?_|refine aA ?_|refine aI (hn:=?_)|refine sP 19 (fun h=>?_) (fun h=>?_)|refine qR ?_|refine qS ?_|exact ⟨rfl,rfl⟩|fail)
     exact Nx.pick [0,5,8,9,10] [0,1,2,3,4,5,6,7,8,9,10,11,12,13,14,15,16,17,18,19,20,21,22,23,26] rfl rfl rfl ⟨nr-(i+1),by omega,i+1,rfl,by omega,by omega,by rw [hs,List.length_append]; rfl,by rw [hs,← hfi]; rfl⟩
   ·repeat' (first|refine qN ?_|refine dN ?_|refine dR ?_|refine d0 ?_|refine qB ?_|refine rT ?_|refine qT ?_|refine qU ?_|refine qL ?_|refine qK ?_|refine qE ?_|refine iF (fun h=>?_) (fun h=>?_)|refine aX ?_|refine S_Q [] rfl rfl (QY.idxR (k:=i) rfl rfl hi') ?_|refine S_Q [] rfl rfl (QY.ldIN (d:=d) (j:=i) hok rfl (by omega) e) ?_|refine aA ?_|refine aI (hn:=?_)|refine sP 19 (fun h=>?_) (fun h=>?_)|refine qR ?_|refine qS ?_|exact ⟨rfl,rfl⟩|fail)
    all_goals try (exfalso; omega)
    show Nx _ _ _ _
    obtain rfl:i=6:=by omega
    rw [← rt6_more f (i:=nr) (by omega)]
    exact Nx.pick [5] [0,1,2,3,4,5,6,7,8,9,10,11,12,13,14,15,16,17,18,19,20,21,22,23,24] rfl rfl rfl ⟨rfl,rfl⟩
  ·show Nx _ _ _ _
   obtain rfl:i=nr:=by omega
   exact Nx.pick [5] [0,1,2,3,4,5,6,7,8,9,10,11,12,13,14,15,16,17,18,19,20,21,22,23,24] rfl rfl rfl ⟨rfl,rfl⟩
 ·rintro _ _ ⟨rfl,rfl⟩
  repeat' (first|refine qN ?_|refine dN ?_|refine d0 ?_|refine qB ?_|refine qT ?_|refine qU ?_|refine qL ?_|refine qK ?_|refine qF ?_|refine qE ?_|refine iF (fun h=>?_) (fun h=>?_)|refine aX ?_|refine aA ?_|refine aI (hn:=?_)|refine sP 19 (fun h=>?_) (fun h=>?_)|refine qR ?_|refine qS ?_|exact ⟨rfl,rfl⟩|fail)
  exact L_ret (RetQ.pick [0,1,2,3,4,5,6,7,8,9,10,11,12,13,14,15,16,17,18,19,20,21,22,23,24] rfl rfl rfl rfl ⟨rfl,rfl⟩)
end Go.Proofs.YthmdialagibpfaaGreatDoor
end
section
namespace Go.Proofs.YthmdialagibpfaaGreatDoor
open Go Go.Tum Go.Tum.Base
set_option maxRecDepth 4000
def opB (o:Op18) (own t:Int) (q:IN) (nr:Nat):LB:=.cells 0 (o.cells++[.int .i64 own,.int .i64 t,.slice (some ⟨q.b,q.o,some 0⟩) nr q.c])
set_option maxHeartbeats 8000000 in
theorem liftPx {z n:Nat} (hn:n≤3) {c c':CS} {x:List Int} {o:Op18} {own tt:Int} {q:IN} {nr:Nat} {f:FuncId} {us vs:List Value} {v:Value} (h:TrK Tryz.prog [] (KP++[21]) f us (CYs n c++[gX x]) (fun u K=>u=v∧K=CYs n c'++[gX x])) (hu:us.map (rnV 43 (FP++[42]))=vs) (hv:Stl v):TrK Tryz.prog [] (K6++[41,42]) f vs (CL z n c c++[opB o own tt q nr,gX x]) (fun u K=>u=v∧K=CL z n c' c++[opB o own tt q nr,gX x]):=by
 obtain ⟨kd,m,gl,t,ph,a,ct,gn,xs,j,k,w,st,dk⟩:=c
 obtain ⟨kd',m',gl',t',ph',a',ct',gn',xs',j',k',w',st',dk'⟩:=c'
 obtain rfl | rfl | rfl | rfl:n=0∨n=1∨n=2∨n=3:=by omega
 all_goals cases kd <;> cases kd'
 all_goals exact TrK.frame (FP++[42]) h hu (by decide) (by repeat' (first|exact trivial|refine ⟨rfl,?_⟩ | fail)) (by kernel_rfl) (hv _ _) (by kernel_rfl) (by kernel_rfl)
set_option maxHeartbeats 8000000 in
theorem liftDx {z z' n:Nat} (hn:n≤3) {c c':CS} {x:List Int} {o:Op18} {own tt:Int} {q:IN} {nr:Nat} {b:LB} (hb:b=gX x∨b=.cells 0 []) {f:FuncId} {us vs:List Value} {v:Value} (h:TrK Tryz.prog [] KDo f us (DYs z n c++[gX x]) (fun u K=>u=v∧K=DYs z' n c'++[b])) (hu:us.map (rnV 43 (FD++[42]))=vs) (hv:Stl v):TrK Tryz.prog [] K6 f vs (CL z n c' c++[opB o own tt q nr,gX x]) (fun u K=>u=v∧K=CL z' n c' c'++[opB o own tt q nr,b]):=by
 obtain ⟨kd,m,gl,t,ph,a,ct,gn,xs,j,k,w,st,dk⟩:=c
 obtain ⟨kd',m',gl',t',ph',a',ct',gn',xs',j',k',w',st',dk'⟩:=c'
 obtain rfl | rfl:=hb
 all_goals obtain rfl | rfl | rfl | rfl:n=0∨n=1∨n=2∨n=3:=by omega
 all_goals cases kd <;> cases kd'
 all_goals exact TrK.frame (FD++[42]) h hu (by decide) (by repeat' (first|exact trivial|refine ⟨rfl,?_⟩ | fail)) (by kernel_rfl) (hv _ _) (by kernel_rfl) (by kernel_rfl)
end Go.Proofs.YthmdialagibpfaaGreatDoor
end
section
namespace Go.Proofs.YthmdialagibpfaaGreatDoor
open Go Go.Tum Go.Tum.Base
set_option maxRecDepth 4000
abbrev C0 (m:HM) (gl:List Gb):CS:=⟨.w0,m,gl,T0,0,0,0,0,[],0,0,0,[],0⟩
abbrev S24:List Nat:=[0,1,2,3,4,5,6,7,8,9,10,11,12,13,14,15,16,17,18,19,20,21,22,23]
abbrev S32:List Nat:=[0,1,2,3,4,5,6,7,8,9,10,11,12,13,14,15,16,17,18,19,20,21,22,23,24,25,26,27,28,29,30,31]
set_option maxHeartbeats 8000000 in
theorem newP (m:HM) (gl:List Gb) (n:Nat) (hn:n≤3):TrK Tryz.prog [] S24 6 [ptr 2,.int .i64 n] (PL1 m gl) (fun v K=>v=ptr 24∧K=(CL 0 n (C0 m gl) (C0 m gl)).take 32):=by
 have h:=cNew_tr m n hn
 obtain rfl | rfl | rfl | rfl:n=0∨n=1∨n=2∨n=3:=by omega
 all_goals exact TrK.frame QH h rfl (by decide) (by repeat' (first|exact trivial|refine ⟨rfl,?_⟩ | fail)) (by kernel_rfl) rfl (by kernel_rfl) (by kernel_rfl)
set_option maxHeartbeats 8000000 in
theorem newD (m:HM) (gl:List Gb) (n:Nat) (hn:n≤3):TrK Tryz.prog [] S32 7 [ptr 15,.int .i64 n] ((CL 0 n (C0 m gl) (C0 m gl)).take 32) (fun v K=>v=ptr 32∧K=CL 0 n (C0 m gl) (C0 m gl)):=by
 have h:=dNew_tr m gl n hn
 obtain rfl | rfl | rfl | rfl:n=0∨n=1∨n=2∨n=3:=by omega
 all_goals exact TrK.frame QR h rfl (by decide) (by repeat' (first|exact trivial|refine ⟨rfl,?_⟩ | fail)) (by kernel_rfl) rfl (by kernel_rfl) (by kernel_rfl)
end Go.Proofs.YthmdialagibpfaaGreatDoor
end
section
namespace Go.Proofs.YthmdialagibpfaaGreatDoor
open Go Go.Tum Go.Tum.Base
set_option maxRecDepth 4000
abbrev T41:List Nat:=[0,1,2,3,4,5,6,7,8,9,10,11,12,13,14,15,16,17,18,19,20,21,22,23,24,25,26,27,28,29,30,31,32,33,34,35,36,37,38,39,40]
set_option maxHeartbeats 8000000 in
theorem lg0 {z n:Nat} (hn:n≤3) (c:CS):letGo T41 (CL z n c c)=some (CL z n c c):=by
 obtain ⟨kd,m,gl,t,ph,a,ct,gn,xs,j,k,w,st,dk⟩:=c
 obtain rfl | rfl | rfl | rfl:n=0∨n=1∨n=2∨n=3:=by omega
 all_goals cases kd
 all_goals kernel_rfl
set_option maxHeartbeats 8000000 in
theorem lg1 {z n:Nat} (hn:n≤3) (c:CS) (o:Op18) (own tt:Int) (q:IN) (nr:Nat):letGo T41 (CL z n c c++[opB o own tt q nr])=some (CL z n c c):=by
 obtain ⟨kd,m,gl,t,ph,a,ct,gn,xs,j,k,w,st,dk⟩:=c
 obtain rfl | rfl | rfl | rfl:n=0∨n=1∨n=2∨n=3:=by omega
 all_goals cases kd
 all_goals kernel_rfl
set_option maxHeartbeats 8000000 in
theorem lg2 {z n:Nat} (hn:n≤3) (c:CS) (o:Op18) (own tt:Int) (q:IN) (nr:Nat) (b:LB):letGo T41 (CL z n c c++[opB o own tt q nr,b])=some (CL z n c c):=by
 obtain ⟨kd,m,gl,t,ph,a,ct,gn,xs,j,k,w,st,dk⟩:=c
 obtain rfl | rfl | rfl | rfl:n=0∨n=1∨n=2∨n=3:=by omega
 all_goals cases kd
 all_goals kernel_rfl
set_option maxHeartbeats 8000000 in
theorem lg3 {z n:Nat} (hn:n≤3) (c:CS) (o:Op18) (own tt:Int) (q:IN) (nr:Nat):letGo (T41++[41]) (CL z n c c++[opB o own tt q nr])=some (CL z n c c++[opB o own tt q nr]):=by
 obtain ⟨kd,m,gl,t,ph,a,ct,gn,xs,j,k,w,st,dk⟩:=c
 obtain rfl | rfl | rfl | rfl:n=0∨n=1∨n=2∨n=3:=by omega
 all_goals cases kd
 all_goals kernel_rfl
set_option maxHeartbeats 8000000 in
theorem liftH {z n:Nat} (hn:n≤3) {c:CS} (h:HI c.m c.gl) {o:Op18} (ho:o.In) (own tt:Int) (q:IN) (nr:Nat):TrK Tryz.prog [] [0,1,2,15,24,32,41] 15 [ptr 1,.agg ⟨o.cells⟩,.bool true] (CL z n c c++[opB o own tt q nr]) (fun v K=>v=.bool true∧K=CL z n { c with m:=(stepM c.m c.gl o true).1,gl:=(stepM c.m c.gl o true).2 } { c with m:=(stepM c.m c.gl o true).1,gl:=(stepM c.m c.gl o true).2 }++[opB o own tt q nr]):=by
 have h2:=step_tr c.m c.gl h o ho true
 obtain ⟨kd,m,gl,t,ph,a,ct,gn,xs,j,k,w,st,dk⟩:=c
 simp only at h2 ⊢
 generalize (stepM m gl o true).1=m' at *
 generalize (stepM m gl o true).2=gl' at *
 obtain rfl | rfl | rfl | rfl:n=0∨n=1∨n=2∨n=3:=by omega
 all_goals cases kd
 all_goals exact TrK.frame Q23 h2 rfl (by decide) (by repeat' (first|exact trivial|refine ⟨rfl,?_⟩ | fail)) (by kernel_rfl) rfl (by kernel_rfl) (by kernel_rfl)
end Go.Proofs.YthmdialagibpfaaGreatDoor
end
