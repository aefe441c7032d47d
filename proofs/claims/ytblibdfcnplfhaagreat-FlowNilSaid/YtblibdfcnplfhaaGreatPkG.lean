/-
  What the proof leans on, part 7: of the texts LargeC, BitsC, Lw19, Lw21, Lw26, Lw32, Lw33, Lw34, Lw23, Lw28, Lw35, Lw36, Lw37, SlabM, SlabC, SlabD, SlabE, SlabG, LargeD, LargeF, LargeG, PagesC, Lw38.
-/
import Derived.Test.YtblibdfcnplfhaaGreatPkF
import Derived.Lib.AppendZerosOnto
import Derived.Lib.Overlaps
set_option linter.unusedVariables false
set_option linter.unusedSimpArgs false
set_option linter.unusedSectionVars false
section
namespace Go.Tum.Base
open Go Go.Tum
abbrev Great:=IMap
def meetsG (G:Great) (page many:Int):Bool:=G.any fun x=>decide (page<x.1+pagesC x.2.1∧x.1<page+many)
def Small (G:Great) (N:Nat):Prop:=∀ x∈G,0≤x.1∧greatC x.2.1=true∧x.1+pagesC x.2.1≤N
theorem pagesC_bd (n:Int):0≤pagesC n∧pagesC n≤17:=by unfold pagesC; split <;> omega
end Go.Tum.Base
namespace Go.Proofs.YtblibdfcnplfhaaGreat
open Go Go.Tum Go.Tum.Base
set_option maxRecDepth 4000
def SetL (key:BitVec 64) (bs:Bytes) (G:Great) (c:Nat):LH:=[.cells 0 [ptr 1,.int .u64 (key.toNat:Int),.map (some 3)],.cells 0 [slB 2 bs.length],BL bs,.imap G c]
theorem largeNew_tr (bs:Bytes) (key:BitVec 64):TrK Tryz.prog [] [0,1] 125 [ptr 0,.agg ⟨[.int .u64 (key.toNat:Int)]⟩] (AL bs) (fun v K=>v=ptr 2∧K=AL bs++[.cells 0 [ptr 0,.int .u64 (key.toNat:Int),.map (some 3)],.imap [] 0]):=by
 refine Tr.of Ro38 rfl ?_
 repeat' (first|refine qN ?_|refine dN ?_|refine dR ?_|refine d0 ?_|refine rT ?_|refine qT ?_|refine qU ?_|refine qL ?_|refine qK ?_|refine iF (fun h=>?_) (fun h=>?_)|refine aI (hn:=?_)|refine qR ?_|refine qS ?_|exact ⟨rfl,rfl⟩|fail)
 first|refine L_rs ?_|refine L_reg ?_ | skip
 refine eE rfl rfl (EW.imake rfl) ?_
 conv=>whnf
 repeat' (first|refine qN ?_|refine dN ?_|refine dR ?_|refine d0 ?_|refine rT ?_|refine qT ?_|refine qU ?_|refine qL ?_|refine qK ?_|refine iF (fun h=>?_) (fun h=>?_)|refine aI (hn:=?_)|refine qR ?_|refine qS ?_|exact ⟨rfl,rfl⟩|fail)
 exact L_ret (RetQ.pick [0,1,4,3] rfl rfl rfl rfl ⟨rfl,rfl⟩)
theorem run_tr (n:Int):Tr Tryz.prog 200 [.int .i64 n] [] (fun v K=>v=.int .i64 (pagesC n)∧K=[]):=by
 refine Tr.of Ro45 rfl ?_
 repeat' (first|refine qN ?_|refine dN ?_|refine dR ?_|refine d0 ?_|refine rT ?_|refine aI (hn:=?_)|refine qR ?_|refine qS ?_|exact ⟨rfl,rfl⟩|fail)
 first|refine L_rs ?_|refine L_reg ?_ | skip
 refine cP [] (Pages_tr n) ?_
 repeat' (first|refine qN ?_|refine dN ?_|refine dR ?_|refine d0 ?_|refine rT ?_|refine aI (hn:=?_)|refine qR ?_|refine qS ?_|exact ⟨rfl,rfl⟩|fail)
theorem canary_tr (key:BitVec 64) (bs:Bytes) (G:Great) (c:Nat) (p n:Int) (hp:0≤p∧p≤256):Tr Tryz.prog 215 [ptr 0,.int .i64 p,.int .i64 n] (SetL key bs G c) (fun v K=>v=.tuple ⟨[.int .i64 (256*(p+pagesC n)-8),.int .u64 ((canW key (256*p)).toNat:Int)]⟩∧K=SetL key bs G c):=by
 have hP:=pagesC_bd n
 refine Tr.of Ro42 rfl ?_
 repeat' (first|refine qN ?_|refine dN ?_|refine dR ?_|refine d0 ?_|refine rT ?_|refine aA ?_|refine aS ?_|refine aI (hn:=?_)|refine aM ?_|refine qR ?_|refine qS ?_|exact ⟨rfl,rfl⟩|fail)
 first|refine L_rs ?_|refine L_reg ?_ | skip
 refine cP [] (run_tr n) ?_
 repeat' (first|refine qN ?_|refine dN ?_|refine dR ?_|refine d0 ?_|refine rT ?_|refine aA ?_|refine aS ?_|refine aI (hn:=?_)|refine aM ?_|refine qR ?_|refine qS ?_|exact ⟨rfl,rfl⟩|fail)
 first|refine L_rs ?_|refine L_reg ?_ | skip
 refine cP [] (Canary_tr key (256*p)) ?_
 repeat' (first|refine qN ?_|refine dN ?_|refine dR ?_|refine d0 ?_|refine rT ?_|refine aA ?_|refine aS ?_|refine aI (hn:=?_)|refine aM ?_|refine qR ?_|refine qS ?_|exact ⟨rfl,rfl⟩|fail)
set_option maxHeartbeats 1000000 in
theorem meets_tr (key:BitVec 64) (bs:Bytes) (G:Great) (c:Nat) (hG:Small G 256) (hO:GOk G c) (p m:Int) (hp:0≤p∧p≤256) (hm:0≤m∧m≤256):Tr Tryz.prog 264 [ptr 0,.int .i64 p,.int .i64 m] (SetL key bs G c) (fun v K=>v=.bool (meetsG G p m)∧K=SetL key bs G c):=by
 refine Tr.of Ro43 rfl ?_
 refine L_rs (S_done [] rfl (Nx.goL ?_))
 refine L_cut (fun l L=>meetsG G p m=false∧l=[]∧L=SetL key bs G c) ?_ ?_
 ·repeat' (first|refine qN ?_|refine dN ?_|refine dR ?_|refine d0 ?_|refine qB ?_|refine rT ?_|refine qT ?_|refine qU ?_|refine qL ?_|refine qK ?_|refine qF ?_|refine qE ?_|refine iF (fun h=>?_) (fun h=>?_)|refine aA ?_|refine aI (hn:=?_)|refine sP 25 (fun h=>?_) (fun h=>?_)|refine qR ?_|refine qS ?_|exact ⟨rfl,rfl⟩|fail)
  first|refine L_rs ?_|refine L_reg ?_ | skip
  refine eE rfl rfl (EW.irange rfl (by kernel_rfl) rfl rfl) ?_
  conv=>whnf
  refine S_done [] rfl (Nx.pick [0,1,2,13] [0,1,2,3,4] rfl rfl rfl ?_)
  refine L_block (L_loop (fun r l L=>∃ seen:List Nat,r=unseen G seen∧(∀ x∈G,x.2.2∈seen→¬ (p<x.1+pagesC x.2.1∧x.1<p+m))∧l=[(0,ptr 0),(1,.int .i64 p),(2,.int .i64 m),(13,ptr 4)]∧L=SetL key bs G c++[.iter (some 3) c seen c]) (unseen G []) ⟨[],rfl,by simp,rfl,rfl⟩ ?_)
  rintro r _ _ ⟨seen,rfl,hs,rfl,rfl⟩
  refine L_rs (S_E [] rfl rfl (EW.inext rfl rfl rfl rfl) ?_)
  rintro _ _ (⟨e,he,hns,rfl,rfl⟩ | ⟨hall,rfl,rfl⟩)
  ·refine ⟨trivial,LSt.nf ?_⟩
   conv=>whnf
   refine S_done [] rfl (Nx.goL (L_seq (L_true rfl (L_skip (Nx.goL (L_block ?_))))))
   have hx:=hG e he
   have hP:=pagesC_bd e.2.1
   first|refine L_rs ?_|refine L_reg ?_ | skip
   refine eE rfl rfl (EW.ientry rfl rfl rfl rfl he) ?_
   conv=>whnf
   repeat' (first|refine qN ?_|refine dN ?_|refine dR ?_|refine d0 ?_|refine qB ?_|refine rT ?_|refine qT ?_|refine qU ?_|refine qL ?_|refine qK ?_|refine qF ?_|refine qE ?_|refine iF (fun h=>?_) (fun h=>?_)|refine aA ?_|refine aI (hn:=?_)|refine sP 25 (fun h=>?_) (fun h=>?_)|refine qR ?_|refine qS ?_|exact ⟨rfl,rfl⟩|fail)
   first|refine L_rs ?_|refine L_reg ?_ | skip
   refine cP [] (run_tr e.2.1) ?_
   repeat' (first|refine qN ?_|refine dN ?_|refine dR ?_|refine d0 ?_|refine qB ?_|refine rT ?_|refine qT ?_|refine qU ?_|refine qL ?_|refine qK ?_|refine qF ?_|refine qE ?_|refine iF (fun h=>?_) (fun h=>?_)|refine aA ?_|refine aI (hn:=?_)|refine sP 25 (fun h=>?_) (fun h=>?_)|refine qR ?_|refine qS ?_|exact ⟨rfl,rfl⟩|fail)
   ·refine ⟨congrArg Value.bool ?_,rfl⟩
    rw [Eq.comm,meetsG,List.any_eq_true]
    exact ⟨e,he,by simp; omega⟩
   all_goals
    refine Nx.pick [0,1,2,13] [0,1,2,3,4] rfl rfl rfl ⟨unseen G (seen++[e.2.2]),unseen_lt he hns,seen++[e.2.2],rfl,fun x hx1 hx2=>?_,rfl,rfl⟩
    rcases List.mem_append.1 hx2 with hx2 | hx2
    ·exact hs x hx1 hx2
    ·rw [List.mem_singleton] at hx2
     rw [hO.born hx1 he hx2]
     omega
  ·refine ⟨trivial,?_⟩
   repeat' (first|refine qN ?_|refine dN ?_|refine dR ?_|refine d0 ?_|refine qB ?_|refine rT ?_|refine qT ?_|refine qU ?_|refine qL ?_|refine qK ?_|refine qF ?_|refine qE ?_|refine iF (fun h=>?_) (fun h=>?_)|refine aA ?_|refine aI (hn:=?_)|refine sP 25 (fun h=>?_) (fun h=>?_)|refine qR ?_|refine qS ?_|exact ⟨rfl,rfl⟩|fail)
   exact Nx.pick [] [0,1,2,3] rfl rfl rfl ⟨by rw [meetsG,List.any_eq_false]; intro x hx; have:=hs x hx (hall x hx); simp; omega,rfl,rfl⟩
 ·rintro _ _ ⟨hq,rfl,rfl⟩
  repeat' (first|refine qN ?_|refine dN ?_|refine dR ?_|refine d0 ?_|refine qB ?_|refine rT ?_|refine qT ?_|refine qU ?_|refine qL ?_|refine qK ?_|refine qF ?_|refine qE ?_|refine iF (fun h=>?_) (fun h=>?_)|refine aA ?_|refine aI (hn:=?_)|refine sP 25 (fun h=>?_) (fun h=>?_)|refine qR ?_|refine qS ?_|exact ⟨rfl,rfl⟩|fail)
  refine ⟨?_,rfl⟩
  rw [hq]; rfl
theorem no_find {G:Great} {p n:Int} (hG:Small G 256) (hn:greatC n=true) (hm:meetsG G p (pagesC n)=false):gfind G p=none:=by
 cases hf:gfind G p with
 | none=>rfl
 | some x =>
  obtain ⟨h1,h2⟩:=gfind_some hf
  rw [meetsG,List.any_eq_false] at hm
  have h3:=hm x h1
  obtain ⟨_,h5,_⟩:=hG x h1
  have e1:1≤pagesC n:=by unfold pagesC; unfold greatC at hn; simp at hn; rw [if_neg (by omega)]; omega
  have e2:1≤pagesC x.2.1:=by unfold pagesC; unfold greatC at h5; simp at h5; rw [if_neg (by omega)]; omega
  simp only [decide_eq_true_eq] at h3
  omega
def madeB (key:BitVec 64) (bs:Bytes) (p M:Nat):Bytes:=overB (overB bs (256*p) (List.replicate (256*M) 0)) (256*(p+M)-8) (putB (canW key (256*p)) 8)
theorem madeB_length {key:BitVec 64} {bs:Bytes} {p M:Nat} (h:256*(p+M)≤bs.length) (hM:1≤M):(madeB key bs p M).length=bs.length:=by
 unfold madeB
 have h1:(overB bs (256*p) (List.replicate (256*M) 0)).length=bs.length:=overB_length (by rw [List.length_replicate]; omega)
 rw [overB_length (by rw [putB_length,h1]; omega),h1]
theorem greatC_pages {n:Int} (h:greatC n=true):∃ M:Nat,pagesC n=M∧1≤M∧M≤17:=by
 have h1:=pagesC_bd n
 have e1:1≤pagesC n:=by unfold pagesC; unfold greatC at h; simp at h; rw [if_neg (by omega)]; omega
 exact ⟨(pagesC n).toNat,by omega,by omega,by omega⟩
set_option maxHeartbeats 1000000 in
theorem largeMake_ok (key:BitVec 64) (bs:Bytes) (N:Nat) (hN:bs.length=256*N) (hN2:N≤256) (G:Great) (c:Nat) (hG:Small G 256) (hO:GOk G c) (p M:Nat) (n:Int) (hn:greatC n=true) (hM:pagesC n=M) (hpM:p+M≤N) (hm:meetsG G p M=false) :
  Tr Tryz.prog 249 [ptr 0,.int .i64 p,.int .i64 n] (SetL key bs G c) (fun v K=>v=.int .i64 0∧K=SetL key (madeB key bs p M) (gput G p n c) (c+1)):=by
 obtain ⟨M',hM',hM1,hM17⟩:=greatC_pages hn
 obtain rfl:M'=M:=by omega
 have hb:bs.length≤65536:=by omega
 have hP:=Pages_tr n
 rw [hM,hn] at hP
 have hf:gfind G p=none:=no_find hG hn (by rw [hM]; exact hm)
 have hX:=meets_tr key bs G c hG hO p M' (by omega) (by omega)
 rw [hm] at hX
 have hl1:(overB bs (256*p) (List.replicate (256*M') 0)).length=bs.length:=overB_length (by rw [List.length_replicate]; omega)
 have hF:=arenaFill_ok bs hb (256*p) (256*M') 0 (by omega)
 rw [AL_over (by rw [List.length_replicate]; omega)] at hF
 have hC:=canary_tr key (overB bs (256*p) (List.replicate (256*M') 0)) (gput G p n c) (c+1) p n (by omega)
 rw [hM,show 256*((p:Int)+M')-8=((256*(p+M')-8:Nat):Int) by omega] at hC
 have hS:=arenaSetWord_ok (overB bs (256*p) (List.replicate (256*M') 0)) (by omega) (256*(p+M')-8) (by rw [hl1]; omega) (by omega) (canW key (256*p))
 refine Tr.of Ro40 rfl ?_
 repeat' (first|refine qN ?_|refine dN ?_|refine dR ?_|refine d0 ?_|refine qB ?_|refine rT ?_|refine qT ?_|refine qU ?_|refine qL ?_|refine qK ?_|refine iF (fun h=>?_) (fun h=>?_)|refine aS ?_|refine aI (hn:=?_)|refine aD ?_|refine aM ?_|refine sP 22 (fun h=>?_) (fun h=>?_)|refine qR ?_|refine qS ?_|exact ⟨rfl,rfl⟩|fail)
 first|refine L_rs ?_|refine L_reg ?_ | skip
 refine cP [] (hP) ?_
 repeat' (first|refine qN ?_|refine dN ?_|refine dR ?_|refine d0 ?_|refine qB ?_|refine rT ?_|refine qT ?_|refine qU ?_|refine qL ?_|refine qK ?_|refine iF (fun h=>?_) (fun h=>?_)|refine aS ?_|refine aI (hn:=?_)|refine aD ?_|refine aM ?_|refine sP 22 (fun h=>?_) (fun h=>?_)|refine qR ?_|refine qS ?_|exact ⟨rfl,rfl⟩|fail)
 first|refine L_rs ?_|refine L_reg ?_ | skip
 refine cP [1,2] (arenaLen_tr bs) ?_
 repeat' (first|refine qN ?_|refine dN ?_|refine dR ?_|refine d0 ?_|refine qB ?_|refine rT ?_|refine qT ?_|refine qU ?_|refine qL ?_|refine qK ?_|refine iF (fun h=>?_) (fun h=>?_)|refine aS ?_|refine aI (hn:=?_)|refine aD ?_|refine aM ?_|refine sP 22 (fun h=>?_) (fun h=>?_)|refine qR ?_|refine qS ?_|exact ⟨rfl,rfl⟩|fail)
 ·exfalso; omega
 first|refine L_rs ?_|refine L_reg ?_ | skip
 refine cP [0,1,2,3] (hX) ?_
 repeat' (first|refine qN ?_|refine dN ?_|refine dR ?_|refine d0 ?_|refine qB ?_|refine rT ?_|refine qT ?_|refine qU ?_|refine qL ?_|refine qK ?_|refine iF (fun h=>?_) (fun h=>?_)|refine aS ?_|refine aI (hn:=?_)|refine aD ?_|refine aM ?_|refine sP 22 (fun h=>?_) (fun h=>?_)|refine qR ?_|refine qS ?_|exact ⟨rfl,rfl⟩|fail)
 first|refine L_rs ?_|refine L_reg ?_ | skip
 refine cF [1,2] (hF) ?_
 conv=>whnf
 repeat' (first|refine qN ?_|refine dN ?_|refine dR ?_|refine d0 ?_|refine qB ?_|refine rT ?_|refine qT ?_|refine qU ?_|refine qL ?_|refine qK ?_|refine iF (fun h=>?_) (fun h=>?_)|refine aS ?_|refine aI (hn:=?_)|refine aD ?_|refine aM ?_|refine sP 22 (fun h=>?_) (fun h=>?_)|refine qR ?_|refine qS ?_|exact ⟨rfl,rfl⟩|fail)
 first|refine L_rs ?_|refine L_reg ?_ | skip
 refine eE rfl rfl (EW.iputN rfl (by kernel_rfl) rfl rfl rfl rfl hf) ?_
 conv=>whnf
 simp only [SetL,hl1] at hC
 have hl2:=madeB_length (key:=key) (bs:=bs) (p:=p) (M:=M') (by omega) hM1
 simp only [AL,hl1,overB_length (show 256*(p+M')-8+(putB (canW key (256*p)) 8).length≤(overB bs (256*p) (List.replicate (256*M') 0)).length by rw [hl1,putB_length]; omega)] at hS
 repeat' (first|refine qN ?_|refine dN ?_|refine dR ?_|refine d0 ?_|refine qB ?_|refine rT ?_|refine qT ?_|refine qU ?_|refine qL ?_|refine qK ?_|refine iF (fun h=>?_) (fun h=>?_)|refine aS ?_|refine aI (hn:=?_)|refine aD ?_|refine aM ?_|refine sP 22 (fun h=>?_) (fun h=>?_)|refine qR ?_|refine qS ?_|exact ⟨rfl,rfl⟩|fail)
 first|refine L_rs ?_|refine L_reg ?_ | skip
 refine cP [0,1,2,3] (hC) ?_
 repeat' (first|refine qN ?_|refine dN ?_|refine dR ?_|refine d0 ?_|refine qB ?_|refine rT ?_|refine qT ?_|refine qU ?_|refine qL ?_|refine qK ?_|refine iF (fun h=>?_) (fun h=>?_)|refine aS ?_|refine aI (hn:=?_)|refine aD ?_|refine aM ?_|refine sP 22 (fun h=>?_) (fun h=>?_)|refine qR ?_|refine qS ?_|exact ⟨rfl,rfl⟩|fail)
 first|refine L_rs ?_|refine L_reg ?_ | skip
 refine cF [1,2] (hS) ?_
 conv=>whnf
 repeat' (first|refine qN ?_|refine dN ?_|refine dR ?_|refine d0 ?_|refine qB ?_|refine rT ?_|refine qT ?_|refine qU ?_|refine qL ?_|refine qK ?_|refine iF (fun h=>?_) (fun h=>?_)|refine aS ?_|refine aI (hn:=?_)|refine aD ?_|refine aM ?_|refine sP 22 (fun h=>?_) (fun h=>?_)|refine qR ?_|refine qS ?_|exact ⟨rfl,rfl⟩|fail)
 refine ⟨rfl,?_⟩
 simp only [SetL,hl2]
 rfl
end Go.Proofs.YtblibdfcnplfhaaGreat
end
section
namespace Go.Tum.Base
open Go Go.Tum
abbrev Words:=List (BitVec 64)
def bitAt (ws:Words) (i:Nat):Bool:=(ws.getD (i / 64) 0).getLsbD (i % 64)
def putBit (ws:Words) (i:Nat) (v:Bool):Words:=ws.set (i / 64) (if v then ws.getD (i / 64) 0 ||| (1#64 <<< (i % 64)) else ws.getD (i / 64) 0 &&& ~~~ (1#64 <<< (i % 64)))
theorem putBit_length (ws:Words) (i:Nat) (v:Bool):(putBit ws i v).length=ws.length:=by simp [putBit]
theorem bit_test (w:BitVec 64) (k:Nat):((((w >>> k) &&& 1#64).toNat:Int) == 1)=w.getLsbD k:=by
 have h:(w >>> k &&& 1#64)=if w.getLsbD k then 1#64 else 0#64:=by
  apply BitVec.eq_of_getLsbD_eq
  intro j hj
  rw [BitVec.getLsbD_and,BitVec.getLsbD_ushiftRight]
  by_cases h0:j=0
  ·subst h0; cases w.getLsbD k <;> simp
  ·cases w.getLsbD k <;> simp [h0,BitVec.getLsbD_one]
 rw [h]
 cases w.getLsbD k <;> rfl
theorem bitAt_put {ws:Words} {i:Nat} (v:Bool) (h:i / 64<ws.length) (j:Nat):bitAt (putBit ws i v) j=if j=i then v else bitAt ws j:=by
 unfold bitAt putBit
 rw [List.getD_eq_getElem?_getD,List.getElem?_set]
 by_cases hq:i / 64=j / 64
 ·rw [if_pos hq,if_pos h,Option.getD_some,← hq]
  have hm:j % 64<64:=Nat.mod_lt _ (by decide)
  by_cases e:j=i
  ·subst e
   rw [if_pos rfl]
   cases v
   ·simp [hm]
   ·simp [hm]
  ·rw [if_neg e]
   have hne:j % 64≠i % 64:=by omega
   cases v
   ·simp only [Bool.false_eq_true,if_false,BitVec.getLsbD_and,BitVec.getLsbD_not,BitVec.getLsbD_shiftLeft,BitVec.getLsbD_one]
    by_cases h2:j % 64<i % 64
    ·simp [hm,h2]
    ·have:¬ j % 64-i % 64=0:=by omega
     simp [hm,h2,this]
   ·simp only [if_true,BitVec.getLsbD_or,BitVec.getLsbD_shiftLeft,BitVec.getLsbD_one]
    by_cases h2:j % 64<i % 64
    ·simp [hm,h2]
    ·have:¬ j % 64-i % 64=0:=by omega
     simp [hm,h2,this]
 ·rw [if_neg hq,if_neg (fun e=>hq (by rw [e])),List.getD_eq_getElem?_getD]
end Go.Tum.Base
namespace Go.Proofs.YtblibdfcnplfhaaGreat
open Go Go.Tum Go.Tum.Base
set_option maxRecDepth 4000
def BS (ws:Words) (n:Nat):LH:=[.cells 0 [slB 1 ws.length,.int .i64 n],.gro 1 (rowsC wordC ws)]
theorem bsLen_tr (ws:Words) (n:Nat):Tr Tryz.prog 110 [ptr 0] (BS ws n) (fun v K=>v=.int .i64 n∧K=BS ws n):=by
 refine Tr.of Ro9 rfl ?_
 repeat' (first|refine qN ?_|refine dN ?_|refine dR ?_|refine d0 ?_|refine rT ?_|refine qT ?_|refine qU ?_|refine qL ?_|refine qK ?_|refine iF (fun h=>?_) (fun h=>?_)|refine aI (hn:=?_)|refine qR ?_|refine qS ?_|exact ⟨rfl,rfl⟩|fail)
theorem bsIn_tr (ws:Words) (n:Nat) (i:Int):Tr Tryz.prog 154 [ptr 0,.int .i64 i] (BS ws n) (fun v K=>v=.bool (decide (0≤i∧i<n))∧K=BS ws n):=by
 refine Tr.of Ro11 rfl ?_
 repeat' (first|refine qN ?_|refine dN ?_|refine dR ?_|refine d0 ?_|refine rT ?_|refine aI (hn:=?_)|refine sP 7 (fun h=>?_) (fun h=>?_)|refine qR ?_|refine qS ?_|exact ⟨rfl,rfl⟩|fail)
 ·first|refine L_rs ?_|refine L_reg ?_ | skip
  refine cP [0,1] (bsLen_tr ws n) ?_
  repeat' (first|refine qN ?_|refine dN ?_|refine dR ?_|refine d0 ?_|refine rT ?_|refine aI (hn:=?_)|refine sP 7 (fun h=>?_) (fun h=>?_)|refine qR ?_|refine qS ?_|exact ⟨rfl,rfl⟩|fail)
  refine ⟨congrArg Value.bool ?_,rfl⟩
  rw [decide_eq_decide]; omega
 ·refine ⟨congrArg Value.bool ?_,rfl⟩
  symm; rw [decide_eq_false_iff_not]; omega
theorem bsHas_ok (ws:Words) (n:Nat) (hn:n≤65536) (hw:n≤64*ws.length) (i:Nat) (h:i<n):Tr Tryz.prog 111 [ptr 0,.int .i64 i] (BS ws n) (fun v K=>v=.bool (bitAt ws i)∧K=BS ws n):=by
 have hI:=bsIn_tr ws n i
 rw [decide_eq_true (by omega)] at hI
 have hk:i / 64<ws.length:=by omega
 refine Tr.of Ro8 rfl ?_
 repeat' (first|refine qN ?_|refine dN ?_|refine dR ?_|refine d0 ?_|refine rT ?_|refine aX ?_|refine qR ?_|refine qS ?_|exact ⟨rfl,rfl⟩|fail)
 first|refine L_rs ?_|refine L_reg ?_ | skip
 refine cP [0,1] (hI) ?_
 first|refine L_rs ?_|refine L_reg ?_ | skip
 refine S_Q [] rfl rfl (QY.divN (c:=((i / 64:Nat):Int)) rfl rfl (by omega) (by omega) (by omega)) ?_
 first|refine L_rs ?_|refine L_reg ?_ | skip
 refine S_Q [] rfl rfl (QY.idxN rfl rfl hk) ?_
 first|refine L_rs ?_|refine L_reg ?_ | skip
 refine S_Q [] rfl rfl (QY.ldW rfl rfl (List.getElem?_eq_getElem hk)) ?_
 first|refine L_rs ?_|refine L_reg ?_ | skip
 refine S_Q [] rfl rfl (QY.remN (c:=((i % 64:Nat):Int)) rfl rfl (by omega) (by omega) (by omega)) ?_
 first|refine L_rs ?_|refine L_reg ?_ | skip
 refine S_Q [] rfl rfl (QY.shrW (n:=i % 64) rfl rfl) ?_
 first|refine L_rs ?_|refine L_reg ?_ | skip
 refine S_Q [] rfl rfl (QY.andW (b:=1#64) rfl rfl) ?_
 repeat' (first|refine qN ?_|refine dN ?_|refine dR ?_|refine d0 ?_|refine rT ?_|refine aX ?_|refine qR ?_|refine qS ?_|exact ⟨rfl,rfl⟩|fail)
 refine ⟨?_,rfl⟩
 show Value.bool ((((ws[i / 64] >>> (i % 64)) &&& 1#64).toNat:Int) == 1)=_
 rw [bit_test,bitAt,List.getD_eq_getElem?_getD,List.getElem?_eq_getElem hk]
 rfl
theorem bsPut_ok (ws:Words) (n:Nat) (hn:n≤65536) (hw:n≤64*ws.length) (i:Nat) (h:i<n) (v:Bool):Tr Tryz.prog 199 [ptr 0,.int .i64 i,.bool v] (BS ws n) (fun u K=>u=.int .i64 0∧K=BS (putBit ws i v) n):=by
 have hI:=bsIn_tr ws n i
 rw [decide_eq_true (by omega)] at hI
 have hk:i / 64<ws.length:=by omega
 have hg:ws.getD (i / 64) 0=ws[i / 64]:=by rw [List.getD_eq_getElem?_getD,List.getElem?_eq_getElem hk]; rfl
 have hK:∀ v,BS (putBit ws i v) n=[.cells 0 [slB 1 ws.length,.int .i64 n],.gro 1 (rowsC wordC (putBit ws i v))]:=fun v=>by rw [BS,putBit_length]
 rw [hK]
 unfold putBit
 rw [hg]
 refine Tr.of Ro10 rfl ?_
 cases v
 ·repeat' (first|refine qN ?_|refine dN ?_|refine dR ?_|refine d0 ?_|refine qB ?_|refine rT ?_|refine qT ?_|refine qU ?_|refine iF (fun h=>?_) (fun h=>?_)|refine aX ?_|refine qR ?_|refine qS ?_|exact ⟨rfl,rfl⟩|fail)
  first|refine L_rs ?_|refine L_reg ?_ | skip
  refine cP [0,1] (hI) ?_
  repeat' (first|refine qN ?_|refine dN ?_|refine dR ?_|refine d0 ?_|refine qB ?_|refine rT ?_|refine qT ?_|refine qU ?_|refine iF (fun h=>?_) (fun h=>?_)|refine aX ?_|refine qR ?_|refine qS ?_|exact ⟨rfl,rfl⟩|fail)
  first|refine L_rs ?_|refine L_reg ?_ | skip
  refine S_Q [] rfl rfl (QY.divN (c:=((i / 64:Nat):Int)) rfl rfl (by omega) (by omega) (by omega)) ?_
  first|refine L_rs ?_|refine L_reg ?_ | skip
  refine S_Q [] rfl rfl (QY.idxN rfl rfl hk) ?_
  first|refine L_rs ?_|refine L_reg ?_ | skip
  refine S_Q [] rfl rfl (QY.ldW rfl rfl (List.getElem?_eq_getElem hk)) ?_
  first|refine L_rs ?_|refine L_reg ?_ | skip
  refine S_Q [] rfl rfl (QY.remN (c:=((i % 64:Nat):Int)) rfl rfl (by omega) (by omega) (by omega)) ?_
  first|refine L_rs ?_|refine L_reg ?_ | skip
  refine S_Q [] rfl rfl (QY.shlW (a:=1#64) (n:=i % 64) rfl rfl) ?_
  first|refine L_rs ?_|refine L_reg ?_ | skip
  refine S_Q [] rfl rfl (QY.andNotW rfl rfl) ?_
  first|refine L_rs ?_|refine L_reg ?_ | skip
  refine S_Q [] rfl rfl (QY.idxN rfl rfl hk) ?_
  first|refine L_rs ?_|refine L_reg ?_ | skip
  refine eE rfl rfl (EW.stW (k:=i / 64) rfl rfl rfl hk) ?_
  conv=>whnf
  repeat' (first|refine qN ?_|refine dN ?_|refine dR ?_|refine d0 ?_|refine qB ?_|refine rT ?_|refine qT ?_|refine qU ?_|refine iF (fun h=>?_) (fun h=>?_)|refine aX ?_|refine qR ?_|refine qS ?_|exact ⟨rfl,rfl⟩|fail)
 ·repeat' (first|refine qN ?_|refine dN ?_|refine dR ?_|refine d0 ?_|refine qB ?_|refine rT ?_|refine qT ?_|refine qU ?_|refine iF (fun h=>?_) (fun h=>?_)|refine aX ?_|refine qR ?_|refine qS ?_|exact ⟨rfl,rfl⟩|fail)
  first|refine L_rs ?_|refine L_reg ?_ | skip
  refine cP [0,1] (hI) ?_
  repeat' (first|refine qN ?_|refine dN ?_|refine dR ?_|refine d0 ?_|refine qB ?_|refine rT ?_|refine qT ?_|refine qU ?_|refine iF (fun h=>?_) (fun h=>?_)|refine aX ?_|refine qR ?_|refine qS ?_|exact ⟨rfl,rfl⟩|fail)
  first|refine L_rs ?_|refine L_reg ?_ | skip
  refine S_Q [] rfl rfl (QY.divN (c:=((i / 64:Nat):Int)) rfl rfl (by omega) (by omega) (by omega)) ?_
  first|refine L_rs ?_|refine L_reg ?_ | skip
  refine S_Q [] rfl rfl (QY.idxN rfl rfl hk) ?_
  first|refine L_rs ?_|refine L_reg ?_ | skip
  refine S_Q [] rfl rfl (QY.ldW rfl rfl (List.getElem?_eq_getElem hk)) ?_
  first|refine L_rs ?_|refine L_reg ?_ | skip
  refine S_Q [] rfl rfl (QY.remN (c:=((i % 64:Nat):Int)) rfl rfl (by omega) (by omega) (by omega)) ?_
  first|refine L_rs ?_|refine L_reg ?_ | skip
  refine S_Q [] rfl rfl (QY.shlW (a:=1#64) (n:=i % 64) rfl rfl) ?_
  first|refine L_rs ?_|refine L_reg ?_ | skip
  refine S_Q [] rfl rfl (QY.orW rfl rfl) ?_
  first|refine L_rs ?_|refine L_reg ?_ | skip
  refine S_Q [] rfl rfl (QY.idxN rfl rfl hk) ?_
  first|refine L_rs ?_|refine L_reg ?_ | skip
  refine eE rfl rfl (EW.stW (k:=i / 64) rfl rfl rfl hk) ?_
  conv=>whnf
  repeat' (first|refine qN ?_|refine dN ?_|refine dR ?_|refine d0 ?_|refine qB ?_|refine rT ?_|refine qT ?_|refine qU ?_|refine iF (fun h=>?_) (fun h=>?_)|refine aX ?_|refine qR ?_|refine qS ?_|exact ⟨rfl,rfl⟩|fail)
theorem bsNew_tr (p:Int) (n:Nat) (hn:min (max p 0) 65536=n):Tr Tryz.prog 269 [.int .i64 p] [] (fun v K=>v=ptr 0∧K=BS (List.replicate ((n+63) / 64) 0) n):=by
 have hn':(imm false (imm true p 0) 65536)=n:=hn
 refine Tr.of Ro7 rfl ?_
 refine L_rs (S_done [] rfl (Nx.goL (L_rs (S_done [] rfl (Nx.goL ?_)))))
 rw [hn']
 have hq:((n:Int)+64-1) / 64=((n+63) / 64:Nat):=by omega
 first|refine L_rs ?_|refine L_reg ?_ | skip
 refine S_Q [] rfl rfl (QY.add rfl rfl rfl (by omega) (by omega)) ?_
 first|refine L_rs ?_|refine L_reg ?_ | skip
 refine S_Q [] rfl rfl (QY.sub rfl rfl rfl (by omega) (by omega)) ?_
 first|refine L_rs ?_|refine L_reg ?_ | skip
 refine S_Q [] rfl rfl (QY.divN rfl rfl hq (by omega) (by omega)) ?_
 first|refine L_rs ?_|refine L_reg ?_ | skip
 refine eE rfl rfl (EW.mk (sz:=1) (bytes:=8) (k:=(n+63) / 64) (zs:=wordC 0) rfl (by kernel_rfl) rfl rfl (by omega) (by omega)) ?_
 conv=>whnf
 repeat' (first|refine qN ?_|refine dN ?_|refine dR ?_|refine d0 ?_|refine rT ?_|refine qR ?_|refine qS ?_|exact ⟨rfl,rfl⟩|fail)
 refine L_ret (RetQ.pick [1,0] rfl rfl rfl rfl ⟨rfl,?_⟩)
 rw [repC_rows (0:BitVec 64),BS,List.length_replicate]
 rfl
end Go.Proofs.YtblibdfcnplfhaaGreat
end
section
namespace Go.Tum
open Go
section
variable {P:Program} {n0:NA} {L:LH} {l:Env}
theorem L2.setL {R:Value→Value→Prop}:∀ {x y:List Value} {j:Nat} {u:Value},L2 R x y→(∀ a c,x[j]?=some a→R a c→R u c)→L2 R (x.set j u) y
 | [],_,_,_,h,_=>h
 | _::_,[],_,_,h,_=>h.elim
 | a::x,c::y,0,u,h,hu=>⟨hu a c rfl h.1,h.2⟩
 | a::x,c::y,j+1,u,h,hu=>⟨h.1,L2.setL h.2 fun a' c' ha=>hu a' c' (by simpa using ha)⟩
theorem rep_nilC {b j sz:Nat} (szg:Nat) {vs:List Value} {X:Nat→Prop} {w0 w:World} {E:Emb} (hb:L[b]?=some (.cells sz vs)) (hv:vs[j]?=some (.slice none 0 0)) (hR:Rep X w0 E L w):Rep X w0 (E++[(0,0,0)]) (L.set b (.cells sz (vs.set j (.slice (some ⟨L.length,0,none⟩) 0 0)))++[.gro szg []]) w:=by
 have h1:Rep X w0 (E++[(0,0,0)]) (L++[.gro szg []]) w:=hR.push (Fr.refl _ w) (fun _ h=>h.elim) (.inl ⟨rfl,rfl⟩)
 have hlast:(E++[(0,0,0)])[L.length]?=some (0,0,0):=by rw [← hR.len]; simp
 have hlt:=(List.getElem?_eq_some_iff.1 hb).1
 have hb1:(L++[LB.gro szg []])[b]?=some (.cells sz vs):=by rw [List.getElem?_append_left hlt]; exact hb
 obtain ⟨r,hr⟩:=h1.ent hb1
 obtain ⟨cs,hB,hl2,hroom,hz⟩:=h1.blk b _ r hb1 hr
 have h2:=h1.upd (x:=.cells sz (vs.set j (.slice (some ⟨L.length,0,none⟩) 0 0))) hb1 hr (Fr.refl _ w) ⟨cs,hB,?_,by rw [List.length_set]; exact hroom,hz⟩ (fun _ h=>.inl h)
 ·rw [List.set_append_left _ _ hlt] at h2; exact h2
 ·rw [List.length_set]
  refine L2.setL hl2 fun a c ha hc=>?_
  rw [hv] at ha; cases ha
  have hc:c=Value.slice none 0 0:=hc
  subst hc
  exact ⟨rfl,_,hlast,.inr ⟨rfl,rfl,_,rfl⟩⟩
theorem LWp.nilC {m:MC} {Q:Exit→Env→LH→Prop} (b j szg:Nat) {sz:Nat} {vs:List Value} (hb:L[b]?=some (.cells sz vs)) (hv:vs[j]?=some (.slice none 0 0)) (h:LWp P n0 m Q l (L.set b (.cells sz (vs.set j (.slice (some ⟨L.length,0,none⟩) 0 0)))++[.gro szg []])):LWp P n0 m Q l L :=
 ⟨fun X w0 E0 w E l' h0 hE hR hl=>h.go X w0 E0 w (E++[(0,0,0)]) l' h0 (hE.trans (Ext.push E _)) (rep_nilC szg hb hv hR) (hl.ext (Ext.push E _))⟩
end
end Go.Tum
end
section
namespace Go.Tum
open Go
section
variable {P:Program} {L:LH}
theorem Tr.runK {L2:LH} {tab:List FnRow} {rawQ:RawQ} {rawE:RawE} {keep:List Nat} (sel:List Nat) (ht:∀ x∈tab,x.Ok P) (hq:RawOk P rawQ) (he:RawEOk P rawE) {fuel:Nat} {f:FuncId} {vs:List Value} {v:Value}
  (hc:callable P f=true) (h:(match lcall noOv tab rawQ rawE fuel f vs L with
   | some x=>(match letGoV sel x.2 x.1,letGo sel x.2 with
    | some u,some K=>some (u,K)
    | _,_=>none)
   | none=>none)=some (v,L2)) (g0:keepOk sel keep=true) (hn:Nat.ble L.length sel.length=true):TrK P [] keep f vs L (fun u K=>u=v∧K=L2):=by
 intro X w0 w E vs' hA hR hv
 split at h
 ·rename_i x hx
  split at h
  ·rename_i u K h1 h2
   obtain ⟨u0,L1⟩:=x
   cases h
   refine ⟨hc,((lrun_ok (H:=fun _ _=>True) (noOv_ok _ P) ht hq he fuel).1 X w0 trivial w E L f vs vs' u0 L1 hx hR hv).2.mono ?_⟩
   rintro v' w' ⟨E',k1,k2,k3⟩
   exact ⟨subE E' sel,v,L2,NA.Ext.sub (fun k r _ hr=>k1 k r hr) g0,by rw [letGo_length h2]; exact Nat.le_of_ble_eq_true hn,letGoV_ok h1 k3 k2,letGo_ok h2 k3,rfl,rfl⟩
  ·cases h
 ·cases h
end
theorem wk_dead {L:LH} (b:Nat) {x:LB} (hb:L[b]?=some x):∀ X w0 E w,Rep X w0 E L w→Rep X w0 E (L.set b .dead) w:=by
 intro X w0 E w hR
 obtain ⟨r,hr⟩:=hR.ent hb
 exact hR.upd (x:=.dead) hb hr (Fr.refl _ w) trivial (fun _ h=>h.elim)
section
variable {P:Program} {n0:NA} {Q:Exit→Env→LH→Prop} {K:Env→LH→Prop} {l l1:Env} {L L1 L2 K2 Lc:LH} {T T1:Taken} {k:Nat} {d:Option Nat} {g:Option (Nat × Bool)} {rd:Bool} {r ss ss1:List Step} {x y:Operand} {b:MC} {op:QOp} {eo:EOp} {pend:List Nat} {v v1 v2:Value}
theorem cV {keep:List Nat} {f:FuncId} {args:List Operand} {a c vs us:List Value} (φ:List Nat) (ht:TrK P [] keep f us Lc (fun v K=>v=v1∧K=L2)) (hn:nE (dpush d v2 l1) fun l=>nL K2 fun L=>LSt P n0 r K l T1 L) (h:arun [] ss l T L=(.e d g (.callv x args) pend::r,l1,T1,L1):=by exact rfl) (hg:gw g l1=some true:=by exact rfl)
  (hx:lv l1 x=some (.func (.func f) ⟨a⟩ ⟨c⟩):=by exact rfl) (hv:lvs l1 args=some vs:=by exact rfl) (he:us.map (rnV L1.length φ)=a++vs++c:=by exact rfl) (h1:φ.Nodup:=by decide) (h2:partL L1 φ φ Lc:=by repeat' (first|exact trivial|refine ⟨rfl,?_⟩ | fail)) (hm:nmL (dropped keep 0 φ) φ 0 L1=true:=by kernel_rfl) (h3:rnV (L1.length+L2.length) (phi2 φ L1.length L2) v1=v2:=by exact rfl) (h4:joinQ φ L1 L2=K2:=by exact rfl)
  (h5:disj (dropped keep 0 φ) n0.keep=true:=by kernel_rfl) (h6:nmE (dropped keep 0 φ) l1=true:=by kernel_rfl) (h7:nmT (dropped keep 0 φ) T1=true:=by kernel_rfl)
  (hc:chkG P n0 φ T1 L1 K2 pend:=by repeat' (first|exact trivial|refine ⟨.inl rfl,?_⟩|refine ⟨.inr ⟨qsafe_ok (st:=[]) rfl,Sure.of rfl⟩,?_⟩ | fail)):LSt P n0 ss K l T L :=
 S_Ed [] h hg ((EWd.callv φ ht hx hv he (Part.of h1 h2) handed_nil hm).mono fun v K ⟨v',L',⟨h3',h4'⟩,h5',h6'⟩=>(by subst h3'; subst h4'; exact ⟨h5'.trans h3,h6'.trans ((joinQ_eq h1).trans h4)⟩:v=v2∧K=K2)) h5 h6 h7 (by rintro _ _ ⟨rfl,rfl⟩; exact ⟨hc,LSt.nf hn⟩)
end
end Go.Tum
end
section
namespace Go.Tum
open Go
section
variable {P:Program} {n0:NA} {l l1:Env} {L L1 Lc:LH} {T T1:Taken} {K:Env→LH→Prop} {ss r:List Step} {d:Option Nat} {g:Option (Nat × Bool)} {pend:List Nat}
theorem cX {ι:Type} {V V2:ι→Value} {B K2:ι→LH} {C:ι→Prop} {keep:List Nat} {f:FuncId} {args:List Operand} {vs us:List Value} (φ:List Nat) (ht:TrK P [] keep f us Lc (fun v K=>∃ i,C i∧v=V i∧K=B i)) (hn:∀ i,C i→nE (dpush d (V2 i) l1) fun l=>nL (K2 i) fun L=>LSt P n0 r K l T1 L) (h:arun [] ss l T L=(.e d g (.call f args) pend::r,l1,T1,L1):=by exact rfl) (hg:gw g l1=some true:=by exact rfl)
  (hv:lvs l1 args=some vs:=by exact rfl) (he:us.map (rnV L1.length φ)=vs:=by exact rfl) (h1:φ.Nodup:=by decide) (h2:partL L1 φ φ Lc:=by repeat' (first|exact trivial|refine ⟨rfl,?_⟩ | fail)) (hm:nmL (dropped keep 0 φ) φ 0 L1=true:=by kernel_rfl) (h3:∀ i,rnV (L1.length+(B i).length) (phi2 φ L1.length (B i)) (V i)=V2 i:=by exact fun _=>rfl) (h4:∀ i,joinQ φ L1 (B i)=K2 i:=by exact fun _=>rfl)
  (h5:disj (dropped keep 0 φ) n0.keep=true:=by kernel_rfl) (h6:nmE (dropped keep 0 φ) l1=true:=by kernel_rfl) (h7:nmT (dropped keep 0 φ) T1=true:=by kernel_rfl)
  (hc:∀ i,chkG P n0 φ T1 L1 (K2 i) pend:=by intro _; repeat' (first|exact trivial|refine ⟨.inl rfl,?_⟩|refine ⟨.inr ⟨qsafe_ok (st:=[]) rfl,Sure.of rfl⟩,?_⟩|refine ⟨.inr ⟨qsafe_ok (st:=[]) rfl,Sure.slice (by omega)⟩,?_⟩ | fail)):LSt P n0 ss K l T L :=
 S_Ed [] h hg ((EWd.call φ ht hv he (Part.of h1 h2) handed_nil hm).mono fun v K ⟨_,_,⟨i,hi,e1,e2⟩,e3,e4⟩=>(by subst e1; subst e2; exact ⟨i,hi,e3.trans (h3 i),e4.trans ((joinQ_eq h1).trans (h4 i))⟩:∃ i,C i∧v=V2 i∧K=K2 i)) h5 h6 h7 (by rintro _ _ ⟨i,hi,rfl,rfl⟩; exact ⟨hc i,LSt.nf (hn i hi)⟩)
theorem S_EdK {eo:EOp} (ks:List Nat) {fr dr:List Nat} {R:Value→LH→Prop} (h:arun [] ss l T L=(.e d g eo pend::r,l1,T1,L1)) (hg:gw g l1=some true) (hw:EWd P n0 fr dr L1 l1 eo R) (hd:disj dr n0.keep=true) (hn:nmE dr (repick l1 ks)=true) (ht:nmT dr T1=true) (hk:∀ v L',R v L'→chkG P n0 fr T1 L1 L' pend∧LSt P n0 r K (dpush d v (repick l1 ks)) T1 L'):LSt P n0 ss K l T L:=by
 refine arun_ok [] ss l T L h ⟨fun X w0 E0 w E l' F h0 hE hR hl hT=>?_⟩
 simp only [stepsWp]
 refine gw_ok hl hg (fun _=>?_) (fun e=>by cases e)
 refine hw X w0 E0 w E l' _ h0 hE hR hl fun w' E' v' v L' hr h1 hL h2 h3=>?_
 obtain ⟨hc,hn'⟩:=hk v L' hr
 have hE':n0.Ext E0 E':=fun k r hk hr=>h1 k r (disj_ok hd hk) (hE k r hk hr)
 exact ⟨chkG_ok h0 hE' hL h2 hT (hT.extD h1 ht) _ hc,hn'.go X w0 E0 w' E' _ _ h0 hE' h2 (((hl.repick ks).extD h1 hn).dpush h3 d) (hT.extD h1 ht)⟩
end
end Go.Tum
end
section
/-
 A contract over more blocks than a function is handed; a call that is handed all blocks.
-/
namespace Go.Tum
open Go

section
variable {P:Program} {n0:NA} {l:Env} {L:LH}
theorem jgo_length (φ:List Nat) (xs:LH):∀ (M:LH) (i:Nat),(jgo φ xs i M).length=M.length
 | [],_=>rfl
 | _::r,i=>by simp [jgo,jgo_length φ xs r (i+1)]
/-- the same contract where more blocks stand -/
theorem TrK.frame {keep keep2:List Nat} {f:FuncId} {us vs:List Value} {Lc K1 K2:LH} {v1 v2:Value} (φ:List Nat) (ht:TrK P [] keep f us Lc (fun v K=>v=v1∧K=K1)) (he:us.map (rnV L.length φ)=vs) (h1:φ.Nodup) (h2:partL L φ φ Lc) (hm:nmL (dropped keep 0 φ) φ 0 L=true)
  (h3:rnV (L.length+K1.length) (phi2 φ L.length K1) v1=v2) (h4:joinQ φ L K1=K2) (hk:disj (dropped keep 0 φ) keep2=true):TrK P [] keep2 f vs L (fun v K=>v=v2∧K=K2):=by
 intro X w0 w E vs' hA hR hv
 have h5:L2 (VR (subE E φ)) us vs':=by
  subst he
  rw [← hR.len] at hv
  exact L2.sub (f:=rnV E.length φ) (fun _ _ h=>VR.sub h) hv
 refine call_core (n0:=NA.mk L.length [] keep2) (E0:=E) ht (Part.of h1 h2) handed_nil hm hA (NA.Ext.refl _ _) hR h5 ?_
 rintro w' E' v' v L' ⟨_,_,⟨rfl,rfl⟩,rfl,rfl⟩ hx _ hR' hv'
 refine ⟨E',_,_,fun k r hk2 hr=>hx k r (disj_ok hk hk2) hr,?_,hv',hR',h3,(joinQ_eq h1).trans h4⟩
 rw [joinQ_eq h1,joinQ,List.length_append,jgo_length]
 omega
theorem dropped_inL {keep:List Nat}:∀ (n a b k:Nat),b≤k→k<b+n→inL (a+(k-b)) keep=false→inL k (dropped keep a (seqN b n))=true
 | 0,a,b,k,h1,h2,_=>by omega
 | n+1,a,b,k,h1,h2,h3=>by
  simp only [seqN,dropped]
  by_cases hk:k=b
  ·subst hk
   rw [Nat.sub_self,Nat.add_zero] at h3
   rw [h3]
   simp [inL]
  ·have:=dropped_inL (keep:=keep) n (a+1) (b+1) k (by omega) (by omega) (by rw [show a+1+(k-(b+1))=a+(k-b) by omega]; exact h3)
   cases inL a keep with
   | true=>simpa using this
   | false=>simp only [cond_false,inL,this]; cases Nat.beq b k <;> rfl
/-- a call that is handed all blocks -/
theorem EWd.whole {keep:List Nat} {f:FuncId} {args:List Operand} {vs:List Value} {R:Value→LH→Prop} (ht:TrK P [] keep f vs L R) (hv:lvs l args=some vs):EWd P n0 (seqN 0 L.length) (dropped keep 0 (seqN 0 L.length)) L l (.call f args) R:=by
 intro X w0 E0 w E l' Kf h0 hE hR hl hK
 obtain ⟨vs',h1,h2⟩:=lvs_evs hl hv
 have hc:=ht X w0 w E vs' ⟨hR.len,by simp,h0.2.2⟩ hR h2
 refine ⟨vs',h1,hc.2.mono ?_⟩
 rintro v' w' ⟨E',v,L',g1,g0,g2,g3,g4⟩
 refine hK w' E' v' v L' g4 (fun k r hk hr=>?_) (fun k x r b hk hx _ _=>?_) g3 g2
 ·refine g1 k r ?_ hr
  have hkl:k<L.length:=by rw [← hR.len]; exact (List.getElem?_eq_some_iff.1 hr).1
  cases hq:inL k keep with
  | true=>rfl
  | false =>
   have:=dropped_inL (keep:=keep) L.length 0 0 k (by omega) (by omega) (by simpa using hq)
   rw [hk] at this; cases this
 ·have hkl:k<L.length:=(List.getElem?_eq_some_iff.1 hx).1
  have:=seqN_get L.length 0 k hkl
  rw [Nat.zero_add] at this
  have:=inL_mem.2 (List.mem_of_getElem? this)
  rw [hk] at this; cases this
end
section
variable {P:Program} {n0:NA} {l:Env} {L:LH}
/-- a make,by reckoning,where so many blocks stand -/
theorem EW.ofM {o:Oper} {x y:Operand} {v:Value} {L':LH} (sT:TypeId) (N:Nat) (ho:o.op=.makeSlice sT x y) (hl:L.length=N) (h:le (fun _ _ _=>none) (rawE2 P) L l (.raw o)=some (v,L')):EW P n0 L l (.raw o) (fun u K=>u=v∧K=L') :=
 (fun (_:o.op=.makeSlice sT x y) (_:L.length=N)=>EW.of h) ho hl
theorem TrK.fewer {keep keep':List Nat} {f:FuncId} {us:List Value} {R:Value→LH→Prop} (h:TrK P [] keep f us L R) (hk:(keep'.all fun k=>inL k keep)=true):TrK P [] keep' f us L R:=by
 intro X w0 w E vs' hA hR hv
 obtain ⟨h1,h2⟩:=h X w0 w E vs' ⟨hA.1,by simp,hA.2.2⟩ hR hv
 refine ⟨h1,h2.mono ?_⟩
 rintro v' w' ⟨E',v,L',g1,g0,g2,g3,g4⟩
 exact ⟨E',v,L',fun k r hq hr=>g1 k r (List.all_eq_true.1 hk k (inL_mem.1 hq)) hr,g0,g2,g3,g4⟩
end
section
variable {P:Program} {n0:NA} {l l1:Env} {L L1:LH} {T T1:Taken} {K:Env→LH→Prop} {ss r:List Step} {d:Option Nat} {g:Option (Nat × Bool)} {pend:List Nat}
/-- .. its step -/
theorem cAll {ι:Type} {V:ι→Value} {B:ι→LH} {C:ι→Prop} {keep:List Nat} {f:FuncId} {args:List Operand} {vs:List Value} (ht:TrK P [] keep f vs L1 (fun v K=>∃ i,C i∧v=V i∧K=B i)) (hn:∀ i,C i→nE (dpush d (V i) l1) fun l=>nL (B i) fun L=>LSt P n0 r K l T1 L) (h:arun [] ss l T L=(.e d g (.call f args) pend::r,l1,T1,L1):=by exact rfl) (hg:gw g l1=some true:=by exact rfl)
  (hv:lvs l1 args=some vs:=by exact rfl) (h5:disj (dropped keep 0 (seqN 0 L1.length)) n0.keep=true:=by kernel_rfl) (h6:nmE (dropped keep 0 (seqN 0 L1.length)) l1=true:=by kernel_rfl) (h7:nmT (dropped keep 0 (seqN 0 L1.length)) T1=true:=by kernel_rfl)
  (hc:∀ i,chkG P n0 (seqN 0 L1.length) T1 L1 (B i) pend:=by intro _; repeat' (first|exact trivial|refine ⟨.inl rfl,?_⟩|refine ⟨.inr ⟨qsafe_ok (st:=[]) rfl,Sure.of rfl⟩,?_⟩ | fail)):LSt P n0 ss K l T L :=
 S_Ed [] h hg (EWd.whole ht hv) h5 h6 h7 (by rintro _ _ ⟨i,hi,rfl,rfl⟩; exact ⟨hc i,LSt.nf (hn i hi)⟩)
/-- .. told outright -/
theorem cWh {v1:Value} {K2:LH} {keep:List Nat} {f:FuncId} {args:List Operand} {vs:List Value} (ht:TrK P [] keep f vs L1 (fun v K=>v=v1∧K=K2)) (hn:nE (dpush d v1 l1) fun l=>nL K2 fun L=>LSt P n0 r K l T1 L) (h:arun [] ss l T L=(.e d g (.call f args) pend::r,l1,T1,L1):=by exact rfl) (hg:gw g l1=some true:=by exact rfl)
  (hv:lvs l1 args=some vs:=by exact rfl) (h5:disj (dropped keep 0 (seqN 0 L1.length)) n0.keep=true:=by kernel_rfl) (h6:nmE (dropped keep 0 (seqN 0 L1.length)) l1=true:=by kernel_rfl) (h7:nmT (dropped keep 0 (seqN 0 L1.length)) T1=true:=by kernel_rfl)
  (hc:chkG P n0 (seqN 0 L1.length) T1 L1 K2 pend:=by repeat' (first|exact trivial|refine ⟨.inl rfl,?_⟩|refine ⟨.inr ⟨qsafe_ok (st:=[]) rfl,Sure.of rfl⟩,?_⟩ | fail)):LSt P n0 ss K l T L :=
 S_Ed [] h hg (EWd.whole ht hv) h5 h6 h7 (by rintro _ _ ⟨rfl,rfl⟩; exact ⟨hc,LSt.nf hn⟩)
/-- .. and only some slots are told behind it -/
theorem cWhK {v1:Value} {K2:LH} {keep:List Nat} {f:FuncId} {args:List Operand} {vs:List Value} (ks:List Nat) (ht:TrK P [] keep f vs L1 (fun v K=>v=v1∧K=K2)) (hn:nE (dpush d v1 (repick l1 ks)) fun l=>nL K2 fun L=>LSt P n0 r K l T1 L) (h:arun [] ss l T L=(.e d g (.call f args) pend::r,l1,T1,L1):=by exact rfl) (hg:gw g l1=some true:=by exact rfl)
  (hv:lvs l1 args=some vs:=by exact rfl) (h5:disj (dropped keep 0 (seqN 0 L1.length)) n0.keep=true:=by kernel_rfl) (h6:nmE (dropped keep 0 (seqN 0 L1.length)) (repick l1 ks)=true:=by kernel_rfl) (h7:nmT (dropped keep 0 (seqN 0 L1.length)) T1=true:=by kernel_rfl)
  (hc:chkG P n0 (seqN 0 L1.length) T1 L1 K2 pend:=by repeat' (first|exact trivial|refine ⟨.inl rfl,?_⟩|refine ⟨.inr ⟨qsafe_ok (st:=[]) rfl,Sure.of rfl⟩,?_⟩ | fail)):LSt P n0 ss K l T L :=
 S_EdK ks h hg (EWd.whole ht hv) h5 h6 h7 (by rintro _ _ ⟨rfl,rfl⟩; exact ⟨hc,LSt.nf hn⟩)
end
end Go.Tum
end
section
namespace Go.Tum
open Go
section
variable {P:Program} {n0:NA} {l l1:Env} {L L1 Lc:LH} {T T1:Taken} {K:Env→LH→Prop} {ss r:List Step} {d:Option Nat} {g:Option (Nat × Bool)} {pend:List Nat}
theorem drop_all (N:Nat):dropped (seqN 0 N) 0 (seqN 0 N)=[]:=dropped_seq _ 0 N (by rw [seqN_length]; omega)
theorem cSame {v1:Value} {f:FuncId} {args:List Operand} {vs:List Value} (ht:Tr P f vs L1 (fun v K=>v=v1∧K=L1)) (hn:LSt P n0 r K (dpush d v1 l1) T1 L1) (h:arun [] ss l T L=(.e d g (.call f args) pend::r,l1,T1,L1):=by exact rfl) (hg:gw g l1=some true:=by exact rfl)
  (hv:lvs l1 args=some vs:=by exact rfl)
  (hc:chkG P n0 (seqN 0 L1.length) T1 L1 L1 pend:=by repeat' (first|exact trivial|refine ⟨.inl rfl,?_⟩|refine ⟨.inr ⟨qsafe_ok (st:=[]) rfl,Sure.of rfl⟩,?_⟩ | fail)):LSt P n0 ss K l T L :=
 S_Ed [] h hg (EWd.whole ht hv) (by rw [drop_all]; exact disj_nil _) (by rw [drop_all]; exact nm_nilE _) (by rw [drop_all]; exact nm_nilT _) (by rintro _ _ ⟨rfl,rfl⟩; exact ⟨hc,hn⟩)
end
end Go.Tum
end
section
/-
 Boxes: a heap within one block,at real addresses.
-/
namespace Go.Tum
open Go

section
variable {X:Nat→Prop} {w0 w w':World} {E:Emb} {L:LH}
/-- the blocks Ls stand in w at Es -/
structure BoxAt (Es:Emb) (Ls:LH) (w:World):Prop where
 len:Es.length=Ls.length
 blk:∀ (k:Nat) (x:LB) (r:Nat × Nat × Nat),Ls[k]?=some x→Es[k]?=some r→LBis Es w r x
 inj:∀ (k k':Nat) (x x':LB) (r r':Nat × Nat × Nat) (b:Nat),Ls[k]?=some x→Ls[k']?=some x'→Es[k]?=some r→Es[k']?=some r'→foot r x b→foot r' x' b→k=k'
 lt:∀ (k:Nat) (x:LB) (r:Nat × Nat × Nat) (b:Nat),Ls[k]?=some x→Es[k]?=some r→foot r x b→b<w.heap.size
def box (Es:Emb) (Ls:LH):LB:=.abs (fun _ w=>BoxAt Es Ls w) (footL Es Ls)
theorem BoxAt.fr {Es:Emb} {Ls:LH} {G:Nat→Prop} (h:BoxAt Es Ls w) (hf:Fr G w w') (hn:∀ b,footL Es Ls b→¬ G b):BoxAt Es Ls w' :=
 ⟨h.len,fun k x r hx hr=>(h.blk k x r hx hr).fr hf (fun b hb=>h.lt k x r b hx hr hb) fun b hb=>hn b ⟨k,x,r,hx,hr,hb⟩,h.inj,fun k x r b hx hr hb=>Nat.lt_of_lt_of_le (h.lt k x r b hx hr hb) hf.size⟩
theorem BoxAt.is {Es Es':Emb} {Ls:LH} {r:Nat × Nat × Nat} (h:BoxAt Es Ls w) (hr:r.2=(0,0)):LBis Es' w r (box Es Ls) :=
 ⟨h,hr,fun _ _ _ h1 hf hn=>h1.fr hf hn⟩
theorem seq_rn {N n b M:Nat} (h:b<n):rn M (seqN N n) b=N+b:=by
 unfold rn
 rw [seqN_get n N b h]; rfl
theorem Ext.app (E Es:Emb):Ext E (E++Es):=fun k r h=>by
 rw [List.getElem?_append_left (List.getElem?_eq_some_iff.1 h).1]; exact h
theorem Into.app {Es:Emb} {n:Nat} (E:Emb) (M:Nat) (hn:Es.length=n):Into Es (E++Es) M (seqN E.length n):=fun b r h=>by
 have hb:=(List.getElem?_eq_some_iff.1 h).1
 rw [seq_rn (by omega),List.getElem?_append_right (by omega),show E.length+b-E.length=b by omega]
 exact h
/-- the blocks of a box,by names behind all others -/
def unbox (N:Nat) (Ls:LH):LH:=Ls.map (rnB (N+Ls.length) (seqN N Ls.length))
theorem Rep.open {b:Nat} {Es:Emb} {Ls:LH} (h:Rep X w0 E L w) (hb:L[b]?=some (box Es Ls)):Rep X w0 (E++Es) (L.set b .dead++unbox L.length Ls) w:=by
 obtain ⟨r0,hr0⟩:=h.ent hb
 have hA:BoxAt Es Ls w:=(h.blk b _ r0 hb hr0).1
 have hEL:=h.len
 have hbl:=(List.getElem?_eq_some_iff.1 hb).1
 have cut:∀ (k:Nat) (x:LB) (r:Nat × Nat × Nat),(L.set b .dead++unbox L.length Ls)[k]?=some x→(E++Es)[k]?=some r →
   (k=b∧x=.dead)∨(k≠b∧L[k]?=some x∧E[k]?=some r)∨(∃ i y,k=L.length+i∧Ls[i]?=some y∧Es[i]?=some r∧x=rnB (L.length+Ls.length) (seqN L.length Ls.length) y):=by
  intro k x r hx hr
  by_cases hk:k<L.length
  ·rw [List.getElem?_append_left (by rw [List.length_set]; exact hk)] at hx
   rw [List.getElem?_append_left (by omega)] at hr
   by_cases e:k=b
   ·subst e
    rw [List.getElem?_set_self hk] at hx
    exact .inl ⟨rfl,(Option.some.inj hx).symm⟩
   ·rw [List.getElem?_set_ne (fun q=>e q.symm)] at hx
    exact .inr (.inl ⟨e,hx,hr⟩)
  ·rw [List.getElem?_append_right (by rw [List.length_set]; omega),List.length_set] at hx
   rw [List.getElem?_append_right (by omega),hEL] at hr
   unfold unbox at hx
   rw [List.getElem?_map] at hx
   cases hq:Ls[k-L.length]? with
   | none=>rw [hq] at hx; cases hx
   | some y =>
    rw [hq] at hx
    exact .inr (.inr ⟨k-L.length,y,by omega,hq,hr,(Option.some.inj hx).symm⟩)
 refine ⟨h.fr,by unfold unbox; rw [List.length_append,List.length_append,List.length_set,List.length_map,hA.len,hEL],fun k x r hx hr c hc=>?_,fun k x r hx hr=>?_,fun k k' x x' r r' c hx hx' hr hr' hc hc'=>?_⟩
 ·rcases cut k x r hx hr with ⟨_,rfl⟩ | ⟨_,h1,h2⟩ | ⟨i,y,_,h1,h2,rfl⟩
  ·exact hc.elim
  ·exact h.rng k x r h1 h2 c hc
  ·rw [foot_rn] at hc
   exact h.rng b _ r0 hb hr0 c ⟨i,y,r,h1,h2,hc⟩
 ·rcases cut k x r hx hr with ⟨_,rfl⟩ | ⟨_,h1,h2⟩ | ⟨i,y,_,h1,h2,rfl⟩
  ·trivial
  ·exact (h.blk k x r h1 h2).ext (Ext.app E Es)
  ·have:=Into.app (Es:=Es) E (L.length+Ls.length) hA.len
   rw [hEL] at this
   exact (hA.blk i y r h1 h2).into this
 ·rcases cut k x r hx hr with ⟨_,rfl⟩ | ⟨n1,h1,h2⟩ | ⟨i,y,e1,h1,h2,rfl⟩
  ·exact hc.elim
  ·rcases cut k' x' r' hx' hr' with ⟨_,rfl⟩ | ⟨_,h3,h4⟩ | ⟨i',y',_,h3,h4,rfl⟩
   ·exact hc'.elim
   ·exact h.inj k k' x x' r r' c h1 h3 h2 h4 hc hc'
   ·rw [foot_rn] at hc'
    exact absurd (h.inj k b x _ r r0 c h1 hb h2 hr0 hc ⟨i',y',r',h3,h4,hc'⟩) n1
  ·rw [foot_rn] at hc
   rcases cut k' x' r' hx' hr' with ⟨_,rfl⟩ | ⟨n2,h3,h4⟩ | ⟨i',y',e2,h3,h4,rfl⟩
   ·exact hc'.elim
   ·exact absurd (h.inj k' b x' _ r' r0 c h3 hb h4 hr0 hc' ⟨i,y,r,h1,h2,hc⟩) n2
   ·rw [foot_rn] at hc'
    have:=hA.inj i i' y y' r r' c h1 h3 h2 h4 hc hc'
    omega
theorem subE_seq {n N:Nat} (h:E.length=N+n):subE E (seqN N n)=E.drop N:=by
 apply List.ext_getElem?
 intro k
 unfold subE
 rw [List.getElem?_map,List.getElem?_drop]
 by_cases hk:k<n
 ·rw [seqN_get n N k hk,Option.map_some,List.getD_eq_getElem?_getD,List.getElem?_eq_getElem (by omega)]; rfl
 ·rw [List.getElem?_eq_none (by rw [seqN_length]; omega),List.getElem?_eq_none (by omega)]; rfl
/-- blocks behind all others become a box,at a name of its own -/
theorem Rep.close {M Ls:LH} (h:Rep X w0 E (M++unbox M.length Ls) w):Rep X w0 (E++[(0,0,0)]) (M++List.replicate Ls.length .dead++[box (E.drop M.length) Ls]) w:=by
 have hlen:E.length=M.length+Ls.length:=by rw [h.len]; unfold unbox; rw [List.length_append,List.length_map]
 have hM:∀ (k:Nat) (x:LB),M[k]?=some x→k<M.length∧(M++unbox M.length Ls)[k]?=some x:=fun k x hx=>by
  have hk:=(List.getElem?_eq_some_iff.1 hx).1
  exact ⟨hk,by rw [List.getElem?_append_left hk]; exact hx⟩
 have hN:∀ (k:Nat) (x:LB),Ls[k]?=some x→(M++unbox M.length Ls)[M.length+k]?=some (rnB (M.length+Ls.length) (seqN M.length Ls.length) x):=fun k x hx=>by
  rw [List.getElem?_append_right (by omega),show M.length+k-M.length=k by omega]
  unfold unbox
  rw [List.getElem?_map,hx]; rfl
 have hE:∀ (k:Nat) (r:Nat × Nat × Nat),(E.drop M.length)[k]?=some r→E[M.length+k]?=some r:=fun k r hr=>by rwa [List.getElem?_drop] at hr
 have hA:BoxAt (E.drop M.length) Ls w:=by
  refine ⟨by rw [List.length_drop]; omega,fun k x r hx hr=>?_,fun k k' x x' r r' c hx hx' hr hr' hc hc'=>?_,fun k x r c hx hr hc=>?_⟩
  ·have:=h.blk _ _ r (hN k x hx) (hE k r hr)
   rw [← hlen] at this
   have:=this.sub
   rwa [subE_seq hlen] at this
  ·have:=h.inj _ _ _ _ r r' c (hN k x hx) (hN k' x' hx') (hE k r hr) (hE k' r' hr') (by rw [foot_rn]; exact hc) (by rw [foot_rn]; exact hc')
   omega
  ·exact (h.rng _ _ r (hN k x hx) (hE k r hr) c (by rw [foot_rn]; exact hc)).2
 have cut:∀ (k:Nat) (x:LB) (r:Nat × Nat × Nat),(M++List.replicate Ls.length LB.dead++[box (E.drop M.length) Ls])[k]?=some x→(E++[(0,0,0)])[k]?=some r →
   (M[k]?=some x∧E[k]?=some r)∨x=.dead∨(k=E.length∧x=box (E.drop M.length) Ls∧r=(0,0,0)):=by
  intro k x r hx hr
  by_cases h1:k<M.length
  ·rw [List.append_assoc,List.getElem?_append_left h1] at hx
   rw [List.getElem?_append_left (by omega)] at hr
   exact .inl ⟨hx,hr⟩
  ·by_cases h2:k<E.length
   ·rw [List.append_assoc,List.getElem?_append_right (by omega),List.getElem?_append_left (by rw [List.length_replicate]; omega),List.getElem?_replicate] at hx
    split at hx
    ·exact .inr (.inl (Option.some.inj hx).symm)
    ·cases hx
   ·have hk:k=E.length:=by
     have:=(List.getElem?_eq_some_iff.1 hr).1
     rw [List.length_append,List.length_singleton] at this; omega
    subst hk
    rw [List.getElem?_append_right (by rw [List.length_append,List.length_replicate]; omega)] at hx
    rw [List.getElem?_append_right (Nat.le_refl _),Nat.sub_self] at hr
    rw [show E.length-(M++List.replicate Ls.length LB.dead).length=0 by rw [List.length_append,List.length_replicate]; omega] at hx
    exact .inr (.inr ⟨rfl,(Option.some.inj hx).symm,(Option.some.inj hr).symm⟩)
 refine ⟨h.fr,by rw [List.length_append,List.length_append,List.length_append,List.length_replicate,hlen]; rfl,fun k x r hx hr c hc=>?_,fun k x r hx hr=>?_,fun k k' x x' r r' c hx hx' hr hr' hc hc'=>?_⟩
 ·rcases cut k x r hx hr with ⟨h1,h2⟩ | rfl | ⟨_,rfl,rfl⟩
  ·exact h.rng k x r (hM k x h1).2 h2 c hc
  ·exact hc.elim
  ·obtain ⟨i,y,q,h1,h2,h3⟩:=hc
   exact h.rng _ _ q (hN i y h1) (hE i q h2) c (by rw [foot_rn]; exact h3)
 ·rcases cut k x r hx hr with ⟨h1,h2⟩ | rfl | ⟨_,rfl,rfl⟩
  ·exact (h.blk k x r (hM k x h1).2 h2).ext (Ext.app E _)
  ·trivial
  ·exact hA.is rfl
 ·rcases cut k x r hx hr with ⟨h1,h2⟩ | rfl | ⟨e1,rfl,rfl⟩
  ·rcases cut k' x' r' hx' hr' with ⟨h3,h4⟩ | rfl | ⟨_,rfl,rfl⟩
   ·exact h.inj k k' x x' r r' c (hM k x h1).2 (hM k' x' h3).2 h2 h4 hc hc'
   ·exact hc'.elim
   ·obtain ⟨i,y,q,g1,g2,g3⟩:=hc'
    have:=h.inj k _ x _ r q c (hM k x h1).2 (hN i y g1) h2 (hE i q g2) hc (by rw [foot_rn]; exact g3)
    have:=(hM k x h1).1
    omega
  ·exact hc.elim
  ·rcases cut k' x' r' hx' hr' with ⟨h3,h4⟩ | rfl | ⟨e2,_,_⟩
   ·obtain ⟨i,y,q,g1,g2,g3⟩:=hc
    have:=h.inj k' _ x' _ r' q c (hM k' x' h3).2 (hN i y g1) h4 (hE i q g2) hc' (by rw [foot_rn]; exact g3)
    have:=(hM k' x' h3).1
    omega
   ·exact hc'.elim
   ·omega
/-- a real address in a box's block -/
def adR (r:Nat × Nat × Nat) (o:Nat):Value:=.pointer (some ⟨r.1,o+r.2.1,some 0⟩)
theorem VR.toName {Es:Emb} {i o:Nat} {r:Nat × Nat × Nat} {v:Value} (hi:Es[i]?=some r) (h:VR E (adR r o) v):VR (E++Es) (.pointer (some ⟨E.length+i,o,none⟩)) v:=by
 have h:v=.pointer (some ⟨r.1,o+r.2.1,none⟩):=h
 subst h
 refine ⟨_,rfl,rfl,r,?_,rfl⟩
 show (E++Es)[E.length+i]?=some r
 rw [List.getElem?_append_right (by omega),show E.length+i-E.length=i by omega]
 exact hi
theorem VR.toReal {k o:Nat} {r:Nat × Nat × Nat} {v:Value} (hk:E[k]?=some r) (h:VR E (.pointer (some ⟨k,o,none⟩)) v):v=.pointer (some ⟨r.1,o+r.2.1,none⟩):=by
 obtain ⟨a',h1,_,r',h3,h4⟩:=h
 have h3:E[k]?=some r':=h3
 rw [hk] at h3; cases h3
 rw [h1,h4]
/-- arguments: names behind N stand for real addresses -/
def RealL (N:Nat) (Es:Emb):List Value→List Value→Prop
 | [],[]=>True
 | u::us,v::vs=>(u=v∨∃ i o r,Es[i]?=some r∧u=.pointer (some ⟨N+i,o,none⟩)∧v=adR r o)∧RealL N Es us vs
 | _,_=>False
theorem RealL.vr {Es:Emb}:∀ {us vs vs':List Value},RealL E.length Es us vs→L2 (VR E) vs vs'→L2 (VR (E++Es)) us vs'
 | [],[],[],_,_=>trivial
 | u::us,v::vs,v'::vs',⟨h1,h2⟩,⟨k1,k2⟩=>by
  refine ⟨?_,RealL.vr h2 k2⟩
  rcases h1 with rfl | ⟨i,o,r,h3,rfl,rfl⟩
  ·exact k1.ext (Ext.app E Es)
  ·exact VR.toName h3 k1
 | [],[],_::_,_,k=>k.elim
 | [],_::_,_,h,_=>h.elim
 | _::_,[],_,h,_=>h.elim
 | _::_,_::_,[],_,k=>k.elim
end
section
variable {P:Program}
/-- a contract over a box's blocks is one over the box -/
theorem TrK.openB {keep:List Nat} {f:FuncId} {us vs:List Value} {L Ls:LH} {b:Nat} {Es:Emb} {R:Value→LH→Prop} (hb:L[b]?=some (box Es Ls)) (ht:TrK P [] keep f us (L.set b .dead++unbox L.length Ls) R) (hu:RealL L.length Es us vs):TrK P [] keep f vs L R:=by
 intro X w0 w E vs' hA hR hv
 have hO:=hR.open hb
 rw [← hR.len] at hu
 obtain ⟨h1,h2⟩:=ht X w0 w (E++Es) vs' ⟨hO.len,by simp,hA.2.2⟩ hO (hu.vr hv)
 refine ⟨h1,h2.mono ?_⟩
 rintro v' w' ⟨E',v,L',g1,g0,g2,g3,g4⟩
 refine ⟨E',v,L',fun k r hk hr=>g1 k r hk (Ext.app E Es k r hr),?_,g2,g3,g4⟩
 rw [List.length_append,List.length_set] at g0
 exact Nat.le_trans (Nat.le_add_right _ _) g0
/-- .. and what it leaves becomes a box again -/
theorem TrK.closeB {keep:List Nat} {f:FuncId} {us:List Value} {L M Ls:LH} {v1:Value} {v2:Emb→Value} (ht:TrK P [] keep f us L (fun v K=>v=v1∧K=M++unbox M.length Ls))
  (hv:∀ (E:Emb) (v':Value),E.length=M.length+Ls.length→VR E v1 v'→VR (E++[(0,0,0)]) (v2 (E.drop M.length)) v'):TrK P [] keep f us L (fun v K=>∃ Es:Emb,Es.length=Ls.length∧v=v2 Es∧K=M++List.replicate Ls.length .dead++[box Es Ls]):=by
 intro X w0 w E vs' hA hR hv'
 obtain ⟨h1,h2⟩:=ht X w0 w E vs' hA hR hv'
 refine ⟨h1,h2.mono ?_⟩
 rintro v' w' ⟨E',_,_,g1,g0,g2,g3,rfl,rfl⟩
 have hl:E'.length=M.length+Ls.length:=by rw [g3.len]; unfold unbox; rw [List.length_append,List.length_map]
 refine ⟨E'++[(0,0,0)],_,_,fun k r hk hr=>Ext.app E' _ k r (g1 k r hk hr),?_,hv E' v' hl g2,g3.close,E'.drop M.length,by rw [List.length_drop]; omega,rfl,rfl⟩
 unfold unbox at g0
 rw [List.length_append,List.length_map] at g0
 rw [List.length_append,List.length_append,List.length_replicate]
 omega
end
section
variable {P:Program} {n0:NA} {l:Env} {L:LH} {Q:Exit→Env→LH→Prop}
/-- a box is opened: a slot that holds a real address holds a name -/
theorem LWp.openB {m:MC} {Ls:LH} {b:Nat} {Es:Emb} (t i o:Nat) {r:Nat × Nat × Nat} (hb:L[b]?=some (box Es Ls)) (hi:Es[i]?=some r) (ht:eget l t=some (adR r o)) (h:LWp P n0 m Q ((t,.pointer (some ⟨L.length+i,o,none⟩))::l) (L.set b .dead++unbox L.length Ls)):LWp P n0 m Q l L:=by
 refine ⟨fun X w0 E0 w E l' h0 hE hR hl=>?_⟩
 have hO:=hR.open hb
 refine h.go X w0 E0 w (E++Es) l' h0 (hE.trans (Ext.app E Es)) hO (fun s v hs=>?_)
 have hl2:=hl.ext (Ext.app E Es)
 simp only [eget] at hs
 by_cases hts:t=s
 ·subst hts
  rw [show (Nat.beq t t)=true from Nat.beq_refl t] at hs
  obtain rfl:=(Option.some.inj hs).symm
  obtain ⟨v',h1,h2⟩:=hl.get ht
  exact ⟨v',h1,by rw [← hR.len]; exact VR.toName hi h2⟩
 ·have:Nat.beq t s=false:=by
   cases hq:Nat.beq t s with
   | false=>rfl
   | true=>exact absurd (Nat.eq_of_beq_eq_true hq) hts
  rw [this] at hs
  exact hl2 s v hs
end
end Go.Tum
end
section
namespace Go.Tum
open Go
def RdC (w:World) (sz:Nat) (v:Value) (n:Nat) (cells:List Value):Prop :=
 cells.length=n*sz∧(∀ u∈cells,one u=true) ∧
 (((∃ a c,v=.slice a 0 c)∧n=0)∨∃ sa c,v=.slice (some sa) n c∧∀ j,j<n*sz→w.cell? (sa.add j)=cells[j]?)
theorem RdC.sim {w w0:World} {sz:Nat} {v:Value} {n:Nat} {cells:List Value} (h:RdC w sz v n cells) (hs:Sim w0 w):RdC w0 sz v n cells:=by
 obtain ⟨h1,h2,h3⟩:=h
 refine ⟨h1,h2,?_⟩
 rcases h3 with h4 | ⟨sa,c,h4,h5⟩
 ·exact .inl h4
 ·exact .inr ⟨sa,c,h4,fun j hj=>by rw [hs.cell]; exact h5 j hj⟩
section
variable {P:Program} {w:World} {l:Env} {K:Value→World→Prop}
theorem firstCells_rdC {sz n:Nat} {v:Value} {cells:List Value} (h:RdC w sz v n cells):(Builtin.firstCells sz n v).run P w=.ok cells.toArray w:=by
 obtain ⟨h1,_,h3⟩:=h
 rcases h3 with ⟨⟨a,c,rfl⟩,rfl⟩ | ⟨sa,c,rfl,h5⟩
 ·have:cells=[]:=by simpa using h1
  subst this
  cases a with
  | none=>simp [Builtin.firstCells]
  | some a =>
   simp only [Builtin.firstCells,Nat.zero_mul]
   exact loadCells_run 0 0 #[] #[] rfl (fun j _ hj=>by omega) (by simp)
 ·simp only [Builtin.firstCells]
  exact loadCells_run _ 0 #[] cells.toArray (by simpa using h1) (fun j _ hj=>by rw [h5 j (by omega)]; simp) (by simp)
theorem append_runC {sT xT e:TypeId} {sz bytes n m c:Nat} {base:Option Addr} {vx:Value} {cells cells2:List Value} {ty:TypeId} (he:ElemT P sT e sz bytes) (hx:∃ e',P.underlying xT=some (.slice e'))
  (hs:Rd w sz (.slice base n c) n cells) (hr:RdC w sz vx m cells2) (hb:(2*(n+m)+2048)*bytes≤281474976710656) (hby:0<bytes) :
  ((n+m≤c∧(∀ a,base=some a→(Builtin.append_ #[sT,xT] ty #[.slice base n c,vx]).run P w=(do storeCells (a.add (n*sz)) cells2; pure (.slice base (n+m) c):Sem Value).run P w) ∧
    (base=none→(Builtin.append_ #[sT,xT] ty #[.slice base n c,vx]).run P w=.ok (.slice base (n+m) c) w)) ∨
   (c<n+m∧∃ c' zs w',n+m≤c'∧(cells++cells2++zs).length=c'*sz∧Sim w' (w.alloc (.cells (cells++cells2++zs).toArray e)) ∧
    (Builtin.append_ #[sT,xT] ty #[.slice base n c,vx]).run P w=.ok (.slice (some ⟨w.heap.size,0,none⟩) (n+m) c') w')):=by
 obtain ⟨hu,i,z,hi,h1,h2,hz,hzs,_⟩:=he
 obtain ⟨e',hx⟩:=hx
 have hl:(Builtin.lenOf vx).run P w=.ok m w:=by
  obtain ⟨_,_,h3⟩:=hr
  rcases h3 with ⟨⟨a,c,rfl⟩,rfl⟩ | ⟨sa,c,rfl,_⟩ <;> simp [Builtin.lenOf]
 have hzv:(zeroValue e).run P w=.ok z w:=by simp [zeroValue,typeInfo_run hi,hz]
 by_cases hc:n+m≤c
 ·refine .inl ⟨hc,fun a ha=>?_,fun ha=>?_⟩
  ·subst ha
   unfold Builtin.append_
   simp [run_underlying hu,run_underlying hx,sizeOf_run hi,h1,hl,hc,firstCells_rdC hr]
  ·subst ha
   unfold Builtin.append_
   simp [run_underlying hu,run_underlying hx,sizeOf_run hi,h1,hl,hc,firstCells_rdC hr]
 ·refine .inr ⟨by omega,?_⟩
  have hcap:=nextslicecap_le (n+m) c (by omega)
  have hle:Builtin.nextslicecap (n+m) c*bytes≤281474976710656:=Nat.le_trans (Nat.mul_le_mul_right _ hcap) hb
  have hnm:(2*(n+m)+2048)*1≤(2*(n+m)+2048)*bytes:=Nat.mul_le_mul_left _ hby
  have hq:(Question.appendCap (n+m) c e).forced=false:=rfl
  have hbig:¬ (IntKind.i64.max<((n:Int)+(m:Int))):=by
   have:IntKind.i64.max=9223372036854775807:=rfl
   rw [this]; omega
  let t:=w.tape w.drawn (Question.appendCap (n+m) c e)
  let c':=(n+m)+t % (2 ^ 63-(n+m))
  have hsim:Sim w.drew w:=⟨rfl,rfl,rfl,rfl⟩
  have f1:(Builtin.firstCells sz n (.slice base n c)).run P w.drew=.ok cells.toArray w.drew:=firstCells_rd (hs.sim hsim)
  have f2:(Builtin.firstCells sz m vx).run P w.drew=.ok cells2.toArray w.drew:=firstCells_rdC (hr.sim hsim)
  have hzv1:(zeroValue e).run P w.drew=.ok z w.drew:=by simp [zeroValue,typeInfo_run hi,hz]
  refine ⟨c',(Builtin.zeroCells z.cells (c'-(n+m))).toList,w.drew.alloc (.cells (cells.toArray++cells2.toArray++Builtin.zeroCells z.cells (c'-(n+m))) e),Nat.le_add_right _ _,?_,?_,?_⟩
  ·obtain ⟨k1,_,_⟩:=hs
   obtain ⟨k2,_,_⟩:=hr
   simp only [List.length_append,k1,k2,Builtin.zeroCells]
   simp only [Array.length_toList,Array.size_map,Array.size_range,hzs]
   have e1:c'-(n+m)+(n+m)=c':=Nat.sub_add_cancel (Nat.le_add_right _ _)
   rw [← Nat.add_mul,← Nat.add_mul]
   congr 1
   omega
  ·refine ⟨?_,rfl,rfl,rfl⟩
   show w.heap.push _=w.heap.push _
   congr 2
   simp
  ·unfold Builtin.append_
   have hle':¬ (281474976710656<Builtin.nextslicecap (n+m) c*bytes):=by omega
   have hne:bytes≠0:=by omega
   simp [run_underlying hu,run_underlying hx,sizeOf_run hi,h1,hl,hc,typeInfo_run hi,h2,hne,hle',newRow]
   rw [if_neg (by rw [hq]; simp),f1]
   simp only [Result.andThen_ok]
   rw [f2]
   simp only [Result.andThen_ok]
   rw [hzv1]
   simp only [Result.andThen_ok,Result.ok.injEq]
   refine ⟨rfl,?_⟩
   congr 2
   show cells.toArray++(cells2.toArray++Builtin.zeroCells z.cells (c'-(n+m)))=_
   generalize Builtin.zeroCells z.cells (c'-(n+m))=Z
   rw [← Array.append_assoc]
   simp
theorem append_anyC {d:Option Tmp} {pos:String} {af:Array Edge} {g:Option (Nat × Bool)} {s x:Operand} {sT xT ty e:TypeId} {sz bytes n m c:Nat} {base:Option Addr} {vx:Value} {cells cells2:List Value} (he:ElemT P sT e sz bytes) (hxT:∃ e',P.underlying xT=some (.slice e'))
  (hs:ev l s=some (.slice base n c)) (hx:ev l x=some vx) (hS:Rd w sz (.slice base n c) n cells) (hR:RdC w sz vx m cells2) (hb:(2*(n+m)+2048)*bytes≤281474976710656) (hby:0<bytes)
  (h1:n+m≤c→∀ a,base=some a→(cells2=[]∧K (.slice base (n+m) c) w)∨∃ b o cs,a=⟨b,o,none⟩∧Blk w b cs∧o+n*sz+cells2.length≤cs.length∧K (.slice base (n+m) c) (putCells w ⟨b,o+n*sz,none⟩ 0 cells2))
  (h0:n+m≤c→base=none→K (.slice base (n+m) c) w)
  (h2:c<n+m→∀ c' zs,n+m≤c'→(cells++cells2++zs).length=c'*sz→K (.slice (some ⟨w.heap.size,0,none⟩) (n+m) c') (w.alloc (.cells (cells++cells2++zs).toArray e))) :
  (EOp.raw ⟨d,.call ⟨.builtin .append,#[s,x],#[sT,xT]⟩,ty,pos,af,g⟩).W P K l w:=by
 intro ρ w0 ha hsim
 have hexec:execOp ρ ⟨d,.call ⟨.builtin .append,#[s,x],#[sT,xT]⟩,ty,pos,af,g⟩=(do let r ← Builtin.append_ #[sT,xT] ty #[.slice base n c,vx]; pure (Next.value r)):=by
  simp [execOp,resolve,invoke,builtin,ha s _ hs,ha x _ hx]
 have hrun:=append_runC (P:=P) (w:=w0) (ty:=ty) he hxT (hS.sim hsim) (hR.sim hsim) hb hby
 rcases hrun with ⟨hle,k1,k2⟩ | ⟨hlt,c',zs,w',hc',hlz,hsw,hr⟩
 ·cases base with
  | none =>
   refine Eff.value (v:=.slice none (n+m) c) (w':=w0) ?_ ⟨w,hsim,h0 hle rfl⟩
   rw [hexec]
   simp [k2 rfl]
  | some a =>
   rcases h1 hle a rfl with ⟨rfl,hK⟩ | ⟨b,o,cs,rfl,hB,hcl,hK⟩
   ·refine Eff.value (v:=.slice (some a) (n+m) c) (w':=w0) ?_ ⟨w,hsim,hK⟩
    rw [hexec]
    simp [k1 _ rfl,storeCells]
   have hst:=storeCells_blk (P:=P) (w:=w0) (hB.sim hsim) hcl hR.2.1
   refine Eff.value (v:=.slice (some ⟨b,o,none⟩) (n+m) c) (w':=putCells w0 ⟨b,o+n*sz,none⟩ 0 cells2) ?_ ⟨_,putCells_sim hsim _ _ _,hK⟩
   rw [hexec]
   simp only [Sem.run_bind,k1 _ rfl,add_none,hst]
   simp
 ·refine Eff.value (v:=.slice (some ⟨w0.heap.size,0,none⟩) (n+m) c') (w':=w') ?_ ⟨_,hsw.trans (hsim.push _),?_⟩
  ·rw [hexec]
   simp [hr]
  ·rw [hsim.heap]
   exact h2 hlt c' zs hc' hlz
end
section
variable {X:Nat→Prop} {w0 w w':World} {E:Emb} {L:LH}
theorem appG_ok {P:Program} {l:Env} {K:Value→World→Prop} {d:Option Tmp} {pos:String} {af:Array Edge} {g:Option (Nat × Bool)} {s x:Operand} {sT xT ty e:TypeId} {sz bytes b n m:Nat} {vs' vx':Value} {gs us us2:List Value} (he:ElemT P sT e sz bytes) (hxT:∃ e',P.underlying xT=some (.slice e')) (hby:0<bytes)
  (hsz:0<sz) (hR:Rep X w0 E L w) (hs:ev l s=some vs') (hx:ev l x=some vx') (hsr:VR E (.slice (some ⟨b,0,none⟩) n n) vs') (hb:L[b]?=some (.gro sz gs)) (e4:gs.length=n*sz) (hrd1:Rd w sz vs' n us) (hrd2:RdC w sz vx' m us2) (hbd:(2*(n+m)+2048)*bytes≤281474976710656)
  (hK:∀ w' E' v',Ext E E'→Rep X w0 E' (L.set b .dead++[.gro sz (gs++us2)]) w'→VR E' (.slice (some ⟨L.length,0,none⟩) (n+m) (n+m)) v'→K v' w'):(EOp.raw ⟨d,.call ⟨.builtin .append,#[s,x],#[sT,xT]⟩,ty,pos,af,g⟩).W P K l w:=by
 have hlen1:us.length=n*sz:=hrd1.1
 have hlen2:us2.length=m*sz:=hrd2.1
 have freshG:∀ (Lb:LH) (xs:List Value),Rep X w0 E Lb w→us++us2=xs→xs≠[]→∀ (c':Nat) (zs:List Value),n+m≤c'→(us++us2++zs).length=c'*sz →
   Rep X w0 (E++[(w.heap.size,0,c'-(n+m))]) (Lb++[.gro sz xs]) (w.alloc (.cells (us++us2++zs).toArray e)):=by
  intro Lb xs hRb hxs hne c' zs hc' hlz
  subst hxs
  refine hRb.push1 (Fr.alloc _ _ _) rfl (alloc_size _ _) (fun b hb=>?_) (.inr ⟨hne,hsz,_,Blk.new w _ e,?_,?_⟩)
  ·cases hq:us++us2 with
   | nil=>exact absurd hq hne
   | cons y ys=>rw [hq] at hb; exact hb
  ·simp only [List.drop_zero]
   rw [List.take_append_of_le_length (Nat.le_refl _),List.take_length]
  ·rw [hlz]
   simp only [List.length_append,hlen1,hlen2]
   rw [Nat.zero_add,← Nat.add_mul,← Nat.add_mul]
   exact Nat.mul_le_mul_right _ (by omega)
 have slcNew:∀ (Lb:LH),Rep X w0 E Lb w→∀ c',n+m≤c'→VR (E++[(w.heap.size,0,c'-(n+m))]) (.slice (some ⟨Lb.length,0,none⟩) (n+m) (n+m)) (.slice (some ⟨w.heap.size,0,none⟩) (n+m) c'):=by
  intro Lb hRb c' hc'
  exact ⟨rfl,_,hRb.last _,.inl ⟨_,_,rfl,.inl ⟨by simp,by simp; omega⟩⟩⟩
 obtain ⟨hsp,r,hr,⟨a',c',rfl,hcase⟩ | ⟨hn0,hc0,hnil⟩⟩:=hsr.sr rfl
 rotate_left
 ·obtain ⟨ax,rfl⟩:=hnil
  subst hn0
  have hr:E[b]?=some r:=hr
  have hgs:gs=[]:=List.length_eq_zero_iff.1 (by simpa using e4)
  subst hgs
  have hu1:us=[]:=List.length_eq_zero_iff.1 (by rw [hlen1]; simp)
  subst hu1
  have none0:0+m≤0→us2=[]∧K (.slice ax (0+m) 0) w:=fun hle=>by
   have:m=0:=by omega
   subst this
   have hc2e:us2=[]:=List.length_eq_zero_iff.1 (by rw [hlen2]; simp)
   subst hc2e
   exact ⟨rfl,hK _ (E++[(0,0,0)]) _ (Ext.push E _) (hR.again hb hr (Fr.refl _ w) (fun c hc=>hc.elim) (.inl ⟨rfl,rfl⟩)) ⟨rfl,_,hR.last _,.inr ⟨rfl,rfl,ax,rfl⟩⟩⟩
  refine append_anyC he hxT hs hx hrd1 hrd2 hbd hby (fun hle _ _=>.inl (none0 hle)) (fun hle _=>(none0 hle).2) (fun hlt c' zs hc' hlz=>?_)
  have hne:us2≠[]:=by
   intro e
   rw [e] at hlen2
   have:0<m*sz:=Nat.mul_pos (by omega) hsz
   simp at hlen2
   omega
  have k1:=freshG _ ([]++us2) (hR.kill b) rfl hne c' zs hc' hlz
  have k2:=slcNew _ (hR.kill b) c' hc'
  simp only [List.length_set] at k2
  exact hK _ _ _ (Ext.push E _) k1 k2
 have hr:E[b]?=some r:=hr
 rcases hR.blk b _ r hb hr with ⟨rfl,hr2⟩ | ⟨hne,_,cs,hB,hcs,hroom⟩
 ·have hn0:n=0:=by
   rcases Nat.eq_zero_or_pos n with h0 | h0
   ·exact h0
   ·have:0<n*sz:=Nat.mul_pos h0 hsz
    simp at e4; omega
  subst hn0
  have hc0:c'=0:=by rcases hcase with ⟨_,rfl⟩ | ⟨_,_,rfl,_⟩ <;> omega
  subst hc0
  have hu1:us=[]:=List.length_eq_zero_iff.1 (by rw [hlen1]; simp)
  subst hu1
  have hblk:a'.spot=none:=by rcases hcase with ⟨rfl,_⟩ | ⟨_,_,_,o',rfl,_⟩ <;> rfl
  have hab:∃ o',a'=⟨r.1,o',none⟩∧o'≤0+r.2.1:=by 
   rcases hcase with ⟨rfl,_⟩ | ⟨_,_,_,o',rfl,ho⟩
   ·exact ⟨_,rfl,Nat.le_refl _⟩
   ·exact ⟨_,rfl,ho⟩
  refine append_anyC he hxT hs hx hrd1 hrd2 hbd hby (fun hle a ha=>.inl ?_) (fun _ ha=>by cases ha) (fun hlt c'' zs hc'' hlz=>?_)
  ·have:m=0:=by omega
   subst this
   have hc2e:us2=[]:=List.length_eq_zero_iff.1 (by rw [hlen2]; simp)
   subst hc2e
   refine ⟨rfl,hK _ (E++[r]) _ (Ext.push E _) (hR.again hb hr (Fr.refl _ w) (fun c hc=>hc.elim) (.inl ⟨rfl,hr2⟩)) ?_⟩
   obtain ⟨o',rfl,ho'⟩:=hab
   exact ⟨rfl,r,hR.last _,.inl ⟨_,_,rfl,.inr ⟨rfl,rfl,rfl,o',rfl,by simpa using ho'⟩⟩⟩
  ·have hne:us2≠[]:=by
    intro e
    rw [e] at hlen2
    have:0<m*sz:=Nat.mul_pos (by omega) hsz
    simp at hlen2
    omega
   have k1:=freshG _ ([]++us2) (hR.kill b) rfl hne c'' zs hc'' hlz
   have k2:=slcNew _ (hR.kill b) c'' hc''
   simp only [List.length_set] at k2
   exact hK _ _ _ (Ext.push E _) k1 k2
 ·have hn0:0<n:=by
   rcases Nat.eq_zero_or_pos n with h0 | h0
   ·subst h0; simp at e4; exact absurd e4 hne
   ·exact h0
  rcases hcase with ⟨rfl,rfl⟩ | ⟨h0,_⟩
  rotate_left
  ·omega
  have hus:us=gs:=by
   rcases hrd1.2.2 with ⟨⟨_,_,e⟩,h0⟩ | ⟨b1,o1,c1,cs1,e,hB1,_,h5⟩
   ·omega
   ·cases e
    rw [← h5,← hB.eq hB1,← e4]
    simpa using hcs
  subst hus
  have hne2:us++us2≠[]:=by
   intro e
   rw [List.append_eq_nil_iff] at e
   exact hne e.1
  refine append_anyC he hxT hs hx hrd1 hrd2 hbd hby (fun hle' a ha=>.inr ?_) (fun _ ha=>by cases ha) (fun hlt' c'' zs hc'' hlz=>?_)
  ·cases ha
   have hsp:n*sz+m*sz≤n*sz+r.2.2*sz:=by
    rw [← Nat.add_mul,← Nat.add_mul]; exact Nat.mul_le_mul_right _ hle'
   have hcl:0+r.2.1+n*sz+us2.length≤cs.length:=by omega
   refine ⟨_,_,cs,rfl,hB,hcl,hK _ (E++[(r.1,0+r.2.1,n+r.2.2-(n+m))]) _ (Ext.push E _) ?_ ?_⟩
   ·refine hR.again hb hr ((putCells_fr (p:=⟨r.1,0+r.2.1+n*sz,none⟩) us2 0 w).mono fun c _ hc=>?_) (fun c hc=>.inl ?_) (.inr ⟨hne2,hsz,_,putCells_blk us2 0 w cs hB (by omega),?_,?_⟩)
    ·cases us with
     | nil=>exact absurd rfl hne
     | cons=>exact hc
    ·cases us with
     | nil=>exact absurd rfl hne
     | cons=>exact hc
    ·have:=take_splice (cs:=cs) (o:=0+r.2.1) (k:=n*sz) (b:=us2) (a:=us) hcl (by rw [← e4]; simpa using hcs)
     rw [List.length_append,hlen1,Nat.add_zero]
     exact this
    ·rw [List.length_append,hlen1,hlen2,Nat.add_zero,splice_length hcl]
     have e5:n*sz+m*sz+(n+r.2.2-(n+m))*sz=n*sz+r.2.2*sz:=by
      rw [← Nat.add_mul,← Nat.add_mul,← Nat.add_mul]; congr 1; omega
     show 0+r.2.1+(n*sz+m*sz)+(n+r.2.2-(n+m))*sz≤cs.length
     omega
   ·exact ⟨rfl,(r.1,0+r.2.1,n+r.2.2-(n+m)),hR.last _,.inl ⟨_,_,rfl,.inl ⟨by simp,by simp; omega⟩⟩⟩
  ·have k1:=freshG _ (us++us2) (hR.kill b) rfl hne2 c'' zs hc'' hlz
   have k2:=slcNew _ (hR.kill b) c'' hc''
   simp only [List.length_set] at k2
   exact hK _ _ _ (Ext.push E _) k1 k2
end
end Go.Tum
end
section
namespace Go.Tum
open Go
section
variable {P:Program} {n0:NA} {l:Env} {L:LH} {X:Nat→Prop} {w0 w w':World} {E:Emb}
theorem rd_gro {b n sz:Nat} {gs:List Value} {v':Value} (hR:Rep X w0 E L w) (hb:L[b]?=some (.gro sz gs)) (hl:gs.length=n*sz) (ho:∀ u∈gs,one u=true) (hz:0<sz) (hv:VR E (.slice (some ⟨b,0,none⟩) n n) v'):Rd w sz v' n gs:=by
 refine ⟨hl,ho,?_⟩
 obtain ⟨_,r,hr,hcase⟩:=hv
 by_cases h0:n=0
 ·subst h0
  left
  rcases hcase with ⟨a',c',rfl,_⟩ | ⟨_,_,a',rfl⟩
  ·exact ⟨⟨_,_,rfl⟩,rfl⟩
  ·exact ⟨⟨_,_,rfl⟩,rfl⟩
 ·right
  obtain ⟨c',rfl⟩:∃ c',v'=.slice (some ⟨r.1,0+r.2.1,none⟩) n c':=by
   rcases hcase with ⟨a',c',h1,⟨h2,_⟩ | ⟨h2,_⟩⟩ | ⟨h1,_⟩
   ·exact ⟨c',by rw [h1,h2]⟩
   ·exact absurd h2 h0
   ·exact absurd h1 h0
  rcases hR.blk b _ r hb hr with ⟨h1,_⟩ | ⟨_,_,cs,hB,h3,h4⟩
  ·subst h1
   have:=Nat.mul_pos (Nat.pos_of_ne_zero h0) hz
   simp at hl; omega
  ·exact ⟨_,_,c',cs,rfl,hB,by rw [← hl]; omega,by rw [← hl,Nat.zero_add]; exact h3⟩
theorem EW.appX {Q:List Value→Prop} {o:Oper} {s x:Operand} {sT xT:TypeId} {sz bytes b n m:Nat} {gs:List Value} (ho:o.op=.call ⟨.builtin .append,⟨[s,x]⟩,⟨[sT,xT]⟩⟩) (ht:appT P sT xT=some (sz,bytes))
  (hs:lv l s=some (.slice (some ⟨b,0,none⟩) n n)) (hb:L[b]?=some (.gro sz gs)) (hgl:gs.length=n*sz) (hone:∀ u∈gs,one u=true) (hbd:(2*(n+m)+2048)*bytes≤281474976710656)
  (hrd:∀ (X:Nat→Prop) (w0:World) (E0:Emb) (w:World) (E:Emb) (l':Env),n0.Ok P X w0 E0→n0.Ext E0 E→Rep X w0 E L w→ER E l l'→∃ vx' us2,ev l' x=some vx'∧RdC w sz vx' m us2∧Q us2) :
  EW P n0 L l (.raw o) (fun v K=>∃ us2,Q us2∧v=.slice (some ⟨L.length,0,none⟩) (n+m) (n+m)∧K=L.set b .dead++[.gro sz (gs++us2)]):=by
 intro X w0 E0 w E l' Kf h0 hE hR hl hK
 unfold appT at ht
 split at ht
 rotate_left
 ·cases ht
 rename_i e i z he
 cases hc:(isSl P xT && Nat.beq z.cells.toList.length i.size && z.cells.toList.all one && Nat.blt 0 i.bytes && Nat.blt 0 i.size)
 ·rw [hc] at ht; cases ht
 rw [hc] at ht
 cases ht
 simp only [Bool.and_eq_true] at hc
 obtain ⟨hu,hi,hz'⟩:=elemOf_ok he
 have he':ElemT P sT e i.size i.bytes:=⟨hu,i,z,hi,rfl,rfl,hz',by simpa using Nat.eq_of_beq_eq_true hc.1.1.1.2,fun u hu=>List.all_eq_true.1 hc.1.1.2 u hu⟩
 have hz:0<i.size:=Nat.le_of_ble_eq_true hc.2
 obtain ⟨d,opp,ty,pos,af,g'⟩:=o
 simp only at ho
 subst ho
 obtain ⟨vs',h1,hsr⟩:=lv_ev hl hs
 obtain ⟨vx',us2,h3,hrd2,hq⟩:=hrd X w0 E0 w E l' h0 hE hR hl
 exact appG_ok he' (isSl_ok hc.1.1.1.1) (Nat.le_of_ble_eq_true hc.1.2) hz hR h1 h3 hsr hb hgl (rd_gro hR hb hgl hone hz hsr) hrd2 hbd (fun w' E' v' hX hR' hv=>hK w' E' v' _ _ ⟨us2,hq,rfl,rfl⟩ hX hR' hv)
theorem Rep.merge {b k:Nat} {x y z:LB} {r q:Nat × Nat × Nat} (h:Rep X w0 E L w) (hne:b≠k) (hy:L[b]?=some y) (hr:E[b]?=some r) (hz:L[k]?=some z) (hq:E[k]?=some q) (hf:Fr (foot r y) w w') (hx:LBis E w' r x)
  (hft:∀ c,foot r x c→foot r y c∨foot q z c∨(w.heap.size≤c∧c<w'.heap.size)):Rep X w0 E ((L.set b x).set k .dead) w':=by
 have hltb:=(List.getElem?_eq_some_iff.1 hy).1
 have hltk:=(List.getElem?_eq_some_iff.1 hz).1
 have cut:∀ (i:Nat) (u:LB),((L.set b x).set k .dead)[i]?=some u→(i=k∧u=.dead)∨(i=b∧u=x)∨(i≠b∧i≠k∧L[i]?=some u):=by
  intro i u hu
  rw [List.getElem?_set] at hu
  by_cases e:k=i
  ·subst e
   rw [if_pos rfl,if_pos (by rw [List.length_set]; exact hltk)] at hu; cases hu
   exact .inl ⟨rfl,rfl⟩
  ·rw [if_neg e,List.getElem?_set] at hu
   by_cases e':b=i
   ·subst e'
    rw [if_pos rfl,if_pos hltb] at hu; cases hu
    exact .inr (.inl ⟨rfl,rfl⟩)
   ·rw [if_neg e'] at hu
    exact .inr (.inr ⟨fun q=>e' q.symm,fun q=>e q.symm,hu⟩)
 have frs:=h.fr.size
 have key:∀ (i:Nat) (u:LB) (r':Nat × Nat × Nat) (c:Nat),i≠b→i≠k→L[i]?=some u→E[i]?=some r'→foot r' u c→foot r x c→False:=by
  intro i u r' c hib hik hu hr' hc hcx
  rcases hft c hcx with h1 | h1 | h1
  ·exact hib (h.inj i b u y r' r c hu hy hr' hr hc h1)
  ·exact hik (h.inj i k u z r' q c hu hz hr' hq hc h1)
  ·have:=(h.rng i u r' hu hr' c hc).2; omega
 refine ⟨h.frT hy hr hf,by rw [h.len,List.length_set,List.length_set],fun i u r' hu hr' c hc=>?_,fun i u r' hu hr'=>?_,fun i i' u u' r1 r2 c hu hu' h1 h2 e1 e2=>?_⟩
 ·rcases cut i u hu with ⟨rfl,rfl⟩ | ⟨rfl,rfl⟩ | ⟨hib,hik,hu⟩
  ·exact hc.elim
  ·rw [hr] at hr'; cases hr'
   rcases hft c hc with h1 | h1 | h1
   ·have:=h.rng i y _ hy hr c h1; exact ⟨this.1,Nat.lt_of_lt_of_le this.2 hf.size⟩
   ·have:=h.rng k z _ hz hq c h1; exact ⟨this.1,Nat.lt_of_lt_of_le this.2 hf.size⟩
   ·exact ⟨.inl (by omega),h1.2⟩
  ·have:=h.rng i u r' hu hr' c hc; exact ⟨this.1,Nat.lt_of_lt_of_le this.2 hf.size⟩
 ·rcases cut i u hu with ⟨rfl,rfl⟩ | ⟨rfl,rfl⟩ | ⟨hib,hik,hu⟩
  ·trivial
  ·rw [hr] at hr'; cases hr'; exact hx
  ·exact (h.blk i u r' hu hr').fr hf (fun c hc=>(h.rng i u r' hu hr' c hc).2) fun c hc hc'=>hib (h.inj i b u y r' r c hu hy hr' hr hc hc')
 ·rcases cut i u hu with ⟨rfl,rfl⟩ | ⟨rfl,rfl⟩ | ⟨hib,hik,hu⟩
  ·exact e1.elim
  ·rcases cut i' u' hu' with ⟨rfl,rfl⟩ | ⟨rfl,rfl⟩ | ⟨hib',hik',hu'⟩
   ·exact e2.elim
   ·rfl
   ·rw [hr] at h1; cases h1
    exact (key i' u' r2 c hib' hik' hu' h2 e2 e1).elim
  ·rcases cut i' u' hu' with ⟨rfl,rfl⟩ | ⟨rfl,rfl⟩ | ⟨hib',hik',hu2⟩
   ·exact e2.elim
   ·rw [hr] at h2; cases h2
    exact (key i u r1 c hib hik ‹L[i]?=some u› h1 e1 e2).elim
   ·exact h.inj i i' u u' r1 r2 c ‹L[i]?=some u› hu2 h1 h2 e1 e2
end
structure GE where
 id:Int
 xs:List Int
 p:Nat
 o:Nat
 c:Nat
 z:Value
 born:Nat
def GE.sv (e:GE):Value:=match e.xs with
 | []=>e.z
 | _=>.slice (some ⟨e.p,e.o,none⟩) e.xs.length e.c
def ge (e:GE):Int × Value × Nat:=(e.id,e.sv,e.born)
theorem ge_born (e:GE) (b:Nat):ge { e with born:=b }=(e.id,e.sv,b):=rfl
end Go.Tum
end
section
/-
 Crowds: so many boxes as one block.
-/
namespace Go.Tum
open Go

abbrev Mem:=Emb × LH
def Mem.at (m:Mem) (b:Nat):Prop:=footL m.1 m.2 b
section
variable {X:Nat→Prop} {w0 w w':World} {E:Emb} {L:LH}
structure CrowdAt (ms:List Mem) (w:World):Prop where
 all:∀ m∈ms,BoxAt m.1 m.2 w
 apart:ms.Pairwise fun m m'=>∀ b,m.at b→¬ m'.at b
def crowd (ms:List Mem):LB:=.abs (fun _ w=>CrowdAt ms w) (fun b=>∃ m∈ms,m.at b)
theorem CrowdAt.fr {ms:List Mem} {G:Nat→Prop} (h:CrowdAt ms w) (hf:Fr G w w') (hn:∀ b,(∃ m∈ms,m.at b)→¬ G b):CrowdAt ms w' :=
 ⟨fun m hm=>(h.all m hm).fr hf fun b hb=>hn b ⟨m,hm,hb⟩,h.apart⟩
theorem CrowdAt.is {Es:Emb} {ms:List Mem} {r:Nat × Nat × Nat} (h:CrowdAt ms w) (hr:r.2=(0,0)):LBis Es w r (crowd ms) :=
 ⟨h,hr,fun _ _ _ h1 hf hn=>h1.fr hf hn⟩
theorem CrowdAt.perm {ms ms':List Mem} (hp:ms.Perm ms') (h:CrowdAt ms w):CrowdAt ms' w :=
 ⟨fun m hm=>h.all m (hp.mem_iff.2 hm),(hp.pairwise_iff (fun h1 b h2 h3=>h1 b h3 h2)).1 h.apart⟩
/-- in another order -/
theorem Rep.crowdP {b:Nat} {ms ms':List Mem} (h:Rep X w0 E L w) (hb:L[b]?=some (crowd ms)) (hp:ms.Perm ms'):Rep X w0 E (L.set b (crowd ms')) w:=by
 obtain ⟨r,hr⟩:=h.ent hb
 obtain ⟨h1,h2,_⟩:=h.blk b _ r hb hr
 have hft:∀ c,foot r (crowd ms') c→foot r (crowd ms) c:=fun c ⟨m,hm,hc⟩=>⟨m,hp.mem_iff.2 hm,hc⟩
 exact h.upd hb hr (Fr.refl _ w) ((h1.perm hp).is h2) fun c hc=>.inl (hft c hc)
/-- one is taken out -/
theorem Rep.crowdOut {b:Nat} {m:Mem} {ms:List Mem} (h:Rep X w0 E L w) (hb:L[b]?=some (crowd (m::ms))):Rep X w0 (E++[(0,0,0)]) (L.set b (crowd ms)++[box m.1 m.2]) w:=by
 obtain ⟨r0,hr0⟩:=h.ent hb
 obtain ⟨h1,h2,_⟩:=h.blk b _ r0 hb hr0
 have hap:=List.pairwise_cons.1 h1.apart
 have hEL:=h.len
 have hbl:=(List.getElem?_eq_some_iff.1 hb).1
 have hC:CrowdAt ms w:=⟨fun m hm=>h1.all m (List.mem_cons_of_mem _ hm),hap.2⟩
 have hin:∀ c,(∃ m∈ms,Mem.at m c)→foot r0 (crowd (m::ms)) c:=fun c ⟨m',hm,hc⟩=>⟨m',List.mem_cons_of_mem _ hm,hc⟩
 have hin0:∀ c,m.at c→foot r0 (crowd (m::ms)) c:=fun c hc=>⟨m,List.mem_cons_self ..,hc⟩
 have cut:∀ (k:Nat) (x:LB) (r:Nat × Nat × Nat),(L.set b (crowd ms)++[box m.1 m.2])[k]?=some x→(E++[(0,0,0)])[k]?=some r →
   (k=b∧x=crowd ms∧r=r0)∨(k≠b∧k<L.length∧L[k]?=some x∧E[k]?=some r)∨(k=L.length∧x=box m.1 m.2∧r=(0,0,0)):=by
  intro k x r hx hr
  by_cases hk:k<L.length
  ·rw [List.getElem?_append_left (by rw [List.length_set]; exact hk)] at hx
   rw [List.getElem?_append_left (by omega)] at hr
   by_cases e:k=b
   ·subst e
    rw [List.getElem?_set_self hk] at hx
    rw [hr0] at hr
    exact .inl ⟨rfl,(Option.some.inj hx).symm,(Option.some.inj hr).symm⟩
   ·rw [List.getElem?_set_ne (fun q=>e q.symm)] at hx
    exact .inr (.inl ⟨e,hk,hx,hr⟩)
  ·have hk2:k=L.length:=by
    have:=(List.getElem?_eq_some_iff.1 hr).1
    rw [List.length_append,List.length_singleton] at this; omega
   subst hk2
   rw [List.getElem?_append_right (by rw [List.length_set]; omega),List.length_set,Nat.sub_self] at hx
   rw [List.getElem?_append_right (by omega),hEL,Nat.sub_self] at hr
   exact .inr (.inr ⟨rfl,(Option.some.inj hx).symm,(Option.some.inj hr).symm⟩)
 refine ⟨h.fr,by rw [List.length_append,List.length_append,List.length_set,hEL]; rfl,fun k x r hx hr c hc=>?_,fun k x r hx hr=>?_,fun k k' x x' r r' c hx hx' hr hr' hc hc'=>?_⟩
 ·rcases cut k x r hx hr with ⟨_,rfl,rfl⟩ | ⟨_,_,h3,h4⟩ | ⟨_,rfl,rfl⟩
  ·exact h.rng b _ r hb hr0 c (hin c hc)
  ·exact h.rng k x r h3 h4 c hc
  ·exact h.rng b _ r0 hb hr0 c (hin0 c hc)
 ·rcases cut k x r hx hr with ⟨_,rfl,rfl⟩ | ⟨_,_,h3,h4⟩ | ⟨_,rfl,rfl⟩
  ·exact hC.is h2
  ·exact (h.blk k x r h3 h4).ext (Ext.app E _)
  ·exact (h1.all m (List.mem_cons_self ..)).is rfl
 ·rcases cut k x r hx hr with ⟨e1,rfl,rfl⟩ | ⟨n1,l1,h3,h4⟩ | ⟨e1,rfl,rfl⟩
  ·rcases cut k' x' r' hx' hr' with ⟨e2,_,_⟩ | ⟨n2,l2,h5,h6⟩ | ⟨e2,rfl,rfl⟩
   ·omega
   ·exact absurd (h.inj k' b x' _ r' r c h5 hb h6 hr0 hc' (hin c hc)) n2
   ·obtain ⟨m',hm',hc2⟩:=hc
    exact absurd hc2 (hap.1 m' hm' c hc')
  ·rcases cut k' x' r' hx' hr' with ⟨e2,rfl,rfl⟩ | ⟨n2,l2,h5,h6⟩ | ⟨e2,rfl,rfl⟩
   ·exact absurd (h.inj k b x _ r r' c h3 hb h4 hr0 hc (hin c hc')) n1
   ·exact h.inj k k' x x' r r' c h3 h5 h4 h6 hc hc'
   ·exact absurd (h.inj k b x _ r r0 c h3 hb h4 hr0 hc (hin0 c hc')) n1
  ·rcases cut k' x' r' hx' hr' with ⟨e2,rfl,rfl⟩ | ⟨n2,l2,h5,h6⟩ | ⟨e2,_,_⟩
   ·obtain ⟨m',hm',hc2⟩:=hc'
    exact absurd hc2 (hap.1 m' hm' c hc)
   ·exact absurd (h.inj k' b x' _ r' r0 c h5 hb h6 hr0 hc' (hin0 c hc)) n2
   ·omega
/-- one is put in -/
theorem Rep.crowdIn {b k:Nat} {Es:Emb} {Ls:LH} {ms:List Mem} (h:Rep X w0 E L w) (hne:b≠k) (hb:L[b]?=some (crowd ms)) (hk:L[k]?=some (box Es Ls)):Rep X w0 E ((L.set b (crowd ((Es,Ls)::ms))).set k .dead) w:=by
 obtain ⟨r,hr⟩:=h.ent hb
 obtain ⟨q,hq⟩:=h.ent hk
 obtain ⟨h1,h2,_⟩:=h.blk b _ r hb hr
 have h3:BoxAt Es Ls w:=(h.blk k _ q hk hq).1
 refine h.merge hne hb hr hk hq (Fr.refl _ w) (CrowdAt.is ⟨fun m hm=>?_,List.pairwise_cons.2 ⟨fun m hm c hc hc'=>?_,h1.apart⟩⟩ h2) fun c hc=>?_
 ·rcases List.mem_cons.1 hm with rfl | hm
  ·exact h3
  ·exact h1.all m hm
 ·exact hne (h.inj b k _ _ r q c hb hk hr hq ⟨m,hm,hc'⟩ hc)
 ·obtain ⟨m,hm,hc⟩:=hc
  rcases List.mem_cons.1 hm with rfl | hm
  ·exact .inr (.inl hc)
  ·exact .inl ⟨m,hm,hc⟩
end
section
variable {P:Program} {n0:NA} {l:Env} {L L1:LH} {Q:Exit→Env→LH→Prop} {T:Taken} {K:Env→LH→Prop} {ss:List Step}
/-- L can be told as L1: all names stay,names may come new -/
def More (L L1:LH):Prop:=L.length≤L1.length∧∀ (X:Nat→Prop) (w0:World) (E:Emb) (w:World),Rep X w0 E L w→∃ E',Ext E E'∧Rep X w0 E' L1 w
theorem More.refl (L:LH):More L L:=⟨Nat.le_refl _,fun _ _ E _ h=>⟨E,Ext.refl E,h⟩⟩
theorem More.trans {L L1 L2:LH} (h:More L L1) (k:More L1 L2):More L L2:=⟨Nat.le_trans h.1 k.1,fun X w0 E w hR=>by
 obtain ⟨E1,h1,h2⟩:=h.2 X w0 E w hR
 obtain ⟨E2,h3,h4⟩:=k.2 X w0 E1 w h2
 exact ⟨E2,fun i r hi=>h3 i r (h1 i r hi),h4⟩⟩
theorem More.out {b:Nat} {m:Mem} {ms:List Mem} (hb:L[b]?=some (crowd (m::ms))):More L (L.set b (crowd ms)++[box m.1 m.2]) :=
 ⟨by rw [List.length_append,List.length_set]; exact Nat.le_add_right _ _,fun _ _ E _ hR=>⟨_,Ext.app E _,hR.crowdOut hb⟩⟩
theorem More.in {b k:Nat} {Es:Emb} {Ls:LH} {ms:List Mem} (hne:b≠k) (hb:L[b]?=some (crowd ms)) (hk:L[k]?=some (box Es Ls)):More L ((L.set b (crowd ((Es,Ls)::ms))).set k .dead) :=
 ⟨by rw [List.length_set,List.length_set]; exact Nat.le_refl _,fun _ _ E _ hR=>⟨E,Ext.refl E,hR.crowdIn hne hb hk⟩⟩
theorem More.perm {b:Nat} {ms ms':List Mem} (hb:L[b]?=some (crowd ms)) (hp:ms.Perm ms'):More L (L.set b (crowd ms')) :=
 ⟨by rw [List.length_set]; exact Nat.le_refl _,fun _ _ E _ hR=>⟨E,Ext.refl E,hR.crowdP hb hp⟩⟩
theorem More.open {b:Nat} {Es:Emb} {Ls:LH} (hb:L[b]?=some (box Es Ls)):More L (L.set b .dead++unbox L.length Ls) :=
 ⟨by rw [List.length_append,List.length_set]; exact Nat.le_add_right _ _,fun _ _ E _ hR=>⟨_,Ext.app E _,hR.open hb⟩⟩
theorem TrK.pre {keep:List Nat} {f:FuncId} {us:List Value} {R:Value→LH→Prop} (hm:More L L1) (ht:TrK P [] keep f us L1 R):TrK P [] keep f us L R:=by
 intro X w0 w E vs' hA hR hv
 obtain ⟨E1,h1,h2⟩:=hm.2 X w0 E w hR
 obtain ⟨h3,h4⟩:=ht X w0 w E1 vs' ⟨h2.len,by simp,hA.2.2⟩ h2 (hv.mono fun _ _ k=>k.ext h1)
 refine ⟨h3,h4.mono ?_⟩
 rintro v' w' ⟨E',v,L',g1,g0,g2,g3,g4⟩
 exact ⟨E',v,L',fun k r hk hr=>g1 k r hk (h1 k r hr),Nat.le_trans hm.1 g0,g2,g3,g4⟩
theorem TrK.post {keep:List Nat} {f:FuncId} {us:List Value} {R R':Value→LH→Prop} (ht:TrK P [] keep f us L R) (hR':∀ v K,R v K→∃ K',More K K'∧R' v K'):TrK P [] keep f us L R':=by
 intro X w0 w E vs' hA hR hv
 obtain ⟨h3,h4⟩:=ht X w0 w E vs' hA hR hv
 refine ⟨h3,h4.mono ?_⟩
 rintro v' w' ⟨E',v,L',g1,g0,g2,g3,g4⟩
 obtain ⟨K',hm,hr⟩:=hR' v L' g4
 obtain ⟨E2,k1,k2⟩:=hm.2 X w0 E' w' g3
 exact ⟨E2,v,K',fun k r hk hr=>k1 k r (g1 k r hk hr),Nat.le_trans g0 hm.1,g2.ext k1,k2,hr⟩
theorem LWp.more {m:MC} (hm:More L L1) (h:LWp P n0 m Q l L1):LWp P n0 m Q l L:=⟨fun X w0 E0 w E l' h0 hE hR hl=>by
 obtain ⟨E1,h1,h2⟩:=hm.2 X w0 E w hR
 exact h.go X w0 E0 w E1 l' h0 (hE.trans h1) h2 (hl.ext h1)⟩
theorem LSt.more (hm:More L L1) (h:LSt P n0 ss K l T L1):LSt P n0 ss K l T L:=⟨fun X w0 E0 w E l' F h0 hE hR hl hT=>by
 obtain ⟨E1,h1,h2⟩:=hm.2 X w0 E w hR
 exact h.go X w0 E0 w E1 l' F h0 (hE.trans h1) h2 (hl.ext h1) (hT.ext h1)⟩
end
end Go.Tum
end
section
/-
 Boxes are closed: names of what is put away become real addresses.
-/
namespace Go.Tum
open Go

/-- a name behind N as a real address -/
def realV (N:Nat) (Es:Emb) (v:Value):Value:=match v with
 | .pointer (some ⟨b,o,none⟩)=>(match Nat.ble N b,Es[b-N]? with
  | true,some r=>adR r o
  | _,_=>.pointer (some ⟨b,o,none⟩))
 | v=>v
def realB (N:Nat) (Es:Emb):LB→LB
 | .cells sz vs=>.cells sz (vs.map (realV N Es))
 | .map m c=>.map (m.map fun x=>(x.1,realV N Es x.2.1,x.2.2)) c
 | x=>x
def realE (N:Nat) (Es:Emb):Env→Env
 | []=>[]
 | (t,v)::r=>(t,realV N Es v)::realE N Es r
/-- Es are E's from N on -/
def From (E:Emb) (N:Nat) (Es:Emb):Prop:=∀ (i:Nat) (r:Nat × Nat × Nat),Es[i]?=some r→E[N+i]?=some r
section
variable {E Es:Emb} {N:Nat}
theorem From.drop (E:Emb) (N:Nat):From E N (E.drop N):=fun i r h=>by rwa [List.getElem?_drop] at h
theorem From.ext {E':Emb} (h:From E N Es) (k:Ext E E'):From E' N Es:=fun i r hi=>k _ r (h i r hi)
theorem S0.real (hf:From E N Es) {b o:Nat} {v':Value} (k:S0 E (.pointer (some ⟨b,o,none⟩)) v'):S0 E (realV N Es (.pointer (some ⟨b,o,none⟩))) v':=by
 unfold realV
 simp only
 split
 ·rename_i r hb hr
  have hb:=Nat.le_of_ble_eq_true hb
  have h1:=hf _ r hr
  rw [show N+(b-N)=b by omega] at h1
  obtain ⟨a',g1,_,r',g3,g4⟩:=k
  have g3:E[b]?=some r':=g3
  rw [h1] at g3; cases g3
  show v'=_
  rw [g1,g4]
 ·exact k
theorem realV_other {v:Value} (h:∀ b o,v≠.pointer (some ⟨b,o,none⟩)):realV N Es v=v:=by
 unfold realV
 split
 ·exact absurd rfl (h _ _)
 ·rfl
theorem SR.real (hf:From E N Es) {v v':Value} (k:SR E v v'):SR E (realV N Es v) v':=by
 by_cases h:∃ b o,v=.pointer (some ⟨b,o,none⟩)
 ·obtain ⟨b,o,rfl⟩:=h
  have:=S0.real hf (show S0 E (.pointer (some ⟨b,o,none⟩)) v' from k)
  revert this
  unfold realV
  simp only
  split <;> exact fun h=>h
 ·rw [realV_other fun b o e=>h ⟨b,o,e⟩]; exact k
theorem V1.real (hf:From E N Es) {v v':Value} (k:V1 E v v'):V1 E (realV N Es v) v':=by
 by_cases h:∃ b o,v=.pointer (some ⟨b,o,none⟩)
 ·obtain ⟨b,o,rfl⟩:=h
  have:=S0.real hf (show S0 E (.pointer (some ⟨b,o,none⟩)) v' from k)
  revert this
  unfold realV
  simp only
  split <;> exact fun h=>h
 ·rw [realV_other fun b o e=>h ⟨b,o,e⟩]; exact k
theorem VR.real (hf:From E N Es) {v v':Value} (k:VR E v v'):VR E (realV N Es v) v':=by
 by_cases h:∃ b o,v=.pointer (some ⟨b,o,none⟩)
 ·obtain ⟨b,o,rfl⟩:=h
  have:=S0.real hf (show S0 E (.pointer (some ⟨b,o,none⟩)) v' from k)
  revert this
  unfold realV
  simp only
  split <;> exact fun h=>h
 ·rw [realV_other fun b o e=>h ⟨b,o,e⟩]; exact k
theorem M2.real (hf:From E N Es):∀ {m:List (Value × Value × Nat)} {es:List MapEntry},M2 E m es→M2 E (m.map fun x=>(x.1,realV N Es x.2.1,x.2.2)) es
 | [],[],_=>trivial
 | _::_,_::_,k=>⟨⟨k.1.1,k.1.2.1.real hf,k.1.2.2⟩,M2.real hf k.2⟩
 | [],_::_,k=>k.elim
 | _::_,[],k=>k.elim
theorem foot_real (r:Nat × Nat × Nat) (x:LB):foot r (realB N Es x)=foot r x:=by cases x <;> rfl
theorem LBis.real (hf:From E N Es) {w:World} {r:Nat × Nat × Nat} {x:LB} (k:LBis E w r x):LBis E w r (realB N Es x):=by
 cases x with
 | cells sz vs =>
  obtain ⟨cs,h1,h2,h3⟩:=k
  refine ⟨cs,h1,?_,?_⟩
  ·rw [List.length_map]; exact L2.into (f:=realV N Es) (fun _ _ k=>SR.real hf k) h2
  ·rw [List.length_map]; exact h3
 | map m c=>obtain ⟨es,h1,h2⟩:=k; exact ⟨es,h1,h2.real hf⟩
 | data vs=>exact k
 | bytes n x=>exact k
 | gro sz vs=>exact k
 | iter m a l b=>exact k
 | dead=>exact k
 | abs A F=>exact k
 | imap G c=>exact k
theorem ER.real (hf:From E N Es):∀ {l:Env} {l':Env},ER E l l'→ER E (realE N Es l) l':=by
 intro l l' h t v ht
 have key:∀ (l:Env) (t:Nat) (v:Value),eget (realE N Es l) t=some v→∃ u,eget l t=some u∧v=realV N Es u:=by
  intro l
  induction l with
  | nil=>intro t v h; cases h
  | cons a r ih =>
   intro t v h
   obtain ⟨s,u⟩:=a
   simp only [realE,eget] at h ⊢
   cases hq:Nat.beq s t with
   | true=>rw [hq] at h; exact ⟨u,rfl,(Option.some.inj h).symm⟩
   | false=>rw [hq] at h; exact ih t v h
 obtain ⟨u,h1,rfl⟩:=key l t v ht
 obtain ⟨v',h2,h3⟩:=h t u h1
 exact ⟨v',h2,h3.real hf⟩
variable {X:Nat→Prop} {w0 w:World} {L:LH}
theorem Rep.real (hf:From E N Es) (h:Rep X w0 E L w):Rep X w0 E (L.map (realB N Es)) w:=by
 have at_:∀ (k:Nat) (x:LB),(L.map (realB N Es))[k]?=some x→∃ y,L[k]?=some y∧x=realB N Es y:=fun k x hx=>by
  rw [List.getElem?_map] at hx
  cases hq:L[k]? with
  | none=>rw [hq] at hx; cases hx
  | some y=>rw [hq] at hx; exact ⟨y,rfl,(Option.some.inj hx).symm⟩
 refine ⟨h.fr,by rw [List.length_map]; exact h.len,fun k x r hx hr c hc=>?_,fun k x r hx hr=>?_,fun k k' x x' r r' c hx hx' hr hr' hc hc'=>?_⟩
 ·obtain ⟨y,h1,rfl⟩:=at_ k x hx
  rw [foot_real] at hc
  exact h.rng k y r h1 hr c hc
 ·obtain ⟨y,h1,rfl⟩:=at_ k x hx
  exact (h.blk k y r h1 hr).real hf
 ·obtain ⟨y,h1,rfl⟩:=at_ k x hx
  obtain ⟨y',h2,rfl⟩:=at_ k' x' hx'
  rw [foot_real] at hc hc'
  exact h.inj k k' y y' r r' c h1 h2 hr hr' hc hc'
/-- what the others look like when the last blocks have become a box -/
def closed (M:LH) (Ls:LH) (Es:Emb):LH:=M.map (realB M.length Es)++List.replicate Ls.length .dead++[box Es Ls]
theorem Rep.closeR {M Ls:LH} (h:Rep X w0 E (M++unbox M.length Ls) w):Rep X w0 (E++[(0,0,0)]) (closed M Ls (E.drop M.length)) w∧From (E++[(0,0,0)]) M.length (E.drop M.length)∧(E.drop M.length).length=Ls.length:=by
 have hlen:E.length=M.length+Ls.length:=by rw [h.len]; unfold unbox; rw [List.length_append,List.length_map]
 have hF:=(From.drop E M.length).ext (Ext.app E [(0,0,0)])
 refine ⟨?_,hF,by rw [List.length_drop]; omega⟩
 have:=h.close.real hF
 rw [List.map_append,List.map_append,List.map_replicate] at this
 exact this
end
section
variable {P:Program} {n0:NA} {l:Env} {L:LH} {Q:Exit→Env→LH→Prop}
theorem LWp.closeB {m:MC} {M Ls:LH} (h:∀ Es:Emb,Es.length=Ls.length→LWp P n0 m Q (realE M.length Es l) (closed M Ls Es)):LWp P n0 m Q l (M++unbox M.length Ls):=⟨fun X w0 E0 w E l' h0 hE hR hl=>by
 obtain ⟨h1,h2,h3⟩:=hR.closeR
 exact (h _ h3).go X w0 E0 w _ l' h0 (hE.trans (Ext.app E _)) h1 ((hl.ext (Ext.app E _)).real h2)⟩
theorem TrK.closeR {keep:List Nat} {f:FuncId} {us:List Value} {M Ls:LH} {R:Value→LH→Prop} {v1:Value} (ht:TrK P [] keep f us L (fun v K=>v=v1∧K=M++unbox M.length Ls)) (hR:∀ Es:Emb,Es.length=Ls.length→R (realV M.length Es v1) (closed M Ls Es)):TrK P [] keep f us L R:=by
 intro X w0 w E vs' hA hR' hv
 obtain ⟨h1,h2⟩:=ht X w0 w E vs' hA hR' hv
 refine ⟨h1,h2.mono ?_⟩
 rintro v' w' ⟨E',_,_,g1,g0,g2,g3,rfl,rfl⟩
 obtain ⟨k1,k2,k3⟩:=g3.closeR
 refine ⟨E'++[(0,0,0)],_,_,fun k r hk hr=>Ext.app E' _ k r (g1 k r hk hr),?_,(g2.ext (Ext.app E' _)).real k2,k1,hR _ k3⟩
 unfold closed
 unfold unbox at g0
 rw [List.length_append,List.length_map] at g0
 rw [List.length_append,List.length_append,List.length_replicate,List.length_map]
 omega
end
end Go.Tum
end
section
/-
 An object of a crowd,and what it shares with the others: contracts over both.
-/
namespace Go.Tum
open Go

section
variable {X:Nat→Prop} {w0 w w':World} {E ea em:Emb} {L A S T:LH}
/-- a value in an object's own names; the same where the shared blocks have names,too -/
def Up (ea:Emb) (v u:Value):Prop:=∀ (em:Emb) (v':Value),SR em v v'↔SR (ea++em) u v'
def UpB (ea:Emb) (x y:LB):Prop:=(∀ (em:Emb) (w:World) (r:Nat × Nat × Nat),LBis em w r x↔LBis (ea++em) w r y)∧∀ r,foot r x=foot r y
/-- shared blocks name nothing but themselves -/
def Self (A:LH):Prop:=∀ (i:Nat) (x:LB),A[i]?=some x→∀ (ea em:Emb) (w:World) (r:Nat × Nat × Nat),ea.length=A.length→(LBis ea w r x↔LBis (ea++em) w r x)
/-- a slice at a real address -/
def slR (r:Nat × Nat × Nat) (o n c:Nat):Value:=.slice (some ⟨r.1,o+r.2.1,some 0⟩) n (c+r.2.2)

theorem app_get {α:Type} {a b:List α} (i:Nat):(a++b)[a.length+i]?=b[i]?:=by
 rw [List.getElem?_append_right (by omega)]; congr 1; omega
theorem Up.int {k:IntKind} {n:Int}:Up ea (.int k n) (.int k n):=fun _ _=>Iff.rfl
theorem Up.ptr {i o a:Nat} (ha:ea.length+i=a):Up ea (.pointer (some ⟨i,o,none⟩)) (.pointer (some ⟨a,o,none⟩)):=fun em v'=>by
 subst ha
 constructor
 ·rintro ⟨a',h1,h2,r,h3,h4⟩
  exact ⟨a',h1,h2,r,by show (ea++em)[_]?=_; rw [app_get]; exact h3,h4⟩
 ·rintro ⟨a',h1,h2,r,h3,h4⟩
  exact ⟨a',h1,h2,r,by have h3:(ea++em)[ea.length+i]?=_:=h3; rw [app_get] at h3; exact h3,h4⟩
theorem Up.map {i a:Nat} (ha:ea.length+i=a):Up ea (.map (some i)) (.map (some a)):=fun em v'=>by
 subst ha
 constructor
 ·rintro ⟨r,h1,h2⟩
  exact ⟨r,by rw [app_get]; exact h1,h2⟩
 ·rintro ⟨r,h1,h2⟩
  exact ⟨r,by rw [app_get] at h1; exact h1,h2⟩
theorem Up.sl {i o n c a:Nat} (ha:ea.length+i=a):Up ea (.slice (some ⟨i,o,none⟩) n c) (.slice (some ⟨a,o,none⟩) n c):=fun em v'=>by
 subst ha
 constructor
 ·rintro ⟨h0,r,h1,h2⟩
  exact ⟨h0,r,by show (ea++em)[_]?=_; rw [app_get]; exact h1,h2⟩
 ·rintro ⟨h0,r,h1,h2⟩
  exact ⟨h0,r,by have h1:(ea++em)[ea.length+i]?=_:=h1; rw [app_get] at h1; exact h1,h2⟩
/-- what is shared has a real address in the object -/
theorem Up.adR {i o:Nat} {r:Nat × Nat × Nat} (hr:ea[i]?=some r):Up ea (adR r o) (.pointer (some ⟨i,o,none⟩)):=fun em v'=>by
 have hg:(ea++em)[i]?=some r:=by rw [List.getElem?_append_left (List.getElem?_eq_some_iff.1 hr).1]; exact hr
 constructor
 ·intro h
  have h:v'=.pointer (some ⟨r.1,o+r.2.1,none⟩):=h
  subst h
  exact ⟨_,rfl,rfl,r,hg,rfl⟩
 ·rintro ⟨a',h1,_,r',h3,h4⟩
  have h3:(ea++em)[i]?=_:=h3
  rw [hg] at h3; cases h3
  show v'=_
  rw [h1,h4]
theorem Up.slR {i o n c:Nat} {r:Nat × Nat × Nat} (hr:ea[i]?=some r) (hn:n≠0):Up ea (slR r o n c) (.slice (some ⟨i,o,none⟩) n c):=fun em v'=>by
 have hg:(ea++em)[i]?=some r:=by rw [List.getElem?_append_left (List.getElem?_eq_some_iff.1 hr).1]; exact hr
 constructor
 ·rintro (h | ⟨h,_⟩)
  ·exact ⟨rfl,r,hg,.inl ⟨_,_,h,.inl ⟨rfl,rfl⟩⟩⟩
  ·exact absurd h hn
 ·rintro ⟨_,r',h3,h4⟩
  have h3:(ea++em)[i]?=_:=h3
  rw [hg] at h3; cases h3
  rcases h4 with ⟨a',c',h5,⟨h6,h7⟩ | ⟨h6,_⟩⟩ | ⟨h6,_⟩
  ·left; rw [h5,h6,h7]
  ·exact absurd h6 hn
  ·exact absurd h6 hn
/-- stale ones -/
theorem Up.slice {a:Addr} {n c:Nat} {s:Nat} (hs:a.spot=some s):Up ea (.slice (some a) n c) (.slice (some a) n c):=fun em v'=>by
 obtain ⟨b,o,sp⟩:=a
 have hs:sp=some s:=hs
 subst hs
 exact Iff.rfl
theorem UpL2 {us vs:List Value} (h:L2 (Up ea) vs us):∀ (em:Emb) (cs:List Value),L2 (SR em) vs cs↔L2 (SR (ea++em)) us cs:=by
 induction vs generalizing us with
 | nil =>
  cases us with
  | nil=>exact fun _ cs=>by cases cs <;> exact Iff.rfl
  | cons _ _=>exact h.elim
 | cons v vs ih =>
  cases us with
  | nil=>exact h.elim
  | cons u us =>
   intro em cs
   cases cs with
   | nil=>exact Iff.rfl
   | cons c cs=>exact ⟨fun k=>⟨(h.1 em c).1 k.1,(ih h.2 em cs).1 k.2⟩,fun k=>⟨(h.1 em c).2 k.1,(ih h.2 em cs).2 k.2⟩⟩
theorem L2_len {R:Value→Value→Prop}:∀ {a b:List Value},L2 R a b→a.length=b.length
 | [],[],_=>rfl
 | _::_,_::_,h=>by simp [L2_len h.2]
 | [],_::_,h=>h.elim
 | _::_,[],h=>h.elim
theorem UpB.cells {sz:Nat} {us vs:List Value} (h:L2 (Up ea) vs us):UpB ea (.cells sz vs) (.cells sz us):=by
 have hl:=L2_len h
 refine ⟨fun em w r=>?_,fun _=>rfl⟩
 simp only [LBis]
 constructor
 ·rintro ⟨cs,h1,h2,h3⟩
  exact ⟨cs,h1,by rw [← hl]; exact (UpL2 h em _).1 h2,by rw [← hl]; exact h3⟩
 ·rintro ⟨cs,h1,h2,h3⟩
  exact ⟨cs,h1,by rw [hl]; exact (UpL2 h em _).2 (by rw [← hl] at h2 ⊢; exact h2),by rw [hl]; exact h3⟩
theorem UpB.gro {sz:Nat} {vs:List Value}:UpB ea (.gro sz vs) (.gro sz vs):=⟨fun _ _ _=>Iff.rfl,fun _=>rfl⟩
theorem UpB.imap {G:IMap} {c:Nat}:UpB ea (.imap G c) (.imap G c):=⟨fun _ _ _=>Iff.rfl,fun _=>rfl⟩
theorem UpB.dead:UpB ea .dead .dead:=⟨fun _ _ _=>Iff.rfl,fun _=>rfl⟩
def UpL (ea:Emb):LH→LH→Prop
 | [],[]=>True
 | x::S,y::T=>UpB ea x y∧UpL ea S T
 | _,_=>False
theorem UpL.len:∀ {S T:LH},UpL ea S T→S.length=T.length
 | [],[],_=>rfl
 | _::_,_::_,h=>by simp [UpL.len h.2]
 | [],_::_,h=>h.elim
 | _::_,[],h=>h.elim
theorem UpL.get:∀ {S T:LH},UpL ea S T→∀ (i:Nat) (y:LB),T[i]?=some y→∃ x,S[i]?=some x∧UpB ea x y
 | [],[],_,i,y,h=>by simp at h
 | x::S,z::T,h,0,y,e=>by simp at e; subst e; exact ⟨x,rfl,h.1⟩
 | x::S,z::T,h,i+1,y,e=>UpL.get h.2 i y e
 | [],_::_,h,_,_,_=>h.elim
 | _::_,[],h,_,_,_=>h.elim
theorem UpL.get':∀ {S T:LH},UpL ea S T→∀ (i:Nat) (x:LB),S[i]?=some x→∃ y,T[i]?=some y∧UpB ea x y
 | [],[],_,i,y,h=>by simp at h
 | x::S,z::T,h,0,y,e=>by simp at e; subst e; exact ⟨z,rfl,h.1⟩
 | x::S,z::T,h,i+1,y,e=>UpL.get' h.2 i y e
 | [],_::_,h,_,_,_=>h.elim
 | _::_,[],h,_,_,_=>h.elim
/-- values of shared blocks -/
def SelfV (a:Nat) (v:Value):Prop:=∀ (ea em:Emb) (v':Value),ea.length=a→(SR ea v v'↔SR (ea++em) v v')
theorem SelfV.int {a:Nat} {k:IntKind} {n:Int}:SelfV a (.int k n):=fun _ _ _ _=>Iff.rfl
theorem SelfV.sl {a i o n c:Nat} (h:i<a):SelfV a (.slice (some ⟨i,o,none⟩) n c):=fun ea em v' hl=>by
 have e:(ea++em)[i]?=ea[i]?:=List.getElem?_append_left (by omega)
 constructor
 ·rintro ⟨h0,r,h1,h2⟩; exact ⟨h0,r,by show (ea++em)[i]?=_; rw [e]; exact h1,h2⟩
 ·rintro ⟨h0,r,h1,h2⟩; exact ⟨h0,r,by rw [← e]; exact h1,h2⟩
theorem SelfL {a:Nat} {vs:List Value} (h:∀ v∈vs,SelfV a v):∀ (ea em:Emb) (cs:List Value),ea.length=a→(L2 (SR ea) vs cs↔L2 (SR (ea++em)) vs cs):=by
 induction vs with
 | nil=>intro ea em cs _; cases cs <;> exact Iff.rfl
 | cons v vs ih =>
  intro ea em cs hl
  cases cs with
  | nil=>exact Iff.rfl
  | cons c cs=>exact ⟨fun k=>⟨(h v (List.mem_cons_self ..) ea em c hl).1 k.1,(ih (fun v hv=>h v (List.mem_cons_of_mem _ hv)) ea em cs hl).1 k.2⟩,fun k=>⟨(h v (List.mem_cons_self ..) ea em c hl).2 k.1,(ih (fun v hv=>h v (List.mem_cons_of_mem _ hv)) ea em cs hl).2 k.2⟩⟩
theorem Self.cellsB {a sz:Nat} {vs:List Value} (h:∀ v∈vs,SelfV a v) (ea em:Emb) (w:World) (r:Nat × Nat × Nat) (hl:ea.length=a):LBis ea w r (.cells sz vs)↔LBis (ea++em) w r (.cells sz vs):=by
 simp only [LBis]
 constructor
 ·rintro ⟨cs,h1,h2,h3⟩; exact ⟨cs,h1,(SelfL h ea em _ hl).1 h2,h3⟩
 ·rintro ⟨cs,h1,h2,h3⟩; exact ⟨cs,h1,(SelfL h ea em _ hl).2 h2,h3⟩

theorem BoxAt.rep (h:BoxAt em S w):Rep (footL em S) w em S w :=
 ⟨Fr.refl _ w,h.len,fun k x r hx hr b hf=>⟨.inr ⟨k,x,r,hx,hr,hf⟩,h.lt k x r b hx hr hf⟩,h.blk,h.inj⟩
theorem Rep.boxAt (h:Rep X w0 E L w):BoxAt E L w:=⟨h.len,h.blk,h.inj,fun k x r b hx hr hb=>(h.rng k x r hx hr b hb).2⟩
theorem split_get {M N:LH} {i:Nat} {x:LB} {r:Nat × Nat × Nat} (hl:ea.length=M.length) (hx:(M++N)[i]?=some x) (hr:(ea++em)[i]?=some r):(M[i]?=some x∧ea[i]?=some r)∨∃ j,i=M.length+j∧N[j]?=some x∧em[j]?=some r:=by
 by_cases h:i<M.length
 ·rw [List.getElem?_append_left h] at hx
  rw [List.getElem?_append_left (by omega)] at hr
  exact .inl ⟨hx,hr⟩
 ·rw [List.getElem?_append_right (by omega)] at hx
  rw [List.getElem?_append_right (by omega),hl] at hr
  exact .inr ⟨i-M.length,by omega,hx,hr⟩
theorem BoxAt.join (h1:BoxAt ea A w) (h2:BoxAt em S w) (hd:∀ c,footL ea A c→¬ footL em S c) (hS:UpL ea S T) (hA:Self A):BoxAt (ea++em) (A++T) w:=by
 have hl:=h1.len
 have key:∀ (i:Nat) (x:LB) (r:Nat × Nat × Nat),(A++T)[i]?=some x→(ea++em)[i]?=some r→(A[i]?=some x∧ea[i]?=some r)∨∃ j y,i=A.length+j∧S[j]?=some y∧em[j]?=some r∧UpB ea y x:=fun i x r hx hr=>by
  rcases split_get hl hx hr with h | ⟨j,h3,h4,h5⟩
  ·exact .inl h
  ·obtain ⟨y,h6,h7⟩:=hS.get j x h4
   exact .inr ⟨j,y,h3,h6,h5,h7⟩
 refine ⟨by rw [List.length_append,List.length_append,hl,h2.len,hS.len],fun i x r hx hr=>?_,fun i i' x x' r r' c hx hx' hr hr' hc hc'=>?_,fun i x r c hx hr hc=>?_⟩
 ·rcases key i x r hx hr with ⟨h3,h4⟩ | ⟨j,y,_,h3,h4,h5⟩
  ·exact (hA i x h3 ea em w r hl).1 (h1.blk i x r h3 h4)
  ·exact (h5.1 em w r).1 (h2.blk j y r h3 h4)
 ·rcases key i x r hx hr with ⟨h3,h4⟩ | ⟨j,y,e1,h3,h4,h5⟩
  ·rcases key i' x' r' hx' hr' with ⟨h6,h7⟩ | ⟨j',y',_,h6,h7,h8⟩
   ·exact h1.inj i i' x x' r r' c h3 h6 h4 h7 hc hc'
   ·exact absurd ⟨j',y',r',h6,h7,by rw [h8.2]; exact hc'⟩ (hd c ⟨i,x,r,h3,h4,hc⟩)
  ·rcases key i' x' r' hx' hr' with ⟨h6,h7⟩ | ⟨j',y',e2,h6,h7,h8⟩
   ·exact absurd ⟨j,y,r,h3,h4,by rw [h5.2]; exact hc⟩ (hd c ⟨i',x',r',h6,h7,hc'⟩)
   ·have:=h2.inj j j' y y' r r' c h3 h6 h4 h7 (by rw [h5.2]; exact hc) (by rw [h8.2]; exact hc')
    omega
 ·rcases key i x r hx hr with ⟨h3,h4⟩ | ⟨j,y,_,h3,h4,h5⟩
  ·exact h1.lt i x r c h3 h4 hc
  ·exact h2.lt j y r c h3 h4 (by rw [h5.2]; exact hc)
theorem BoxAt.split (h:BoxAt (ea++em) (A++T) w) (hl:ea.length=A.length) (hS:UpL ea S T) (hA:Self A):BoxAt ea A w∧BoxAt em S w∧∀ c,footL ea A c→¬ footL em S c:=by
 have i1:∀ (i:Nat) (x:LB),A[i]?=some x→(A++T)[i]?=some x:=fun i x hx=>by rw [List.getElem?_append_left (List.getElem?_eq_some_iff.1 hx).1]; exact hx
 have i2:∀ (i:Nat) (r:Nat × Nat × Nat),ea[i]?=some r→(ea++em)[i]?=some r:=fun i r hr=>by rw [List.getElem?_append_left (List.getElem?_eq_some_iff.1 hr).1]; exact hr
 have i3:∀ (j:Nat) (r:Nat × Nat × Nat),em[j]?=some r→(ea++em)[A.length+j]?=some r:=fun j r hr=>by rw [← hl,app_get]; exact hr
 have i4:∀ (j:Nat) (x:LB),S[j]?=some x→∃ y,(A++T)[A.length+j]?=some y∧UpB ea x y:=fun j x hx=>by
  obtain ⟨y,h1,h2⟩:=hS.get' j x hx
  exact ⟨y,by rw [app_get]; exact h1,h2⟩
 refine ⟨⟨hl,fun i x r hx hr=>(hA i x hx ea em w r hl).2 (h.blk i x r (i1 i x hx) (i2 i r hr)),fun i i' x x' r r' c hx hx' hr hr' hc hc'=>h.inj i i' x x' r r' c (i1 i x hx) (i1 i' x' hx') (i2 i r hr) (i2 i' r' hr') hc hc',fun i x r c hx hr hc=>h.lt i x r c (i1 i x hx) (i2 i r hr) hc⟩,⟨?_,fun j x r hx hr=>?_,fun j j' x x' r r' c hx hx' hr hr' hc hc'=>?_,fun j x r c hx hr hc=>?_⟩,?_⟩
 ·have:=h.len
  rw [List.length_append,List.length_append,← hS.len] at this; omega
 ·obtain ⟨y,h1,h2⟩:=i4 j x hx
  exact (h2.1 em w r).2 (h.blk _ y r h1 (i3 j r hr))
 ·obtain ⟨y,h1,h2⟩:=i4 j x hx
  obtain ⟨y',h3,h4⟩:=i4 j' x' hx'
  have:=h.inj _ _ y y' r r' c h1 h3 (i3 j r hr) (i3 j' r' hr') (by rw [← h2.2]; exact hc) (by rw [← h4.2]; exact hc')
  omega
 ·obtain ⟨y,h1,h2⟩:=i4 j x hx
  exact h.lt _ y r c h1 (i3 j r hr) (by rw [← h2.2]; exact hc)
 ·rintro c ⟨i,x,r,hx,hr,hc⟩ ⟨j,y,q,hy,hq,hc'⟩
  obtain ⟨z,h1,h2⟩:=i4 j y hy
  have:=h.inj i _ x z r q c (i1 i x hx) h1 (i2 i r hr) (i3 j q hq) hc (by rw [← h2.2]; exact hc')
  have:=(List.getElem?_eq_some_iff.1 hx).1
  omega
theorem footL_app (hl:ea.length=A.length) (hS:UpL ea S T) (c:Nat):footL (ea++em) (A++T) c↔footL ea A c∨footL em S c:=by
 constructor
 ·rintro ⟨i,x,r,hx,hr,hc⟩
  rcases split_get hl hx hr with ⟨h1,h2⟩ | ⟨j,_,h1,h2⟩
  ·exact .inl ⟨i,x,r,h1,h2,hc⟩
  ·obtain ⟨y,h3,h4⟩:=hS.get j x h1
   exact .inr ⟨j,y,r,h3,h2,by rw [h4.2]; exact hc⟩
 ·rintro (⟨i,x,r,hx,hr,hc⟩ | ⟨j,y,r,hy,hr,hc⟩)
  ·exact ⟨i,x,r,by rw [List.getElem?_append_left (List.getElem?_eq_some_iff.1 hx).1]; exact hx,by rw [List.getElem?_append_left (List.getElem?_eq_some_iff.1 hr).1]; exact hr,hc⟩
  ·obtain ⟨x,h1,h2⟩:=hS.get' j y hy
   exact ⟨A.length+j,x,r,by rw [app_get]; exact h1,by rw [← hl,app_get]; exact hr,by rw [← h2.2]; exact hc⟩
/-- two blocks have changed -/
theorem Rep.upd2 {b k:Nat} {x x' y z:LB} {r q:Nat × Nat × Nat} (h:Rep X w0 E L w) (hy:L[b]?=some y) (hr:E[b]?=some r) (hz:L[k]?=some z) (hq:E[k]?=some q) (hf:Fr (fun c=>foot r y c∨foot q z c) w w') (hx:LBis E w' r x) (hx':LBis E w' q x')
  (f1:∀ c,foot r x c→(foot r y c∨foot q z c)∨(w.heap.size≤c∧c<w'.heap.size)) (f2:∀ c,foot q x' c→(foot r y c∨foot q z c)∨(w.heap.size≤c∧c<w'.heap.size)) (hd:∀ c,foot r x c→¬ foot q x' c):Rep X w0 E ((L.set b x).set k x') w':=by
 have hb:=(List.getElem?_eq_some_iff.1 hy).1
 have hkl:=(List.getElem?_eq_some_iff.1 hz).1
 have frs:=h.fr.size
 have cut:∀ (i:Nat) (u:LB) (p:Nat × Nat × Nat),((L.set b x).set k x')[i]?=some u→E[i]?=some p→(i=b∧u=x∧p=r)∨(i=k∧u=x'∧p=q)∨(i≠b∧i≠k∧L[i]?=some u∧E[i]?=some p):=by
  intro i u p hu hp
  rw [List.getElem?_set,List.length_set] at hu
  by_cases e:k=i
  ·subst e
   rw [if_pos rfl,if_pos hkl] at hu; cases hu
   rw [hq] at hp; cases hp
   exact .inr (.inl ⟨rfl,rfl,rfl⟩)
  ·rw [if_neg e,List.getElem?_set] at hu
   by_cases e2:b=i
   ·subst e2
    rw [if_pos rfl,if_pos hb] at hu; cases hu
    rw [hr] at hp; cases hp
    exact .inl ⟨rfl,rfl,rfl⟩
   ·rw [if_neg e2] at hu
    exact .inr (.inr ⟨fun e'=>e2 e'.symm,fun e'=>e e'.symm,hu,hp⟩)
 have old:∀ (c:Nat),foot r y c∨foot q z c→(w0.heap.size≤c∨X c)∧c<w.heap.size:=fun c hc=>by
  rcases hc with hc | hc
  ·exact h.rng b y r hy hr c hc
  ·exact h.rng k z q hz hq c hc
 have oth:∀ (i:Nat) (u:LB) (p:Nat × Nat × Nat) (c:Nat),i≠b→i≠k→L[i]?=some u→E[i]?=some p→foot p u c→¬ ((foot r y c∨foot q z c)∨(w.heap.size≤c∧c<w'.heap.size)):=by
  rintro i u p c n1 n2 hu hp hc ((h1 | h1) | h1)
  ·exact n1 (h.inj i b u y p r c hu hy hp hr hc h1)
  ·exact n2 (h.inj i k u z p q c hu hz hp hq hc h1)
  ·have:=(h.rng i u p hu hp c hc).2; omega
 have rg:∀ (c:Nat),((foot r y c∨foot q z c)∨(w.heap.size≤c∧c<w'.heap.size))→(w0.heap.size≤c∨X c)∧c<w'.heap.size:=fun c hc=>by
  rcases hc with hc | hc
  ·exact ⟨(old c hc).1,Nat.lt_of_lt_of_le (old c hc).2 hf.size⟩
  ·exact ⟨.inl (by omega),hc.2⟩
 refine ⟨h.fr.trans hf fun c hc e=>by rcases (old c e).1 with h1 | h1 <;> first | omega|exact h1,by rw [h.len,List.length_set,List.length_set],fun i u p hu hp c hc=>?_,fun i u p hu hp=>?_,fun i i' u u' p p' c hu hu' hp hp' hc hc'=>?_⟩
 ·rcases cut i u p hu hp with ⟨_,rfl,rfl⟩ | ⟨_,rfl,rfl⟩ | ⟨_,_,h1,h2⟩
  ·exact rg c (f1 c hc)
  ·exact rg c (f2 c hc)
  ·have:=h.rng i u p h1 h2 c hc; exact ⟨this.1,Nat.lt_of_lt_of_le this.2 hf.size⟩
 ·rcases cut i u p hu hp with ⟨_,rfl,rfl⟩ | ⟨_,rfl,rfl⟩ | ⟨n1,n2,h1,h2⟩
  ·exact hx
  ·exact hx'
  ·exact (h.blk i u p h1 h2).fr hf (fun c hc=>(h.rng i u p h1 h2 c hc).2) fun c hc hc'=>oth i u p c n1 n2 h1 h2 hc (.inl hc')
 ·rcases cut i u p hu hp with ⟨e1,rfl,rfl⟩ | ⟨e1,rfl,rfl⟩ | ⟨n1,n2,h1,h2⟩
  ·rcases cut i' u' p' hu' hp' with ⟨e2,_,_⟩ | ⟨e2,rfl,rfl⟩ | ⟨n3,n4,h3,h4⟩
   ·omega
   ·exact absurd hc' (hd c hc)
   ·exact absurd (f1 c hc) (oth i' u' p' c n3 n4 h3 h4 hc')
  ·rcases cut i' u' p' hu' hp' with ⟨e2,rfl,rfl⟩ | ⟨e2,_,_⟩ | ⟨n3,n4,h3,h4⟩
   ·exact absurd hc (hd c hc')
   ·omega
   ·exact absurd (f2 c hc) (oth i' u' p' c n3 n4 h3 h4 hc')
  ·rcases cut i' u' p' hu' hp' with ⟨e2,rfl,rfl⟩ | ⟨e2,rfl,rfl⟩ | ⟨n3,n4,h3,h4⟩
   ·exact absurd (f1 c hc') (oth i u p c n1 n2 h1 h2 hc)
   ·exact absurd (f2 c hc') (oth i u p c n1 n2 h1 h2 hc)
   ·exact h.inj i i' u u' p p' c h1 h3 h2 h4 hc hc'
theorem Rep.tab {P:Program} (h:Rep X w0 E L w) (hT:TabOk P X w0) {F:Nat→Prop} (hF:∀ c,F c→∃ (i:Nat) (x:LB) (r:Nat × Nat × Nat),L[i]?=some x∧E[i]?=some r∧foot r x c):TabOk P F w:=fun g hg=>by
 obtain ⟨h1,h2,h3⟩:=hT g hg
 refine ⟨fun i x hx=>?_,fun hc=>?_,Nat.lt_of_lt_of_le h3 h.fr.size⟩
 ·rw [h.fr.cell h3 h2]; exact h1 i x hx
 ·obtain ⟨i,x,r,e1,e2,e3⟩:=hF g hc
  rcases (h.rng i x r e1 e2 g e3).1 with h4 | h4
  ·omega
  ·exact h2 h4
/-- a member of a crowd,and the others -/
def Has (ms:List Mem) (m:Mem) (rest:List Mem):Prop:=(∀ w,CrowdAt ms w→CrowdAt (m::rest) w)∧∀ (c:Nat) (m':Mem),m'∈m::rest→m'.at c→∃ m2∈ms,m2.at c
theorem Has.perm {ms rest:List Mem} {m:Mem} (h:ms.Perm (m::rest)):Has ms m rest:=⟨fun _ k=>k.perm h,fun _ m' hm hc=>⟨m',h.mem_iff.2 hm,hc⟩⟩
theorem Has.self {m:Mem} {rest:List Mem}:Has (m::rest) m rest:=.perm (List.Perm.refl _)
theorem Has.none {ms:List Mem}:Has ms ([],[]) ms:=⟨fun _ h=>⟨fun m hm=>by
  rcases List.mem_cons.1 hm with rfl | hm
  ·exact ⟨rfl,fun k x r hx=>by simp at hx,fun k k' x x' r r' b hx=>by simp at hx,fun k x r b hx=>by simp at hx⟩
  ·exact h.all m hm,List.pairwise_cons.2 ⟨fun m' _ b hb=>by obtain ⟨k,x,r,hx,_⟩:=hb; simp at hx,h.apart⟩⟩,fun _ m' hm hc=>by
  rcases List.mem_cons.1 hm with rfl | hm
  ·obtain ⟨k,x,r,hx,_⟩:=hc; simp at hx
  ·exact ⟨m',hm,hc⟩⟩
/-- a contract over a member and what is shared -/
theorem TrK.shared {P:Program} {keep:List Nat} {f:FuncId} {us vs:List Value} {A A' S T T':LH} {ea em:Emb} {ms rest:List Mem} {L:LH} {b k:Nat} {v1:Value} {V:Emb→Emb→Value} {S':Emb→LH}
  (ht:TrK P [] keep f us (A++T) (fun v K=>v=v1∧K=A'++T')) (hb:L[b]?=some (box ea A)) (hk:L[k]?=some (crowd ms)) (hne:b≠k) (hm:Has ms (em,S) rest) (hS:UpL ea S T) (hA:Self A) (hA':Self A') (hl:A'.length=A.length)
  (hS':∀ ea' em':Emb,ea'.length=A.length→em'.length=T'.length→(∀ i r,inL i keep=true→(ea++em)[i]?=some r→(ea'++em')[i]?=some r)→UpL ea' (S' ea') T') (hu:∀ E vs',L2 (VR E) vs vs'→ea.length=A.length→em.length=T.length→L2 (VR (ea++em)) us vs') (hv:∀ ea' em' v',ea'.length=A.length→em'.length=T'.length→(∀ i r,inL i keep=true→(ea++em)[i]?=some r→(ea'++em')[i]?=some r)→VR (ea'++em') v1 v'→∀ E,VR E (V ea' em') v') :
  TrK P [] (seqN 0 L.length) f vs L (fun v K=>∃ ea' em',ea'.length=A.length∧em'.length=T'.length∧(∀ i r,inL i keep=true→(ea++em)[i]?=some r→(ea'++em')[i]?=some r)∧v=V ea' em'∧K=(L.set b (box ea' A')).set k (crowd ((em',S' ea')::rest))):=by
 intro X w0 w E vs' hA0 hR hv'
 obtain ⟨r,hr⟩:=hR.ent hb
 obtain ⟨q,hq⟩:=hR.ent hk
 obtain ⟨h1,h2,_⟩:=hR.blk b _ r hb hr
 obtain ⟨h3,h4,_⟩:=hR.blk k _ q hk hq
 have h3:=hm.1 w h3
 have hB:BoxAt ea A w:=h1
 have hM:BoxAt em S w:=h3.all _ (List.mem_cons_self ..)
 have hap:=List.pairwise_cons.1 h3.apart
 have hfS:∀ c,footL em S c→foot q (crowd ms) c:=fun c hc=>hm.2 c (em,S) (List.mem_cons_self ..) hc
 have hfR:∀ c,(∃ m∈rest,m.at c)→foot q (crowd ms) c:=fun c ⟨m,h,hc⟩=>hm.2 c m (List.mem_cons_of_mem _ h) hc
 have hdj:∀ c,footL ea A c→¬ foot q (crowd ms) c:=fun c hc hc'=>hne (hR.inj b k _ _ r q c hb hk hr hq hc hc')
 have hJ:=hB.join hM (fun c hc hc'=>hdj c hc (hfS c hc')) hS hA
 have hF:∀ c,footL (ea++em) (A++T) c→footL ea A c∨footL em S c:=fun c hc=>(footL_app hB.len hS c).1 hc
 have hT:=hR.tab hA0.2.2 (F:=footL (ea++em) (A++T)) fun c hc=>by
  rcases hF c hc with h | h
  ·exact ⟨b,_,r,hb,hr,h⟩
  ·exact ⟨k,_,q,hk,hq,hfS c h⟩
 have hc:=ht (footL (ea++em) (A++T)) w w (ea++em) vs' ⟨hJ.len,by simp,hT⟩ hJ.rep (hu E vs' hv' hB.len (by rw [hM.len,hS.len]))
 refine ⟨hc.1,hc.2.mono ?_⟩
 rintro v' w' ⟨E',_,_,g1,g0,g2,g3,rfl,rfl⟩
 have gl:=g3.len
 rw [List.length_append] at gl
 obtain ⟨ea',em',rfl,e1⟩:∃ ea' em',E'=ea'++em'∧ea'.length=A.length:=⟨E'.take A.length,E'.drop A.length,(List.take_append_drop _ _).symm,by rw [List.length_take]; omega⟩
 rw [List.length_append] at gl
 have e2:em'.length=T'.length:=by omega
 have e3:∀ i r,inL i keep=true→(ea++em)[i]?=some r→(ea'++em')[i]?=some r:=fun i p hi hp=>g1 i p hi hp
 have hS':=hS' ea' em' e1 e2 e3
 obtain ⟨k1,k2,k3⟩:=g3.boxAt.split (by rw [e1,hl]) hS' hA'
 have hfr:=g3.fr
 have new:∀ c,footL (ea'++em') (A'++T') c→(foot r (box ea A) c∨foot q (crowd ms) c)∨(w.heap.size≤c∧c<w'.heap.size):=fun c hc=>by
  obtain ⟨i,x,p,hx,hp,hc⟩:=hc
  obtain ⟨h5,h6⟩:=g3.rng i x p hx hp c hc
  rcases h5 with h5 | h5
  ·exact .inr ⟨h5,h6⟩
  ·left
   rcases hF c h5 with h | h
   ·exact .inl h
   ·exact .inr (hfS c h)
 have nA:∀ c,footL ea' A' c→footL (ea'++em') (A'++T') c:=fun c hc=>(footL_app (by rw [e1,hl]) hS' c).2 (.inl hc)
 have nS:∀ c,footL em' (S' ea') c→footL (ea'++em') (A'++T') c:=fun c hc=>(footL_app (by rw [e1,hl]) hS' c).2 (.inr hc)
 have hrest:∀ c,(∃ m∈rest,m.at c)→¬ footL (ea++em) (A++T) c:=fun c hc hc'=>by
  rcases hF c hc' with h | h
  ·exact hdj c h (hfR c hc)
  ·obtain ⟨m,hmm,hcm⟩:=hc
   exact hap.1 m hmm c h hcm
 have hrest2:∀ c,(∃ m∈rest,m.at c)→¬ footL (ea'++em') (A'++T') c:=fun c hc hc'=>by
  obtain ⟨i,x,p,hx,hp,hcc⟩:=hc'
  rcases (g3.rng i x p hx hp c hcc).1 with h5 | h5
  ·have:=(hR.rng k _ q hk hq c (hfR c hc)).2; omega
  ·exact hrest c hc h5
 have hCr:CrowdAt rest w':=CrowdAt.fr (w:=w) ⟨fun m hm=>h3.all m (List.mem_cons_of_mem _ hm),hap.2⟩ hfr hrest
 have hC:CrowdAt ((em',S' ea')::rest) w':=⟨fun m hm=>by
  rcases List.mem_cons.1 hm with rfl | hm
  ·exact k2
  ·exact hCr.all m hm,List.pairwise_cons.2 ⟨fun m hmm c hc hc'=>hrest2 c ⟨m,hmm,hc'⟩ (nS c hc),hap.2⟩⟩
 refine ⟨E,_,_,fun _ _ _ h=>h,?_,hv ea' em' v' e1 e2 e3 g2 E,?_,ea',em',e1,e2,e3,rfl,rfl⟩
 ·rw [List.length_set,List.length_set]; exact Nat.le_refl _
 ·refine hR.upd2 hb hr hk hq (hfr.mono fun c _ hc=>?_) (k1.is h2) (hC.is h4) (fun c hc=>new c (nA c hc)) (fun c hc=>?_) (fun c hc hc'=>?_)
  ·rcases hF c hc with h | h
   ·exact .inl h
   ·exact .inr (hfS c h)
  ·obtain ⟨m,hmm,hcm⟩:=hc
   rcases List.mem_cons.1 hmm with rfl | hmm
   ·exact new c (nS c hcm)
   ·exact .inl (.inr (hfR c ⟨m,hmm,hcm⟩))
  ·obtain ⟨m,hmm,hcm⟩:=hc'
   rcases List.mem_cons.1 hmm with rfl | hmm
   ·exact k3 c hc hcm
   ·exact hrest2 c ⟨m,hmm,hcm⟩ (nA c hc)
theorem crowd_perm {ms ms':List Mem} (h:ms.Perm ms'):crowd ms=crowd ms':=by
 unfold crowd
 congr 1
 ·funext _ w; exact propext ⟨fun k=>k.perm h,fun k=>k.perm h.symm⟩
 ·funext b; exact propext ⟨fun ⟨m,h1,h2⟩=>⟨m,h.mem_iff.1 h1,h2⟩,fun ⟨m,h1,h2⟩=>⟨m,h.mem_iff.2 h1,h2⟩⟩
/-- a value without names -/
def Plain (v:Value):Prop:=∀ (E E':Emb) (v':Value),VR E v v'→VR E' v v'
theorem L2.head {E E2:Emb} {v u:Value} {is vs':List Value} (h1:∀ v',VR E v v'→VR E2 u v') (h2:∀ v∈is,Plain v) (h:L2 (VR E) (v::is) vs'):L2 (VR E2) (u::is) vs':=by
 have key:∀ (is vs':List Value),(∀ v∈is,Plain v)→L2 (VR E) is vs'→L2 (VR E2) is vs':=by
  intro is
  induction is with
  | nil=>intro vs' _ h; cases vs' <;> exact h
  | cons a r ih=>intro vs' h h'; cases vs' with
   | nil=>exact h'
   | cons b s=>exact ⟨h a (List.mem_cons_self ..) _ _ _ h'.1,ih s (fun v hv=>h v (List.mem_cons_of_mem _ hv)) h'.2⟩
 cases vs' with
 | nil=>exact h.elim
 | cons b s=>exact ⟨h1 b h.1,key is s h2 h.2⟩
theorem VR.toIn {ea em E:Emb} {i o a:Nat} {r:Nat × Nat × Nat} {v':Value} (hr:em[i]?=some r) (ha:ea.length+i=a) (h:VR E (adR r o) v'):VR (ea++em) (.pointer (some ⟨a,o,none⟩)) v':=by
 have h:v'=.pointer (some ⟨r.1,o+r.2.1,none⟩):=h
 subst h; subst ha
 exact ⟨_,rfl,rfl,r,by show (ea++em)[_]?=_; rw [app_get]; exact hr,rfl⟩
theorem VR.toOut {ea em E:Emb} {i o a:Nat} {r:Nat × Nat × Nat} {v':Value} (hr:em[i]?=some r) (ha:ea.length+i=a) (h:VR (ea++em) (.pointer (some ⟨a,o,none⟩)) v'):VR E (adR r o) v':=by
 subst ha
 obtain ⟨a',h1,_,r',h3,h4⟩:=h
 have h3:(ea++em)[ea.length+i]?=_:=h3
 rw [app_get,hr] at h3; cases h3
 show v'=_
 rw [h1,h4]
theorem VR.in0 {em E:Emb} {i o:Nat} {r:Nat × Nat × Nat} {v':Value} (hr:em[i]?=some r) (h:VR E (adR r o) v'):VR em (.pointer (some ⟨i,o,none⟩)) v':=VR.toIn (ea:=[]) hr (by simp) h
theorem VR.out0 {em E:Emb} {i o:Nat} {r:Nat × Nat × Nat} {v':Value} (hr:em[i]?=some r) (h:VR em (.pointer (some ⟨i,o,none⟩)) v'):VR E (adR r o) v':=VR.toOut (ea:=[]) hr (by simp) h
theorem all_kept {a b:Emb} {n:Nat} (h:∀ i r,inL i (seqN 0 n)=true→a[i]?=some r→b[i]?=some r) (ha:a.length=n) (hb:b.length=n):b=a:=by
 apply List.ext_getElem?
 intro i
 by_cases hi:i<n
 ·rw [List.getElem?_eq_getElem (show i<a.length by omega)]
  exact h i _ (by
   rw [inL_mem]
   have:=seqN_get n 0 i hi
   rw [Nat.zero_add] at this
   exact List.mem_of_getElem? this) (List.getElem?_eq_getElem (by omega))
 ·rw [List.getElem?_eq_none (by omega),List.getElem?_eq_none (by omega)]
/-- all names stay -/
theorem TrK.sharedK {P:Program} {f:FuncId} {us vs:List Value} {A A' S S' T T':LH} {ea em:Emb} {ms ms' rest:List Mem} {v1 v2:Value}
  (ht:Tr P f us (A++T) (fun v K=>v=v1∧K=A'++T')) (hm:ms.Perm ((em,S)::rest)) (hm':ms'.Perm ((em,S')::rest)) (hS:UpL ea S T) (hS':UpL ea S' T') (hA:Self A) (hA':Self A') (hl:A'.length=A.length) (hlT:T'.length=T.length) (hea:ea.length=A.length) (hem:em.length=T.length)
  (hu:∀ E vs',L2 (VR E) vs vs'→L2 (VR (ea++em)) us vs') (hv:∀ v',VR (ea++em) v1 v'→∀ E,VR E v2 v') :
  Tr P f vs [crowd ms,box ea A] (fun v K=>v=v2∧K=[crowd ms',box ea A']):=by
 have eq:∀ ea' em':Emb,ea'.length=A.length→em'.length=T'.length→(∀ i r,inL i (seqN 0 (A++T).length)=true→(ea++em)[i]?=some r→(ea'++em')[i]?=some r)→ea'=ea∧em'=em:=fun ea' em' e1 e2 e3=>by
  have:=all_kept e3 (by rw [List.length_append,List.length_append]; omega) (by rw [List.length_append,List.length_append]; omega)
  exact List.append_inj this (by omega)
 refine Tr.mono (TrK.shared (A:=A) (A':=A') (S:=S) (T:=T) (T':=T') (S':=fun _=>S') (V:=fun _ _=>v2) (b:=1) (k:=0) ht rfl rfl (by decide) (.perm hm) hS hA hA' hl (fun ea' em' e1 e2 e3=>by rw [(eq ea' em' e1 e2 e3).1]; exact hS') (fun E vs' h _ _=>hu E vs' h) (fun ea' em' v' e1 e2 e3 h=>by
  obtain ⟨rfl,rfl⟩:=eq ea' em' e1 e2 e3
  exact hv v' h)) ?_
 rintro v K ⟨ea',em',e1,e2,e3,rfl,rfl⟩
 obtain ⟨rfl,rfl⟩:=eq ea' em' e1 e2 e3
 exact ⟨rfl,by rw [crowd_perm hm']; rfl⟩
/-- what is shared,alone -/
theorem TrK.boxed {P:Program} {f:FuncId} {us vs:List Value} {A A':LH} {ea:Emb} {v1 v2:Value}
  (ht:Tr P f us A (fun v K=>v=v1∧K=A')) (hl:A'.length=A.length) (hea:ea.length=A.length) (hu:∀ E vs',L2 (VR E) vs vs'→L2 (VR ea) us vs') (hv:∀ v',VR ea v1 v'→∀ E,VR E v2 v') :
  Tr P f vs [box ea A] (fun v K=>v=v2∧K=[box ea A']):=by
 intro X w0 w E vs' hA0 hR hv'
 obtain ⟨r,hr⟩:=hR.ent (b:=0) rfl
 obtain ⟨h1,h2,_⟩:=hR.blk 0 _ r rfl hr
 have hB:BoxAt ea A w:=h1
 have hT:=hR.tab hA0.2.2 (F:=footL ea A) fun c hc=>⟨0,_,r,rfl,hr,hc⟩
 have hc:=ht (footL ea A) w w ea vs' ⟨hB.len,by simp,hT⟩ hB.rep (hu E vs' hv')
 refine ⟨hc.1,hc.2.mono ?_⟩
 rintro v' w' ⟨E',v0,L',g1,g0,g2,g3,q1,q2⟩
 subst q1; subst q2
 have gl:=g3.len
 obtain rfl:E'=ea:=all_kept (fun i p hi hp=>g1 i p hi hp) hea (by omega)
 refine ⟨E,v2,[box E' L'],fun _ _ _ h=>h,Nat.le_refl _,hv v' g2 E,hR.upd (b:=0) (x:=box E' L') rfl hr g3.fr (g3.boxAt.is h2) fun c hc=>?_,rfl,rfl⟩
 ·obtain ⟨i,x,p,hx,hp,hc⟩:=hc
  obtain ⟨h5,h6⟩:=g3.rng i x p hx hp c hc
  rcases h5 with h5 | h5
  ·exact .inr ⟨h5,h6⟩
  ·exact .inl h5
/-- a member of a crowd,alone -/
theorem TrK.member {P:Program} {f:FuncId} {us vs:List Value} {S S':LH} {em:Emb} {ms ms' rest:List Mem} {v1 v2:Value}
  (ht:Tr P f us S (fun v K=>v=v1∧K=S')) (hm:ms.Perm ((em,S)::rest)) (hm':ms'.Perm ((em,S')::rest)) (hl:S'.length=S.length) (hem:em.length=S.length) (hu:∀ E vs',L2 (VR E) vs vs'→L2 (VR em) us vs') (hv:∀ v',VR em v1 v'→∀ E,VR E v2 v') :
  Tr P f vs [crowd ms] (fun v K=>v=v2∧K=[crowd ms']):=by
 intro X w0 w E vs' hA0 hR hv'
 obtain ⟨q,hq⟩:=hR.ent (b:=0) rfl
 obtain ⟨g1,g2,_⟩:=hR.blk 0 _ q rfl hq
 have g1:CrowdAt ((em,S)::rest) w:=CrowdAt.perm hm g1
 have hB:BoxAt em S w:=g1.all _ (List.mem_cons_self ..)
 have hap:=List.pairwise_cons.1 g1.apart
 have hfS:∀ c,footL em S c→foot q (crowd ms) c:=fun c hc=>⟨(em,S),hm.mem_iff.2 (List.mem_cons_self ..),hc⟩
 have hT:=hR.tab hA0.2.2 (F:=footL em S) fun c hc=>⟨0,_,q,rfl,hq,hfS c hc⟩
 have hc:=ht (footL em S) w w em vs' ⟨hB.len,by simp,hT⟩ hB.rep (hu E vs' hv')
 refine ⟨hc.1,hc.2.mono ?_⟩
 rintro v' w' ⟨E',v0,L',k1,k0,k2,k3,q1,q2⟩
 subst q1; subst q2
 have gl:=k3.len
 obtain rfl:E'=em:=all_kept (fun i p hi hp=>k1 i p hi hp) hem (by omega)
 have new:∀ c,footL E' L' c→foot q (crowd ms) c∨(w.heap.size≤c∧c<w'.heap.size):=fun c ⟨i,x,p,hx,hp,hcc⟩=>by
  obtain ⟨h5,h6⟩:=k3.rng i x p hx hp c hcc
  rcases h5 with h5 | h5
  ·exact .inr ⟨h5,h6⟩
  ·exact .inl (hfS c h5)
 have hrest:∀ c,(∃ m∈rest,m.at c)→¬ footL E' S c:=fun c ⟨m,h1,h2⟩ h3=>hap.1 m h1 c h3 h2
 have hrest2:∀ c,(∃ m∈rest,m.at c)→¬ footL E' L' c:=fun c hc ⟨i,x,p,hx,hp,hcc⟩=>by
  rcases (k3.rng i x p hx hp c hcc).1 with h5 | h5
  ·obtain ⟨m,h1,h2⟩:=hc
   have:=(hR.rng 0 _ q rfl hq c ⟨m,hm.mem_iff.2 (List.mem_cons_of_mem _ h1),h2⟩).2
   omega
  ·exact hrest c hc h5
 have hCr:CrowdAt rest w':=CrowdAt.fr (w:=w) ⟨fun m h=>g1.all m (List.mem_cons_of_mem _ h),hap.2⟩ k3.fr hrest
 have hC:CrowdAt ms' w':=CrowdAt.perm hm'.symm ⟨fun m h=>by
  rcases List.mem_cons.1 h with rfl | h
  ·exact k3.boxAt
  ·exact hCr.all m h,List.pairwise_cons.2 ⟨fun m h c h1 h2=>hrest2 c ⟨m,h,h2⟩ h1,hap.2⟩⟩
 refine ⟨E,v2,[crowd ms'],fun _ _ _ h=>h,Nat.le_refl _,hv v' k2 E,hR.upd (b:=0) (x:=crowd ms') rfl hq (k3.fr.mono fun c _ h=>hfS c h) (hC.is g2) fun c h=>?_,rfl,rfl⟩
 obtain ⟨m,h1,h2⟩:=h
 rcases List.mem_cons.1 (hm'.mem_iff.1 h1) with rfl | h1
 ·exact new c h2
 ·exact .inl ⟨m,hm.mem_iff.2 (List.mem_cons_of_mem _ h1),h2⟩
end
end Go.Tum
end
section
namespace Go.Tum.Base
open Go Go.Tum
structure Cls (c:Int) (z n:Nat):Prop where
 is:(c=0∧z=16∧n=16)∨(c=1∧z=32∧n=8)∨(c=2∧z=64∧n=4)∨(c=3∧z=128∧n=2)
theorem Cls.size {c:Int} {z n:Nat} (h:Cls c z n):sizeC c=z:=by
 rcases h.is with ⟨rfl,rfl,rfl⟩ | ⟨rfl,rfl,rfl⟩ | ⟨rfl,rfl,rfl⟩ | ⟨rfl,rfl,rfl⟩ <;> rfl
theorem Cls.bd {c:Int} {z n:Nat} (h:Cls c z n):16≤z∧z≤128∧z % 16=0∧2≤n∧n≤16∧0≤c∧c<4:=by
 rcases h.is with ⟨rfl,rfl,rfl⟩ | ⟨rfl,rfl,rfl⟩ | ⟨rfl,rfl,rfl⟩ | ⟨rfl,rfl,rfl⟩ <;> decide
theorem Cls.of {c:Int} (h:sizeC c≠0):∃ z n,Cls c z n:=by
 unfold sizeC at h
 by_cases h0:c=0
 ·exact ⟨_,_,⟨.inl ⟨h0,rfl,rfl⟩⟩⟩
 by_cases h1:c=1
 ·exact ⟨_,_,⟨.inr (.inl ⟨h1,rfl,rfl⟩)⟩⟩
 by_cases h2:c=2
 ·exact ⟨_,_,⟨.inr (.inr (.inl ⟨h2,rfl,rfl⟩))⟩⟩
 by_cases h3:c=3
 ·exact ⟨_,_,⟨.inr (.inr (.inr ⟨h3,rfl,rfl⟩))⟩⟩
 simp [h0,h1,h2,h3] at h
def slotsC (c:Int):Int:=if c=0 then 16 else if c=1 then 8 else if c=2 then 4 else if c=3 then 2 else 0
theorem Cls.slots {c:Int} {z n:Nat} (h:Cls c z n):slotsC c=n:=by
 rcases h.is with ⟨rfl,rfl,rfl⟩ | ⟨rfl,rfl,rfl⟩ | ⟨rfl,rfl,rfl⟩ | ⟨rfl,rfl,rfl⟩ <;> rfl
def nC (c:Int):Nat:=(slotsC c).toNat
def zC (c:Int):Nat:=(sizeC c).toNat
theorem Cls.nC {c:Int} {z n:Nat} (h:Cls c z n):Base.nC c=n:=by unfold Base.nC; rw [h.slots]; rfl
def baseN (p z k:Nat):Nat:=256*p+z*k
theorem Cls.base {c:Int} {z n:Nat} (h:Cls c z n) {k:Nat} (hk:k<n) (p:Nat):256*p≤baseN p z k∧baseN p z k+z≤256*(p+1)∧baseN p z k % 16=0∧z*k+z≤256∧baseN p z k=256*p+z*k∧baseN p z k / 256=p∧baseN p z k % 256 / z=k:=by
 unfold baseN
 rcases h.is with ⟨rfl,rfl,rfl⟩ | ⟨rfl,rfl,rfl⟩ | ⟨rfl,rfl,rfl⟩ | ⟨rfl,rfl,rfl⟩ <;> omega
def baseI (p z n:Nat) (k:Int):Int:=if k<0∨n≤k then -1 else baseN p z k.toNat
def slotI (z:Nat) (a:Int):Int:=if a<0∨65536≤a then -1 else a % 256 / z
def pageI (a:Int):Int:=if a<0∨65536≤a then -1 else a / 256
theorem Cls.slotI {c:Int} {z n:Nat} (h:Cls c z n) {k p:Nat} (hk:k<n) (hp:p<256):Base.slotI z (baseN p z k:Nat)=k∧pageI (baseN p z k:Nat)=p:=by
 unfold Base.slotI pageI baseN
 rcases h.is with ⟨rfl,rfl,rfl⟩ | ⟨rfl,rfl,rfl⟩ | ⟨rfl,rfl,rfl⟩ | ⟨rfl,rfl,rfl⟩ <;> (rw [if_neg (by omega),if_neg (by omega)]; omega)
def putL (key:BitVec 64) (a:Nat) (nx:Int):BitVec 64:=(BitVec.ofInt 64 (nx+1) ||| 6510516211317473280#64) ^^^ mixW (key+BitVec.ofInt 64 a)
def getL (key w:BitVec 64) (a:Nat):Option Int :=
 let x:=w ^^^ mixW (key+BitVec.ofInt 64 a)
 if (x &&& ~~~ 4294967295#64).toNat=6510516211317473280∧(x &&& 4294967295#64).toNat≤2147483648 then some ((x &&& 4294967295#64).toNat-1) else none
structure PS where
 pg:Nat
 c:Int
 ow:Int
 lw:BitVec 64
 hw:BitVec 64
 f:Int
structure PS.Ok (t:PS) (N z n:Nat):Prop where
 cls:Cls t.c z n
 pg:256*(t.pg+1)≤N
 f : -1≤t.f∧t.f<65536
 N:N≤65536
def PS.st (t:PS) (k:Nat):Int:=if t.lw.getLsbD k then 1 else if t.hw.getLsbD k then 2 else 0
def PS.stI (t:PS) (n:Nat) (k:Int):Int:=if k<0∨n≤k then -1 else t.st k.toNat
def putW (w:BitVec 64) (k:Nat) (v:Bool):BitVec 64:=if v then w ||| (1#64 <<< k) else w &&& ~~~ (1#64 <<< k)
theorem putW_eq (w:BitVec 64) {k:Nat} (hk:k<64) (v:Bool):putBit [w] k v=[putW w k v]:=by
 unfold putBit putW
 rw [show k / 64=0 by omega,show k % 64=k by omega]; rfl
theorem bitAt1 (w:BitVec 64) {k:Nat} (hk:k<64):bitAt [w] k=w.getLsbD k:=by
 unfold bitAt
 rw [show k / 64=0 by omega,show k % 64=k by omega]; rfl
theorem putW_get (w:BitVec 64) {k:Nat} (hk:k<64) (v:Bool) {j:Nat} (hj:j<64):(putW w k v).getLsbD j=if j=k then v else w.getLsbD j:=by
 have:=bitAt_put (ws:=[w]) (i:=k) v (by rw [show k / 64=0 by omega]; exact Nat.zero_lt_one) j
 rwa [putW_eq w hk,bitAt1 _ hj,bitAt1 _ hj] at this
def cntS (t:PS) (s:Int):Nat→Nat
 | 0=>0
 | k+1=>cntS t s k+if t.st k=s then 1 else 0
theorem cntS_le (t:PS) (s:Int):∀ k,cntS t s k≤k
 | 0=>Nat.le_refl _
 | k+1=>by have:=cntS_le t s k; simp only [cntS]; split <;> omega
def folP (key:BitVec 64) (bs:Bytes) (z n:Nat) (t:PS) (k:Nat):Int × Bool :=
 match getL key (wordB bs (baseN t.pg z k)) (baseN t.pg z k) with
 | none=>(-1,false)
 | some nx=>if nx = -1 then (-1,true) else (nx,decide (nx≠baseN t.pg z k∧pageI nx=t.pg∧nx=baseI t.pg z n (slotI z nx)∧t.stI n (slotI z nx)=0))
def joinP (key:BitVec 64) (bs:Bytes) (z:Nat) (t:PS) (k:Nat):Bytes:=overB bs (baseN t.pg z k) (putB (putL key (baseN t.pg z k) t.f) 8)
def tookB (key:BitVec 64) (bs:Bytes) (p z k:Nat):Bytes:=overB (overB bs (baseN p z k) (List.replicate (z-8) 0)) (baseN p z k+z-8) (putB (canW key (baseN p z k)) 8)
def dropB (bs:Bytes) (p z k:Nat):Bytes:=overB bs (baseN p z k) (List.replicate z 0xDD#8)
def standsK (key:BitVec 64) (bs:Bytes) (p z k:Nat):Bool:=decide (wordB bs (baseN p z k+z-8)=canW key (baseN p z k))
def madeP (key:BitVec 64) (bs:Bytes) (p z n:Nat):Nat→Bytes × Int
 | 0=>(bs,-1)
 | j+1=>let x:=madeP key bs p z n j; (overB x.1 (baseN p z (n-1-j)) (putB (putL key (baseN p z (n-1-j)) x.2) 8),baseN p z (n-1-j))
theorem joinB_length {c:Int} {z n:Nat} (hc:Cls c z n) {bs:Bytes} {p k:Nat} (hk:k<n) (hp:256*(p+1)≤bs.length) {v:BitVec 64}:(overB bs (baseN p z k) (putB v 8)).length=bs.length:=by
 have:=hc.base hk p
 have:=hc.bd
 rw [overB_length (by rw [putB_length]; omega)]
theorem madeP_len {key:BitVec 64} {bs:Bytes} {c:Int} {p z n:Nat} (hc:Cls c z n) (hp:256*(p+1)≤bs.length):∀ j,j≤n→(madeP key bs p z n j).1.length=bs.length
 | 0,_=>rfl
 | j+1,h=>by
  have ih:=madeP_len (key:=key) hc hp j (by omega)
  simp only [madeP]
  rw [joinB_length hc (by omega) (by rw [ih]; exact hp),ih]
theorem madeP_f {key:BitVec 64} {bs:Bytes} {c:Int} {p z n:Nat} (hc:Cls c z n) (hp:p<256):∀ j,j≤n → -1≤(madeP key bs p z n j).2∧(madeP key bs p z n j).2<65536
 | 0,_=>by simp [madeP]
 | j+1,h=>by
  have:=hc.base (k:=n-1-j) (by omega) p
  have:=hc.bd
  simp only [madeP]; omega
theorem tookB_length {key:BitVec 64} {c:Int} {z n:Nat} (hc:Cls c z n) {bs:Bytes} {p k:Nat} (hk:k<n) (hp:256*(p+1)≤bs.length):(tookB key bs p z k).length=bs.length:=by
 have:=hc.base hk p
 have:=hc.bd
 unfold tookB
 have h1:(overB bs (baseN p z k) (List.replicate (z-8) 0)).length=bs.length:=by rw [overB_length (by rw [List.length_replicate]; omega)]
 rw [overB_length (by rw [putB_length,h1]; omega),h1]
theorem dropB_length {c:Int} {z n:Nat} (hc:Cls c z n) {bs:Bytes} {p k:Nat} (hk:k<n) (hp:256*(p+1)≤bs.length):(dropB bs p z k).length=bs.length:=by
 have:=hc.base hk p
 have:=hc.bd
 unfold dropB
 rw [overB_length (by rw [List.length_replicate]; omega)]
end Go.Tum.Base
end
section
namespace Go.Proofs.YtblibdfcnplfhaaGreat
open Go Go.Tum Go.Tum.Base
set_option maxRecDepth 4000
def AN (N:Nat) (bs:Bytes):LH:=[.cells 0 [slB 1 N],BL bs]
theorem aLen (N:Nat) (bs:Bytes) (hl:bs.length=N):Tr Tryz.prog 64 [ptr 0] (AN N bs) (fun v K=>v=.int .i64 N∧K=AN N bs):=by
 subst hl; exact arenaLen_tr bs
theorem aSet (N:Nat) (bs:Bytes) (hl:bs.length=N) (hN:N≤65536) (i:Nat) (h:i+8≤N) (h8:i % 8=0) (x:BitVec 64):Tr Tryz.prog 260 [ptr 0,.int .i64 i,.int .u64 (x.toNat:Int)] (AN N bs) (fun v K=>v=.int .i64 0∧K=AN N (overB bs i (putB x 8))):=by
 subst hl
 have:=arenaSetWord_ok bs hN i h h8 x
 rw [AL_over (by rw [putB_length]; exact h)] at this
 exact this
theorem aWord (N:Nat) (bs:Bytes) (hl:bs.length=N) (hN:N≤65536) (i:Nat) (h:i+8≤N) (h8:i % 8=0):Tr Tryz.prog 212 [ptr 0,.int .i64 i] (AN N bs) (fun v K=>v=.tuple ⟨[.int .u64 ((wordB bs i).toNat:Int),.int .i64 0]⟩∧K=AN N bs):=by
 subst hl; exact arenaWord_ok bs hN i h h8
theorem aFill (N:Nat) (bs:Bytes) (hl:bs.length=N) (hN:N≤65536) (i m:Nat) (c:BitVec 8) (h:i+m≤N):Tr Tryz.prog 197 [ptr 0,.int .i64 i,.int .i64 m,.int .u8 (c.toNat:Int)] (AN N bs) (fun v K=>v=.int .i64 0∧K=AN N (overB bs i (List.replicate m c))):=by
 subst hl
 have:=arenaFill_ok bs hN i m c h
 rw [AL_over (by rw [List.length_replicate]; exact h)] at this
 exact this
theorem Slots_tr (c:Int):Tr Tryz.prog 60 [.int .i64 c] [] (fun v K=>v=.int .i64 (slotsC c)∧K=[]):=by
 by_cases h:c=0∨c=1∨c=2∨c=3
 ·rcases h with rfl | rfl | rfl | rfl
  ·refine Tr.of Ro18 rfl ?_
   repeat' (first|refine qN ?_|refine dN ?_|refine dR ?_|refine d0 ?_|refine rT ?_|refine qT ?_|refine qU ?_|refine qL ?_|refine qK ?_|refine iF (fun h=>?_) (fun h=>?_)|refine cP [] (may_tr 0) ?_|refine cP [] (Size_tr 0) ?_|refine S_Q [] rfl rfl (QY.divN (c:=16) rfl rfl (by decide) (by decide) (by decide)) ?_|refine aI (hn:=?_)|refine aD ?_|refine qR ?_|refine qS ?_|exact ⟨rfl,rfl⟩|fail)
  ·refine Tr.of Ro18 rfl ?_
   repeat' (first|refine qN ?_|refine dN ?_|refine dR ?_|refine d0 ?_|refine rT ?_|refine qT ?_|refine qU ?_|refine qL ?_|refine qK ?_|refine iF (fun h=>?_) (fun h=>?_)|refine cP [] (may_tr 1) ?_|refine cP [] (Size_tr 1) ?_|refine S_Q [] rfl rfl (QY.divN (c:=8) rfl rfl (by decide) (by decide) (by decide)) ?_|refine aI (hn:=?_)|refine aD ?_|refine qR ?_|refine qS ?_|exact ⟨rfl,rfl⟩|fail)
  ·refine Tr.of Ro18 rfl ?_
   repeat' (first|refine qN ?_|refine dN ?_|refine dR ?_|refine d0 ?_|refine rT ?_|refine qT ?_|refine qU ?_|refine qL ?_|refine qK ?_|refine iF (fun h=>?_) (fun h=>?_)|refine cP [] (may_tr 2) ?_|refine cP [] (Size_tr 2) ?_|refine S_Q [] rfl rfl (QY.divN (c:=4) rfl rfl (by decide) (by decide) (by decide)) ?_|refine aI (hn:=?_)|refine aD ?_|refine qR ?_|refine qS ?_|exact ⟨rfl,rfl⟩|fail)
  ·refine Tr.of Ro18 rfl ?_
   repeat' (first|refine qN ?_|refine dN ?_|refine dR ?_|refine d0 ?_|refine rT ?_|refine qT ?_|refine qU ?_|refine qL ?_|refine qK ?_|refine iF (fun h=>?_) (fun h=>?_)|refine cP [] (may_tr 3) ?_|refine cP [] (Size_tr 3) ?_|refine S_Q [] rfl rfl (QY.divN (c:=2) rfl rfl (by decide) (by decide) (by decide)) ?_|refine aI (hn:=?_)|refine aD ?_|refine qR ?_|refine qS ?_|exact ⟨rfl,rfl⟩|fail)
 ·have hM:=may_tr c
  rw [decide_eq_false (by omega)] at hM
  have hS:slotsC c=0:=by
   unfold slotsC
   rw [if_neg (by omega),if_neg (by omega),if_neg (by omega),if_neg (by omega)]
  rw [hS]
  refine Tr.of Ro18 rfl ?_
  repeat' (first|refine qN ?_|refine dN ?_|refine dR ?_|refine d0 ?_|refine rT ?_|refine qT ?_|refine qU ?_|refine qL ?_|refine qK ?_|refine iF (fun h=>?_) (fun h=>?_)|refine cP [] (hM) ?_|refine aI (hn:=?_)|refine aD ?_|refine qR ?_|refine qS ?_|exact ⟨rfl,rfl⟩|fail)
theorem Base_ok {c:Int} {z n:Nat} (hc:Cls c z n) (p k:Nat) (hp:p<256) (hk:k<n):Tr Tryz.prog 113 [.int .i64 p,.int .i64 c,.int .i64 k] [] (fun v K=>v=.int .i64 (baseN p z k)∧K=[]):=by
 have hS:=Slots_tr c
 have hZ:=Size_tr c
 rw [hc.slots] at hS
 rw [hc.size] at hZ
 obtain ⟨h1,h2,h3,h4,h5,_⟩:=hc.base hk p
 rw [h5]
 refine Tr.of Ro12 rfl ?_
 repeat' (first|refine qN ?_|refine dN ?_|refine dR ?_|refine d0 ?_|refine rT ?_|refine qT ?_|refine qU ?_|refine qL ?_|refine qK ?_|refine iF (fun h=>?_) (fun h=>?_)|refine cP [] (hS) ?_|refine cP [] (hZ) ?_|refine S_Q [] rfl rfl (QY.mul (c:=((256*p:Nat):Int)) rfl rfl (by omega) (by omega) (by omega)) ?_|refine S_Q [] rfl rfl (QY.mul (c:=((z*k:Nat):Int)) rfl rfl (by rw [Int.natCast_mul]) (by omega) (by omega)) ?_|refine S_Q [] rfl rfl (QY.add (c:=((256*p+z*k:Nat):Int)) rfl rfl (by omega) (by omega) (by omega)) ?_|refine aA ?_|refine aI (hn:=?_)|refine aM ?_|refine sP 9 (fun h=>?_) (fun h=>?_)|refine sP 13 (fun h=>?_) (fun h=>?_)|refine sP 17 (fun h=>?_) (fun h=>?_)|refine qR ?_|refine qS ?_|exact ⟨rfl,rfl⟩|fail)
 all_goals (exfalso; omega)
theorem Base_tr {c:Int} {z n:Nat} (hc:Cls c z n) (p:Nat) (k:Int) (hp:p<256):Tr Tryz.prog 113 [.int .i64 p,.int .i64 c,.int .i64 k] [] (fun v K=>v=.int .i64 (baseI p z n k)∧K=[]):=by
 by_cases h:k<0∨(n:Int)≤k
 ·have hS:=Slots_tr c
  rw [hc.slots] at hS
  rw [show baseI p z n k = -1 by unfold baseI; rw [if_pos h]]
  refine Tr.of Ro12 rfl ?_
  repeat' (first|refine qN ?_|refine dN ?_|refine dR ?_|refine d0 ?_|refine rT ?_|refine qT ?_|refine qU ?_|refine qL ?_|refine qK ?_|refine iF (fun h=>?_) (fun h=>?_)|refine cP [] (hS) ?_|refine aA ?_|refine aI (hn:=?_)|refine aM ?_|refine sP 9 (fun h=>?_) (fun h=>?_)|refine sP 13 (fun h=>?_) (fun h=>?_)|refine sP 17 (fun h=>?_) (fun h=>?_)|refine qR ?_|refine qS ?_|exact ⟨rfl,rfl⟩|fail)
  all_goals (exfalso; omega)
 ·obtain ⟨i,rfl⟩:=Int.eq_ofNat_of_zero_le (show 0≤k by omega)
  rw [show baseI p z n i=baseN p z i by unfold baseI; rw [if_neg h,Int.toNat_natCast]]
  exact Base_ok hc p i hp (by omega)
theorem Slot_tr {c:Int} {z n:Nat} (hc:Cls c z n) (a:Int):Tr Tryz.prog 65 [.int .i64 a,.int .i64 c] [] (fun v K=>v=.tuple ⟨[.int .i64 (pageI a),.int .i64 (slotI z a)]⟩∧K=[]):=by
 have hM:=may_tr c
 have hb:=hc.bd
 rw [decide_eq_true (by omega)] at hM
 have hZ:=Size_tr c
 rw [hc.size] at hZ
 by_cases h:a<0∨65536≤a
 ·rw [show pageI a = -1 by unfold pageI; rw [if_pos h],show slotI z a = -1 by unfold slotI; rw [if_pos h]]
  refine Tr.of Ro17 rfl ?_
  repeat' (first|refine qN ?_|refine dN ?_|refine dR ?_|refine d0 ?_|refine rT ?_|refine qT ?_|refine qU ?_|refine qL ?_|refine qK ?_|refine iF (fun h=>?_) (fun h=>?_)|refine cP [] (hM) ?_|refine aI (hn:=?_)|refine aD ?_|refine aR ?_|refine sP 9 (fun h=>?_) (fun h=>?_)|refine sP 13 (fun h=>?_) (fun h=>?_)|refine qR ?_|refine qS ?_|exact ⟨rfl,rfl⟩|fail)
  all_goals (exfalso; omega)
 ·rw [show pageI a=a / 256 by unfold pageI; rw [if_neg h],show slotI z a=a % 256 / z by unfold slotI; rw [if_neg h]]
  have hd:a % 256 / (z:Int)≤16∧0≤a % 256 / (z:Int):=by
   rcases hc.is with ⟨_,rfl,_⟩ | ⟨_,rfl,_⟩ | ⟨_,rfl,_⟩ | ⟨_,rfl,_⟩ <;> omega
  refine Tr.of Ro17 rfl ?_
  repeat' (first|refine qN ?_|refine dN ?_|refine dR ?_|refine d0 ?_|refine rT ?_|refine qT ?_|refine qU ?_|refine qL ?_|refine qK ?_|refine iF (fun h=>?_) (fun h=>?_)|refine cP [] (hM) ?_|refine cP [] (hZ) ?_|refine S_Q [] rfl rfl (QY.divN (c:=a % 256 / z) rfl rfl rfl (by omega) (by omega)) ?_|refine aI (hn:=?_)|refine aD ?_|refine aR ?_|refine sP 9 (fun h=>?_) (fun h=>?_)|refine sP 13 (fun h=>?_) (fun h=>?_)|refine qR ?_|refine qS ?_|exact ⟨rfl,rfl⟩|fail)
  all_goals (exfalso; omega)
theorem mask_tr (k:BitVec 64) (a:Int):Tr Tryz.prog 259 [.agg ⟨[.int .u64 (k.toNat:Int)]⟩,.int .i64 a] [] (fun v K=>v=.int .u64 ((mixW (k+BitVec.ofInt 64 a)).toNat:Int)∧K=[]):=by
 refine Tr.of Ro49 rfl ?_
 repeat' (first|refine qN ?_|refine dN ?_|refine dR ?_|refine d0 ?_|refine rT ?_|refine aA ?_|refine aI (hn:=?_)|refine qR ?_|refine qS ?_|exact ⟨rfl,rfl⟩|fail)
 first|refine L_rs ?_|refine L_reg ?_ | skip
 refine S_Q [] rfl rfl (QY.cvIW rfl) ?_
 first|refine L_rs ?_|refine L_reg ?_ | skip
 refine S_Q [] rfl rfl (QY.addW rfl rfl) ?_
 first|refine L_rs ?_|refine L_reg ?_ | skip
 refine cP [] (mix_tr (k+BitVec.ofInt 64 a)) ?_
 repeat' (first|refine qN ?_|refine dN ?_|refine dR ?_|refine d0 ?_|refine rT ?_|refine aA ?_|refine aI (hn:=?_)|refine qR ?_|refine qS ?_|exact ⟨rfl,rfl⟩|fail)
theorem linkPut_tr (k:BitVec 64) (a:Nat) (nx:Int) (h : -1≤nx∧nx<65536):Tr Tryz.prog 261 [.agg ⟨[.int .u64 (k.toNat:Int)]⟩,.int .i64 a,.int .i64 nx] [] (fun v K=>v=.int .u64 ((putL k a nx).toNat:Int)∧K=[]):=by
 refine Tr.of Ro48 rfl ?_
 repeat' (first|refine qN ?_|refine dN ?_|refine dR ?_|refine d0 ?_|refine rT ?_|refine qT ?_|refine qU ?_|refine qL ?_|refine qK ?_|refine iF (fun h=>?_) (fun h=>?_)|refine cP [] (mask_tr k a) ?_|refine S_Q [] rfl rfl (QY.cvIW rfl) ?_|refine S_Q [] rfl rfl (QY.orW (b:=6510516211317473280#64) rfl rfl) ?_|refine S_Q [] rfl rfl (QY.xorW rfl rfl) ?_|refine aA ?_|refine aI (hn:=?_)|refine sP 9 (fun h=>?_) (fun h=>?_)|refine sP 13 (fun h=>?_) (fun h=>?_)|refine qR ?_|refine qS ?_|exact ⟨rfl,rfl⟩|fail)
 all_goals (exfalso; omega)
theorem linkGet_tr (k w:BitVec 64) (a:Nat):Tr Tryz.prog 242 [.agg ⟨[.int .u64 (k.toNat:Int)]⟩,.int .i64 a,.int .u64 (w.toNat:Int)] [] (fun v K=>v=(match getL k w a with
  | some nx=>.tuple ⟨[.int .i64 nx,.bool true]⟩
  | none=>.tuple ⟨[.int .i64 0,.bool false]⟩)∧K=[]):=by
 unfold getL
 have hle:((w ^^^ mixW (k+BitVec.ofInt 64 a)) &&& 4294967295#64).toNat≤4294967295:=by
  rw [BitVec.toNat_and]; exact Nat.and_le_right
 refine Tr.of Ro47 rfl ?_
 repeat' (first|refine qN ?_|refine dN ?_|refine dR ?_|refine d0 ?_|refine rT ?_|refine qT ?_|refine qU ?_|refine qL ?_|refine qK ?_|refine iF (fun h=>?_) (fun h=>?_)|refine cP [] (mask_tr k a) ?_|refine S_Q [] rfl rfl (QY.xorW rfl rfl) ?_|refine S_Q [] rfl rfl (QY.andNotW (b:=4294967295#64) rfl rfl) ?_|refine S_Q [] rfl rfl (QY.andW (b:=4294967295#64) rfl rfl) ?_|refine S_Q [] rfl rfl (QY.cvi rfl (m:=(((w ^^^ mixW (k+BitVec.ofInt 64 a)) &&& 4294967295#64).toNat:Int)) (wrap64_id (by omega) (by omega))) ?_|refine aS ?_|refine aK ?_|refine aI (hn:=?_)|refine sP 19 (fun h=>?_) (fun h=>?_)|refine qR ?_|refine qS ?_|exact ⟨rfl,rfl⟩|fail)
 ·refine ⟨?_,rfl⟩
  simp only
  rw [if_neg (by omega)]; rfl
 ·refine ⟨?_,rfl⟩
  simp only
  rw [if_neg (by omega)]; rfl
 ·refine ⟨?_,rfl⟩
  simp only
  rw [if_pos (by omega)]; rfl
theorem getL_bd {k w:BitVec 64} {a:Nat} {nx:Int} (h:getL k w a=some nx) : -1≤nx∧nx<2147483648:=by
 unfold getL at h
 simp only at h
 split at h
 ·cases h; omega
 ·cases h
theorem has1_tr (w:BitVec 64) (n:Nat) (hn:n≤64) (i:Nat) (h:i<n):Tr Tryz.prog 111 [ptr 0,.int .i64 i] (BS [w] n) (fun v K=>v=.bool (w.getLsbD i)∧K=BS [w] n):=by
 have:=bsHas_ok [w] n (by omega) (by simpa using hn) i h
 rw [bitAt1 w (by omega)] at this
 exact this
theorem put1_tr (w:BitVec 64) (n:Nat) (hn:n≤64) (i:Nat) (h:i<n) (v:Bool):Tr Tryz.prog 199 [ptr 0,.int .i64 i,.bool v] (BS [w] n) (fun u K=>u=.int .i64 0∧K=BS [putW w i v] n):=by
 have:=bsPut_ok [w] n (by omega) (by simpa using hn) i h v
 rw [putW_eq w (by omega)] at this
 exact this
def PSL (key:BitVec 64) (N:Nat) (bs:Bytes) (n:Nat) (t:PS):LH:=[.cells 0 [slB 1 N],BL bs,.cells 0 [ptr 0,.int .u64 (key.toNat:Int),.int .i64 t.pg,.int .i64 t.c,.int .i64 t.ow,ptr 3,ptr 5,.int .i64 t.f],.cells 0 [slB 4 1,.int .i64 n],.gro 1 (rowsC wordC [t.lw]),.cells 0 [slB 6 1,.int .i64 n],.gro 1 (rowsC wordC [t.hw])]
section
variable (key:BitVec 64) (N:Nat) (bs:Bytes) (hl:bs.length=N) {z n:Nat} (t:PS)
theorem sbase_ok (h:t.Ok N z n) (k:Nat) (hk:k<n):Tr Tryz.prog 198 [ptr 2,.int .i64 k] (PSL key N bs n t) (fun v K=>v=.int .i64 (baseN t.pg z k)∧K=PSL key N bs n t):=by
 have hp:=h.pg
 have hN:=h.N
 refine Tr.of Ro99 rfl ?_
 repeat' (first|refine qN ?_|refine dN ?_|refine dR ?_|refine d0 ?_|refine rT ?_|refine cP [] (Base_ok h.cls t.pg k (by omega) hk) ?_|refine aI (hn:=?_)|refine qR ?_|refine qS ?_|exact ⟨rfl,rfl⟩|fail)
theorem sbase_tr (h:t.Ok N z n) (k:Int):Tr Tryz.prog 198 [ptr 2,.int .i64 k] (PSL key N bs n t) (fun v K=>v=.int .i64 (baseI t.pg z n k)∧K=PSL key N bs n t):=by
 have hp:=h.pg
 have hN:=h.N
 refine Tr.of Ro99 rfl ?_
 repeat' (first|refine qN ?_|refine dN ?_|refine dR ?_|refine d0 ?_|refine rT ?_|refine cP [] (Base_tr h.cls t.pg k (by omega)) ?_|refine aI (hn:=?_)|refine qR ?_|refine qS ?_|exact ⟨rfl,rfl⟩|fail)
theorem sPage_tr:Tr Tryz.prog 112 [ptr 2] (PSL key N bs n t) (fun v K=>v=.int .i64 t.pg∧K=PSL key N bs n t):=by
 refine Tr.of Ro96 rfl ?_
 repeat' (first|refine qN ?_|refine dN ?_|refine dR ?_|refine d0 ?_|refine rT ?_|refine qT ?_|refine qU ?_|refine qL ?_|refine qK ?_|refine iF (fun h=>?_) (fun h=>?_)|refine aI (hn:=?_)|refine qR ?_|refine qS ?_|exact ⟨rfl,rfl⟩|fail)
theorem sClass_tr:Tr Tryz.prog 61 [ptr 2] (PSL key N bs n t) (fun v K=>v=.int .i64 t.c∧K=PSL key N bs n t):=by
 refine Tr.of Ro91 rfl ?_
 repeat' (first|refine qN ?_|refine dN ?_|refine dR ?_|refine d0 ?_|refine rT ?_|refine qT ?_|refine qU ?_|refine qL ?_|refine qK ?_|refine iF (fun h=>?_) (fun h=>?_)|refine aI (hn:=?_)|refine qR ?_|refine qS ?_|exact ⟨rfl,rfl⟩|fail)
theorem sOwner_tr:Tr Tryz.prog 148 [ptr 2] (PSL key N bs n t) (fun v K=>v=.int .i64 t.ow∧K=PSL key N bs n t):=by
 refine Tr.of Ro95 rfl ?_
 repeat' (first|refine qN ?_|refine dN ?_|refine dR ?_|refine d0 ?_|refine rT ?_|refine qT ?_|refine qU ?_|refine qL ?_|refine qK ?_|refine iF (fun h=>?_) (fun h=>?_)|refine aI (hn:=?_)|refine qR ?_|refine qS ?_|exact ⟨rfl,rfl⟩|fail)
theorem sState_tr (h:t.Ok N z n) (k:Int):Tr Tryz.prog 62 [ptr 2,.int .i64 k] (PSL key N bs n t) (fun v K=>v=.int .i64 (t.stI n k)∧K=PSL key N bs n t):=by
 have hb:=h.cls.bd
 have hL:=bsLen_tr [t.lw] n
 by_cases hk:k<0∨(n:Int)≤k
 ·rw [show t.stI n k = -1 by unfold PS.stI; rw [if_pos hk]]
  refine Tr.of Ro97 rfl ?_
  repeat' (first|refine qN ?_|refine dN ?_|refine dR ?_|refine d0 ?_|refine qB ?_|refine rT ?_|refine qT ?_|refine qU ?_|refine qL ?_|refine qK ?_|refine iF (fun h=>?_) (fun h=>?_)|refine cP [3,4] (hL) ?_|refine aI (hn:=?_)|refine sP 8 (fun h=>?_) (fun h=>?_)|refine sP 12 (fun h=>?_) (fun h=>?_)|refine qR ?_|refine qS ?_|exact ⟨rfl,rfl⟩|fail)
  all_goals (exfalso; omega)
 ·obtain ⟨i,rfl⟩:=Int.eq_ofNat_of_zero_le (show 0≤k by omega)
  rw [show t.stI n i=t.st i by unfold PS.stI; rw [if_neg hk,Int.toNat_natCast]]
  have h1:=has1_tr t.lw n (by omega) i (by omega)
  have h2:=has1_tr t.hw n (by omega) i (by omega)
  unfold PS.st
  cases e1:t.lw.getLsbD i <;> rw [e1] at h1
  ·cases e2:t.hw.getLsbD i <;> rw [e2] at h2
   ·refine Tr.of Ro97 rfl ?_
    repeat' (first|refine qN ?_|refine dN ?_|refine dR ?_|refine d0 ?_|refine qB ?_|refine rT ?_|refine qT ?_|refine qU ?_|refine qL ?_|refine qK ?_|refine iF (fun h=>?_) (fun h=>?_)|refine cP [3,4] (hL) ?_|refine cP [3,4] (h1) ?_|refine cP [5,6] (h2) ?_|refine aI (hn:=?_)|refine sP 8 (fun h=>?_) (fun h=>?_)|refine sP 12 (fun h=>?_) (fun h=>?_)|refine qR ?_|refine qS ?_|exact ⟨rfl,rfl⟩|fail)
    all_goals (exfalso; omega)
   ·refine Tr.of Ro97 rfl ?_
    repeat' (first|refine qN ?_|refine dN ?_|refine dR ?_|refine d0 ?_|refine qB ?_|refine rT ?_|refine qT ?_|refine qU ?_|refine qL ?_|refine qK ?_|refine iF (fun h=>?_) (fun h=>?_)|refine cP [3,4] (hL) ?_|refine cP [3,4] (h1) ?_|refine cP [5,6] (h2) ?_|refine aI (hn:=?_)|refine sP 8 (fun h=>?_) (fun h=>?_)|refine sP 12 (fun h=>?_) (fun h=>?_)|refine qR ?_|refine qS ?_|exact ⟨rfl,rfl⟩|fail)
    all_goals (exfalso; omega)
  ·refine Tr.of Ro97 rfl ?_
   repeat' (first|refine qN ?_|refine dN ?_|refine dR ?_|refine d0 ?_|refine qB ?_|refine rT ?_|refine qT ?_|refine qU ?_|refine qL ?_|refine qK ?_|refine iF (fun h=>?_) (fun h=>?_)|refine cP [3,4] (hL) ?_|refine cP [3,4] (h1) ?_|refine aI (hn:=?_)|refine sP 8 (fun h=>?_) (fun h=>?_)|refine sP 12 (fun h=>?_) (fun h=>?_)|refine qR ?_|refine qS ?_|exact ⟨rfl,rfl⟩|fail)
   all_goals (exfalso; omega)
theorem sCount_tr (h:t.Ok N z n) (s:Int):Tr Tryz.prog 210 [ptr 2,.int .i64 s] (PSL key N bs n t) (fun v K=>v=.int .i64 (cntS t s n)∧K=PSL key N bs n t):=by
 have hb:=h.cls.bd
 have hL:=bsLen_tr [t.lw] n
 have hS:∀ k:Nat,k<n→Tr Tryz.prog 62 [ptr 2,.int .i64 k] (PSL key N bs n t) (fun v K=>v=.int .i64 (t.st k)∧K=PSL key N bs n t):=fun k hk=>by
  have:=sState_tr key N bs t h k
  rw [show t.stI n k=t.st k by unfold PS.stI; rw [if_neg (by omega),Int.toNat_natCast]] at this
  exact this
 refine Tr.of Ro92 rfl ?_
 repeat' (first|refine qN ?_|refine dN ?_|refine dR ?_|refine d0 ?_|refine qB ?_|refine rT ?_|refine qT ?_|refine qU ?_|refine qL ?_|refine qK ?_|refine qF ?_|refine qE ?_|refine iF (fun h=>?_) (fun h=>?_)|refine cP [3,4] (hL) ?_|refine aA ?_|refine aI (hn:=?_)|refine qR ?_|refine qS ?_|exact ⟨rfl,rfl⟩|fail)
 refine LWp.pick [0,1,5,13,14] [0,1,2,3,4,5,6] rfl rfl rfl (L_loop (fun q l K=>∃ k:Nat,q=n-k∧k≤n∧l=[(0,ptr 2),(1,.int .i64 s),(5,.int .i64 (cntS t s k)),(13,.int .i64 n),(14,.int .i64 k)]∧K=PSL key N bs n t) n ⟨0,rfl,by omega,rfl,rfl⟩ ?_)
 rintro q _ _ ⟨k,rfl,hk,rfl,rfl⟩
 first|refine L_seq (L_rs (S_done [] rfl (Nx.goL (iF (fun h=>L_skip (Nx.goL ?_)) (fun h=>L_exit ?_)))))|refine L_rs (S_done [] rfl (Nx.goL (L_seq (iF (fun h=>L_skip (Nx.goL ?_)) (fun h=>L_exit ?_)))))
 ·have hk2:k<n:=by omega
  have hc:=cntS_le t s k
  have hS:=hS k hk2
  by_cases e:t.st k=s
  ·repeat' (first|refine qN ?_|refine dN ?_|refine dR ?_|refine d0 ?_|refine qB ?_|refine rT ?_|refine qT ?_|refine qU ?_|refine qL ?_|refine qK ?_|refine qF ?_|refine qE ?_|refine iF (fun h=>?_) (fun h=>?_)|refine cP [0,1,2,3,4,5,6] (hS) ?_|refine aA ?_|refine aI (hn:=?_)|refine qR ?_|refine qS ?_|exact ⟨rfl,rfl⟩|fail)
   all_goals first | (exfalso; omega)|exact Nx.pick [0,1,5,13,14] [0,1,2,3,4,5,6] rfl rfl rfl ⟨n-(k+1),by omega,k+1,rfl,by omega,by simp only [cntS]; rw [if_pos e]; rfl,rfl⟩
  ·repeat' (first|refine qN ?_|refine dN ?_|refine dR ?_|refine d0 ?_|refine qB ?_|refine rT ?_|refine qT ?_|refine qU ?_|refine qL ?_|refine qK ?_|refine qF ?_|refine qE ?_|refine iF (fun h=>?_) (fun h=>?_)|refine cP [0,1,2,3,4,5,6] (hS) ?_|refine aA ?_|refine aI (hn:=?_)|refine qR ?_|refine qS ?_|exact ⟨rfl,rfl⟩|fail)
   all_goals first | (exfalso; omega)|exact Nx.pick [0,1,5,13,14] [0,1,2,3,4,5,6] rfl rfl rfl ⟨n-(k+1),by omega,k+1,rfl,by omega,by simp only [cntS]; rw [if_neg e]; rfl,rfl⟩
 ·obtain rfl:k=n:=by omega
  refine Nx.goL ?_
  repeat' (first|refine qN ?_|refine dN ?_|refine dR ?_|refine d0 ?_|refine qB ?_|refine rT ?_|refine qT ?_|refine qU ?_|refine qL ?_|refine qK ?_|refine qF ?_|refine qE ?_|refine iF (fun h=>?_) (fun h=>?_)|refine aA ?_|refine aI (hn:=?_)|refine qR ?_|refine qS ?_|exact ⟨rfl,rfl⟩|fail)
end
end Go.Proofs.YtblibdfcnplfhaaGreat
end
section
namespace Go.Proofs.YtblibdfcnplfhaaGreat
open Go Go.Tum Go.Tum.Base
set_option maxRecDepth 4000
theorem stI_at (t:PS) {n k:Nat} (hk:k<n):t.stI n k=t.st k:=by unfold PS.stI; rw [if_neg (by omega),Int.toNat_natCast]
theorem st_bd (t:PS) (k:Nat):t.st k=0∨t.st k=1∨t.st k=2:=by unfold PS.st; (repeat' split) <;> simp
theorem stI_bd (t:PS) (n:Nat) (k:Int) : -1≤t.stI n k∧t.stI n k≤2:=by
 unfold PS.stI; split
 ·omega
 ·rcases st_bd t k.toNat with h | h | h <;> omega
variable (key:BitVec 64) (N:Nat) (bs:Bytes) (hl:bs.length=N) {z n:Nat} (t:PS)
include hl
set_option maxHeartbeats 1000000 in
theorem sFollow_tr (h:t.Ok N z n) (k:Nat) (hk:k<n):Tr Tryz.prog 209 [ptr 2,.int .i64 (baseN t.pg z k)] (PSL key N bs n t) (fun v K=>v=.tuple ⟨[.int .i64 (folP key bs z n t k).1,.bool (folP key bs z n t k).2]⟩∧K=PSL key N bs n t):=by
 obtain ⟨b1,b2,b3,b4,b5,b6,b7⟩:=h.cls.base hk t.pg
 have hbd:=h.cls.bd
 have hp:=h.pg
 have hN:=h.N
 have hW:=aWord N bs hl hN (baseN t.pg z k) (by omega) (by omega)
 have hG:=linkGet_tr key (wordB bs (baseN t.pg z k)) (baseN t.pg z k)
 unfold folP
 generalize baseN t.pg z k=a at *
 cases e:getL key (wordB bs a) a with
 | none =>
  rw [e] at hG
  refine Tr.of Ro101 rfl ?_
  repeat' (first|refine qN ?_|refine dN ?_|refine dR ?_|refine d0 ?_|refine rT ?_|refine qT ?_|refine qU ?_|refine qL ?_|refine qK ?_|refine iF (fun h=>?_) (fun h=>?_)|refine cP [0,1] (hW) ?_|refine cP [] (hG) ?_|refine aI (hn:=?_)|refine sP 33 (fun h=>?_) (fun h=>?_)|refine sP 52 (fun h=>?_) (fun h=>?_)|refine sP 60 (fun h=>?_) (fun h=>?_)|refine sP 67 (fun h=>?_) (fun h=>?_)|refine qR ?_|refine qS ?_|exact ⟨rfl,rfl⟩|fail)
 | some nx =>
  have hnx:=getL_bd e
  rw [e] at hG
  have hS:=Slot_tr h.cls nx
  have hB:=sbase_tr key N bs t h (slotI z nx)
  have hSt:=sState_tr key N bs t h (slotI z nx)
  simp only
  by_cases e1:nx = -1
  ·subst e1
   rw [if_pos rfl]
   refine Tr.of Ro101 rfl ?_
   repeat' (first|refine qN ?_|refine dN ?_|refine dR ?_|refine d0 ?_|refine rT ?_|refine qT ?_|refine qU ?_|refine qL ?_|refine qK ?_|refine iF (fun h=>?_) (fun h=>?_)|refine cP [0,1] (hW) ?_|refine cP [] (hG) ?_|refine aI (hn:=?_)|refine sP 33 (fun h=>?_) (fun h=>?_)|refine sP 52 (fun h=>?_) (fun h=>?_)|refine sP 60 (fun h=>?_) (fun h=>?_)|refine sP 67 (fun h=>?_) (fun h=>?_)|refine qR ?_|refine qS ?_|exact ⟨rfl,rfl⟩|fail)
  ·rw [if_neg e1]
   have b1:=stI_bd t n (slotI z nx)
   generalize t.stI n (slotI z nx)=u at *
   generalize baseI t.pg z n (slotI z nx)=b at *
   generalize pageI nx=pp at *
   refine Tr.of Ro101 rfl ?_
   repeat' (first|refine qN ?_|refine dN ?_|refine dR ?_|refine d0 ?_|refine rT ?_|refine qT ?_|refine qU ?_|refine qL ?_|refine qK ?_|refine iF (fun h=>?_) (fun h=>?_)|refine cP [0,1] (hW) ?_|refine cP [] (hG) ?_|refine cP [] (hS) ?_|refine cP [0,1,2,3,4,5,6] (hB) ?_|refine cP [0,1,2,3,4,5,6] (hSt) ?_|refine aI (hn:=?_)|refine sP 33 (fun h=>?_) (fun h=>?_)|refine sP 52 (fun h=>?_) (fun h=>?_)|refine sP 60 (fun h=>?_) (fun h=>?_)|refine sP 67 (fun h=>?_) (fun h=>?_)|refine qR ?_|refine qS ?_|exact ⟨rfl,rfl⟩|fail)
   all_goals first | (exfalso; omega)|(refine ⟨VT2 rfl ?_,rfl⟩; first | (symm; rw [decide_eq_false_iff_not]; omega) | (rw [Bool.eq_iff_iff,decide_eq_true_eq,beq_iff_eq]; omega))
theorem sJoin_tr (h:t.Ok N z n) (k:Nat) (hk:k<n):Tr Tryz.prog 247 [ptr 2,.int .i64 k] (PSL key N bs n t) (fun v K=>v=.tuple ⟨[]⟩∧K=PSL key N (joinP key bs z t k) n { t with f:=baseN t.pg z k }):=by
 obtain ⟨b1,b2,b3,b4,b5,b6,b7⟩:=h.cls.base hk t.pg
 have hbd:=h.cls.bd
 have hp:=h.pg
 have hN:=h.N
 have hB:=sbase_ok key N bs t h k hk
 have hP:=linkPut_tr key (baseN t.pg z k) t.f h.f
 have hS:=aSet N bs hl hN (baseN t.pg z k) (by omega) (by omega) (putL key (baseN t.pg z k) t.f)
 unfold joinP
 generalize baseN t.pg z k=a at *
 refine Tr.of Ro102 rfl ?_
 repeat' (first|refine qN ?_|refine dN ?_|refine dR ?_|refine d0 ?_|refine rT ?_|refine cP [0,1,2,3,4,5,6] (hB) ?_|refine cP [] (hP) ?_|(refine cF [0,1] (hS) ?_; conv=>whnf)|refine aI (hn:=?_)|refine qR ?_|refine qS ?_|exact ⟨rfl,rfl⟩|fail)
theorem sCanary_tr (h:t.Ok N z n) (k:Nat) (hk:k<n):Tr Tryz.prog 211 [ptr 2,.int .i64 k] (PSL key N bs n t) (fun v K=>v=.tuple ⟨[.int .i64 (baseN t.pg z k+z-8:Nat),.int .u64 ((canW key (baseN t.pg z k)).toNat:Int)]⟩∧K=PSL key N bs n t):=by
 obtain ⟨b1,b2,b3,b4,b5,b6,b7⟩:=h.cls.base hk t.pg
 have hbd:=h.cls.bd
 have hp:=h.pg
 have hN:=h.N
 have hB:=sbase_ok key N bs t h k hk
 have hR:=Room_tr t.c
 rw [h.cls.size,show max ((z:Int)-8) 0=((z-8:Nat):Int) by omega] at hR
 have hC:=Canary_tr key (baseN t.pg z k)
 generalize baseN t.pg z k=a at *
 refine Tr.of Ro100 rfl ?_
 repeat' (first|refine qN ?_|refine dN ?_|refine dR ?_|refine d0 ?_|refine rT ?_|refine cP [0,1,2,3,4,5,6] (hB) ?_|refine cP [] (hR) ?_|refine cP [] (hC) ?_|refine S_Q [] rfl rfl (QY.add (c:=((a+z-8:Nat):Int)) rfl rfl (by omega) (by omega) (by omega)) ?_|refine aA ?_|refine aI (hn:=?_)|refine qR ?_|refine qS ?_|exact ⟨rfl,rfl⟩|fail)
omit hl in
theorem sMust_tr (h:t.Ok N z n) (k s:Int):Tr Tryz.prog 196 [ptr 2,.int .i64 k,.int .i64 s] (PSL key N bs n t) (fun v K=>v=.int .i64 (if t.stI n k = -1 then 3 else if t.stI n k=s then 0 else 8)∧K=PSL key N bs n t):=by
 have hS:=sState_tr key N bs t h k
 have hb:=stI_bd t n k
 generalize t.stI n k=u at *
 by_cases h1:u = -1
 ·rw [if_pos h1]
  refine Tr.of Ro103 rfl ?_
  repeat' (first|refine qN ?_|refine dN ?_|refine dR ?_|refine d0 ?_|refine qB ?_|refine rT ?_|refine qT ?_|refine qU ?_|refine qL ?_|refine qK ?_|refine iF (fun h=>?_) (fun h=>?_)|refine cP [0,1,2,3,4,5,6] (hS) ?_|refine aI (hn:=?_)|refine qR ?_|refine qS ?_|exact ⟨rfl,rfl⟩|fail)
  all_goals (exfalso; omega)
 ·rw [if_neg h1]
  by_cases h2:u=s
  ·rw [if_pos h2]
   refine Tr.of Ro103 rfl ?_
   repeat' (first|refine qN ?_|refine dN ?_|refine dR ?_|refine d0 ?_|refine qB ?_|refine rT ?_|refine qT ?_|refine qU ?_|refine qL ?_|refine qK ?_|refine iF (fun h=>?_) (fun h=>?_)|refine cP [0,1,2,3,4,5,6] (hS) ?_|refine aI (hn:=?_)|refine qR ?_|refine qS ?_|exact ⟨rfl,rfl⟩|fail)
   all_goals (exfalso; omega)
  ·rw [if_neg h2]
   refine Tr.of Ro103 rfl ?_
   repeat' (first|refine qN ?_|refine dN ?_|refine dR ?_|refine d0 ?_|refine qB ?_|refine rT ?_|refine qT ?_|refine qU ?_|refine qL ?_|refine qK ?_|refine iF (fun h=>?_) (fun h=>?_)|refine cP [0,1,2,3,4,5,6] (hS) ?_|refine aI (hn:=?_)|refine qR ?_|refine qS ?_|exact ⟨rfl,rfl⟩|fail)
   all_goals (exfalso; omega)
theorem sStands_tr (h:t.Ok N z n) (k:Nat) (hk:k<n):Tr Tryz.prog 167 [ptr 2,.int .i64 k] (PSL key N bs n t) (fun v K=>v=.bool (standsK key bs t.pg z k)∧K=PSL key N bs n t):=by
 obtain ⟨b1,b2,b3,b4,b5,b6,b7⟩:=h.cls.base hk t.pg
 have hbd:=h.cls.bd
 have hp:=h.pg
 have hN:=h.N
 have hC:=sCanary_tr key N bs hl t h k hk
 have hW:=aWord N bs hl hN (baseN t.pg z k+z-8) (by omega) (by omega)
 unfold standsK
 generalize baseN t.pg z k=a at *
 refine Tr.of Ro104 rfl ?_
 repeat' (first|refine qN ?_|refine dN ?_|refine dR ?_|refine d0 ?_|refine rT ?_|refine cP [0,1,2,3,4,5,6] (hC) ?_|refine cP [0,1] (hW) ?_|refine aI (hn:=?_)|refine sP 26 (fun h=>?_) (fun h=>?_)|refine qR ?_|refine qS ?_|exact ⟨rfl,rfl⟩|fail)
 refine ⟨congrArg Value.bool ?_,rfl⟩
 rw [Bool.eq_iff_iff,beq_iff_eq,decide_eq_true_eq]
 exact ⟨fun h=>BitVec.eq_of_toNat_eq (by omega),fun h=>by rw [h]⟩
omit hl in
theorem sTake_full (hf:t.f = -1):Tr Tryz.prog 251 [ptr 2] (PSL key N bs n t) (fun v K=>v=.tuple ⟨[.int .i64 0,.int .i64 5]⟩∧K=PSL key N bs n t):=by
 unfold PSL
 rw [hf]
 refine Tr.of Ro98 rfl ?_
 repeat' (first|refine qN ?_|refine dN ?_|refine dR ?_|refine d0 ?_|refine qB ?_|refine rT ?_|refine qT ?_|refine qU ?_|refine qL ?_|refine qK ?_|refine iF (fun h=>?_) (fun h=>?_)|refine aI (hn:=?_)|refine qR ?_|refine qS ?_|exact ⟨rfl,rfl⟩|fail)
theorem sTake_form (h:t.Ok N z n) (k:Nat) (hk:k<n) (hf:t.f=baseN t.pg z k) (hx:(folP key bs z n t k).2=false):Tr Tryz.prog 251 [ptr 2] (PSL key N bs n t) (fun v K=>v=.tuple ⟨[.int .i64 0,.int .i64 4]⟩∧K=PSL key N bs n t):=by
 have hF:=sFollow_tr key N bs hl t h k hk
 rw [hx,← hf] at hF
 refine Tr.of Ro98 rfl ?_
 repeat' (first|refine qN ?_|refine dN ?_|refine dR ?_|refine d0 ?_|refine qB ?_|refine rT ?_|refine qT ?_|refine qU ?_|refine qL ?_|refine qK ?_|refine iF (fun h=>?_) (fun h=>?_)|refine cP [0,1,2,3,4,5,6] (hF) ?_|refine aI (hn:=?_)|refine qR ?_|refine qS ?_|exact ⟨rfl,rfl⟩|fail)
 all_goals (exfalso; omega)
set_option maxHeartbeats 2000000 in
theorem sTake_ok (h:t.Ok N z n) (k:Nat) (hk:k<n) (hf:t.f=baseN t.pg z k) (nx:Int) (hx:folP key bs z n t k=(nx,true)):Tr Tryz.prog 251 [ptr 2] (PSL key N bs n t) (fun v K=>v=.tuple ⟨[.int .i64 k,.int .i64 0]⟩∧K=PSL key N (tookB key bs t.pg z k) n { t with lw:=putW t.lw k true,f:=nx }):=by
 obtain ⟨b1,b2,b3,b4,b5,b6,b7⟩:=h.cls.base hk t.pg
 have hbd:=h.cls.bd
 have hp:=h.pg
 have hN:=h.N
 have hF:=sFollow_tr key N bs hl t h k hk
 rw [hx] at hF
 have hS:=Slot_tr h.cls (baseN t.pg z k:Nat)
 rw [(h.cls.slotI hk (by omega)).1,(h.cls.slotI hk (by omega)).2] at hS
 have hR:=Room_tr t.c
 rw [h.cls.size,show max ((z:Int)-8) 0=((z-8:Nat):Int) by omega] at hR
 have hl1:(overB bs (baseN t.pg z k) (List.replicate (z-8) 0)).length=N:=by rw [overB_length (by rw [List.length_replicate]; omega),hl]
 have hFi:=aFill N bs hl hN (baseN t.pg z k) (z-8) 0 (by omega)
 have hC:=sCanary_tr key N (overB bs (baseN t.pg z k) (List.replicate (z-8) 0)) hl1 t h k hk
 have hSW:=aSet N (overB bs (baseN t.pg z k) (List.replicate (z-8) 0)) hl1 hN (baseN t.pg z k+z-8) (by omega) (by omega) (canW key (baseN t.pg z k))
 have hPu:=put1_tr t.lw n (by omega) k hk true
 unfold tookB
 obtain ⟨pg,c,ow,lw,hw,f⟩:=t
 simp only at hf
 subst hf
 simp only at *
 generalize baseN pg z k=a at *
 generalize overB bs a (List.replicate (z-8) 0)=bs1 at *
 unfold PSL at hF hC ⊢
 refine Tr.of Ro98 rfl ?_
 repeat' (first|refine qN ?_|refine dN ?_|refine dR ?_|refine d0 ?_|refine qB ?_|refine rT ?_|refine qT ?_|refine qU ?_|refine qL ?_|refine qK ?_|refine iF (fun h=>?_) (fun h=>?_)|refine cP [0,1,2,3,4,5,6] (hF) ?_|refine cP [] (hS) ?_|refine cP [] (hR) ?_|(refine cF [0,1] (hFi) ?_; conv=>whnf)|refine cP [0,1,2,3,4,5,6] (hC) ?_|(refine cF [0,1] (hSW) ?_; conv=>whnf)|(refine cF [3,4] (hPu) ?_; conv=>whnf)|refine aI (hn:=?_)|refine qR ?_|refine qS ?_|exact ⟨rfl,rfl⟩|fail)
theorem sDrop_no (h:t.Ok N z n) (k:Int) (hs:t.stI n k≠1):Tr Tryz.prog 150 [ptr 2,.int .i64 k] (PSL key N bs n t) (fun v K=>v=.tuple ⟨[.bool false,.int .i64 (if t.stI n k = -1 then 3 else 8)]⟩∧K=PSL key N bs n t):=by
 have hM:=sMust_tr key N bs t h k 1
 rw [if_neg hs] at hM
 have hne:(if t.stI n k = -1 then (3:Int) else 8)≠0:=by split <;> decide
 generalize (if t.stI n k = -1 then (3:Int) else 8)=e at *
 refine Tr.of Ro93 rfl ?_
 repeat' (first|refine qN ?_|refine dN ?_|refine dR ?_|refine d0 ?_|refine rT ?_|refine qT ?_|refine qU ?_|refine qL ?_|refine qK ?_|refine iF (fun h=>?_) (fun h=>?_)|refine cP [0,1,2,3,4,5,6] (hM) ?_|refine aI (hn:=?_)|refine qR ?_|refine qS ?_|exact ⟨rfl,rfl⟩|fail)
 all_goals (exfalso; omega)
set_option maxHeartbeats 2000000 in
theorem sDrop_ok (h:t.Ok N z n) (k:Nat) (hk:k<n) (hs:t.st k=1):Tr Tryz.prog 150 [ptr 2,.int .i64 k] (PSL key N bs n t) (fun v K=>v=.tuple ⟨[.bool (standsK key bs t.pg z k),.int .i64 0]⟩∧K=PSL key N (dropB bs t.pg z k) n { t with lw:=putW t.lw k false,hw:=putW t.hw k true }):=by
 obtain ⟨b1,b2,b3,b4,b5,b6,b7⟩:=h.cls.base hk t.pg
 have hbd:=h.cls.bd
 have hp:=h.pg
 have hN:=h.N
 have hM:=sMust_tr key N bs t h k 1
 rw [stI_at t hk,hs,if_neg (by decide),if_pos rfl] at hM
 have hSt:=sStands_tr key N bs hl t h k hk
 have hB:=sbase_ok key N bs t h k hk
 have hZ:=Size_tr t.c
 rw [h.cls.size] at hZ
 have hFi:=aFill N bs hl hN (baseN t.pg z k) z 0xDD#8 (by omega)
 have hPu:=put1_tr t.lw n (by omega) k hk false
 have hPv:=put1_tr t.hw n (by omega) k hk true
 unfold dropB
 obtain ⟨pg,c,ow,lw,hw,f⟩:=t
 simp only at *
 generalize baseN pg z k=a at *
 unfold PSL at hM hSt hB ⊢
 refine Tr.of Ro93 rfl ?_
 repeat' (first|refine qN ?_|refine dN ?_|refine dR ?_|refine d0 ?_|refine rT ?_|refine qT ?_|refine qU ?_|refine qL ?_|refine qK ?_|refine iF (fun h=>?_) (fun h=>?_)|refine cP [0,1,2,3,4,5,6] (hM) ?_|refine cP [0,1,2,3,4,5,6] (hSt) ?_|refine cP [0,1,2,3,4,5,6] (hB) ?_|refine cP [] (hZ) ?_|(refine cF [0,1] (hFi) ?_; conv=>whnf)|(refine cF [3,4] (hPu) ?_; conv=>whnf)|(refine cF [5,6] (hPv) ?_; conv=>whnf)|refine aI (hn:=?_)|refine qR ?_|refine qS ?_|exact ⟨rfl,rfl⟩|fail)
theorem sGive_no (h:t.Ok N z n) (k:Int) (hs:t.stI n k≠2):Tr Tryz.prog 217 [ptr 2,.int .i64 k] (PSL key N bs n t) (fun v K=>v=.int .i64 (if t.stI n k = -1 then 3 else 8)∧K=PSL key N bs n t):=by
 have hM:=sMust_tr key N bs t h k 2
 rw [if_neg hs] at hM
 have hne:(if t.stI n k = -1 then (3:Int) else 8)≠0:=by split <;> decide
 generalize (if t.stI n k = -1 then (3:Int) else 8)=e at *
 refine Tr.of Ro94 rfl ?_
 repeat' (first|refine qN ?_|refine dN ?_|refine dR ?_|refine d0 ?_|refine rT ?_|refine qT ?_|refine qU ?_|refine qL ?_|refine qK ?_|refine iF (fun h=>?_) (fun h=>?_)|refine cP [0,1,2,3,4,5,6] (hM) ?_|refine aI (hn:=?_)|refine qR ?_|refine qS ?_|exact ⟨rfl,rfl⟩|fail)
 all_goals (exfalso; omega)
set_option maxHeartbeats 2000000 in
theorem sGive_ok (h:t.Ok N z n) (k:Nat) (hk:k<n) (hs:t.st k=2):Tr Tryz.prog 217 [ptr 2,.int .i64 k] (PSL key N bs n t) (fun v K=>v=.int .i64 0∧K=PSL key N (joinP key bs z t k) n { t with hw:=putW t.hw k false,f:=baseN t.pg z k }):=by
 have hbd:=h.cls.bd
 have hM:=sMust_tr key N bs t h k 2
 rw [stI_at t hk,hs,if_neg (by decide),if_pos rfl] at hM
 have hPv:=put1_tr t.hw n (by omega) k hk false
 have hJ:=sJoin_tr key N bs hl { t with hw:=putW t.hw k false } ⟨h.cls,h.pg,h.f,h.N⟩ k hk
 unfold joinP at hJ ⊢
 obtain ⟨pg,c,ow,lw,hw,f⟩:=t
 simp only at *
 unfold PSL at hM hJ ⊢
 refine Tr.of Ro94 rfl ?_
 repeat' (first|refine qN ?_|refine dN ?_|refine dR ?_|refine d0 ?_|refine rT ?_|refine qT ?_|refine qU ?_|refine qL ?_|refine qK ?_|refine iF (fun h=>?_) (fun h=>?_)|refine cP [0,1,2,3,4,5,6] (hM) ?_|(refine cF [5,6] (hPv) ?_; conv=>whnf)|(refine cF [0,1,2,3,4,5,6] (hJ) ?_; conv=>whnf)|refine aI (hn:=?_)|refine qR ?_|refine qS ?_|exact ⟨rfl,rfl⟩|fail)
end Go.Proofs.YtblibdfcnplfhaaGreat
end
section
namespace Go.Proofs.YtblibdfcnplfhaaGreat
open Go Go.Tum Go.Tum.Base
set_option maxRecDepth 4000
def newPS (key:BitVec 64) (bs:Bytes) (p:Nat) (c ow:Int) (z n j:Nat):PS:=⟨p,c,ow,0,0,(madeP key bs p z n j).2⟩
theorem newPS_ok {key:BitVec 64} {bs:Bytes} {p:Nat} {c ow:Int} {z n j N:Nat} (hc:Cls c z n) (hp:256*(p+1)≤N) (hN:N≤65536) (hj:j≤n):(newPS key bs p c ow z n j).Ok N z n:=by
 have:=madeP_f (key:=key) (bs:=bs) hc (show p<256 by omega) j hj
 exact ⟨hc,hp,this,hN⟩
theorem sBits (n:Nat) (h2:2≤n) (h16:n≤16):Tr Tryz.prog 269 [.int .i64 n] [] (fun v K=>v=ptr 0∧K=BS [0] n):=by
 have:=bsNew_tr n n (by omega)
 rw [show (n+63) / 64=1 by omega] at this
 exact this
set_option maxHeartbeats 2000000 in
theorem sMake_ok (key:BitVec 64) (N:Nat) (bs:Bytes) (hl:bs.length=N) (hN:N≤65536) {z n:Nat} {c:Int} (hc:Cls c z n) (p:Nat) (ow:Int) (hp:256*(p+1)≤N):Tr Tryz.prog 266 [ptr 0,.agg ⟨[.int .u64 (key.toNat:Int)]⟩,.int .i64 p,.int .i64 c,.int .i64 ow] (AN N bs) (fun v K=>v=.tuple ⟨[ptr 2,.int .i64 0]⟩∧K=PSL key N (madeP key bs p z n n).1 n (newPS key bs p c ow z n n)):=by
 have hb:=hc.bd
 have hS:=Slots_tr c
 rw [hc.slots] at hS
 have hA:=aLen N bs hl
 have hB:=sBits n (by omega) (by omega)
 refine Tr.of Ro90 rfl ?_
 repeat' (first|refine qN ?_|refine dN ?_|refine d0 ?_|refine qB ?_|refine qT ?_|refine qU ?_|refine qL ?_|refine qK ?_|refine qF ?_|refine qE ?_|refine iF (fun h=>?_) (fun h=>?_)|refine cP [] (hS) ?_|refine cP [0,1] (hA) ?_|refine S_Q [] rfl rfl (QY.divN (c:=((N / 256:Nat):Int)) rfl rfl (by omega) (by omega) (by omega)) ?_|(refine cF [] (hB) ?_; conv=>whnf)|refine aS ?_|refine aI (hn:=?_)|refine aD ?_|refine sP 23 (fun h=>?_) (fun h=>?_)|refine sP 27 (fun h=>?_) (fun h=>?_)|refine qR ?_|refine qS ?_|exact ⟨rfl,rfl⟩|fail)
 all_goals try (exfalso; omega)
 refine S_E [] rfl rfl (esafe_ok rfl) ?_
 rintro _ _ ⟨rfl,rfl⟩
 refine ⟨(by repeat' (first|exact trivial|refine ⟨⟨qsafe_ok (st:=[]) rfl,Sure.of rfl⟩,?_⟩|refine ⟨.inl rfl,?_⟩|refine ⟨.inr ⟨qsafe_ok (st:=[]) rfl,Sure.of rfl⟩,?_⟩|refine ⟨⟨qsafe_ok (st:=[]) rfl,Sure.slice (by omega)⟩,?_⟩|refine ⟨.inr ⟨qsafe_ok (st:=[]) rfl,Sure.slice (by omega)⟩,?_⟩|refine ⟨.inr ⟨QY.neqB rfl (by kernel_rfl) rfl rfl,Sure.of rfl⟩,?_⟩|refine ⟨.inr ⟨QY.eqlB rfl (by kernel_rfl) rfl rfl,Sure.of rfl⟩,?_⟩ | fail)),LSt.nf ?_⟩
 conv=>whnf
 repeat' (first|refine qN ?_|refine dN ?_|refine d0 ?_|refine qB ?_|refine qT ?_|refine qU ?_|refine qL ?_|refine qK ?_|refine qF ?_|refine qE ?_|refine iF (fun h=>?_) (fun h=>?_)|refine aS ?_|refine aI (hn:=?_)|refine aD ?_|refine sP 23 (fun h=>?_) (fun h=>?_)|refine sP 27 (fun h=>?_) (fun h=>?_)|refine qR ?_|refine qS ?_|exact ⟨rfl,rfl⟩|fail)
 refine LWp.pick [13,14] [0,1,7,3,4,5,6] rfl rfl rfl (L_loop (fun q l K=>∃ j:Nat,q=n-j∧j≤n∧l=[(13,ptr 2),(14,.int .i64 ((n:Int)-1-j))]∧K=PSL key N (madeP key bs p z n j).1 n (newPS key bs p c ow z n j)) n ⟨0,rfl,by omega,by rw [show (n:Int)-1-(0:Nat)=n-1 by omega]; rfl,rfl⟩ ?_)
 rintro q _ _ ⟨j,rfl,hj,rfl,rfl⟩
 first|refine L_seq (L_rs (S_done [] rfl (Nx.goL (iF (fun h=>L_skip (Nx.goL ?_)) (fun h=>L_exit ?_)))))|refine L_rs (S_done [] rfl (Nx.goL (L_seq (iF (fun h=>L_skip (Nx.goL ?_)) (fun h=>L_exit ?_)))))
 ·have hj2:j<n:=by omega
  have hJ:=sJoin_tr key N (madeP key bs p z n j).1 (by rw [madeP_len hc (by omega) j hj,hl]) (newPS key bs p c ow z n j) (newPS_ok hc hp hN hj) (n-1-j) (by omega)
  have hx:=madeP_f (key:=key) (bs:=bs) hc (show p<256 by omega) j hj
  rw [show ((n-1-j:Nat):Int)=(n:Int)-1-j by omega] at hJ
  repeat' (first|refine qN ?_|refine dN ?_|refine dR ?_|refine d0 ?_|refine qB ?_|refine rT ?_|refine qT ?_|refine qU ?_|refine qL ?_|refine qK ?_|refine qF ?_|refine qE ?_|refine iF (fun h=>?_) (fun h=>?_)|(refine cF [0,1,2,3,4,5,6] (hJ) ?_; conv=>whnf)|refine aS ?_|refine aI (hn:=?_)|refine aD ?_|refine sP 23 (fun h=>?_) (fun h=>?_)|refine sP 27 (fun h=>?_) (fun h=>?_)|refine qR ?_|refine qS ?_|exact ⟨rfl,rfl⟩|fail)
  exact Nx.pick [13,14] [0,1,2,3,4,5,6] rfl rfl rfl ⟨n-(j+1),by omega,j+1,rfl,by omega,by rw [show (n:Int)-1-((j+1:Nat):Int)=n-1-j-1 by omega]; rfl,rfl⟩
 ·obtain rfl:j=n:=by omega
  refine Nx.goL ?_
  repeat' (first|refine qN ?_|refine dN ?_|refine d0 ?_|refine qB ?_|refine qT ?_|refine qU ?_|refine qL ?_|refine qK ?_|refine qF ?_|refine qE ?_|refine iF (fun h=>?_) (fun h=>?_)|refine aS ?_|refine aI (hn:=?_)|refine aD ?_|refine sP 23 (fun h=>?_) (fun h=>?_)|refine sP 27 (fun h=>?_) (fun h=>?_)|refine qR ?_|refine qS ?_|exact ⟨rfl,rfl⟩|fail)
  exact L_ret (RetQ.pick [0,1,2,3,4,5,6] rfl rfl rfl rfl ⟨rfl,rfl⟩)
end Go.Proofs.YtblibdfcnplfhaaGreat
end
section
namespace Go.Tum.Base
open Go Go.Tum
theorem plain_int {k:IntKind} {n:Int}:Plain (.int k n):=fun _ _ _ h=>h
theorem V1s_go {vs:List Value} (h:∀ v∈vs,∀ (E E':Emb) (v2:Value),V1 E v v2→V1 E' v v2) (E E':Emb):∀ vs':List Value,L2 (V1 E) vs vs'→L2 (V1 E') vs vs':=by
 induction vs with
 | nil=>intro vs' h; cases vs' <;> exact h
 | cons a r ih=>intro vs' h'; cases vs' with
  | nil=>exact h'
  | cons b s=>exact ⟨h a (List.mem_cons_self ..) _ _ _ h'.1,ih (fun v hv=>h v (List.mem_cons_of_mem _ hv)) s h'.2⟩
theorem plain_tup {vs:List Value} (h:∀ v∈vs,∀ (E E':Emb) (v':Value),V1 E v v'→V1 E' v v'):Plain (.tuple ⟨vs⟩):=fun E E' v' ⟨vs',h1,h2⟩=>⟨vs',h1,V1s_go h E E' vs' h2⟩
theorem plain_tup2 {k k':IntKind} {n m:Int}:Plain (.tuple ⟨[.int k n,.int k' m]⟩):=plain_tup (by intro v hv; simp at hv; rcases hv with rfl | rfl <;> exact fun _ _ _ h=>h)
theorem plain_tupb {k':IntKind} {n:Bool} {m:Int}:Plain (.tuple ⟨[.bool n,.int k' m]⟩):=plain_tup (by intro v hv; simp at hv; rcases hv with rfl | rfl <;> exact fun _ _ _ h=>h)
theorem SRs_go {vs:List Value} (h:∀ v∈vs,∀ (E E':Emb) (v':Value),SR E v v'→SR E' v v') (E E':Emb):∀ vs':List Value,L2 (SR E) vs vs'→L2 (SR E') vs vs':=by
 induction vs with
 | nil=>intro vs' h; cases vs' <;> exact h
 | cons a r ih=>intro vs' h'; cases vs' with
  | nil=>exact h'
  | cons b s=>exact ⟨h a (List.mem_cons_self ..) _ _ _ h'.1,ih (fun v hv=>h v (List.mem_cons_of_mem _ hv)) s h'.2⟩
theorem plain_agg {vs:List Value} (h:∀ v∈vs,∀ (E E':Emb) (v':Value),SR E v v'→SR E' v v'):Plain (.agg ⟨vs⟩):=fun E E' v' ⟨vs',h1,h2⟩=>⟨vs',h1,SRs_go h E E' vs' h2⟩
theorem plain_key {k:IntKind} {n:Int}:Plain (.agg ⟨[.int k n]⟩):=plain_agg (by intro v hv; simp at hv; subst hv; exact fun _ _ _ h=>h)
theorem plain1 {v:Value} (h:Plain v):∀ u∈[v],Plain u:=by simpa using h
theorem plain0:∀ u∈([]:List Value),Plain u:=by simp
theorem plain2 {v v':Value} (h:Plain v) (h':Plain v'):∀ u∈[v,v'],Plain u:=by simpa using ⟨h,h'⟩
abbrev RA:=Nat × Nat × Nat
structure SE where
 e0:RA
 e1:RA
 e2:RA
 e3:RA
 e4:RA
 bn:Nat
 t:PS
def SE.em (x:SE):Emb:=[x.e0,x.e1,x.e2,x.e3,x.e4]
abbrev SEs:=List SE
end Go.Tum.Base
namespace Go.Proofs.YtblibdfcnplfhaaGreat
open Go Go.Tum Go.Tum.Base
set_option maxRecDepth 4000
theorem Self.AN (N:Nat) (bs:Bytes):Self (AN N bs):=by
 intro i x hx ea em w r hl
 match i,hx with
 | 0,hx=>cases hx; exact Self.cellsB (a:=2) (by intro v hv; rw [List.mem_singleton] at hv; subst hv; exact SelfV.sl (by decide)) ea em w r hl
 | 1,hx=>cases hx; exact Iff.rfl
def PSt (key:BitVec 64) (n:Nat) (t:PS):LH:=[.cells 0 [ptr 0,.int .u64 (key.toNat:Int),.int .i64 t.pg,.int .i64 t.c,.int .i64 t.ow,ptr 3,ptr 5,.int .i64 t.f],.cells 0 [slB 4 1,.int .i64 n],.gro 1 (rowsC wordC [t.lw]),.cells 0 [slB 6 1,.int .i64 n],.gro 1 (rowsC wordC [t.hw])]
def PSr (a:RA) (key:BitVec 64) (n:Nat) (t:PS):LH:=[.cells 0 [adR a 0,.int .u64 (key.toNat:Int),.int .i64 t.pg,.int .i64 t.c,.int .i64 t.ow,ptr 1,ptr 3,.int .i64 t.f],.cells 0 [slB 2 1,.int .i64 n],.gro 1 (rowsC wordC [t.lw]),.cells 0 [slB 4 1,.int .i64 n],.gro 1 (rowsC wordC [t.hw])]
theorem PSr.up (a b:RA) (key:BitVec 64) (n:Nat) (t:PS):UpL [a,b] (PSr a key n t) (PSt key n t) :=
 ⟨.cells ⟨Up.adR rfl,Up.int,Up.int,Up.int,Up.int,Up.ptr rfl,Up.ptr rfl,Up.int,trivial⟩,.cells ⟨Up.sl rfl,Up.int,trivial⟩,.gro,.cells ⟨Up.sl rfl,Up.int,trivial⟩,.gro,trivial⟩
def memS (x:SE) (a:RA) (key:BitVec 64):Mem:=(x.em,PSr a key (nC x.t.c) x.t)
def crowdS (a:RA) (key:BitVec 64) (sl:SEs):LB:=crowd (sl.map fun x=>memS x a key)
theorem set_perm {α:Type}:∀ {l:List α} {i:Nat} {x:α} (y:α),l[i]?=some x→l.Perm (x::l.eraseIdx i)∧(l.set i y).Perm (y::l.eraseIdx i)
 | a::r,0,x,y,h=>by simp at h; subst h; exact ⟨List.Perm.refl _,List.Perm.refl _⟩
 | a::r,i+1,x,y,h=>by
  have h:r[i]?=some x:=by simpa using h
  obtain ⟨h1,h2⟩:=set_perm y h
  simp only [List.eraseIdx_cons_succ,List.set_cons_succ]
  exact ⟨(h1.cons a).trans (List.Perm.swap _ _ _),(h2.cons a).trans (List.Perm.swap _ _ _)⟩
theorem slabL {f:FuncId} {is:List Value} (a b:RA) (key:BitVec 64) (N:Nat) (bs bs':Bytes) (sl:SEs) (i:Nat) (x:SE) (t':PS) {v:Value} (hi:sl[i]?=some x) (hc:t'.c=x.t.c) (hv:Plain v) (his:∀ u∈is,Plain u)
  (ht:Tr Tryz.prog f (ptr 2::is) (PSL key N bs (nC x.t.c) x.t) (fun u K=>u=v∧K=PSL key N bs' (nC x.t.c) t')) :
  Tr Tryz.prog f (adR x.e0 0::is) [crowdS a key sl,box [a,b] (AN N bs)] (fun u K=>u=v∧K=[crowdS a key (sl.set i { x with t:=t' }),box [a,b] (AN N bs')]):=by
 obtain ⟨h1,h2⟩:=set_perm { x with t:=t' } hi
 refine TrK.sharedK (A:=AN N bs) (A':=AN N bs') (T:=PSt key (nC x.t.c) x.t) (T':=PSt key (nC x.t.c) t') (S:=PSr a key (nC x.t.c) x.t) (S':=PSr a key (nC x.t.c) t') (em:=x.em) (rest:=(sl.eraseIdx i).map fun x=>memS x a key) ht (h1.map _) ?_ (PSr.up a b key _ _) (PSr.up a b key _ _) (Self.AN _ _) (Self.AN _ _) rfl rfl rfl rfl (fun E vs' h=>?_) (fun v' h E=>hv _ _ _ h)
 ·have:=h2.map fun x=>memS x a key
  rw [List.map_cons] at this
  rw [show (memS { x with t:=t' } a key)=(x.em,PSr a key (nC x.t.c) t') by unfold memS; rw [hc]; rfl] at this
  exact this
 ·exact L2.head (fun v' h=>VR.toIn (i:=0) rfl rfl h) his h
theorem slabK {f:FuncId} {is:List Value} (a b:RA) (key:BitVec 64) (N:Nat) (bs:Bytes) (sl:SEs) (i:Nat) (x:SE) {v:Value} (hi:sl[i]?=some x) (hv:Plain v) (his:∀ u∈is,Plain u)
  (ht:Tr Tryz.prog f (ptr 2::is) (PSL key N bs (nC x.t.c) x.t) (fun u K=>u=v∧K=PSL key N bs (nC x.t.c) x.t)) :
  Tr Tryz.prog f (adR x.e0 0::is) [crowdS a key sl,box [a,b] (AN N bs)] (fun u K=>u=v∧K=[crowdS a key sl,box [a,b] (AN N bs)]):=by
 have:=slabL a b key N bs bs sl i x x.t hi rfl hv his ht
 have e:sl.set i { x with t:=x.t }=sl:=List.ext_getElem? fun j=>by
  rw [List.getElem?_set]
  split
  ·rename_i h; subst h
   split
   ·exact hi.symm
   ·rename_i h2; rw [List.getElem?_eq_none (by omega)]
  ·rfl
 rw [e] at this
 exact this
theorem emb2 {e:Emb} (h:e.length=2):∃ a b,e=[a,b]:=by
 match e,h with
 | [a,b],_=>exact ⟨a,b,rfl⟩
theorem emb5 {e:Emb} (h:e.length=5):∃ a b c d f,e=[a,b,c,d,f]:=by
 match e,h with
 | [a,b,c,d,f],_=>exact ⟨a,b,c,d,f,rfl⟩
theorem slabMake (a b:RA) (key:BitVec 64) (N:Nat) (bs:Bytes) (hl:bs.length=N) (hN:N≤65536) {z n:Nat} {c:Int} (hc:Cls c z n) (p:Nat) (ow:Int) (hp:256*(p+1)≤N) (sl:SEs) (bn:Nat):Tr Tryz.prog 266 [adR a 0,.agg ⟨[.int .u64 (key.toNat:Int)]⟩,.int .i64 p,.int .i64 c,.int .i64 ow] [crowdS a key sl,box [a,b] (AN N bs)]
  (fun v K=>∃ x:SE,(x.t=newPS key bs p c ow z n n∧x.bn=bn)∧v=.tuple ⟨[adR x.e0 0,.int .i64 0]⟩∧K=[crowdS a key (sl++[x]),box [a,b] (AN N (madeP key bs p z n n).1)]):=by
 have hM:=sMake_ok key N bs hl hN hc p ow hp
 have:=TrK.shared (A:=AN N bs) (A':=AN N (madeP key bs p z n n).1) (S:=[]) (T:=[]) (T':=PSt key n (newPS key bs p c ow z n n)) (S':=fun ea'=>PSr (ea'.getD 0 (0,0,0)) key n (newPS key bs p c ow z n n)) (V:=fun _ em'=>.tuple ⟨[adR (em'.getD 0 (0,0,0)) 0,.int .i64 0]⟩) (b:=1) (k:=0) (L:=[crowdS a key sl,box [a,b] (AN N bs)]) (em:=[]) (ea:=[a,b]) (vs:=[adR a 0,.agg ⟨[.int .u64 (key.toNat:Int)]⟩,.int .i64 p,.int .i64 c,.int .i64 ow]) hM rfl rfl (by decide) Has.none trivial (Self.AN _ _) (Self.AN _ _) rfl (fun ea' em' e1 e2 e3=>?_) (fun E vs' h _ _=>?_) (fun ea' em' v' e1 e2 e3 h E=>?_)
 ·refine Tr.mono this ?_
  rintro v K ⟨ea',em',e1,e2,e3,rfl,rfl⟩
  obtain ⟨x0,x1,rfl⟩:=emb2 e1
  obtain ⟨y0,y1,y2,y3,y4,rfl⟩:=emb5 e2
  have h0:=e3 0 a rfl rfl
  have h1:=e3 1 b rfl rfl
  cases h0; cases h1
  refine ⟨⟨y0,y1,y2,y3,y4,bn,newPS key bs p c ow z n n⟩,⟨rfl,rfl⟩,rfl,?_⟩
  have hp:(sl++[(⟨y0,y1,y2,y3,y4,bn,newPS key bs p c ow z n n⟩:SE)]).Perm (⟨y0,y1,y2,y3,y4,bn,newPS key bs p c ow z n n⟩::sl):=List.perm_append_comm
  unfold crowdS
  rw [crowd_perm (hp.map fun x=>memS x a key),List.map_cons]
  rw [show memS ⟨y0,y1,y2,y3,y4,bn,newPS key bs p c ow z n n⟩ a key=([y0,y1,y2,y3,y4],PSr a key n (newPS key bs p c ow z n n)) by unfold memS; rw [show nC (newPS key bs p c ow z n n).c=n from hc.nC]; rfl]
  rfl
 ·obtain ⟨x0,x1,rfl⟩:=emb2 e1
  exact PSr.up x0 x1 key n _
 ·exact L2.head (fun v' h=>VR.in0 (em:=[a,b]) (i:=0) rfl h) (by
   intro u hu
   simp only [List.mem_cons,List.not_mem_nil,or_false] at hu
   rcases hu with rfl | rfl | rfl | rfl
   ·exact plain_key
   all_goals exact plain_int) h
 ·obtain ⟨x0,x1,rfl⟩:=emb2 e1
  obtain ⟨y0,y1,y2,y3,y4,rfl⟩:=emb5 e2
  obtain ⟨vs',h1,h2⟩:=h
  refine ⟨vs',h1,?_⟩
  cases vs' with
  | nil=>exact h2.elim
  | cons u r=>cases r with
   | nil=>exact h2.2.elim
   | cons u2 r=>cases r with
    | cons _ _=>exact h2.2.2.elim
    | nil=>exact ⟨VR.toOut (E:=E) (ea:=[x0,x1]) (em:=[y0,y1,y2,y3,y4]) (i:=0) rfl rfl h2.1,h2.2⟩
end Go.Proofs.YtblibdfcnplfhaaGreat
end
section
namespace Go.Proofs.YtblibdfcnplfhaaGreat
open Go Go.Tum Go.Tum.Base
set_option maxRecDepth 4000
theorem stands_tr (key:BitVec 64) (bs:Bytes) (hb:bs.length≤65536) (G:Great) (c:Nat) (p:Nat) (n:Int) (hn:gget G p=n) (i:Nat) (hp:p≤256) (hi:256*(p+pagesC n)-8=i) (hle:i+8≤bs.length):Tr Tryz.prog 169 [ptr 0,.int .i64 p] (SetL key bs G c) (fun v K=>v=.bool (decide (wordB bs i=canW key (256*p)))∧K=SetL key bs G c):=by
 have hC:=canary_tr key bs G c p n (by omega)
 rw [hi] at hC
 refine Tr.of Ro44 rfl ?_
 repeat' (first|refine qN ?_|refine dN ?_|refine dR ?_|refine d0 ?_|refine rT ?_|refine aI (hn:=?_)|refine sP 32 (fun h=>?_) (fun h=>?_)|refine qR ?_|refine qS ?_|exact ⟨rfl,rfl⟩|fail)
 first|refine L_rs ?_|refine L_reg ?_ | skip
 refine S_Q [] rfl rfl (QY.iget rfl (by kernel_rfl) rfl rfl rfl hn) ?_
 first|refine L_rs ?_|refine L_reg ?_ | skip
 refine cP [0,1,2,3] (hC) ?_
 repeat' (first|refine qN ?_|refine dN ?_|refine dR ?_|refine d0 ?_|refine rT ?_|refine aI (hn:=?_)|refine sP 32 (fun h=>?_) (fun h=>?_)|refine qR ?_|refine qS ?_|exact ⟨rfl,rfl⟩|fail)
 first|refine L_rs ?_|refine L_reg ?_ | skip
 refine cP [1,2] (arenaWord_ok bs hb i hle (by omega)) ?_
 repeat' (first|refine qN ?_|refine dN ?_|refine dR ?_|refine d0 ?_|refine rT ?_|refine aI (hn:=?_)|refine sP 32 (fun h=>?_) (fun h=>?_)|refine qR ?_|refine qS ?_|exact ⟨rfl,rfl⟩|fail)
 refine ⟨congrArg Value.bool ?_,rfl⟩
 rw [Bool.eq_iff_iff,beq_iff_eq,decide_eq_true_eq]
 exact ⟨fun h=>BitVec.eq_of_toNat_eq (by omega),fun h=>by rw [h]⟩
set_option maxHeartbeats 1000000 in
theorem largeDrop_ok (key:BitVec 64) (bs:Bytes) (hb:bs.length≤65536) (G:Great) (c:Nat) (p M:Nat) (n:Int) (hf:ghas G p=true) (hg:gget G p=n) (hM:pagesC n=M) (hM1:1≤M) (hp:256*(p+M)≤bs.length) :
  Tr Tryz.prog 151 [ptr 0,.int .i64 p] (SetL key bs G c) (fun v K=>v=.tuple ⟨[.bool (decide (wordB bs (256*(p+M)-8)=canW key (256*p))),.int .i64 0]⟩∧K=SetL key (overB bs (256*p) (List.replicate (256*M) 0xDD#8)) (gdel G p) c):=by
 have hl1:(overB bs (256*p) (List.replicate (256*M) 0xDD#8)).length=bs.length:=overB_length (by rw [List.length_replicate]; omega)
 have hS:=stands_tr key bs hb G c p n hg (256*(p+M)-8) (by omega) (by omega) (by omega)
 have hR:=run_tr n
 rw [hM] at hR
 have hF:=arenaFill_ok bs hb (256*p) (256*M) 0xDD#8 (by omega)
 rw [AL_over (by rw [List.length_replicate]; omega)] at hF
 refine Tr.of Ro39 rfl ?_
 repeat' (first|refine qN ?_|refine dN ?_|refine dR ?_|refine d0 ?_|refine rT ?_|refine qT ?_|refine qU ?_|refine qL ?_|refine qK ?_|refine iF (fun h=>?_) (fun h=>?_)|refine aI (hn:=?_)|refine aM ?_|refine qR ?_|refine qS ?_|exact ⟨rfl,rfl⟩|fail)
 first|refine L_rs ?_|refine L_reg ?_ | skip
 refine S_Q [] rfl rfl (QY.igetok rfl (by kernel_rfl) rfl rfl rfl hg hf) ?_
 repeat' (first|refine qN ?_|refine dN ?_|refine dR ?_|refine d0 ?_|refine rT ?_|refine qT ?_|refine qU ?_|refine qL ?_|refine qK ?_|refine iF (fun h=>?_) (fun h=>?_)|refine aI (hn:=?_)|refine aM ?_|refine qR ?_|refine qS ?_|exact ⟨rfl,rfl⟩|fail)
 first|refine L_rs ?_|refine L_reg ?_ | skip
 refine cP [0,1,2,3] (hS) ?_
 repeat' (first|refine qN ?_|refine dN ?_|refine dR ?_|refine d0 ?_|refine rT ?_|refine qT ?_|refine qU ?_|refine qL ?_|refine qK ?_|refine iF (fun h=>?_) (fun h=>?_)|refine aI (hn:=?_)|refine aM ?_|refine qR ?_|refine qS ?_|exact ⟨rfl,rfl⟩|fail)
 first|refine L_rs ?_|refine L_reg ?_ | skip
 refine eE rfl rfl (EW.idel rfl (by kernel_rfl) rfl rfl rfl) ?_
 conv=>whnf
 repeat' (first|refine qN ?_|refine dN ?_|refine dR ?_|refine d0 ?_|refine rT ?_|refine qT ?_|refine qU ?_|refine qL ?_|refine qK ?_|refine iF (fun h=>?_) (fun h=>?_)|refine aI (hn:=?_)|refine aM ?_|refine qR ?_|refine qS ?_|exact ⟨rfl,rfl⟩|fail)
 first|refine L_rs ?_|refine L_reg ?_ | skip
 refine cP [] (hR) ?_
 repeat' (first|refine qN ?_|refine dN ?_|refine dR ?_|refine d0 ?_|refine rT ?_|refine qT ?_|refine qU ?_|refine qL ?_|refine qK ?_|refine iF (fun h=>?_) (fun h=>?_)|refine aI (hn:=?_)|refine aM ?_|refine qR ?_|refine qS ?_|exact ⟨rfl,rfl⟩|fail)
 first|refine L_rs ?_|refine L_reg ?_ | skip
 refine cF [1,2] (hF) ?_
 conv=>whnf
 repeat' (first|refine qN ?_|refine dN ?_|refine dR ?_|refine d0 ?_|refine rT ?_|refine qT ?_|refine qU ?_|refine qL ?_|refine qK ?_|refine iF (fun h=>?_) (fun h=>?_)|refine aI (hn:=?_)|refine aM ?_|refine qR ?_|refine qS ?_|exact ⟨rfl,rfl⟩|fail)
 refine ⟨rfl,?_⟩
 simp only [SetL,hl1]
 rfl
end Go.Proofs.YtblibdfcnplfhaaGreat
end
section
namespace Go.Proofs.YtblibdfcnplfhaaGreat
open Go Go.Tum Go.Tum.Base
set_option maxRecDepth 4000
theorem gSize_tr (key:BitVec 64) (bs:Bytes) (G:Great) (c:Nat) (p:Int):Tr Tryz.prog 67 [ptr 0,.int .i64 p] (SetL key bs G c) (fun v K=>v=.int .i64 (gget G p)∧K=SetL key bs G c):=by
 refine Tr.of Ro41 rfl ?_
 repeat' (first|refine qN ?_|refine dN ?_|refine d0 ?_|refine qT ?_|refine qU ?_|refine qL ?_|refine qK ?_|refine iF (fun h=>?_) (fun h=>?_)|refine S_Q [] rfl rfl (QY.iget rfl (by kernel_rfl) rfl rfl rfl rfl) ?_|refine aI (hn:=?_)|refine qR ?_|refine qS ?_|exact ⟨rfl,rfl⟩|fail)
 exact L_ret (RetQ.pick [0,1,2,3] rfl rfl rfl rfl ⟨rfl,rfl⟩)
end Go.Proofs.YtblibdfcnplfhaaGreat
end
section
namespace Go.Proofs.YtblibdfcnplfhaaGreat
open Go Go.Tum Go.Tum.Base
set_option maxRecDepth 4000
def LGt (key:BitVec 64) (G:Great) (c:Nat):LH:=[.cells 0 [ptr 0,.int .u64 (key.toNat:Int),.map (some 3)],.imap G c]
def LGr (a:RA) (key:BitVec 64) (G:Great) (c:Nat):LH:=[.cells 0 [adR a 0,.int .u64 (key.toNat:Int),.map (some 1)],.imap G c]
theorem LGr.up (a b:RA) (key:BitVec 64) (G:Great) (c:Nat):UpL [a,b] (LGr a key G c) (LGt key G c) :=
 ⟨.cells ⟨Up.adR rfl,Up.int,Up.map rfl,trivial⟩,.imap,trivial⟩
def crowdG (a:RA) (key:BitVec 64) (g0 g1:RA) (G:Great) (c:Nat):LB:=crowd [([g0,g1],LGr a key G c)]
theorem largeL {f:FuncId} {is:List Value} (a b g0 g1:RA) (key:BitVec 64) (N:Nat) (bs bs':Bytes) (hl:bs.length=N) (hl':bs'.length=N) (G G':Great) (c c':Nat) {v:Value} (hv:Plain v) (his:∀ u∈is,Plain u) (h1:is.map (rnV 4 [2,0,1,3])=is) (h2:rnV 8 (phi2 [2,0,1,3] 4 (SetL key bs' G' c')) v=v)
  (ht:Tr Tryz.prog f (ptr 0::is) (SetL key bs G c) (fun u K=>u=v∧K=SetL key bs' G' c')) :
  Tr Tryz.prog f (adR g0 0::is) [crowdG a key g0 g1 G c,box [a,b] (AN N bs)] (fun u K=>u=v∧K=[crowdG a key g0 g1 G' c',box [a,b] (AN N bs')]):=by
 have hF:=TrK.frame (L:=AN N bs++LGt key G c) (K2:=AN N bs'++LGt key G' c') (v2:=v) (vs:=ptr 2::is) (keep2:=seqN 0 4) [2,0,1,3] ht (by rw [List.map_cons]; exact congrArg (_::·) h1) (by decide) (by subst hl; exact ⟨rfl,rfl,rfl,rfl,trivial⟩) (by kernel_rfl) h2 (by subst hl'; rfl) (by kernel_rfl)
 refine TrK.sharedK (A:=AN N bs) (A':=AN N bs') (T:=LGt key G c) (T':=LGt key G' c') (S:=LGr a key G c) (S':=LGr a key G' c') (em:=[g0,g1]) (rest:=[]) hF (List.Perm.refl _) (List.Perm.refl _) (LGr.up a b key _ _) (LGr.up a b key _ _) (Self.AN _ _) (Self.AN _ _) rfl rfl rfl rfl (fun E vs' h=>?_) (fun v' h E=>hv _ _ _ h)
 exact L2.head (fun v' h=>VR.toIn (i:=0) rfl rfl h) his h
end Go.Proofs.YtblibdfcnplfhaaGreat
end
section
namespace Go.Tum.Base
open Go Go.Tum
structure PRow where
 kind:Int
 cls:Int
 owner:Int
 run:Int
deriving DecidableEq
def PRow.cells (r:PRow):List Value:=[.int .i64 r.kind,.int .i64 r.cls,.int .i64 r.owner,.int .i64 r.run]
theorem PRow.ok:RowOk PRow.cells 4:=⟨fun _=>rfl,fun _=>rfl⟩
def PRow.Z:PRow:=⟨0,0,0,0⟩
abbrev PRows:=List PRow
def firstP (r:PRow):Bool:=decide (r.kind=1∨r.kind=2∨r.kind=4)
def freeP (r:PRow):Bool:=decide (r=PRow.Z)
def pAt (rs:PRows) (a:Int):PRow:=if a<0 then PRow.Z else rs.getD a.toNat PRow.Z
def placeP (rs:PRows) (n:Int):Nat→Nat→Int→Option Int
 | 0,_,_=>none
 | f+1,k,run=>let run':=if freeP (rs.getD k PRow.Z) then run+1 else 0; if run'=n then some (k-n+1) else placeP rs n f (k+1) run'
def lrow (M:Int):PRow:=⟨2,0,0,M⟩
def tailP:PRow:=⟨3,0,0,0⟩
def layP (rs:PRows) (a:Nat) (r:PRow) (m:Nat):PRows:=rs.take a++(r::List.replicate (m-1) tailP)++rs.drop (a+m)
theorem layP_length {rs:PRows} {a m:Nat} {r:PRow} (h:a+m≤rs.length) (hm:1≤m):(layP rs a r m).length=rs.length:=by simp [layP]; omega
def clearP (rs:PRows) (a m:Nat):PRows:=rs.take a++List.replicate m PRow.Z++rs.drop (a+m)
theorem clearP_length {rs:PRows} {a m:Nat} (h:a+m≤rs.length):(clearP rs a m).length=rs.length:=by simp [clearP]; omega
theorem lay_snoc {rs:PRows} {a j:Nat} {r:PRow} (hj:1≤j) (h:a+j<rs.length):(layP rs a r j).set (a+j) tailP=layP rs a r (j+1):=by
 have e1:layP rs a r j=(rs.take a++(r::List.replicate (j-1) tailP))++rs.drop (a+j):=rfl
 have e2:(rs.take a++(r::List.replicate (j-1) tailP)).length=a+j:=by simp; omega
 have e3:rs.drop (a+j)=rs[a+j]::rs.drop (a+j+1):=List.drop_eq_getElem_cons h
 rw [e1,List.set_append_right _ _ (by omega),e2,Nat.sub_self,e3,List.set_cons_zero,layP,List.append_assoc,List.append_assoc]
 congr 1
 rw [show j+1-1=(j-1)+1 by omega,List.replicate_succ',List.cons_append,List.cons_append,List.append_assoc]
 rfl
end Go.Tum.Base
namespace Go.Proofs.YtblibdfcnplfhaaGreat
open Go Go.Tum Go.Tum.Base
set_option maxRecDepth 4000
def TL (rs:PRows):LH:=[.cells 0 [slB 1 rs.length],.gro 4 (rowsC PRow.cells rs)]
theorem pagesNew_tr (p:Int) (n:Nat) (hn:min (max p 0) 256=n):Tr Tryz.prog 124 [.int .i64 p] [] (fun v K=>v=ptr 0∧K=TL (List.replicate n PRow.Z)):=by
 have hn':(imm false (imm true p 0) 256)=n:=hn
 refine Tr.of Ro54 rfl ?_
 repeat' (first|refine qN ?_|refine dN ?_|refine dR ?_|refine d0 ?_|refine rT ?_|refine aI (hn:=?_)|refine qR ?_|refine qS ?_|exact ⟨rfl,rfl⟩|fail)
 first|refine L_rs ?_|refine L_reg ?_ | skip
 refine eE rfl rfl (EW.mk (sz:=4) (bytes:=32) (k:=n) (zs:=PRow.Z.cells) rfl (by kernel_rfl) (by rw [← hn']; rfl) (by rw [← hn']; rfl) (by omega) (by omega)) ?_
 conv=>whnf
 repeat' (first|refine qN ?_|refine dN ?_|refine dR ?_|refine d0 ?_|refine rT ?_|refine aI (hn:=?_)|refine qR ?_|refine qS ?_|exact ⟨rfl,rfl⟩|fail)
 refine L_ret (RetQ.pick [1,0] rfl rfl rfl rfl ⟨rfl,?_⟩)
 rw [repC_rows PRow.Z,TL,List.length_replicate]
 rfl
theorem pagesLen_tr (rs:PRows):Tr Tryz.prog 58 [ptr 0] (TL rs) (fun v K=>v=.int .i64 rs.length∧K=TL rs):=by
 refine Tr.of Ro58 rfl ?_
 repeat' (first|refine qN ?_|refine dN ?_|refine dR ?_|refine d0 ?_|refine rT ?_|refine qT ?_|refine qU ?_|refine qL ?_|refine qK ?_|refine iF (fun h=>?_) (fun h=>?_)|refine aI (hn:=?_)|refine qR ?_|refine qS ?_|exact ⟨rfl,rfl⟩|fail)
theorem pagesRow_tr (rs:PRows) (a:Int):Tr Tryz.prog 115 [ptr 0,.int .i64 a] (TL rs) (fun v K=>v=.agg ⟨(pAt rs a).cells⟩∧K=TL rs):=by
 refine Tr.of Ro60 rfl ?_
 by_cases h0:a<0
 ·rw [show pAt rs a=PRow.Z by unfold pAt; rw [if_pos h0]]
  repeat' (first|refine qN ?_|refine dN ?_|refine dR ?_|refine d0 ?_|refine rT ?_|refine qT ?_|refine qU ?_|refine qL ?_|refine qK ?_|refine iF (fun h=>?_) (fun h=>?_)|refine aX ?_|refine aI (hn:=?_)|refine sP 7 (fun h=>?_) (fun h=>?_)|refine qR ?_|refine qS ?_|exact ⟨rfl,rfl⟩|fail)
  all_goals try (exfalso; omega)
 ·obtain ⟨k,rfl⟩:=Int.eq_ofNat_of_zero_le (Int.not_lt.1 h0)
  rw [show pAt rs k=rs.getD k PRow.Z by unfold pAt; rw [if_neg h0,Int.toNat_natCast]]
  repeat' (first|refine qN ?_|refine dN ?_|refine dR ?_|refine d0 ?_|refine rT ?_|refine qT ?_|refine qU ?_|refine qL ?_|refine qK ?_|refine iF (fun h=>?_) (fun h=>?_)|refine aX ?_|refine aI (hn:=?_)|refine sP 7 (fun h=>?_) (fun h=>?_)|refine qR ?_|refine qS ?_|exact ⟨rfl,rfl⟩|fail)
  all_goals try (exfalso; omega)
  first|refine L_rs ?_|refine L_reg ?_ | skip
  refine cP [0,1] (pagesLen_tr rs) ?_
  repeat' (first|refine qN ?_|refine dN ?_|refine dR ?_|refine d0 ?_|refine rT ?_|refine qT ?_|refine qU ?_|refine qL ?_|refine qK ?_|refine iF (fun h=>?_) (fun h=>?_)|refine aX ?_|refine aI (hn:=?_)|refine sP 7 (fun h=>?_) (fun h=>?_)|refine qR ?_|refine qS ?_|exact ⟨rfl,rfl⟩|fail)
  ·refine ⟨?_,rfl⟩
   rw [List.getD_eq_getElem?_getD,List.getElem?_eq_none (by omega)]; rfl
  ·have hk:k<rs.length:=by omega
   refine S_Q [] rfl rfl (QY.ldRow PRow.ok rfl rfl (List.getElem?_eq_getElem hk) (by decide)) ?_
   repeat' (first|refine qN ?_|refine dN ?_|refine dR ?_|refine d0 ?_|refine rT ?_|refine qT ?_|refine qU ?_|refine qL ?_|refine qK ?_|refine iF (fun h=>?_) (fun h=>?_)|refine aX ?_|refine aI (hn:=?_)|refine sP 7 (fun h=>?_) (fun h=>?_)|refine qR ?_|refine qS ?_|exact ⟨rfl,rfl⟩|fail)
   refine ⟨?_,rfl⟩
   rw [List.getD_eq_getElem?_getD,List.getElem?_eq_getElem hk]; rfl
theorem free_tr (r:PRow):Tr Tryz.prog 268 [.agg ⟨r.cells⟩] [] (fun v K=>v=.bool (freeP r)∧K=[]):=by
 refine Tr.of Ro56 rfl ?_
 repeat' (first|refine qN ?_|refine dN ?_|refine dR ?_|refine d0 ?_|refine rT ?_|refine qR ?_|refine qS ?_|exact ⟨rfl,rfl⟩|fail)
 refine S_Q [] rfl rfl (QY.eqlS (bs:=[r.kind == 0,r.cls == 0,r.owner == 0,r.run == 0]) rfl rfl rfl (by kernel_rfl)) ?_
 repeat' (first|refine qN ?_|refine dN ?_|refine dR ?_|refine d0 ?_|refine rT ?_|refine qR ?_|refine qS ?_|exact ⟨rfl,rfl⟩|fail)
 refine ⟨congrArg Value.bool ?_,rfl⟩
 obtain ⟨a,b,c,d⟩:=r
 simp only [freeP,PRow.Z,List.all_cons,List.all_nil,id,Bool.and_true]
 rw [Bool.eq_iff_iff]
 simp [PRow.mk.injEq]
theorem first_tr (r:PRow):Tr Tryz.prog 116 [.agg ⟨r.cells⟩] [] (fun v K=>v=.bool (firstP r)∧K=[]):=by
 refine Tr.of Ro55 rfl ?_
 repeat' (first|refine qN ?_|refine dN ?_|refine dR ?_|refine d0 ?_|refine rT ?_|refine aI (hn:=?_)|refine sP 6 (fun h=>?_) (fun h=>?_)|refine sP 11 (fun h=>?_) (fun h=>?_)|refine qR ?_|refine qS ?_|exact ⟨rfl,rfl⟩|fail)
 all_goals
  refine ⟨congrArg Value.bool ?_,rfl⟩
  first | (simp [firstP, *]; done) | (rw [Bool.eq_iff_iff]; simp [firstP, *])
theorem cut_tr (rs:PRows) (lo hi:Int):Tr Tryz.prog 262 [ptr 0,.int .i64 lo,.int .i64 hi] (TL rs) (fun v K=>v=.tuple ⟨[.int .i64 (max lo 0),.int .i64 (max (max lo 0) (min hi rs.length))]⟩∧K=TL rs):=by
 refine Tr.of Ro62 rfl ?_
 repeat' (first|refine qN ?_|refine dN ?_|refine dR ?_|refine d0 ?_|refine rT ?_|refine aI (hn:=?_)|refine qR ?_|refine qS ?_|exact ⟨rfl,rfl⟩|fail)
 first|refine L_rs ?_|refine L_reg ?_ | skip
 refine cP [0,1] (pagesLen_tr rs) ?_
 repeat' (first|refine qN ?_|refine dN ?_|refine dR ?_|refine d0 ?_|refine rT ?_|refine aI (hn:=?_)|refine qR ?_|refine qS ?_|exact ⟨rfl,rfl⟩|fail)
theorem getD_at {rs:PRows} {k:Nat} (h:k<rs.length):rs.getD k PRow.Z=rs[k]:=by rw [List.getD_eq_getElem?_getD,List.getElem?_eq_getElem h]; rfl
set_option maxHeartbeats 1000000 in
theorem place_tr (rs:PRows) (lo hi:Nat) (n:Int) (h1:lo≤hi) (h2:hi≤rs.length) (h3:rs.length≤256) (hn:0≤n∧n≤256):Tr Tryz.prog 263 [ptr 0,.int .i64 lo,.int .i64 hi,.int .i64 n] (TL rs) (fun v K=>v=(match placeP rs n (hi-lo) lo 0 with
  | some a=>.tuple ⟨[.int .i64 a,.bool true]⟩
  | none=>.tuple ⟨[.int .i64 0,.bool false]⟩)∧K=TL rs):=by
 refine Tr.of Ro63 rfl ?_
 refine L_rs (S_done [] rfl (Nx.goL (L_rs (S_done [] rfl (Nx.goL ?_)))))
 refine L_cut (fun l L=>placeP rs n (hi-lo) lo 0=none∧l=[]∧L=TL rs) ?_ ?_
 ·refine L_rs (S_done [] rfl (Nx.pick [0,2,3,10,11] [0,1] rfl rfl rfl ?_))
  refine L_block (L_loop (fun r l L=>∃ (k:Nat) (c:Int),r=hi-k∧lo≤k∧k≤hi∧0≤c∧c≤k∧placeP rs n (hi-lo) lo 0=placeP rs n (hi-k) k c∧l=[(0,ptr 0),(2,.int .i64 hi),(3,.int .i64 n),(10,.int .i64 c),(11,.int .i64 k)]∧L=TL rs) (hi-lo) ⟨lo,0,rfl,by omega,by omega,by omega,by omega,rfl,rfl,rfl⟩ ?_)
  rintro r _ _ ⟨k,c,rfl,hk1,hk2,hc1,hc2,hp,rfl,rfl⟩
  first|refine L_seq (L_rs (S_done [] rfl (Nx.goL (iF (fun h=>L_skip (Nx.goL ?_)) (fun h=>L_exit ?_)))))|refine L_rs (S_done [] rfl (Nx.goL (L_seq (iF (fun h=>L_skip (Nx.goL ?_)) (fun h=>L_exit ?_)))))
  ·have hk:k<rs.length:=by omega
   rw [show hi-k=(hi-(k+1))+1 by omega,placeP,getD_at hk] at hp
   refine L_seq (L_block (L_rs (S_Q [] rfl rfl (QY.add rfl rfl rfl (by omega) (by omega)) (S_done [] rfl (Nx.goL ?_)))))
   refine L_cut (fun l L=>l=[(0,ptr 0),(2,.int .i64 hi),(3,.int .i64 n),(10,.int .i64 (if freeP rs[k] then c+1 else 0)),(11,.int .i64 k)]∧L=TL rs) ?_ ?_
   ·repeat' (first|refine qN ?_|refine dN ?_|refine dR ?_|refine d0 ?_|refine qB ?_|refine rT ?_|refine qT ?_|refine qU ?_|refine qL ?_|refine qK ?_|refine qF ?_|refine qE ?_|refine iF (fun h=>?_) (fun h=>?_)|refine aX ?_|refine S_Q [] rfl rfl (QY.ldRow PRow.ok rfl rfl (List.getElem?_eq_getElem hk) (by decide)) ?_|refine aA ?_|refine aS ?_|refine aI (hn:=?_)|refine qR ?_|refine qS ?_|exact ⟨rfl,rfl⟩|fail)
    first|refine L_rs ?_|refine L_reg ?_ | skip
    refine cP [] (free_tr rs[k]) ?_
    repeat' (first|refine qN ?_|refine dN ?_|refine dR ?_|refine d0 ?_|refine qB ?_|refine rT ?_|refine qT ?_|refine qU ?_|refine qL ?_|refine qK ?_|refine qF ?_|refine qE ?_|refine iF (fun h=>?_) (fun h=>?_)|refine aX ?_|refine aA ?_|refine aS ?_|refine aI (hn:=?_)|refine qR ?_|refine qS ?_|exact ⟨rfl,rfl⟩|fail)
    ·exact Nx.pick [0,2,3,10,11] [0,1] rfl rfl rfl ⟨by rw [if_neg (by simpa [freeP] using h)]; rfl,rfl⟩
    ·exact Nx.pick [0,2,3,10,11] [0,1] rfl rfl rfl ⟨by rw [if_pos (by simpa [freeP] using h)]; rfl,rfl⟩
   ·rintro _ _ ⟨rfl,rfl⟩
    have hc':0≤(if freeP rs[k] then c+1 else 0)∧(if freeP rs[k] then c+1 else 0)≤k+1:=by split <;> omega
    generalize (if freeP rs[k] then c+1 else 0)=c' at hc' hp
    repeat' (first|refine qN ?_|refine dN ?_|refine dR ?_|refine d0 ?_|refine qB ?_|refine rT ?_|refine qT ?_|refine qU ?_|refine qL ?_|refine qK ?_|refine qF ?_|refine qE ?_|refine iF (fun h=>?_) (fun h=>?_)|refine aX ?_|refine aA ?_|refine aS ?_|refine aI (hn:=?_)|refine qR ?_|refine qS ?_|exact ⟨rfl,rfl⟩|fail)
    ·refine ⟨?_,rfl⟩
     rw [hp,if_pos h]; rfl
    ·rw [if_neg h] at hp
     exact Nx.pick [0,2,3,10,11] [0,1] rfl rfl rfl ⟨hi-(k+1),by omega,k+1,c',rfl,by omega,by omega,by omega,by omega,hp,rfl,rfl⟩
  ·obtain rfl:k=hi:=by omega
   rw [Nat.sub_self] at hp
   exact Nx.pick [] [0,1] rfl rfl rfl ⟨hp,rfl,rfl⟩
 ·rintro _ _ ⟨hq,rfl,rfl⟩
  repeat' (first|refine qN ?_|refine dN ?_|refine dR ?_|refine d0 ?_|refine qB ?_|refine rT ?_|refine qT ?_|refine qU ?_|refine qL ?_|refine qK ?_|refine qF ?_|refine qE ?_|refine iF (fun h=>?_) (fun h=>?_)|refine aX ?_|refine aA ?_|refine aS ?_|refine aI (hn:=?_)|refine qR ?_|refine qS ?_|exact ⟨rfl,rfl⟩|fail)
  refine ⟨?_,rfl⟩
  rw [hq]; rfl
def cutLo (lo:Int):Nat:=(max lo 0).toNat
def cutHi (rs:PRows) (lo hi:Int):Nat:=(max (max lo 0) (min hi rs.length)).toNat
theorem placeP_at {rs:PRows} {n:Int}:∀ {f k:Nat} {c a:Int},1≤n→0≤c→c≤k→k+f≤rs.length→placeP rs n f k c=some a→0≤a∧a+n≤rs.length
 | 0,_,_,_,_,_,_,_,h=>by cases h
 | f+1,k,c,a,h1,h2,h3,h4,h=>by
  simp only [placeP] at h
  generalize hc:(if freeP (rs.getD k PRow.Z) then c+1 else 0)=c' at h
  have hc':0≤c'∧c'≤k+1:=by rw [← hc]; split <;> omega
  split at h
  ·cases h; omega
  ·exact placeP_at (k:=k+1) h1 (by omega) (by omega) (by omega) h
theorem cut_eqs (rs:PRows) (lo hi:Int) (hlo:lo≤rs.length):∃ a b:Nat,cutLo lo=a∧cutHi rs lo hi=b∧max lo 0=a∧max (max lo 0) (min hi rs.length)=b∧a≤b∧b≤rs.length:=by
 refine ⟨_,_,rfl,rfl,?_⟩
 unfold cutLo cutHi
 omega
set_option maxHeartbeats 2000000 in
theorem map_full (rs:PRows) (lo hi:Int) (hlo:lo≤rs.length) (r:PRow) (h3:rs.length≤256) (hr:firstP r=true) (hr1:1≤r.run∧r.run≤256) (hn:placeP rs r.run (cutHi rs lo hi-cutLo lo) (cutLo lo) 0=none):Tr Tryz.prog 248 [ptr 0,.int .i64 lo,.int .i64 hi,.agg ⟨r.cells⟩] (TL rs) (fun v K=>v=.tuple ⟨[.int .i64 0,.int .i64 5]⟩∧K=TL rs):=by
 have hC:=cut_tr rs lo hi
 obtain ⟨a,b,e1,e2,e3,e4,hab,hbl⟩:=cut_eqs rs lo hi hlo
 rw [e1,e2] at hn
 rw [e4,e3] at hC
 have hP:=place_tr rs a b r.run hab hbl h3 (by omega)
 rw [hn] at hP
 have hF:=first_tr r
 rw [hr] at hF
 refine Tr.of Ro59 rfl ?_
 repeat' (first|refine qN ?_|refine dN ?_|refine dR ?_|refine d0 ?_|refine qB ?_|refine rT ?_|refine qT ?_|refine qU ?_|refine qL ?_|refine qK ?_|refine qF ?_|refine qE ?_|refine iF (fun h=>?_) (fun h=>?_)|refine aX ?_|refine aA ?_|refine aI (hn:=?_)|refine sP 20 (fun h=>?_) (fun h=>?_)|refine sP 25 (fun h=>?_) (fun h=>?_)|refine qR ?_|refine qS ?_|exact ⟨rfl,rfl⟩|fail)
 first|refine L_rs ?_|refine L_reg ?_ | skip
 refine cP [] (hF) ?_
 repeat' (first|refine qN ?_|refine dN ?_|refine dR ?_|refine d0 ?_|refine qB ?_|refine rT ?_|refine qT ?_|refine qU ?_|refine qL ?_|refine qK ?_|refine qF ?_|refine qE ?_|refine iF (fun h=>?_) (fun h=>?_)|refine aX ?_|refine aA ?_|refine aI (hn:=?_)|refine sP 20 (fun h=>?_) (fun h=>?_)|refine sP 25 (fun h=>?_) (fun h=>?_)|refine qR ?_|refine qS ?_|exact ⟨rfl,rfl⟩|fail)
 all_goals try (exfalso; omega)
 first|refine L_rs ?_|refine L_reg ?_ | skip
 refine cP [0,1] (hC) ?_
 repeat' (first|refine qN ?_|refine dN ?_|refine dR ?_|refine d0 ?_|refine qB ?_|refine rT ?_|refine qT ?_|refine qU ?_|refine qL ?_|refine qK ?_|refine qF ?_|refine qE ?_|refine iF (fun h=>?_) (fun h=>?_)|refine aX ?_|refine qR ?_|refine qS ?_|exact ⟨rfl,rfl⟩|fail)
 first|refine L_rs ?_|refine L_reg ?_ | skip
 refine cP [0,1] (hP) ?_
 repeat' (first|refine qN ?_|refine dN ?_|refine dR ?_|refine d0 ?_|refine qB ?_|refine rT ?_|refine qT ?_|refine qU ?_|refine qL ?_|refine qK ?_|refine qF ?_|refine qE ?_|refine iF (fun h=>?_) (fun h=>?_)|refine aX ?_|refine qR ?_|refine qS ?_|exact ⟨rfl,rfl⟩|fail)
theorem lay_one {rs:PRows} {a:Nat} {r:PRow} (h:a<rs.length):rs.set a r=layP rs a r 1:=by
 rw [layP,List.set_eq_take_append_cons_drop,if_pos h]; simp
set_option maxHeartbeats 2000000 in
theorem map_ok (rs:PRows) (lo hi:Int) (hlo:lo≤rs.length) (r:PRow) (h3:rs.length≤256) (hr:firstP r=true) (A m:Nat) (hm:r.run=m) (hm1:1≤m) (hm2:m≤256) (hn:placeP rs r.run (cutHi rs lo hi-cutLo lo) (cutLo lo) 0=some (A:Int)):Tr Tryz.prog 248 [ptr 0,.int .i64 lo,.int .i64 hi,.agg ⟨r.cells⟩] (TL rs) (fun v K=>v=.tuple ⟨[.int .i64 A,.int .i64 0]⟩∧K=TL (layP rs A r m)):=by
 have hC:=cut_tr rs lo hi
 obtain ⟨a,b,e1,e2,e3,e4,hab,hbl⟩:=cut_eqs rs lo hi hlo
 rw [e1,e2] at hn
 rw [e4,e3] at hC
 have hA:=placeP_at (by omega) (by omega) (by omega) (by omega) hn
 have hP:=place_tr rs a b r.run hab hbl h3 (by omega)
 rw [hn] at hP
 have hF:=first_tr r
 rw [hr] at hF
 rw [TL,TL,layP_length (by omega) hm1]
 refine Tr.of Ro59 rfl ?_
 repeat' (first|refine qN ?_|refine dN ?_|refine dR ?_|refine d0 ?_|refine qB ?_|refine rT ?_|refine qT ?_|refine qU ?_|refine qL ?_|refine qK ?_|refine qF ?_|refine qE ?_|refine iF (fun h=>?_) (fun h=>?_)|refine aX ?_|refine aA ?_|refine aI (hn:=?_)|refine sP 20 (fun h=>?_) (fun h=>?_)|refine sP 25 (fun h=>?_) (fun h=>?_)|refine qR ?_|refine qS ?_|exact ⟨rfl,rfl⟩|fail)
 first|refine L_rs ?_|refine L_reg ?_ | skip
 refine cP [] (hF) ?_
 repeat' (first|refine qN ?_|refine dN ?_|refine dR ?_|refine d0 ?_|refine qB ?_|refine rT ?_|refine qT ?_|refine qU ?_|refine qL ?_|refine qK ?_|refine qF ?_|refine qE ?_|refine iF (fun h=>?_) (fun h=>?_)|refine aX ?_|refine aA ?_|refine aI (hn:=?_)|refine sP 20 (fun h=>?_) (fun h=>?_)|refine sP 25 (fun h=>?_) (fun h=>?_)|refine qR ?_|refine qS ?_|exact ⟨rfl,rfl⟩|fail)
 all_goals try (exfalso; omega)
 first|refine L_rs ?_|refine L_reg ?_ | skip
 refine cP [0,1] (hC) ?_
 repeat' (first|refine qN ?_|refine dN ?_|refine dR ?_|refine d0 ?_|refine qB ?_|refine rT ?_|refine qT ?_|refine qU ?_|refine qL ?_|refine qK ?_|refine qF ?_|refine qE ?_|refine iF (fun h=>?_) (fun h=>?_)|refine aX ?_|refine qR ?_|refine qS ?_|exact ⟨rfl,rfl⟩|fail)
 first|refine L_rs ?_|refine L_reg ?_ | skip
 refine cP [0,1] (hP) ?_
 repeat' (first|refine qN ?_|refine dN ?_|refine dR ?_|refine d0 ?_|refine qB ?_|refine rT ?_|refine qT ?_|refine qU ?_|refine qL ?_|refine qK ?_|refine qF ?_|refine qE ?_|refine iF (fun h=>?_) (fun h=>?_)|refine aX ?_|refine qR ?_|refine qS ?_|exact ⟨rfl,rfl⟩|fail)
 first|refine L_rs ?_|refine L_reg ?_ | skip
 refine eE rfl rfl (EW.stRow (k:=A) (a:=r) PRow.ok rfl rfl rfl (by omega) (by decide)) ?_
 conv=>whnf
 rw [lay_one (by omega)]
 refine S_done [] rfl (Nx.goL ?_)
 refine L_cut (fun l L=>l=[(10,.int .i64 A)]∧L=[.cells 0 [slB 1 rs.length],.gro 4 (rowsC PRow.cells (layP rs A r m)),.cells 0 r.cells]) ?_ ?_
 ·first|refine L_rs ?_|refine L_reg ?_ | skip
  refine S_Q [] rfl rfl (QY.add (c:=((A+1:Nat):Int)) rfl rfl (by omega) (by omega) (by omega)) ?_
  refine S_done [] rfl (Nx.pick [0,7,10,12] [0,1,2] rfl rfl rfl ?_)
  refine L_block (L_loop (fun q l L=>∃ j:Nat,q=m-j∧1≤j∧j≤m∧l=[(0,ptr 0),(7,ptr 2),(10,.int .i64 A),(12,.int .i64 ((A+j:Nat):Int))]∧L=[.cells 0 [slB 1 rs.length],.gro 4 (rowsC PRow.cells (layP rs A r j)),.cells 0 r.cells]) (m-1) ⟨1,rfl,by omega,by omega,rfl,rfl⟩ ?_)
  rintro q _ _ ⟨j,rfl,hj1,hj2,rfl,rfl⟩
  refine L_seq (L_rs (S_Q [] rfl rfl (QY.add (c:=((A+m:Nat):Int)) rfl rfl (by omega) (by omega) (by omega)) (S_done [] rfl (Nx.goL (L_ifp rfl (by first|exact bD|exact bE|exact bN|exact bNB|exact bEB|exact bNot bD|exact bNot bE|exact bNot bN|exact bNot bV|exact bV) (fun h=>L_skip (Nx.goL ?_)) (fun h=>L_exit ?_))))))
  ·have hl:=layP_length (rs:=rs) (a:=A) (m:=j) (r:=r) (by omega) hj1
   have hs:=lay_snoc (rs:=rs) (a:=A) (j:=j) (r:=r) hj1 (by omega)
   repeat' (first|refine qN ?_|refine dN ?_|refine dR ?_|refine d0 ?_|refine qB ?_|refine rT ?_|refine qT ?_|refine qU ?_|refine qL ?_|refine qK ?_|refine qF ?_|refine qE ?_|refine iF (fun h=>?_) (fun h=>?_)|refine aX ?_|refine qR ?_|refine qS ?_|exact ⟨rfl,rfl⟩|fail)
   first|refine L_rs ?_|refine L_reg ?_ | skip
   refine eE rfl rfl (EW.stRow (k:=A+j) (a:=tailP) PRow.ok rfl rfl rfl (by rw [hl]; omega) (by decide)) ?_
   conv=>whnf
   rw [hs]
   repeat' (first|refine qN ?_|refine dN ?_|refine dR ?_|refine d0 ?_|refine qB ?_|refine rT ?_|refine qT ?_|refine qU ?_|refine qL ?_|refine qK ?_|refine qF ?_|refine qE ?_|refine iF (fun h=>?_) (fun h=>?_)|refine aX ?_|refine aA ?_|refine aI (hn:=?_)|refine sP 20 (fun h=>?_) (fun h=>?_)|refine sP 25 (fun h=>?_) (fun h=>?_)|refine qR ?_|refine qS ?_|exact ⟨rfl,rfl⟩|fail)
   exact Nx.pick [0,7,10,12] [0,1,2] rfl rfl rfl ⟨m-(j+1),by omega,j+1,rfl,by omega,by omega,rfl,rfl⟩
  ·obtain rfl:j=m:=by omega
   exact Nx.pick [10] [0,1,2] rfl rfl rfl ⟨rfl,rfl⟩
 ·rintro _ _ ⟨rfl,rfl⟩
  repeat' (first|refine qN ?_|refine dN ?_|refine dR ?_|refine d0 ?_|refine qB ?_|refine rT ?_|refine qT ?_|refine qU ?_|refine qL ?_|refine qK ?_|refine qF ?_|refine qE ?_|refine iF (fun h=>?_) (fun h=>?_)|refine aX ?_|refine qR ?_|refine qS ?_|exact ⟨rfl,rfl⟩|fail)
theorem first_lt {rs:PRows} {a:Nat} (h:firstP (pAt rs a)=true):a<rs.length:=by
 rcases Nat.lt_or_ge a rs.length with h1 | h1
 ·exact h1
 ·unfold pAt at h
  rw [if_neg (by omega),Int.toNat_natCast,List.getD_eq_getElem?_getD,List.getElem?_eq_none h1] at h
  exact absurd h (by decide)
set_option maxHeartbeats 2000000 in
theorem unmap_ok (rs:PRows) (h3:rs.length≤256) (a m:Nat) (h:firstP (pAt rs a)=true) (hm:(pAt rs a).run=m) (hle:a+m≤rs.length):Tr Tryz.prog 152 [ptr 0,.int .i64 a] (TL rs) (fun v K=>v=.int .i64 0∧K=TL (clearP rs a m)):=by
 have hR:=pagesRow_tr rs a
 have hF:=first_tr (pAt rs a)
 rw [h] at hF
 rw [TL,TL,clearP_length hle]
 refine Tr.of Ro61 rfl ?_
 repeat' (first|refine qN ?_|refine dN ?_|refine dR ?_|refine d0 ?_|refine qB ?_|refine rT ?_|refine qT ?_|refine qU ?_|refine qL ?_|refine qK ?_|refine iF (fun h=>?_) (fun h=>?_)|refine qR ?_|refine qS ?_|exact ⟨rfl,rfl⟩|fail)
 first|refine L_rs ?_|refine L_reg ?_ | skip
 refine cP [0,1] (hR) ?_
 repeat' (first|refine qN ?_|refine dN ?_|refine dR ?_|refine d0 ?_|refine qB ?_|refine rT ?_|refine qT ?_|refine qU ?_|refine qL ?_|refine qK ?_|refine iF (fun h=>?_) (fun h=>?_)|refine qR ?_|refine qS ?_|exact ⟨rfl,rfl⟩|fail)
 first|refine L_rs ?_|refine L_reg ?_ | skip
 refine cP [] (hF) ?_
 repeat' (first|refine qN ?_|refine dN ?_|refine dR ?_|refine d0 ?_|refine qB ?_|refine rT ?_|refine qT ?_|refine qU ?_|refine qL ?_|refine qK ?_|refine iF (fun h=>?_) (fun h=>?_)|refine qR ?_|refine qS ?_|exact ⟨rfl,rfl⟩|fail)
 have hlt:=first_lt h
 refine S_Q [] rfl rfl (QY.add (c:=((a+m:Nat):Int)) rfl rfl (by show (a:Int)+(pAt rs a).run=_; omega) (by omega) (by omega)) ?_
 first|refine L_rs ?_|refine L_reg ?_ | skip
 refine S_Q [] rfl rfl (QY.slc0 (b:=1) (lo':=a) (hi':=a+m) rfl rfl rfl (by omega) (by omega)) ?_
 first|refine L_rs ?_|refine L_reg ?_ | skip
 refine eE rfl rfl (EW.clearg (i:=a) (z0:=PRow.Z) (xs:=rs) PRow.ok rfl (by kernel_rfl) rfl rfl rfl (by omega)) ?_
 conv=>whnf
 repeat' (first|refine qN ?_|refine dN ?_|refine dR ?_|refine d0 ?_|refine qB ?_|refine rT ?_|refine qT ?_|refine qU ?_|refine qL ?_|refine qK ?_|refine iF (fun h=>?_) (fun h=>?_)|refine qR ?_|refine qS ?_|exact ⟨rfl,rfl⟩|fail)
 refine ⟨rfl,?_⟩
 rw [clearP,show a+m-a=m by omega]
 rfl
end Go.Proofs.YtblibdfcnplfhaaGreat
end
section
namespace Go.Tum
open Go
theorem More.less {L:LH} {b:Nat} {ms ms':List Mem} (hb:L[b]?=some (crowd ms)) (hs:ms'.Sublist ms):More L (L.set b (crowd ms')) :=
 ⟨by rw [List.length_set]; exact Nat.le_refl _,fun X w0 E w h=>⟨E,Ext.refl E,by
  obtain ⟨r,hr⟩:=h.ent hb
  obtain ⟨h1,h2,_⟩:=h.blk b _ r hb hr
  have h1:CrowdAt ms w:=h1
  have h3:CrowdAt ms' w:=⟨fun m hm=>h1.all m (hs.subset hm),h1.apart.sublist hs⟩
  exact h.upd hb hr (Fr.refl _ w) (h3.is h2) fun c ⟨m,hm,hc⟩=>.inl ⟨m,hs.subset hm,hc⟩⟩⟩
section
variable {X:Nat→Prop} {w0 w w':World} {E E':Emb} {K K':LH}
theorem Rep.regroup (h:Rep X w0 E K w) (grp:Nat→Nat) (hl:E'.length=K'.length) (hb:∀ (i:Nat) (x:LB) (r:Nat × Nat × Nat),K'[i]?=some x→E'[i]?=some r→LBis E' w r x)
  (hf:∀ (i:Nat) (x:LB) (r:Nat × Nat × Nat) (c:Nat),K'[i]?=some x→E'[i]?=some r→foot r x c→∃ j y q,grp j=i∧K[j]?=some y∧E[j]?=some q∧foot q y c):Rep X w0 E' K' w:=by
 refine ⟨h.fr,hl,fun i x r hx hr c hc=>?_,hb,fun i i' x x' r r' c hx hx' hr hr' hc hc'=>?_⟩
 ·obtain ⟨j,y,q,_,h1,h2,h3⟩:=hf i x r c hx hr hc
  exact h.rng j y q h1 h2 c h3
 ·obtain ⟨j,y,q,e1,h1,h2,h3⟩:=hf i x r c hx hr hc
  obtain ⟨j',y',q',e2,h4,h5,h6⟩:=hf i' x' r' c hx' hr' hc'
  have:=h.inj j j' y y' q q' c h1 h4 h2 h5 h3 h6
  subst this
  omega
theorem TrK.retell {P:Program} {keep:List Nat} {f:FuncId} {us:List Value} {L:LH} {R R':Value→LH→Prop} (ht:TrK P [] keep f us L R)
  (hR:∀ (X:Nat→Prop) (w0 w:World) (E:Emb) (v v':Value) (K:LH),Rep X w0 E K w→VR E v v'→R v K→∃ E' v1 K',L.length≤K'.length∧Rep X w0 E' K' w∧VR E' v1 v'∧R' v1 K'):TrK P [] [] f us L R':=by
 intro X w0 w E vs' hA hR' hv
 obtain ⟨h3,h4⟩:=ht X w0 w E vs' ⟨hA.1,by simp,hA.2.2⟩ hR' hv
 refine ⟨h3,h4.mono ?_⟩
 rintro v' w' ⟨E',v,L',_,_,g2,g3,g4⟩
 obtain ⟨E2,v1,K',k0,k1,k2,k3⟩:=hR X w0 w' E' v v' L' g3 g2 g4
 exact ⟨E2,v1,K',fun k r hk _=>(by cases hk),k0,k2,k1,k3⟩
theorem L2.to {R R':Value→Value→Prop}:∀ {vs us cs:List Value},L2 (fun v u=>∀ c,R v c→R' u c) vs us→L2 R vs cs→L2 R' us cs
 | [],[],[],_,_=>trivial
 | _::_,_::_,_::_,h,k=>⟨h.1 _ k.1,L2.to h.2 k.2⟩
 | [],[],_::_,_,k=>k.elim
 | _::_,_::_,[],_,k=>k.elim
 | [],_::_,_,h,_=>h.elim
 | _::_,[],_,h,_=>h.elim
theorem LBis.cellsTo {r:Nat × Nat × Nat} {sz:Nat} {vs us:List Value} (h:LBis E w r (.cells sz vs)) (hl:L2 (fun v u=>∀ c,SR E v c→SR E' u c) vs us):LBis E' w r (.cells sz us):=by
 have hn:=L2_len hl
 obtain ⟨cs,h1,h2,h3⟩:=h
 exact ⟨cs,h1,by rw [← hn]; exact hl.to h2,by rw [← hn]; exact h3⟩
theorem SRm.int {k:IntKind} {n:Int}:∀ c,SR E (.int k n) c→SR E' (.int k n) c:=fun _ h=>h
theorem SRm.ptr {i j o:Nat} {r:Nat × Nat × Nat} (h1:E[i]?=some r) (h2:E'[j]?=some r):∀ c,SR E (.pointer (some ⟨i,o,none⟩)) c→SR E' (.pointer (some ⟨j,o,none⟩)) c:=by
 rintro c ⟨a',h3,h4,r',h5,h6⟩
 have h5:E[i]?=some r':=h5
 rw [h1] at h5; cases h5
 exact ⟨a',h3,h4,r,h2,h6⟩
theorem SRm.sl {i j o n c:Nat} {r:Nat × Nat × Nat} (h1:E[i]?=some r) (h2:E'[j]?=some r):∀ v,SR E (.slice (some ⟨i,o,none⟩) n c) v→SR E' (.slice (some ⟨j,o,none⟩) n c) v:=by
 rintro v ⟨h0,r',h5,h6⟩
 have h5:E[i]?=some r':=h5
 rw [h1] at h5; cases h5
 exact ⟨h0,r,h2,h6⟩
theorem SRm.map {i j:Nat} {r r':Nat × Nat × Nat} (h1:E[i]?=some r) (h2:E'[j]?=some r') (e:r'.1=r.1):∀ v,SR E (.map (some i)) v→SR E' (.map (some j)) v:=by
 rintro v ⟨q,h5,h6⟩
 rw [h1] at h5; cases h5
 exact ⟨r',h2,by rw [e]; exact h6⟩
theorem SRm.real {i o:Nat} {r:Nat × Nat × Nat} (h1:E[i]?=some r):∀ c,SR E (.pointer (some ⟨i,o,none⟩)) c→SR E' (adR r o) c:=by
 rintro c ⟨a',h3,h4,r',h5,h6⟩
 have h5:E[i]?=some r':=h5
 rw [h1] at h5; cases h5
 show c=_
 rw [h3,h6]
end
structure PE where
 id:Int
 r:Nat × Nat × Nat
 born:Nat
def pe (e:PE):Int × Value × Nat:=(e.id,.pointer (some ⟨e.r.1,e.r.2.1,none⟩),e.born)
def pB (b0:Nat) (es:List PE) (c:Nat):LB:=.abs (fun r w=>r=b0∧Mp (Value.int .i64) w r (es.map pe) c∧Wf (es.map pe) c) (·=b0)
def pfind (es:List PE) (a:Int):Option PE:=es.find? fun e=>decide (e.id=a)
def pdel (es:List PE) (a:Int):List PE:=es.filter fun e => !decide (e.id=a)
theorem mfind_pe (es:List PE) (a:Int):mfind (es.map pe) a=(pfind es a).map pe:=by
 simp only [mfind,pfind,List.find?_map]
 rfl
theorem mdel_pe (es:List PE) (a:Int):mdel (es.map pe) a=(pdel es a).map pe:=by
 simp only [mdel,pdel,List.filter_map]
 rfl
def psym:Option PE→Value
 | none=>.pointer none
 | some e=>adR e.r 0
section
variable {P:Program} {n0:NA} {l:Env} {L:LH} {X:Nat→Prop} {w0 w w':World} {E:Emb}
theorem pB_is {r:Nat × Nat × Nat} {b0 c:Nat} {es:List PE} (h:Mp (Value.int .i64) w r.1 (es.map pe) c) (hw:Wf (es.map pe) c) (h1:r.1=b0) (h2:r.2=(0,0)):LBis E w r (pB b0 es c) :=
 ⟨⟨h1,h,hw⟩,h2,fun _ _ _ ⟨g1,g2,g3⟩ hf hn=>⟨g1,g2.fr hf (hn _ g1),g3⟩⟩
theorem pB_at {l':Env} {x:Operand} {b b0 c:Nat} {es:List PE} (hR:Rep X w0 E L w) (hl:ER E l l') (hx:lv l x=some (.map (some b))) (hb:L[b]?=some (pB b0 es c)) :
  ∃ r,E[b]?=some r∧ev l' x=some (.map (some r.1))∧(Mp (Value.int .i64) w r.1 (es.map pe) c∧Wf (es.map pe) c)∧r.1=b0∧r.2=(0,0):=by
 obtain ⟨_,h1,r,h2,rfl⟩:=lv_ev hl hx
 obtain ⟨⟨h3,h4⟩,h5,_⟩:=hR.blk b _ r hb h2
 exact ⟨r,h2,h1,h4,h3,h5⟩
theorem QY.plook {o:Oper} {mT kt et:TypeId} {x y:Operand} {b b0 c:Nat} {es:List PE} {a:Int} {v:Value} (ho:o.op=.lookup mT x y false) (hT:P.underlying mT=some (.map kt et)) (hkt:P.underlying kt=some (.int .i64)) (hz:zeroOf P et=some (.pointer none))
  (hx:lv l x=some (.map (some b))) (hy:lv l y=some (.int .i64 a)) (hb:L[b]?=some (pB b0 es c)) (hq:psym (pfind es a)=v):QY P n0 L l (.raw o) v:=by
 intro X w0 E0 w E l' _ hE hR hl
 obtain ⟨r,h2,h3,⟨h4,h5⟩,_⟩:=pB_at hR hl hx hb
 obtain ⟨_,h7,rfl⟩:=lv_ev hl hy
 obtain ⟨d,op,ty,pos,af,g⟩:=o
 simp only at ho
 subst ho
 refine ⟨_,lookup_Y (ty:=ty) (k:=a) hT (keyLaw_int hkt) (zeroOf_ok hz) h3 h7 h4 rfl,?_⟩
 rw [mfind_pe]
 subst hq
 cases hq:pfind es a with
 | none=>exact rfl
 | some e =>
  show _=_
  simp only [Option.map_some,Option.getD_some,pe,Nat.zero_add]
theorem pB_of {r:Nat × Nat × Nat} {w:World} {E E':Emb} {c:Nat} (h:LBis E w r (.imap [] c)):LBis E' w (r.1,0,0) (pB r.1 [] c):=pB_is (es:=[]) h.1 h.2 rfl rfl
theorem EW.pput {o:Oper} {mT kt et:TypeId} {x y u:Operand} {b b0 c:Nat} {es:List PE} {a:Int} {r0:Nat × Nat × Nat} (ho:o.op=.mapUpdate mT x y u) (hT:P.underlying mT=some (.map kt et)) (hkt:P.underlying kt=some (.int .i64))
  (hx:lv l x=some (.map (some b))) (hy:lv l y=some (.int .i64 a)) (hu:lv l u=some (adR r0 0)) (hb:L[b]?=some (pB b0 es c)) (hn:pfind es a=none) :
  EW P n0 L l (.raw o) (fun w K=>w=undef∧K=L.set b (pB b0 (es++[⟨a,r0,c⟩]) (c+1))):=by
 intro X w0 E0 w E l' Kf h0 hE hR hl hK
 obtain ⟨r,h2,h3,⟨h4,h5⟩,h8,h9⟩:=pB_at hR hl hx hb
 obtain ⟨_,h6,rfl⟩:=lv_ev hl hy
 obtain ⟨_,h7,h10⟩:=lv_ev hl hu
 have h10:_=Value.pointer (some ⟨r0.1,0+r0.2.1,none⟩):=h10
 subst h10
 obtain ⟨d,op,ty,pos,af,g⟩:=o
 simp only at ho
 subst ho
 have hs:mset (es.map pe) a (.pointer (some ⟨r0.1,0+r0.2.1,none⟩)) c=((es++[(⟨a,r0,c⟩:PE)]).map pe,c+1):=by
  unfold mset
  rw [mfind_pe,hn]
  simp only [Option.map_none,List.map_append,List.map_cons,List.map_nil,pe,Nat.zero_add]
 have hw:=h5.mset (k:=a) (.pointer (some ⟨r0.1,0+r0.2.1,none⟩))
 rw [hs] at hw
 refine mapUpdate_W (ty:=ty) (k:=a) hT (keyLaw_int hkt) h3 h6 h7 h4 h5 (fun w' hM hf hsz=>hK w' E _ _ _ ⟨rfl,rfl⟩ (Ext.refl E) (hR.upd hb h2 (hf.mono fun c _ hc=>?_) (pB_is ?_ hw h8 h9) (fun _ h=>.inl h)) VR.undef)
 ·have hc:c=r.1:=hc
  show c=b0
  omega
 ·rw [hs] at hM; exact hM
theorem EW.pdel {o:Oper} {mT kT kt et:TypeId} {x y:Operand} {b b0 c:Nat} {es:List PE} {a:Int} (ho:o.op=.call ⟨.builtin .delete,⟨[x,y]⟩,⟨[mT,kT]⟩⟩) (hT:P.underlying mT=some (.map kt et)) (hkt:P.underlying kt=some (.int .i64)) (hx:lv l x=some (.map (some b))) (hy:lv l y=some (.int .i64 a)) (hb:L[b]?=some (pB b0 es c)) :
  EW P n0 L l (.raw o) (fun w K=>w=.tuple #[]∧K=L.set b (pB b0 (pdel es a) c)):=by
 intro X w0 E0 w E l' Kf h0 hE hR hl hK
 obtain ⟨r,h2,h3,⟨h4,h5⟩,h8,h9⟩:=pB_at hR hl hx hb
 obtain ⟨_,h6,rfl⟩:=lv_ev hl hy
 obtain ⟨d,op,ty,pos,af,g⟩:=o
 simp only at ho
 subst ho
 have hw:=Wf.del (k:=a) h5
 rw [mdel_pe] at hw
 refine delete_W (ty:=ty) (k:=a) hT (keyLaw_int hkt) h3 h6 h4 h5 (fun w' hM hf hsz=>hK w' E _ _ _ ⟨rfl,rfl⟩ (Ext.refl E) (hR.upd hb h2 (hf.mono fun c _ hc=>?_) (pB_is ?_ hw h8 h9) (fun _ h=>.inl h)) ⟨[],rfl,trivial⟩)
 ·have hc:c=r.1:=hc
  show c=b0
  omega
 ·rw [mdel_pe] at hM; exact hM
end
end Go.Tum
end
