/-
  What the proof leans on, part 6: of the texts ObjM, ObjC, ObjD, PagesC, Ones, BitsC, BitsD, Tz, BitsN, GheapM, RefM, RefA, RefB, RefC, RefD, RefF, RefG, RefH.
-/
import Derived.Test.YthmdialagibpfaaGreatDoorPkE
set_option linter.unusedVariables false
set_option linter.unusedSimpArgs false
set_option linter.unusedSectionVars false
section
namespace Go.Tum.Base
open Go Go.Tum
def shOk (r n:Int):Bool:=decide (0≤r∧0≤n∧r≤15∧n≤15-r)
theorem shOk_t {r n:Int} (h:shOk r n=true):0≤r∧0≤n∧r≤15∧n≤15-r:=of_decide_eq_true h
theorem shOk_f {r n:Int} (h:shOk r n=false):¬ (0≤r∧0≤n∧r≤15∧n≤15-r):=of_decide_eq_false h
def shN (r n:Int):Int:=if shOk r n then 8*(1+r+n) else 0
def clsOf (m:Int):Int:=if m≤16 then 0 else if m≤32 then 1 else if m≤64 then 2 else 3
def shC (r n:Int):Int:=if shOk r n then clsOf (8*(1+r+n)) else 0
def shW (r n:Int):BitVec 64:=(801077783718526976#64 ||| (BitVec.ofInt 64 n <<< 16)) ||| BitVec.ofInt 64 r
def headF (bs:Bytes) (i:Nat):Option (Nat × Nat) :=
 let w:=wordB bs i
 let r:=w.toNat % 65536
 let n:=(w >>> 16).toNat % 65536
 if shOk r n=true∧shW r n=w∧8*(1+r+n)≤bs.length-i then some (r,n) else none
def hdR:Option (Nat × Nat)→Int
 | some x=>x.1
 | none=>0
def hdN:Option (Nat × Nat)→Int
 | some x=>x.2
 | none=>0
def hdE:Option (Nat × Nat)→Int
 | some _=>0
 | none=>4
theorem headF_some {bs:Bytes} {i r n:Nat} (h:headF bs i=some (r,n)):shOk r n=true∧shW r n=wordB bs i∧8*(1+r+n)≤bs.length-i∧r+n≤15:=by
 unfold headF at h
 simp only at h
 split at h
 ·rename_i hc
  cases h
  have:=shOk_t hc.1
  exact ⟨hc.1,hc.2.1,hc.2.2,by omega⟩
 ·cases h
def refI (w:BitVec 64):Int:=(w-1#64).toInt
theorem refI_wrap (w:BitVec 64):IntKind.i64.wrap (w.toInt-1)=refI w:=by
 rw [refI,BitVec.toInt_sub,IntKind.wrap_i64,show (1#64).toInt=1 by rfl]
 generalize w.toInt-1=a
 have h1:=Int.bmod_def a (2 ^ 64)
 rw [h1]
 split <;> omega
def refsF (bs:Bytes) (i:Nat):List Int:=match headF bs i with
 | some (r,_)=>(List.range r).map fun k=>refI (wordB bs (i+8*(1+k)))
 | none=>[]
def setRefB (bs:Bytes) (i:Nat) (k to:Int):Bytes:=match headF bs i with
 | some (r,_)=>if 0≤k∧k<r ∧ -1≤to∧to≤2147483647 then overB bs (i+8*(1+k.toNat)) (putB (BitVec.ofInt 64 (to+1)) 8) else bs
 | none=>bs
def setRefE (bs:Bytes) (i:Nat) (k to:Int):Int:=match headF bs i with
 | some (r,_)=>if 0≤k∧k<r then (if -1≤to∧to≤2147483647 then 0 else 1) else 3
 | none=>4
def setNumB (bs:Bytes) (i:Nat) (k:Int) (v:BitVec 64):Bytes:=match headF bs i with
 | some (r,n)=>if 0≤k∧k<n then overB bs (i+8*(1+r+k.toNat)) (putB v 8) else bs
 | none=>bs
def setNumE (bs:Bytes) (i:Nat) (k:Int):Int:=match headF bs i with
 | some (_,n)=>if 0≤k∧k<n then 0 else 3
 | none=>4
def madeO (bs:Bytes) (i:Nat) (r n:Int):Bytes:=overB (overB bs i (List.replicate (8*(1+r+n)).toNat 0)) i (putB (shW r n) 8)
theorem and_mask16 (w:BitVec 64):IntKind.i64.wrap ((w &&& 65535#64).toNat:Int)=((w.toNat % 65536:Nat):Int):=by
 have e:(w &&& 65535#64).toNat=w.toNat % 65536:=by
  rw [BitVec.toNat_and,show (65535#64).toNat=2 ^ 16-1 by rfl,Nat.and_two_pow_sub_one_eq_mod]
 rw [e,wrap64_id (by omega) (by omega)]
end Go.Tum.Base
end
section
namespace Go.Proofs.YthmdialagibpfaaGreatDoor
open Go Go.Tum Go.Tum.Base
set_option maxRecDepth 4000
def shV (r n:Int):Value:=.agg ⟨[.int .i64 r,.int .i64 n]⟩
theorem shMay_tr (r n:Int):Tr Tryz.prog 186 [shV r n] [] (fun v K=>v=.bool (shOk r n)∧K=[]):=by
 refine Tr.of row_object_Shape_may_ok rfl ?_
 repeat' (first|refine qN ?_|refine dN ?_|refine dR ?_|refine d0 ?_|refine rT ?_|refine aS ?_|refine aI (hn:=?_)|refine sP 6 (fun h=>?_) (fun h=>?_)|refine sP 11 (fun h=>?_) (fun h=>?_)|refine sP 16 (fun h=>?_) (fun h=>?_)|refine qR ?_|refine qS ?_|exact ⟨rfl,rfl⟩|fail)
 all_goals (refine ⟨?_,rfl⟩; first | rfl|exact congrArg (Value.int _) (by simp only [shOk]; (repeat' split) <;> omega)|exact congrArg Value.bool (by simp only [shOk]; (repeat' split) <;> (rw [Bool.eq_iff_iff]; simp; try omega))|exact VT2 (by simp only [shOk]; (repeat' split) <;> omega) (by simp only [shOk]; (repeat' split) <;> first | rfl | omega | (rw [Bool.eq_iff_iff]; simp; try omega)))
theorem shBytes_tr (r n:Int):Tr Tryz.prog 160 [shV r n] [] (fun v K=>v=.tuple ⟨[.int .i64 (shN r n),.bool (shOk r n)]⟩∧K=[]):=by
 have hM:=shMay_tr r n
 refine Tr.of row_object_Shape_Bytes_ok rfl ?_
 cases hs:shOk r n
 ·rw [hs] at hM
  repeat' (first|refine qN ?_|refine dN ?_|refine dR ?_|refine d0 ?_|refine rT ?_|refine qT ?_|refine qU ?_|refine qL ?_|refine qK ?_|refine iF (fun h=>?_) (fun h=>?_)|refine cP [] (hM) ?_|refine aA ?_|refine aI (hn:=?_)|refine aM ?_|refine qR ?_|refine qS ?_|exact ⟨rfl,rfl⟩|fail)
  refine ⟨?_,rfl⟩
  rw [shN,hs]; rfl
 ·rw [hs] at hM
  have:=shOk_t hs
  repeat' (first|refine qN ?_|refine dN ?_|refine dR ?_|refine d0 ?_|refine rT ?_|refine qT ?_|refine qU ?_|refine qL ?_|refine qK ?_|refine iF (fun h=>?_) (fun h=>?_)|refine cP [] (hM) ?_|refine aA ?_|refine aI (hn:=?_)|refine aM ?_|refine qR ?_|refine qS ?_|exact ⟨rfl,rfl⟩|fail)
  refine ⟨?_,rfl⟩
  rw [shN,hs]; rfl
theorem shWord_tr (r n:Int):Tr Tryz.prog 167 [shV r n] [] (fun v K=>v=.int .u64 ((shW r n).toNat:Int)∧K=[]):=by
 refine Tr.of row_object_Shape_word_ok rfl ?_
 repeat' (first|refine qN ?_|refine dN ?_|refine dR ?_|refine d0 ?_|refine rT ?_|refine S_Q [] rfl rfl (QY.cvIW rfl) ?_|refine S_Q [] rfl rfl (QY.shlW (n:=16) rfl rfl) ?_|refine S_Q [] rfl rfl (QY.orW (a:=801077783718526976#64) rfl rfl) ?_|refine S_Q [] rfl rfl (QY.orW rfl rfl) ?_|refine aI (hn:=?_)|refine qR ?_|refine qS ?_|exact ⟨rfl,rfl⟩|fail)
theorem shClass_tr (r n:Int):Tr Tryz.prog 108 [shV r n] [] (fun v K=>v=.tuple ⟨[.int .i64 (shC r n),.bool (shOk r n)]⟩∧K=[]):=by
 have hB:=shBytes_tr r n
 refine Tr.of row_object_Shape_Class_ok rfl ?_
 cases hs:shOk r n
 ·rw [hs] at hB
  repeat' (first|refine qN ?_|refine dN ?_|refine dR ?_|refine d0 ?_|refine qB ?_|refine rT ?_|refine qT ?_|refine qU ?_|refine qL ?_|refine qK ?_|refine qF ?_|refine qE ?_|refine iF (fun h=>?_) (fun h=>?_)|refine cP [] (hB) ?_|refine aA ?_|refine aI (hn:=?_)|refine sP 13 (fun h=>?_) (fun h=>?_)|refine qR ?_|refine qS ?_|exact ⟨rfl,rfl⟩|fail)
  refine LWp.pick [4,5,6] [] rfl rfl rfl (L_loop (fun q l L=>l=[(4,.int .i64 (shN r n)),(5,.bool false),(6,.int .i64 0)]∧L=[]) 0 ⟨rfl,rfl⟩ ?_)
  rintro q _ _ ⟨rfl,rfl⟩
  repeat' (first|refine qN ?_|refine dN ?_|refine dR ?_|refine d0 ?_|refine qB ?_|refine rT ?_|refine qT ?_|refine qU ?_|refine qL ?_|refine qK ?_|refine qF ?_|refine qE ?_|refine iF (fun h=>?_) (fun h=>?_)|refine aA ?_|refine aI (hn:=?_)|refine sP 13 (fun h=>?_) (fun h=>?_)|refine qR ?_|refine qS ?_|exact ⟨rfl,rfl⟩|fail)
  refine ⟨?_,rfl⟩
  rw [shC,hs]; rfl
 ·rw [hs] at hB
  have:=shOk_t hs
  obtain ⟨m,hm,hm2⟩:∃ m:Nat,shN r n=m∧m≤128:=⟨(shN r n).toNat,by rw [shN,hs,if_pos rfl]; omega,by rw [shN,hs,if_pos rfl]; omega⟩
  rw [hm] at hB
  repeat' (first|refine qN ?_|refine dN ?_|refine dR ?_|refine d0 ?_|refine qB ?_|refine rT ?_|refine qT ?_|refine qU ?_|refine qL ?_|refine qK ?_|refine qF ?_|refine qE ?_|refine iF (fun h=>?_) (fun h=>?_)|refine cP [] (hB) ?_|refine aA ?_|refine aI (hn:=?_)|refine sP 13 (fun h=>?_) (fun h=>?_)|refine qR ?_|refine qS ?_|exact ⟨rfl,rfl⟩|fail)
  refine LWp.pick [4,5,6] [] rfl rfl rfl (L_loop (fun q l L=>∃ c:Nat,q=3-c∧c≤3∧(c:Int)≤clsOf m∧l=[(4,.int .i64 m),(5,.bool true),(6,.int .i64 c)]∧L=[]) 3 ⟨0,rfl,by omega,by unfold clsOf; (repeat' split) <;> omega,rfl,rfl⟩ ?_)
  rintro q _ _ ⟨c,rfl,hc,hc2,rfl,rfl⟩
  have hS:=Size_tr c
  repeat' (first|refine qN ?_|refine dN ?_|refine dR ?_|refine d0 ?_|refine qB ?_|refine rT ?_|refine qT ?_|refine qU ?_|refine qL ?_|refine qK ?_|refine qF ?_|refine qE ?_|refine iF (fun h=>?_) (fun h=>?_)|refine cP [] (hS) ?_|refine aA ?_|refine aI (hn:=?_)|refine sP 13 (fun h=>?_) (fun h=>?_)|refine qR ?_|refine qS ?_|exact ⟨rfl,rfl⟩|fail)
  ·skip
   have h3:c+1≤3∧((c+1:Nat):Int)≤clsOf m:=by
    unfold sizeC at h; unfold clsOf at hc2 ⊢
    obtain rfl | rfl | rfl | rfl:c=0∨c=1∨c=2∨c=3:=by omega
    all_goals (simp at h; (repeat' split) <;> omega)
   exact Nx.pick [4,5,6] [] rfl rfl rfl ⟨3-(c+1),by omega,c+1,rfl,h3.1,h3.2,rfl,rfl⟩
  ·skip
   refine ⟨?_,rfl⟩
   have:clsOf m=c:=by
    unfold sizeC at h; unfold clsOf at hc2 ⊢
    obtain rfl | rfl | rfl | rfl:c=0∨c=1∨c=2∨c=3:=by omega
    all_goals (simp at h; (repeat' split) <;> omega)
   rw [← this,shC,hs,if_pos rfl,← hm,shN,hs]; rfl
set_option maxHeartbeats 1000000 in
theorem objMake_ok (bs:Bytes) (hb:bs.length≤65536) (i:Nat) (r n:Int) (hs:shOk r n=true) (h8:i % 8=0) (hle:(i:Int)+8*(1+r+n)≤bs.length):Tr Tryz.prog 112 [ptr 0,.int .i64 i,shV r n] (AL bs) (fun v K=>v=.int .i64 0∧K=AL (madeO bs i r n)):=by
 have hB:=shBytes_tr r n
 have hO:=shWord_tr r n
 have hr:=shOk_t hs
 obtain ⟨m,hm⟩:∃ m:Nat,8*(1+r+n)=m:=⟨(8*(1+r+n)).toNat,by omega⟩
 have hN:shN r n=m:=by rw [shN,hs,if_pos rfl,hm]
 rw [hN,hs] at hB
 have hA:=arenaWord_ok bs hb i (by omega) h8
 have hF:=arenaFill_ok bs hb i m 0 (by omega)
 rw [AL_over (by rw [List.length_replicate]; omega)] at hF
 have hl:(overB bs i (List.replicate m 0)).length=bs.length:=overB_length (by rw [List.length_replicate]; omega)
 have hS:=arenaSetWord_ok (overB bs i (List.replicate m 0)) (by omega) i (by rw [hl]; omega) h8 (shW r n)
 have hl2:(overB (overB bs i (List.replicate m 0)) i (putB (shW r n) 8)).length=bs.length:=by rw [overB_length (by rw [putB_length,hl]; omega),hl]
 simp only [AL,hl,hl2] at hS
 have hK:AL (madeO bs i r n)=[.cells 0 [slB 1 bs.length],BL (overB (overB bs i (List.replicate m 0)) i (putB (shW r n) 8))]:=by
  rw [madeO,hm,Int.toNat_natCast,AL,hl2]
 rw [hK]
 refine Tr.of row_object_Make_ok rfl ?_
 repeat' (first|refine qN ?_|refine dN ?_|refine dR ?_|refine d0 ?_|refine rT ?_|refine qT ?_|refine qU ?_|refine qL ?_|refine qK ?_|refine iF (fun h=>?_) (fun h=>?_)|refine cP [] (hB) ?_|refine cP [0,1] (hA) ?_|(refine cF [0,1] (hF) ?_; conv=>whnf)|refine cP [] (hO) ?_|(refine cF [0,1] (hS) ?_; conv=>whnf)|refine aI (hn:=?_)|refine qR ?_|refine qS ?_|exact ⟨rfl,rfl⟩|fail)
set_option maxHeartbeats 2000000 in
theorem head_tr (bs:Bytes) (hb:bs.length≤65536) (i:Nat) (h:i+8≤bs.length) (h8:i % 8=0):Tr Tryz.prog 146 [ptr 0,.int .i64 i] (AL bs) (fun v K=>v=.tuple ⟨[shV (hdR (headF bs i)) (hdN (headF bs i)),.int .i64 (hdE (headF bs i))]⟩∧K=AL bs):=by
 have hA:=arenaWord_ok bs hb i h h8
 have hL:=arenaLen_tr bs
 obtain ⟨w,hw⟩:∃ w,w=wordB bs i:=⟨_,rfl⟩
 rw [← hw] at hA
 obtain ⟨r,hr⟩:∃ r,r=w.toNat % 65536:=⟨_,rfl⟩
 obtain ⟨n,hn⟩:∃ n,n=(w >>> 16).toNat % 65536:=⟨_,rfl⟩
 have m1:=and_mask16 w
 have m2:=and_mask16 (w >>> 16)
 rw [← hr] at m1
 rw [← hn] at m2
 have hB:=shBytes_tr r n
 have hO:=shWord_tr r n
 have hH:headF bs i=if shOk r n=true∧shW r n=w∧8*(1+r+n)≤bs.length-i then some (r,n) else none:=by
  unfold headF; simp only [← hw,← hr,← hn]
 refine Tr.of row_object_Head_ok rfl ?_
 cases hs:shOk r n
 ·rw [hs] at hB hH
  rw [if_neg (by simp)] at hH
  rw [hH]
  repeat' (first|refine qN ?_|refine dN ?_|refine dR ?_|refine d0 ?_|refine rT ?_|refine qT ?_|refine qU ?_|refine qL ?_|refine qK ?_|refine iF (fun h=>?_) (fun h=>?_)|refine cP [0,1] (hA) ?_|refine S_Q [] rfl rfl (QY.andW (b:=65535#64) rfl rfl) ?_|refine S_Q [] rfl rfl (QY.cvi rfl m1) ?_|refine S_Q [] rfl rfl (QY.shrW (n:=16) rfl rfl) ?_|refine S_Q [] rfl rfl (QY.cvi rfl m2) ?_|refine cP [] (hB) ?_|refine aS ?_|refine aK ?_|refine aI (hn:=?_)|refine sP 36 (fun h=>?_) (fun h=>?_)|refine sP 42 (fun h=>?_) (fun h=>?_)|refine qR ?_|refine qS ?_|exact ⟨rfl,rfl⟩|fail)
 ·have hr2:=shOk_t hs
  have hN:shN r n=8*(1+r+n):=by rw [shN,hs,if_pos rfl]
  rw [hN,hs] at hB
  by_cases hg:shW r n=w∧8*(1+r+n)≤bs.length-i
  ·rw [hs,if_pos ⟨rfl,hg⟩] at hH
   rw [hH]
   repeat' (first|refine qN ?_|refine dN ?_|refine dR ?_|refine d0 ?_|refine rT ?_|refine qT ?_|refine qU ?_|refine qL ?_|refine qK ?_|refine iF (fun h=>?_) (fun h=>?_)|refine cP [0,1] (hA) ?_|refine S_Q [] rfl rfl (QY.andW (b:=65535#64) rfl rfl) ?_|refine S_Q [] rfl rfl (QY.cvi rfl m1) ?_|refine S_Q [] rfl rfl (QY.shrW (n:=16) rfl rfl) ?_|refine S_Q [] rfl rfl (QY.cvi rfl m2) ?_|refine cP [] (hB) ?_|refine cP [] (hO) ?_|refine cP [0,1] (hL) ?_|refine aS ?_|refine aK ?_|refine aI (hn:=?_)|refine sP 36 (fun h=>?_) (fun h=>?_)|refine sP 42 (fun h=>?_) (fun h=>?_)|refine qR ?_|refine qS ?_|exact ⟨rfl,rfl⟩|fail)
   ·exact absurd (by rw [hg.1]) h
   ·exfalso; omega
  ·rw [hs,if_neg (fun e=>hg e.2)] at hH
   rw [hH]
   repeat' (first|refine qN ?_|refine dN ?_|refine dR ?_|refine d0 ?_|refine rT ?_|refine qT ?_|refine qU ?_|refine qL ?_|refine qK ?_|refine iF (fun h=>?_) (fun h=>?_)|refine cP [0,1] (hA) ?_|refine S_Q [] rfl rfl (QY.andW (b:=65535#64) rfl rfl) ?_|refine S_Q [] rfl rfl (QY.cvi rfl m1) ?_|refine S_Q [] rfl rfl (QY.shrW (n:=16) rfl rfl) ?_|refine S_Q [] rfl rfl (QY.cvi rfl m2) ?_|refine cP [] (hB) ?_|refine cP [] (hO) ?_|refine cP [0,1] (hL) ?_|refine aS ?_|refine aK ?_|refine aI (hn:=?_)|refine sP 36 (fun h=>?_) (fun h=>?_)|refine sP 42 (fun h=>?_) (fun h=>?_)|refine qR ?_|refine qS ?_|exact ⟨rfl,rfl⟩|fail)
   rename_i h1 h2
   exact absurd ⟨BitVec.eq_of_toNat_eq (by omega),by omega⟩ hg
theorem field_tr (a k m b:Nat) (hm:k<m) (ha:a≤100000) (hb:b≤100) (hk:k≤100):Tr Tryz.prog 174 [.int .i64 a,.int .i64 k,.int .i64 m,.int .i64 b] [] (fun v K=>v=.tuple ⟨[.int .i64 ((a+8*(1+b+k):Nat):Int),.int .i64 0]⟩∧K=[]):=by
 refine Tr.of row_object_field_ok rfl ?_
 repeat' (first|refine qN ?_|refine dN ?_|refine dR ?_|refine d0 ?_|refine rT ?_|refine qT ?_|refine qU ?_|refine qL ?_|refine qK ?_|refine iF (fun h=>?_) (fun h=>?_)|refine aA ?_|refine aI (hn:=?_)|refine aM ?_|refine sP 12 (fun h=>?_) (fun h=>?_)|refine qR ?_|refine qS ?_|exact ⟨rfl,rfl⟩|fail)
 all_goals (exfalso; omega)
theorem field_no (a k m b:Int) (hk:k<0∨m≤k):Tr Tryz.prog 174 [.int .i64 a,.int .i64 k,.int .i64 m,.int .i64 b] [] (fun v K=>v=.tuple ⟨[.int .i64 0,.int .i64 3]⟩∧K=[]):=by
 refine Tr.of row_object_field_ok rfl ?_
 repeat' (first|refine qN ?_|refine dN ?_|refine dR ?_|refine d0 ?_|refine rT ?_|refine qT ?_|refine qU ?_|refine qL ?_|refine qK ?_|refine iF (fun h=>?_) (fun h=>?_)|refine aA ?_|refine aI (hn:=?_)|refine aM ?_|refine sP 12 (fun h=>?_) (fun h=>?_)|refine qR ?_|refine qS ?_|exact ⟨rfl,rfl⟩|fail)
 all_goals (exfalso; omega)
theorem ref_ok (bs:Bytes) (hb:bs.length≤65536) (i:Nat) (h:i+8≤bs.length) (h8:i % 8=0) {r n:Nat} (hh:headF bs i=some (r,n)) (k:Nat) (hk:k<r):Tr Tryz.prog 128 [ptr 0,.int .i64 i,.int .i64 k] (AL bs) (fun v K=>v=.tuple ⟨[.int .i64 ((i+8*(1+0+k):Nat):Int),.int .i64 0]⟩∧K=AL bs):=by
 have hH:=head_tr bs hb i h h8
 rw [hh] at hH
 obtain ⟨_,_,_,hrn⟩:=headF_some hh
 have hF:=field_tr i k r 0 hk (by omega) (by omega) (by omega)
 refine Tr.of row_object_ref_ok rfl ?_
 repeat' (first|refine qN ?_|refine dN ?_|refine dR ?_|refine d0 ?_|refine rT ?_|refine qT ?_|refine qU ?_|refine qL ?_|refine qK ?_|refine iF (fun h=>?_) (fun h=>?_)|refine cP [0,1] (hH) ?_|refine cP [] (hF) ?_|refine aI (hn:=?_)|refine qR ?_|refine qS ?_|exact ⟨rfl,rfl⟩|fail)
theorem ref_no (bs:Bytes) (hb:bs.length≤65536) (i:Nat) (h:i+8≤bs.length) (h8:i % 8=0) (k:Int) (hk:k<0∨hdR (headF bs i)≤k):Tr Tryz.prog 128 [ptr 0,.int .i64 i,.int .i64 k] (AL bs) (fun v K=>v=.tuple ⟨[.int .i64 0,.int .i64 (match headF bs i with | some _=>3 | none=>4)]⟩∧K=AL bs):=by
 have hH:=head_tr bs hb i h h8
 cases hh:headF bs i with
 | none =>
  rw [hh] at hH
  refine Tr.of row_object_ref_ok rfl ?_
  repeat' (first|refine qN ?_|refine dN ?_|refine dR ?_|refine d0 ?_|refine rT ?_|refine qT ?_|refine qU ?_|refine qL ?_|refine qK ?_|refine iF (fun h=>?_) (fun h=>?_)|refine cP [0,1] (hH) ?_|refine aI (hn:=?_)|refine qR ?_|refine qS ?_|exact ⟨rfl,rfl⟩|fail)
 | some x =>
  obtain ⟨r,n⟩:=x
  rw [hh] at hH hk
  have hF:=field_no i k r 0 hk
  refine Tr.of row_object_ref_ok rfl ?_
  repeat' (first|refine qN ?_|refine dN ?_|refine dR ?_|refine d0 ?_|refine rT ?_|refine qT ?_|refine qU ?_|refine qL ?_|refine qK ?_|refine iF (fun h=>?_) (fun h=>?_)|refine cP [0,1] (hH) ?_|refine cP [] (hF) ?_|refine aI (hn:=?_)|refine qR ?_|refine qS ?_|exact ⟨rfl,rfl⟩|fail)
theorem num_ok (bs:Bytes) (hb:bs.length≤65536) (i:Nat) (h:i+8≤bs.length) (h8:i % 8=0) {r n:Nat} (hh:headF bs i=some (r,n)) (k:Nat) (hk:k<n):Tr Tryz.prog 129 [ptr 0,.int .i64 i,.int .i64 k] (AL bs) (fun v K=>v=.tuple ⟨[.int .i64 ((i+8*(1+r+k):Nat):Int),.int .i64 0]⟩∧K=AL bs):=by
 have hH:=head_tr bs hb i h h8
 rw [hh] at hH
 obtain ⟨_,_,_,hrn⟩:=headF_some hh
 have hF:=field_tr i k n r hk (by omega) (by omega) (by omega)
 refine Tr.of row_object_num_ok rfl ?_
 repeat' (first|refine qN ?_|refine dN ?_|refine dR ?_|refine d0 ?_|refine rT ?_|refine qT ?_|refine qU ?_|refine qL ?_|refine qK ?_|refine iF (fun h=>?_) (fun h=>?_)|refine cP [0,1] (hH) ?_|refine cP [] (hF) ?_|refine aI (hn:=?_)|refine qR ?_|refine qS ?_|exact ⟨rfl,rfl⟩|fail)
theorem num_no (bs:Bytes) (hb:bs.length≤65536) (i:Nat) (h:i+8≤bs.length) (h8:i % 8=0) (k:Int) (hk:k<0∨hdN (headF bs i)≤k):Tr Tryz.prog 129 [ptr 0,.int .i64 i,.int .i64 k] (AL bs) (fun v K=>v=.tuple ⟨[.int .i64 0,.int .i64 (match headF bs i with | some _=>3 | none=>4)]⟩∧K=AL bs):=by
 have hH:=head_tr bs hb i h h8
 cases hh:headF bs i with
 | none =>
  rw [hh] at hH
  refine Tr.of row_object_num_ok rfl ?_
  repeat' (first|refine qN ?_|refine dN ?_|refine dR ?_|refine d0 ?_|refine rT ?_|refine qT ?_|refine qU ?_|refine qL ?_|refine qK ?_|refine iF (fun h=>?_) (fun h=>?_)|refine cP [0,1] (hH) ?_|refine aI (hn:=?_)|refine qR ?_|refine qS ?_|exact ⟨rfl,rfl⟩|fail)
 | some x =>
  obtain ⟨r,n⟩:=x
  rw [hh] at hH hk
  have hF:=field_no i k n r hk
  refine Tr.of row_object_num_ok rfl ?_
  repeat' (first|refine qN ?_|refine dN ?_|refine dR ?_|refine d0 ?_|refine rT ?_|refine qT ?_|refine qU ?_|refine qL ?_|refine qK ?_|refine iF (fun h=>?_) (fun h=>?_)|refine cP [0,1] (hH) ?_|refine cP [] (hF) ?_|refine aI (hn:=?_)|refine qR ?_|refine qS ?_|exact ⟨rfl,rfl⟩|fail)
theorem objRef_tr (bs:Bytes) (hb:bs.length≤65536) (i:Nat) (h8:i % 8=0) {r n:Nat} (hh:headF bs i=some (r,n)) (hle:i+8*(1+r+n)≤bs.length) (k:Nat) (hk:k<r):Tr Tryz.prog 147 [ptr 0,.int .i64 i,.int .i64 k] (AL bs) (fun v K=>v=.tuple ⟨[.int .i64 (refI (wordB bs (i+8*(1+k)))),.int .i64 0]⟩∧K=AL bs):=by
 have hR:=ref_ok bs hb i (by omega) h8 hh k hk
 rw [show i+8*(1+0+k)=i+8*(1+k) by omega] at hR
 have hA:=arenaWord_ok bs hb (i+8*(1+k)) (by omega) (by omega)
 refine Tr.of row_object_Ref_ok rfl ?_
 repeat' (first|refine qN ?_|refine dN ?_|refine dR ?_|refine d0 ?_|refine rT ?_|refine qT ?_|refine qU ?_|refine qL ?_|refine qK ?_|refine iF (fun h=>?_) (fun h=>?_)|refine cP [0,1] (hR) ?_|refine cP [0,1] (hA) ?_|refine S_Q [] rfl rfl (QY.cvWI rfl) ?_|refine S_Q [] rfl rfl (QY.arith rfl rfl (congrArg (fun z=>some (Value.int .i64 z)) (refI_wrap _)) rfl) ?_|refine aS ?_|refine aI (hn:=?_)|refine qR ?_|refine qS ?_|exact ⟨rfl,rfl⟩|fail)
set_option maxHeartbeats 1000000 in
theorem objSetRef_tr (bs:Bytes) (hb:bs.length≤65536) (i:Nat) (h:i+8≤bs.length) (h8:i % 8=0) (k to:Int) (hto : -9223372036854775808≤to∧to≤9223372036854775807):Tr Tryz.prog 61 [ptr 0,.int .i64 i,.int .i64 k,.int .i64 to] (AL bs) (fun v K=>v=.int .i64 (setRefE bs i k to)∧K=AL (setRefB bs i k to)):=by
 refine Tr.of row_object_SetRef_ok rfl ?_
 by_cases hk:k<0∨hdR (headF bs i)≤k
 ·have hR:=ref_no bs hb i h h8 k hk
  have e1:setRefB bs i k to=bs:=by
   unfold setRefB
   cases hh:headF bs i with
   | none=>rfl
   | some x=>rw [hh] at hk; exact if_neg (fun e=>by simp [hdR] at hk; omega)
  have e2:setRefE bs i k to=(match headF bs i with | some _=>3 | none=>4):=by
   unfold setRefE
   cases hh:headF bs i with
   | none=>rfl
   | some x=>rw [hh] at hk; exact if_neg (fun e=>by simp [hdR] at hk; omega)
  rw [e1,e2]
  cases hh:headF bs i with
  | none=>rw [hh] at hR; (repeat' (first|refine qN ?_|refine dN ?_|refine dR ?_|refine d0 ?_|refine qB ?_|refine rT ?_|refine qT ?_|refine qU ?_|refine qL ?_|refine qK ?_|refine iF (fun h=>?_) (fun h=>?_)|refine cP [0,1] (hR) ?_|refine aA ?_|refine aI (hn:=?_)|refine sP 25 (fun h=>?_) (fun h=>?_)|refine qR ?_|refine qS ?_|exact ⟨rfl,rfl⟩|fail))
  | some x=>rw [hh] at hR; (repeat' (first|refine qN ?_|refine dN ?_|refine dR ?_|refine d0 ?_|refine qB ?_|refine rT ?_|refine qT ?_|refine qU ?_|refine qL ?_|refine qK ?_|refine iF (fun h=>?_) (fun h=>?_)|refine cP [0,1] (hR) ?_|refine aA ?_|refine aI (hn:=?_)|refine sP 25 (fun h=>?_) (fun h=>?_)|refine qR ?_|refine qS ?_|exact ⟨rfl,rfl⟩|fail))
 ·obtain ⟨k,rfl⟩:=Int.eq_ofNat_of_zero_le (by omega:0≤k)
  cases hh:headF bs i with
  | none=>rw [hh] at hk; simp [hdR] at hk
  | some x =>
   obtain ⟨r,n⟩:=x
   rw [hh] at hk
   simp [hdR] at hk
   obtain ⟨_,_,hle,_⟩:=headF_some hh
   have hR:=ref_ok bs hb i h h8 hh k hk
   rw [show i+8*(1+0+k)=i+8*(1+k) by omega] at hR
   have hA:=arenaSetWord_ok bs hb (i+8*(1+k)) (by omega) (by omega) (BitVec.ofInt 64 (to+1))
   by_cases ht : -1≤to∧to≤2147483647
   ·have e1:setRefB bs i k to=overB bs (i+8*(1+k)) (putB (BitVec.ofInt 64 (to+1)) 8):=by
     unfold setRefB; rw [hh]; exact if_pos ⟨by omega,by omega,ht⟩
    have e2:setRefE bs i k to=0:=by unfold setRefE; rw [hh]; simp only; rw [if_pos ⟨by omega,by omega⟩,if_pos ht]
    rw [e1,e2,AL_over (by rw [putB_length]; omega)]
    rw [AL_over (by rw [putB_length]; omega)] at hA
    repeat' (first|refine qN ?_|refine dN ?_|refine dR ?_|refine d0 ?_|refine qB ?_|refine rT ?_|refine qT ?_|refine qU ?_|refine qL ?_|refine qK ?_|refine iF (fun h=>?_) (fun h=>?_)|refine cP [0,1] (hR) ?_|refine S_Q [] rfl rfl (QY.cvIW rfl) ?_|(refine cF [0,1] (hA) ?_; conv=>whnf)|refine aA ?_|refine aI (hn:=?_)|refine sP 25 (fun h=>?_) (fun h=>?_)|refine qR ?_|refine qS ?_|exact ⟨rfl,rfl⟩|fail)
    all_goals (exfalso; omega)
   ·have e1:setRefB bs i k to=bs:=by unfold setRefB; rw [hh]; exact if_neg fun e=>ht ⟨e.2.2.1,e.2.2.2⟩
    have e2:setRefE bs i k to=1:=by unfold setRefE; rw [hh]; simp only; rw [if_pos ⟨by omega,by omega⟩,if_neg ht]
    rw [e1,e2]
    repeat' (first|refine qN ?_|refine dN ?_|refine dR ?_|refine d0 ?_|refine qB ?_|refine rT ?_|refine qT ?_|refine qU ?_|refine qL ?_|refine qK ?_|refine iF (fun h=>?_) (fun h=>?_)|refine cP [0,1] (hR) ?_|refine aA ?_|refine aI (hn:=?_)|refine sP 25 (fun h=>?_) (fun h=>?_)|refine qR ?_|refine qS ?_|exact ⟨rfl,rfl⟩|fail)
    all_goals (exfalso; omega)
set_option maxHeartbeats 1000000 in
theorem objSetNum_tr (bs:Bytes) (hb:bs.length≤65536) (i:Nat) (h:i+8≤bs.length) (h8:i % 8=0) (k:Int) (x:BitVec 64):Tr Tryz.prog 62 [ptr 0,.int .i64 i,.int .i64 k,.int .u64 (x.toNat:Int)] (AL bs) (fun v K=>v=.int .i64 (setNumE bs i k)∧K=AL (setNumB bs i k x)):=by
 refine Tr.of row_object_SetNum_ok rfl ?_
 by_cases hk:k<0∨hdN (headF bs i)≤k
 ·have hR:=num_no bs hb i h h8 k hk
  have e1:setNumB bs i k x=bs:=by
   unfold setNumB
   cases hh:headF bs i with
   | none=>rfl
   | some x=>rw [hh] at hk; exact if_neg (fun e=>by simp [hdN] at hk; omega)
  have e2:setNumE bs i k=(match headF bs i with | some _=>3 | none=>4):=by
   unfold setNumE
   cases hh:headF bs i with
   | none=>rfl
   | some x=>rw [hh] at hk; exact if_neg (fun e=>by simp [hdN] at hk; omega)
  rw [e1,e2]
  cases hh:headF bs i with
  | none=>rw [hh] at hR; (repeat' (first|refine qN ?_|refine dN ?_|refine dR ?_|refine d0 ?_|refine rT ?_|refine qT ?_|refine qU ?_|refine qL ?_|refine qK ?_|refine iF (fun h=>?_) (fun h=>?_)|refine cP [0,1] (hR) ?_|refine aI (hn:=?_)|refine qR ?_|refine qS ?_|exact ⟨rfl,rfl⟩|fail))
  | some x=>rw [hh] at hR; (repeat' (first|refine qN ?_|refine dN ?_|refine dR ?_|refine d0 ?_|refine rT ?_|refine qT ?_|refine qU ?_|refine qL ?_|refine qK ?_|refine iF (fun h=>?_) (fun h=>?_)|refine cP [0,1] (hR) ?_|refine aI (hn:=?_)|refine qR ?_|refine qS ?_|exact ⟨rfl,rfl⟩|fail))
 ·obtain ⟨k,rfl⟩:=Int.eq_ofNat_of_zero_le (by omega:0≤k)
  cases hh:headF bs i with
  | none=>rw [hh] at hk; simp [hdN] at hk
  | some y =>
   obtain ⟨r,n⟩:=y
   rw [hh] at hk
   simp [hdN] at hk
   obtain ⟨_,_,hle,_⟩:=headF_some hh
   have hR:=num_ok bs hb i h h8 hh k hk
   have hA:=arenaSetWord_ok bs hb (i+8*(1+r+k)) (by omega) (by omega) x
   have e1:setNumB bs i k x=overB bs (i+8*(1+r+k)) (putB x 8):=by
    unfold setNumB; rw [hh]; exact if_pos ⟨by omega,by omega⟩
   have e2:setNumE bs i k=0:=by unfold setNumE; rw [hh]; exact if_pos ⟨by omega,by omega⟩
   rw [e1,e2,AL_over (by rw [putB_length]; omega)]
   rw [AL_over (by rw [putB_length]; omega)] at hA
   repeat' (first|refine qN ?_|refine dN ?_|refine dR ?_|refine d0 ?_|refine rT ?_|refine qT ?_|refine qU ?_|refine qL ?_|refine qK ?_|refine iF (fun h=>?_) (fun h=>?_)|refine cP [0,1] (hR) ?_|(refine cF [0,1] (hA) ?_; conv=>whnf)|refine aI (hn:=?_)|refine qR ?_|refine qS ?_|exact ⟨rfl,rfl⟩|fail)
end Go.Proofs.YthmdialagibpfaaGreatDoor
end
section
namespace Go.Tum.Base
open Go Go.Tum
def szC:Nat→Nat
 | 0=>16
 | 1=>32
 | 2=>64
 | _=>128
theorem sizeC_sz {c:Nat} (h:c<4):sizeC c=szC c:=by
 obtain rfl | rfl | rfl | rfl:c=0∨c=1∨c=2∨c=3:=by omega
 all_goals rfl
theorem szC_cases (c:Nat):szC c=16∨szC c=32∨szC c=64∨szC c=128:=by unfold szC; split <;> simp
end Go.Tum.Base
namespace Go.Proofs.YthmdialagibpfaaGreatDoor
open Go Go.Tum Go.Tum.Base
set_option maxRecDepth 4000
set_option maxHeartbeats 1000000 in
theorem objRefs_tr (bs:Bytes) (hb:bs.length≤65536) (i:Nat) (h:i+8≤bs.length) (h8:i % 8=0):Tr Tryz.prog 81 [ptr 0,.int .i64 i] (AL bs) (fun v K=>v=.tuple ⟨[.slice (some ⟨2,0,none⟩) (refsF bs i).length (refsF bs i).length,.int .i64 (hdE (headF bs i))]⟩∧K=AL bs++[.gro 1 (rowsC intC (refsF bs i))]):=by
 have hH:=head_tr bs hb i h h8
 refine Tr.of row_object_Refs_ok rfl ?_
 cases hh:headF bs i with
 | none =>
  rw [hh] at hH
  rw [show refsF bs i=[] by unfold refsF; rw [hh]]
  repeat' (first|refine qN ?_|refine dN ?_|refine d0 ?_|refine qB ?_|refine qT ?_|refine qU ?_|refine qL ?_|refine qK ?_|refine qF ?_|refine qE ?_|refine iF (fun h=>?_) (fun h=>?_)|refine cP [0,1] (hH) ?_|refine aA ?_|refine aI (hn:=?_)|refine qR ?_|refine qS ?_|exact ⟨rfl,rfl⟩|fail)
  refine LWp.nilE 4 1 rfl ?_
  exact L_ret (RetQ.pick [0,1,3] rfl rfl rfl rfl ⟨rfl,rfl⟩)
 | some x =>
  obtain ⟨r,n⟩:=x
  obtain ⟨_,_,hle,hrn⟩:=headF_some hh
  rw [hh] at hH
  have hf:∃ f:Nat→Int,f=fun k=>refI (wordB bs (i+8*(1+k))):=⟨_,rfl⟩
  obtain ⟨f,hf⟩:=hf
  have hrf:refsF bs i=(List.range r).map f:=by unfold refsF; rw [hh,hf]
  rw [hrf]
  have hR:∀ k,k<r→Tr Tryz.prog 147 [ptr 0,.int .i64 i,.int .i64 k] (AL bs) (fun v K=>v=.tuple ⟨[.int .i64 (f k),.int .i64 0]⟩∧K=AL bs):=fun k hk=>by
   have:=objRef_tr bs hb i h8 hh (by omega) k hk
   rw [hf]; exact this
  repeat' (first|refine qN ?_|refine dN ?_|refine dR ?_|refine d0 ?_|refine qB ?_|refine rT ?_|refine qT ?_|refine qU ?_|refine qL ?_|refine qK ?_|refine qF ?_|refine qE ?_|refine iF (fun h=>?_) (fun h=>?_)|refine cP [0,1] (hH) ?_|refine aA ?_|refine aI (hn:=?_)|refine qR ?_|refine qS ?_|exact ⟨rfl,rfl⟩|fail)
  refine LWp.nilE 8 1 rfl (LWp.pick [0,1,8,22,23] [0,1,3] rfl rfl rfl (L_loop (fun q l L=>∃ k:Nat,q=r-k∧k≤r∧l=[(0,ptr 0),(1,.int .i64 i),(8,.slice (some ⟨2,0,none⟩) k k),(22,.int .i64 r),(23,.int .i64 k)]∧L=AL bs++[.gro 1 (rowsC intC ((List.range k).map f))]) r ⟨0,rfl,by omega,rfl,rfl⟩ ?_))
  rintro q _ _ ⟨k,rfl,hk,rfl,rfl⟩
  first|refine L_seq (L_rs (S_done [] rfl (Nx.goL (iF (fun h=>L_skip (Nx.goL ?_)) (fun h=>L_exit ?_)))))|refine L_rs (S_done [] rfl (Nx.goL (L_seq (iF (fun h=>L_skip (Nx.goL ?_)) (fun h=>L_exit ?_)))))
  ·have hkr:k<r:=by omega
   have hRk:=hR k hkr
   repeat' (first|refine qN ?_|refine dN ?_|refine dR ?_|refine d0 ?_|refine qB ?_|refine rT ?_|refine qT ?_|refine qU ?_|refine qL ?_|refine qK ?_|refine qF ?_|refine qE ?_|refine iF (fun h=>?_) (fun h=>?_)|refine cP [0,1] (hRk) ?_|refine aA ?_|refine aI (hn:=?_)|refine qR ?_|refine qS ?_|exact ⟨rfl,rfl⟩|fail)
   first|refine L_rs ?_|refine L_reg ?_ | skip
   refine eE rfl rfl (EW.appR1 (bytes:=8) (a:=f k) intC_ok rfl (by kernel_rfl) rfl rfl rfl rfl (by simp) (by omega)) ?_
   conv=>whnf
   repeat' (first|refine qN ?_|refine dN ?_|refine dR ?_|refine d0 ?_|refine qB ?_|refine rT ?_|refine qT ?_|refine qU ?_|refine qL ?_|refine qK ?_|refine qF ?_|refine qE ?_|refine iF (fun h=>?_) (fun h=>?_)|refine aA ?_|refine aI (hn:=?_)|refine qR ?_|refine qS ?_|exact ⟨rfl,rfl⟩|fail)
   refine Nx.pick [0,1,8,22,23] [0,1,4] rfl rfl rfl ⟨r-(k+1),by omega,k+1,rfl,by omega,rfl,?_⟩
   rw [List.range_succ,List.map_append]; rfl
  ·obtain rfl:k=r:=by omega
   refine Nx.goL ?_
   repeat' (first|refine qN ?_|refine dN ?_|refine d0 ?_|refine qB ?_|refine qT ?_|refine qU ?_|refine qL ?_|refine qK ?_|refine qF ?_|refine qE ?_|refine iF (fun h=>?_) (fun h=>?_)|refine aA ?_|refine aI (hn:=?_)|refine qR ?_|refine qS ?_|exact ⟨rfl,rfl⟩|fail)
   exact L_ret (RetQ.pick [0,1,2] rfl rfl rfl rfl ⟨by rw [List.length_map,List.length_range]; rfl,rfl⟩)
theorem slots_tr (c:Nat) (hc:c<4):Tr Tryz.prog 165 [.int .i64 c] [] (fun v K=>v=.int .i64 ((256 / szC c:Nat):Int)∧K=[]):=by
 have h1:=may_tr c
 have h2:=Size_tr c
 rw [decide_eq_true ⟨by omega,by omega⟩] at h1
 rw [sizeC_sz hc] at h2
 have h3:=szC_cases c
 generalize szC c=s at *
 refine Tr.of row_class_Slots_ok rfl ?_
 repeat' (first|refine qN ?_|refine dN ?_|refine dR ?_|refine d0 ?_|refine rT ?_|refine qT ?_|refine qU ?_|refine qL ?_|refine qK ?_|refine iF (fun h=>?_) (fun h=>?_)|refine cP [] (h1) ?_|refine cP [] (h2) ?_|refine S_Q [] rfl rfl (QY.divN (c:=((256 / s:Nat):Int)) rfl rfl (Int.natCast_ediv 256 s).symm (by omega) (by omega)) ?_|refine aI (hn:=?_)|refine aD ?_|refine qR ?_|refine qS ?_|exact ⟨rfl,rfl⟩|fail)
theorem base_tr (p c k:Nat) (hp:p<256) (hc:c<4) (hk:k<256 / szC c):Tr Tryz.prog 111 [.int .i64 p,.int .i64 c,.int .i64 k] [] (fun v K=>v=.int .i64 ((256*p+szC c*k:Nat):Int)∧K=[]):=by
 have h1:=slots_tr c hc
 have h2:=Size_tr c
 rw [sizeC_sz hc] at h2
 have h3:=szC_cases c
 have h4:szC c*k≤256:=by
  have:k*szC c≤256:=Nat.le_trans (Nat.mul_le_mul_right _ (Nat.le_of_lt hk)) (Nat.div_mul_le_self _ _)
  rw [Nat.mul_comm]; exact this
 generalize 256 / szC c=m at hk h1
 generalize szC c=s at *
 have hk2:k≤256:=by rcases h3 with e | e | e | e <;> rw [e] at h4 <;> omega
 refine Tr.of row_class_Base_ok rfl ?_
 repeat' (first|refine qN ?_|refine dN ?_|refine dR ?_|refine d0 ?_|refine rT ?_|refine qT ?_|refine qU ?_|refine qL ?_|refine qK ?_|refine iF (fun h=>?_) (fun h=>?_)|refine cP [] (h1) ?_|refine cP [] (h2) ?_|refine S_Q [] rfl rfl (QY.mul (c:=((s*k:Nat):Int)) rfl rfl (Int.natCast_mul s k).symm (by omega) (by omega)) ?_|refine aA ?_|refine aI (hn:=?_)|refine aM ?_|refine sP 9 (fun h=>?_) (fun h=>?_)|refine sP 13 (fun h=>?_) (fun h=>?_)|refine sP 17 (fun h=>?_) (fun h=>?_)|refine qR ?_|refine qS ?_|exact ⟨rfl,rfl⟩|fail)
 all_goals first | (exfalso; omega)|(refine ⟨congrArg (Value.int _) ?_,rfl⟩; omega)
end Go.Proofs.YthmdialagibpfaaGreatDoor
end
section
namespace Go.Tum.Base
open Go Go.Tum
structure PRow where
 kind:Int
 cls:Int
 owner:Int
 run:Int
deriving DecidableEq
def PRow.cells (r:PRow):List Value:=[.int .i64 r.kind,.int .i64 r.cls,.int .i64 r.owner,.int .i64 r.run]
theorem PRow.ok:RowOk PRow.cells 4:=⟨fun _=>rfl,fun _=>rfl⟩
def PRow.Z:PRow:=⟨0,0,0,0⟩
abbrev PRows:=List PRow
def firstP (r:PRow):Bool:=decide (r.kind=1∨r.kind=2∨r.kind=4)
def freeP (r:PRow):Bool:=decide (r=PRow.Z)
def pAt (rs:PRows) (a:Int):PRow:=if a<0 then PRow.Z else rs.getD a.toNat PRow.Z
def placeP (rs:PRows) (n:Int):Nat→Nat→Int→Option Int
 | 0,_,_=>none
 | f+1,k,run=>let run':=if freeP (rs.getD k PRow.Z) then run+1 else 0; if run'=n then some (k-n+1) else placeP rs n f (k+1) run'
def longP (rs:PRows):Nat→Nat→Int→Int→Int
 | 0,_,_,best=>best
 | f+1,k,run,best=>let run':=if freeP (rs.getD k PRow.Z) then run+1 else 0; longP rs f (k+1) run' (max best run')
def lrow (M:Int):PRow:=⟨2,0,0,M⟩
def tailP:PRow:=⟨3,0,0,0⟩
def layP (rs:PRows) (a:Nat) (r:PRow) (m:Nat):PRows:=rs.take a++(r::List.replicate (m-1) tailP)++rs.drop (a+m)
theorem layP_length {rs:PRows} {a m:Nat} {r:PRow} (h:a+m≤rs.length) (hm:1≤m):(layP rs a r m).length=rs.length:=by simp [layP]; omega
def clearP (rs:PRows) (a m:Nat):PRows:=rs.take a++List.replicate m PRow.Z++rs.drop (a+m)
theorem clearP_length {rs:PRows} {a m:Nat} (h:a+m≤rs.length):(clearP rs a m).length=rs.length:=by simp [clearP]; omega
theorem lay_snoc {rs:PRows} {a j:Nat} {r:PRow} (hj:1≤j) (h:a+j<rs.length):(layP rs a r j).set (a+j) tailP=layP rs a r (j+1):=by
 have e1:layP rs a r j=(rs.take a++(r::List.replicate (j-1) tailP))++rs.drop (a+j):=rfl
 have e2:(rs.take a++(r::List.replicate (j-1) tailP)).length=a+j:=by simp; omega
 have e3:rs.drop (a+j)=rs[a+j]::rs.drop (a+j+1):=List.drop_eq_getElem_cons h
 rw [e1,List.set_append_right _ _ (by omega),e2,Nat.sub_self,e3,List.set_cons_zero,layP,List.append_assoc,List.append_assoc]
 congr 1
 rw [show j+1-1=(j-1)+1 by omega,List.replicate_succ',List.cons_append,List.cons_append,List.append_assoc]
 rfl
end Go.Tum.Base
namespace Go.Proofs.YthmdialagibpfaaGreatDoor
open Go Go.Tum Go.Tum.Base
set_option maxRecDepth 4000
def TL (rs:PRows):LH:=[.cells 0 [slB 1 rs.length],.gro 4 (rowsC PRow.cells rs)]
theorem pagesNew_tr (p:Int) (n:Nat) (hn:min (max p 0) 256=n):Tr Tryz.prog 92 [.int .i64 p] [] (fun v K=>v=ptr 0∧K=TL (List.replicate n PRow.Z)):=by
 have hn':(imm false (imm true p 0) 256)=n:=hn
 refine Tr.of row_pages_New_ok rfl ?_
 repeat' (first|refine qN ?_|refine dN ?_|refine dR ?_|refine d0 ?_|refine rT ?_|refine aI (hn:=?_)|refine qR ?_|refine qS ?_|exact ⟨rfl,rfl⟩|fail)
 first|refine L_rs ?_|refine L_reg ?_ | skip
 refine eE rfl rfl (EW.mk (sz:=4) (bytes:=32) (k:=n) (zs:=PRow.Z.cells) rfl (by kernel_rfl) (by rw [← hn']; rfl) (by rw [← hn']; rfl) (by omega) (by omega)) ?_
 conv=>whnf
 repeat' (first|refine qN ?_|refine dN ?_|refine dR ?_|refine d0 ?_|refine rT ?_|refine aI (hn:=?_)|refine qR ?_|refine qS ?_|exact ⟨rfl,rfl⟩|fail)
 refine L_ret (RetQ.pick [1,0] rfl rfl rfl rfl ⟨rfl,?_⟩)
 rw [repC_rows PRow.Z,TL,List.length_replicate]
 rfl
theorem pagesLen_tr (rs:PRows):Tr Tryz.prog 141 [ptr 0] (TL rs) (fun v K=>v=.int .i64 rs.length∧K=TL rs):=by
 refine Tr.of row_pages_Table_Len_ok rfl ?_
 repeat' (first|refine qN ?_|refine dN ?_|refine dR ?_|refine d0 ?_|refine rT ?_|refine qT ?_|refine qU ?_|refine qL ?_|refine qK ?_|refine iF (fun h=>?_) (fun h=>?_)|refine aI (hn:=?_)|refine qR ?_|refine qS ?_|exact ⟨rfl,rfl⟩|fail)
theorem pagesRow_tr (rs:PRows) (a:Int):Tr Tryz.prog 142 [ptr 0,.int .i64 a] (TL rs) (fun v K=>v=.agg ⟨(pAt rs a).cells⟩∧K=TL rs):=by
 refine Tr.of row_pages_Table_Row_ok rfl ?_
 by_cases h0:a<0
 ·rw [show pAt rs a=PRow.Z by unfold pAt; rw [if_pos h0]]
  repeat' (first|refine qN ?_|refine dN ?_|refine dR ?_|refine d0 ?_|refine rT ?_|refine qT ?_|refine qU ?_|refine qL ?_|refine qK ?_|refine iF (fun h=>?_) (fun h=>?_)|refine aX ?_|refine aI (hn:=?_)|refine sP 7 (fun h=>?_) (fun h=>?_)|refine qR ?_|refine qS ?_|exact ⟨rfl,rfl⟩|fail)
  all_goals try (exfalso; omega)
 ·obtain ⟨k,rfl⟩:=Int.eq_ofNat_of_zero_le (Int.not_lt.1 h0)
  rw [show pAt rs k=rs.getD k PRow.Z by unfold pAt; rw [if_neg h0,Int.toNat_natCast]]
  repeat' (first|refine qN ?_|refine dN ?_|refine dR ?_|refine d0 ?_|refine rT ?_|refine qT ?_|refine qU ?_|refine qL ?_|refine qK ?_|refine iF (fun h=>?_) (fun h=>?_)|refine aX ?_|refine aI (hn:=?_)|refine sP 7 (fun h=>?_) (fun h=>?_)|refine qR ?_|refine qS ?_|exact ⟨rfl,rfl⟩|fail)
  all_goals try (exfalso; omega)
  first|refine L_rs ?_|refine L_reg ?_ | skip
  refine cP [0,1] (pagesLen_tr rs) ?_
  repeat' (first|refine qN ?_|refine dN ?_|refine dR ?_|refine d0 ?_|refine rT ?_|refine qT ?_|refine qU ?_|refine qL ?_|refine qK ?_|refine iF (fun h=>?_) (fun h=>?_)|refine aX ?_|refine aI (hn:=?_)|refine sP 7 (fun h=>?_) (fun h=>?_)|refine qR ?_|refine qS ?_|exact ⟨rfl,rfl⟩|fail)
  ·refine ⟨?_,rfl⟩
   rw [List.getD_eq_getElem?_getD,List.getElem?_eq_none (by omega)]; rfl
  ·have hk:k<rs.length:=by omega
   refine S_Q [] rfl rfl (QY.ldRow PRow.ok rfl rfl (List.getElem?_eq_getElem hk) (by decide)) ?_
   repeat' (first|refine qN ?_|refine dN ?_|refine dR ?_|refine d0 ?_|refine rT ?_|refine qT ?_|refine qU ?_|refine qL ?_|refine qK ?_|refine iF (fun h=>?_) (fun h=>?_)|refine aX ?_|refine aI (hn:=?_)|refine sP 7 (fun h=>?_) (fun h=>?_)|refine qR ?_|refine qS ?_|exact ⟨rfl,rfl⟩|fail)
   refine ⟨?_,rfl⟩
   rw [List.getD_eq_getElem?_getD,List.getElem?_eq_getElem hk]; rfl
theorem free_tr (r:PRow):Tr Tryz.prog 180 [.agg ⟨r.cells⟩] [] (fun v K=>v=.bool (freeP r)∧K=[]):=by
 refine Tr.of row_pages_Row_free_ok rfl ?_
 repeat' (first|refine qN ?_|refine dN ?_|refine dR ?_|refine d0 ?_|refine rT ?_|refine qR ?_|refine qS ?_|exact ⟨rfl,rfl⟩|fail)
 refine S_Q [] rfl rfl (QY.eqlS (bs:=[r.kind == 0,r.cls == 0,r.owner == 0,r.run == 0]) rfl rfl rfl (by kernel_rfl)) ?_
 repeat' (first|refine qN ?_|refine dN ?_|refine dR ?_|refine d0 ?_|refine rT ?_|refine qR ?_|refine qS ?_|exact ⟨rfl,rfl⟩|fail)
 refine ⟨congrArg Value.bool ?_,rfl⟩
 obtain ⟨a,b,c,d⟩:=r
 simp only [freeP,PRow.Z,List.all_cons,List.all_nil,id,Bool.and_true]
 rw [Bool.eq_iff_iff]
 simp [PRow.mk.injEq]
theorem first_tr (r:PRow):Tr Tryz.prog 162 [.agg ⟨r.cells⟩] [] (fun v K=>v=.bool (firstP r)∧K=[]):=by
 refine Tr.of row_pages_Row_first_ok rfl ?_
 repeat' (first|refine qN ?_|refine dN ?_|refine dR ?_|refine d0 ?_|refine rT ?_|refine aI (hn:=?_)|refine sP 6 (fun h=>?_) (fun h=>?_)|refine sP 11 (fun h=>?_) (fun h=>?_)|refine qR ?_|refine qS ?_|exact ⟨rfl,rfl⟩|fail)
 all_goals
  refine ⟨congrArg Value.bool ?_,rfl⟩
  first | (simp [firstP, *]; done) | (rw [Bool.eq_iff_iff]; simp [firstP, *])
theorem cut_tr (rs:PRows) (lo hi:Int):Tr Tryz.prog 163 [ptr 0,.int .i64 lo,.int .i64 hi] (TL rs) (fun v K=>v=.tuple ⟨[.int .i64 (max lo 0),.int .i64 (max (max lo 0) (min hi rs.length))]⟩∧K=TL rs):=by
 refine Tr.of row_pages_Table_cut_ok rfl ?_
 repeat' (first|refine qN ?_|refine dN ?_|refine dR ?_|refine d0 ?_|refine rT ?_|refine aI (hn:=?_)|refine qR ?_|refine qS ?_|exact ⟨rfl,rfl⟩|fail)
 first|refine L_rs ?_|refine L_reg ?_ | skip
 refine cP [0,1] (pagesLen_tr rs) ?_
 repeat' (first|refine qN ?_|refine dN ?_|refine dR ?_|refine d0 ?_|refine rT ?_|refine aI (hn:=?_)|refine qR ?_|refine qS ?_|exact ⟨rfl,rfl⟩|fail)
theorem getD_at {rs:PRows} {k:Nat} (h:k<rs.length):rs.getD k PRow.Z=rs[k]:=by rw [List.getD_eq_getElem?_getD,List.getElem?_eq_getElem h]; rfl
set_option maxHeartbeats 1000000 in
theorem place_tr (rs:PRows) (lo hi:Nat) (n:Int) (h1:lo≤hi) (h2:hi≤rs.length) (h3:rs.length≤256) (hn:0≤n∧n≤256):Tr Tryz.prog 164 [ptr 0,.int .i64 lo,.int .i64 hi,.int .i64 n] (TL rs) (fun v K=>v=(match placeP rs n (hi-lo) lo 0 with
  | some a=>.tuple ⟨[.int .i64 a,.bool true]⟩
  | none=>.tuple ⟨[.int .i64 0,.bool false]⟩)∧K=TL rs):=by
 refine Tr.of row_pages_Table_place_ok rfl ?_
 refine L_rs (S_done [] rfl (Nx.goL (L_rs (S_done [] rfl (Nx.goL ?_)))))
 refine L_cut (fun l L=>placeP rs n (hi-lo) lo 0=none∧l=[]∧L=TL rs) ?_ ?_
 ·refine L_rs (S_done [] rfl (Nx.pick [0,2,3,10,11] [0,1] rfl rfl rfl ?_))
  refine L_block (L_loop (fun r l L=>∃ (k:Nat) (c:Int),r=hi-k∧lo≤k∧k≤hi∧0≤c∧c≤k∧placeP rs n (hi-lo) lo 0=placeP rs n (hi-k) k c∧l=[(0,ptr 0),(2,.int .i64 hi),(3,.int .i64 n),(10,.int .i64 c),(11,.int .i64 k)]∧L=TL rs) (hi-lo) ⟨lo,0,rfl,by omega,by omega,by omega,by omega,rfl,rfl,rfl⟩ ?_)
  rintro r _ _ ⟨k,c,rfl,hk1,hk2,hc1,hc2,hp,rfl,rfl⟩
  first|refine L_seq (L_rs (S_done [] rfl (Nx.goL (iF (fun h=>L_skip (Nx.goL ?_)) (fun h=>L_exit ?_)))))|refine L_rs (S_done [] rfl (Nx.goL (L_seq (iF (fun h=>L_skip (Nx.goL ?_)) (fun h=>L_exit ?_)))))
  ·have hk:k<rs.length:=by omega
   rw [show hi-k=(hi-(k+1))+1 by omega,placeP,getD_at hk] at hp
   refine L_seq (L_block (L_rs (S_Q [] rfl rfl (QY.add rfl rfl rfl (by omega) (by omega)) (S_done [] rfl (Nx.goL ?_)))))
   refine L_cut (fun l L=>l=[(0,ptr 0),(2,.int .i64 hi),(3,.int .i64 n),(10,.int .i64 (if freeP rs[k] then c+1 else 0)),(11,.int .i64 k)]∧L=TL rs) ?_ ?_
   ·repeat' (first|refine qN ?_|refine dN ?_|refine dR ?_|refine d0 ?_|refine qB ?_|refine rT ?_|refine qT ?_|refine qU ?_|refine qL ?_|refine qK ?_|refine qF ?_|refine qE ?_|refine iF (fun h=>?_) (fun h=>?_)|refine aX ?_|refine S_Q [] rfl rfl (QY.ldRow PRow.ok rfl rfl (List.getElem?_eq_getElem hk) (by decide)) ?_|refine aA ?_|refine aS ?_|refine aI (hn:=?_)|refine qR ?_|refine qS ?_|exact ⟨rfl,rfl⟩|fail)
    first|refine L_rs ?_|refine L_reg ?_ | skip
    refine cP [] (free_tr rs[k]) ?_
    repeat' (first|refine qN ?_|refine dN ?_|refine dR ?_|refine d0 ?_|refine qB ?_|refine rT ?_|refine qT ?_|refine qU ?_|refine qL ?_|refine qK ?_|refine qF ?_|refine qE ?_|refine iF (fun h=>?_) (fun h=>?_)|refine aX ?_|refine aA ?_|refine aS ?_|refine aI (hn:=?_)|refine qR ?_|refine qS ?_|exact ⟨rfl,rfl⟩|fail)
    ·exact Nx.pick [0,2,3,10,11] [0,1] rfl rfl rfl ⟨by rw [if_neg (by simpa [freeP] using h)]; rfl,rfl⟩
    ·exact Nx.pick [0,2,3,10,11] [0,1] rfl rfl rfl ⟨by rw [if_pos (by simpa [freeP] using h)]; rfl,rfl⟩
   ·rintro _ _ ⟨rfl,rfl⟩
    have hc':0≤(if freeP rs[k] then c+1 else 0)∧(if freeP rs[k] then c+1 else 0)≤k+1:=by split <;> omega
    generalize (if freeP rs[k] then c+1 else 0)=c' at hc' hp
    repeat' (first|refine qN ?_|refine dN ?_|refine dR ?_|refine d0 ?_|refine qB ?_|refine rT ?_|refine qT ?_|refine qU ?_|refine qL ?_|refine qK ?_|refine qF ?_|refine qE ?_|refine iF (fun h=>?_) (fun h=>?_)|refine aX ?_|refine aA ?_|refine aS ?_|refine aI (hn:=?_)|refine qR ?_|refine qS ?_|exact ⟨rfl,rfl⟩|fail)
    ·refine ⟨?_,rfl⟩
     rw [hp,if_pos h]; rfl
    ·rw [if_neg h] at hp
     exact Nx.pick [0,2,3,10,11] [0,1] rfl rfl rfl ⟨hi-(k+1),by omega,k+1,c',rfl,by omega,by omega,by omega,by omega,hp,rfl,rfl⟩
  ·obtain rfl:k=hi:=by omega
   rw [Nat.sub_self] at hp
   exact Nx.pick [] [0,1] rfl rfl rfl ⟨hp,rfl,rfl⟩
 ·rintro _ _ ⟨hq,rfl,rfl⟩
  repeat' (first|refine qN ?_|refine dN ?_|refine dR ?_|refine d0 ?_|refine qB ?_|refine rT ?_|refine qT ?_|refine qU ?_|refine qL ?_|refine qK ?_|refine qF ?_|refine qE ?_|refine iF (fun h=>?_) (fun h=>?_)|refine aX ?_|refine aA ?_|refine aS ?_|refine aI (hn:=?_)|refine qR ?_|refine qS ?_|exact ⟨rfl,rfl⟩|fail)
  refine ⟨?_,rfl⟩
  rw [hq]; rfl
def cutLo (lo:Int):Nat:=(max lo 0).toNat
def cutHi (rs:PRows) (lo hi:Int):Nat:=(max (max lo 0) (min hi rs.length)).toNat
theorem placeP_at {rs:PRows} {n:Int}:∀ {f k:Nat} {c a:Int},1≤n→0≤c→c≤k→k+f≤rs.length→placeP rs n f k c=some a→0≤a∧a+n≤rs.length
 | 0,_,_,_,_,_,_,_,h=>by cases h
 | f+1,k,c,a,h1,h2,h3,h4,h=>by
  simp only [placeP] at h
  generalize hc:(if freeP (rs.getD k PRow.Z) then c+1 else 0)=c' at h
  have hc':0≤c'∧c'≤k+1:=by rw [← hc]; split <;> omega
  split at h
  ·cases h; omega
  ·exact placeP_at (k:=k+1) h1 (by omega) (by omega) (by omega) h
set_option maxHeartbeats 1000000 in
theorem longest_tr (rs:PRows) (lo hi:Int) (h3:rs.length≤256):Tr Tryz.prog 137 [ptr 0,.int .i64 lo,.int .i64 hi] (TL rs) (fun v K=>v=.int .i64 (longP rs (cutHi rs lo hi-cutLo lo) (cutLo lo) 0 0)∧K=TL rs):=by
 have hC:=cut_tr rs lo hi
 obtain ⟨a,ha⟩:∃ a:Nat,max lo 0=a:=⟨(max lo 0).toNat,by omega⟩
 obtain ⟨b,hb⟩:∃ b:Nat,max (max lo 0) (min hi rs.length)=b:=⟨(max (max lo 0) (min hi rs.length)).toNat,by omega⟩
 have e1:cutLo lo=a:=by unfold cutLo; omega
 have e2:cutHi rs lo hi=b:=by unfold cutHi; omega
 rw [e1,e2]
 have hab:a≤b:=by omega
 have hbl:a=b∨b≤rs.length:=by omega
 rw [hb,ha] at hC
 clear hb ha e1 e2
 refine Tr.of row_pages_Table_Longest_ok rfl ?_
 refine L_rs (S_done [] rfl (Nx.goL ?_))
 first|refine L_rs ?_|refine L_reg ?_ | skip
 refine cP [0,1] (hC) ?_
 refine S_done [] rfl (Nx.goL (L_rs (S_done [] rfl (Nx.goL ?_))))
 refine L_cut (fun l L=>l=[(7,.int .i64 (longP rs (b-a) a 0 0))]∧L=TL rs) ?_ ?_
 ·refine L_rs (S_done [] rfl (Nx.pick [0,2,7,8,9] [0,1] rfl rfl rfl ?_))
  refine L_block (L_loop (fun r l L=>∃ (k:Nat) (c m:Int),r=b-k∧a≤k∧k≤b∧0≤c∧c≤k∧longP rs (b-a) a 0 0=longP rs (b-k) k c m∧l=[(0,ptr 0),(2,.int .i64 b),(7,.int .i64 m),(8,.int .i64 c),(9,.int .i64 k)]∧L=TL rs) (b-a) ⟨a,0,0,rfl,by omega,by omega,by omega,by omega,rfl,rfl,rfl⟩ ?_)
  rintro r _ _ ⟨k,c,m,rfl,hk1,hk2,hc1,hc2,hp,rfl,rfl⟩
  first|refine L_seq (L_rs (S_done [] rfl (Nx.goL (iF (fun h=>L_skip (Nx.goL ?_)) (fun h=>L_exit ?_)))))|refine L_rs (S_done [] rfl (Nx.goL (L_seq (iF (fun h=>L_skip (Nx.goL ?_)) (fun h=>L_exit ?_)))))
  ·have hk:k<rs.length:=by omega
   rw [show b-k=(b-(k+1))+1 by omega,longP,getD_at hk] at hp
   refine L_seq (L_block (L_rs (S_Q [] rfl rfl (QY.add rfl rfl rfl (by omega) (by omega)) (S_done [] rfl (Nx.goL ?_)))))
   refine L_cut (fun l L=>l=[(0,ptr 0),(2,.int .i64 b),(7,.int .i64 m),(8,.int .i64 (if freeP rs[k] then c+1 else 0)),(9,.int .i64 k)]∧L=TL rs) ?_ ?_
   ·repeat' (first|refine qN ?_|refine dN ?_|refine dR ?_|refine d0 ?_|refine qB ?_|refine rT ?_|refine qT ?_|refine qU ?_|refine qL ?_|refine qK ?_|refine qF ?_|refine qE ?_|refine iF (fun h=>?_) (fun h=>?_)|refine aX ?_|refine S_Q [] rfl rfl (QY.ldRow PRow.ok rfl rfl (List.getElem?_eq_getElem hk) (by decide)) ?_|refine aA ?_|refine aI (hn:=?_)|refine qR ?_|refine qS ?_|exact ⟨rfl,rfl⟩|fail)
    first|refine L_rs ?_|refine L_reg ?_ | skip
    refine cP [] (free_tr rs[k]) ?_
    repeat' (first|refine qN ?_|refine dN ?_|refine dR ?_|refine d0 ?_|refine qB ?_|refine rT ?_|refine qT ?_|refine qU ?_|refine qL ?_|refine qK ?_|refine qF ?_|refine qE ?_|refine iF (fun h=>?_) (fun h=>?_)|refine aX ?_|refine aA ?_|refine aI (hn:=?_)|refine qR ?_|refine qS ?_|exact ⟨rfl,rfl⟩|fail)
    ·exact Nx.pick [0,2,7,8,9] [0,1] rfl rfl rfl ⟨by rw [if_neg (by simpa [freeP] using h)]; rfl,rfl⟩
    ·exact Nx.pick [0,2,7,8,9] [0,1] rfl rfl rfl ⟨by rw [if_pos (by simpa [freeP] using h)]; rfl,rfl⟩
   ·rintro _ _ ⟨rfl,rfl⟩
    have hc':0≤(if freeP rs[k] then c+1 else 0)∧(if freeP rs[k] then c+1 else 0)≤k+1:=by split <;> omega
    generalize (if freeP rs[k] then c+1 else 0)=c' at hc' hp
    repeat' (first|refine qN ?_|refine dN ?_|refine dR ?_|refine d0 ?_|refine qB ?_|refine rT ?_|refine qT ?_|refine qU ?_|refine qL ?_|refine qK ?_|refine qF ?_|refine qE ?_|refine iF (fun h=>?_) (fun h=>?_)|refine aX ?_|refine aA ?_|refine aI (hn:=?_)|refine qR ?_|refine qS ?_|exact ⟨rfl,rfl⟩|fail)
    exact Nx.pick [0,2,7,8,9] [0,1] rfl rfl rfl ⟨b-(k+1),by omega,k+1,c',max m c',rfl,by omega,by omega,by omega,by omega,hp,rfl,rfl⟩
  ·obtain rfl:k=b:=by omega
   rw [Nat.sub_self] at hp
   exact Nx.pick [7] [0,1] rfl rfl rfl ⟨by rw [hp]; rfl,rfl⟩
 ·rintro _ _ ⟨rfl,rfl⟩
  repeat' (first|refine qN ?_|refine dN ?_|refine dR ?_|refine d0 ?_|refine qB ?_|refine rT ?_|refine qT ?_|refine qU ?_|refine qL ?_|refine qK ?_|refine qF ?_|refine qE ?_|refine iF (fun h=>?_) (fun h=>?_)|refine aX ?_|refine aA ?_|refine aI (hn:=?_)|refine qR ?_|refine qS ?_|exact ⟨rfl,rfl⟩|fail)
theorem cut_eqs (rs:PRows) (lo hi:Int) (hlo:lo≤rs.length):∃ a b:Nat,cutLo lo=a∧cutHi rs lo hi=b∧max lo 0=a∧max (max lo 0) (min hi rs.length)=b∧a≤b∧b≤rs.length:=by
 refine ⟨_,_,rfl,rfl,?_⟩
 unfold cutLo cutHi
 omega
set_option maxHeartbeats 2000000 in
theorem map_full (rs:PRows) (lo hi:Int) (hlo:lo≤rs.length) (r:PRow) (h3:rs.length≤256) (hr:firstP r=true) (hr1:1≤r.run∧r.run≤256) (hn:placeP rs r.run (cutHi rs lo hi-cutLo lo) (cutLo lo) 0=none):Tr Tryz.prog 110 [ptr 0,.int .i64 lo,.int .i64 hi,.agg ⟨r.cells⟩] (TL rs) (fun v K=>v=.tuple ⟨[.int .i64 0,.int .i64 5]⟩∧K=TL rs):=by
 have hC:=cut_tr rs lo hi
 obtain ⟨a,b,e1,e2,e3,e4,hab,hbl⟩:=cut_eqs rs lo hi hlo
 rw [e1,e2] at hn
 rw [e4,e3] at hC
 have hP:=place_tr rs a b r.run hab hbl h3 (by omega)
 rw [hn] at hP
 have hF:=first_tr r
 rw [hr] at hF
 refine Tr.of row_pages_Table_Map_ok rfl ?_
 repeat' (first|refine qN ?_|refine dN ?_|refine dR ?_|refine d0 ?_|refine qB ?_|refine rT ?_|refine qT ?_|refine qU ?_|refine qL ?_|refine qK ?_|refine qF ?_|refine qE ?_|refine iF (fun h=>?_) (fun h=>?_)|refine aX ?_|refine aA ?_|refine aI (hn:=?_)|refine sP 20 (fun h=>?_) (fun h=>?_)|refine sP 25 (fun h=>?_) (fun h=>?_)|refine qR ?_|refine qS ?_|exact ⟨rfl,rfl⟩|fail)
 first|refine L_rs ?_|refine L_reg ?_ | skip
 refine cP [] (hF) ?_
 repeat' (first|refine qN ?_|refine dN ?_|refine dR ?_|refine d0 ?_|refine qB ?_|refine rT ?_|refine qT ?_|refine qU ?_|refine qL ?_|refine qK ?_|refine qF ?_|refine qE ?_|refine iF (fun h=>?_) (fun h=>?_)|refine aX ?_|refine aA ?_|refine aI (hn:=?_)|refine sP 20 (fun h=>?_) (fun h=>?_)|refine sP 25 (fun h=>?_) (fun h=>?_)|refine qR ?_|refine qS ?_|exact ⟨rfl,rfl⟩|fail)
 all_goals try (exfalso; omega)
 first|refine L_rs ?_|refine L_reg ?_ | skip
 refine cP [0,1] (hC) ?_
 repeat' (first|refine qN ?_|refine dN ?_|refine dR ?_|refine d0 ?_|refine qB ?_|refine rT ?_|refine qT ?_|refine qU ?_|refine qL ?_|refine qK ?_|refine qF ?_|refine qE ?_|refine iF (fun h=>?_) (fun h=>?_)|refine aX ?_|refine qR ?_|refine qS ?_|exact ⟨rfl,rfl⟩|fail)
 first|refine L_rs ?_|refine L_reg ?_ | skip
 refine cP [0,1] (hP) ?_
 repeat' (first|refine qN ?_|refine dN ?_|refine dR ?_|refine d0 ?_|refine qB ?_|refine rT ?_|refine qT ?_|refine qU ?_|refine qL ?_|refine qK ?_|refine qF ?_|refine qE ?_|refine iF (fun h=>?_) (fun h=>?_)|refine aX ?_|refine qR ?_|refine qS ?_|exact ⟨rfl,rfl⟩|fail)
theorem lay_one {rs:PRows} {a:Nat} {r:PRow} (h:a<rs.length):rs.set a r=layP rs a r 1:=by
 rw [layP,List.set_eq_take_append_cons_drop,if_pos h]; simp
set_option maxHeartbeats 2000000 in
theorem map_ok (rs:PRows) (lo hi:Int) (hlo:lo≤rs.length) (r:PRow) (h3:rs.length≤256) (hr:firstP r=true) (A m:Nat) (hm:r.run=m) (hm1:1≤m) (hm2:m≤256) (hn:placeP rs r.run (cutHi rs lo hi-cutLo lo) (cutLo lo) 0=some (A:Int)):Tr Tryz.prog 110 [ptr 0,.int .i64 lo,.int .i64 hi,.agg ⟨r.cells⟩] (TL rs) (fun v K=>v=.tuple ⟨[.int .i64 A,.int .i64 0]⟩∧K=TL (layP rs A r m)):=by
 have hC:=cut_tr rs lo hi
 obtain ⟨a,b,e1,e2,e3,e4,hab,hbl⟩:=cut_eqs rs lo hi hlo
 rw [e1,e2] at hn
 rw [e4,e3] at hC
 have hA:=placeP_at (by omega) (by omega) (by omega) (by omega) hn
 have hP:=place_tr rs a b r.run hab hbl h3 (by omega)
 rw [hn] at hP
 have hF:=first_tr r
 rw [hr] at hF
 rw [TL,TL,layP_length (by omega) hm1]
 refine Tr.of row_pages_Table_Map_ok rfl ?_
 repeat' (first|refine qN ?_|refine dN ?_|refine dR ?_|refine d0 ?_|refine qB ?_|refine rT ?_|refine qT ?_|refine qU ?_|refine qL ?_|refine qK ?_|refine qF ?_|refine qE ?_|refine iF (fun h=>?_) (fun h=>?_)|refine aX ?_|refine aA ?_|refine aI (hn:=?_)|refine sP 20 (fun h=>?_) (fun h=>?_)|refine sP 25 (fun h=>?_) (fun h=>?_)|refine qR ?_|refine qS ?_|exact ⟨rfl,rfl⟩|fail)
 first|refine L_rs ?_|refine L_reg ?_ | skip
 refine cP [] (hF) ?_
 repeat' (first|refine qN ?_|refine dN ?_|refine dR ?_|refine d0 ?_|refine qB ?_|refine rT ?_|refine qT ?_|refine qU ?_|refine qL ?_|refine qK ?_|refine qF ?_|refine qE ?_|refine iF (fun h=>?_) (fun h=>?_)|refine aX ?_|refine aA ?_|refine aI (hn:=?_)|refine sP 20 (fun h=>?_) (fun h=>?_)|refine sP 25 (fun h=>?_) (fun h=>?_)|refine qR ?_|refine qS ?_|exact ⟨rfl,rfl⟩|fail)
 all_goals try (exfalso; omega)
 first|refine L_rs ?_|refine L_reg ?_ | skip
 refine cP [0,1] (hC) ?_
 repeat' (first|refine qN ?_|refine dN ?_|refine dR ?_|refine d0 ?_|refine qB ?_|refine rT ?_|refine qT ?_|refine qU ?_|refine qL ?_|refine qK ?_|refine qF ?_|refine qE ?_|refine iF (fun h=>?_) (fun h=>?_)|refine aX ?_|refine qR ?_|refine qS ?_|exact ⟨rfl,rfl⟩|fail)
 first|refine L_rs ?_|refine L_reg ?_ | skip
 refine cP [0,1] (hP) ?_
 repeat' (first|refine qN ?_|refine dN ?_|refine dR ?_|refine d0 ?_|refine qB ?_|refine rT ?_|refine qT ?_|refine qU ?_|refine qL ?_|refine qK ?_|refine qF ?_|refine qE ?_|refine iF (fun h=>?_) (fun h=>?_)|refine aX ?_|refine qR ?_|refine qS ?_|exact ⟨rfl,rfl⟩|fail)
 first|refine L_rs ?_|refine L_reg ?_ | skip
 refine eE rfl rfl (EW.stRow (k:=A) (a:=r) PRow.ok rfl rfl rfl (by omega) (by decide)) ?_
 conv=>whnf
 rw [lay_one (by omega)]
 refine S_done [] rfl (Nx.goL ?_)
 refine L_cut (fun l L=>l=[(10,.int .i64 A)]∧L=[.cells 0 [slB 1 rs.length],.gro 4 (rowsC PRow.cells (layP rs A r m)),.cells 0 r.cells]) ?_ ?_
 ·first|refine L_rs ?_|refine L_reg ?_ | skip
  refine S_Q [] rfl rfl (QY.add (c:=((A+1:Nat):Int)) rfl rfl (by omega) (by omega) (by omega)) ?_
  refine S_done [] rfl (Nx.pick [0,7,10,12] [0,1,2] rfl rfl rfl ?_)
  refine L_block (L_loop (fun q l L=>∃ j:Nat,q=m-j∧1≤j∧j≤m∧l=[(0,ptr 0),(7,ptr 2),(10,.int .i64 A),(12,.int .i64 ((A+j:Nat):Int))]∧L=[.cells 0 [slB 1 rs.length],.gro 4 (rowsC PRow.cells (layP rs A r j)),.cells 0 r.cells]) (m-1) ⟨1,rfl,by omega,by omega,rfl,rfl⟩ ?_)
  rintro q _ _ ⟨j,rfl,hj1,hj2,rfl,rfl⟩
  refine L_seq (L_rs (S_Q [] rfl rfl (QY.add (c:=((A+m:Nat):Int)) rfl rfl (by omega) (by omega) (by omega)) (S_done [] rfl (Nx.goL (L_ifp rfl (by first|exact bD|exact bE|exact bN|exact bNB|exact bEB|exact bNot bD|exact bNot bE|exact bNot bN|exact bNot bV|exact bV) (fun h=>L_skip (Nx.goL ?_)) (fun h=>L_exit ?_))))))
  ·have hl:=layP_length (rs:=rs) (a:=A) (m:=j) (r:=r) (by omega) hj1
   have hs:=lay_snoc (rs:=rs) (a:=A) (j:=j) (r:=r) hj1 (by omega)
   repeat' (first|refine qN ?_|refine dN ?_|refine dR ?_|refine d0 ?_|refine qB ?_|refine rT ?_|refine qT ?_|refine qU ?_|refine qL ?_|refine qK ?_|refine qF ?_|refine qE ?_|refine iF (fun h=>?_) (fun h=>?_)|refine aX ?_|refine qR ?_|refine qS ?_|exact ⟨rfl,rfl⟩|fail)
   first|refine L_rs ?_|refine L_reg ?_ | skip
   refine eE rfl rfl (EW.stRow (k:=A+j) (a:=tailP) PRow.ok rfl rfl rfl (by rw [hl]; omega) (by decide)) ?_
   conv=>whnf
   rw [hs]
   repeat' (first|refine qN ?_|refine dN ?_|refine dR ?_|refine d0 ?_|refine qB ?_|refine rT ?_|refine qT ?_|refine qU ?_|refine qL ?_|refine qK ?_|refine qF ?_|refine qE ?_|refine iF (fun h=>?_) (fun h=>?_)|refine aX ?_|refine aA ?_|refine aI (hn:=?_)|refine sP 20 (fun h=>?_) (fun h=>?_)|refine sP 25 (fun h=>?_) (fun h=>?_)|refine qR ?_|refine qS ?_|exact ⟨rfl,rfl⟩|fail)
   exact Nx.pick [0,7,10,12] [0,1,2] rfl rfl rfl ⟨m-(j+1),by omega,j+1,rfl,by omega,by omega,rfl,rfl⟩
  ·obtain rfl:j=m:=by omega
   exact Nx.pick [10] [0,1,2] rfl rfl rfl ⟨rfl,rfl⟩
 ·rintro _ _ ⟨rfl,rfl⟩
  repeat' (first|refine qN ?_|refine dN ?_|refine dR ?_|refine d0 ?_|refine qB ?_|refine rT ?_|refine qT ?_|refine qU ?_|refine qL ?_|refine qK ?_|refine qF ?_|refine qE ?_|refine iF (fun h=>?_) (fun h=>?_)|refine aX ?_|refine qR ?_|refine qS ?_|exact ⟨rfl,rfl⟩|fail)
theorem first_lt {rs:PRows} {a:Nat} (h:firstP (pAt rs a)=true):a<rs.length:=by
 rcases Nat.lt_or_ge a rs.length with h1 | h1
 ·exact h1
 ·unfold pAt at h
  rw [if_neg (by omega),Int.toNat_natCast,List.getD_eq_getElem?_getD,List.getElem?_eq_none h1] at h
  exact absurd h (by decide)
set_option maxHeartbeats 2000000 in
theorem unmap_ok (rs:PRows) (h3:rs.length≤256) (a m:Nat) (h:firstP (pAt rs a)=true) (hm:(pAt rs a).run=m) (hle:a+m≤rs.length):Tr Tryz.prog 126 [ptr 0,.int .i64 a] (TL rs) (fun v K=>v=.int .i64 0∧K=TL (clearP rs a m)):=by
 have hR:=pagesRow_tr rs a
 have hF:=first_tr (pAt rs a)
 rw [h] at hF
 rw [TL,TL,clearP_length hle]
 refine Tr.of row_pages_Table_Unmap_ok rfl ?_
 repeat' (first|refine qN ?_|refine dN ?_|refine dR ?_|refine d0 ?_|refine qB ?_|refine rT ?_|refine qT ?_|refine qU ?_|refine qL ?_|refine qK ?_|refine iF (fun h=>?_) (fun h=>?_)|refine qR ?_|refine qS ?_|exact ⟨rfl,rfl⟩|fail)
 first|refine L_rs ?_|refine L_reg ?_ | skip
 refine cP [0,1] (hR) ?_
 repeat' (first|refine qN ?_|refine dN ?_|refine dR ?_|refine d0 ?_|refine qB ?_|refine rT ?_|refine qT ?_|refine qU ?_|refine qL ?_|refine qK ?_|refine iF (fun h=>?_) (fun h=>?_)|refine qR ?_|refine qS ?_|exact ⟨rfl,rfl⟩|fail)
 first|refine L_rs ?_|refine L_reg ?_ | skip
 refine cP [] (hF) ?_
 repeat' (first|refine qN ?_|refine dN ?_|refine dR ?_|refine d0 ?_|refine qB ?_|refine rT ?_|refine qT ?_|refine qU ?_|refine qL ?_|refine qK ?_|refine iF (fun h=>?_) (fun h=>?_)|refine qR ?_|refine qS ?_|exact ⟨rfl,rfl⟩|fail)
 have hlt:=first_lt h
 refine S_Q [] rfl rfl (QY.add (c:=((a+m:Nat):Int)) rfl rfl (by show (a:Int)+(pAt rs a).run=_; omega) (by omega) (by omega)) ?_
 first|refine L_rs ?_|refine L_reg ?_ | skip
 refine S_Q [] rfl rfl (QY.slc0 (b:=1) (lo':=a) (hi':=a+m) rfl rfl rfl (by omega) (by omega)) ?_
 first|refine L_rs ?_|refine L_reg ?_ | skip
 refine eE rfl rfl (EW.clearg (i:=a) (z0:=PRow.Z) (xs:=rs) PRow.ok rfl (by kernel_rfl) rfl rfl rfl (by omega)) ?_
 conv=>whnf
 repeat' (first|refine qN ?_|refine dN ?_|refine dR ?_|refine d0 ?_|refine qB ?_|refine rT ?_|refine qT ?_|refine qU ?_|refine qL ?_|refine qK ?_|refine iF (fun h=>?_) (fun h=>?_)|refine qR ?_|refine qS ?_|exact ⟨rfl,rfl⟩|fail)
 refine ⟨rfl,?_⟩
 rw [clearP,show a+m-a=m by omega]
 rfl
end Go.Proofs.YthmdialagibpfaaGreatDoor
end
section
namespace Go.Tum.Base
open Go Go.Tum
theorem land_cons {k a c u v:Nat} (ha:a<2 ^ k) (hc:c<2 ^ k):(a+2 ^ k*u) &&& (c+2 ^ k*v)=(a &&& c)+2 ^ k*(u &&& v):=by
 apply Nat.eq_of_testBit_eq
 intro i
 have hac:a &&& c<2 ^ k:=Nat.and_lt_two_pow a hc
 rw [Nat.testBit_and,Nat.add_comm a,Nat.add_comm c,Nat.add_comm (a &&& c),Nat.testBit_two_pow_mul_add _ ha,Nat.testBit_two_pow_mul_add _ hc,Nat.testBit_two_pow_mul_add _ hac]
 split
 ·rw [Nat.testBit_and]
 ·rw [Nat.testBit_and]
def valD (k:Nat):List Nat→Nat
 | []=>0
 | d::r=>d+2 ^ k*valD k r
def halve:List Nat→List Nat
 | a::b::r=>(a+b)::halve r
 | _=>[]
def altD (k:Nat):Nat→List Nat
 | 0=>[]
 | n+1=>(2 ^ k-1)::0::altD k n
theorem valD_shr {k d:Nat} {r:List Nat} (h:d<2 ^ k):valD k (d::r) >>> k=valD k r:=by
 rw [Nat.shiftRight_eq_div_pow,valD,Nat.add_comm,Nat.mul_add_div (Nat.two_pow_pos k),Nat.div_eq_of_lt h,Nat.add_zero]
theorem land_low {k a:Nat} (h:a<2 ^ k):a &&& (2 ^ k-1)=a:=by rw [Nat.and_two_pow_sub_one_eq_mod,Nat.mod_eq_of_lt h]
theorem step_mask (k:Nat):∀ (n:Nat) (L:List Nat),L.length=2*n→(∀ d∈L,d<2 ^ k)→(valD k L.tail &&& valD k (altD k n))+(valD k L &&& valD k (altD k n))=valD (2*k) (halve L)
 | 0,[],_,_=>by simp [valD,altD,halve]
 | 0,_::_,h,_=>by simp at h
 | n+1,[],h,_=>by simp at h
 | n+1,[a],h,_=>by simp at h; omega
 | n+1,a::b::r,h,hd=>by
  have hp:=Nat.two_pow_pos k
  have ha:=hd a (by simp)
  have hb:=hd b (by simp)
  have hr:r.length=2*n:=by simp at h; omega
  have hdr:∀ d∈r,d<2 ^ k:=fun d hd'=>hd d (by simp [hd'])
  have ih:=step_mask k n r hr hdr
  have e1:valD k (b::r) &&& valD k (altD k (n+1))=b+2 ^ k*(2 ^ k*(valD k r.tail &&& valD k (altD k n))):=by
   simp only [altD,valD,Nat.zero_add]
   rw [land_cons hb (by omega),land_low hb]
   congr 2
   cases r with
   | nil=>simp [valD]
   | cons c s =>
    have hc:=hdr c (by simp)
    have:=land_cons (k:=k) (a:=c) (c:=0) (u:=valD k s) (v:=valD k (altD k n)) hc hp
    rw [Nat.zero_add,Nat.and_zero,Nat.zero_add] at this
    exact this
  have e2:valD k (a::b::r) &&& valD k (altD k (n+1))=a+2 ^ k*(2 ^ k*(valD k r &&& valD k (altD k n))):=by
   simp only [altD,valD,Nat.zero_add]
   rw [land_cons ha (by omega),land_low ha]
   congr 2
   have:=land_cons (k:=k) (a:=b) (c:=0) (u:=valD k r) (v:=valD k (altD k n)) hb hp
   rw [Nat.zero_add,Nat.and_zero,Nat.zero_add] at this
   exact this
  show (valD k (b::r) &&& _)+_=_
  rw [e1,e2,halve,valD,← ih,show 2*k=k+k by omega,Nat.pow_add]
  have e3:∀ x y:Nat,2 ^ k*(2 ^ k*x)+2 ^ k*(2 ^ k*y)=2 ^ k*2 ^ k*(x+y):=fun x y=>by rw [Nat.mul_add,Nat.mul_assoc,Nat.mul_assoc]
  rw [← e3]
  omega
theorem valD_add (k:Nat):∀ (L M:List Nat),L.length=M.length→valD k L+valD k M=valD k (List.zipWith (· + ·) L M)
 | [],[],_=>rfl
 | a::r,b::s,h=>by
  have ih:=valD_add k r s (by simpa using h)
  simp only [List.zipWith_cons_cons,valD,← ih,Nat.mul_add]
  omega
 | [],_::_,h=>by simp at h
 | _::_,[],h=>by simp at h
theorem step_sum (k:Nat):∀ (n:Nat) (L:List Nat),L.length=2*n→(∀ d∈L,d+d<2 ^ k)→(valD k L.tail+valD k L) &&& valD k (altD k n)=valD (2*k) (halve L)
 | 0,[],_,_=>by simp [valD,altD,halve]
 | 0,_::_,h,_=>by simp at h
 | n+1,[],h,_=>by simp at h
 | n+1,[a],h,_=>by simp at h; omega
 | n+1,a::b::r,h,hd=>by
  have hp:=Nat.two_pow_pos k
  have ha:=hd a (by simp)
  have hb:=hd b (by simp)
  have hr:r.length=2*n:=by simp at h; omega
  have hdr:∀ d∈r,d+d<2 ^ k:=fun d hd'=>hd d (by simp [hd'])
  have ih:=step_sum k n r hr hdr
  have e0:valD k (b::r)+valD k (a::b::r)=(a+b)+2 ^ k*(valD k r+valD k (b::r)):=by
   simp only [valD,Nat.mul_add]; omega
  have e1:(valD k r+valD k (b::r)) &&& valD k (0::altD k n)=2 ^ k*((valD k r.tail+valD k r) &&& valD k (altD k n)):=by
   cases r with
   | nil =>
    have hn0:n=0:=by simp at hr; omega
    subst hn0
    simp [valD,altD]
   | cons c s =>
    have hc:=hdr c (by simp)
    have e2:valD k (c::s)+valD k (b::c::s)=(c+b)+2 ^ k*(valD k s+valD k (c::s)):=by
     simp only [valD,Nat.mul_add]; omega
    have:=land_cons (k:=k) (a:=c+b) (c:=0) (u:=valD k s+valD k (c::s)) (v:=valD k (altD k n)) (by omega) hp
    simp only [Nat.and_zero,Nat.zero_add] at this
    rw [e2,show valD k (0::altD k n)=2 ^ k*valD k (altD k n) by simp [valD]]
    exact this
  show (valD k (b::r)+_) &&& _=_
  have e3:=land_cons (k:=k) (a:=a+b) (c:=2 ^ k-1) (u:=valD k r+valD k (b::r)) (v:=valD k (0::altD k n)) (by omega) (by omega)
  rw [e0]
  show _ &&& (2 ^ k-1+2 ^ k*valD k (0::altD k n))=_
  rw [e3,land_low (by omega),e1,ih,halve,valD,show 2*k=k+k by omega,Nat.pow_add,Nat.mul_assoc]
theorem halve_length:∀ (n:Nat) (L:List Nat),L.length=2*n→(halve L).length=n
 | 0,[],_=>rfl
 | 0,_::_,h=>by simp at h
 | n+1,[],h=>by simp at h
 | n+1,[a],h=>by simp at h; omega
 | n+1,a::b::r,h=>by simp only [halve,List.length_cons]; rw [halve_length n r (by simp at h; omega)]
theorem halve_sum:∀ (n:Nat) (L:List Nat),L.length=2*n→(halve L).sum=L.sum
 | 0,[],_=>rfl
 | 0,_::_,h=>by simp at h
 | n+1,[],h=>by simp at h
 | n+1,[a],h=>by simp at h; omega
 | n+1,a::b::r,h=>by simp only [halve,List.sum_cons]; rw [halve_sum n r (by simp at h; omega)]; omega
theorem halve_le {c:Nat}:∀ (L:List Nat),(∀ d∈L,d≤c)→∀ d∈halve L,d≤c+c
 | [],_,d,hd=>by simp [halve] at hd
 | [a],_,d,hd=>by simp [halve] at hd
 | a::b::r,h,d,hd=>by
  simp only [halve,List.mem_cons] at hd
  rcases hd with rfl | hd
  ·have:=h a (by simp); have:=h b (by simp); omega
  ·exact halve_le r (fun x hx=>h x (by simp [hx])) d hd
theorem valD_lt (k:Nat):∀ (L:List Nat),(∀ d∈L,d<2 ^ k)→valD k L<2 ^ (k*L.length)
 | [],_=>by simp [valD]
 | a::r,h=>by
  have ih:=valD_lt k r fun d hd=>h d (by simp [hd])
  have ha:=h a (by simp)
  rw [valD,List.length_cons,Nat.mul_add,Nat.mul_one,Nat.pow_add,Nat.mul_comm (2 ^ (k*r.length))]
  have:2 ^ k*(valD k r+1)≤2 ^ k*2 ^ (k*r.length):=Nat.mul_le_mul_left _ ih
  rw [Nat.mul_add] at this
  omega
def digs:Nat→Nat→List Nat
 | 0,_=>[]
 | n+1,x=>(x % 2)::digs n (x / 2)
theorem digs_val:∀ (n x:Nat),x<2 ^ n→valD 1 (digs n x)=x
 | 0,x,h=>by simp at h; subst h; rfl
 | n+1,x,h=>by
  rw [Nat.pow_succ] at h
  rw [digs,valD,digs_val n (x / 2) (by omega)]; omega
theorem digs_le:∀ (n x:Nat),∀ d∈digs n x,d≤1
 | 0,_,d,h=>by simp [digs] at h
 | n+1,x,d,h=>by
  simp only [digs,List.mem_cons] at h
  rcases h with rfl | h
  ·omega
  ·exact digs_le n (x / 2) d h
theorem digs_length:∀ (n x:Nat),(digs n x).length=n
 | 0,_=>rfl
 | n+1,x=>by simp [digs,digs_length n]
def popN (x:Nat):Nat:=(digs 64 x).sum
def onesW (x:BitVec 64):BitVec 64 :=
 let a:=(x >>> 1 &&& 6148914691236517205#64)+(x &&& 6148914691236517205#64)
 let b:=(a >>> 2 &&& 3689348814741910323#64)+(a &&& 3689348814741910323#64)
 let c:=(b >>> 4+b) &&& 1085102592571150095#64
 let d:=c+c >>> 8
 let e:=d+d >>> 16
 e+e >>> 32
theorem tail_shr {k:Nat} {L:List Nat} (h:∀ d∈L,d<2 ^ k):valD k L >>> k=valD k L.tail:=by
 cases L with
 | nil=>simp [valD]
 | cons a r=>exact valD_shr (h a (by simp))
theorem fold1 {d0 X1:Nat} (h:d0≤8):(d0+256*X1) / 256=X1:=by omega
theorem fold2 {d0 d1 d2 X2 X3:Nat} (h0:d0≤8) (h1:d1≤8) (h2:d2≤8):(d0+256*(d1+256*X2)+(d1+256*(d2+256*X3))) / 65536=X2+X3:=by omega
theorem fold3 {l0 l1 l2 l3 Y:Nat} (h0:l0≤32) (h1:l1≤32) (h2:l2≤32) (h3:l3≤32):(l0+256*l1+65536*l2+16777216*l3+4294967296*Y) / 4294967296=Y:=by omega
theorem fold_bytes {d0 d1 d2 d3 d4 d5 d6 d7 c X1 X2 X3 X4 X5 X6:Nat} (g0:d0≤4+4) (g1:d1≤4+4) (g2:d2≤4+4) (g3:d3≤4+4) (g4:d4≤4+4) (g5:d5≤4+4) (g6:d6≤4+4) (g7:d7≤4+4)
  (e6:X6=d6+256*d7) (e5:X5=d5+256*X6) (e4:X4=d4+256*X5) (e3:X3=d3+256*X4) (e2:X2=d2+256*X3) (e1:X1=d1+256*X2) (e0:c=d0+256*X1) :
  (((c+c / 256) % 18446744073709551616+(c+c / 256) % 18446744073709551616 / 65536) % 18446744073709551616+((c+c / 256) % 18446744073709551616+(c+c / 256) % 18446744073709551616 / 65536) % 18446744073709551616 / 4294967296) % 18446744073709551616 % 128=d0+(d1+(d2+(d3+(d4+(d5+(d6+d7)))))) ∧
  (((c+c / 256) % 18446744073709551616+(c+c / 256) % 18446744073709551616 / 65536) % 18446744073709551616+((c+c / 256) % 18446744073709551616+(c+c / 256) % 18446744073709551616 / 65536) % 18446744073709551616 / 4294967296) % 18446744073709551616<9223372036854775808:=by
 have b6:X6≤2056:=by omega
 have b5:X5≤526344:=by omega
 have b4:X4≤134744072:=by omega
 have b3:X3≤34494482440:=by omega
 have b2:X2≤8830587504648:=by omega
 have b1:X1≤2260630401189896:=by omega
 have b0:c≤578721382704613384:=by omega
 have q1:c / 256=X1:=by rw [e0]; exact fold1 (by omega)
 rw [q1,Nat.mod_eq_of_lt (show c+X1<18446744073709551616 by omega)]
 have q2:(c+X1) / 65536=X2+X3:=by
  have e:c+X1=d0+256*(d1+256*X2)+(d1+256*(d2+256*X3)):=by rw [e0,e1,e2]
  rw [e]; exact fold2 (by omega) (by omega) (by omega)
 rw [q2,Nat.mod_eq_of_lt (show c+X1+(X2+X3)<18446744073709551616 by omega)]
 have q3:(c+X1+(X2+X3)) / 4294967296=X4+X5+X6+d7:=by
  have e:c+X1+(X2+X3)=(d0+d1+d2+d3)+256*(d1+d2+d3+d4)+65536*(d2+d3+d4+d5)+16777216*(d3+d4+d5+d6)+4294967296*(X4+X5+X6+d7):=by
   clear q1 q2 b0 b1 b2 b3 b4 b5 b6 g0 g1 g2 g3 g4 g5 g6 g7
   omega
  rw [e]; exact fold3 (by omega) (by omega) (by omega) (by omega)
 rw [q3,Nat.mod_eq_of_lt (show c+X1+(X2+X3)+(X4+X5+X6+d7)<18446744073709551616 by omega)]
 refine ⟨?_,by omega⟩
 have e:c+X1+(X2+X3)+(X4+X5+X6+d7)=(d0+(d1+(d2+(d3+(d4+(d5+(d6+d7)))))))+128*(2*(X1+X2+X3+X4+X5+X6+d7)):=by
  clear q1 q2 q3 b0 b1 b2 b3 b4 b5 b6 g0 g1 g2 g3 g4 g5 g6 g7
  omega
 rw [e,Nat.add_mul_mod_self_left,Nat.mod_eq_of_lt]
 clear q1 q2 q3 e e0 e1 e2 e3 e4 e5 e6 b0 b1 b2 b3 b4 b5 b6
 omega
theorem onesW_ok (x:BitVec 64):(onesW x).toNat % 128=popN x.toNat∧(onesW x).toNat<9223372036854775808:=by
 have h0:=digs_val 64 x.toNat x.isLt
 have l0:=digs_length 64 x.toNat
 have b0:=digs_le 64 x.toNat
 have s0:popN x.toNat=(digs 64 x.toNat).sum:=rfl
 generalize digs 64 x.toNat=L0 at h0 l0 b0 s0
 have l1:=halve_length 32 L0 (by omega)
 have b1:=halve_le (c:=1) L0 b0
 have s1:=halve_sum 32 L0 (by omega)
 have e1:=step_mask 1 32 L0 (by omega) (fun d hd=>by have:=b0 d hd; omega)
 have t1:=tail_shr (k:=1) (L:=L0) (fun d hd=>by have:=b0 d hd; omega)
 have v1:=valD_lt 2 (halve L0) (fun d hd=>by have:=b1 d hd; omega)
 rw [← t1,h0,show valD 1 (altD 1 32)=6148914691236517205 from by decide] at e1
 generalize halve L0=L1 at l1 b1 s1 e1 v1
 have l2:=halve_length 16 L1 (by omega)
 have b2:=halve_le (c:=2) L1 b1
 have s2:=halve_sum 16 L1 (by omega)
 have e2:=step_mask 2 16 L1 (by omega) (fun d hd=>by have:=b1 d hd; omega)
 have t2:=tail_shr (k:=2) (L:=L1) (fun d hd=>by have:=b1 d hd; omega)
 have v2:=valD_lt 4 (halve L1) (fun d hd=>by have:=b2 d hd; omega)
 rw [← t2,show valD 2 (altD 2 16)=3689348814741910323 from by decide] at e2
 generalize halve L1=L2 at l2 b2 s2 e2 v2
 have l3:=halve_length 8 L2 (by omega)
 have b3:=halve_le (c:=4) L2 b2
 have s3:=halve_sum 8 L2 (by omega)
 have e3:=step_sum 4 8 L2 (by omega) (fun d hd=>by have:=b2 d hd; omega)
 have t3:=tail_shr (k:=4) (L:=L2) (fun d hd=>by have:=b2 d hd; omega)
 rw [← t3,show valD 4 (altD 4 8)=1085102592571150095 from by decide] at e3
 have v3:valD 4 L2+valD 4 L2<18446744073709551616:=by
  rw [valD_add 4 L2 L2 rfl]
  have:=valD_lt 4 (List.zipWith (· + ·) L2 L2) (fun d hd=>by
   obtain ⟨i,hi,rfl⟩:=List.getElem_of_mem hd
   rw [List.getElem_zipWith]
   have:=b2 (L2[i]'(by simp at hi; omega)) (List.getElem_mem _)
   omega)
  simpa [l2] using this
 generalize halve L2=D at l3 b3 s3 e3
 rw [l1] at v1
 rw [l2] at v2
 have a1:(((x >>> 1 &&& 6148914691236517205#64)+(x &&& 6148914691236517205#64):BitVec 64)).toNat=valD 2 L1:=by
  rw [BitVec.toNat_add,BitVec.toNat_and,BitVec.toNat_and,BitVec.toNat_ushiftRight]
  show ((x.toNat >>> 1 &&& 6148914691236517205)+(x.toNat &&& 6148914691236517205)) % 2 ^ 64=_
  rw [e1,Nat.mod_eq_of_lt v1]
 unfold onesW
 simp only
 generalize ((x >>> 1 &&& 6148914691236517205#64)+(x &&& 6148914691236517205#64):BitVec 64)=A at a1
 have a2:(((A >>> 2 &&& 3689348814741910323#64)+(A &&& 3689348814741910323#64):BitVec 64)).toNat=valD 4 L2:=by
  rw [BitVec.toNat_add,BitVec.toNat_and,BitVec.toNat_and,BitVec.toNat_ushiftRight,a1]
  show ((valD 2 L1 >>> 2 &&& 3689348814741910323)+(valD 2 L1 &&& 3689348814741910323)) % 2 ^ 64=_
  rw [e2,Nat.mod_eq_of_lt v2]
 generalize ((A >>> 2 &&& 3689348814741910323#64)+(A &&& 3689348814741910323#64):BitVec 64)=B at a2
 have a3:((B >>> 4+B &&& 1085102592571150095#64:BitVec 64)).toNat=valD 8 D:=by
  have hs:valD 4 L2 >>> 4≤valD 4 L2:=by rw [Nat.shiftRight_eq_div_pow]; exact Nat.div_le_self _ _
  rw [BitVec.toNat_and,BitVec.toNat_add,BitVec.toNat_ushiftRight,a2,Nat.mod_eq_of_lt (show valD 4 L2 >>> 4+valD 4 L2<2 ^ 64 by omega)]
  exact e3
 generalize (B >>> 4+B &&& 1085102592571150095#64:BitVec 64)=C at a3
 rw [s0,← s1,← s2,← s3]
 clear e1 e2 e3 t1 t2 t3 v1 v2 v3 a1 a2 b0 b1 b2 s0 s1 s2 s3 l0 l1 l2 h0
 match D,l3,b3,a3 with
 | [d0,d1,d2,d3,d4,d5,d6,d7],_,b3,a3 =>
  have g0:=b3 d0 (by simp); have g1:=b3 d1 (by simp); have g2:=b3 d2 (by simp); have g3:=b3 d3 (by simp)
  have g4:=b3 d4 (by simp); have g5:=b3 d5 (by simp); have g6:=b3 d6 (by simp); have g7:=b3 d7 (by simp)
  simp only [valD] at a3
  simp only [BitVec.toNat_add,BitVec.toNat_ushiftRight,Nat.shiftRight_eq_div_pow,List.sum_cons,List.sum_nil]
  generalize C.toNat=c at a3
  simp only [Nat.reducePow,Nat.mul_zero,Nat.add_zero] at a3 ⊢
  exact fold_bytes g0 g1 g2 g3 g4 g5 g6 g7 rfl rfl rfl rfl rfl rfl a3
end Go.Tum.Base
end
section
namespace Go.Tum.Base
open Go Go.Tum
abbrev Words:=List (BitVec 64)
def bitAt (ws:Words) (i:Nat):Bool:=(ws.getD (i / 64) 0).getLsbD (i % 64)
def putBit (ws:Words) (i:Nat) (v:Bool):Words:=ws.set (i / 64) (if v then ws.getD (i / 64) 0 ||| (1#64 <<< (i % 64)) else ws.getD (i / 64) 0 &&& ~~~ (1#64 <<< (i % 64)))
theorem putBit_length (ws:Words) (i:Nat) (v:Bool):(putBit ws i v).length=ws.length:=by simp [putBit]
theorem bit_test (w:BitVec 64) (k:Nat):((((w >>> k) &&& 1#64).toNat:Int) == 1)=w.getLsbD k:=by
 have h:(w >>> k &&& 1#64)=if w.getLsbD k then 1#64 else 0#64:=by
  apply BitVec.eq_of_getLsbD_eq
  intro j hj
  rw [BitVec.getLsbD_and,BitVec.getLsbD_ushiftRight]
  by_cases h0:j=0
  ·subst h0; cases w.getLsbD k <;> simp
  ·cases w.getLsbD k <;> simp [h0,BitVec.getLsbD_one]
 rw [h]
 cases w.getLsbD k <;> rfl
theorem bitAt_put {ws:Words} {i:Nat} (v:Bool) (h:i / 64<ws.length) (j:Nat):bitAt (putBit ws i v) j=if j=i then v else bitAt ws j:=by
 unfold bitAt putBit
 rw [List.getD_eq_getElem?_getD,List.getElem?_set]
 by_cases hq:i / 64=j / 64
 ·rw [if_pos hq,if_pos h,Option.getD_some,← hq]
  have hm:j % 64<64:=Nat.mod_lt _ (by decide)
  by_cases e:j=i
  ·subst e
   rw [if_pos rfl]
   cases v
   ·simp [hm]
   ·simp [hm]
  ·rw [if_neg e]
   have hne:j % 64≠i % 64:=by omega
   cases v
   ·simp only [Bool.false_eq_true,if_false,BitVec.getLsbD_and,BitVec.getLsbD_not,BitVec.getLsbD_shiftLeft,BitVec.getLsbD_one]
    by_cases h2:j % 64<i % 64
    ·simp [hm,h2]
    ·have:¬ j % 64-i % 64=0:=by omega
     simp [hm,h2,this]
   ·simp only [if_true,BitVec.getLsbD_or,BitVec.getLsbD_shiftLeft,BitVec.getLsbD_one]
    by_cases h2:j % 64<i % 64
    ·simp [hm,h2]
    ·have:¬ j % 64-i % 64=0:=by omega
     simp [hm,h2,this]
 ·rw [if_neg hq,if_neg (fun e=>hq (by rw [e])),List.getD_eq_getElem?_getD]
end Go.Tum.Base
namespace Go.Proofs.YthmdialagibpfaaGreatDoor
open Go Go.Tum Go.Tum.Base
set_option maxRecDepth 4000
theorem ones_tr (x:BitVec 64):Tr Tryz.prog 173 [.int .u64 (x.toNat:Int)] [] (fun v K=>v=.int .i64 (popN x.toNat)∧K=[]):=by
 obtain ⟨h1,h2⟩:=onesW_ok x
 have hI:(onesW x).toInt % 128=popN x.toNat:=by
  rw [BitVec.toInt_eq_toNat_of_lt (by omega)]; omega
 refine Tr.of row_math_bits_OnesCount64_ok rfl ?_
 repeat' (first|refine qN ?_|refine dN ?_|refine dR ?_|refine d0 ?_|refine rT ?_|refine qR ?_|refine qS ?_|exact ⟨rfl,rfl⟩|fail)
 first|refine L_rs ?_|refine L_reg ?_ | skip
 refine S_Q [] rfl rfl (QY.shrW (n:=1) rfl rfl) ?_
 first|refine L_rs ?_|refine L_reg ?_ | skip
 refine S_Q [] rfl rfl (QY.andW (b:=6148914691236517205#64) rfl rfl) ?_
 first|refine L_rs ?_|refine L_reg ?_ | skip
 refine S_Q [] rfl rfl (QY.andW (b:=6148914691236517205#64) rfl rfl) ?_
 first|refine L_rs ?_|refine L_reg ?_ | skip
 refine S_Q [] rfl rfl (QY.addW rfl rfl) ?_
 repeat' (first|refine qN ?_|refine dN ?_|refine dR ?_|refine d0 ?_|refine rT ?_|refine qR ?_|refine qS ?_|exact ⟨rfl,rfl⟩|fail)
 first|refine L_rs ?_|refine L_reg ?_ | skip
 refine S_Q [] rfl rfl (QY.shrW (n:=2) rfl rfl) ?_
 first|refine L_rs ?_|refine L_reg ?_ | skip
 refine S_Q [] rfl rfl (QY.andW (b:=3689348814741910323#64) rfl rfl) ?_
 first|refine L_rs ?_|refine L_reg ?_ | skip
 refine S_Q [] rfl rfl (QY.andW (b:=3689348814741910323#64) rfl rfl) ?_
 first|refine L_rs ?_|refine L_reg ?_ | skip
 refine S_Q [] rfl rfl (QY.addW rfl rfl) ?_
 repeat' (first|refine qN ?_|refine dN ?_|refine dR ?_|refine d0 ?_|refine rT ?_|refine qR ?_|refine qS ?_|exact ⟨rfl,rfl⟩|fail)
 first|refine L_rs ?_|refine L_reg ?_ | skip
 refine S_Q [] rfl rfl (QY.shrW (n:=4) rfl rfl) ?_
 first|refine L_rs ?_|refine L_reg ?_ | skip
 refine S_Q [] rfl rfl (QY.addW rfl rfl) ?_
 first|refine L_rs ?_|refine L_reg ?_ | skip
 refine S_Q [] rfl rfl (QY.andW (b:=1085102592571150095#64) rfl rfl) ?_
 repeat' (first|refine qN ?_|refine dN ?_|refine dR ?_|refine d0 ?_|refine rT ?_|refine qR ?_|refine qS ?_|exact ⟨rfl,rfl⟩|fail)
 first|refine L_rs ?_|refine L_reg ?_ | skip
 refine S_Q [] rfl rfl (QY.shrW (n:=8) rfl rfl) ?_
 first|refine L_rs ?_|refine L_reg ?_ | skip
 refine S_Q [] rfl rfl (QY.addW rfl rfl) ?_
 repeat' (first|refine qN ?_|refine dN ?_|refine dR ?_|refine d0 ?_|refine rT ?_|refine qR ?_|refine qS ?_|exact ⟨rfl,rfl⟩|fail)
 first|refine L_rs ?_|refine L_reg ?_ | skip
 refine S_Q [] rfl rfl (QY.shrW (n:=16) rfl rfl) ?_
 first|refine L_rs ?_|refine L_reg ?_ | skip
 refine S_Q [] rfl rfl (QY.addW rfl rfl) ?_
 repeat' (first|refine qN ?_|refine dN ?_|refine dR ?_|refine d0 ?_|refine rT ?_|refine qR ?_|refine qS ?_|exact ⟨rfl,rfl⟩|fail)
 first|refine L_rs ?_|refine L_reg ?_ | skip
 refine S_Q [] rfl rfl (QY.shrW (n:=32) rfl rfl) ?_
 first|refine L_rs ?_|refine L_reg ?_ | skip
 refine S_Q [] rfl rfl (QY.addW rfl rfl) ?_
 repeat' (first|refine qN ?_|refine dN ?_|refine dR ?_|refine d0 ?_|refine rT ?_|refine qR ?_|refine qS ?_|exact ⟨rfl,rfl⟩|fail)
 first|refine L_rs ?_|refine L_reg ?_ | skip
 refine S_Q [] rfl rfl (QY.cvWI rfl) ?_
 first|refine L_rs ?_|refine L_reg ?_ | skip
 refine S_Q [] rfl rfl (QY.mask (m:=127) rfl rfl (by decide) hI) ?_
 repeat' (first|refine qN ?_|refine dN ?_|refine dR ?_|refine d0 ?_|refine rT ?_|refine qR ?_|refine qS ?_|exact ⟨rfl,rfl⟩|fail)
def BS (ws:Words) (n:Nat):LH:=[.cells 0 [slB 1 ws.length,.int .i64 n],.gro 1 (rowsC wordC ws)]
theorem bsLen_tr (ws:Words) (n:Nat):Tr Tryz.prog 124 [ptr 0] (BS ws n) (fun v K=>v=.int .i64 n∧K=BS ws n):=by
 refine Tr.of row_bitset_Set_Len_ok rfl ?_
 repeat' (first|refine qN ?_|refine dN ?_|refine dR ?_|refine d0 ?_|refine rT ?_|refine qT ?_|refine qU ?_|refine qL ?_|refine qK ?_|refine iF (fun h=>?_) (fun h=>?_)|refine aI (hn:=?_)|refine qR ?_|refine qS ?_|exact ⟨rfl,rfl⟩|fail)
theorem bsIn_tr (ws:Words) (n:Nat) (i:Int):Tr Tryz.prog 168 [ptr 0,.int .i64 i] (BS ws n) (fun v K=>v=.bool (decide (0≤i∧i<n))∧K=BS ws n):=by
 refine Tr.of row_bitset_Set_in_ok rfl ?_
 repeat' (first|refine qN ?_|refine dN ?_|refine dR ?_|refine d0 ?_|refine rT ?_|refine aI (hn:=?_)|refine sP 7 (fun h=>?_) (fun h=>?_)|refine qR ?_|refine qS ?_|exact ⟨rfl,rfl⟩|fail)
 ·first|refine L_rs ?_|refine L_reg ?_ | skip
  refine cP [0,1] (bsLen_tr ws n) ?_
  repeat' (first|refine qN ?_|refine dN ?_|refine dR ?_|refine d0 ?_|refine rT ?_|refine aI (hn:=?_)|refine sP 7 (fun h=>?_) (fun h=>?_)|refine qR ?_|refine qS ?_|exact ⟨rfl,rfl⟩|fail)
  refine ⟨congrArg Value.bool ?_,rfl⟩
  rw [decide_eq_decide]; omega
 ·refine ⟨congrArg Value.bool ?_,rfl⟩
  symm; rw [decide_eq_false_iff_not]; omega
theorem bsHas_no (ws:Words) (n:Nat) (i:Int) (h:¬ (0≤i∧i<n)):Tr Tryz.prog 145 [ptr 0,.int .i64 i] (BS ws n) (fun v K=>v=.bool false∧K=BS ws n):=by
 have hI:=bsIn_tr ws n i
 rw [decide_eq_false h] at hI
 refine Tr.of row_bitset_Set_Has_ok rfl ?_
 repeat' (first|refine qN ?_|refine dN ?_|refine dR ?_|refine d0 ?_|refine rT ?_|refine aX ?_|refine qR ?_|refine qS ?_|exact ⟨rfl,rfl⟩|fail)
 first|refine L_rs ?_|refine L_reg ?_ | skip
 refine cP [0,1] (hI) ?_
 repeat' (first|refine qN ?_|refine dN ?_|refine dR ?_|refine d0 ?_|refine rT ?_|refine aX ?_|refine qR ?_|refine qS ?_|exact ⟨rfl,rfl⟩|fail)
theorem bsHas_ok (ws:Words) (n:Nat) (hn:n≤65536) (hw:n≤64*ws.length) (i:Nat) (h:i<n):Tr Tryz.prog 145 [ptr 0,.int .i64 i] (BS ws n) (fun v K=>v=.bool (bitAt ws i)∧K=BS ws n):=by
 have hI:=bsIn_tr ws n i
 rw [decide_eq_true (by omega)] at hI
 have hk:i / 64<ws.length:=by omega
 refine Tr.of row_bitset_Set_Has_ok rfl ?_
 repeat' (first|refine qN ?_|refine dN ?_|refine dR ?_|refine d0 ?_|refine rT ?_|refine aX ?_|refine qR ?_|refine qS ?_|exact ⟨rfl,rfl⟩|fail)
 first|refine L_rs ?_|refine L_reg ?_ | skip
 refine cP [0,1] (hI) ?_
 first|refine L_rs ?_|refine L_reg ?_ | skip
 refine S_Q [] rfl rfl (QY.divN (c:=((i / 64:Nat):Int)) rfl rfl (by omega) (by omega) (by omega)) ?_
 first|refine L_rs ?_|refine L_reg ?_ | skip
 refine S_Q [] rfl rfl (QY.idxN rfl rfl hk) ?_
 first|refine L_rs ?_|refine L_reg ?_ | skip
 refine S_Q [] rfl rfl (QY.ldW rfl rfl (List.getElem?_eq_getElem hk)) ?_
 first|refine L_rs ?_|refine L_reg ?_ | skip
 refine S_Q [] rfl rfl (QY.remN (c:=((i % 64:Nat):Int)) rfl rfl (by omega) (by omega) (by omega)) ?_
 first|refine L_rs ?_|refine L_reg ?_ | skip
 refine S_Q [] rfl rfl (QY.shrW (n:=i % 64) rfl rfl) ?_
 first|refine L_rs ?_|refine L_reg ?_ | skip
 refine S_Q [] rfl rfl (QY.andW (b:=1#64) rfl rfl) ?_
 repeat' (first|refine qN ?_|refine dN ?_|refine dR ?_|refine d0 ?_|refine rT ?_|refine aX ?_|refine qR ?_|refine qS ?_|exact ⟨rfl,rfl⟩|fail)
 refine ⟨?_,rfl⟩
 show Value.bool ((((ws[i / 64] >>> (i % 64)) &&& 1#64).toNat:Int) == 1)=_
 rw [bit_test,bitAt,List.getD_eq_getElem?_getD,List.getElem?_eq_getElem hk]
 rfl
theorem bsPut_ok (ws:Words) (n:Nat) (hn:n≤65536) (hw:n≤64*ws.length) (i:Nat) (h:i<n) (v:Bool):Tr Tryz.prog 113 [ptr 0,.int .i64 i,.bool v] (BS ws n) (fun u K=>u=.int .i64 0∧K=BS (putBit ws i v) n):=by
 have hI:=bsIn_tr ws n i
 rw [decide_eq_true (by omega)] at hI
 have hk:i / 64<ws.length:=by omega
 have hg:ws.getD (i / 64) 0=ws[i / 64]:=by rw [List.getD_eq_getElem?_getD,List.getElem?_eq_getElem hk]; rfl
 have hK:∀ v,BS (putBit ws i v) n=[.cells 0 [slB 1 ws.length,.int .i64 n],.gro 1 (rowsC wordC (putBit ws i v))]:=fun v=>by rw [BS,putBit_length]
 rw [hK]
 unfold putBit
 rw [hg]
 refine Tr.of row_bitset_Set_Put_ok rfl ?_
 cases v
 ·repeat' (first|refine qN ?_|refine dN ?_|refine dR ?_|refine d0 ?_|refine qB ?_|refine rT ?_|refine qT ?_|refine qU ?_|refine iF (fun h=>?_) (fun h=>?_)|refine aX ?_|refine qR ?_|refine qS ?_|exact ⟨rfl,rfl⟩|fail)
  first|refine L_rs ?_|refine L_reg ?_ | skip
  refine cP [0,1] (hI) ?_
  repeat' (first|refine qN ?_|refine dN ?_|refine dR ?_|refine d0 ?_|refine qB ?_|refine rT ?_|refine qT ?_|refine qU ?_|refine iF (fun h=>?_) (fun h=>?_)|refine aX ?_|refine qR ?_|refine qS ?_|exact ⟨rfl,rfl⟩|fail)
  first|refine L_rs ?_|refine L_reg ?_ | skip
  refine S_Q [] rfl rfl (QY.divN (c:=((i / 64:Nat):Int)) rfl rfl (by omega) (by omega) (by omega)) ?_
  first|refine L_rs ?_|refine L_reg ?_ | skip
  refine S_Q [] rfl rfl (QY.idxN rfl rfl hk) ?_
  first|refine L_rs ?_|refine L_reg ?_ | skip
  refine S_Q [] rfl rfl (QY.ldW rfl rfl (List.getElem?_eq_getElem hk)) ?_
  first|refine L_rs ?_|refine L_reg ?_ | skip
  refine S_Q [] rfl rfl (QY.remN (c:=((i % 64:Nat):Int)) rfl rfl (by omega) (by omega) (by omega)) ?_
  first|refine L_rs ?_|refine L_reg ?_ | skip
  refine S_Q [] rfl rfl (QY.shlW (a:=1#64) (n:=i % 64) rfl rfl) ?_
  first|refine L_rs ?_|refine L_reg ?_ | skip
  refine S_Q [] rfl rfl (QY.andNotW rfl rfl) ?_
  first|refine L_rs ?_|refine L_reg ?_ | skip
  refine S_Q [] rfl rfl (QY.idxN rfl rfl hk) ?_
  first|refine L_rs ?_|refine L_reg ?_ | skip
  refine eE rfl rfl (EW.stW (k:=i / 64) rfl rfl rfl hk) ?_
  conv=>whnf
  repeat' (first|refine qN ?_|refine dN ?_|refine dR ?_|refine d0 ?_|refine qB ?_|refine rT ?_|refine qT ?_|refine qU ?_|refine iF (fun h=>?_) (fun h=>?_)|refine aX ?_|refine qR ?_|refine qS ?_|exact ⟨rfl,rfl⟩|fail)
 ·repeat' (first|refine qN ?_|refine dN ?_|refine dR ?_|refine d0 ?_|refine qB ?_|refine rT ?_|refine qT ?_|refine qU ?_|refine iF (fun h=>?_) (fun h=>?_)|refine aX ?_|refine qR ?_|refine qS ?_|exact ⟨rfl,rfl⟩|fail)
  first|refine L_rs ?_|refine L_reg ?_ | skip
  refine cP [0,1] (hI) ?_
  repeat' (first|refine qN ?_|refine dN ?_|refine dR ?_|refine d0 ?_|refine qB ?_|refine rT ?_|refine qT ?_|refine qU ?_|refine iF (fun h=>?_) (fun h=>?_)|refine aX ?_|refine qR ?_|refine qS ?_|exact ⟨rfl,rfl⟩|fail)
  first|refine L_rs ?_|refine L_reg ?_ | skip
  refine S_Q [] rfl rfl (QY.divN (c:=((i / 64:Nat):Int)) rfl rfl (by omega) (by omega) (by omega)) ?_
  first|refine L_rs ?_|refine L_reg ?_ | skip
  refine S_Q [] rfl rfl (QY.idxN rfl rfl hk) ?_
  first|refine L_rs ?_|refine L_reg ?_ | skip
  refine S_Q [] rfl rfl (QY.ldW rfl rfl (List.getElem?_eq_getElem hk)) ?_
  first|refine L_rs ?_|refine L_reg ?_ | skip
  refine S_Q [] rfl rfl (QY.remN (c:=((i % 64:Nat):Int)) rfl rfl (by omega) (by omega) (by omega)) ?_
  first|refine L_rs ?_|refine L_reg ?_ | skip
  refine S_Q [] rfl rfl (QY.shlW (a:=1#64) (n:=i % 64) rfl rfl) ?_
  first|refine L_rs ?_|refine L_reg ?_ | skip
  refine S_Q [] rfl rfl (QY.orW rfl rfl) ?_
  first|refine L_rs ?_|refine L_reg ?_ | skip
  refine S_Q [] rfl rfl (QY.idxN rfl rfl hk) ?_
  first|refine L_rs ?_|refine L_reg ?_ | skip
  refine eE rfl rfl (EW.stW (k:=i / 64) rfl rfl rfl hk) ?_
  conv=>whnf
  repeat' (first|refine qN ?_|refine dN ?_|refine dR ?_|refine d0 ?_|refine qB ?_|refine rT ?_|refine qT ?_|refine qU ?_|refine iF (fun h=>?_) (fun h=>?_)|refine aX ?_|refine qR ?_|refine qS ?_|exact ⟨rfl,rfl⟩|fail)
theorem bsNew_tr (p:Int) (n:Nat) (hn:min (max p 0) 65536=n):Tr Tryz.prog 96 [.int .i64 p] [] (fun v K=>v=ptr 0∧K=BS (List.replicate ((n+63) / 64) 0) n):=by
 have hn':(imm false (imm true p 0) 65536)=n:=hn
 refine Tr.of row_bitset_New_ok rfl ?_
 refine L_rs (S_done [] rfl (Nx.goL (L_rs (S_done [] rfl (Nx.goL ?_)))))
 rw [hn']
 have hq:((n:Int)+64-1) / 64=((n+63) / 64:Nat):=by omega
 first|refine L_rs ?_|refine L_reg ?_ | skip
 refine S_Q [] rfl rfl (QY.add rfl rfl rfl (by omega) (by omega)) ?_
 first|refine L_rs ?_|refine L_reg ?_ | skip
 refine S_Q [] rfl rfl (QY.sub rfl rfl rfl (by omega) (by omega)) ?_
 first|refine L_rs ?_|refine L_reg ?_ | skip
 refine S_Q [] rfl rfl (QY.divN rfl rfl hq (by omega) (by omega)) ?_
 first|refine L_rs ?_|refine L_reg ?_ | skip
 refine eE rfl rfl (EW.mk (sz:=1) (bytes:=8) (k:=(n+63) / 64) (zs:=wordC 0) rfl (by kernel_rfl) rfl rfl (by omega) (by omega)) ?_
 conv=>whnf
 repeat' (first|refine qN ?_|refine dN ?_|refine dR ?_|refine d0 ?_|refine rT ?_|refine qR ?_|refine qS ?_|exact ⟨rfl,rfl⟩|fail)
 refine L_ret (RetQ.pick [1,0] rfl rfl rfl rfl ⟨rfl,?_⟩)
 rw [repC_rows (0:BitVec 64),BS,List.length_replicate]
 rfl
def cntW (ws:Words):Nat→Nat
 | 0=>0
 | k+1=>cntW ws k+popN (ws.getD k 0).toNat
theorem popN_le (x:Nat):popN x≤64:=by
 have h:=digs_le 64 x
 have hl:=digs_length 64 x
 have key:∀ (L:List Nat),(∀ d∈L,d≤1)→L.sum≤L.length:=by
  intro L
  induction L with
  | nil=>intro _; simp
  | cons a r ih=>intro h; have:=ih (fun d hd=>h d (by simp [hd])); have:=h a (by simp); simp only [List.sum_cons,List.length_cons]; omega
 have:=key _ h
 unfold popN; omega
theorem cntW_le (ws:Words):∀ k,cntW ws k≤64*k
 | 0=>by simp [cntW]
 | k+1=>by have:=cntW_le ws k; have:=popN_le (ws.getD k 0).toNat; simp only [cntW]; omega
end Go.Proofs.YthmdialagibpfaaGreatDoor
end
section
namespace Go.Proofs.YthmdialagibpfaaGreatDoor
open Go Go.Tum Go.Tum.Base
set_option maxRecDepth 4000
theorem ones_c (x:BitVec 64):∃ c:Nat,c=popN x.toNat∧c≤64∧Tr Tryz.prog 173 [.int .u64 (x.toNat:Int)] [] (fun v K=>v=.int .i64 c∧K=[]):=by
 have h:=ones_tr x
 have hp:=popN_le x.toNat
 revert h hp
 generalize popN x.toNat=c
 intro h hp
 exact ⟨c,rfl,hp,h⟩
attribute [local irreducible] popN
theorem cntW_s (ws:Words) (k:Nat) (hk:k<ws.length) (c:Nat) (hc:c=popN (ws[k]).toNat):cntW ws (k+1)=cntW ws k+c:=by
 have hg:ws.getD k 0=ws[k]:=by rw [List.getD_eq_getElem?_getD,List.getElem?_eq_getElem hk]; rfl
 rw [cntW,hg,hc]
set_option maxHeartbeats 1000000 in
theorem bsCount_tr (ws:Words) (n:Nat) (hw:ws.length≤1024):Tr Tryz.prog 123 [ptr 0] (BS ws n) (fun v K=>v=.int .i64 (cntW ws ws.length)∧K=BS ws n):=by
 refine Tr.of row_bitset_Set_Count_ok rfl ?_
 refine L_rs (S_done [] rfl (Nx.goL (L_rs (S_done [] rfl (Nx.goL (L_seq (L_rs (S_done [] rfl (Nx.goL (L_false rfl (L_skip (Nx.goL ?_)))))))))))) 
 refine L_cut (fun l L=>l=[(3,.int .i64 (cntW ws ws.length))]∧L=BS ws n) ?_ ?_
 ·refine L_rs (S_done [] rfl (Nx.pick [0,3,12,13,14] [0,1] rfl rfl rfl ?_))
  refine L_block (L_loop (fun r l L=>∃ k:Nat,r=ws.length-k∧k≤ws.length∧l=[(0,ptr 0),(3,.int .i64 (cntW ws k)),(12,slB 1 ws.length),(13,.int .i64 ws.length),(14,.int .i64 k)]∧L=BS ws n) ws.length ⟨0,rfl,by omega,rfl,rfl⟩ ?_)
  rintro r _ _ ⟨k,rfl,hk,rfl,rfl⟩
  first|refine L_seq (L_rs (S_done [] rfl (Nx.goL (iF (fun h=>L_skip (Nx.goL ?_)) (fun h=>L_exit ?_)))))|refine L_rs (S_done [] rfl (Nx.goL (L_seq (iF (fun h=>L_skip (Nx.goL ?_)) (fun h=>L_exit ?_)))))
  ·have hk':k<ws.length:=by omega
   have hle:=cntW_le ws k
   obtain ⟨c,hc,hpl,hO⟩:=ones_c ws[k]
   have hnx:=cntW_s ws k hk' c hc
   clear hc
   repeat' (first|refine qN ?_|refine dN ?_|refine dR ?_|refine d0 ?_|refine qB ?_|refine rT ?_|refine qT ?_|refine qU ?_|refine qL ?_|refine qK ?_|refine qF ?_|refine qE ?_|refine iF (fun h=>?_) (fun h=>?_)|refine aX ?_|refine qR ?_|refine qS ?_|exact ⟨rfl,rfl⟩|fail)
   first|refine L_rs ?_|refine L_reg ?_ | skip
   refine S_Q [] rfl rfl (QY.ldW rfl rfl (List.getElem?_eq_getElem hk')) ?_
   repeat' (first|refine qN ?_|refine dN ?_|refine dR ?_|refine d0 ?_|refine qB ?_|refine rT ?_|refine qT ?_|refine qU ?_|refine qL ?_|refine qK ?_|refine qF ?_|refine qE ?_|refine iF (fun h=>?_) (fun h=>?_)|refine aX ?_|refine qR ?_|refine qS ?_|exact ⟨rfl,rfl⟩|fail)
   first|refine L_rs ?_|refine L_reg ?_ | skip
   refine cP [] (hO) ?_
   repeat' (first|refine qN ?_|refine dN ?_|refine dR ?_|refine d0 ?_|refine qB ?_|refine rT ?_|refine qT ?_|refine qU ?_|refine qL ?_|refine qK ?_|refine qF ?_|refine qE ?_|refine iF (fun h=>?_) (fun h=>?_)|refine aX ?_|refine aA ?_|refine aI (hn:=?_)|refine qR ?_|refine qS ?_|exact ⟨rfl,rfl⟩|fail)
   exact Nx.pick [0,3,12,13,14] [0,1] rfl rfl rfl ⟨ws.length-(k+1),by omega,k+1,rfl,by omega,by rw [hnx]; rfl,rfl⟩
  ·obtain rfl:k=ws.length:=by omega
   exact Nx.pick [3] [0,1] rfl rfl rfl ⟨rfl,rfl⟩
 ·rintro _ _ ⟨rfl,rfl⟩
  repeat' (first|refine qN ?_|refine dN ?_|refine dR ?_|refine d0 ?_|refine qB ?_|refine rT ?_|refine qT ?_|refine qU ?_|refine qL ?_|refine qK ?_|refine qF ?_|refine qE ?_|refine iF (fun h=>?_) (fun h=>?_)|refine aX ?_|refine qR ?_|refine qS ?_|exact ⟨rfl,rfl⟩|fail)
end Go.Proofs.YthmdialagibpfaaGreatDoor
end
section
namespace Go.Proofs.YthmdialagibpfaaGreatDoor
open Go
theorem low_bit (x:BitVec 64) (k:Nat) (hk:k<64) (h1:x.getLsbD k=true) (h0:∀ j,j<k→x.getLsbD j=false):x &&& -x=BitVec.twoPow 64 k:=by
 apply BitVec.eq_of_getLsbD_eq
 intro j hj
 rw [BitVec.getLsbD_and,BitVec.getLsbD_neg,BitVec.getLsbD_twoPow]
 rcases Nat.lt_trichotomy j k with h | h | h
 ·rw [h0 j h]
  have:¬ k=j:=by omega
  simp [this]
 ·subst h
  have:¬ ∃ i,i<j∧x.getLsbD i=true:=by
   rintro ⟨i,hi,hx⟩
   rw [h0 i hi] at hx; cases hx
  rw [h1,decide_eq_false this]
  simp [hj]
 ·have:∃ i,i<j∧x.getLsbD i=true:=⟨k,h,h1⟩
  have hn:¬ k=j:=by omega
  rw [decide_eq_true this]
  cases x.getLsbD j <;> simp [hn,hj]
end Go.Proofs.YthmdialagibpfaaGreatDoor
end
section
namespace Go.Tum.Base
open Go Go.Tum
def nextF (ws:Words):Nat→Nat→Option Nat
 | 0,_=>none
 | f+1,k=>if bitAt ws k then some k else nextF ws f (k+1)
theorem nextF_skip {ws:Words}:∀ {m f k:Nat},(∀ j,k≤j→j<k+m→bitAt ws j=false)→nextF ws f k=nextF ws (f-m) (k+m)
 | 0,f,k,_=>rfl
 | m+1,0,k,_=>by rw [Nat.zero_sub]; rfl
 | m+1,f+1,k,h=>by
  rw [nextF,h k (Nat.le_refl _) (by omega),if_neg (by decide),nextF_skip (m:=m) (fun j h1 h2=>h j (by omega) (by omega)),show f+1-(m+1)=f-m by omega,show k+1+m=k+(m+1) by omega]
theorem nextF_at {ws:Words} {f k:Nat} (h:bitAt ws k=true) (hf:0<f):nextF ws f k=some k:=by
 cases f with
 | zero=>omega
 | succ f=>rw [nextF,if_pos h]
theorem nextF_in {ws:Words}:∀ {f k i:Nat},nextF ws f k=some i→k≤i∧i<k+f∧bitAt ws i=true∧∀ j,k≤j→j<i→bitAt ws j=false
 | 0,k,i,h=>by cases h
 | f+1,k,i,h=>by
  rw [nextF] at h
  split at h
  ·rename_i hb; cases h; exact ⟨Nat.le_refl _,by omega,hb,fun j h1 h2=>by omega⟩
  ·rename_i hb
   obtain ⟨h1,h2,h3,h4⟩:=nextF_in h
   refine ⟨by omega,by omega,h3,fun j h5 h6=>?_⟩
   by_cases e:j=k
   ·subst e; simpa using hb
   ·exact h4 j (by omega) h6
def allF (ws:Words) (f k:Nat):List Nat:=(List.range' k f).filter (bitAt ws)
def optI:Option Nat→Int
 | some i=>i
 | none=>0
def natI (l:List Nat):List Int:=l.map fun i:Nat=>(i:Int)
theorem allF_next {ws:Words}:∀ {f k:Nat},allF ws f k=match nextF ws f k with
  | some i=>i::allF ws (k+f-(i+1)) (i+1)
  | none=>[]
 | 0,k=>rfl
 | f+1,k=>by
  rw [nextF,allF,List.range'_succ,List.filter_cons]
  split
  ·simp only
   rw [show k+(f+1)-(k+1)=f by omega]; rfl
  ·have:=allF_next (ws:=ws) (f:=f) (k:=k+1)
   rw [allF] at this
   rw [this,show k+1+f=k+(f+1) by omega]
theorem low_ex (b:BitVec 64) (h:b≠0):∃ k,k<64∧b.getLsbD k=true∧∀ j,j<k→b.getLsbD j=false:=by
 have key:∀ n,n≤64→(∀ j,j<n→b.getLsbD j=false)∨∃ k,k<64∧b.getLsbD k=true∧∀ j,j<k→b.getLsbD j=false:=by
  intro n
  induction n with
  | zero=>intro _; exact .inl fun j hj=>by omega
  | succ n ih =>
   intro hn
   rcases ih (by omega) with h1 | h1
   ·cases hb:b.getLsbD n
    ·left; intro j hj
     by_cases e:j=n
     ·subst e; exact hb
     ·exact h1 j (by omega)
    ·exact .inr ⟨n,by omega,hb,h1⟩
   ·exact .inr h1
 rcases key 64 (Nat.le_refl _) with h1 | h1
 ·exact absurd (BitVec.eq_of_getLsbD_eq fun j hj=>by rw [h1 j hj]; simp) h
 ·exact h1
theorem tz_tab:∀ k:_root_.Fin 64,(BitVec.twoPow 64 k.val*285870213051353865#64 >>> 58).toNat<64∧tabTz[((BitVec.twoPow 64 k.val*285870213051353865#64) >>> 58).toNat]?=some (k.val:Int):=by decide
theorem tz_lt (k:Nat) (hk:k<64):((BitVec.twoPow 64 k*285870213051353865#64) >>> 58).toNat<64:=by
 rw [BitVec.toNat_ushiftRight,Nat.shiftRight_eq_div_pow]
 have:=(BitVec.twoPow 64 k*285870213051353865#64).isLt
 omega
theorem wrap_neg (b:BitVec 64):IntKind.u64.wrap (0-(b.toNat:Int))=((-b).toNat:Int):=by
 rw [IntKind.wrap_u64,BitVec.toNat_neg]
 have:=b.isLt
 omega
theorem word_zero {ws:Words} {i:Nat} (h:ws.getD (i / 64) 0 >>> (i % 64)=0#64):∀ j,i≤j→j<i+(64-i % 64)→bitAt ws j=false:=by
 intro j h1 h2
 have e1:j / 64=i / 64:=by omega
 have e2:j % 64=i % 64+(j-i):=by omega
 have:=congrArg (fun b:BitVec 64=>b.getLsbD (j-i)) h
 simp only [BitVec.getLsbD_ushiftRight] at this
 rw [bitAt,e1,e2,this]; simp
theorem word_low {ws:Words} {i k:Nat} (h1:(ws.getD (i / 64) 0 >>> (i % 64)).getLsbD k=true) (h0:∀ j,j<k→(ws.getD (i / 64) 0 >>> (i % 64)).getLsbD j=false):bitAt ws (i+k)=true∧i % 64+k<64∧∀ j,i≤j→j<i+k→bitAt ws j=false:=by
 rw [BitVec.getLsbD_ushiftRight] at h1
 have hlt:=BitVec.lt_of_getLsbD h1
 refine ⟨?_,hlt,fun j h2 h3=>?_⟩
 ·rw [bitAt,show (i+k) / 64=i / 64 by omega,show (i+k) % 64=i % 64+k by omega]; exact h1
 ·have:=h0 (j-i) (by omega)
  rw [BitVec.getLsbD_ushiftRight] at this
  rw [bitAt,show j / 64=i / 64 by omega,show j % 64=i % 64+(j-i) by omega]; exact this
end Go.Tum.Base
namespace Go.Proofs.YthmdialagibpfaaGreatDoor
open Go Go.Tum Go.Tum.Base
set_option maxRecDepth 4000
theorem tz_tr (b:BitVec 64) (k:Nat) (hk:k<64) (h1:b.getLsbD k=true) (h0:∀ j,j<k→b.getLsbD j=false):Tr Tryz.prog 202 [.int .u64 (b.toNat:Int)] [] (fun v K=>v=.int .i64 (k:Int)∧K=[]):=by
 have hb:b.toNat≠0:=fun e=>by
  have:b=0#64:=BitVec.eq_of_toNat_eq e
  rw [this] at h1; simp at h1
 have hl:=low_bit b k hk h1 h0
 refine Tr.of row_math_bits_TrailingZeros64_ok rfl ?_
 repeat' (first|refine qN ?_|refine dN ?_|refine dR ?_|refine d0 ?_|refine rT ?_|refine qT ?_|refine qU ?_|refine qL ?_|refine qK ?_|refine iF (fun h=>?_) (fun h=>?_)|refine aX ?_|refine qR ?_|refine qS ?_|exact ⟨rfl,rfl⟩|fail)
 ·exfalso; omega
 ·refine S_Q [] rfl rfl (QY.andW (a:=b) (b := -b) rfl (congrArg (fun z=>some (Value.int .u64 z)) (wrap_neg b))) ?_
  rw [hl]
  refine S_Q [] rfl rfl (QY.mulW (b:=285870213051353865#64) rfl rfl) ?_
  refine S_Q [] rfl rfl (QY.shrW (n:=58) rfl rfl) ?_
  refine S_tab (by kernel_rfl) rfl (tz_lt k hk) (tz_tab ⟨k,hk⟩).2 rfl ?_
  refine S_Q [] rfl rfl (QY.cvi rfl (m:=(k:Int)) (wrap64_id (by omega) (by omega))) ?_
  repeat' (first|refine qN ?_|refine dN ?_|refine dR ?_|refine d0 ?_|refine rT ?_|refine qT ?_|refine qU ?_|refine qL ?_|refine qK ?_|refine iF (fun h=>?_) (fun h=>?_)|refine aX ?_|refine qR ?_|refine qS ?_|exact ⟨rfl,rfl⟩|fail)
theorem bit_tr (b:Bool):Tr Tryz.prog 203 [.bool b] [] (fun v K=>v=.int .i64 (if b then 1 else 0)∧K=[]):=by
 refine Tr.of row_bitset_bit_ok rfl ?_
 cases b
 ·repeat' (first|refine qN ?_|refine dN ?_|refine dR ?_|refine d0 ?_|refine rT ?_|refine qT ?_|refine qU ?_|refine qL ?_|refine qK ?_|refine iF (fun h=>?_) (fun h=>?_)|refine aI (hn:=?_)|refine qR ?_|refine qS ?_|exact ⟨rfl,rfl⟩|fail)
 ·repeat' (first|refine qN ?_|refine dN ?_|refine dR ?_|refine d0 ?_|refine rT ?_|refine qT ?_|refine qU ?_|refine qL ?_|refine qK ?_|refine iF (fun h=>?_) (fun h=>?_)|refine aI (hn:=?_)|refine qR ?_|refine qS ?_|exact ⟨rfl,rfl⟩|fail)
set_option maxHeartbeats 1000000 in
theorem bsNext_tr (ws:Words) (n:Nat) (hn:n≤65536) (hw:n≤64*ws.length) (k0:Nat) (hk0:k0≤65600):Tr Tryz.prog 190 [ptr 0,.int .i64 k0,.bool true] (BS ws n) (fun v K=>v=.tuple ⟨[.int .i64 (optI (nextF ws (n-k0) k0)),.bool (nextF ws (n-k0) k0).isSome]⟩∧K=BS ws n):=by
 refine Tr.of row_bitset_Set_Next_ok rfl ?_
 refine L_rs (S_done [] rfl (Nx.goL ?_))
 refine L_cut (fun l L=>nextF ws (n-k0) k0=none∧l=[]∧L=BS ws n) ?_ ?_
 ·refine L_rs (S_done [] rfl (Nx.pick [0,2,8] [0,1] rfl rfl rfl ?_))
  refine L_block (L_loop (fun r l L=>∃ (i:Nat),r=n+64-i∧i≤65600∧(i<n→nextF ws (n-k0) k0=nextF ws (n-i) i)∧(n≤i→nextF ws (n-k0) k0=none)∧l=[(0,ptr 0),(2,.bool true),(8,.int .i64 i)]∧L=BS ws n) (n+64-k0) ⟨k0,rfl,hk0,fun _=>rfl,fun h=>by rw [show n-k0=0 by omega]; rfl,?_,rfl⟩ ?_)
  ·rw [show imm true (k0:Int) 0=k0 by show max (k0:Int) 0=k0; omega]; rfl
  rintro r _ _ ⟨i,rfl,hi,hp,hq,rfl,rfl⟩
  repeat' (first|refine qN ?_|refine dN ?_|refine dR ?_|refine d0 ?_|refine qB ?_|refine rT ?_|refine qT ?_|refine qU ?_|refine qL ?_|refine qK ?_|refine qF ?_|refine qE ?_|refine iF (fun h=>?_) (fun h=>?_)|refine aX ?_|refine aA ?_|refine aI (hn:=?_)|refine aD ?_|refine aR ?_|refine aM ?_|refine qR ?_|refine qS ?_|exact ⟨rfl,rfl⟩|fail)
  first|refine L_rs ?_|refine L_reg ?_ | skip
  refine cP [0,1] (bsLen_tr ws n) ?_
  repeat' (first|refine qN ?_|refine dN ?_|refine dR ?_|refine d0 ?_|refine qB ?_|refine rT ?_|refine qT ?_|refine qU ?_|refine qL ?_|refine qK ?_|refine qF ?_|refine qE ?_|refine iF (fun h=>?_) (fun h=>?_)|refine aX ?_|refine aA ?_|refine aI (hn:=?_)|refine aD ?_|refine aR ?_|refine aM ?_|refine qR ?_|refine qS ?_|exact ⟨rfl,rfl⟩|fail)
  ·have hlt:i<n:=by omega
   have hkl:i / 64<ws.length:=by omega
   have hw64:ws[i / 64]?=some (ws.getD (i / 64) 0):=by rw [List.getD_eq_getElem?_getD,List.getElem?_eq_getElem hkl]; rfl
   replace hp:=hp hlt
   refine S_Q [] rfl rfl (QY.idxN (k:=i / 64) rfl rfl hkl) ?_
   refine S_Q [] rfl rfl (QY.ldW rfl rfl hw64) ?_
   repeat' (first|refine qN ?_|refine dN ?_|refine dR ?_|refine d0 ?_|refine qB ?_|refine rT ?_|refine qT ?_|refine qU ?_|refine qL ?_|refine qK ?_|refine qF ?_|refine qE ?_|refine iF (fun h=>?_) (fun h=>?_)|refine aX ?_|refine aA ?_|refine aI (hn:=?_)|refine aD ?_|refine aR ?_|refine aM ?_|refine qR ?_|refine qS ?_|exact ⟨rfl,rfl⟩|fail)
   refine S_Q [] rfl rfl (QY.shrW (n:=i % 64) rfl rfl) ?_
   have hz:=word_zero (ws:=ws) (i:=i)
   have hlo:=fun k=>word_low (ws:=ws) (i:=i) (k:=k)
   generalize ws.getD (i / 64) 0 >>> (i % 64)=w at hz hlo
   repeat' (first|refine qN ?_|refine dN ?_|refine dR ?_|refine d0 ?_|refine qB ?_|refine rT ?_|refine qT ?_|refine qU ?_|refine qL ?_|refine qK ?_|refine qF ?_|refine qE ?_|refine iF (fun h=>?_) (fun h=>?_)|refine aX ?_|refine aA ?_|refine aI (hn:=?_)|refine aD ?_|refine aR ?_|refine aM ?_|refine qR ?_|refine qS ?_|exact ⟨rfl,rfl⟩|fail)
   ·have hw0:w=0#64:=BitVec.eq_of_toNat_eq (by simpa using h)
    have hz':=hz hw0
    refine Nx.pick [0,2,8] [0,1] rfl rfl rfl ⟨n+64-(i / 64+1)*64,by omega,(i / 64+1)*64,rfl,by omega,fun _=>?_,fun _=>?_,rfl,rfl⟩
    ·rw [hp,nextF_skip hz',show n-i-(64-i % 64)=n-(i / 64+1)*64 by omega,show i+(64-i % 64)=(i / 64+1)*64 by omega]
    ·rw [hp,nextF_skip (m:=n-i) (fun j h1 h2=>hz' j h1 (by omega)),Nat.sub_self]; rfl
   ·obtain ⟨k,hk,h1,h0⟩:=low_ex w (fun e=>h (by rw [e]; rfl))
    obtain ⟨hb,hlt2,hz2⟩:=hlo k h1 h0
    first|refine L_rs ?_|refine L_reg ?_ | skip
    refine cP [] (tz_tr w k hk h1 h0) ?_
    repeat' (first|refine qN ?_|refine dN ?_|refine dR ?_|refine d0 ?_|refine qB ?_|refine rT ?_|refine qT ?_|refine qU ?_|refine qL ?_|refine qK ?_|refine qF ?_|refine qE ?_|refine iF (fun h=>?_) (fun h=>?_)|refine aX ?_|refine aA ?_|refine aI (hn:=?_)|refine aD ?_|refine aR ?_|refine aM ?_|refine qR ?_|refine qS ?_|exact ⟨rfl,rfl⟩|fail)
    first|refine L_rs ?_|refine L_reg ?_ | skip
    refine cP [] (bit_tr (decide ((i:Int)+k<n))) ?_
    first|refine L_rs ?_|refine L_reg ?_ | skip
    refine S_Q [] rfl rfl (QY.mul (c:=if (i:Int)+k<n then ((i+k:Nat):Int) else 0) rfl rfl (by by_cases hc:(i:Int)+k<n <;> simp [hc]) (by split <;> omega) (by split <;> omega)) ?_
    repeat' (first|refine qN ?_|refine dN ?_|refine dR ?_|refine d0 ?_|refine qB ?_|refine rT ?_|refine qT ?_|refine qU ?_|refine qL ?_|refine qK ?_|refine qF ?_|refine qE ?_|refine iF (fun h=>?_) (fun h=>?_)|refine aX ?_|refine qR ?_|refine qS ?_|exact ⟨rfl,rfl⟩|fail)
    refine ⟨?_,rfl⟩
    rw [hp,nextF_skip hz2]
    by_cases hc:(i:Int)+k<n
    ·rw [nextF_at hb (by omega),if_pos hc,decide_eq_true hc]; rfl
    ·rw [show n-i-k=0 by omega,if_neg hc,decide_eq_false hc]; rfl
  ·exact Nx.pick [] [0,1] rfl rfl rfl ⟨hq (by omega),rfl,rfl⟩
 ·rintro _ _ ⟨hq,rfl,rfl⟩
  repeat' (first|refine qN ?_|refine dN ?_|refine dR ?_|refine d0 ?_|refine qB ?_|refine rT ?_|refine qT ?_|refine qU ?_|refine qL ?_|refine qK ?_|refine qF ?_|refine qE ?_|refine iF (fun h=>?_) (fun h=>?_)|refine aX ?_|refine aA ?_|refine aI (hn:=?_)|refine aD ?_|refine aR ?_|refine aM ?_|refine qR ?_|refine qS ?_|exact ⟨rfl,rfl⟩|fail)
  refine ⟨?_,rfl⟩
  rw [hq]; rfl
set_option maxHeartbeats 1000000 in
theorem bsAll_tr (ws:Words) (n:Nat) (hn:n≤65536) (hw:n≤64*ws.length):Tr Tryz.prog 181 [ptr 0] (BS ws n) (fun v K=>v=.slice (some ⟨2,0,none⟩) (allF ws n 0).length (allF ws n 0).length∧K=BS ws n++[.gro 1 (rowsC intC (natI (allF ws n 0)))]):=by
 have hN:=fun k hk=>bsNext_tr ws n hn hw k hk
 have h0:=hN 0 (by omega)
 refine Tr.of row_bitset_Set_All_ok rfl ?_
 refine L_rs (S_done [] rfl (Nx.goL (L_rs (S_done [] rfl (Nx.goL ?_)))))
 refine L_cut (fun l L=>l=[(3,.slice (some ⟨2,0,none⟩) (allF ws n 0).length (allF ws n 0).length)]∧L=BS ws n++[.gro 1 (rowsC intC (natI (allF ws n 0)))]) ?_ ?_
 ·refine LWp.drop [0,3] (LWp.nf ?_)
  conv=>whnf
  first|refine L_rs ?_|refine L_reg ?_ | skip
  refine cP [0,1] (h0) ?_
  refine S_done [] rfl ?_
  refine Nx.nilE 3 1 rfl (Nx.pick [0,3,4,5] [0,1,2] rfl rfl rfl ?_)
  refine L_block (L_loop (fun r l L=>∃ (k:Nat) (o:Option Nat) (d:List Nat),r=n+1-k∧k≤n∧nextF ws (n-k) k=o∧allF ws n 0=d++allF ws (n-k) k∧d.length≤k∧l=[(0,ptr 0),(3,.slice (some ⟨2,0,none⟩) d.length d.length),(4,.int .i64 (optI o)),(5,.bool o.isSome)]∧L=BS ws n++[.gro 1 (rowsC intC (natI d))]) (n+1) ⟨0,_,[],rfl,by omega,rfl,rfl,by decide,rfl,rfl⟩ ?_)
  rintro r _ _ ⟨k,o,d,rfl,hk,hp,ha,hd,rfl,rfl⟩
  have hb:=allF_next (ws:=ws) (f:=n-k) (k:=k)
  rw [hp] at hb
  rw [hb] at ha
  clear hb
  cases o with
  | none =>
   repeat' (first|refine qN ?_|refine dN ?_|refine dR ?_|refine d0 ?_|refine qB ?_|refine rT ?_|refine qT ?_|refine qU ?_|refine qL ?_|refine qK ?_|refine qF ?_|refine qE ?_|refine iF (fun h=>?_) (fun h=>?_)|refine aA ?_|refine aI (hn:=?_)|refine qR ?_|refine qS ?_|exact ⟨rfl,rfl⟩|fail)
   exact Nx.pick [3] [0,1,2] rfl rfl rfl ⟨by rw [ha,List.append_nil]; rfl,by rw [ha,List.append_nil]; rfl⟩
  | some i =>
   obtain ⟨h1,h2,_,_⟩:=nextF_in hp
   have h3:=hN (i+1) (by omega)
   repeat' (first|refine qN ?_|refine dN ?_|refine dR ?_|refine d0 ?_|refine qB ?_|refine rT ?_|refine qT ?_|refine qU ?_|refine qL ?_|refine qK ?_|refine qF ?_|refine qE ?_|refine iF (fun h=>?_) (fun h=>?_)|refine aA ?_|refine aI (hn:=?_)|refine qR ?_|refine qS ?_|exact ⟨rfl,rfl⟩|fail)
   first|refine L_rs ?_|refine L_reg ?_ | skip
   refine eE rfl rfl (EW.appR1 (bytes:=8) (a:=(i:Int)) intC_ok rfl (by kernel_rfl) rfl rfl rfl rfl (by simp [natI]) (by omega)) ?_
   conv=>whnf
   repeat' (first|refine qN ?_|refine dN ?_|refine dR ?_|refine d0 ?_|refine qB ?_|refine rT ?_|refine qT ?_|refine qU ?_|refine qL ?_|refine qK ?_|refine qF ?_|refine qE ?_|refine iF (fun h=>?_) (fun h=>?_)|refine aA ?_|refine aI (hn:=?_)|refine qR ?_|refine qS ?_|exact ⟨rfl,rfl⟩|fail)
   first|refine L_rs ?_|refine L_reg ?_ | skip
   refine S_Q [] rfl rfl (QY.add (c:=((i+1:Nat):Int)) rfl rfl (by show (i:Int)+1=_; omega) (by omega) (by omega)) ?_
   first|refine L_rs ?_|refine L_reg ?_ | skip
   refine cP [0,1] (h3) ?_
   refine S_done [] rfl ?_
   refine Nx.pick [0,3,4,5] [0,1,4] rfl rfl rfl ⟨n+1-(i+1),by omega,i+1,_,d++[i],rfl,by omega,rfl,?_,by simp; omega,?_,?_⟩
   ·rw [ha,List.append_assoc]; simp only; rw [show k+(n-k)-(i+1)=n-(i+1) by omega]; rfl
   ·rw [List.length_append]; rfl
   ·rw [natI,natI,List.map_append]; rfl
 ·rintro _ _ ⟨rfl,rfl⟩
  repeat' (first|refine qN ?_|refine dN ?_|refine dR ?_|refine d0 ?_|refine qB ?_|refine rT ?_|refine qT ?_|refine qU ?_|refine qL ?_|refine qK ?_|refine qF ?_|refine qE ?_|refine iF (fun h=>?_) (fun h=>?_)|refine aA ?_|refine aI (hn:=?_)|refine qR ?_|refine qS ?_|exact ⟨rfl,rfl⟩|fail)
  exact L_ret (RetQ.pick [0,1,2] rfl rfl rfl rfl ⟨rfl,rfl⟩)
end Go.Proofs.YthmdialagibpfaaGreatDoor
end
section
namespace Go.Tum.Base
open Go Go.Tum
structure HM where
 man:Nat
 mgd:Nat
 bs:Bytes
 rs:PRows
 G:Great
 c:Nat
 hw:Words
 mw:Words
structure HOk (m:HM):Prop where
 n1:m.man+m.mgd≤256
 nb:m.bs.length=256*(m.man+m.mgd)
 nr:m.rs.length=m.man+m.mgd
 lh:m.hw.length=(16*(m.man+m.mgd)+63) / 64
 lm:m.mw.length=(16*(m.man+m.mgd)+63) / 64
 row:∀ p:Nat,(pAt m.rs p).kind=4→m.man≤p∧(∃ c:Nat,c<4∧(pAt m.rs p).cls=c)∧(pAt m.rs p).run=1
 obj:∀ i:Nat,i<16*(m.man+m.mgd)→bitAt m.hw i=true→(pAt m.rs (i / 16:Nat)).kind=4∧∃ c:Nat,c<4∧(pAt m.rs (i / 16:Nat)).cls=c∧(16*(i % 16)) % szC c=0
 mrk:∀ i:Nat,i<16*(m.man+m.mgd)→bitAt m.mw i=true→bitAt m.hw i=true
 mhi:∀ i:Nat,16*(m.man+m.mgd)≤i→bitAt m.mw i=false
theorem pAt_nat (rs:PRows) (p:Nat):pAt rs p=rs.getD p PRow.Z:=by unfold pAt; rw [if_neg (by omega),Int.toNat_natCast]
theorem pAt_out {rs:PRows} {a:Int} (h:a<0∨(rs.length:Int)≤a):pAt rs a=PRow.Z:=by
 unfold pAt
 split
 ·rfl
 ·rw [List.getD_eq_getElem?_getD,List.getElem?_eq_none (by omega)]; rfl
def mgP (rs:PRows) (a:Int):Bool:=decide ((pAt rs a).kind=4)
theorem mgP_in {rs:PRows} {a:Int} (h:mgP rs a=true):∃ p:Nat,a=p∧p<rs.length∧(pAt rs p).kind=4:=by
 by_cases h1:a<0∨(rs.length:Int)≤a
 ·rw [mgP,pAt_out h1] at h; exact absurd h (by decide)
 ·obtain ⟨p,rfl⟩:=Int.eq_ofNat_of_zero_le (show 0≤a by omega)
  exact ⟨p,rfl,by omega,of_decide_eq_true h⟩
def slotF (hw:Words) (b z:Nat):Nat→Nat→Option Nat
 | 0,_=>none
 | f+1,k=>if bitAt hw ((b+z*k) / 16) then slotF hw b z f (k+1) else some (b+z*k)
theorem slotF_some {hw:Words} {b z:Nat}:∀ {f k a:Nat},slotF hw b z f k=some a→∃ j,k≤j∧j<k+f∧a=b+z*j∧bitAt hw (a / 16)=false
 | 0,_,_,h=>by cases h
 | f+1,k,a,h=>by
  rw [slotF] at h
  split at h
  ·obtain ⟨j,h1,h2,h3⟩:=slotF_some h; exact ⟨j,by omega,by omega,h3⟩
  ·rename_i hb; cases h; exact ⟨k,Nat.le_refl _,by omega,rfl,by simpa using hb⟩
def isPg (rs:PRows) (c p:Nat):Bool:=decide ((pAt rs p).kind=4∧(pAt rs p).cls=(c:Int))
def pageF (hw:Words) (c p:Nat):Option Nat:=slotF hw (256*p) (szC c) (256 / szC c) 0
def placeH (rs:PRows) (hw:Words) (c:Nat):Nat→Nat→Option Nat
 | 0,_=>none
 | f+1,p=>match (if isPg rs c p then pageF hw c p else none) with
  | some a=>some a
  | none=>placeH rs hw c f (p+1)
theorem placeH_some {rs:PRows} {hw:Words} {c:Nat}:∀ {f p a:Nat},placeH rs hw c f p=some a→∃ q j,p≤q∧q<p+f∧isPg rs c q=true∧j<256 / szC c∧a=256*q+szC c*j∧bitAt hw (a / 16)=false
 | 0,_,_,h=>by cases h
 | f+1,p,a,h=>by
  rw [placeH] at h
  split at h
  ·rename_i a' hs
   cases h
   split at hs
   ·rename_i hp
    obtain ⟨j,h1,h2,h3,h4⟩:=slotF_some hs
    exact ⟨p,j,Nat.le_refl _,by omega,hp,by omega,h3,h4⟩
   ·cases hs
  ·obtain ⟨q,j,h1,h2,h3⟩:=placeH_some h; exact ⟨q,j,by omega,by omega,h3⟩
def cOf (r n:Int):Nat:=(shC r n).toNat
theorem clsOf_in (x:Int):0≤clsOf x∧clsOf x<4:=by unfold clsOf; (repeat' split) <;> omega
theorem cOf_ok {r n:Int}:shC r n=cOf r n∧cOf r n<4:=by
 have:0≤shC r n∧shC r n<4:=by
  unfold shC; split
  ·exact clsOf_in _
  ·omega
 unfold cOf; omega
theorem cOf_room {r n:Int} (h:shOk r n=true):8*(1+r+n)≤szC (cOf r n):=by
 have hr:=shOk_t h
 unfold cOf shC
 rw [if_pos h]
 unfold clsOf
 (repeat' split) <;> simp [szC] <;> omega
def mrow (c:Nat):PRow:=⟨4,c,0,1⟩
def hasH (m:HM) (a:Int):Bool:=decide (0≤a∧a % 16=0∧a<256*(m.man+m.mgd:Nat)) && bitAt m.hw (a.toNat / 16)
theorem hasH_nat {m:HM} {a:Int} (h:hasH m a=true):∃ i:Nat,a=(16*i:Nat)∧i<16*(m.man+m.mgd)∧bitAt m.hw i=true:=by
 rw [hasH,Bool.and_eq_true,decide_eq_true_eq] at h
 obtain ⟨⟨h1,h2,h3⟩,h4⟩:=h
 exact ⟨a.toNat / 16,by omega,by omega,h4⟩
theorem hasH_at {m:HM} {i:Nat} (h:i<16*(m.man+m.mgd)):hasH m (16*i:Nat)=bitAt m.hw i:=by
 rw [hasH,decide_eq_true ⟨by omega,by omega,by omega⟩,Bool.true_and,Int.toNat_natCast,Nat.mul_div_cancel_left _ (by decide)]
def objN (m:HM):List Nat:=allF m.hw (16*(m.man+m.mgd)) 0
def objI (m:HM):List Int:=(objN m).map fun i:Nat=>((16*i:Nat):Int)
theorem objN_mem {m:HM} {i:Nat}:i∈objN m↔i<16*(m.man+m.mgd)∧bitAt m.hw i=true:=by
 unfold objN allF
 rw [List.mem_filter,List.mem_range']
 constructor
 ·rintro ⟨⟨j,h1,rfl⟩,h2⟩; exact ⟨by omega,h2⟩
 ·rintro ⟨h1,h2⟩; exact ⟨⟨i,h1,by omega⟩,h2⟩
theorem objI_length (m:HM):(objI m).length≤4096∨256<m.man+m.mgd:=by
 by_cases h:m.man+m.mgd≤256
 ·left
  unfold objI objN allF
  rw [List.length_map]
  have:=List.length_filter_le (bitAt m.hw) (List.range' 0 (16*(m.man+m.mgd)))
  rw [List.length_range'] at this
  omega
 ·right; omega
def pagesH (m:HM):List Nat:=(List.range' m.man m.mgd).filter fun p=>mgP m.rs (p:Int)
def inH (m:HM) (page:Int):List Int:=(objI m).filter fun a=>decide (a / 256=page)
def roomH (m:HM) (r n:Int):Bool:=shOk r n && ((placeH m.rs m.hw (cOf r n) m.mgd m.man).isSome || decide (longP m.rs m.mgd m.man 0 0 > 0))
def freeM (m:HM) (i:Nat):HM:={ m with bs:=overB m.bs (16*i) (List.replicate (szC (pAt m.rs (i / 16:Nat)).cls.toNat) 221),hw:=putBit m.hw i false,mw:=putBit m.mw i false }
def markM (m:HM) (i:Nat):HM:={ m with mw:=putBit m.mw i true }
def unmarkM (m:HM):HM:={ m with mw:=List.replicate ((16*(m.man+m.mgd)+63) / 64) 0 }
def tidyM (m:HM) (p:Nat):HM:={ m with rs:=clearP m.rs p 1 }
def allocM (m:HM) (a:Nat) (pg:Option Nat) (r n:Int):HM:={ m with bs:=madeO m.bs a r n,hw:=putBit m.hw (a / 16) true,rs:=(match pg with | some A=>layP m.rs A (mrow (cOf r n)) 1 | none=>m.rs) }
theorem obj_room {m:HM} (hm:HOk m) {i:Nat} (hi:i<16*(m.man+m.mgd)) (h:bitAt m.hw i=true):∃ c:Nat,c<4∧(pAt m.rs (i / 16:Nat)).cls=c∧16*i+szC c≤256*(i / 16+1):=by
 obtain ⟨_,c,hc,hcl,hz⟩:=hm.obj i hi h
 refine ⟨c,hc,hcl,?_⟩
 rcases szC_cases c with e | e | e | e <;> rw [e] at hz ⊢ <;> omega
theorem madeO_length {bs:Bytes} {i:Nat} {r n:Int} (hs:shOk r n=true) (h:(i:Int)+8*(1+r+n)≤bs.length):(madeO bs i r n).length=bs.length:=by
 have hr:=shOk_t hs
 unfold madeO
 have h1:(overB bs i (List.replicate (8*(1+r+n)).toNat 0)).length=bs.length:=overB_length (by rw [List.length_replicate]; omega)
 rw [overB_length (by rw [putB_length,h1]; omega),h1]
theorem objI_in {m:HM} (hm:HOk m) {k:Nat} (h:k<(objI m).length):0≤(objI m)[k]∧(objI m)[k]≤65536:=by
 have:=List.getElem_mem h
 unfold objI at this
 rw [List.mem_map] at this
 obtain ⟨i,h1,h2⟩:=this
 have h3:=(objN_mem.1 h1).1
 have hn1:=hm.n1
 have h4:(objI m)[k]=((16*i:Nat):Int):=h2.symm
 omega
theorem objI_len {m:HM} (hm:HOk m):(objI m).length≤4096:=by
 have hn1:=hm.n1
 rcases objI_length m with h | h
 ·exact h
 ·omega
end Go.Tum.Base
end
section
namespace Go.Tum.Base
open Go Go.Tum
abbrev Ob:=Int × Bool
def obC (x:Ob):List Value:=[.int .i64 x.1,.bool x.2]
theorem obC_ok:RowOk obC 2:=⟨fun _=>rfl,fun _=>rfl⟩
abbrev Gb:=Int × Int
def gbC (x:Gb):List Value:=[.int .i64 x.1,.int .i64 x.2]
theorem gbC_ok:RowOk gbC 2:=⟨fun _=>rfl,fun _=>rfl⟩
def glPut (gl:List Gb) (p n:Int):List Gb:=gl.filter (fun x=>decide (x.1<p))++(p,n)::gl.filter (fun x=>decide (p<x.1))
def markN (L:List Ob):Nat:=(L.filter (·.2)).length
def obs (m:HM):List Ob:=(objN m).map fun i:Nat=>(((16*i:Nat):Int),bitAt m.mw i)
theorem obs_length (m:HM):(obs m).length=(objN m).length:=List.length_map _
def idxF (a:Int):List Ob→Nat→Int
 | [],_ => -1
 | x::r,k=>if x.1=a then k else idxF a r (k+1)
theorem idxF_no {a:Int}:∀ {L:List Ob} {k:Nat},(∀ x∈L,x.1≠a)→idxF a L k = -1
 | [],_,_=>rfl
 | x::r,k,h=>by rw [idxF,if_neg (h x (List.mem_cons_self ..)),idxF_no fun y hy=>h y (List.mem_cons_of_mem _ hy)]
theorem idxF_at {a:Int}:∀ {L:List Ob} {k:Nat},(∃ x∈L,x.1=a)→∃ (j:Nat) (b:Bool),idxF a L k=((k+j:Nat):Int)∧L[j]?=some (a,b)∧∀ i,i<j→∀ y,L[i]?=some y→y.1≠a
 | [],_,h=>by obtain ⟨x,hx,_⟩:=h; cases hx
 | x::r,k,h=>by
  by_cases hx:x.1=a
  ·exact ⟨0,x.2,by rw [idxF,if_pos hx]; rfl,by rw [← hx]; rfl,fun i hi=>by omega⟩
  ·obtain ⟨y,hy,hya⟩:=h
   have hy':y∈r:=by
    rcases List.mem_cons.1 hy with e | e
    ·subst e; exact absurd hya hx
    ·exact e
   obtain ⟨j,b,h1,h2,h3⟩:=idxF_at (k:=k+1) ⟨y,hy',hya⟩
   refine ⟨j+1,b,by rw [idxF,if_neg hx,h1]; congr 1; omega,by simpa using h2,fun i hi z hz=>?_⟩
   cases i with
   | zero=>simp at hz; subst hz; exact hx
   | succ i=>exact h3 i (by omega) z (by simpa using hz)
theorem objN_nodup (m:HM):(objN m).Nodup:=List.Pairwise.filter _ List.nodup_range'
theorem obs_get {m:HM} {j:Nat} {x:Ob} (h:(obs m)[j]?=some x):∃ i,(objN m)[j]?=some i∧x=(((16*i:Nat):Int),bitAt m.mw i)∧i<16*(m.man+m.mgd)∧bitAt m.hw i=true:=by
 rw [obs,List.getElem?_map] at h
 cases hq:(objN m)[j]? with
 | none=>rw [hq] at h; cases h
 | some i =>
  rw [hq] at h; cases h
  have:=objN_mem.1 (List.mem_of_getElem? hq)
  exact ⟨i,rfl,rfl,this.1,this.2⟩
theorem obs_mem {m:HM} {x:Ob}:x∈obs m↔∃ i,i<16*(m.man+m.mgd)∧bitAt m.hw i=true∧x=(((16*i:Nat):Int),bitAt m.mw i):=by
 rw [obs,List.mem_map]
 constructor
 ·rintro ⟨i,h1,rfl⟩; have:=objN_mem.1 h1; exact ⟨i,this.1,this.2,rfl⟩
 ·rintro ⟨i,h1,h2,rfl⟩; exact ⟨i,objN_mem.2 ⟨h1,h2⟩,rfl⟩
theorem idx_no {m:HM} {a:Int} (h:hasH m a=false):idxF a (obs m) 0 = -1:=by
 refine idxF_no fun x hx e=>?_
 obtain ⟨i,h1,h2,rfl⟩:=obs_mem.1 hx
 simp only at e
 rw [← e,hasH_at h1,h2] at h
 cases h
theorem idx_at {m:HM} {i:Nat} (h1:i<16*(m.man+m.mgd)) (h2:bitAt m.hw i=true):∃ j:Nat,idxF (16*i:Nat) (obs m) 0=(j:Int)∧j<(obs m).length∧(obs m)[j]?=some (((16*i:Nat):Int),bitAt m.mw i)∧(objN m)[j]?=some i:=by
 obtain ⟨j,b,h3,h4,_⟩:=idxF_at (a:=((16*i:Nat):Int)) (L:=obs m) (k:=0) ⟨_,obs_mem.2 ⟨i,h1,h2,rfl⟩,rfl⟩
 obtain ⟨i',h5,h6,_⟩:=obs_get h4
 have h7:i'=i:=by
  have:=congrArg Prod.fst h6
  simp only at this
  omega
 subst h7
 refine ⟨j,by rw [h3,Nat.zero_add],(List.getElem?_eq_some_iff.1 h4).1,?_,h5⟩
 rw [h4,h6]
theorem obs_mark {m:HM} (hm:HOk m) {i j:Nat} (h1:i<16*(m.man+m.mgd)) (hj:(objN m)[j]?=some i):(obs m).set j (((16*i:Nat):Int),true)=obs (markM m i):=by
 have hlm:=hm.lm
 have hN:objN (markM m i)=objN m:=rfl
 apply List.ext_getElem?
 intro k
 rw [List.getElem?_set,obs,obs,hN,List.getElem?_map,List.getElem?_map,List.length_map]
 have hlt:=(List.getElem?_eq_some_iff.1 hj).1
 by_cases e:j=k
 ·subst e
  rw [if_pos rfl,if_pos hlt,hj,Option.map_some,markM]
  simp only
  rw [bitAt_put true (by omega),if_pos rfl]
 ·rw [if_neg e]
  cases hk:(objN m)[k]? with
  | none=>rfl
  | some i' =>
   have hne:i'≠i:=fun e2=>e ((List.getElem?_inj hlt (objN_nodup m)).1 (by rw [hj,hk,e2]))
   rw [Option.map_some,Option.map_some,markM]
   simp only
   rw [bitAt_put true (by omega),if_neg hne]
theorem erase_filter {i:Nat}:∀ {xs:List Nat} {j:Nat},xs.Nodup→xs[j]?=some i→xs.take j++xs.drop (j+1)=xs.filter (fun x=>decide (x≠i))
 | [],_,_,h=>by simp at h
 | x::r,0,hn,h=>by
  simp at h; subst h
  have:∀ y∈r,decide (y≠x)=true:=fun y hy=>decide_eq_true fun e=>by subst e; exact (List.nodup_cons.1 hn).1 hy
  rw [List.filter_cons,if_neg (by simp),List.filter_eq_self.2 this]; simp
 | x::r,j+1,hn,h=>by
  simp at h
  have hx:x≠i:=fun e=>by subst e; exact (List.nodup_cons.1 hn).1 (List.mem_of_getElem? h)
  rw [List.filter_cons,if_pos (by simpa using hx),← erase_filter (List.nodup_cons.1 hn).2 h]; simp
theorem obs_free {m:HM} (hm:HOk m) {i j:Nat} (h1:i<16*(m.man+m.mgd)) (hj:(objN m)[j]?=some i):(obs m).take j++(obs m).drop (j+1)=obs (freeM m i):=by
 have hlm:=hm.lm
 have hlh:=hm.lh
 have hN:objN (freeM m i)=(objN m).filter (fun x=>decide (x≠i)):=by
  unfold objN allF freeM
  simp only
  rw [List.filter_filter]
  apply List.filter_congr
  intro x _
  rw [bitAt_put false (by omega)]
  by_cases e:x=i
  ·simp [e]
  ·simp [e]
 rw [obs,obs,hN,← List.map_take,← List.map_drop,← List.map_append,erase_filter (objN_nodup m) hj]
 apply List.map_congr_left
 intro x hx
 have hne:x≠i:=by simpa using (List.mem_filter.1 hx).2
 unfold freeM
 simp only
 rw [bitAt_put false (by omega),if_neg hne]
theorem range'_split (n i:Nat) (h:i<n):List.range' 0 n=List.range' 0 i++i::List.range' (i+1) (n-i-1):=by
 rw [show n=i+(n-i) by omega,← List.range'_append_1,show i+(n-i)-i-1=n-i-1 by omega,Nat.zero_add]
 congr 1
 obtain ⟨k,hk⟩:∃ k,n-i=k+1:=⟨n-i-1,by omega⟩
 rw [hk,List.range'_succ,Nat.add_sub_cancel]
theorem objN_put {m:HM} {ws:Words} {i:Nat} (hw:m.hw=ws) (h1:i<16*(m.man+m.mgd)) (hl:i / 64<ws.length) (h2:bitAt ws i=false) {m':HM} (e1:m'.man=m.man) (e2:m'.mgd=m.mgd) (e3:m'.hw=putBit ws i true) :
  objN m'=(objN m).filter (fun x=>decide (x<i))++i::(objN m).filter (fun x=>decide (i<x)):=by
 unfold objN allF
 rw [e1,e2,e3,hw,range'_split _ i h1]
 have hA:(List.range' 0 i).filter (bitAt (putBit ws i true))=(List.range' 0 i).filter (bitAt ws):=List.filter_congr fun x hx=>by
  rw [List.mem_range'] at hx
  obtain ⟨j,hj,rfl⟩:=hx
  rw [bitAt_put true hl,if_neg (by omega)]
 have hB:(List.range' (i+1) (16*(m.man+m.mgd)-i-1)).filter (bitAt (putBit ws i true))=(List.range' (i+1) (16*(m.man+m.mgd)-i-1)).filter (bitAt ws):=List.filter_congr fun x hx=>by
  rw [List.mem_range'] at hx
  obtain ⟨j,hj,rfl⟩:=hx
  rw [bitAt_put true hl,if_neg (by omega)]
 have mA:∀ x∈(List.range' 0 i).filter (bitAt ws),x<i:=fun x hx=>by
  have:=(List.mem_filter.1 hx).1
  rw [List.mem_range'] at this
  obtain ⟨j,hj,rfl⟩:=this; omega
 have mB:∀ x∈(List.range' (i+1) (16*(m.man+m.mgd)-i-1)).filter (bitAt ws),i<x:=fun x hx=>by
  have:=(List.mem_filter.1 hx).1
  rw [List.mem_range'] at this
  obtain ⟨j,hj,rfl⟩:=this; omega
 rw [List.filter_append,List.filter_append,List.filter_cons,List.filter_cons,hA,hB,if_pos (by rw [bitAt_put true hl,if_pos rfl]),if_neg (by rw [h2]; decide)]
 generalize (List.range' 0 i).filter (bitAt ws)=A at *
 generalize (List.range' (i+1) (16*(m.man+m.mgd)-i-1)).filter (bitAt ws)=B at *
 have f1:A.filter (fun x=>decide (x<i))=A:=List.filter_eq_self.2 fun x hx=>decide_eq_true (mA x hx)
 have f2:B.filter (fun x=>decide (x<i))=[]:=List.filter_eq_nil_iff.2 fun x hx=>by have:=mB x hx; simp; omega
 have f3:A.filter (fun x=>decide (i<x))=[]:=List.filter_eq_nil_iff.2 fun x hx=>by have:=mA x hx; simp; omega
 have f4:B.filter (fun x=>decide (i<x))=B:=List.filter_eq_self.2 fun x hx=>decide_eq_true (mB x hx)
 rw [List.filter_append,List.filter_append,f1,f2,f3,f4,List.append_nil,List.nil_append]
theorem obs_alloc {m:HM} (hm:HOk m) {i:Nat} (h1:i<16*(m.man+m.mgd)) (h2:bitAt m.hw i=false) {m':HM} (e1:m'.man=m.man) (e2:m'.mgd=m.mgd) (e3:m'.hw=putBit m.hw i true) (e4:m'.mw=m.mw) :
  obs m'=(obs m).filter (fun x=>decide (x.1<((16*i:Nat):Int)))++(((16*i:Nat):Int),false)::(obs m).filter (fun x=>decide (((16*i:Nat):Int)<x.1)):=by
 have hlh:=hm.lh
 have hmk:bitAt m.mw i=false:=by
  cases hb:bitAt m.mw i
  ·rfl
  ·have:=hm.mrk i h1 hb; rw [h2] at this; cases this
 rw [obs,obs,objN_put rfl h1 (by omega) h2 e1 e2 e3,e4,List.map_append,List.map_cons,List.filter_map,List.filter_map,hmk]
 congr 2
 ·congr 1
  congr 1
  funext x
  rw [Bool.eq_iff_iff]; simp
 ·congr 1
  congr 1
  congr 1
  funext x
  rw [Bool.eq_iff_iff]; simp
theorem obs_unmark (m:HM):obs (unmarkM m)=(obs m).map fun x=>(x.1,false):=by
 have hN:objN (unmarkM m)=objN m:=rfl
 rw [obs,obs,hN,List.map_map]
 apply List.map_congr_left
 intro i _
 have:bitAt (unmarkM m).mw i=false:=by
  unfold unmarkM bitAt
  simp only
  rw [List.getD_eq_getElem?_getD,List.getElem?_replicate]
  split <;> simp
 rw [this]; rfl
theorem obs_tidy (m:HM) (p:Nat):obs (tidyM m p)=obs m:=rfl
theorem inH_obs (m:HM) (page:Int):inH m page=((obs m).filter fun x=>decide (x.1 / 256=page)).map (·.1):=by
 rw [inH,objI,obs,List.filter_map,List.filter_map,List.map_map]
 rfl
end Go.Tum.Base
end
section
namespace Go.Tum.Base
open Go Go.Tum
def hornerN:Bytes→Nat
 | []=>0
 | b::r=>b.toNat+256*hornerN r
theorem hornerN_lt:∀ bs:Bytes,hornerN bs<256 ^ bs.length
 | []=>by simp [hornerN]
 | b::r=>by
  have:=hornerN_lt r
  have hb:=b.isLt
  simp only [hornerN,List.length_cons,Nat.pow_succ]
  omega
theorem hornerN_snoc:∀ (xs:Bytes) (b:BitVec 8),hornerN (xs++[b])=hornerN xs+256 ^ xs.length*b.toNat
 | [],b=>by simp [hornerN]
 | x::r,b=>by
  simp only [List.cons_append,hornerN,hornerN_snoc r b,List.length_cons,Nat.pow_succ]
  rw [Nat.mul_add,← Nat.mul_assoc,Nat.mul_comm 256 (256 ^ r.length)]; omega
theorem pow256 (k:Nat):256 ^ k=2 ^ (8*k):=by rw [Nat.pow_mul]
theorem getF_horner (bs:Bytes):∀ k,k≤8→k≤bs.length→(getF bs k).toNat=hornerN (bs.take k)
 | 0,_,_=>by simp [getF,hornerN]
 | k+1,h8,hk=>by
  have ih:=getF_horner bs k (by omega) (by omega)
  have hlt:=hornerN_lt (bs.take k)
  rw [List.length_take,Nat.min_eq_left (by omega),pow256] at hlt
  have hg:bs.getD k 0=bs[k]:=by rw [List.getD_eq_getElem?_getD,List.getElem?_eq_getElem (by omega)]; rfl
  have hb:=bs[k].isLt
  have hp:2 ^ (8*k)*256≤2 ^ 64:=by
   have:2 ^ (8*k)*2 ^ 8≤2 ^ 64:=by rw [← Nat.pow_add]; exact Nat.pow_le_pow_right (by decide) (by omega)
   omega
  have hsh:(bs[k].setWidth 64 <<< (8*k)).toNat=2 ^ (8*k)*bs[k].toNat:=by
   rw [BitVec.toNat_shiftLeft,Nat.shiftLeft_eq,BitVec.toNat_setWidth,Nat.mod_eq_of_lt (a:=bs[k].toNat) (by omega),Nat.mul_comm,Nat.mod_eq_of_lt]
   have:2 ^ (8*k)*bs[k].toNat<2 ^ (8*k)*256:=Nat.mul_lt_mul_of_pos_left hb (Nat.two_pow_pos _)
   omega
  rw [getF,hg,BitVec.toNat_or,ih,hsh,Nat.or_comm,← Nat.two_pow_add_eq_or_of_lt hlt,List.take_succ_eq_append_getElem (by omega),hornerN_snoc,List.length_take,Nat.min_eq_left (by omega),pow256]
  omega
theorem getW_horner {bs:Bytes} (h:bs.length=8):getW bs=BitVec.ofNat 64 (hornerN bs):=by
 apply BitVec.eq_of_toNat_eq
 have h1:=hornerN_lt bs
 rw [h] at h1
 have h2:=getF_horner bs 8 (by omega) (by omega)
 rw [List.take_of_length_le (by omega)] at h2
 rw [getW,h,show min 8 8=8 by rfl,h2,BitVec.toNat_ofNat,Nat.mod_eq_of_lt (by simpa using h1)]
theorem shift_step (v:BitVec 64) (k:Nat):v >>> (8*k) >>> 8=v >>> (8*(k+1)):=by
 apply BitVec.eq_of_getLsbD_eq
 intro i hi
 simp only [BitVec.getLsbD_ushiftRight]
 congr 1; omega
def inB (n:Nat) (a k:Int):Bool:=decide (0≤a∧0≤k∧k≤n∧a≤n-k)
end Go.Tum.Base
namespace Go.Proofs.YthmdialagibpfaaGreatDoor
open Go Go.Tum Go.Tum.Base
set_option maxRecDepth 4000
theorem rMix_tr (x:BitVec 64):Tr Tryz.prog 157 [.int .u64 (x.toNat:Int)] [] (fun v K=>v=.int .u64 ((mixW x).toNat:Int)∧K=[]):=by
 refine Tr.of row_tumbrelref06_Mix_ok rfl ?_
 repeat' (first|refine qN ?_|refine dN ?_|refine dR ?_|refine d0 ?_|refine rT ?_|refine S_Q [] rfl rfl (QY.quoW 30 rfl rfl (by decide) (by decide)) ?_|refine S_Q [] rfl rfl (QY.quoW 27 rfl rfl (by decide) (by decide)) ?_|refine S_Q [] rfl rfl (QY.quoW 31 rfl rfl (by decide) (by decide)) ?_|refine S_Q [] rfl rfl (QY.xorW rfl rfl) ?_|refine S_Q [] rfl rfl (QY.mulW (b:=0xBF58476D1CE4E5B9#64) rfl rfl) ?_|refine S_Q [] rfl rfl (QY.mulW (b:=0x94D049BB133111EB#64) rfl rfl) ?_|refine aI (hn:=?_)|refine aD ?_|refine aM ?_|refine qR ?_|refine qS ?_|exact ⟨rfl,rfl⟩|fail)
theorem rKey_tr (x:BitVec 64):Tr Tryz.prog 97 [.int .u64 (x.toNat:Int)] [] (fun v K=>v=.int .u64 ((keyW x).toNat:Int)∧K=[]):=by
 have h:=rMix_tr (x+0x9E3779B97F4A7C15#64)
 refine Tr.of row_tumbrelref06_Key_ok rfl ?_
 repeat' (first|refine qN ?_|refine dN ?_|refine dR ?_|refine d0 ?_|refine rT ?_|refine S_Q [] rfl rfl (QY.addW (b:=0x9E3779B97F4A7C15#64) rfl rfl) ?_|refine cP [] (h) ?_|refine aA ?_|refine aI (hn:=?_)|refine qR ?_|refine qS ?_|exact ⟨rfl,rfl⟩|fail)
set_option maxHeartbeats 1000000 in
theorem rGet_tr (ys:Bytes) (i c:Nat) (h:i+8≤ys.length) (hb:ys.length≤65536):Tr Tryz.prog 86 [.slice (some ⟨0,i*1,none⟩) 8 c] [BL ys] (fun v K=>v=.int .u64 ((wordB ys i).toNat:Int)∧K=[BL ys]):=by
 have hp:(partB ys i 8).length=8:=partB_length h
 rw [wordB,getW_horner hp]
 obtain ⟨W,hW⟩:∃ W:Nat→BitVec 64,W=fun k=>BitVec.ofNat 64 (hornerN ((partB ys i 8).drop k)):=⟨_,rfl⟩
 have hg:∀ k,k<8→ys[i+k]?=some ((partB ys i 8).getD k 0):=fun k hk=>by
  rw [List.getD_eq_getElem?_getD,partB,List.getElem?_take,if_pos hk,List.getElem?_drop,List.getElem?_eq_getElem (by omega)]; rfl
 have hWs:∀ k,k<8→W (k+1)*256#64+((partB ys i 8).getD k 0).setWidth 64=W k:=fun k hk=>by
  rw [hW]
  simp only
  have hd:(partB ys i 8).drop k=(partB ys i 8).getD k 0::(partB ys i 8).drop (k+1):=by
   rw [List.drop_eq_getElem_cons (by omega),List.getD_eq_getElem?_getD,List.getElem?_eq_getElem (by omega)]; rfl
  rw [hd,hornerN]
  apply BitVec.eq_of_toNat_eq
  have:=((partB ys i 8).getD k 0).isLt
  simp only [BitVec.toNat_add,BitVec.toNat_mul,BitVec.toNat_ofNat,BitVec.toNat_setWidth]
  omega
 have hW8:W 8=0#64:=by rw [hW]; simp only; rw [List.drop_eq_nil_of_le (by omega)]; rfl
 have hW0:W 0=BitVec.ofNat 64 (hornerN (partB ys i 8)):=by rw [hW]; simp only; rw [List.drop_zero]
 rw [← hW0]
 generalize partB ys i 8=xs at *
 refine Tr.of row_tumbrelref01_Get_ok rfl ?_
 repeat' (first|refine qN ?_|refine dN ?_|refine d0 ?_|refine qB ?_|refine qT ?_|refine qU ?_|refine qL ?_|refine qK ?_|refine qF ?_|refine qE ?_|refine iF (fun h=>?_) (fun h=>?_)|refine aX ?_|refine aA ?_|refine aS ?_|refine aI (hn:=?_)|refine aM ?_|refine qR ?_|refine qS ?_|exact ⟨rfl,rfl⟩|fail)
 refine LWp.pick [0,3,4] [0] rfl rfl rfl (L_loop (fun q l L=>∃ k:Nat,q=k∧k≤8∧l=[(0,.slice (some ⟨0,i*1,none⟩) 8 c),(3,.int .u64 ((W k).toNat:Int)),(4,.int .i64 ((k:Int)-1))]∧L=[BL ys]) 8 ⟨8,rfl,by omega,by rw [hW8]; rfl,rfl⟩ ?_)
 rintro k _ _ ⟨_,rfl,hk,rfl,rfl⟩
 cases k with
 | zero =>
  repeat' (first|refine qN ?_|refine dN ?_|refine dR ?_|refine d0 ?_|refine qB ?_|refine rT ?_|refine qT ?_|refine qU ?_|refine qL ?_|refine qK ?_|refine qF ?_|refine qE ?_|refine iF (fun h=>?_) (fun h=>?_)|refine aX ?_|refine aA ?_|refine aS ?_|refine aI (hn:=?_)|refine aM ?_|refine qR ?_|refine qS ?_|exact ⟨rfl,rfl⟩|fail)
 | succ k =>
  have hgk:=hg k (by omega)
  have hWk:=hWs k (by omega)
  rw [show ((k+1:Nat):Int)-1=(k:Int) by omega]
  repeat' (first|refine qN ?_|refine dN ?_|refine d0 ?_|refine qB ?_|refine qT ?_|refine qU ?_|refine qL ?_|refine qK ?_|refine qF ?_|refine qE ?_|refine iF (fun h=>?_) (fun h=>?_)|refine aX ?_|refine S_Q [] rfl rfl (QY.mulW (b:=256#64) rfl rfl) ?_|refine S_Q [] rfl rfl (QY.idxO (k:=k) rfl rfl (by omega)) ?_|refine S_Q [] rfl rfl (QY.ldYo rfl (by omega) rfl hgk) ?_|refine S_Q [] rfl rfl (QY.cvBW rfl) ?_|refine S_Q [] rfl rfl (QY.addW rfl rfl) ?_|refine aA ?_|refine aS ?_|refine aI (hn:=?_)|refine aM ?_|refine qR ?_|refine qS ?_|exact ⟨rfl,rfl⟩|fail)
  ·rw [hWk]
   exact Nx.pick [0,3,4] [0] rfl rfl rfl ⟨k,by omega,k,rfl,by omega,rfl,rfl⟩
set_option maxHeartbeats 1000000 in
theorem rPut_tr (v:BitVec 64):Tr Tryz.prog 171 [.int .i64 8,.int .u64 (v.toNat:Int)] [] (fun u K=>u=slB 0 8∧K=[BL (putB v 8)]):=by
 refine Tr.of row_tumbrelref01_Put_ok rfl ?_
 repeat' (first|refine qN ?_|refine dN ?_|refine d0 ?_|refine qB ?_|refine qT ?_|refine qU ?_|refine qL ?_|refine qK ?_|refine qF ?_|refine qE ?_|refine iF (fun h=>?_) (fun h=>?_)|refine aA ?_|refine aI (hn:=?_)|refine aD ?_|refine aR ?_|refine sP 10 (fun h=>?_) (fun h=>?_)|refine qR ?_|refine qS ?_|exact ⟨rfl,rfl⟩|fail)
 refine LWp.nilE 5 1 rfl (LWp.pick [0,1,5,6] [0] rfl rfl rfl (L_loop (fun q l L=>∃ k:Nat,q=8-k∧k≤8∧l=[(0,.int .i64 8),(1,.int .u64 ((v >>> (8*k)).toNat:Int)),(5,.slice (some ⟨0,0,none⟩) k k),(6,.int .i64 k)]∧L=[BL (putB v k)]) 8 ⟨0,rfl,by omega,by rw [Nat.mul_zero,BitVec.ushiftRight_zero]; rfl,rfl⟩ ?_))
 rintro q _ _ ⟨k,rfl,hk,rfl,rfl⟩
 repeat' (first|refine qN ?_|refine dN ?_|refine d0 ?_|refine qB ?_|refine qT ?_|refine qU ?_|refine qL ?_|refine qK ?_|refine qF ?_|refine qE ?_|refine iF (fun h=>?_) (fun h=>?_)|refine S_Q [] rfl rfl (QY.rem256 rfl rfl) ?_|refine S_Q [] rfl rfl (QY.cvi rfl (rem_byte _)) ?_|refine S_Q [] rfl rfl (QY.quoW 8 rfl rfl (by decide) (by decide)) ?_|refine aA ?_|refine aI (hn:=?_)|refine aD ?_|refine aR ?_|refine sP 10 (fun h=>?_) (fun h=>?_)|refine qR ?_|refine qS ?_|exact ⟨rfl,rfl⟩|fail)
 ·first|refine L_rs ?_|refine L_reg ?_ | skip
  refine eE rfl rfl (EW.appR1 (bytes:=1) (a:=byteAt v k) byteC_ok rfl (by kernel_rfl) rfl rfl rfl rfl (putB_length v k) (by omega)) ?_
  conv=>whnf
  repeat' (first|refine qN ?_|refine dN ?_|refine d0 ?_|refine qB ?_|refine qT ?_|refine qU ?_|refine qL ?_|refine qK ?_|refine qF ?_|refine qE ?_|refine iF (fun h=>?_) (fun h=>?_)|refine S_Q [] rfl rfl (QY.quoW 8 rfl rfl (by decide) (by decide)) ?_|refine aA ?_|refine aI (hn:=?_)|refine aD ?_|refine aR ?_|refine sP 10 (fun h=>?_) (fun h=>?_)|refine qR ?_|refine qS ?_|exact ⟨rfl,rfl⟩|fail)
  rw [shift_step]
  refine Nx.pick [0,1,5,6] [2] rfl rfl rfl ⟨8-(k+1),by omega,k+1,rfl,by omega,rfl,rfl⟩
 ·obtain rfl:k=8:=by omega
  exact L_ret (RetQ.pick [0] rfl rfl rfl rfl ⟨rfl,rfl⟩)
theorem rIn_tr (ys:Bytes) (hb:ys.length≤65536) (a k:Int):Tr Tryz.prog 153 [slB 0 ys.length,.int .i64 a,.int .i64 k] [BL ys] (fun v K=>v=.bool (inB ys.length a k)∧K=[BL ys]):=by
 refine Tr.of row_tumbrelref03_In_ok rfl ?_
 repeat' (first|refine qN ?_|refine dN ?_|refine dR ?_|refine d0 ?_|refine rT ?_|refine aS ?_|refine aI (hn:=?_)|refine sP 9 (fun h=>?_) (fun h=>?_)|refine sP 13 (fun h=>?_) (fun h=>?_)|refine sP 19 (fun h=>?_) (fun h=>?_)|refine qR ?_|refine qS ?_|exact ⟨rfl,rfl⟩|fail)
 all_goals (refine ⟨?_,rfl⟩; first | rfl|exact congrArg (Value.int _) (by simp only [inB]; (repeat' split) <;> omega)|exact congrArg Value.bool (by simp only [inB]; (repeat' split) <;> (rw [Bool.eq_iff_iff]; simp; try omega))|exact VT2 (by simp only [inB]; (repeat' split) <;> omega) (by simp only [inB]; (repeat' split) <;> first | rfl | omega | (rw [Bool.eq_iff_iff]; simp; try omega)))
theorem rWord_ok (ys:Bytes) (hb:ys.length≤65536) (i:Nat) (h:i+8≤ys.length) (h8:i % 8=0):Tr Tryz.prog 151 [slB 0 ys.length,.int .i64 i] [BL ys] (fun v K=>v=.tuple ⟨[.int .u64 ((wordB ys i).toNat:Int),.int .i64 0]⟩∧K=[BL ys]):=by
 have hI:=rIn_tr ys hb i 8
 rw [show inB ys.length i 8=true from decide_eq_true ⟨by omega,by omega,by omega,by omega⟩] at hI
 have hG:=rGet_tr ys i (ys.length-i) h hb
 refine Tr.of row_tumbrelref03_Word_ok rfl ?_
 repeat' (first|refine qN ?_|refine dN ?_|refine dR ?_|refine d0 ?_|refine rT ?_|refine qT ?_|refine qU ?_|refine qL ?_|refine qK ?_|refine iF (fun h=>?_) (fun h=>?_)|refine cP [0] (hI) ?_|refine S_Q [] rfl rfl (QY.add (c:=((i+8:Nat):Int)) rfl rfl (by omega) (by omega) (by omega)) ?_|refine S_Q [] rfl rfl (QY.slc0 (b:=0) (lo':=i) (hi':=i+8) rfl rfl rfl (by omega) (by omega)) ?_|refine aA ?_|refine aI (hn:=?_)|refine aR ?_|refine qR ?_|refine qS ?_|exact ⟨rfl,rfl⟩|fail)
 ·exfalso; omega
 ·rw [show i+8-i=8 by omega]
  repeat' (first|refine qN ?_|refine dN ?_|refine dR ?_|refine d0 ?_|refine rT ?_|refine qT ?_|refine qU ?_|refine qL ?_|refine qK ?_|refine iF (fun h=>?_) (fun h=>?_)|refine cP [0] (hG) ?_|refine aA ?_|refine aI (hn:=?_)|refine aR ?_|refine qR ?_|refine qS ?_|exact ⟨rfl,rfl⟩|fail)
theorem rWith_tr (ys zs:Bytes) (hb:ys.length≤65536) (i:Nat) (h:i+zs.length≤ys.length):Tr Tryz.prog 170 [slB 0 ys.length,.int .i64 i,slB 1 zs.length] [BL ys,BL zs] (fun v K=>v=slB 2 ys.length∧K=[BL ys,BL zs,BL (overB ys i zs)]):=by
 refine Tr.of row_tumbrelref03_With_ok rfl ?_
 repeat' (first|refine qN ?_|refine dN ?_|refine d0 ?_|refine aI (hn:=?_)|refine qR ?_|refine qS ?_|exact ⟨rfl,rfl⟩|fail)
 refine S_wk [] rfl (wk_gro0 (b:=2) 1 rfl) ?_
 first|refine L_rs ?_|refine L_reg ?_ | skip
 refine eE rfl rfl (EW.appRR (bytes:=1) (xs:=[]) (ys:=ys) byteC_ok rfl (by kernel_rfl) rfl rfl rfl rfl rfl rfl (by decide) (by omega)) ?_
 conv=>whnf
 rw [Nat.zero_add]
 repeat' (first|refine qN ?_|refine dN ?_|refine d0 ?_|refine aI (hn:=?_)|refine qR ?_|refine qS ?_|exact ⟨rfl,rfl⟩|fail)
 refine S_Q [] rfl rfl (QY.slc0 (b:=3) (lo':=i) (hi':=ys.length) rfl rfl rfl (by omega) (by omega)) ?_
 first|refine L_rs ?_|refine L_reg ?_ | skip
 refine eE rfl rfl (EW.copyg (i:=i) (j:=0) (xs:=ys) (ys:=zs) byteC_ok rfl (by kernel_rfl) rfl rfl rfl rfl (by omega) (by omega) (by decide)) ?_
 conv=>whnf
 rw [overB_copy ys i zs rfl (by omega)]
 repeat' (first|refine qN ?_|refine dN ?_|refine d0 ?_|refine aI (hn:=?_)|refine qR ?_|refine qS ?_|exact ⟨rfl,rfl⟩|fail)
 exact L_ret (RetQ.pick [0,1,3] rfl rfl rfl rfl ⟨rfl,rfl⟩)
end Go.Proofs.YthmdialagibpfaaGreatDoor
end
section
namespace Go.Tum.Base
open Go Go.Tum Go.Proofs.YthmdialagibpfaaGreatDoor
def goodK (rs:PRows) (lo hi n A:Nat):Prop:=lo≤A∧A+n≤hi∧∀ i,A≤i→i<A+n→freeP (rs.getD i PRow.Z)=true
theorem placeP_spec {rs:PRows} {lo hi n:Nat} (hn:1≤n):∀ {f k c:Nat},k+f=hi→c≤k→lo≤k-c→c<n→(∀ i,k-c≤i→i<k→freeP (rs.getD i PRow.Z)=true)→(∀ B,goodK rs lo hi n B→k-c≤B) →
  (∃ A:Nat,placeP rs n f k c=some (A:Int)∧goodK rs lo hi n A∧∀ B,goodK rs lo hi n B→A≤B)∨(placeP rs n f k c=none∧∀ B,¬ goodK rs lo hi n B)
 | 0,k,c,hk,h1,h2,h3,h4,h5=>.inr ⟨rfl,fun B hB=>by have:=h5 B hB; have:=hB.2.1; omega⟩
 | f+1,k,c,hk,h1,h2,h3,h4,h5=>by
  simp only [placeP]
  by_cases hf:freeP (rs.getD k PRow.Z)=true
  ·rw [if_pos hf]
   by_cases hc:(c:Int)+1=n
   ·rw [if_pos hc]
    left
    refine ⟨k-c,by congr 1; omega,⟨h2,by omega,fun i hi1 hi2=>?_⟩,h5⟩
    by_cases e:i=k
    ·subst e; exact hf
    ·exact h4 i hi1 (by omega)
   ·rw [if_neg hc]
    have:=placeP_spec hn (rs:=rs) (lo:=lo) (hi:=hi) (f:=f) (k:=k+1) (c:=c+1) (by omega) (by omega) (by omega) (by omega) (fun i hi1 hi2=>by
     by_cases e:i=k
     ·subst e; exact hf
     ·exact h4 i (by omega) (by omega)) (fun B hB=>by have:=h5 B hB; omega)
    exact this
  ·rw [if_neg hf,if_neg (by omega)]
   have:=placeP_spec hn (rs:=rs) (lo:=lo) (hi:=hi) (f:=f) (k:=k+1) (c:=0) (by omega) (by omega) (by omega) (by omega) (fun i hi1 hi2=>by omega) (fun B hB=>by
    have h6:=h5 B hB
    rcases Nat.lt_or_ge k B with h7 | h7
    ·omega
    ·exact absurd (hB.2.2 k h7 (by omega)) hf)
   exact this
theorem placeP_first {rs:PRows} {lo hi n:Nat} (hn:1≤n) (hl:lo≤hi):(∃ A:Nat,placeP rs n (hi-lo) lo 0=some (A:Int)∧goodK rs lo hi n A∧∀ B,goodK rs lo hi n B→A≤B)∨(placeP rs n (hi-lo) lo 0=none∧∀ B,¬ goodK rs lo hi n B) :=
 placeP_spec hn (f:=hi-lo) (k:=lo) (c:=0) (by omega) (Nat.zero_le _) (Nat.le_refl _) hn (fun i h1 h2=>by simp at h1; omega) (fun B hB=>hB.1)
def placeI:Option Int→Int
 | some a=>a
 | none => -1
theorem eqFree (r:PRow):([r.kind == 0,r.cls == 0,r.owner == 0,r.run == 0]).all id=freeP r:=by
 obtain ⟨a,b,c,d⟩:=r
 simp only [freeP,PRow.Z,List.all_cons,List.all_nil,id,Bool.and_true]
 rw [Bool.eq_iff_iff]
 simp [PRow.mk.injEq]
def layT (rs:PRows) (a j:Nat):PRows:=rs.take a++List.replicate j tailP++rs.drop (a+j)
theorem layT_length {rs:PRows} {a j:Nat} (h:a+j≤rs.length):(layT rs a j).length=rs.length:=by simp [layT]; omega
theorem layT_snoc {rs:PRows} {a j:Nat} (h:a+j<rs.length):(layT rs a j).set (a+j) tailP=layT rs a (j+1):=by
 have e2:(rs.take a++List.replicate j tailP).length=a+j:=by simp; omega
 have e3:rs.drop (a+j)=rs[a+j]::rs.drop (a+j+1):=List.drop_eq_getElem_cons h
 rw [layT,List.set_append_right _ _ (by omega),e2,Nat.sub_self,e3,List.set_cons_zero,layT,List.append_assoc,List.append_assoc,List.replicate_succ',List.append_assoc]
 rfl
theorem layT_end {rs:PRows} {a m:Nat} {r:PRow} (hm:1≤m) (h:a+m≤rs.length):(layT rs a m).set a r=layP rs a r m:=by
 obtain ⟨m,rfl⟩:∃ k,m=k+1:=⟨m-1,by omega⟩
 have e2:(rs.take a).length=a:=by simp; omega
 rw [layT,layP,List.append_assoc,List.set_append_right _ _ (by omega),e2,Nat.sub_self,List.replicate_succ,List.append_assoc]
 rfl
theorem clearP_snoc {rs:PRows} {a j:Nat} (h:a+j<rs.length):(clearP rs a j).set (a+j) PRow.Z=clearP rs a (j+1):=by
 have e2:(rs.take a++List.replicate j PRow.Z).length=a+j:=by simp; omega
 have e3:rs.drop (a+j)=rs[a+j]::rs.drop (a+j+1):=List.drop_eq_getElem_cons h
 rw [clearP,List.set_append_right _ _ (by omega),e2,Nat.sub_self,e3,List.set_cons_zero,clearP,List.append_assoc,List.append_assoc,List.replicate_succ',List.append_assoc]
 rfl
theorem clearP_zero (rs:PRows) (a:Nat):clearP rs a 0=rs:=by simp [clearP]
theorem layT_zero (rs:PRows) (a:Nat):layT rs a 0=rs:=by simp [layT]
end Go.Tum.Base
namespace Go.Proofs.YthmdialagibpfaaGreatDoor
open Go Go.Tum Go.Tum.Base
set_option maxRecDepth 4000
abbrev TB (rs:PRows):LB:=.gro 4 (rowsC PRow.cells rs)
theorem rNew4_tr (n:Nat) (hn:n≤256):Tr Tryz.prog 98 [.int .i64 n] [] (fun v K=>v=slB 0 n∧K=[TB (List.replicate n PRow.Z)]):=by
 refine Tr.of row_tumbrelref04_New_ok rfl ?_
 repeat' (first|refine qN ?_|refine dN ?_|refine d0 ?_|refine qT ?_|refine qU ?_|refine qL ?_|refine qK ?_|refine iF (fun h=>?_) (fun h=>?_)|refine aI (hn:=?_)|refine qR ?_|refine qS ?_|exact ⟨rfl,rfl⟩|fail)
 all_goals try (exfalso; omega)
 first|refine L_rs ?_|refine L_reg ?_ | skip
 refine eE rfl rfl (EW.mk (sz:=4) (bytes:=32) (k:=n) (zs:=PRow.Z.cells) rfl (by kernel_rfl) rfl rfl (by omega) (by omega)) ?_
 conv=>whnf
 repeat' (first|refine qN ?_|refine dN ?_|refine d0 ?_|refine qT ?_|refine qU ?_|refine qL ?_|refine qK ?_|refine iF (fun h=>?_) (fun h=>?_)|refine aI (hn:=?_)|refine qR ?_|refine qS ?_|exact ⟨rfl,rfl⟩|fail)
 refine L_ret (RetQ.pick [0] rfl rfl rfl rfl ⟨rfl,?_⟩)
 rw [repC_rows PRow.Z]; rfl
theorem rIn4_tr (k lo hi:Int):Tr Tryz.prog 178 [.int .i64 k,.int .i64 lo,.int .i64 hi] [] (fun v K=>v=.bool (decide (lo≤k∧k<hi))∧K=[]):=by
 refine Tr.of row_tumbrelref04_In_ok rfl ?_
 repeat' (first|refine qN ?_|refine dN ?_|refine dR ?_|refine d0 ?_|refine rT ?_|refine aI (hn:=?_)|refine sP 10 (fun h=>?_) (fun h=>?_)|refine qR ?_|refine qS ?_|exact ⟨rfl,rfl⟩|fail)
 all_goals (refine ⟨?_,rfl⟩; first | rfl|exact congrArg (Value.int _) (by (repeat' split) <;> omega)|exact congrArg Value.bool (by (repeat' split) <;> (rw [Bool.eq_iff_iff]; simp; try omega))|exact VT2 (by (repeat' split) <;> omega) (by (repeat' split) <;> first | rfl | omega | (rw [Bool.eq_iff_iff]; simp; try omega)))
set_option maxHeartbeats 2000000 in
theorem rPlace_tr (rs:PRows) (hl:rs.length≤256) (lo hi n:Nat) (hn:1≤n∧n≤256) (h1:lo≤hi) (h2:hi≤rs.length):Tr Tryz.prog 133 [slB 0 rs.length,.int .i64 lo,.int .i64 hi,.int .i64 n] [TB rs] (fun v K=>v=.int .i64 (placeI (placeP rs n (hi-lo) lo 0))∧K=[TB rs]):=by
 obtain ⟨A,hA⟩:∃ A:Option Int,A=placeP rs n (hi-lo) lo 0:=⟨_,rfl⟩
 have hsp:=placeP_first (rs:=rs) hn.1 h1
 rw [← hA] at hsp ⊢
 refine Tr.of row_tumbrelref04_Place_ok rfl ?_
 repeat' (first|refine qN ?_|refine dN ?_|refine d0 ?_|refine qB ?_|refine qT ?_|refine qU ?_|refine qL ?_|refine qK ?_|refine qF ?_|refine qE ?_|refine iF (fun h=>?_) (fun h=>?_)|refine aX ?_|refine aA ?_|refine aS ?_|refine aI (hn:=?_)|refine sP 25 (fun h=>?_) (fun h=>?_)|refine sP 38 (fun h=>?_) (fun h=>?_)|refine qR ?_|refine qS ?_|exact ⟨rfl,rfl⟩|fail)
 refine LWp.pick [0,1,2,3,13,14] [0] rfl rfl rfl (L_loop (fun q l L=>∃ k:Nat,q=rs.length-k∧k≤rs.length∧(∀ B,goodK rs lo hi n B→k≤B)∧l=[(0,slB 0 rs.length),(1,.int .i64 lo),(2,.int .i64 hi),(3,.int .i64 n),(13,.int .i64 rs.length),(14,.int .i64 k)]∧L=[TB rs]) rs.length ⟨0,rfl,by omega,fun B _=>Nat.zero_le B,rfl,rfl⟩ ?_)
 rintro q _ _ ⟨k,rfl,hk,hmin,rfl,rfl⟩
 first|refine L_seq (L_rs (S_done [] rfl (Nx.goL (iF (fun h=>L_skip (Nx.goL ?_)) (fun h=>L_exit ?_)))))|refine L_rs (S_done [] rfl (Nx.goL (L_seq (iF (fun h=>L_skip (Nx.goL ?_)) (fun h=>L_exit ?_)))))
 ·have hk2:k<rs.length:=by omega
  refine L_seq (L_block ?_)
  repeat' (first|refine qN ?_|refine dN ?_|refine d0 ?_|refine qB ?_|refine qT ?_|refine qU ?_|refine qL ?_|refine qK ?_|refine qF ?_|refine qE ?_|refine iF (fun h=>?_) (fun h=>?_)|refine aX ?_|refine aA ?_|refine aS ?_|refine aI (hn:=?_)|refine sP 25 (fun h=>?_) (fun h=>?_)|refine sP 38 (fun h=>?_) (fun h=>?_)|refine qR ?_|refine qS ?_|exact ⟨rfl,rfl⟩|fail)
  refine LWp.pick [0,1,2,3,9,10,11,13,14] [0] rfl rfl rfl (L_loop (fun q l L=>∃ (i:Nat) (ok:Bool),q=k+n-i∧k≤i∧i≤k+n∧(ok=true→k+n≤rs.length∧∀ j,k≤j→j<i→lo≤j∧j<hi∧freeP (rs.getD j PRow.Z)=true)∧(ok=false→¬ goodK rs lo hi n k)∧l=[(0,slB 0 rs.length),(1,.int .i64 lo),(2,.int .i64 hi),(3,.int .i64 n),(9,.int .i64 k),(10,.bool ok),(11,.int .i64 i),(13,.int .i64 rs.length),(14,.int .i64 k)]∧L=[TB rs]) n ⟨k,decide ((n:Int)≤rs.length-k),by omega,by omega,by omega,fun e=>⟨by have:=of_decide_eq_true e; omega,fun j h1 h2=>by omega⟩,fun e hg=>by have:=of_decide_eq_false e; have:=hg.2.1; omega,rfl,rfl⟩ ?_)
  rintro q _ _ ⟨i,ok,rfl,hi1,hi2,hok1,hok2,rfl,rfl⟩
  cases ok
  ·have hng:=hok2 rfl
   repeat' (first|refine qN ?_|refine dN ?_|refine d0 ?_|refine qB ?_|refine qT ?_|refine qU ?_|refine qL ?_|refine qK ?_|refine qF ?_|refine qE ?_|refine iF (fun h=>?_) (fun h=>?_)|refine aX ?_|refine aA ?_|refine aS ?_|refine aI (hn:=?_)|refine sP 25 (fun h=>?_) (fun h=>?_)|refine sP 38 (fun h=>?_) (fun h=>?_)|refine qR ?_|refine qS ?_|exact ⟨rfl,rfl⟩|fail)
   refine Nx.pick [0,1,2,3,13,14] [0] rfl rfl rfl ⟨rs.length-(k+1),by omega,k+1,rfl,by omega,fun B hB=>?_,rfl,rfl⟩
   have h3:=hmin B hB
   by_cases e:B=k
   ·subst e; exact absurd hB hng
   ·omega
  ·obtain ⟨hkn,hall⟩:=hok1 rfl
   have hI:=rIn4_tr i lo hi
   by_cases hik:i<k+n
   ·have hgi:rs[i]?=some rs[i]:=List.getElem?_eq_getElem (by omega)
    have hgd:rs.getD i PRow.Z=rs[i]:=by rw [List.getD_eq_getElem?_getD,hgi]; rfl
    by_cases hin:lo≤i∧i<hi
    ·rw [decide_eq_true ⟨by omega,by omega⟩] at hI
     repeat' (first|refine qN ?_|refine dN ?_|refine d0 ?_|refine qB ?_|refine qT ?_|refine qU ?_|refine qL ?_|refine qK ?_|refine qF ?_|refine qE ?_|refine iF (fun h=>?_) (fun h=>?_)|refine aX ?_|refine cP [] (hI) ?_|refine S_Q [] rfl rfl (QY.ldRow PRow.ok rfl rfl hgi (by decide)) ?_|refine S_Q [] rfl rfl (QY.eqlS (bs:=[rs[i].kind == 0,rs[i].cls == 0,rs[i].owner == 0,rs[i].run == 0]) rfl rfl rfl (by kernel_rfl)) ?_|refine aA ?_|refine aS ?_|refine aI (hn:=?_)|refine sP 25 (fun h=>?_) (fun h=>?_)|refine sP 38 (fun h=>?_) (fun h=>?_)|refine qR ?_|refine qS ?_|exact ⟨rfl,rfl⟩|fail)
     ·rw [eqFree]
      refine Nx.pick [0,1,2,3,9,10,11,13,14] [0] rfl rfl rfl ⟨k+n-(i+1),by omega,i+1,freeP rs[i],rfl,by omega,by omega,fun e=>⟨hkn,fun j h3 h4=>?_⟩,fun e hg=>?_,rfl,rfl⟩
      ·by_cases e2:j=i
       ·subst e2; exact ⟨hin.1,hin.2,by rw [hgd]; exact e⟩
       ·exact hall j h3 (by omega)
      ·have:=hg.2.2 i hi1 hik
       rw [hgd,e] at this; cases this
     ·exfalso; omega
    ·rw [decide_eq_false (by omega)] at hI
     repeat' (first|refine qN ?_|refine dN ?_|refine d0 ?_|refine qB ?_|refine qT ?_|refine qU ?_|refine qL ?_|refine qK ?_|refine qF ?_|refine qE ?_|refine iF (fun h=>?_) (fun h=>?_)|refine aX ?_|refine cP [] (hI) ?_|refine aA ?_|refine aS ?_|refine aI (hn:=?_)|refine sP 25 (fun h=>?_) (fun h=>?_)|refine sP 38 (fun h=>?_) (fun h=>?_)|refine qR ?_|refine qS ?_|exact ⟨rfl,rfl⟩|fail)
     ·refine Nx.pick [0,1,2,3,9,10,11,13,14] [0] rfl rfl rfl ⟨k+n-(i+1),by omega,i+1,false,rfl,by omega,by omega,(fun e=>by cases e),fun _ hg=>?_,rfl,rfl⟩
      have:=hg.1
      have:=hg.2.1
      omega
     ·exfalso; omega
   ·obtain rfl:i=k+n:=by omega
    have hg:goodK rs lo hi n k:=⟨(hall k (by omega) (by omega)).1,by have:=(hall (k+n-1) (by omega) (by omega)).2.1; omega,fun j h3 h4=>(hall j h3 h4).2.2⟩
    have hAk:A=some (k:Int):=by
     rcases hsp with ⟨a,h3,h4,h5⟩ | ⟨_,h4⟩
     ·have h6:=h5 k hg
      have h7:=hmin a h4
      rw [h3]; congr 2; omega
     ·exact absurd hg (h4 k)
    rw [hAk]
    repeat' (first|refine qN ?_|refine dN ?_|refine dR ?_|refine d0 ?_|refine qB ?_|refine rT ?_|refine qT ?_|refine qU ?_|refine qL ?_|refine qK ?_|refine qF ?_|refine qE ?_|refine iF (fun h=>?_) (fun h=>?_)|refine aX ?_|refine aA ?_|refine aS ?_|refine aI (hn:=?_)|refine sP 25 (fun h=>?_) (fun h=>?_)|refine sP 38 (fun h=>?_) (fun h=>?_)|refine qR ?_|refine qS ?_|exact ⟨rfl,rfl⟩|fail)
    exfalso; omega
 ·refine Nx.goL ?_
  have:∀ B,¬ goodK rs lo hi n B:=fun B hB=>by
   have h3:=hmin B hB
   have h4:=hB.2.1
   omega
  rcases hsp with ⟨a,h3,h4,_⟩ | ⟨h3,_⟩
  ·exact absurd h4 (this a)
  ·rw [h3]
   repeat' (first|refine qN ?_|refine dN ?_|refine dR ?_|refine d0 ?_|refine qB ?_|refine rT ?_|refine qT ?_|refine qU ?_|refine qL ?_|refine qK ?_|refine qF ?_|refine qE ?_|refine iF (fun h=>?_) (fun h=>?_)|refine aX ?_|refine aA ?_|refine aS ?_|refine aI (hn:=?_)|refine sP 25 (fun h=>?_) (fun h=>?_)|refine sP 38 (fun h=>?_) (fun h=>?_)|refine qR ?_|refine qS ?_|exact ⟨rfl,rfl⟩|fail)
set_option maxHeartbeats 1000000 in
theorem rLay_tr (rs:PRows) (hl:rs.length≤256) (a m:Nat) (r:PRow) (hr:r.run=m) (hm:1≤m) (h:a+m≤rs.length):Tr Tryz.prog 117 [slB 0 rs.length,.int .i64 a,.agg ⟨r.cells⟩] [TB rs] (fun v K=>v=slB 1 rs.length∧K=[TB rs,TB (layP rs a r m)]):=by
 have hcells:r.cells=[.int .i64 r.kind,.int .i64 r.cls,.int .i64 r.owner,.int .i64 m]:=by rw [← hr]; rfl
 rw [hcells]
 refine Tr.of row_tumbrelref04_Lay_ok rfl ?_
 repeat' (first|refine qN ?_|refine dN ?_|refine d0 ?_|refine qB ?_|refine qT ?_|refine qU ?_|refine qL ?_|refine qK ?_|refine qF ?_|refine qE ?_|refine iF (fun h=>?_) (fun h=>?_)|refine aX ?_|refine aA ?_|refine aI (hn:=?_)|refine qR ?_|refine qS ?_|exact ⟨rfl,rfl⟩|fail)
 refine S_wk [] rfl (wk_gro0 (b:=2) 4 rfl) ?_
 first|refine L_rs ?_|refine L_reg ?_ | skip
 refine eE rfl rfl (EW.appRR (bytes:=32) (xs:=[]) (ys:=rs) PRow.ok rfl (by kernel_rfl) rfl rfl rfl rfl rfl rfl (by decide) (by omega)) ?_
 conv=>whnf
 rw [Nat.zero_add]
 repeat' (first|refine qN ?_|refine dN ?_|refine d0 ?_|refine qB ?_|refine qT ?_|refine qU ?_|refine qL ?_|refine qK ?_|refine qF ?_|refine qE ?_|refine iF (fun h=>?_) (fun h=>?_)|refine aX ?_|refine aA ?_|refine aI (hn:=?_)|refine qR ?_|refine qS ?_|exact ⟨rfl,rfl⟩|fail)
 refine LWp.pick [1,5,7,8] [0,1,3] rfl rfl rfl (L_loop (fun q l L=>∃ j:Nat,q=m-j∧j≤m∧l=[(1,.int .i64 a),(5,ptr 1),(7,slB 2 rs.length),(8,.int .i64 (a+j:Nat))]∧L=[TB rs,.cells 0 [.int .i64 r.kind,.int .i64 r.cls,.int .i64 r.owner,.int .i64 m],TB (layT rs a j)]) m ⟨0,rfl,by omega,rfl,by rw [layT_zero]; rfl⟩ ?_)
 rintro q _ _ ⟨j,rfl,hj,rfl,rfl⟩
 repeat' (first|refine qN ?_|refine dN ?_|refine d0 ?_|refine qB ?_|refine qT ?_|refine qU ?_|refine qL ?_|refine qK ?_|refine qF ?_|refine qE ?_|refine iF (fun h=>?_) (fun h=>?_)|refine aX ?_|refine S_Q [] rfl rfl (QY.add (c:=((a+m:Nat):Int)) rfl rfl (by omega) (by omega) (by omega)) ?_|refine aA ?_|refine aI (hn:=?_)|refine qR ?_|refine qS ?_|exact ⟨rfl,rfl⟩|fail)
 ·first|refine L_rs ?_|refine L_reg ?_ | skip
  refine eE rfl rfl (EW.stRow (k:=a+j) (a:=tailP) PRow.ok rfl rfl rfl (by rw [layT_length (by omega)]; omega) (by decide)) ?_
  conv=>whnf
  rw [layT_snoc (by omega)]
  repeat' (first|refine qN ?_|refine dN ?_|refine d0 ?_|refine qB ?_|refine qT ?_|refine qU ?_|refine qL ?_|refine qK ?_|refine qF ?_|refine qE ?_|refine iF (fun h=>?_) (fun h=>?_)|refine aX ?_|refine aA ?_|refine aI (hn:=?_)|refine qR ?_|refine qS ?_|exact ⟨rfl,rfl⟩|fail)
  exact Nx.pick [1,5,7,8] [0,1,2] rfl rfl rfl ⟨m-(j+1),by omega,j+1,rfl,by omega,rfl,rfl⟩
 ·obtain rfl:j=m:=by omega
  repeat' (first|refine qN ?_|refine dN ?_|refine d0 ?_|refine qB ?_|refine qT ?_|refine qU ?_|refine qL ?_|refine qK ?_|refine qF ?_|refine qE ?_|refine iF (fun h=>?_) (fun h=>?_)|refine aX ?_|refine aA ?_|refine aI (hn:=?_)|refine qR ?_|refine qS ?_|exact ⟨rfl,rfl⟩|fail)
  first|refine L_rs ?_|refine L_reg ?_ | skip
  refine eE rfl rfl (EW.stRow (k:=a) (a:=r) PRow.ok rfl (by rw [hcells]; rfl) rfl (by rw [layT_length (by omega)]; omega) (by decide)) ?_
  conv=>whnf
  rw [layT_end hm (by omega)]
  repeat' (first|refine qN ?_|refine dN ?_|refine d0 ?_|refine qB ?_|refine qT ?_|refine qU ?_|refine qL ?_|refine qK ?_|refine qF ?_|refine qE ?_|refine iF (fun h=>?_) (fun h=>?_)|refine aX ?_|refine aA ?_|refine aI (hn:=?_)|refine qR ?_|refine qS ?_|exact ⟨rfl,rfl⟩|fail)
  exact L_ret (RetQ.pick [0,2] rfl rfl rfl rfl ⟨rfl,rfl⟩)
set_option maxHeartbeats 1000000 in
theorem rClear_tr (rs:PRows) (hl:rs.length≤256) (a m:Nat) (hr:(pAt rs a).run=m) (ha:a<rs.length) (h:a+m≤rs.length):Tr Tryz.prog 127 [slB 0 rs.length,.int .i64 a] [TB rs] (fun v K=>v=slB 1 rs.length∧K=[TB rs,TB (clearP rs a m)]):=by
 have hga:rs[a]?=some rs[a]:=List.getElem?_eq_getElem ha
 have hrun:rs[a].run=m:=by rw [← hr,pAt_nat,List.getD_eq_getElem?_getD,hga]; rfl
 refine Tr.of row_tumbrelref04_Clear_ok rfl ?_
 repeat' (first|refine qN ?_|refine dN ?_|refine d0 ?_|refine qB ?_|refine qT ?_|refine qU ?_|refine qL ?_|refine qK ?_|refine qF ?_|refine qE ?_|refine iF (fun h=>?_) (fun h=>?_)|refine aX ?_|refine aA ?_|refine aI (hn:=?_)|refine qR ?_|refine qS ?_|exact ⟨rfl,rfl⟩|fail)
 refine S_wk [] rfl (wk_gro0 (b:=1) 4 rfl) ?_
 first|refine L_rs ?_|refine L_reg ?_ | skip
 refine eE rfl rfl (EW.appRR (bytes:=32) (xs:=[]) (ys:=rs) PRow.ok rfl (by kernel_rfl) rfl rfl rfl rfl rfl rfl (by decide) (by omega)) ?_
 conv=>whnf
 rw [Nat.zero_add]
 repeat' (first|refine qN ?_|refine dN ?_|refine d0 ?_|refine qB ?_|refine qT ?_|refine qU ?_|refine qL ?_|refine qK ?_|refine qF ?_|refine qE ?_|refine iF (fun h=>?_) (fun h=>?_)|refine aX ?_|refine S_Q [] rfl rfl (QY.ldF (j:=3) (u:=.int .i64 m) PRow.ok rfl rfl hga (by rw [← hrun]; rfl) rfl) ?_|refine aA ?_|refine aI (hn:=?_)|refine qR ?_|refine qS ?_|exact ⟨rfl,rfl⟩|fail)
 refine LWp.pick [1,5,6,7] [0,2] rfl rfl rfl (L_loop (fun q l L=>∃ j:Nat,q=m-j∧j≤m∧l=[(1,.int .i64 a),(5,slB 1 rs.length),(6,.int .i64 m),(7,.int .i64 (a+j:Nat))]∧L=[TB rs,TB (clearP rs a j)]) m ⟨0,rfl,by omega,rfl,by rw [clearP_zero]; rfl⟩ ?_)
 rintro q _ _ ⟨j,rfl,hj,rfl,rfl⟩
 repeat' (first|refine qN ?_|refine dN ?_|refine d0 ?_|refine qB ?_|refine qT ?_|refine qU ?_|refine qL ?_|refine qK ?_|refine qF ?_|refine qE ?_|refine iF (fun h=>?_) (fun h=>?_)|refine aX ?_|refine S_Q [] rfl rfl (QY.add (c:=((a+m:Nat):Int)) rfl rfl (by omega) (by omega) (by omega)) ?_|refine aA ?_|refine aI (hn:=?_)|refine qR ?_|refine qS ?_|exact ⟨rfl,rfl⟩|fail)
 ·first|refine L_rs ?_|refine L_reg ?_ | skip
  refine eE rfl rfl (EW.stRow (k:=a+j) (a:=PRow.Z) PRow.ok rfl rfl rfl (by rw [clearP_length (by omega)]; omega) (by decide)) ?_
  conv=>whnf
  rw [clearP_snoc (by omega)]
  repeat' (first|refine qN ?_|refine dN ?_|refine d0 ?_|refine qB ?_|refine qT ?_|refine qU ?_|refine qL ?_|refine qK ?_|refine qF ?_|refine qE ?_|refine iF (fun h=>?_) (fun h=>?_)|refine aX ?_|refine aA ?_|refine aI (hn:=?_)|refine qR ?_|refine qS ?_|exact ⟨rfl,rfl⟩|fail)
  exact Nx.pick [1,5,6,7] [0,1] rfl rfl rfl ⟨m-(j+1),by omega,j+1,rfl,by omega,rfl,rfl⟩
 ·obtain rfl:j=m:=by omega
  exact L_ret (RetQ.pick [0,1] rfl rfl rfl rfl ⟨rfl,rfl⟩)
theorem rSize_tr (c:Int):Tr Tryz.prog 122 [.int .i64 c] [] (fun v K=>v=.int .i64 (sizeC c)∧K=[]):=by
 refine Tr.of row_tumbrelref05_Size_ok rfl ?_
 repeat' (first|refine qN ?_|refine dN ?_|refine dR ?_|refine d0 ?_|refine qB ?_|refine rT ?_|refine qT ?_|refine qU ?_|refine qL ?_|refine qK ?_|refine iF (fun h=>?_) (fun h=>?_)|refine aI (hn:=?_)|refine qR ?_|refine qS ?_|exact ⟨rfl,rfl⟩|fail)
 all_goals (refine ⟨?_,rfl⟩; first | rfl|exact congrArg (Value.int _) (by simp only [sizeC]; (repeat' split) <;> omega)|exact congrArg Value.bool (by simp only [sizeC]; (repeat' split) <;> (rw [Bool.eq_iff_iff]; simp; try omega))|exact VT2 (by simp only [sizeC]; (repeat' split) <;> omega) (by simp only [sizeC]; (repeat' split) <;> first | rfl | omega | (rw [Bool.eq_iff_iff]; simp; try omega)))
set_option maxHeartbeats 1000000 in
theorem rSlots_tr (c:Nat) (hc:c<4):Tr Tryz.prog 169 [.int .i64 c] [] (fun v K=>v=.int .i64 (256 / szC c:Nat)∧K=[]):=by
 have hS:=rSize_tr c
 rw [sizeC_sz hc] at hS
 have hz:=szC_cases c
 generalize szC c=z at *
 refine Tr.of row_tumbrelref05_Slots_ok rfl ?_
 repeat' (first|refine qN ?_|refine dN ?_|refine d0 ?_|refine qB ?_|refine qT ?_|refine qU ?_|refine qL ?_|refine qK ?_|refine qF ?_|refine qE ?_|refine iF (fun h=>?_) (fun h=>?_)|refine aA ?_|refine aI (hn:=?_)|refine aM ?_|refine sP 7 (fun h=>?_) (fun h=>?_)|refine qR ?_|refine qS ?_|exact ⟨rfl,rfl⟩|fail)
 refine LWp.pick [0,3] [] rfl rfl rfl (L_loop (fun q l L=>∃ k:Nat,q=256-k∧k*z≤256∧l=[(0,.int .i64 c),(3,.int .i64 k)]∧L=[]) 256 ⟨0,rfl,by omega,rfl,rfl⟩ ?_)
 rintro q _ _ ⟨k,rfl,hk,rfl,rfl⟩
 have hk2:k≤16:=by rcases hz with e | e | e | e <;> rw [e] at hk <;> omega
 repeat' (first|refine qN ?_|refine dN ?_|refine dR ?_|refine d0 ?_|refine qB ?_|refine rT ?_|refine qT ?_|refine qU ?_|refine qL ?_|refine qK ?_|refine qF ?_|refine qE ?_|refine iF (fun h=>?_) (fun h=>?_)|refine cP [] (hS) ?_|refine S_Q [] rfl rfl (QY.mul (c:=(((k+1)*z:Nat):Int)) rfl rfl (by rw [Int.natCast_mul]; rfl) (by rcases hz with e | e | e | e <;> rw [e] <;> omega) (by rcases hz with e | e | e | e <;> rw [e] <;> omega)) ?_|refine aA ?_|refine aI (hn:=?_)|refine aM ?_|refine sP 7 (fun h=>?_) (fun h=>?_)|refine qR ?_|refine qS ?_|exact ⟨rfl,rfl⟩|fail)
 ·exact Nx.pick [0,3] [] rfl rfl rfl ⟨256-(k+1),by omega,k+1,rfl,by omega,rfl,rfl⟩
 ·refine ⟨congrArg (fun x:Nat=>Value.int .i64 x) ?_,rfl⟩
  rcases hz with e | e | e | e <;> subst e <;> omega
 ·exfalso; omega
theorem rPages_tr (n:Int):Tr Tryz.prog 132 [.int .i64 n] [] (fun v K=>v=.int .i64 (pagesC n)∧K=[]):=by
 refine Tr.of row_tumbrelref05_Pages_ok rfl ?_
 by_cases h:n<121∨n > 4096
 ·rw [show pagesC n=0 by unfold pagesC; rw [if_pos (by omega)]]
  repeat' (first|refine qN ?_|refine dN ?_|refine dR ?_|refine d0 ?_|refine qB ?_|refine rT ?_|refine qT ?_|refine qU ?_|refine qL ?_|refine qK ?_|refine qF ?_|refine qE ?_|refine iF (fun h=>?_) (fun h=>?_)|refine aA ?_|refine aI (hn:=?_)|refine aM ?_|refine sP 6 (fun h=>?_) (fun h=>?_)|refine qR ?_|refine qS ?_|exact ⟨rfl,rfl⟩|fail)
  all_goals (exfalso; omega)
 ·repeat' (first|refine qN ?_|refine dN ?_|refine d0 ?_|refine qB ?_|refine qT ?_|refine qU ?_|refine qL ?_|refine qK ?_|refine qF ?_|refine qE ?_|refine iF (fun h=>?_) (fun h=>?_)|refine aA ?_|refine aI (hn:=?_)|refine aM ?_|refine sP 6 (fun h=>?_) (fun h=>?_)|refine qR ?_|refine qS ?_|exact ⟨rfl,rfl⟩|fail)
  all_goals try (exfalso; omega)
  refine LWp.pick [0,3] [] rfl rfl rfl (L_loop (fun q l L=>∃ k:Nat,q=17-k∧1≤k∧(k:Int)≤pagesC n∧l=[(0,.int .i64 n),(3,.int .i64 k)]∧L=[]) 16 ⟨1,rfl,by omega,by unfold pagesC; rw [if_neg (by omega)]; omega,rfl,rfl⟩ ?_)
  have hp:pagesC n=(n+263) / 256:=by unfold pagesC; rw [if_neg (by omega)]
  rw [hp]
  rintro q _ _ ⟨k,rfl,hk1,hk2,rfl,rfl⟩
  repeat' (first|refine qN ?_|refine dN ?_|refine dR ?_|refine d0 ?_|refine qB ?_|refine rT ?_|refine qT ?_|refine qU ?_|refine qL ?_|refine qK ?_|refine qF ?_|refine qE ?_|refine iF (fun h=>?_) (fun h=>?_)|refine aA ?_|refine aI (hn:=?_)|refine aM ?_|refine sP 6 (fun h=>?_) (fun h=>?_)|refine qR ?_|refine qS ?_|exact ⟨rfl,rfl⟩|fail)
  ·exact Nx.pick [0,3] [] rfl rfl rfl ⟨17-(k+1),by omega,k+1,rfl,by omega,by omega,rfl,rfl⟩
  ·refine ⟨congrArg (Value.int _) ?_,rfl⟩; omega
end Go.Proofs.YthmdialagibpfaaGreatDoor
end
section
namespace Go.Tum.Base
open Go Go.Tum
theorem shW_sum:∀ r n:_root_.Fin 16,801077783718526976#64+BitVec.ofNat 64 n.val*65536#64+BitVec.ofNat 64 r.val=shW r.val n.val:=by decide +kernel
theorem shW_lo:∀ r n:_root_.Fin 16,(shW r.val n.val).toNat % 65536=r.val∧(shW r.val n.val >>> 16).toNat % 65536=n.val:=by decide +kernel
def standS (bs:Bytes) (i r n:Nat):Prop:=r+n≤15∧shW r n=wordB bs i∧8*(1+r+n)≤bs.length-i
theorem headF_stand {bs:Bytes} {i r n:Nat}:headF bs i=some (r,n)↔standS bs i r n:=by
 constructor
 ·intro h
  obtain ⟨_,h2,h3,h4⟩:=headF_some h
  exact ⟨h4,h2,h3⟩
 ·rintro ⟨h1,h2,h3⟩
  have hl:=shW_lo ⟨r,by omega⟩ ⟨n,by omega⟩
  simp only at hl
  unfold headF
  simp only
  rw [← h2,hl.1,hl.2,if_pos ⟨decide_eq_true ⟨by omega,by omega,by omega,by omega⟩,rfl,h3⟩]
end Go.Tum.Base
namespace Go.Proofs.YthmdialagibpfaaGreatDoor
open Go Go.Tum Go.Tum.Base
set_option maxRecDepth 4000
theorem rBytes_tr (r n:Int):Tr Tryz.prog 114 [shV r n] [] (fun v K=>v=.int .i64 (shN r n)∧K=[]):=by
 refine Tr.of row_tumbrelref17_Bytes_ok rfl ?_
 unfold shN
 cases hs:shOk r n
 ·have:=shOk_f hs
  repeat' (first|refine qN ?_|refine dN ?_|refine dR ?_|refine d0 ?_|refine rT ?_|refine qT ?_|refine qU ?_|refine qL ?_|refine qK ?_|refine iF (fun h=>?_) (fun h=>?_)|refine aA ?_|refine aI (hn:=?_)|refine aM ?_|refine sP 6 (fun h=>?_) (fun h=>?_)|refine sP 11 (fun h=>?_) (fun h=>?_)|refine sP 16 (fun h=>?_) (fun h=>?_)|refine sP 21 (fun h=>?_) (fun h=>?_)|refine qR ?_|refine qS ?_|exact ⟨rfl,rfl⟩|fail)
  all_goals (exfalso; omega)
 ·have:=shOk_t hs
  repeat' (first|refine qN ?_|refine dN ?_|refine dR ?_|refine d0 ?_|refine rT ?_|refine qT ?_|refine qU ?_|refine qL ?_|refine qK ?_|refine iF (fun h=>?_) (fun h=>?_)|refine aA ?_|refine aI (hn:=?_)|refine aM ?_|refine sP 6 (fun h=>?_) (fun h=>?_)|refine sP 11 (fun h=>?_) (fun h=>?_)|refine sP 16 (fun h=>?_) (fun h=>?_)|refine sP 21 (fun h=>?_) (fun h=>?_)|refine qR ?_|refine qS ?_|exact ⟨rfl,rfl⟩|fail)
  all_goals first | (exfalso; omega)|(refine ⟨congrArg (Value.int _) ?_,rfl⟩; rw [if_pos rfl]; omega)
set_option maxHeartbeats 1000000 in
theorem rClass_tr (r n:Int):Tr Tryz.prog 116 [shV r n] [] (fun v K=>v=.int .i64 (shC r n)∧K=[]):=by
 have hB:=rBytes_tr r n
 have hm:0≤shN r n∧shN r n≤128:=by
  unfold shN; split
  ·rename_i h; have:=shOk_t h; omega
  ·omega
 have hC:shC r n=clsOf (shN r n):=by
  unfold shC shN; split
  ·rfl
  ·rfl
 rw [hC]
 generalize shN r n=b at *
 refine Tr.of row_tumbrelref17_Class_ok rfl ?_
 repeat' (first|refine qN ?_|refine dN ?_|refine d0 ?_|refine qB ?_|refine qT ?_|refine qU ?_|refine qL ?_|refine qK ?_|refine qF ?_|refine qE ?_|refine iF (fun h=>?_) (fun h=>?_)|refine aA ?_|refine aI (hn:=?_)|refine aM ?_|refine qR ?_|refine qS ?_|exact ⟨rfl,rfl⟩|fail)
 refine LWp.pick [1,3,4] [0] rfl rfl rfl (L_loop (fun q l L=>∃ c:Nat,q=3-c∧c<4∧(c:Int)≤clsOf b∧l=[(1,ptr 0),(3,.int .i64 c),(4,.int .i64 (szC c))]∧L=[.cells 0 [.int .i64 r,.int .i64 n]]) 3 ⟨0,rfl,by omega,(clsOf_in b).1,rfl,rfl⟩ ?_)
 rintro q _ _ ⟨c,rfl,hc,hc2,rfl,rfl⟩
 obtain rfl | rfl | rfl | rfl:c=0∨c=1∨c=2∨c=3:=by omega
 ·repeat' (first|refine qN ?_|refine dN ?_|refine dR ?_|refine d0 ?_|refine qB ?_|refine rT ?_|refine qT ?_|refine qU ?_|refine qL ?_|refine qK ?_|refine qF ?_|refine qE ?_|refine iF (fun h=>?_) (fun h=>?_)|refine cP [] (hB) ?_|refine aA ?_|refine aI (hn:=?_)|refine aM ?_|refine qR ?_|refine qS ?_|exact ⟨rfl,rfl⟩|fail)
  ·exact Nx.pick [1,3,4] [0] rfl rfl rfl ⟨2,by omega,1,rfl,by omega,by simp [szC] at h; unfold clsOf; (repeat' split) <;> omega,rfl,rfl⟩
  ·refine ⟨congrArg (Value.int _) ?_,rfl⟩
   simp [szC] at h; unfold clsOf; (repeat' split) <;> omega
 ·repeat' (first|refine qN ?_|refine dN ?_|refine dR ?_|refine d0 ?_|refine qB ?_|refine rT ?_|refine qT ?_|refine qU ?_|refine qL ?_|refine qK ?_|refine qF ?_|refine qE ?_|refine iF (fun h=>?_) (fun h=>?_)|refine cP [] (hB) ?_|refine aA ?_|refine aI (hn:=?_)|refine aM ?_|refine qR ?_|refine qS ?_|exact ⟨rfl,rfl⟩|fail)
  ·exact Nx.pick [1,3,4] [0] rfl rfl rfl ⟨1,by omega,2,rfl,by omega,by simp [szC] at h; unfold clsOf; (repeat' split) <;> omega,rfl,rfl⟩
  ·refine ⟨congrArg (Value.int _) ?_,rfl⟩
   simp [szC] at h; unfold clsOf at hc2 ⊢; (repeat' split at hc2) <;> (repeat' split) <;> omega
 ·repeat' (first|refine qN ?_|refine dN ?_|refine dR ?_|refine d0 ?_|refine qB ?_|refine rT ?_|refine qT ?_|refine qU ?_|refine qL ?_|refine qK ?_|refine qF ?_|refine qE ?_|refine iF (fun h=>?_) (fun h=>?_)|refine cP [] (hB) ?_|refine aA ?_|refine aI (hn:=?_)|refine aM ?_|refine qR ?_|refine qS ?_|exact ⟨rfl,rfl⟩|fail)
  ·exact Nx.pick [1,3,4] [0] rfl rfl rfl ⟨0,by omega,3,rfl,by omega,by simp [szC] at h; unfold clsOf; (repeat' split) <;> omega,rfl,rfl⟩
  ·refine ⟨congrArg (Value.int _) ?_,rfl⟩
   simp [szC] at h; unfold clsOf at hc2 ⊢; (repeat' split at hc2) <;> (repeat' split) <;> omega
 ·repeat' (first|refine qN ?_|refine dN ?_|refine dR ?_|refine d0 ?_|refine qB ?_|refine rT ?_|refine qT ?_|refine qU ?_|refine qL ?_|refine qK ?_|refine qF ?_|refine qE ?_|refine iF (fun h=>?_) (fun h=>?_)|refine cP [] (hB) ?_|refine aA ?_|refine aI (hn:=?_)|refine aM ?_|refine qR ?_|refine qS ?_|exact ⟨rfl,rfl⟩|fail)
  ·exfalso; simp [szC] at h; omega
  ·refine ⟨congrArg (Value.int _) ?_,rfl⟩
   unfold clsOf at hc2 ⊢; (repeat' split at hc2) <;> (repeat' split) <;> omega
theorem rWord17_tr (r n:Nat) (hr:r<16) (hn:n<16):Tr Tryz.prog 152 [shV r n] [] (fun v K=>v=.int .u64 ((shW r n).toNat:Int)∧K=[]):=by
 have h:=shW_sum ⟨r,hr⟩ ⟨n,hn⟩
 simp only at h
 rw [← h]
 refine Tr.of row_tumbrelref17_Word_ok rfl ?_
 repeat' (first|refine qN ?_|refine dN ?_|refine dR ?_|refine d0 ?_|refine rT ?_|refine S_Q [] rfl rfl (QY.cvIW rfl) ?_|refine S_Q [] rfl rfl (QY.mulW (b:=65536#64) rfl rfl) ?_|refine S_Q [] rfl rfl (QY.addW (a:=801077783718526976#64) rfl rfl) ?_|refine S_Q [] rfl rfl (QY.addW rfl rfl) ?_|refine aA ?_|refine aI (hn:=?_)|refine aM ?_|refine qR ?_|refine qS ?_|exact ⟨rfl,rfl⟩|fail)
set_option maxHeartbeats 1000000 in
theorem rMake_tr (bs:Bytes) (hb:bs.length≤65536) (i:Nat) (r n:Nat) (hs:shOk r n=true) (h8:i % 8=0) (hle:i+8*(1+r+n)≤bs.length):Tr Tryz.prog 118 [slB 0 bs.length,.int .i64 i,shV r n] [BL bs] (fun v K=>v=.tuple ⟨[slB 1 bs.length,.int .i64 0]⟩∧K=[BL bs,BL (madeO bs i r n)]):=by
 have hr:=shOk_t hs
 have hB:=rBytes_tr r n
 rw [show shN r n=((8*(1+r+n):Nat):Int) by rw [shN,hs,if_pos rfl]; omega] at hB
 have hW:=rWord_ok bs hb i (by omega) h8
 have hI:=rIn_tr bs hb i (8*(1+r+n):Nat)
 rw [show inB bs.length i (8*(1+r+n):Nat)=true from decide_eq_true ⟨by omega,by omega,by omega,by omega⟩] at hI
 have hZ:=rWith_tr bs (List.replicate (8*(1+r+n)) 0) hb i (by rw [List.length_replicate]; omega)
 rw [List.length_replicate] at hZ
 have hl:(overB bs i (List.replicate (8*(1+r+n)) 0)).length=bs.length:=overB_length (by rw [List.length_replicate]; omega)
 have hO:=rWord17_tr r n (by omega) (by omega)
 have hP:=rPut_tr (shW r n)
 have hV:=rWith_tr (overB bs i (List.replicate (8*(1+r+n)) 0)) (putB (shW r n) 8) (by omega) i (by rw [putB_length,hl]; omega)
 rw [hl,putB_length] at hV
 have hm:madeO bs i r n=overB (overB bs i (List.replicate (8*(1+r+n)) 0)) i (putB (shW r n) 8):=by
  unfold madeO; congr 3
 rw [hm]
 refine Tr.of row_tumbrelref17_Make_ok rfl ?_
 repeat' (first|refine qN ?_|refine dN ?_|refine d0 ?_|refine qT ?_|refine qU ?_|refine qL ?_|refine qK ?_|refine iF (fun h=>?_) (fun h=>?_)|refine cP [] (hB) ?_|refine cP [0] (hW) ?_|refine cP [0] (hI) ?_|refine cP [] (hO) ?_|refine aI (hn:=?_)|refine qR ?_|refine qS ?_|exact ⟨rfl,rfl⟩|fail)
 ·exfalso; omega
 first|refine L_rs ?_|refine L_reg ?_ | skip
 refine eE rfl rfl (EW.mk (sz:=1) (bytes:=1) (k:=8*(1+r+n)) (zs:=byteC (0:BitVec 8)) rfl (by kernel_rfl) rfl rfl (by omega) (by omega)) ?_
 conv=>whnf
 rw [repC_rows (0:BitVec 8)]
 repeat' (first|refine qN ?_|refine dN ?_|refine d0 ?_|refine qT ?_|refine qU ?_|refine qL ?_|refine qK ?_|refine iF (fun h=>?_) (fun h=>?_)|(refine cF [0,2] (hZ) ?_; conv=>whnf)|refine cP [] (hO) ?_|(refine cF [] (hP) ?_; conv=>whnf)|(refine cF [3,4] (hV) ?_; conv=>whnf)|refine aI (hn:=?_)|refine qR ?_|refine qS ?_|exact ⟨rfl,rfl⟩|fail)
 exact L_ret (RetQ.pick [0,5] rfl rfl rfl rfl ⟨rfl,rfl⟩)
set_option maxHeartbeats 2000000 in
theorem rHead_tr (bs:Bytes) (hb:bs.length≤65536) (i:Nat) (h:i+8≤bs.length) (h8:i % 8=0):Tr Tryz.prog 84 [slB 0 bs.length,.int .i64 i] [BL bs] (fun v K=>v=.tuple ⟨[shV (hdR (headF bs i)) (hdN (headF bs i)),.int .i64 (hdE (headF bs i))]⟩∧K=[BL bs]):=by
 have hW:=rWord_ok bs hb i h h8
 have hst:=fun r n=>headF_stand (bs:=bs) (i:=i) (r:=r) (n:=n)
 have hhd:∀ o,headF bs i=o→(∃ r n,o=some (r,n)∧standS bs i r n)∨o=none:=fun o ho=>by
  cases o with
  | none=>exact .inr rfl
  | some x=>obtain ⟨r,n⟩:=x; exact .inl ⟨r,n,rfl,(hst r n).1 ho⟩
 obtain ⟨w,hw⟩:∃ w,w=wordB bs i:=⟨_,rfl⟩
 rw [← hw] at hW
 refine Tr.of row_tumbrelref17_Head_ok rfl ?_
 repeat' (first|refine qN ?_|refine dN ?_|refine d0 ?_|refine qB ?_|refine qT ?_|refine qU ?_|refine qL ?_|refine qK ?_|refine qF ?_|refine qE ?_|refine iF (fun h=>?_) (fun h=>?_)|refine cP [0] (hW) ?_|refine aA ?_|refine aS ?_|refine aI (hn:=?_)|refine sP 38 (fun h=>?_) (fun h=>?_)|refine qR ?_|refine qS ?_|exact ⟨rfl,rfl⟩|fail)
 refine LWp.pick [0,1,4,6,8] [0,1] rfl rfl rfl (L_loop (fun q l L=>∃ r:Nat,q=16-r∧r≤16∧(∀ r' n',standS bs i r' n'→r≤r')∧l=[(0,slB 0 bs.length),(1,.int .i64 i),(4,ptr 1),(6,.int .u64 (w.toNat:Int)),(8,.int .i64 r)]∧L=[BL bs,.cells 0 [.int .i64 0,.int .i64 0]]) 16 ⟨0,rfl,by omega,fun _ _ _=>Nat.zero_le _,rfl,rfl⟩ ?_)
 rintro q _ _ ⟨r,rfl,hr,hmin,rfl,rfl⟩
 first|refine L_seq (L_rs (S_done [] rfl (Nx.goL (iF (fun h=>L_skip (Nx.goL ?_)) (fun h=>L_exit ?_)))))|refine L_rs (S_done [] rfl (Nx.goL (L_seq (iF (fun h=>L_skip (Nx.goL ?_)) (fun h=>L_exit ?_)))))
 ·refine L_seq (L_block ?_)
  repeat' (first|refine qN ?_|refine dN ?_|refine d0 ?_|refine qB ?_|refine qT ?_|refine qU ?_|refine qL ?_|refine qK ?_|refine qF ?_|refine qE ?_|refine iF (fun h=>?_) (fun h=>?_)|refine aA ?_|refine aS ?_|refine aI (hn:=?_)|refine sP 38 (fun h=>?_) (fun h=>?_)|refine qR ?_|refine qS ?_|exact ⟨rfl,rfl⟩|fail)
  refine LWp.pick [0,1,4,6,8,9] [0,1] rfl rfl rfl (L_loop (fun q l L=>∃ n:Nat,q=16-n∧n≤16-r∧(∀ n',standS bs i r n'→n≤n')∧l=[(0,slB 0 bs.length),(1,.int .i64 i),(4,ptr 1),(6,.int .u64 (w.toNat:Int)),(8,.int .i64 r),(9,.int .i64 n)]∧L=[BL bs,.cells 0 [.int .i64 0,.int .i64 0]]) 16 ⟨0,rfl,by omega,fun _ _=>Nat.zero_le _,rfl,rfl⟩ ?_)
  rintro q _ _ ⟨n,rfl,hn,hmin2,rfl,rfl⟩
  by_cases hin:n≤15-r
  ·have hO:=rWord17_tr r n (by omega) (by omega)
   have hB:=rBytes_tr r n
   rw [show shN r n=((8*(1+r+n):Nat):Int) by rw [shN,shOk,decide_eq_true ⟨by omega,by omega,by omega,by omega⟩,if_pos rfl]; omega] at hB
   have hI:=rIn_tr bs hb i (8*(1+r+n):Nat)
   by_cases hs:standS bs i r n
   ·have hh:=(hst r n).2 hs
    obtain ⟨s1,s2,s3⟩:=hs
    rw [← hw] at s2
    rw [s2] at hO
    rw [show inB bs.length i (8*(1+r+n):Nat)=true from decide_eq_true ⟨by omega,by omega,by omega,by omega⟩] at hI
    rw [hh]
    repeat' (first|refine qN ?_|refine dN ?_|refine dR ?_|refine d0 ?_|refine qB ?_|refine rT ?_|refine qT ?_|refine qU ?_|refine qL ?_|refine qK ?_|refine qF ?_|refine qE ?_|refine iF (fun h=>?_) (fun h=>?_)|refine cP [] (hO) ?_|refine cP [] (hB) ?_|refine cP [0] (hI) ?_|refine aA ?_|refine aS ?_|refine aI (hn:=?_)|refine sP 38 (fun h=>?_) (fun h=>?_)|refine qR ?_|refine qS ?_|exact ⟨rfl,rfl⟩|fail)
    ·exact absurd rfl h
    ·exfalso; omega
   ·have hnx:∀ n',standS bs i r n'→n+1≤n':=fun n' h'=>Nat.lt_of_le_of_ne (hmin2 n' h') (fun e=>hs (e ▸ h'))
    by_cases hq:shW r n=w
    ·rw [hq] at hO
     rw [show inB bs.length i (8*(1+r+n):Nat)=false from decide_eq_false (fun e=>hs ⟨by omega,by rw [hq,hw],by omega⟩)] at hI
     repeat' (first|refine qN ?_|refine dN ?_|refine dR ?_|refine d0 ?_|refine qB ?_|refine rT ?_|refine qT ?_|refine qU ?_|refine qL ?_|refine qK ?_|refine qF ?_|refine qE ?_|refine iF (fun h=>?_) (fun h=>?_)|refine cP [] (hO) ?_|refine cP [] (hB) ?_|refine cP [0] (hI) ?_|refine aA ?_|refine aS ?_|refine aI (hn:=?_)|refine sP 38 (fun h=>?_) (fun h=>?_)|refine qR ?_|refine qS ?_|exact ⟨rfl,rfl⟩|fail)
     all_goals first | (exfalso; omega)|exact Nx.pick [0,1,4,6,8,9] [0,1] rfl rfl rfl ⟨16-(n+1),by omega,n+1,rfl,by omega,hnx,rfl,rfl⟩
    ·have hq2:¬ ((w.toNat:Int)=((shW r n).toNat:Int)):=fun e=>hq (BitVec.eq_of_toNat_eq (by omega))
     repeat' (first|refine qN ?_|refine dN ?_|refine dR ?_|refine d0 ?_|refine qB ?_|refine rT ?_|refine qT ?_|refine qU ?_|refine qL ?_|refine qK ?_|refine qF ?_|refine qE ?_|refine iF (fun h=>?_) (fun h=>?_)|refine cP [] (hO) ?_|refine aA ?_|refine aS ?_|refine aI (hn:=?_)|refine sP 38 (fun h=>?_) (fun h=>?_)|refine qR ?_|refine qS ?_|exact ⟨rfl,rfl⟩|fail)
     all_goals first | contradiction | (exfalso; omega)|exact Nx.pick [0,1,4,6,8,9] [0,1] rfl rfl rfl ⟨16-(n+1),by omega,n+1,rfl,by omega,hnx,rfl,rfl⟩
  ·repeat' (first|refine qN ?_|refine dN ?_|refine dR ?_|refine d0 ?_|refine qB ?_|refine rT ?_|refine qT ?_|refine qU ?_|refine qL ?_|refine qK ?_|refine qF ?_|refine qE ?_|refine iF (fun h=>?_) (fun h=>?_)|refine aA ?_|refine aS ?_|refine aI (hn:=?_)|refine sP 38 (fun h=>?_) (fun h=>?_)|refine qR ?_|refine qS ?_|exact ⟨rfl,rfl⟩|fail)
   ·exfalso; omega
   ·refine Nx.pick [0,1,4,6,8] [0,1] rfl rfl rfl ⟨16-(r+1),by omega,r+1,rfl,by omega,fun r' n' h'=>?_,rfl,rfl⟩
    have h1:=hmin r' n' h'
    by_cases e:r'=r
    ·subst e
     have h2:=hmin2 n' h'
     have h3:=h'.1
     omega
    ·omega
 ·refine Nx.goL ?_
  rcases hhd _ rfl with ⟨r',n',_,hs⟩ | hnone
  ·have h1:=hmin r' n' hs
   have h2:=hs.1
   exfalso; omega
  ·rw [hnone]
   repeat' (first|refine qN ?_|refine dN ?_|refine dR ?_|refine d0 ?_|refine qB ?_|refine rT ?_|refine qT ?_|refine qU ?_|refine qL ?_|refine qK ?_|refine qF ?_|refine qE ?_|refine iF (fun h=>?_) (fun h=>?_)|refine aA ?_|refine aS ?_|refine aI (hn:=?_)|refine sP 38 (fun h=>?_) (fun h=>?_)|refine qR ?_|refine qS ?_|exact ⟨rfl,rfl⟩|fail)
end Go.Proofs.YthmdialagibpfaaGreatDoor
end
section
namespace Go.Proofs.YthmdialagibpfaaGreatDoor
open Go Go.Tum Go.Tum.Base
set_option maxRecDepth 4000
def RHL (man N:Nat) (bs:Bytes) (rs:PRows) (L:List Ob) (gl:List Gb):LH :=
 [.cells 0 [ptr 1,slB 2 L.length],.cells 0 [.int .i64 man,.int .u64 ((keyW 1#64).toNat:Int),slB 3 bs.length,slB 4 rs.length,slB 5 N,ptr 6],
  .gro 2 (rowsC obC L),BL bs,TB rs,.dead,.cells 0 [slB 8 bs.length,.int .u64 ((keyW 1#64).toNat:Int),slB 7 gl.length],.gro 2 (rowsC gbC gl),.dead]
abbrev RHm (m:HM) (gl:List Gb):LH:=RHL m.man (m.man+m.mgd) m.bs m.rs (obs m) gl
abbrev R9:List Nat:=[0,1,2,3,4,5,6,7,8]
theorem obs_len {m:HM} (hm:HOk m):(obs m).length≤4096:=by
 have:=objI_len hm
 rw [objI,List.length_map] at this
 rw [obs_length]; exact this
set_option maxHeartbeats 1000000 in
theorem rIndex_tr (man N:Nat) (bs:Bytes) (rs:PRows) (L:List Ob) (gl:List Gb) (hL:L.length≤4096) (a:Int):Tr Tryz.prog 60 [ptr 0,.int .i64 a] (RHL man N bs rs L gl) (fun v K=>v=.int .i64 (idxF a L 0)∧K=RHL man N bs rs L gl):=by
 refine Tr.of row_tumbrelref18_Heap_Index_ok rfl ?_
 repeat' (first|refine qN ?_|refine dN ?_|refine d0 ?_|refine qB ?_|refine qT ?_|refine qU ?_|refine qL ?_|refine qK ?_|refine qF ?_|refine qE ?_|refine iF (fun h=>?_) (fun h=>?_)|refine aX ?_|refine aA ?_|refine aI (hn:=?_)|refine qR ?_|refine qS ?_|exact ⟨rfl,rfl⟩|fail)
 refine LWp.pick [1,10,11,12] R9 rfl rfl rfl (L_loop (fun q l K=>∃ k:Nat,q=L.length-k∧k≤L.length∧idxF a L 0=idxF a (L.drop k) k∧l=[(1,.int .i64 a),(10,slB 2 L.length),(11,.int .i64 L.length),(12,.int .i64 k)]∧K=RHL man N bs rs L gl) L.length ⟨0,rfl,by omega,rfl,rfl,rfl⟩ ?_)
 rintro q _ _ ⟨k,rfl,hk,hi,rfl,rfl⟩
 first|refine L_seq (L_rs (S_done [] rfl (Nx.goL (iF (fun h=>L_skip (Nx.goL ?_)) (fun h=>L_exit ?_)))))|refine L_rs (S_done [] rfl (Nx.goL (L_seq (iF (fun h=>L_skip (Nx.goL ?_)) (fun h=>L_exit ?_)))))
 ·have hk2:k<L.length:=by omega
  have hg:L[k]?=some L[k]:=List.getElem?_eq_getElem hk2
  rw [List.drop_eq_getElem_cons hk2,idxF] at hi
  rw [hi]
  repeat' (first|refine qN ?_|refine dN ?_|refine dR ?_|refine d0 ?_|refine qB ?_|refine rT ?_|refine qT ?_|refine qU ?_|refine qL ?_|refine qK ?_|refine qF ?_|refine qE ?_|refine iF (fun h=>?_) (fun h=>?_)|refine aX ?_|refine S_Q [] rfl rfl (QY.ldRow obC_ok rfl rfl hg (by decide)) ?_|refine aA ?_|refine aI (hn:=?_)|refine qR ?_|refine qS ?_|exact ⟨rfl,rfl⟩|fail)
  ·refine ⟨?_,rfl⟩; rw [if_pos h]; rfl
  ·rw [← hi]
   exact Nx.pick [1,10,11,12] R9 rfl rfl rfl ⟨L.length-(k+1),by omega,k+1,rfl,by omega,by rw [hi,if_neg h],rfl,rfl⟩
 ·obtain rfl:k=L.length:=by omega
  refine Nx.goL ?_
  rw [hi,List.drop_length]
  repeat' (first|refine qN ?_|refine dN ?_|refine dR ?_|refine d0 ?_|refine qB ?_|refine rT ?_|refine qT ?_|refine qU ?_|refine qL ?_|refine qK ?_|refine qF ?_|refine qE ?_|refine iF (fun h=>?_) (fun h=>?_)|refine aX ?_|refine aA ?_|refine aI (hn:=?_)|refine qR ?_|refine qS ?_|exact ⟨rfl,rfl⟩|fail)
set_option maxHeartbeats 1000000 in
theorem rManaged_tr (man N:Nat) (bs:Bytes) (rs:PRows) (L:List Ob) (gl:List Gb) (hr:rs.length≤256) (a:Int):Tr Tryz.prog 79 [ptr 0,.int .i64 a] (RHL man N bs rs L gl) (fun v K=>v=.bool (mgP rs a)∧K=RHL man N bs rs L gl):=by
 refine Tr.of row_tumbrelref18_Heap_Managed_ok rfl ?_
 by_cases h0:a<0∨(rs.length:Int)≤a
 ·rw [show mgP rs a=false by rw [mgP,pAt_out h0]; rfl]
  repeat' (first|refine qN ?_|refine dN ?_|refine dR ?_|refine d0 ?_|refine rT ?_|refine aX ?_|refine aI (hn:=?_)|refine sP 7 (fun h=>?_) (fun h=>?_)|refine sP 19 (fun h=>?_) (fun h=>?_)|refine qR ?_|refine qS ?_|exact ⟨rfl,rfl⟩|fail)
  all_goals (exfalso; omega)
 ·obtain ⟨k,rfl⟩:=Int.eq_ofNat_of_zero_le (show 0≤a by omega)
  have hg:rs[k]?=some rs[k]:=List.getElem?_eq_getElem (by omega)
  have hp:pAt rs k=rs[k]:=by rw [pAt_nat,List.getD_eq_getElem?_getD,hg]; rfl
  repeat' (first|refine qN ?_|refine dN ?_|refine dR ?_|refine d0 ?_|refine rT ?_|refine aX ?_|refine S_Q [] rfl rfl (QY.ldF (j:=0) (u:=.int .i64 rs[k].kind) PRow.ok rfl rfl hg rfl rfl) ?_|refine aI (hn:=?_)|refine sP 7 (fun h=>?_) (fun h=>?_)|refine sP 19 (fun h=>?_) (fun h=>?_)|refine qR ?_|refine qS ?_|exact ⟨rfl,rfl⟩|fail)
  all_goals first | (exfalso; omega)|(refine ⟨congrArg Value.bool ?_,rfl⟩; rw [mgP,hp,Bool.eq_iff_iff]; simp)
set_option maxHeartbeats 1000000 in
theorem rIn_tr18 (m:HM) (hm:HOk m) (gl:List Gb) (page:Int):Tr Tryz.prog 78 [ptr 0,.int .i64 page] (RHm m gl) (fun v K=>v=slB 9 (inH m page).length∧K=RHm m gl++[.gro 1 (rowsC intC (inH m page))]):=by
 have hn1:=hm.n1
 have hL:=obs_len hm
 have hpos:∀ k (h:k<(obs m).length),0≤(obs m)[k].1∧(obs m)[k].1≤65536:=fun k h=>by
  obtain ⟨i,h1,h2,h3⟩:=obs_mem.1 (List.getElem_mem h)
  rw [h3]; simp only; omega
 rw [inH_obs]
 unfold RHm
 generalize obs m=L at *
 obtain ⟨F,hF⟩:∃ F:Nat→List Int,F=fun k=>((L.take k).filter fun x=>decide (x.1 / 256=page)).map (·.1):=⟨_,rfl⟩
 have hF0:F 0=[]:=by rw [hF]; simp
 have hFs:∀ k (h:k<L.length),F (k+1)=F k++(if L[k].1 / 256=page then [L[k].1] else []):=fun k h=>by
  rw [hF]
  simp only
  rw [List.take_succ_eq_append_getElem h,List.filter_append,List.map_append]
  congr 1
  rw [List.filter_cons]
  simp only [decide_eq_true_eq]
  split <;> rfl
 have hFl:∀ k,(F k).length≤4096:=fun k=>by
  rw [hF]
  have:=List.length_filter_le (fun x:Ob=>decide (x.1 / 256=page)) (L.take k)
  rw [List.length_take] at this
  simp only [List.length_map]; omega
 have hFe:F L.length=(L.filter fun x=>decide (x.1 / 256=page)).map (·.1):=by rw [hF]; simp only; rw [List.take_length]
 rw [← hFe]
 refine Tr.of row_tumbrelref18_Heap_In_ok rfl ?_
 repeat' (first|refine qN ?_|refine dN ?_|refine d0 ?_|refine qB ?_|refine qT ?_|refine qU ?_|refine qL ?_|refine qK ?_|refine qF ?_|refine qE ?_|refine iF (fun h=>?_) (fun h=>?_)|refine aX ?_|refine aA ?_|refine aI (hn:=?_)|refine aD ?_|refine qR ?_|refine qS ?_|exact ⟨rfl,rfl⟩|fail)
 refine LWp.nilE 5 1 rfl (LWp.pick [1,5,11,12,13] [0,1,2,3,4,5,6,7,8,9] rfl rfl rfl (L_loop (fun q l K=>∃ k:Nat,q=L.length-k∧k≤L.length∧l=[(1,.int .i64 page),(5,slB 9 (F k).length),(11,slB 2 L.length),(12,.int .i64 L.length),(13,.int .i64 k)]∧K=RHL m.man (m.man+m.mgd) m.bs m.rs L gl++[.gro 1 (rowsC intC (F k))]) L.length ⟨0,rfl,by omega,by rw [hF0]; rfl,by rw [hF0]; rfl⟩ ?_))
 rintro q _ _ ⟨k,rfl,hk,rfl,rfl⟩
 first|refine L_seq (L_rs (S_done [] rfl (Nx.goL (iF (fun h=>L_skip (Nx.goL ?_)) (fun h=>L_exit ?_)))))|refine L_rs (S_done [] rfl (Nx.goL (L_seq (iF (fun h=>L_skip (Nx.goL ?_)) (fun h=>L_exit ?_)))))
 ·have hk2:k<L.length:=by omega
  have hg:L[k]?=some L[k]:=List.getElem?_eq_getElem hk2
  have hx:=hpos k hk2
  have hFk:=hFs k hk2
  have hFlk:=hFl k
  repeat' (first|refine qN ?_|refine dN ?_|refine d0 ?_|refine qB ?_|refine qT ?_|refine qU ?_|refine qL ?_|refine qK ?_|refine qF ?_|refine qE ?_|refine iF (fun h=>?_) (fun h=>?_)|refine aX ?_|refine S_Q [] rfl rfl (QY.ldRow obC_ok rfl rfl hg (by decide)) ?_|refine aA ?_|refine aI (hn:=?_)|refine aD ?_|refine qR ?_|refine qS ?_|exact ⟨rfl,rfl⟩|fail)
  ·rw [if_pos h] at hFk
   first|refine L_rs ?_|refine L_reg ?_ | skip
   refine eE rfl rfl (EW.appR1 (bytes:=8) (a:=L[k].1) intC_ok rfl (by kernel_rfl) rfl rfl rfl rfl rfl (by omega)) ?_
   conv=>whnf
   repeat' (first|refine qN ?_|refine dN ?_|refine d0 ?_|refine qB ?_|refine qT ?_|refine qU ?_|refine qL ?_|refine qK ?_|refine qF ?_|refine qE ?_|refine iF (fun h=>?_) (fun h=>?_)|refine aX ?_|refine aA ?_|refine aI (hn:=?_)|refine aD ?_|refine qR ?_|refine qS ?_|exact ⟨rfl,rfl⟩|fail)
   refine Nx.pick [1,5,11,12,13] [0,1,2,3,4,5,6,7,8,12] rfl rfl rfl ⟨L.length-(k+1),by omega,k+1,rfl,by omega,?_,?_⟩
   ·rw [hFk,List.length_append]; rfl
   ·rw [hFk]; rfl
  ·rw [if_neg h,List.append_nil] at hFk
   refine Nx.pick [1,5,11,12,13] [0,1,2,3,4,5,6,7,8,9] rfl rfl rfl ⟨L.length-(k+1),by omega,k+1,rfl,by omega,?_,by rw [hFk]; rfl⟩
   rw [hFk]; rfl
 ·obtain rfl:k=L.length:=by omega
  refine Nx.goL ?_
  repeat' (first|refine qN ?_|refine dN ?_|refine d0 ?_|refine qB ?_|refine qT ?_|refine qU ?_|refine qL ?_|refine qK ?_|refine qF ?_|refine qE ?_|refine iF (fun h=>?_) (fun h=>?_)|refine aX ?_|refine aA ?_|refine aI (hn:=?_)|refine aD ?_|refine qR ?_|refine qS ?_|exact ⟨rfl,rfl⟩|fail)
  exact L_ret (RetQ.pick [0,1,2,3,4,5,6,7,8,9] rfl rfl rfl rfl ⟨rfl,rfl⟩)
theorem rTidy_no (m:HM) (hm:HOk m) (gl:List Gb) (a:Int) (h:mgP m.rs a=false):TrK Tryz.prog [] [0,1,5,6] 59 [ptr 0,.int .i64 a] (RHm m gl) (fun v K=>v=.int .i64 6∧K=RHm m gl):=by
 have hn1:=hm.n1
 have hnr:=hm.nr
 have hM:=rManaged_tr m.man (m.man+m.mgd) m.bs m.rs (obs m) gl (by omega) a
 rw [h] at hM
 refine Tr.of row_tumbrelref18_Heap_Tidy_ok rfl ?_
 repeat' (first|refine qN ?_|refine dN ?_|refine dR ?_|refine d0 ?_|refine rT ?_|refine qT ?_|refine qU ?_|refine qL ?_|refine qK ?_|refine iF (fun h=>?_) (fun h=>?_)|refine cP R9 (hM) ?_|refine aI (hn:=?_)|refine qR ?_|refine qS ?_|exact ⟨rfl,rfl⟩|fail)
set_option maxHeartbeats 1000000 in
theorem rTidy_full (m:HM) (hm:HOk m) (gl:List Gb) (a:Int) (h:mgP m.rs a=true) (h2:inH m a≠[]):TrK Tryz.prog [] [0,1,5,6] 59 [ptr 0,.int .i64 a] (RHm m gl) (fun v K=>v=.int .i64 8∧K=RHm m gl):=by
 have hn1:=hm.n1
 have hnr:=hm.nr
 have hM:=rManaged_tr m.man (m.man+m.mgd) m.bs m.rs (obs m) gl (by omega) a
 rw [h] at hM
 have hI:=rIn_tr18 m hm gl a
 have hl:0<(inH m a).length:=List.length_pos_iff.2 h2
 refine Tr.of row_tumbrelref18_Heap_Tidy_ok rfl ?_
 repeat' (first|refine qN ?_|refine dN ?_|refine dR ?_|refine d0 ?_|refine rT ?_|refine qT ?_|refine qU ?_|refine qL ?_|refine qK ?_|refine iF (fun h=>?_) (fun h=>?_)|refine cP R9 (hM) ?_|(refine cF R9 (hI) ?_; conv=>whnf)|refine aI (hn:=?_)|refine qR ?_|refine qS ?_|exact ⟨rfl,rfl⟩|fail)
 exfalso; omega
set_option maxHeartbeats 1000000 in
theorem rTidy_ok (m:HM) (hm:HOk m) (gl:List Gb) (p:Nat) (h:mgP m.rs p=true) (h2:inH m p=[]):TrK Tryz.prog [] [0,1,5,6] 59 [ptr 0,.int .i64 p] (RHm m gl) (fun v K=>v=.int .i64 0∧K=RHm (tidyM m p) gl):=by
 have hn1:=hm.n1
 have hnr:=hm.nr
 have hM:=rManaged_tr m.man (m.man+m.mgd) m.bs m.rs (obs m) gl (by omega) p
 rw [h] at hM
 have hI:=rIn_tr18 m hm gl p
 rw [h2] at hI
 have hk:(pAt m.rs p).kind=4:=of_decide_eq_true h
 obtain ⟨_,_,hrun⟩:=hm.row p hk
 have hlt:p<m.rs.length:=by
  obtain ⟨q,h1,h3,_⟩:=mgP_in h; omega
 have hC:=rClear_tr m.rs (by omega) p 1 (by rw [hrun]; rfl) hlt (by omega)
 have hl:=clearP_length (rs:=m.rs) (a:=p) (m:=1) (by omega)
 rw [RHm,RHm,obs_tidy,tidyM]
 simp only
 simp only [RHL,hl]
 simp only [RHm,RHL] at hM hI
 refine Tr.of row_tumbrelref18_Heap_Tidy_ok rfl ?_
 repeat' (first|refine qN ?_|refine dN ?_|refine d0 ?_|refine qT ?_|refine qU ?_|refine qL ?_|refine qK ?_|refine iF (fun h=>?_) (fun h=>?_)|refine cP R9 (hM) ?_|(refine cF R9 (hI) ?_; conv=>whnf)|(refine cF [4] (hC) ?_; conv=>whnf)|refine aI (hn:=?_)|refine qR ?_|refine qS ?_|exact ⟨rfl,rfl⟩|fail)
 exact L_ret (RetQ.pick [0,1,2,3,10,5,6,7,8] rfl rfl rfl rfl ⟨rfl,rfl⟩)
end Go.Proofs.YthmdialagibpfaaGreatDoor
end
section
namespace Go.Tum.Base
open Go Go.Tum Go.Proofs.YthmdialagibpfaaGreatDoor
theorem placeH_skip {rs:PRows} {hw:Words} {c:Nat}:∀ {k f p:Nat},(∀ q,p≤q→q<p+k→isPg rs c q=false)→placeH rs hw c (k+f) p=placeH rs hw c f (p+k)
 | 0,f,p,_=>by rw [Nat.zero_add]; rfl
 | k+1,f,p,h=>by
  rw [show k+1+f=(k+f)+1 by omega,placeH,h p (Nat.le_refl _) (by omega),if_neg (by decide),placeH_skip (k:=k) (fun q h1 h2=>h q (by omega) (by omega)),show p+1+k=p+(k+1) by omega]
theorem placeH_all {m:HM} (hm:HOk m) (c:Nat):placeH m.rs m.hw c (m.man+m.mgd) 0=placeH m.rs m.hw c m.mgd m.man:=by
 rw [placeH_skip (k:=m.man) (fun q _ h2=>?_),Nat.zero_add]
 cases hq:isPg m.rs c q
 ·rfl
 ·have:=(hm.row q (of_decide_eq_true hq).1).1
  omega
def rpA (m:HM) (c:Nat):Int:=match placeH m.rs m.hw c m.mgd m.man with
 | some a=>a
 | none=>match placeP m.rs 1 m.mgd m.man 0 with
  | some A=>256*A
  | none => -1
def rpP (m:HM) (c:Nat):Int:=match placeH m.rs m.hw c m.mgd m.man with
 | some _ => -1
 | none=>match placeP m.rs 1 m.mgd m.man 0 with
  | some A=>A
  | none => -1
end Go.Tum.Base
namespace Go.Proofs.YthmdialagibpfaaGreatDoor
open Go Go.Tum Go.Tum.Base
set_option maxRecDepth 4000
set_option maxHeartbeats 2000000 in
theorem rPlaceH_tr (m:HM) (hm:HOk m) (gl:List Gb) (c:Nat) (hc:c<4):Tr Tryz.prog 115 [ptr 0,.int .i64 c] (RHm m gl) (fun v K=>v=.tuple ⟨[.int .i64 (rpA m c),.int .i64 (rpP m c)]⟩∧K=RHm m gl):=by
 have hn1:=hm.n1
 have hnr:=hm.nr
 have hlh:=hm.lh
 have hall:=placeH_all hm c
 have hS:=rSlots_tr c hc
 have hZ:=rSize_tr c
 rw [sizeC_sz hc] at hZ
 obtain ⟨S,hSd⟩:∃ S,S=256 / szC c:=⟨_,rfl⟩
 have hz:=szC_cases c
 have hlt:∀ k,k<S→szC c*k<256:=fun k hk=>by
  rw [hSd] at hk
  have h0:(k+1)*szC c≤256:=Nat.le_trans (Nat.mul_le_mul_right _ hk) (Nat.div_mul_le_self _ _)
  rw [Nat.mul_comm]
  rcases hz with e | e | e | e <;> rw [e] at h0 ⊢ <;> omega
 have hS16:S≤16:=by rw [hSd]; rcases hz with e | e | e | e <;> rw [e] <;> decide
 rw [← hSd] at hS
 have hI:∀ a,Tr Tryz.prog 60 [ptr 0,.int .i64 a] (RHm m gl) (fun v K=>v=.int .i64 (idxF a (obs m) 0)∧K=RHm m gl):=fun a=>rIndex_tr m.man (m.man+m.mgd) m.bs m.rs (obs m) gl (obs_len hm) a
 have hno:∀ p k,p<m.man+m.mgd→k<S→bitAt m.hw ((256*p+szC c*k) / 16)=false→idxF (256*p+szC c*k:Nat) (obs m) 0 = -1:=fun p k hp hk hb=>by
  have h1:=hlt k hk
  have h2:256*p+szC c*k=16*((256*p+szC c*k) / 16):=by rcases hz with e | e | e | e <;> rw [e] <;> omega
  rw [h2]
  exact idx_no (by rw [hasH_at (by omega)]; exact hb)
 have hyes:∀ p k,p<m.man+m.mgd→k<S→bitAt m.hw ((256*p+szC c*k) / 16)=true→∃ j:Nat,idxF (256*p+szC c*k:Nat) (obs m) 0=j:=fun p k hp hk hb=>by
  have h1:=hlt k hk
  have h2:256*p+szC c*k=16*((256*p+szC c*k) / 16):=by rcases hz with e | e | e | e <;> rw [e] <;> omega
  rw [h2]
  obtain ⟨j,h3,_⟩:=idx_at (m:=m) (by omega) hb
  exact ⟨j,h3⟩
 have hM:∀ p:Nat,Tr Tryz.prog 79 [ptr 0,.int .i64 p] (RHm m gl) (fun v K=>v=.bool (mgP m.rs p)∧K=RHm m gl):=fun p=>rManaged_tr m.man (m.man+m.mgd) m.bs m.rs (obs m) gl (by omega) p
 have hP:=rPlace_tr m.rs (by omega) m.man m.rs.length 1 ⟨by omega,by omega⟩ (by omega) (by omega)
 rw [show m.rs.length-m.man=m.mgd by omega] at hP
 have hPF:∀ p,pageF m.hw c p=slotF m.hw (256*p) (szC c) S 0:=fun p=>by rw [hSd]; rfl
 generalize hzz:szC c=z at *
 refine Tr.of row_tumbrelref18_Heap_place_ok rfl ?_
 refine L_rs (S_done [] rfl (Nx.goL ?_))
 refine L_cut (fun l L=>placeH m.rs m.hw c m.mgd m.man=none∧l=[(0,ptr 0)]∧L=RHm m gl) ?_ ?_
 ·repeat' (first|refine qN ?_|refine dN ?_|refine d0 ?_|refine qB ?_|refine qT ?_|refine qU ?_|refine qL ?_|refine qK ?_|refine qF ?_|refine qE ?_|refine iF (fun h=>?_) (fun h=>?_)|refine aX ?_|refine aA ?_|refine aI (hn:=?_)|refine aM ?_|refine sP 28 (fun h=>?_) (fun h=>?_)|refine qR ?_|refine qS ?_|exact ⟨rfl,rfl⟩|fail)
  refine LWp.pick [0,1,17,18,19] R9 rfl rfl rfl (L_loop (fun q l K=>∃ p:Nat,q=m.man+m.mgd-p∧p≤m.man+m.mgd∧placeH m.rs m.hw c m.mgd m.man=placeH m.rs m.hw c (m.man+m.mgd-p) p∧l=[(0,ptr 0),(1,.int .i64 c),(17,slB 4 m.rs.length),(18,.int .i64 m.rs.length),(19,.int .i64 p)]∧K=RHm m gl) (m.man+m.mgd) ⟨0,rfl,by omega,hall.symm,rfl,rfl⟩ ?_)
  rintro q _ _ ⟨p,rfl,hp,hpl,rfl,rfl⟩
  first|refine L_seq (L_rs (S_done [] rfl (Nx.goL (iF (fun h=>L_skip (Nx.goL ?_)) (fun h=>L_exit ?_)))))|refine L_rs (S_done [] rfl (Nx.goL (L_seq (iF (fun h=>L_skip (Nx.goL ?_)) (fun h=>L_exit ?_)))))
  ·have hp2:p<m.man+m.mgd:=by omega
   have hMp:=hM p
   rw [show m.man+m.mgd-p=(m.man+m.mgd-(p+1))+1 by omega,placeH] at hpl
   have hg:m.rs[p]?=some m.rs[p]:=List.getElem?_eq_getElem (by omega)
   have hgp:pAt m.rs p=m.rs[p]:=by rw [pAt_nat,List.getD_eq_getElem?_getD,hg]; rfl
   have hpg:isPg m.rs c p=(mgP m.rs p && decide (m.rs[p].cls=(c:Int))):=by rw [isPg,mgP,hgp,Bool.eq_iff_iff]; simp
   obtain ⟨row,hrow⟩:∃ row,row=m.rs[p]:=⟨_,rfl⟩
   rw [← hrow] at hg hpg
   obtain ⟨kd,cl,ow,ru⟩:=row
   cases hmg:mgP m.rs p
   ·rw [hmg] at hMp hpg
    rw [hpg,Bool.false_and,if_neg (by decide)] at hpl
    repeat' (first|refine qN ?_|refine dN ?_|refine d0 ?_|refine qB ?_|refine qT ?_|refine qU ?_|refine qL ?_|refine qK ?_|refine qF ?_|refine qE ?_|refine iF (fun h=>?_) (fun h=>?_)|refine aX ?_|refine S_Q [] rfl rfl (QY.ldRow (a:=⟨kd,cl,ow,ru⟩) PRow.ok rfl rfl hg (by decide)) ?_|refine cP R9 (hMp) ?_|refine aA ?_|refine aI (hn:=?_)|refine aM ?_|refine sP 28 (fun h=>?_) (fun h=>?_)|refine qR ?_|refine qS ?_|exact ⟨rfl,rfl⟩|fail)
    exact Nx.pick [0,1,17,18,19] R9 rfl rfl rfl ⟨m.man+m.mgd-(p+1),by omega,p+1,rfl,by omega,hpl,rfl,rfl⟩
   ·rw [hmg,Bool.true_and] at hpg
    rw [hmg] at hMp
    by_cases hcl:cl=c
    ·subst hcl
     rw [show decide ((⟨kd,(c:Int),ow,ru⟩:PRow).cls=(c:Int))=true from decide_eq_true rfl] at hpg
     rw [hpg,if_pos rfl,hPF] at hpl
     repeat' (first|refine qN ?_|refine dN ?_|refine d0 ?_|refine qB ?_|refine qT ?_|refine qU ?_|refine qL ?_|refine qK ?_|refine qF ?_|refine qE ?_|refine iF (fun h=>?_) (fun h=>?_)|refine aX ?_|refine S_Q [] rfl rfl (QY.ldRow (a:=⟨kd,c,ow,ru⟩) PRow.ok rfl rfl hg (by decide)) ?_|refine cP R9 (hMp) ?_|refine aA ?_|refine aI (hn:=?_)|refine aM ?_|refine sP 28 (fun h=>?_) (fun h=>?_)|refine qR ?_|refine qS ?_|exact ⟨rfl,rfl⟩|fail)
     ·contradiction
     refine LWp.pick [0,1,6,8,17,18,19] R9 rfl rfl rfl (L_loop (fun q l K=>∃ k:Nat,q=S-k∧k≤S∧slotF m.hw (256*p) z S 0=slotF m.hw (256*p) z (S-k) k∧l=[(0,ptr 0),(1,.int .i64 c),(6,.int .i64 p),(8,.int .i64 k),(17,slB 4 m.rs.length),(18,.int .i64 m.rs.length),(19,.int .i64 p)]∧K=RHm m gl) S ⟨0,rfl,by omega,rfl,rfl,rfl⟩ ?_)
     rintro q _ _ ⟨k,rfl,hk,hsl,rfl,rfl⟩
     by_cases hk2:k<S
     ·have hzk:=hlt k hk2
      have hIk:=hI (256*p+z*k:Nat)
      rw [show S-k=(S-(k+1))+1 by omega,slotF] at hsl
      cases hb:bitAt m.hw ((256*p+z*k) / 16)
      ·rw [hno p k hp2 hk2 hb] at hIk
       rw [hb,if_neg (by decide)] at hsl
       rw [hsl] at hpl
       have e1:rpA m c=(256*p+z*k:Nat):=by unfold rpA; rw [hpl]
       have e2:rpP m c = -1:=by unfold rpP; rw [hpl]
       rw [e1,e2]
       repeat' (first|refine qN ?_|refine dN ?_|refine dR ?_|refine d0 ?_|refine qB ?_|refine rT ?_|refine qT ?_|refine qU ?_|refine qL ?_|refine qK ?_|refine qF ?_|refine qE ?_|refine iF (fun h=>?_) (fun h=>?_)|refine aX ?_|refine cP [] (hS) ?_|refine cP [] (hZ) ?_|refine S_Q [] rfl rfl (QY.mul (c:=((z*k:Nat):Int)) rfl rfl (Int.natCast_mul z k).symm (by omega) (by omega)) ?_|refine S_Q [] rfl rfl (QY.add (c:=((256*p+z*k:Nat):Int)) rfl rfl (by omega) (by omega) (by omega)) ?_|refine cP R9 (hIk) ?_|refine aA ?_|refine aI (hn:=?_)|refine aM ?_|refine sP 28 (fun h=>?_) (fun h=>?_)|refine qR ?_|refine qS ?_|exact ⟨rfl,rfl⟩|fail)
       all_goals (exfalso; omega)
      ·obtain ⟨j,hj⟩:=hyes p k hp2 hk2 hb
       rw [hj] at hIk
       rw [hb,if_pos rfl] at hsl
       repeat' (first|refine qN ?_|refine dN ?_|refine d0 ?_|refine qB ?_|refine qT ?_|refine qU ?_|refine qL ?_|refine qK ?_|refine qF ?_|refine qE ?_|refine iF (fun h=>?_) (fun h=>?_)|refine aX ?_|refine cP [] (hS) ?_|refine cP [] (hZ) ?_|refine S_Q [] rfl rfl (QY.mul (c:=((z*k:Nat):Int)) rfl rfl (Int.natCast_mul z k).symm (by omega) (by omega)) ?_|refine S_Q [] rfl rfl (QY.add (c:=((256*p+z*k:Nat):Int)) rfl rfl (by omega) (by omega) (by omega)) ?_|refine cP R9 (hIk) ?_|refine aA ?_|refine aI (hn:=?_)|refine aM ?_|refine sP 28 (fun h=>?_) (fun h=>?_)|refine qR ?_|refine qS ?_|exact ⟨rfl,rfl⟩|fail)
       all_goals first | (exfalso; omega)|exact Nx.pick [0,1,6,8,17,18,19] R9 rfl rfl rfl ⟨S-(k+1),by omega,k+1,rfl,by omega,hsl,rfl,rfl⟩
     ·obtain rfl:k=S:=by omega
      rw [Nat.sub_self] at hsl
      rw [hsl] at hpl
      repeat' (first|refine qN ?_|refine dN ?_|refine d0 ?_|refine qB ?_|refine qT ?_|refine qU ?_|refine qL ?_|refine qK ?_|refine qF ?_|refine qE ?_|refine iF (fun h=>?_) (fun h=>?_)|refine aX ?_|refine cP [] (hS) ?_|refine aA ?_|refine aI (hn:=?_)|refine aM ?_|refine sP 28 (fun h=>?_) (fun h=>?_)|refine qR ?_|refine qS ?_|exact ⟨rfl,rfl⟩|fail)
      all_goals first | (exfalso; omega)|exact Nx.pick [0,1,17,18,19] R9 rfl rfl rfl ⟨m.man+m.mgd-(p+1),by omega,p+1,rfl,by omega,hpl,rfl,rfl⟩
    ·rw [show decide ((⟨kd,cl,ow,ru⟩:PRow).cls=(c:Int))=false from decide_eq_false hcl] at hpg
     rw [hpg,if_neg (by decide)] at hpl
     repeat' (first|refine qN ?_|refine dN ?_|refine d0 ?_|refine qB ?_|refine qT ?_|refine qU ?_|refine qL ?_|refine qK ?_|refine qF ?_|refine qE ?_|refine iF (fun h=>?_) (fun h=>?_)|refine aX ?_|refine S_Q [] rfl rfl (QY.ldRow (a:=⟨kd,cl,ow,ru⟩) PRow.ok rfl rfl hg (by decide)) ?_|refine cP R9 (hMp) ?_|refine aA ?_|refine aI (hn:=?_)|refine aM ?_|refine sP 28 (fun h=>?_) (fun h=>?_)|refine qR ?_|refine qS ?_|exact ⟨rfl,rfl⟩|fail)
     ·exact Nx.pick [0,1,17,18,19] R9 rfl rfl rfl ⟨m.man+m.mgd-(p+1),by omega,p+1,rfl,by omega,hpl,rfl,rfl⟩
     ·contradiction
  ·obtain rfl:p=m.man+m.mgd:=by omega
   rw [Nat.sub_self] at hpl
   exact Nx.pick [0] R9 rfl rfl rfl ⟨hpl,rfl,rfl⟩
 ·rintro _ _ ⟨hq,rfl,rfl⟩
  have e1:rpA m c=match placeP m.rs 1 m.mgd m.man 0 with | some A=>256*A | none => -1:=by unfold rpA; rw [hq]
  have e2:rpP m c=match placeP m.rs 1 m.mgd m.man 0 with | some A=>A | none => -1:=by unfold rpP; rw [hq]
  rw [e1,e2]
  have hsp:=placeP_first (rs:=m.rs) (lo:=m.man) (hi:=m.man+m.mgd) (n:=1) (by omega) (by omega)
  rw [show m.man+m.mgd-m.man=m.mgd by omega] at hsp
  rcases hsp with ⟨A,h3,h4,_⟩ | ⟨h3,_⟩
  ·rw [show ((1:Nat):Int)=1 by rfl] at h3 hP
   rw [h3] at hP ⊢
   have:=h4.2.1
   change Tr Tryz.prog _ _ _ (fun v K=>v=.int .i64 (A:Int)∧K=[TB m.rs]) at hP
   repeat' (first|refine qN ?_|refine dN ?_|refine dR ?_|refine d0 ?_|refine qB ?_|refine rT ?_|refine qT ?_|refine qU ?_|refine qL ?_|refine qK ?_|refine qF ?_|refine qE ?_|refine iF (fun h=>?_) (fun h=>?_)|refine aX ?_|refine cP [4] (hP) ?_|refine aA ?_|refine aI (hn:=?_)|refine aM ?_|refine sP 28 (fun h=>?_) (fun h=>?_)|refine qR ?_|refine qS ?_|exact ⟨rfl,rfl⟩|fail)
   all_goals (exfalso; omega)
  ·rw [show ((1:Nat):Int)=1 by rfl] at h3 hP
   rw [h3] at hP ⊢
   repeat' (first|refine qN ?_|refine dN ?_|refine dR ?_|refine d0 ?_|refine qB ?_|refine rT ?_|refine qT ?_|refine qU ?_|refine qL ?_|refine qK ?_|refine qF ?_|refine qE ?_|refine iF (fun h=>?_) (fun h=>?_)|refine aX ?_|refine cP [4] (hP) ?_|refine aA ?_|refine aI (hn:=?_)|refine aM ?_|refine sP 28 (fun h=>?_) (fun h=>?_)|refine qR ?_|refine qS ?_|exact ⟨rfl,rfl⟩|fail)
end Go.Proofs.YthmdialagibpfaaGreatDoor
end
section
namespace Go.Tum.Base
open Go Go.Tum Go.Proofs.YthmdialagibpfaaGreatDoor
theorem longP_pos {rs:PRows}:∀ {f k:Nat} {run best:Int},0≤run→0≤best→(longP rs f k run best > 0↔best > 0∨∃ i,k≤i∧i<k+f∧freeP (rs.getD i PRow.Z)=true)
 | 0,k,run,best,_,_=>by
  simp only [longP]
  exact ⟨fun h=>.inl h,fun h=>h.elim id fun ⟨i,h1,h2,_⟩=>by omega⟩
 | f+1,k,run,best,hr,hb=>by
  simp only [longP]
  by_cases hf:freeP (rs.getD k PRow.Z)=true
  ·rw [if_pos hf,longP_pos (by omega) (by omega)]
   exact ⟨fun _=>.inr ⟨k,Nat.le_refl _,by omega,hf⟩,fun _=>.inl (by omega)⟩
  ·rw [if_neg hf,longP_pos (by omega) (by omega)]
   constructor
   ·rintro (h | ⟨i,h1,h2,h3⟩)
    ·exact .inl (by omega)
    ·exact .inr ⟨i,by omega,by omega,h3⟩
   ·rintro (h | ⟨i,h1,h2,h3⟩)
    ·exact .inl (by omega)
    ·refine .inr ⟨i,?_,by omega,h3⟩
     by_cases e:i=k
     ·subst e; exact absurd h3 hf
     ·omega
theorem long_place {rs:PRows} {lo n:Nat}:(longP rs n lo 0 0 > 0)↔(placeP rs 1 n lo 0).isSome=true:=by
 have hsp:=placeP_first (rs:=rs) (lo:=lo) (hi:=lo+n) (n:=1) (by omega) (by omega)
 rw [show lo+n-lo=n by omega,show ((1:Nat):Int)=1 by rfl] at hsp
 rw [longP_pos (by omega) (by omega)]
 rcases hsp with ⟨A,h3,h4,_⟩ | ⟨h3,h4⟩
 ·rw [h3]
  exact ⟨fun _=>rfl,fun _=>.inr ⟨A,h4.1,by have:=h4.2.1; omega,h4.2.2 A (Nat.le_refl _) (by omega)⟩⟩
 ·rw [h3]
  constructor
  ·rintro (h | ⟨i,h1,h2,h5⟩)
   ·omega
   ·exact absurd ⟨h1,by omega,fun j h6 h7=>by rw [show j=i by omega]; exact h5⟩ (h4 i)
  ·intro h; cases h
theorem placeP_nat {rs:PRows} {lo n:Nat} {A:Int} (h:placeP rs 1 n lo 0=some A):∃ a:Nat,A=a∧lo≤a∧a<lo+n∧freeP (rs.getD a PRow.Z)=true:=by
 have hsp:=placeP_first (rs:=rs) (lo:=lo) (hi:=lo+n) (n:=1) (by omega) (by omega)
 rw [show lo+n-lo=n by omega,show ((1:Nat):Int)=1 by rfl] at hsp
 rcases hsp with ⟨a,h3,h4,_⟩ | ⟨h3,_⟩
 ·rw [h] at h3
  exact ⟨a,by simpa using h3,h4.1,by have:=h4.2.1; omega,h4.2.2 a (Nat.le_refl _) (by omega)⟩
 ·rw [h] at h3; cases h3
theorem room_rp (m:HM) (r n:Int) (h:shOk r n=true):roomH m r n=decide (0≤rpA m (cOf r n)):=by
 unfold roomH rpA
 rw [h,Bool.true_and]
 cases hp:placeH m.rs m.hw (cOf r n) m.mgd m.man with
 | some a=>simp
 | none =>
  have hl:=long_place (rs:=m.rs) (lo:=m.man) (n:=m.mgd)
  cases hq:placeP m.rs 1 m.mgd m.man 0 with
  | none =>
   rw [hq] at hl
   have:¬ longP m.rs m.mgd m.man 0 0 > 0:=fun e=>by have:=hl.1 e; cases this
   simp [this]
  | some A =>
   rw [hq] at hl
   obtain ⟨a,rfl,_⟩:=placeP_nat hq
   have:longP m.rs m.mgd m.man 0 0 > 0:=hl.2 rfl
   simp [this]; omega
end Go.Tum.Base
namespace Go.Proofs.YthmdialagibpfaaGreatDoor
open Go Go.Tum Go.Tum.Base
set_option maxRecDepth 4000
theorem shN_zero {r n:Int}:(shN r n=0↔shOk r n=false)∧0≤shN r n:=by
 unfold shN
 cases hs:shOk r n
 ·simp
 ·have:=shOk_t hs
  simp; omega
set_option maxHeartbeats 1000000 in
theorem rRoom_tr (m:HM) (hm:HOk m) (gl:List Gb) (r n:Int):Tr Tryz.prog 68 [ptr 0,shV r n] (RHm m gl) (fun v K=>v=.bool (roomH m r n)∧K=RHm m gl):=by
 have hB:=rBytes_tr r n
 have hC:=rClass_tr r n
 obtain ⟨hc1,hc2⟩:=cOf_ok (r:=r) (n:=n)
 rw [hc1] at hC
 have hP:=rPlaceH_tr m hm gl (cOf r n) hc2
 obtain ⟨hz,_⟩:=shN_zero (r:=r) (n:=n)
 refine Tr.of row_tumbrelref18_Heap_Room_ok rfl ?_
 cases hs:shOk r n
 ·rw [hz.2 hs] at hB
  rw [show roomH m r n=false by unfold roomH; rw [hs]; rfl]
  repeat' (first|refine qN ?_|refine dN ?_|refine dR ?_|refine d0 ?_|refine rT ?_|refine qT ?_|refine qU ?_|refine qL ?_|refine qK ?_|refine iF (fun h=>?_) (fun h=>?_)|refine cP [] (hB) ?_|refine aI (hn:=?_)|refine qR ?_|refine qS ?_|exact ⟨rfl,rfl⟩|fail)
 ·have hnz:¬ shN r n=0:=fun e=>by rw [hz.1 e] at hs; cases hs
  rw [room_rp m r n hs]
  repeat' (first|refine qN ?_|refine dN ?_|refine dR ?_|refine d0 ?_|refine rT ?_|refine qT ?_|refine qU ?_|refine qL ?_|refine qK ?_|refine iF (fun h=>?_) (fun h=>?_)|refine cP [] (hB) ?_|refine cP [] (hC) ?_|refine cP R9 (hP) ?_|refine aI (hn:=?_)|refine qR ?_|refine qS ?_|exact ⟨rfl,rfl⟩|fail)
  contradiction
end Go.Proofs.YthmdialagibpfaaGreatDoor
end
section
namespace Go.Proofs.YthmdialagibpfaaGreatDoor
open Go Go.Tum Go.Tum.Base
set_option maxRecDepth 4000
theorem takeF_succ {L:List Ob} {p:Ob→Bool} {k:Nat} (h:k<L.length):(L.take (k+1)).filter p=(L.take k).filter p++(if p L[k] then [L[k]] else []):=by
 rw [List.take_succ_eq_append_getElem h,List.filter_append]
 congr 1
 rw [List.filter_cons]; rfl
theorem takeF_len {L:List Ob} {p:Ob→Bool} (k:Nat):((L.take k).filter p).length≤L.length:=by
 have:=List.length_filter_le p (L.take k)
 rw [List.length_take] at this
 omega
theorem rAlloc_arg (m:HM) (gl:List Gb) (r n:Int) (h:shOk r n=false):TrK Tryz.prog [] [0,1,5,6] 52 [ptr 0,shV r n] (RHm m gl) (fun v K=>v=.tuple ⟨[.int .i64 0,.int .i64 1]⟩∧K=RHm m gl):=by
 have hB:=rBytes_tr r n
 rw [(shN_zero (r:=r) (n:=n)).1.2 h] at hB
 refine Tr.of row_tumbrelref18_Heap_Alloc_ok rfl ?_
 repeat' (first|refine qN ?_|refine dN ?_|refine dR ?_|refine d0 ?_|refine qB ?_|refine rT ?_|refine qT ?_|refine qU ?_|refine qL ?_|refine qK ?_|refine qF ?_|refine qE ?_|refine iF (fun h=>?_) (fun h=>?_)|refine aX ?_|refine cP [] (hB) ?_|refine aA ?_|refine aI (hn:=?_)|refine qR ?_|refine qS ?_|exact ⟨rfl,rfl⟩|fail)
theorem rAlloc_full (m:HM) (hm:HOk m) (gl:List Gb) (r n:Int) (h:shOk r n=true) (h1:rpA m (cOf r n) = -1):TrK Tryz.prog [] [0,1,5,6] 52 [ptr 0,shV r n] (RHm m gl) (fun v K=>v=.tuple ⟨[.int .i64 0,.int .i64 5]⟩∧K=RHm m gl):=by
 have hB:=rBytes_tr r n
 have hC:=rClass_tr r n
 obtain ⟨hc1,hc2⟩:=cOf_ok (r:=r) (n:=n)
 rw [hc1] at hC
 have hP:=rPlaceH_tr m hm gl (cOf r n) hc2
 rw [h1] at hP
 have hnz:¬ shN r n=0:=fun e=>by rw [(shN_zero (r:=r) (n:=n)).1.1 e] at h; cases h
 refine Tr.of row_tumbrelref18_Heap_Alloc_ok rfl ?_
 repeat' (first|refine qN ?_|refine dN ?_|refine dR ?_|refine d0 ?_|refine qB ?_|refine rT ?_|refine qT ?_|refine qU ?_|refine qL ?_|refine qK ?_|refine qF ?_|refine qE ?_|refine iF (fun h=>?_) (fun h=>?_)|refine aX ?_|refine cP [] (hB) ?_|refine cP [] (hC) ?_|refine cP R9 (hP) ?_|refine aA ?_|refine aI (hn:=?_)|refine qR ?_|refine qS ?_|exact ⟨rfl,rfl⟩|fail)
 contradiction
set_option maxHeartbeats 2000000 in
theorem rAlloc_ok (m:HM) (hm:HOk m) (gl:List Gb) (r n:Nat) (h:shOk r n=true) (a:Nat) (pg:Option Nat) (h1:rpA m (cOf r n)=a) (h2:rpP m (cOf r n)=(match pg with | some A=>(A:Int) | none => -1)) (h3:∀ A,pg=some A→A<m.man+m.mgd)
  (ha:a % 16=0) (hle:a+8*(1+r+n)≤256*(m.man+m.mgd)) (hb:bitAt m.hw (a / 16)=false) :
  TrK Tryz.prog [] [0,1,5,6] 52 [ptr 0,shV r n] (RHm m gl) (fun v K=>v=.tuple ⟨[.int .i64 a,.int .i64 0]⟩∧K=RHm (allocM m a pg r n) gl):=by
 have hn1:=hm.n1
 have hnb:=hm.nb
 have hnr:=hm.nr
 have hL:=obs_len hm
 have hB:=rBytes_tr r n
 have hC:=rClass_tr r n
 obtain ⟨hc1,hc2⟩:=cOf_ok (r:=(r:Int)) (n:=(n:Int))
 rw [hc1] at hC
 have hP:=rPlaceH_tr m hm gl (cOf r n) hc2
 rw [h1,h2] at hP
 have hnz:¬ shN r n=0:=fun e=>by rw [(shN_zero (r:=(r:Int)) (n:=(n:Int))).1.1 e] at h; cases h
 obtain ⟨rs',hrs⟩:∃ rs',rs'=(match pg with | some A=>layP m.rs A (mrow (cOf r n)) 1 | none=>m.rs):=⟨_,rfl⟩
 have hrl:rs'.length=m.rs.length:=by
  rw [hrs]
  cases pg with
  | none=>rfl
  | some A=>exact layP_length (by have:=h3 A rfl; omega) (by omega)
 have hM:=rMake_tr m.bs (by omega) a r n h (by omega) (by omega)
 have hml:=madeO_length (bs:=m.bs) (i:=a) h (by omega)
 have ho:=obs_alloc hm (i:=a / 16) (by omega) hb (m':=allocM m a pg r n) rfl rfl rfl rfl
 rw [show 16*(a / 16)=a by omega] at ho
 have hK:RHm (allocM m a pg r n) gl=RHL m.man (m.man+m.mgd) (madeO m.bs a r n) rs' ((obs m).filter (fun x=>decide (x.1<(a:Int)))++((a:Int),false)::(obs m).filter (fun x=>decide ((a:Int)<x.1))) gl:=by
  rw [RHm,ho,hrs]; rfl
 rw [hK]
 refine Tr.of row_tumbrelref18_Heap_Alloc_ok rfl ?_
 refine L_rs (S_done [] rfl (Nx.goL (L_seq ?_)))
 first|refine L_rs ?_|refine L_reg ?_ | skip
 refine cP [] (hB) ?_
 refine S_done [] rfl (Nx.goL (L_ifp rfl (by first|exact bD|exact bE|exact bN|exact bNB|exact bEB|exact bNot bD|exact bNot bE|exact bNot bN|exact bNot bV|exact bV) (fun h=>absurd h hnz) (fun h=>L_skip (Nx.goL ?_))))
 first|refine L_rs ?_|refine L_reg ?_ | skip
 refine cP [] (hC) ?_
 first|refine L_rs ?_|refine L_reg ?_ | skip
 refine cP R9 (hP) ?_
 refine S_done [] rfl (Nx.goL (L_seq (L_rs (S_done [] rfl (Nx.goL (L_ifp rfl (by first|exact bD|exact bE|exact bN|exact bNB|exact bEB|exact bNot bD|exact bNot bE|exact bNot bN|exact bNot bV|exact bV) (fun h=>by exfalso; omega) (fun h=>L_skip (Nx.goL ?_))))))))
 refine L_cut (fun l L=>l=[(0,ptr 0),(3,ptr 9),(6,.int .i64 a)]∧L=RHL m.man (m.man+m.mgd) m.bs rs' (obs m) gl++[.cells 0 [.int .i64 r,.int .i64 n]]) ?_ ?_
 ·cases pg with
  | none =>
   repeat' (first|refine qN ?_|refine dN ?_|refine d0 ?_|refine qB ?_|refine qT ?_|refine qU ?_|refine qL ?_|refine qK ?_|refine qF ?_|refine qE ?_|refine iF (fun h=>?_) (fun h=>?_)|refine aX ?_|refine aA ?_|refine aI (hn:=?_)|refine qR ?_|refine qS ?_|exact ⟨rfl,rfl⟩|fail)
   exact Nx.pick [0,3,6] [0,1,2,3,4,5,6,7,8,9] rfl rfl rfl ⟨rfl,by rw [hrs]; rfl⟩
  | some A =>
   have hA:=h3 A rfl
   have hLy:=rLay_tr m.rs (by omega) A 1 (mrow (cOf r n)) rfl (by omega) (by omega)
   repeat' (first|refine qN ?_|refine dN ?_|refine d0 ?_|refine qB ?_|refine qT ?_|refine qU ?_|refine qL ?_|refine qK ?_|refine qF ?_|refine qE ?_|refine iF (fun h=>?_) (fun h=>?_)|refine aX ?_|refine cP [] (hC) ?_|(refine cF [4] (hLy) ?_; conv=>whnf)|refine aA ?_|refine aI (hn:=?_)|refine qR ?_|refine qS ?_|exact ⟨rfl,rfl⟩|fail)
   refine Nx.pick [0,3,6] [0,1,2,3,10,5,6,7,8,9] rfl rfl rfl ⟨rfl,?_⟩
   rw [RHL,hrl,hrs]; rfl
 ·rintro _ _ ⟨rfl,rfl⟩
  repeat' (first|refine qN ?_|refine dN ?_|refine d0 ?_|refine qB ?_|refine qT ?_|refine qU ?_|refine qL ?_|refine qK ?_|refine qF ?_|refine qE ?_|refine iF (fun h=>?_) (fun h=>?_)|refine aX ?_|(refine cF [3] (hM) ?_; conv=>whnf)|refine aA ?_|refine aI (hn:=?_)|refine qR ?_|refine qS ?_|exact ⟨rfl,rfl⟩|fail)
  have hBL:∀ X,RHL m.man (m.man+m.mgd) (madeO m.bs a r n) rs' X gl=RHL m.man (m.man+m.mgd) (madeO m.bs a r n) rs' X gl:=fun _=>rfl
  generalize obs m=L at *
  refine LWp.nilE 10 2 rfl (LWp.pick [0,6,9,10,70,71,72] [0,1,2,10,4,5,6,7,8,11] rfl rfl rfl (L_loop (fun q l K=>∃ k:Nat,q=L.length-k∧k≤L.length∧l=[(0,ptr 0),(6,.int .i64 a),(9,.int .i64 0),(10,slB 9 ((L.take k).filter fun x=>decide (x.1<(a:Int))).length),(70,slB 2 L.length),(71,.int .i64 L.length),(72,.int .i64 k)]∧K=RHL m.man (m.man+m.mgd) (madeO m.bs a r n) rs' L gl++[.gro 2 (rowsC obC ((L.take k).filter fun x=>decide (x.1<(a:Int))))]) L.length ⟨0,rfl,by omega,rfl,by unfold RHL; rw [hml]; rfl⟩ ?_))
  rintro q _ _ ⟨k,rfl,hk,rfl,rfl⟩
  first|refine L_seq (L_rs (S_done [] rfl (Nx.goL (iF (fun h=>L_skip (Nx.goL ?_)) (fun h=>L_exit ?_)))))|refine L_rs (S_done [] rfl (Nx.goL (L_seq (iF (fun h=>L_skip (Nx.goL ?_)) (fun h=>L_exit ?_)))))
  ·have hk2:k<L.length:=by omega
   have hg:L[k]?=some L[k]:=List.getElem?_eq_getElem hk2
   have hFk:=takeF_succ (p:=fun x=>decide (x.1<(a:Int))) hk2
   have hFl:=takeF_len (L:=L) (p:=fun x=>decide (x.1<(a:Int))) k
   repeat' (first|refine qN ?_|refine dN ?_|refine d0 ?_|refine qB ?_|refine qT ?_|refine qU ?_|refine qL ?_|refine qK ?_|refine qF ?_|refine qE ?_|refine iF (fun h=>?_) (fun h=>?_)|refine aX ?_|refine S_Q [] rfl rfl (QY.ldRow obC_ok rfl rfl hg (by decide)) ?_|refine aA ?_|refine aI (hn:=?_)|refine qR ?_|refine qS ?_|exact ⟨rfl,rfl⟩|fail)
   ·rw [if_pos (by simpa using h)] at hFk
    first|refine L_rs ?_|refine L_reg ?_ | skip
    refine eE rfl rfl (EW.appR1 (bytes:=16) (a:=L[k]) obC_ok rfl (by kernel_rfl) rfl rfl rfl rfl rfl (by omega)) ?_
    conv=>whnf
    repeat' (first|refine qN ?_|refine dN ?_|refine d0 ?_|refine qB ?_|refine qT ?_|refine qU ?_|refine qL ?_|refine qK ?_|refine qF ?_|refine qE ?_|refine iF (fun h=>?_) (fun h=>?_)|refine aX ?_|refine aA ?_|refine aI (hn:=?_)|refine qR ?_|refine qS ?_|exact ⟨rfl,rfl⟩|fail)
    refine Nx.pick [0,6,9,10,70,71,72] [0,1,2,3,4,5,6,7,8,12] rfl rfl rfl ⟨L.length-(k+1),by omega,k+1,rfl,by omega,?_,by rw [hFk]; rfl⟩
    rw [hFk,List.length_append]; rfl
   ·rw [if_neg (by simpa using h),List.append_nil] at hFk
    refine Nx.pick [0,6,9,10,70,71,72] [0,1,2,3,4,5,6,7,8,9] rfl rfl rfl ⟨L.length-(k+1),by omega,k+1,rfl,by omega,?_,by rw [hFk]; rfl⟩
    rw [hFk]; rfl
  ·obtain rfl:k=L.length:=by omega
   refine Nx.goL ?_
   rw [List.take_length]
   have hl1:=List.length_filter_le (fun x:Ob=>decide (x.1<(a:Int))) L
   generalize L.filter (fun x=>decide (x.1<(a:Int)))=A1 at *
   repeat' (first|refine qN ?_|refine dN ?_|refine d0 ?_|refine qB ?_|refine qT ?_|refine qU ?_|refine qL ?_|refine qK ?_|refine qF ?_|refine qE ?_|refine iF (fun h=>?_) (fun h=>?_)|refine aX ?_|refine aA ?_|refine aI (hn:=?_)|refine qR ?_|refine qS ?_|exact ⟨rfl,rfl⟩|fail)
   first|refine L_rs ?_|refine L_reg ?_ | skip
   refine eE rfl rfl (EW.appR1 (bytes:=16) (a:=((a:Int),false)) obC_ok rfl (by kernel_rfl) rfl rfl rfl rfl rfl (by omega)) ?_
   conv=>whnf
   repeat' (first|refine qN ?_|refine dN ?_|refine d0 ?_|refine qB ?_|refine qT ?_|refine qU ?_|refine qL ?_|refine qK ?_|refine qF ?_|refine qE ?_|refine iF (fun h=>?_) (fun h=>?_)|refine aX ?_|refine aA ?_|refine aI (hn:=?_)|refine qR ?_|refine qS ?_|exact ⟨rfl,rfl⟩|fail)
   refine LWp.pick [0,6,9,10,93,94,95] [0,1,2,3,4,5,6,7,8,11] rfl rfl rfl (L_loop (fun q l K=>∃ k:Nat,q=L.length-k∧k≤L.length∧l=[(0,ptr 0),(6,.int .i64 a),(9,.int .i64 0),(10,slB 9 (A1++[((a:Int),false)]++(L.take k).filter fun x=>decide ((a:Int)<x.1)).length),(93,slB 2 L.length),(94,.int .i64 L.length),(95,.int .i64 k)]∧K=RHL m.man (m.man+m.mgd) (madeO m.bs a r n) rs' L gl++[.gro 2 (rowsC obC (A1++[((a:Int),false)]++(L.take k).filter fun x=>decide ((a:Int)<x.1)))]) L.length ⟨0,rfl,by omega,by rw [List.take_zero,List.filter_nil,List.append_nil,List.length_append]; rfl,by rw [List.take_zero,List.filter_nil,List.append_nil]; rfl⟩ ?_)
   rintro q _ _ ⟨k,rfl,hk,rfl,rfl⟩
   first|refine L_seq (L_rs (S_done [] rfl (Nx.goL (iF (fun h=>L_skip (Nx.goL ?_)) (fun h=>L_exit ?_)))))|refine L_rs (S_done [] rfl (Nx.goL (L_seq (iF (fun h=>L_skip (Nx.goL ?_)) (fun h=>L_exit ?_)))))
   ·have hk2:k<L.length:=by omega
    have hg:L[k]?=some L[k]:=List.getElem?_eq_getElem hk2
    have hFk:=takeF_succ (p:=fun x=>decide ((a:Int)<x.1)) hk2
    have hFl:=takeF_len (L:=L) (p:=fun x=>decide ((a:Int)<x.1)) k
    repeat' (first|refine qN ?_|refine dN ?_|refine d0 ?_|refine qB ?_|refine qT ?_|refine qU ?_|refine qL ?_|refine qK ?_|refine qF ?_|refine qE ?_|refine iF (fun h=>?_) (fun h=>?_)|refine aX ?_|refine S_Q [] rfl rfl (QY.ldRow obC_ok rfl rfl hg (by decide)) ?_|refine aA ?_|refine aI (hn:=?_)|refine qR ?_|refine qS ?_|exact ⟨rfl,rfl⟩|fail)
    ·rw [if_pos (by simpa using h)] at hFk
     first|refine L_rs ?_|refine L_reg ?_ | skip
     refine eE rfl rfl (EW.appR1 (bytes:=16) (a:=L[k]) obC_ok rfl (by kernel_rfl) rfl rfl rfl rfl rfl (by simp only [List.length_append,List.length_cons,List.length_nil]; omega)) ?_
     conv=>whnf
     repeat' (first|refine qN ?_|refine dN ?_|refine d0 ?_|refine qB ?_|refine qT ?_|refine qU ?_|refine qL ?_|refine qK ?_|refine qF ?_|refine qE ?_|refine iF (fun h=>?_) (fun h=>?_)|refine aX ?_|refine aA ?_|refine aI (hn:=?_)|refine qR ?_|refine qS ?_|exact ⟨rfl,rfl⟩|fail)
     refine Nx.pick [0,6,9,10,93,94,95] [0,1,2,3,4,5,6,7,8,12] rfl rfl rfl ⟨L.length-(k+1),by omega,k+1,rfl,by omega,?_,by rw [hFk,← List.append_assoc]; rfl⟩
     rw [hFk,← List.append_assoc,List.length_append (bs:=[L[k]])]; rfl
    ·rw [if_neg (by simpa using h),List.append_nil] at hFk
     refine Nx.pick [0,6,9,10,93,94,95] [0,1,2,3,4,5,6,7,8,9] rfl rfl rfl ⟨L.length-(k+1),by omega,k+1,rfl,by omega,?_,by rw [hFk]; rfl⟩
     rw [hFk]; rfl
   ·obtain rfl:k=L.length:=by omega
    refine Nx.goL ?_
    rw [List.take_length]
    repeat' (first|refine qN ?_|refine dN ?_|refine d0 ?_|refine qB ?_|refine qT ?_|refine qU ?_|refine qL ?_|refine qK ?_|refine qF ?_|refine qE ?_|refine iF (fun h=>?_) (fun h=>?_)|refine aX ?_|refine aA ?_|refine aI (hn:=?_)|refine qR ?_|refine qS ?_|exact ⟨rfl,rfl⟩|fail)
    refine L_ret (RetQ.pick [0,1,9,3,4,5,6,7,8] rfl rfl rfl rfl ⟨rfl,?_⟩)
    rw [List.append_assoc,List.singleton_append]; rfl
end Go.Proofs.YthmdialagibpfaaGreatDoor
end
