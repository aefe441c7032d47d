/-
  What the proof leans on, part 8: of the texts RgC, RgD, RgN, Lw39, DocR, DocP, DocS, DocT, DocU, DocV, DocW, DocX, DocY, RgP, RgT, RgU.
-/
import Derived.Test.YtgfjgfapigekiaaGreatPkG
set_option linter.unusedVariables false
set_option linter.unusedSimpArgs false
set_option linter.unusedSectionVars false
section
namespace Go.Proofs.YtgfjgfapigekiaaGreat
open Go Go.Tum Go.Tum.Base
set_option maxRecDepth 4000
def madeR (r:PR) (A M:Nat) (n:Int):PR:={ r with rs:=layP r.rs A (lrow M) M,bs:=madeB r.key r.bs A M,G:=gput r.G A n r.gc,gc:=r.gc+1 }
theorem tMap_full (n:Nat) (rs:PRows) (hl:rs.length=n) (hn:n≤256) (man:Nat) (hm:man≤n) (q:PRow) (hr:firstP q=true) (hr1:1≤q.run∧q.run≤256) (hp:placeP rs q.run man 0 0=none):Tr Tryz.prog 87 [ptr 0,.int .i64 0,.int .i64 man,.agg ⟨q.cells⟩] (TN n rs) (fun v K=>v=.tuple ⟨[.int .i64 0,.int .i64 5]⟩∧K=TN n rs):=by
 subst hl
 have e1:cutLo 0=0:=rfl
 have e2:cutHi rs 0 man=man:=by unfold cutHi; omega
 exact map_full rs 0 man (by omega) q hn hr hr1 (by rw [e1,e2]; exact hp)
theorem tMap_ok (n:Nat) (rs:PRows) (hl:rs.length=n) (hn:n≤256) (man:Nat) (hm:man≤n) (q:PRow) (hr:firstP q=true) (A m:Nat) (hqm:q.run=m) (hm1:1≤m) (hm2:m≤256) (hA:A+m≤n) (hp:placeP rs q.run man 0 0=some (A:Int)):Tr Tryz.prog 87 [ptr 0,.int .i64 0,.int .i64 man,.agg ⟨q.cells⟩] (TN n rs) (fun v K=>v=.tuple ⟨[.int .i64 A,.int .i64 0]⟩∧K=TN n (layP rs A q m)):=by
 subst hl
 have e1:cutLo 0=0:=rfl
 have e2:cutHi rs 0 man=man:=by unfold cutHi; omega
 have:=map_ok rs 0 man (by omega) q hn hr A m hqm hm1 hm2 (by rw [e1,e2]; exact hp)
 have hl2:=layP_length (rs:=rs) (a:=A) (m:=m) (r:=q) hA hm1
 unfold TL at this
 rw [hl2] at this
 exact this
theorem tUnmap_ok (n:Nat) (rs:PRows) (hl:rs.length=n) (hn:n≤256) (a m:Nat) (h:firstP (pAt rs a)=true) (hm:(pAt rs a).run=m) (hle:a+m≤n):Tr Tryz.prog 66 [ptr 0,.int .i64 a] (TN n rs) (fun v K=>v=.int .i64 0∧K=TN n (clearP rs a m)):=by
 subst hl
 have:=unmap_ok rs hn a m h hm hle
 have hl2:=clearP_length (rs:=rs) (a:=a) (m:=m) hle
 unfold TL at this
 rw [hl2] at this
 exact this
theorem placeP_free {rs:PRows} {n:Int} {f:Nat} {A:Nat} (h:placeP rs n f 0 0=some (A:Int)) (hn:1≤n):A+n.toNat≤f∧∀ i:Nat,A≤i→(i:Int)<A+n→rs.getD i PRow.Z=PRow.Z:=by
 have key:∀ (f k:Nat) (c:Int) (A:Nat),0≤c→c≤k→(∀ i:Nat,(k:Int)-c≤i→i<k→rs.getD i PRow.Z=PRow.Z)→placeP rs n f k c=some (A:Int)→A+n.toNat≤k+f∧∀ i:Nat,A≤i→(i:Int)<A+n→rs.getD i PRow.Z=PRow.Z:=by
  intro f
  induction f with
  | zero=>intro k c A _ _ _ h; cases h
  | succ f ih =>
   intro k c A h1 h2 h3 h4
   simp only [placeP] at h4
   by_cases hz:freeP (rs.getD k PRow.Z)=true
   ·rw [if_pos hz] at h4
    have hz':rs.getD k PRow.Z=PRow.Z:=by simpa [freeP] using hz
    have h3':∀ i:Nat,((k+1:Nat):Int)-(c+1)≤i→i<k+1→rs.getD i PRow.Z=PRow.Z:=fun i h5 h6=>by
     by_cases e:i=k
     ·subst e; exact hz'
     ·exact h3 i (by omega) (by omega)
    split at h4
    ·rename_i hn2
     have hA:(A:Int)=k-n+1:=by have:=Option.some.inj h4; omega
     exact ⟨by omega,fun i h5 h6=>h3' i (by omega) (by omega)⟩
    ·obtain ⟨h5,h6⟩:=ih (k+1) (c+1) A (by omega) (by omega) h3' h4
     exact ⟨by omega,h6⟩
   ·rw [if_neg hz] at h4
    split at h4
    ·omega
    ·obtain ⟨h5,h6⟩:=ih (k+1) 0 A (by omega) (by omega) (fun i h5 h6=>by omega) h4
     exact ⟨by omega,h6⟩
 have:=key f 0 0 A (by omega) (by omega) (fun i h5 h6=>by omega) h
 exact ⟨by omega,this.2⟩
theorem row_free {r:PR} (ok:r.Ok) {p:Nat} (hp:p<r.man+r.mgd) (h:r.rs.getD p PRow.Z=PRow.Z):sfind r.sl p=none∧gin r.G p=none:=by
 have h1:=ok.row p hp
 rw [List.getD_eq_getElem?_getD,h1] at h
 have h:rowP r.sl r.G p=PRow.Z:=h
 unfold rowP at h
 cases hs:sfind r.sl p with
 | some x=>rw [hs] at h; exact absurd (congrArg PRow.kind h) (by show ¬ (1:Int)=0; decide)
 | none =>
  rw [hs] at h
  refine ⟨rfl,?_⟩
  cases hg:gin r.G p with
  | none=>rfl
  | some b =>
   rw [hg] at h
   simp only at h
   split at h
   ·exact absurd (congrArg PRow.kind h) (by show ¬ (2:Int)=0; decide)
   ·exact absurd (congrArg PRow.kind h) (by show ¬ (3:Int)=0; decide)
theorem pgOpen_arg (r:PR) (c ow:Int) (h:sizeC c=0∨ow<0∨64≤ow):Tr Tryz.prog 38 [ptr 0,.int .i64 c,.int .i64 ow] (RPL r) (fun v K=>v=.tuple ⟨[.int .i64 0,.int .i64 1]⟩∧K=RPL r):=by
 have hZ:=Size_tr c
 have hz:0≤sizeC c∧sizeC c≤128:=by unfold sizeC; (repeat' split) <;> omega
 generalize sizeC c=z at *
 refine Tr.of row_region_Region_Open_ok rfl ?_
 repeat' (first|refine qN ?_|refine dN ?_|refine qB ?_|refine rT ?_|refine qT ?_|refine qU ?_|refine qL ?_|refine iF (fun h=>?_) (fun h=>?_)|refine cP [] (hZ) ?_|refine sP 18 (fun h=>?_) (fun h=>?_)|refine sP 22 (fun h=>?_) (fun h=>?_)|refine qS ?_|exact ⟨rfl,rfl⟩|fail)
 all_goals (exfalso; omega)
theorem pgOpen_full (r:PR) (ok:r.Ok) (c ow:Int) (hc:sizeC c≠0) (how:0≤ow∧ow<64) (hp:placeP r.rs 1 r.man 0 0=none):Tr Tryz.prog 38 [ptr 0,.int .i64 c,.int .i64 ow] (RPL r) (fun v K=>v=.tuple ⟨[.int .i64 0,.int .i64 5]⟩∧K=RPL r):=by
 have hZ:=Size_tr c
 have hz:0≤sizeC c∧sizeC c≤128:=by unfold sizeC; (repeat' split) <;> omega
 have hM:=tMap_full (r.man+r.mgd) r.rs ok.rl ok.n2 r.man (by omega) (srow c ow) rfl ⟨by show (1:Int)≤1; decide,by show (1:Int)≤256; decide⟩ hp
 generalize sizeC c=z at *
 refine Tr.of row_region_Region_Open_ok rfl ?_
 repeat' (first|refine qN ?_|refine dN ?_|refine qB ?_|refine rT ?_|refine qT ?_|refine qU ?_|refine qL ?_|refine iF (fun h=>?_) (fun h=>?_)|refine cP [] (hZ) ?_|refine cP [1,2] (hM) ?_|refine sP 18 (fun h=>?_) (fun h=>?_)|refine sP 22 (fun h=>?_) (fun h=>?_)|refine qS ?_|exact ⟨rfl,rfl⟩|fail)
 all_goals (exfalso; omega)
set_option maxHeartbeats 1000000 in
theorem pgOpen_ok (r:PR) (ok:r.Ok) (c ow:Int) (hc:Cls c (zC c) (nC c)) (how:0≤ow∧ow<64) (A:Nat) (hp:placeP r.rs 1 r.man 0 0=some (A:Int)) :
  Tr Tryz.prog 38 [ptr 0,.int .i64 c,.int .i64 ow] (RPL r) (fun v K=>∃ x:SE,(x.t=newPS r.key r.bs A c ow (zC c) (nC c) (nC c)∧x.bn=r.mc)∧v=.tuple ⟨[.int .i64 A,.int .i64 0]⟩∧K=RPL (r.opened A c ow x)):=by
 obtain ⟨hA,hfr⟩:=placeP_free hp (by decide)
 have hA:A+1≤r.man:=hA
 have hn:=ok.n2
 have hf:=(row_free ok (by omega) (hfr A (Nat.le_refl _) (by omega))).1
 have hz:=hc.bd
 have hZ:=Size_tr c
 rw [hc.size] at hZ
 have hM:=tMap_ok (r.man+r.mgd) r.rs ok.rl ok.n2 r.man (by omega) (srow c ow) rfl A 1 rfl (by decide) (by decide) (by omega) hp
 have hN:r.N=256*(r.man+r.mgd):=rfl
 have hK:=slabMake r.a r.b r.key r.N r.bs ok.bl (by omega) hc A ow (by omega) r.sl r.mc
 refine Tr.of row_region_Region_Open_ok rfl ?_
 repeat' (first|refine qN ?_|refine dN ?_|refine qB ?_|refine rT ?_|refine qT ?_|refine qU ?_|refine qL ?_|refine iF (fun h=>?_) (fun h=>?_)|refine cP [] (hZ) ?_|(refine cF [1,2] (hM) ?_; conv=>whnf)|refine sP 18 (fun h=>?_) (fun h=>?_)|refine sP 22 (fun h=>?_) (fun h=>?_)|refine qS ?_|fail)
 all_goals try (exfalso; omega)
 refine cX (ι:=SE) (C:=fun x=>x.t=newPS r.key r.bs A c ow (zC c) (nC c) (nC c)∧x.bn=r.mc) (V:=fun x=>.tuple ⟨[adR x.e0 0,.int .i64 0]⟩) (B:=fun x=>[crowdS r.a r.key (r.sl++[x]),box [r.a,r.b] (AN r.N (madeP r.key r.bs A (zC c) (nC c) (nC c)).1)]) [4,5] hK (fun x hx=>?_)
 conv=>whnf
 have hpf:pfind (peS r.sl) A=none:=by rw [pfind_pe,hf]; rfl
 have hE:peS (r.sl++[x])=peS r.sl++[(⟨A,x.e0,r.mc⟩:PE)]:=by
  unfold peS
  rw [List.map_append,List.map_cons,hx.1,hx.2]; rfl
 repeat' (first|refine qN ?_|refine dN ?_|refine qU ?_|refine qL ?_|refine qS ?_|fail)
 first|refine L_rs ?_|refine L_reg ?_ | skip
 refine eE rfl rfl (EW.pput (r0:=x.e0) rfl mT_s kT_s rfl rfl rfl rfl hpf) ?_
 conv=>whnf
 repeat' (first|refine qN ?_|refine dN ?_|fail)
 refine L_ret (RetQ.pick [0,1,2,3,4,5,6] rfl rfl rfl rfl ⟨x,hx,rfl,?_⟩)
 unfold RPL
 simp only [PR.opened]
 rw [hE]
 rfl
theorem pgShut_none (r:PR) (p:Int) (h:sfind r.sl p=none):Tr Tryz.prog 17 [ptr 0,.int .i64 p] (RPL r) (fun v K=>v=.int .i64 6∧K=RPL r):=by
 have hS:=pgSlab_no r h
 refine Tr.of row_region_Region_Shut_ok rfl ?_
 repeat' (first|refine qN ?_|refine dN ?_|refine qB ?_|refine rT ?_|refine qT ?_|refine qU ?_|refine qL ?_|(refine cF [0,1,2,3,4,5,6] (hS) ?_; conv=>whnf)|refine qS ?_|exact ⟨rfl,rfl⟩|fail)
theorem pgShut_no (r:PR) (ok:r.Ok) (i:Nat) (x:SE) (hi:r.sl[i]?=some x) (h:0<cntS x.t 1 (nC x.t.c)+cntS x.t 2 (nC x.t.c)):Tr Tryz.prog 17 [ptr 0,.int .i64 x.t.pg] (RPL r) (fun v K=>v=.int .i64 8∧K=RPL r):=by
 have hm:=List.mem_of_getElem? hi
 have hx:=ok.sok x hm
 have hb:=hx.cls.bd
 have hS:=pgSlab_at r (sfind_mem ok.sap hm)
 have ht:x.t.Ok r.N _ _:=hx.t ok.n2
 have c1:=cntS_le x.t 1 (nC x.t.c)
 have c2:=cntS_le x.t 2 (nC x.t.c)
 have h1:=slabK r.a r.b r.key r.N r.bs r.sl i x hi plain_int (plain1 plain_int) (sCount_tr r.key r.N r.bs x.t ht 1)
 have h2:=slabK r.a r.b r.key r.N r.bs r.sl i x hi plain_int (plain1 plain_int) (sCount_tr r.key r.N r.bs x.t ht 2)
 refine Tr.of row_region_Region_Shut_ok rfl ?_
 repeat' (first|refine qN ?_|refine dN ?_|refine qB ?_|refine rT ?_|refine qU ?_|refine qL ?_|refine iF (fun h=>?_) (fun h=>?_)|(refine cF [0,1,2,3,4,5,6] (hS) ?_; conv=>whnf)|refine cP [4,5] (h1) ?_|refine cP [4,5] (h2) ?_|refine aA ?_|refine qS ?_|exact ⟨rfl,rfl⟩|fail)
 all_goals (exfalso; omega)
theorem pgShut_ok (r:PR) (ok:r.Ok) (i:Nat) (x:SE) (hi:r.sl[i]?=some x) (h:cntS x.t 1 (nC x.t.c)+cntS x.t 2 (nC x.t.c)=0):Tr Tryz.prog 17 [ptr 0,.int .i64 x.t.pg] (RPL r) (fun v K=>v=.int .i64 0∧K=RPL (r.shut x.t.pg)):=by
 have hm:=List.mem_of_getElem? hi
 have hx:=ok.sok x hm
 have hp:=hx.pg
 have hn:=ok.n2
 have hb:=hx.cls.bd
 have hf:=sfind_mem ok.sap hm
 have hS:=pgSlab_at r hf
 have ht:x.t.Ok r.N _ _:=hx.t ok.n2
 have h1:=slabK r.a r.b r.key r.N r.bs r.sl i x hi plain_int (plain1 plain_int) (sCount_tr r.key r.N r.bs x.t ht 1)
 have h2:=slabK r.a r.b r.key r.N r.bs r.sl i x hi plain_int (plain1 plain_int) (sCount_tr r.key r.N r.bs x.t ht 2)
 rw [show cntS x.t 1 (nC x.t.c)=0 by omega] at h1
 rw [show cntS x.t 2 (nC x.t.c)=0 by omega] at h2
 have hrow:pAt r.rs x.t.pg=⟨1,x.t.c,x.t.ow,1⟩:=by
  rw [pAt_row ok (by omega)]; unfold rowP; rw [hf]
 have hU:=tUnmap_ok (r.man+r.mgd) r.rs ok.rl hn x.t.pg 1 (by rw [hrow]; rfl) (by rw [hrow]; rfl) (by omega)
 refine TrK.post (R:=fun v K=>v=.int .i64 0∧K=[.cells 0 [.int .i64 r.man,.int .i64 r.mgd,.int .u64 (r.seed.toNat:Int),adR r.a 0,ptr 1,.int .u64 (r.key.toNat:Int),.map (some 3),adR r.g0 0],
 .cells 0 [slB 2 (r.man+r.mgd)],.gro 4 (rowsC PRow.cells (clearP r.rs x.t.pg 1)),pB r.m0 (pdel (peS r.sl) x.t.pg) r.mc,crowdS r.a r.key r.sl,box [r.a,r.b] (AN r.N r.bs),crowdG r.a r.key r.g0 r.g1 r.G r.gc]) ?_ ?_
 ·refine Tr.of row_region_Region_Shut_ok rfl ?_
  repeat' (first|refine qN ?_|refine dN ?_|refine qB ?_|refine qU ?_|refine qL ?_|(refine cF [0,1,2,3,4,5,6] (hS) ?_; conv=>whnf)|refine cP [4,5] (h1) ?_|refine cP [4,5] (h2) ?_|refine aA ?_|refine qS ?_|fail)
  first|refine L_rs ?_|refine L_reg ?_ | skip
  refine eE rfl rfl (EW.pdel rfl mT_s kT_s rfl rfl rfl) ?_
  conv=>whnf
  repeat' (first|refine qN ?_|refine dN ?_|refine rT ?_|(refine cF [1,2] (hU) ?_; conv=>whnf)|exact ⟨rfl,rfl⟩|fail)
 ·rintro v K ⟨rfl,rfl⟩
  rw [peS_del]
  refine ⟨_,More.less (b:=4) (ms:=r.sl.map fun x=>memS x r.a r.key) (ms':=(r.sl.filter fun y => !decide ((y.t.pg:Int)=x.t.pg)).map fun x=>memS x r.a r.key) rfl (List.filter_sublist.map _),rfl,rfl⟩
theorem pgGreat_arg (r:PR) (n:Int) (hn:greatC n=false):Tr Tryz.prog 45 [ptr 0,.int .i64 n] (RPL r) (fun v K=>v=.tuple ⟨[.int .i64 0,.int .i64 1]⟩∧K=RPL r):=by
 have hP:=Pages_tr n
 rw [hn] at hP
 refine Tr.of row_region_Region_Great_ok rfl ?_
 repeat' (first|refine qN ?_|refine dN ?_|refine rT ?_|refine qT ?_|refine qU ?_|refine qL ?_|refine cP [] (hP) ?_|refine qS ?_|exact ⟨rfl,rfl⟩|fail)
theorem pgGreat_full (r:PR) (ok:r.Ok) (n:Int) (hn:greatC n=true) (hp:placeP r.rs (pagesC n) r.man 0 0=none):Tr Tryz.prog 45 [ptr 0,.int .i64 n] (RPL r) (fun v K=>v=.tuple ⟨[.int .i64 0,.int .i64 5]⟩∧K=RPL r):=by
 have hP:=Pages_tr n
 rw [hn] at hP
 obtain ⟨M,hM,hM1,hM17⟩:=greatC_pages hn
 rw [hM] at hP hp
 have hF:=tMap_full (r.man+r.mgd) r.rs ok.rl ok.n2 r.man (by omega) (lrow M) rfl ⟨by show (1:Int)≤M; omega,by show (M:Int)≤256; omega⟩ hp
 refine Tr.of row_region_Region_Great_ok rfl ?_
 repeat' (first|refine qN ?_|refine dN ?_|refine rT ?_|refine qT ?_|refine qU ?_|refine qL ?_|refine cP [] (hP) ?_|refine cP [1,2] (hF) ?_|refine qS ?_|exact ⟨rfl,rfl⟩|fail)
theorem small_of {r:PR} (ok:r.Ok):Small r.G 256:=fun x hx=>by
 have h:=ok.gok x hx
 have:=h.lo
 have:=h.hi
 have:=ok.n2
 exact ⟨h.lo,h.gr,by omega⟩
theorem meets_free {r:PR} {A M:Nat} (h:∀ i:Nat,A≤i→i<A+M→gin r.G i=none) (ok:r.Ok) (hM:1≤M):meetsG r.G A M=false:=by
 rw [meetsG,List.any_eq_false]
 intro b hb
 have hg:=ok.gok b hb
 have hlo:=hg.lo
 simp only [decide_eq_true_eq,not_and]
 intro h1 h2
 obtain ⟨g,hg0⟩:=Int.eq_ofNat_of_zero_le hlo
 obtain ⟨M2,hM2,hM21,_⟩:=greatC_pages hg.gr
 by_cases hc:A≤g
 ·exact gin_none (h g hc (by omega)) b hb ⟨by omega,by omega⟩
 ·exact gin_none (h A (Nat.le_refl _) (by omega)) b hb ⟨by omega,by omega⟩
set_option maxHeartbeats 1000000 in
theorem pgGreat_ok (r:PR) (ok:r.Ok) (n:Int) (hn:greatC n=true) (A M:Nat) (hM:pagesC n=M) (hp:placeP r.rs M r.man 0 0=some (A:Int)):Tr Tryz.prog 45 [ptr 0,.int .i64 n] (RPL r) (fun v K=>v=.tuple ⟨[.int .i64 (256*A:Nat),.int .i64 0]⟩∧K=RPL (madeR r A M n)):=by
 have hP:=Pages_tr n
 rw [hn,hM] at hP
 obtain ⟨M',hM',hM1,hM17⟩:=greatC_pages hn
 obtain rfl:M'=M:=by omega
 obtain ⟨hA,hfr⟩:=placeP_free hp (by omega)
 have hn2:=ok.n2
 have hN:r.N=256*(r.man+r.mgd):=rfl
 have hbl:=ok.bl
 have hF:=tMap_ok (r.man+r.mgd) r.rs ok.rl hn2 r.man (by omega) (lrow M') rfl A M' rfl hM1 (by omega) (by omega) hp
 have hfree:=meets_free (A:=A) (M:=M') (fun i h1 h2=>(row_free ok (by omega) (hfr i h1 (by omega))).2) ok hM1
 have hl2:=madeB_length (key:=r.key) (bs:=r.bs) (p:=A) (M:=M') (by omega) hM1
 have hL:=largeL r.a r.b r.g0 r.g1 r.key r.N r.bs _ ok.bl (by rw [hl2,ok.bl]) r.G _ r.gc _ plain_int (plain2 plain_int plain_int) rfl rfl (largeMake_ok r.key r.bs (r.man+r.mgd) (by rw [ok.bl]; rfl) hn2 r.G r.gc (small_of ok) ok.gg A M' n hn hM (by omega) hfree)
 refine Tr.of row_region_Region_Great_ok rfl ?_
 repeat' (first|refine qN ?_|refine dN ?_|refine rT ?_|refine qU ?_|refine qL ?_|refine cP [] (hP) ?_|(refine cF [1,2] (hF) ?_; conv=>whnf)|(refine cF [6,5] (hL) ?_; conv=>whnf)|refine S_Q [] rfl rfl (QY.mul (c:=((256*A:Nat):Int)) rfl rfl (by omega) (by omega) (by omega)) ?_|refine qS ?_|exact ⟨rfl,rfl⟩|fail)
set_option maxHeartbeats 1000000 in
theorem pgDrop_great (r:PR) (ok:r.Ok) (b:Int × Int × Nat) (hb:b∈r.G) (g M:Nat) (hg:b.1=g) (hM:pagesC b.2.1=M):Tr Tryz.prog 15 [ptr 0,.int .i64 (256*b.1)] (RPL r) (fun v K=>v=.tuple ⟨[.bool (decide (wordB r.bs (256*(g+M)-8)=canW r.key (256*g))),.int .i64 0]⟩∧K=RPL (r.lost g M)):=by
 have hB:=pgBase_at r ok _ _ (ok.base_great hb)
 simp only [Pl.cells,placeG] at hB
 have hgk:=ok.gok b hb
 have hhi:=hgk.hi
 obtain ⟨M',hM',hM1,hM17⟩:=greatC_pages hgk.gr
 obtain rfl:M'=M:=by omega
 have hn2:=ok.n2
 have hN:r.N=256*(r.man+r.mgd):=rfl
 have hbl:=ok.bl
 have hl2:(overB r.bs (256*g) (List.replicate (256*M') 0xDD#8)).length=r.bs.length:=overB_length (by rw [List.length_replicate]; omega)
 have hgg:gget r.G g=b.2.1:=by rw [← hg]; exact gget_in ok.gg hb
 have hgh:ghas r.G g=true:=by rw [← hg]; unfold ghas; rw [ok.gg.find hb]; rfl
 have hL:=largeL r.a r.b r.g0 r.g1 r.key r.N r.bs _ ok.bl (by rw [hl2,ok.bl]) r.G _ r.gc _ plain_tupb (plain1 plain_int) rfl rfl (largeDrop_ok r.key r.bs (by omega) r.G r.gc g M' b.2.1 hgh hgg hM hM1 (by omega))
 have hrow:pAt r.rs g=lrow M':=by
  rw [pAt_row ok (by omega)]
  unfold rowP
  rw [ok.sfind_great hb (by omega),gin_mem ok.gap hb (by omega)]
  simp [hM,hg]
 have hU:=tUnmap_ok (r.man+r.mgd) r.rs ok.rl hn2 g M' (by rw [hrow]; rfl) (by rw [hrow]; rfl) (by omega)
 rw [hg] at hB ⊢
 refine Tr.of row_region_Region_Drop_ok rfl ?_
 repeat' (first|refine qN ?_|refine dN ?_|refine rT ?_|refine qT ?_|refine qU ?_|refine qL ?_|refine cP [0,1,2,3,4,5,6] (hB) ?_|(refine cF [6,5] (hL) ?_; conv=>whnf)|(refine cF [1,2] (hU) ?_; conv=>whnf)|refine qR ?_|refine qS ?_|exact ⟨rfl,rfl⟩|fail)
theorem pgArena_tr (r:PR):Tr Tryz.prog 19 [ptr 0] (RPL r) (fun v K=>v=adR r.a 0∧K=RPL r):=by
 refine Tr.of row_region_Region_Arena_ok rfl ?_
 repeat' (first|refine qN ?_|refine dN ?_|refine rT ?_|refine qU ?_|refine qL ?_|refine qS ?_|exact ⟨rfl,rfl⟩|fail)
theorem pgPages_tr (r:PR):Tr Tryz.prog 11 [ptr 0] (RPL r) (fun v K=>v=ptr 1∧K=RPL r):=by
 refine Tr.of row_region_Region_Pages_ok rfl ?_
 repeat' (first|refine qN ?_|refine dN ?_|refine rT ?_|refine qU ?_|refine qL ?_|refine qS ?_|exact ⟨rfl,rfl⟩|fail)
theorem pgConfig_tr (r:PR):Tr Tryz.prog 125 [ptr 0] (RPL r) (fun v K=>v=.agg ⟨[.int .i64 r.man,.int .i64 r.mgd,.int .u64 (r.seed.toNat:Int)]⟩∧K=RPL r):=by
 refine Tr.of row_region_Region_Config_ok rfl ?_
 repeat' (first|refine qN ?_|refine dN ?_|refine rT ?_|refine qU ?_|refine qL ?_|refine qS ?_|exact ⟨rfl,rfl⟩|fail)
end Go.Proofs.YtgfjgfapigekiaaGreat
end
section
namespace Go.Proofs.YtgfjgfapigekiaaGreat
open Go Go.Tum Go.Tum.Base
set_option maxRecDepth 4000
theorem pgLen (r:PR) (ok:r.Ok):Tr Tryz.prog 60 [ptr 0] (TN (r.man+r.mgd) r.rs) (fun v K=>v=.int .i64 (r.man+r.mgd:Nat)∧K=TN (r.man+r.mgd) r.rs):=tLen _ _ ok.rl
def homeV:Option Nat→Value
 | some p=>.tuple ⟨[.int .i64 p,.bool true]⟩
 | none=>.tuple ⟨[.int .i64 0,.bool false]⟩
theorem home_none {r:PR} {c ow:Int} (h:∀ j,j<r.man+r.mgd→homeS r.sl c ow j=false):r.home c ow=none:=by
 unfold PR.home
 rw [List.find?_eq_none]
 intro j hj
 rw [h j (List.mem_range.1 hj)]
 decide
theorem home_at {r:PR} {c ow:Int} {k:Nat} (hk:k<r.man+r.mgd) (h:∀ j,j<k→homeS r.sl c ow j=false) (h1:homeS r.sl c ow k=true):r.home c ow=some k:=by
 unfold PR.home
 rw [List.find?_range_eq_some]
 exact ⟨h1,List.mem_range.2 hk,fun j hj=>by rw [h j hj]; rfl⟩
set_option maxHeartbeats 1000000 in
theorem pgHome_tr (r:PR) (ok:r.Ok) (c ow:Int):Tr Tryz.prog 49 [ptr 0,.int .i64 c,.int .i64 ow] (RPL r) (fun v K=>v=homeV (r.home c ow)∧K=RPL r):=by
 have hn:=ok.n2
 have hP:=pgPages_tr r
 have hL:=pgLen r ok
 refine Tr.of row_region_Region_Home_ok rfl ?_
 repeat' (first|refine qN ?_|refine dN ?_|refine qB ?_|(refine cSame hP ?_)|refine cP [1,2] (hL) ?_|refine qS ?_|fail)
 refine LWp.pick [0,1,2,12,13] [0,1,2,3,4,5,6] rfl rfl rfl (L_loop (fun q l K=>∃ k:Nat,q=r.man+r.mgd-k∧k≤r.man+r.mgd∧(∀ j,j<k→homeS r.sl c ow j=false)∧l=[(0,ptr 0),(1,.int .i64 c),(2,.int .i64 ow),(12,.int .i64 (r.man+r.mgd:Nat)),(13,.int .i64 k)]∧K=RPL r) (r.man+r.mgd) ⟨0,rfl,by omega,by intro j hj; omega,rfl,rfl⟩ ?_)
 rintro q _ _ ⟨k,rfl,hk,hno,rfl,rfl⟩
 first|refine L_seq (L_rs (S_done [] rfl (Nx.goL (iF (fun h=>L_skip (Nx.goL ?_)) (fun h=>L_exit ?_)))))|refine L_rs (S_done [] rfl (Nx.goL (L_seq (iF (fun h=>L_skip (Nx.goL ?_)) (fun h=>L_exit ?_)))))
 ·have hk2:k<r.man+r.mgd:=by omega
  have next:homeS r.sl c ow k=false→∀ j,j<k+1→homeS r.sl c ow j=false:=fun h0 j hj=>by
   by_cases e:j=k
   ·subst e; exact h0
   ·exact hno j (by omega)
  cases hs:sfind r.sl k with
  | none =>
   have hS:=pgSlab_no r hs
   have h0:homeS r.sl c ow k=false:=by unfold homeS; rw [hs]
   repeat' (first|refine qN ?_|refine dN ?_|refine d0 ?_|refine qB ?_|refine qU ?_|refine qL ?_|(refine cSame hS ?_)|refine aA ?_|refine qR ?_|refine qS ?_|fail)
   exact Nx.pick [0,1,2,12,13] [0,1,2,3,4,5,6] rfl rfl rfl ⟨r.man+r.mgd-(k+1),by omega,k+1,rfl,by omega,next h0,rfl,rfl⟩
  | some x =>
   obtain ⟨i,hi,hm,hpg⟩:=sfind_some hs
   have hx:=ok.sok x hm
   have hb:=hx.cls.bd
   have hS:=pgSlab_at r hs
   have ht:x.t.Ok r.N _ _:=hx.t ok.n2
   have hcn:=cntS_le x.t 0 (nC x.t.c)
   have h1:=slabK r.a r.b r.key r.N r.bs r.sl i x hi plain_int plain0 (sClass_tr r.key r.N r.bs (n:=nC x.t.c) x.t)
   have h2:=slabK r.a r.b r.key r.N r.bs r.sl i x hi plain_int plain0 (sOwner_tr r.key r.N r.bs (n:=nC x.t.c) x.t)
   have h3:=slabK r.a r.b r.key r.N r.bs r.sl i x hi plain_int (plain1 plain_int) (sCount_tr r.key r.N r.bs x.t ht 0)
   have e0:homeS r.sl c ow k=decide (x.t.c=c∧x.t.ow=ow∧0<cntS x.t 0 (nC x.t.c)):=by unfold homeS; rw [hs]
   by_cases hh:x.t.c=c∧x.t.ow=ow∧0<cntS x.t 0 (nC x.t.c)
   ·rw [home_at hk2 hno (by rw [e0]; exact decide_eq_true hh)]
    repeat' (first|refine qN ?_|refine dN ?_|refine d0 ?_|refine qB ?_|refine rT ?_|refine qU ?_|refine qL ?_|refine iF (fun h=>?_) (fun h=>?_)|(refine cSame hS ?_)|refine cP [4,5] (h1) ?_|refine cP [4,5] (h2) ?_|refine cP [4,5] (h3) ?_|refine aA ?_|refine sP 27 (fun h=>?_) (fun h=>?_)|refine sP 33 (fun h=>?_) (fun h=>?_)|refine qR ?_|refine qS ?_|exact ⟨rfl,rfl⟩|fail)
    all_goals (exfalso; omega)
   ·have hn:=next (by rw [e0]; exact decide_eq_false hh)
    repeat' (first|refine qN ?_|refine dN ?_|refine d0 ?_|refine qB ?_|refine rT ?_|refine qU ?_|refine qL ?_|refine iF (fun h=>?_) (fun h=>?_)|(refine cSame hS ?_)|refine cP [4,5] (h1) ?_|refine cP [4,5] (h2) ?_|refine cP [4,5] (h3) ?_|refine aA ?_|refine sP 27 (fun h=>?_) (fun h=>?_)|refine sP 33 (fun h=>?_) (fun h=>?_)|refine qR ?_|refine qS ?_|fail)
    all_goals first | (exfalso; omega)|exact Nx.pick [0,1,2,12,13] [0,1,2,3,4,5,6] rfl rfl rfl ⟨r.man+r.mgd-(k+1),by omega,k+1,rfl,by omega,hn,rfl,rfl⟩
 ·obtain rfl:k=r.man+r.mgd:=by omega
  refine Nx.goL ?_
  rw [home_none hno]
  repeat' (first|refine qN ?_|refine dN ?_|refine rT ?_|exact ⟨rfl,rfl⟩|fail)
def PlB (l:List Pl):LB:=.gro 6 (rowsC Pl.cells l)
theorem pageL_some {r:PR} {p:Nat} {x:SE} (h:sfind r.sl p=some x):r.pageL p=liveS x (nC x.t.c):=by unfold PR.pageL; rw [h]; rfl
theorem find_page_some {r:PR} {p:Nat} (hp:p<r.man+r.mgd) {x:SE} (h:sfind r.sl p=some x):r.find (256*(p:Int))=some (placeS x 0):=by
 have hN:r.N=256*(r.man+r.mgd):=rfl
 unfold PR.find
 rw [if_neg (by omega),show 256*(p:Int) / 256=p by omega,h]
 simp only
 rw [show (256*(p:Int)).toNat % 256=0 by omega,Nat.zero_div]
theorem find_page_none {r:PR} {p:Nat} (hp:p<r.man+r.mgd) (h:sfind r.sl p=none):r.find (256*(p:Int))=(gin r.G p).map placeG:=by
 have hN:r.N=256*(r.man+r.mgd):=rfl
 unfold PR.find
 rw [if_neg (by omega),show 256*(p:Int) / 256=p by omega,h]
set_option maxHeartbeats 2000000 in
theorem pgLive_tr (r:PR) (ok:r.Ok):Tr Tryz.prog 14 [ptr 0] (RPL r) (fun v K=>v=.slice (some ⟨7,0,none⟩) r.live.length r.live.length∧K=RPL r++[PlB r.live]):=by
 have hn:=ok.n2
 have hP:=pgPages_tr r
 have hL:=pgLen r ok
 have hFall:=pgFind_tr r ok
 refine Tr.of row_region_Region_Live_ok rfl ?_
 repeat' (first|refine qN ?_|refine dN ?_|refine qB ?_|(refine cSame hP ?_)|refine cP [1,2] (hL) ?_|refine qS ?_|fail)
 refine LWp.nilE 3 6 rfl (LWp.pick [0,3,11,12] [0,1,2,3,4,5,6,7] rfl rfl rfl (L_loop (fun q l K=>∃ k:Nat,q=r.man+r.mgd-k∧k≤r.man+r.mgd∧l=[(0,ptr 0),(3,.slice (some ⟨7,0,none⟩) (r.liveK k).length (r.liveK k).length),(11,.int .i64 (r.man+r.mgd:Nat)),(12,.int .i64 k)]∧K=RPL r++[PlB (r.liveK k)]) (r.man+r.mgd) ⟨0,rfl,by omega,rfl,rfl⟩ ?_))
 rintro q _ _ ⟨k,rfl,hk,rfl,rfl⟩
 first|refine L_seq (L_rs (S_done [] rfl (Nx.goL (iF (fun h=>L_skip (Nx.goL ?_)) (fun h=>L_exit ?_)))))|refine L_rs (S_done [] rfl (Nx.goL (L_seq (iF (fun h=>L_skip (Nx.goL ?_)) (fun h=>L_exit ?_)))))
 ·have hk2:k<r.man+r.mgd:=by omega
  have hlen:=PR.liveK_len ok k
  have hF:=hFall (256*(k:Int))
  cases hs:sfind r.sl k with
  | none =>
   have hS:=pgSlab_no r hs
   rw [find_page_none hk2 hs] at hF
   cases hg:gin r.G k with
   | none =>
    have hpl:r.liveK (k+1)=r.liveK k:=by
     rw [PR.liveK]; unfold PR.pageL; rw [hs]; simp only; rw [hg]; simp
    rw [hg] at hF
    change Tr Tryz.prog _ _ _ (fun v K=>v=.tuple ⟨[.agg ⟨Pl.Z.cells⟩,.bool false]⟩∧K=RPL r) at hF
    repeat' (first|refine qN ?_|refine dN ?_|refine d0 ?_|refine qB ?_|refine qU ?_|refine qL ?_|(refine cF [0,1,2,3,4,5,6] (hS) ?_; conv=>whnf)|refine cP [0,1,2,3,4,5,6] (hF) ?_|refine aA ?_|refine aM ?_|refine qR ?_|refine qS ?_|fail)
    exact Nx.pick [0,3,11,12] [0,1,2,3,4,5,6,7] rfl rfl rfl ⟨r.man+r.mgd-(k+1),by omega,k+1,rfl,by omega,by rw [hpl]; rfl,by rw [hpl]; rfl⟩
   | some b =>
    rw [hg] at hF
    change Tr Tryz.prog _ _ _ (fun v K=>v=.tuple ⟨[.agg ⟨[.int .i64 b.1,.int .i64 0,.int .i64 (256*b.1),.int .i64 b.2.1,.int .i64 1,.bool true]⟩,.bool true]⟩∧K=RPL r) at hF
    by_cases hbk:b.1=k
    ·have hpl:r.liveK (k+1)=r.liveK k++[placeG b]:=by
      rw [PR.liveK]; unfold PR.pageL; rw [hs]; simp only; rw [hg]; simp [hbk]
     repeat' (first|refine qN ?_|refine dN ?_|refine d0 ?_|refine qB ?_|refine qU ?_|refine qL ?_|refine iF (fun h=>?_) (fun h=>?_)|(refine cF [0,1,2,3,4,5,6] (hS) ?_; conv=>whnf)|refine cP [0,1,2,3,4,5,6] (hF) ?_|refine aA ?_|refine aM ?_|refine qR ?_|refine qS ?_|fail)
     ·first|refine L_rs ?_|refine L_reg ?_ | skip
      refine eE rfl rfl (EW.appR1 (bytes:=48) (a:=placeG b) Pl.ok rfl (by kernel_rfl) rfl rfl rfl rfl rfl (by omega)) ?_
      conv=>whnf
      repeat' (first|refine dN ?_|refine d0 ?_|refine aA ?_|refine qR ?_|fail)
      exact Nx.pick [0,3,11,12] [0,1,2,3,4,5,6,10] rfl rfl rfl ⟨r.man+r.mgd-(k+1),by omega,k+1,rfl,by omega,by rw [hpl,List.length_append]; rfl,by rw [hpl]; rfl⟩
     all_goals (exfalso; omega)
    ·have hpl:r.liveK (k+1)=r.liveK k:=by
      rw [PR.liveK]; unfold PR.pageL; rw [hs]; simp only; rw [hg]; simp [hbk]
     repeat' (first|refine qN ?_|refine dN ?_|refine d0 ?_|refine qB ?_|refine qU ?_|refine qL ?_|refine iF (fun h=>?_) (fun h=>?_)|(refine cF [0,1,2,3,4,5,6] (hS) ?_; conv=>whnf)|refine cP [0,1,2,3,4,5,6] (hF) ?_|refine aA ?_|refine aM ?_|refine qR ?_|refine qS ?_|fail)
     all_goals first | (exfalso; omega)|exact Nx.pick [0,3,11,12] [0,1,2,3,4,5,6,7] rfl rfl rfl ⟨r.man+r.mgd-(k+1),by omega,k+1,rfl,by omega,by rw [hpl]; rfl,by rw [hpl]; rfl⟩
  | some x =>
   obtain ⟨i,hi,hm,hpg⟩:=sfind_some hs
   have hx:=ok.sok x hm
   have hb:=hx.cls.bd
   have hS:=pgSlab_at r hs
   have ht:x.t.Ok r.N _ _:=hx.t ok.n2
   have h1:=slabK r.a r.b r.key r.N r.bs r.sl i x hi plain_int plain0 (sClass_tr r.key r.N r.bs (n:=nC x.t.c) x.t)
   have h2:=Slots_tr x.t.c
   rw [hx.cls.slots] at h2
   have hStA:=fun j:Nat=>slabK r.a r.b r.key r.N r.bs r.sl i x hi plain_int (plain1 plain_int) (sState_tr r.key r.N r.bs x.t ht j)
   have hPlA:=pgPlace_tr r ok i x hi
   rw [find_page_some hk2 hs] at hF
   change Tr Tryz.prog _ _ _ (fun v K=>v=.tuple ⟨[.agg ⟨[.int .i64 x.t.pg,.int .i64 (0:Nat),.int .i64 (baseN x.t.pg (zC x.t.c) 0),.int .i64 ((zC x.t.c:Int)-8),.int .i64 (x.t.st 0),.bool false]⟩,.bool true]⟩∧K=RPL r) at hF
   have hpl:r.liveK (k+1)=r.liveK k++liveS x (nC x.t.c):=by rw [PR.liveK,pageL_some hs]
   repeat' (first|refine qN ?_|refine dN ?_|refine qB ?_|refine qT ?_|(refine cF [0,1,2,3,4,5,6] (hS) ?_; conv=>whnf)|refine cP [4,5] (h1) ?_|refine cP [] (h2) ?_|refine qS ?_|fail)
   refine LWp.pick [0,3,4,5,11,12,22,23] [0,1,2,3,4,5,6,7] rfl rfl rfl (L_loop (fun q l K=>∃ j:Nat,q=nC x.t.c-j∧j≤nC x.t.c∧l=[(0,ptr 0),(3,.slice (some ⟨7,0,none⟩) (r.liveK k++liveS x j).length (r.liveK k++liveS x j).length),(4,.int .i64 k),(5,adR x.e0 0),(11,.int .i64 (r.man+r.mgd:Nat)),(12,.int .i64 k),(22,.int .i64 (nC x.t.c)),(23,.int .i64 j)]∧K=RPL r++[PlB (r.liveK k++liveS x j)]) (nC x.t.c) ⟨0,rfl,by omega,by rw [show liveS x 0=[] from rfl,List.append_nil]; rfl,by rw [show liveS x 0=[] from rfl,List.append_nil]; rfl⟩ ?_)
   rintro q _ _ ⟨j,rfl,hj,rfl,rfl⟩
   first|refine L_seq (L_rs (S_done [] rfl (Nx.goL (iF (fun h=>L_skip (Nx.goL ?_)) (fun h=>L_exit ?_)))))|refine L_rs (S_done [] rfl (Nx.goL (L_seq (iF (fun h=>L_skip (Nx.goL ?_)) (fun h=>L_exit ?_)))))
   ·have hj2:j<nC x.t.c:=by omega
    have hSt:=hStA j
    rw [stI_at x.t hj2] at hSt
    have hPl:=hPlA j hj2
    have hll:=liveS_len x j
    have hsu:=liveS_succ x j
    by_cases e:x.t.st j=1
    ·rw [if_pos e] at hsu
     repeat' (first|refine qN ?_|refine dN ?_|refine d0 ?_|refine qB ?_|refine qL ?_|refine iF (fun h=>?_) (fun h=>?_)|refine cP [4,5] (hSt) ?_|refine cP [0,1,2,3,4,5,6] (hPl) ?_|refine aA ?_|refine qR ?_|refine qS ?_|fail)
     ·first|refine L_rs ?_|refine L_reg ?_ | skip
      refine eE rfl rfl (EW.appR1 (bytes:=48) (a:=placeS x j) Pl.ok rfl (by kernel_rfl) rfl rfl rfl rfl rfl (by rw [List.length_append]; omega)) ?_
      conv=>whnf
      repeat' (first|refine dN ?_|refine d0 ?_|refine aA ?_|refine qR ?_|fail)
      exact Nx.pick [0,3,4,5,11,12,22,23] [0,1,2,3,4,5,6,9] rfl rfl rfl ⟨nC x.t.c-(j+1),by omega,j+1,rfl,by omega,by rw [hsu,← List.append_assoc,List.length_append (bs:=[placeS x j])]; rfl,by rw [hsu,← List.append_assoc]; rfl⟩
     all_goals (exfalso; omega)
    ·rw [if_neg e,List.append_nil] at hsu
     repeat' (first|refine qN ?_|refine dN ?_|refine d0 ?_|refine qB ?_|refine qL ?_|refine iF (fun h=>?_) (fun h=>?_)|refine cP [4,5] (hSt) ?_|refine aA ?_|refine qR ?_|refine qS ?_|fail)
     all_goals first | (exfalso; omega)|exact Nx.pick [0,3,4,5,11,12,22,23] [0,1,2,3,4,5,6,7] rfl rfl rfl ⟨nC x.t.c-(j+1),by omega,j+1,rfl,by omega,by rw [hsu]; rfl,by rw [hsu]; rfl⟩
   ·obtain rfl:j=nC x.t.c:=by omega
    refine Nx.goL ?_
    rw [← hpl]
    repeat' (first|refine qN ?_|refine dN ?_|refine d0 ?_|refine qU ?_|refine qL ?_|refine cP [0,1,2,3,4,5,6] (hF) ?_|refine aA ?_|refine aM ?_|refine qR ?_|fail)
    exact Nx.pick [0,3,11,12] [0,1,2,3,4,5,6,7] rfl rfl rfl ⟨r.man+r.mgd-(k+1),by omega,k+1,rfl,by omega,rfl,rfl⟩
 ·obtain rfl:k=r.man+r.mgd:=by omega
  refine Nx.goL ?_
  repeat' (first|refine qN ?_|refine dN ?_|fail)
  exact L_ret (RetQ.pick [0,1,2,3,4,5,6,7] rfl rfl rfl rfl ⟨rfl,rfl⟩)
end Go.Proofs.YtgfjgfapigekiaaGreat
end
section
namespace Go.Proofs.YtgfjgfapigekiaaGreat
open Go Go.Tum Go.Tum.Base
set_option maxRecDepth 4000
def RL0 (man mgd:Int) (seed:BitVec 64) (N:Nat) (bs:Bytes) (n:Nat) (rs:PRows):LH :=
 [.cells 0 [.int .i64 man,.int .i64 mgd,.int .u64 (seed.toNat:Int),ptr 1,ptr 3,.int .u64 ((keyW seed).toNat:Int),.map (some 5),ptr 6],
  .cells 0 [slB 2 N],BL bs,.cells 0 [slB 4 n],.gro 4 (rowsC PRow.cells rs),.imap [] 0,
  .cells 0 [ptr 1,.int .u64 ((keyW seed).toNat:Int),.map (some 7)],.imap [] 0]
def newR (m g:Nat) (seed:BitVec 64) (a b g0 g1:RA) (m0:Nat):PR:=⟨m,g,seed,a,b,g0,g1,m0,0,List.replicate (m+g) PRow.Z,List.replicate (256*(m+g)) 0,[],[],0⟩
theorem newR_ok {m g:Nat} {seed:BitVec 64} {a b g0 g1:RA} {m0:Nat} (h1:1≤m+g) (h2:m+g≤256):(newR m g seed a b g0 g1 m0).Ok :=
 ⟨h1,h2,by simp [newR],by simp [newR,PR.N],by simp [newR],by simp [newR],by simp [newR],⟨by simp [newR],by simp [newR],by simp [newR]⟩,by simp [newR],by simp [newR],fun p hp=>by
  show (List.replicate (m+g) PRow.Z)[p]?=some (rowP [] [] p)
  have hp:p<m+g:=hp
  rw [List.getElem?_replicate,if_pos hp]; rfl⟩
set_option maxHeartbeats 1000000 in
theorem pgNew0_tr (m g:Nat) (seed:BitVec 64) (h1:m+g≤256) (h2:1≤m+g):Tr Tryz.prog 35 [.agg ⟨[.int .i64 m,.int .i64 g,.int .u64 (seed.toNat:Int)]⟩] [] (fun v K=>v=.tuple ⟨[ptr 0,.int .i64 0]⟩∧K=RL0 m g seed (256*(m+g)) (List.replicate (256*(m+g)) 0) (m+g) (List.replicate (m+g) PRow.Z)):=by
 have hA:=arenaNew_tr ((m+g:Nat):Int) (256*(m+g)) (by omega)
 have hK:=linkNew_tr seed
 have hP:=pagesNew_tr ((m+g:Nat):Int) (m+g) (by omega)
 have hG:=largeNew_tr (List.replicate (256*(m+g)) 0) (keyW seed)
 simp only [AL,List.length_replicate,TL] at hA hP hG
 refine Tr.of row_region_New_ok rfl ?_
 repeat' (first|refine qN ?_|refine dN ?_|refine qT ?_|refine qL ?_|refine iF (fun h=>?_) (fun h=>?_)|refine S_Q [] rfl rfl (QY.add (c:=((m+g:Nat):Int)) rfl rfl (by omega) (by omega) (by omega)) ?_|(refine cF [] (hA) ?_; conv=>whnf)|refine cP [] (hK) ?_|(refine cF [] (hP) ?_; conv=>whnf)|(refine cF [1,2] (hG) ?_; conv=>whnf)|(refine S_E [] rfl rfl (esafe_ok rfl) ?_; rintro _ _ ⟨rfl,rfl⟩; refine ⟨(by repeat' (first|exact trivial|refine ⟨⟨qsafe_ok (st:=[]) rfl,Sure.of rfl⟩,?_⟩|fail)),LSt.nf ?_⟩; conv=>whnf)|(refine S_E [] rfl rfl (EW.imake rfl) ?_; rintro _ _ ⟨rfl,rfl⟩; refine ⟨(by repeat' (first|exact trivial|refine ⟨⟨qsafe_ok (st:=[]) rfl,Sure.of rfl⟩,?_⟩|fail)),LSt.nf ?_⟩; conv=>whnf)|refine L_rT ?_|refine P_lin rfl ?_|refine P_A [] rfl ?_ ?_|refine P_Q [] rfl rfl (QY.add (c:=((m+g:Nat):Int)) rfl rfl (by omega) (by omega) (by omega)) ?_|(refine P_E [] rfl rfl (EW.callF [] (hP) rfl rfl (by decide) (by repeat' (first|exact trivial|fail)) rfl rfl) ?_; rintro _ _ ⟨rfl,rfl⟩; refine ⟨(by repeat' (first|exact trivial|refine ⟨⟨qsafe_ok (st:=[]) rfl,Sure.of rfl⟩,?_⟩|fail)),LPt.nf ?_⟩; conv=>whnf)|refine aS ?_|refine sP 9 (fun h=>?_) (fun h=>?_)|refine sP 14 (fun h=>?_) (fun h=>?_)|refine sP 19 (fun h=>?_) (fun h=>?_)|refine sP 27 (fun h=>?_) (fun h=>?_)|refine qS ?_|fail)
 all_goals try (exfalso; omega)
 ·exact L_ret (RetQ.pick [9,1,2,4,5,6,7,8] rfl rfl rfl rfl ⟨rfl,rfl⟩)
 ·exact L_ret (RetQ.pick [9,1,2,4,5,8,6,7] rfl rfl rfl rfl ⟨rfl,rfl⟩)
 ·exact L_ret (RetQ.pick [9,1,2,5,6,4,7,8] rfl rfl rfl rfl ⟨rfl,rfl⟩)
theorem emb8 {e:Emb} (h:e.length=8):∃ a b c d f g i j,e=[a,b,c,d,f,g,i,j]:=by
 match e,h with
 | [a,b,c,d,f,g,i,j],_=>exact ⟨a,b,c,d,f,g,i,j,rfl⟩
theorem BoxAt.two {X:Nat→Prop} {w0 w:World} {E:Emb} {K:LH} (h:Rep X w0 E K w) {i j:Nat} {a b:RA} {x y x' y':LB} (hij:i≠j) (hx:K[i]?=some x') (hy:K[j]?=some y') (ha:E[i]?=some a) (hb:E[j]?=some b) (hx':LBis [a,b] w a x) (hy':LBis [a,b] w b y) (fx:foot a x=foot a x') (fy:foot b y=foot b y'):BoxAt [a,b] [x,y] w:=by
 refine ⟨rfl,fun k z r hz hr=>?_,fun k k' z z' r r' c hz hz' hr hr' hc hc'=>?_,fun k z r c hz hr hc=>?_⟩
 ·match k,hz,hr with
  | 0,hz,hr=>cases hz; cases hr; exact hx'
  | 1,hz,hr=>cases hz; cases hr; exact hy'
 ·match k,k',hz,hz',hr,hr' with
  | 0,0,_,_,_,_=>rfl
  | 1,1,_,_,_,_=>rfl
  | 0,1,hz,hz',hr,hr' =>
   cases hz; cases hz'; cases hr; cases hr'
   exact absurd (h.inj i j _ _ _ _ c hx hy ha hb (by rw [← fx]; exact hc) (by rw [← fy]; exact hc')) hij
  | 1,0,hz,hz',hr,hr' =>
   cases hz; cases hz'; cases hr; cases hr'
   exact absurd (h.inj j i _ _ _ _ c hy hx hb ha (by rw [← fy]; exact hc) (by rw [← fx]; exact hc')).symm hij
 ·match k,hz,hr with
  | 0,hz,hr=>cases hz; cases hr; exact (h.rng i _ _ hx ha c (by rw [← fx]; exact hc)).2
  | 1,hz,hr=>cases hz; cases hr; exact (h.rng j _ _ hy hb c (by rw [← fy]; exact hc)).2
theorem footL2 {a b:RA} {x y:LB} {c:Nat} (h:footL [a,b] [x,y] c):foot a x c∨foot b y c:=by
 obtain ⟨k,z,r,hz,hr,hc⟩:=h
 match k,hz,hr with
 | 0,hz,hr=>cases hz; cases hr; exact .inl hc
 | 1,hz,hr=>cases hz; cases hr; exact .inr hc
theorem pgNew_tr (m g:Nat) (seed:BitVec 64) (h1:m+g≤256) (h2:1≤m+g):TrK Tryz.prog [] [] 35 [.agg ⟨[.int .i64 m,.int .i64 g,.int .u64 (seed.toNat:Int)]⟩] [] (fun v K=>∃ a b g0 g1 m0,v=.tuple ⟨[ptr 0,.int .i64 0]⟩∧K=RPL (newR m g seed a b g0 g1 m0)):=by
 refine TrK.retell (pgNew0_tr m g seed h1 h2) ?_
 rintro X w0 w E v v' K hR hv ⟨rfl,rfl⟩
 obtain ⟨e0,e1,e2,e3,e4,e5,e6,e7,rfl⟩:=emb8 hR.len
 have B0:=hR.blk 0 _ e0 rfl rfl
 have B1:=hR.blk 1 _ e1 rfl rfl
 have B2:=hR.blk 2 _ e2 rfl rfl
 have B3:=hR.blk 3 _ e3 rfl rfl
 have B4:=hR.blk 4 _ e4 rfl rfl
 have B5:=hR.blk 5 _ e5 rfl rfl
 have B6:=hR.blk 6 _ e6 rfl rfl
 have B7:=hR.blk 7 _ e7 rfl rfl
 have hA:BoxAt [e1,e2] (AN (256*(m+g)) (List.replicate (256*(m+g)) 0)) w:=BoxAt.two hR (i:=1) (j:=2) (by decide) rfl rfl rfl rfl (B1.cellsTo ⟨SRm.sl rfl rfl,trivial⟩) B2 rfl rfl
 have hG:BoxAt [e6,e7] (LGr e1 (keyW seed) [] 0) w:=BoxAt.two hR (i:=6) (j:=7) (by decide) rfl rfl rfl rfl (B6.cellsTo ⟨SRm.real rfl,SRm.int,SRm.map rfl rfl rfl,trivial⟩) B7 rfl rfl
 refine ⟨[e0,e3,e4,(e5.1,0,0),(0,0,0),(0,0,0),(0,0,0)],.tuple ⟨[ptr 0,.int .i64 0]⟩,RPL (newR m g seed e1 e2 e6 e7 e5.1),Nat.zero_le _,hR.regroup (fun j=>[0,5,5,1,2,3,6,6].getD j 0) rfl (fun i x r hx hr=>?_) (fun i x r c hx hr hc=>?_),?_,e1,e2,e6,e7,e5.1,rfl,rfl⟩
 ·match i,hx,hr with
  | 0,hx,hr=>cases hx; cases hr; exact B0.cellsTo ⟨SRm.int,SRm.int,SRm.int,SRm.real rfl,SRm.ptr rfl rfl,SRm.int,SRm.map rfl rfl rfl,SRm.real rfl,trivial⟩
  | 1,hx,hr=>cases hx; cases hr; exact B3.cellsTo ⟨SRm.sl rfl rfl,trivial⟩
  | 2,hx,hr=>cases hx; cases hr; exact B4
  | 3,hx,hr=>cases hx; cases hr; exact pB_of B5
  | 4,hx,hr=>cases hx; cases hr; exact CrowdAt.is ⟨fun m hm=>(by simp [newR] at hm),List.Pairwise.nil⟩ rfl
  | 5,hx,hr=>cases hx; cases hr; exact hA.is rfl
  | 6,hx,hr=>cases hx; cases hr; exact CrowdAt.is ⟨fun m hm=>(by rw [List.mem_singleton] at hm; subst hm; exact hG),List.pairwise_singleton _ _⟩ rfl
 ·match i,hx,hr with
  | 0,hx,hr=>cases hx; cases hr; exact ⟨0,_,e0,rfl,rfl,rfl,hc⟩
  | 1,hx,hr=>cases hx; cases hr; exact ⟨3,_,e3,rfl,rfl,rfl,hc⟩
  | 2,hx,hr=>cases hx; cases hr; exact ⟨4,_,e4,rfl,rfl,rfl,hc⟩
  | 3,hx,hr=>cases hx; cases hr; exact ⟨5,_,e5,rfl,rfl,rfl,hc⟩
  | 4,hx,hr=>cases hx; cases hr; obtain ⟨m,hm,_⟩:=hc; exact absurd hm (by simp [newR])
  | 5,hx,hr =>
   cases hx; cases hr
   rcases footL2 hc with h | h
   ·exact ⟨1,_,e1,rfl,rfl,rfl,h⟩
   ·exact ⟨2,_,e2,rfl,rfl,rfl,h⟩
  | 6,hx,hr =>
   cases hx; cases hr
   obtain ⟨m,hm,hc⟩:=hc
   rw [List.mem_singleton] at hm
   subst hm
   rcases footL2 hc with h | h
   ·exact ⟨6,_,e6,rfl,rfl,rfl,h⟩
   ·exact ⟨7,_,e7,rfl,rfl,rfl,h⟩
 ·obtain ⟨vs',q1,q2⟩:=hv
  exact ⟨vs',q1,L2.to (R:=V1 [e0,e1,e2,e3,e4,e5,e6,e7]) (vs:=[ptr 0,.int .i64 0]) ⟨fun c h=>SRm.ptr (r:=e0) rfl rfl c h,fun _ h=>h,trivial⟩ q2⟩
end Go.Proofs.YtgfjgfapigekiaaGreat
end
section
namespace Go.Tum
open Go
section
variable {P:Program} {n0:NA} {l:Env} {L:LH} {X:Nat→Prop} {w0 w w':World} {E em:Emb} {S:LH}
theorem crowd_at {c:Nat} {ms:List Mem} {m:Mem} (hR:Rep X w0 E L w) (hc:L[c]?=some (crowd ms)) (hm:m∈ms):BoxAt m.1 m.2 w:=by
 obtain ⟨r,hr⟩:=hR.ent hc
 obtain ⟨h1,_,_⟩:=hR.blk c _ r hc hr
 exact h1.all m hm
theorem QY.ldC {x:Operand} {c q i o:Nat} {ms:List Mem} {r:Nat × Nat × Nat} {sz:Nat} {vs:List Value} {u v:Value} (hx:lv l x=some (.pointer (some ⟨r.1,q,some 0⟩))) (hq:q=o+r.2.1) (hc:L[c]?=some (crowd ms)) (hm:(em,S)∈ms) (hi:em[i]?=some r) (hS:S[i]?=some (.cells sz vs)) (ho:vs[o]?=some u)
  (hu:∀ v',SR em u v'→∀ E,VR E v v'):QY P n0 L l (.ld x) v:=by
 intro X w0 E0 w E l' h0 hE hR hl
 obtain ⟨_,h1,h2⟩:=lv_ev hl hx
 have h2:_=Value.pointer (some ⟨r.1,q,none⟩):=h2
 subst h2; subst hq
 obtain ⟨cs,h3,h4,h5,_⟩:=(crowd_at hR hc hm).blk i _ r hS hi
 obtain ⟨y,h6,h7⟩:=h4.get ho
 refine ⟨y,⟨_,h1,?_⟩,hu y h7 E⟩
 have hlt:=(List.getElem?_eq_some_iff.1 ho).1
 rw [h3.cellEq,Nat.add_comm]
 rw [List.getElem?_take,if_pos hlt,List.getElem?_drop] at h6
 exact h6
theorem QY.ldCi {x:Operand} {c q i o:Nat} {ms:List Mem} {r:Nat × Nat × Nat} {sz:Nat} {vs:List Value} {k:IntKind} {n:Int} (hx:lv l x=some (.pointer (some ⟨r.1,q,some 0⟩))) (hq:q=o+r.2.1) (hc:L[c]?=some (crowd ms)) (hm:(em,S)∈ms) (hi:em[i]?=some r) (hS:S[i]?=some (.cells sz vs)) (ho:vs[o]?=some (.int k n)):QY P n0 L l (.ld x) (.int k n) :=
 QY.ldC hx hq hc hm hi hS ho fun _ h _=>h
theorem QY.ldCa {x:Operand} {c q i o o':Nat} {ms:List Mem} {r r':Nat × Nat × Nat} {sz:Nat} {vs:List Value} (hx:lv l x=some (.pointer (some ⟨r.1,q,some 0⟩))) (hq:q=o+r.2.1) (hc:L[c]?=some (crowd ms)) (hm:(em,S)∈ms) (hi:em[i]?=some r) (hS:S[i]?=some (.cells sz vs)) (ho:vs[o]?=some (adR r' o')):QY P n0 L l (.ld x) (adR r' o') :=
 QY.ldC hx hq hc hm hi hS ho fun _ h _=>h
theorem QY.ldCq {x:Operand} {c q i o b o' s n m:Nat} {ms:List Mem} {r:Nat × Nat × Nat} {sz:Nat} {vs:List Value} (hx:lv l x=some (.pointer (some ⟨r.1,q,some 0⟩))) (hq:q=o+r.2.1) (hc:L[c]?=some (crowd ms)) (hm:(em,S)∈ms) (hi:em[i]?=some r) (hS:S[i]?=some (.cells sz vs)) (ho:vs[o]?=some (.slice (some ⟨b,o',some s⟩) n m)):QY P n0 L l (.ld x) (.slice (some ⟨b,o',some s⟩) n m) :=
 QY.ldC hx hq hc hm hi hS ho fun _ h _=>h
theorem QY.ldCg {x:Operand} {c q i k:Nat} {ms:List Mem} {r:Nat × Nat × Nat} {sz:Nat} {ws:List Value} {u:Value} (hx:lv l x=some (.pointer (some ⟨r.1,q,some 0⟩))) (hq:q=k+r.2.1) (hc:L[c]?=some (crowd ms)) (hm:(em,S)∈ms) (hi:em[i]?=some r) (hS:S[i]?=some (.gro sz ws)) (hk:ws[k]?=some u)
  (hu:stillS u=true):QY P n0 L l (.ld x) u:=by
 intro X w0 E0 w E l' h0 hE hR hl
 obtain ⟨_,h1,h2⟩:=lv_ev hl hx
 have h2:_=Value.pointer (some ⟨r.1,q,none⟩):=h2
 subst h2; subst hq
 have hlt:=(List.getElem?_eq_some_iff.1 hk).1
 rcases (crowd_at hR hc hm).blk i _ r hS hi with ⟨rfl,_⟩ | ⟨_,_,cs,h3,h4,_⟩
 ·simp at hlt
 ·refine ⟨u,⟨_,h1,?_⟩,(SR.still (E:=E) hu).vr⟩
  rw [h3.cellEq,Nat.add_comm]
  rw [← h4,List.getElem?_take,if_pos hlt,List.getElem?_drop] at hk
  exact hk
theorem QY.fldR {x:Operand} {b o s off:Nat} (hx:lv l x=some (.pointer (some ⟨b,o,some s⟩))):QY P n0 L l (.fld x off) (.pointer (some ⟨b,o+off,some s⟩)):=by
 intro X w0 E0 w E l' h0 hE hR hl
 obtain ⟨_,h1,h2⟩:=lv_ev hl hx
 have h2:_=Value.pointer (some ⟨b,o,none⟩):=h2
 subst h2
 exact ⟨_,⟨b,o,none,h1,rfl⟩,by rw [add_none]; rfl⟩
theorem L2.stillA:∀ {vs:List Value},vs.all stillS=true→L2 (SR E) vs vs
 | [],_=>trivial
 | v::vs,h=>by
  simp only [List.all_cons,Bool.and_eq_true] at h
  exact ⟨SR.still h.1,L2.stillA h.2⟩
theorem QY.ldnCg {α:Type} {g:α→List Value} {x:Operand} {c q i k:Nat} {ms:List Mem} {r:Nat × Nat × Nat} {sz:Nat} {xs:List α} {a:α} (hg:RowOk g sz) (hx:lv l x=some (.pointer (some ⟨r.1,q,some 0⟩))) (hq:q=k*sz+r.2.1) (hc:L[c]?=some (crowd ms)) (hm:(em,S)∈ms) (hi:em[i]?=some r) (hS:S[i]?=some (.gro sz (rowsC g xs))) (hk:xs[k]?=some a) (hz:0<sz):QY P n0 L l (.ldn x sz) (.agg ⟨g a⟩):=by
 intro X w0 E0 w E l' h0 hE hR hl
 obtain ⟨_,h1,h2⟩:=lv_ev hl hx
 have h2:_=Value.pointer (some ⟨r.1,q,none⟩):=h2
 subst h2; subst hq
 have hlt:=(List.getElem?_eq_some_iff.1 hk).1
 have hle:(k+1)*sz≤xs.length*sz:=Nat.mul_le_mul_right _ hlt
 rw [Nat.add_mul,Nat.one_mul] at hle
 have hlen:=rowsC_length hg xs
 rcases (crowd_at hR hc hm).blk i _ r hS hi with ⟨h2,_⟩ | ⟨_,_,cs,h3,h4,_⟩
 ·have:=congrArg List.length h2
  rw [hlen] at this
  simp at this; omega
 ·refine ⟨.agg ⟨g a⟩,⟨_,⟨g a⟩,h1,hg.len a,fun j hj=>?_,rfl⟩,⟨g a,rfl,L2.stillA (hg.still a)⟩⟩
  have h5:=rowsC_cell hg hk hj
  rw [← h4,List.getElem?_take,if_pos (by omega),List.getElem?_drop] at h5
  rw [add_none,h3.cellEq,List.getElem?_toArray,← h5]
  congr 1; omega
theorem QY.ldCs {x:Operand} {c q i j o m sz sz':Nat} {ms:List Mem} {r r':Nat × Nat × Nat} {vs ws:List Value} (hx:lv l x=some (.pointer (some ⟨r.1,q,some 0⟩))) (hq:q=o+r.2.1) (hc:L[c]?=some (crowd ms)) (hm:(em,S)∈ms) (hi:em[i]?=some r) (hS:S[i]?=some (.cells sz vs)) (ho:vs[o]?=some (.slice (some ⟨j,0,none⟩) m m)) (hj:em[j]?=some r') (hw:S[j]?=some (.gro sz' ws)) (h0w:m=0→ws=[]) :
  QY P n0 L l (.ld x) (.slice (some ⟨r'.1,r'.2.1,some 0⟩) m (m+r'.2.2)):=by
 intro X w0 E0 w E l' h0 hE hR hl
 obtain ⟨_,h1,h2⟩:=lv_ev hl hx
 have h2:_=Value.pointer (some ⟨r.1,q,none⟩):=h2
 subst h2; subst hq
 have hB:=crowd_at hR hc hm
 obtain ⟨cs,h3,h4,h5,_⟩:=hB.blk i _ r hS hi
 obtain ⟨y,h6,h7⟩:=h4.get ho
 have hlt:=(List.getElem?_eq_some_iff.1 ho).1
 refine ⟨y,⟨_,h1,?_⟩,?_⟩
 ·rw [h3.cellEq,Nat.add_comm]
  rw [List.getElem?_take,if_pos hlt,List.getElem?_drop] at h6
  exact h6
 ·obtain ⟨_,p,hp,h8⟩:=h7
  have hp:em[j]?=some p:=hp
  rw [hj] at hp; cases hp
  have hz:m=0→r'.2.2=0:=fun e=>by
   rcases hB.blk j _ r' hw hj with ⟨_,h⟩ | ⟨h,_⟩
   ·exact h
   ·exact absurd (h0w e) h
  rcases h8 with ⟨a',c',rfl,⟨rfl,rfl⟩ | ⟨e1,_,e3,o',rfl,_⟩⟩ | ⟨e1,_,a',rfl⟩
  ·left
   show _=_
   rw [Nat.zero_add]
  ·right
   exact ⟨e1,by have:=hz e1; omega,⟨_,by rw [e1,e3]⟩⟩
  ·right
   exact ⟨e1,by have:=hz e1; omega,⟨_,rfl⟩⟩
theorem BoxAt.setC {i o sz:Nat} {r:Nat × Nat × Nat} {vs:List Value} {u u':Value} (h:BoxAt em S w) (hi:em[i]?=some r) (hS:S[i]?=some (.cells sz vs)) (hu:SR em u u'):BoxAt em (S.set i (.cells sz (vs.set o u))) (w.setCell ⟨r.1,o+r.2.1,none⟩ u'):=by
 have hR:=h.rep
 obtain ⟨cs,hB,hl2,hle,hz⟩:=h.blk i _ r hS hi
 refine (hR.upd (x:=.cells sz (vs.set o u)) hS hi (Fr.setCell w ⟨r.1,o+r.2.1,none⟩ u') ⟨cs.set (o+r.2.1) u',hB.set _ _,?_,?_,hz⟩ (fun _ h=>.inl h)).boxAt
 ·have h3:=hl2.set o hu
  rw [List.length_set]
  have e:((cs.set (o+r.2.1) u').drop r.2.1).take vs.length=((cs.drop r.2.1).take vs.length).set o u':=by
   rw [List.drop_set,if_neg (by omega),List.take_set]
   congr 1; omega
  rw [e]; exact h3
 ·simp only [List.length_set]; omega
theorem EW.stC {x y:Operand} {c q i o sz:Nat} {ms ms' rest:List Mem} {r:Nat × Nat × Nat} {vs:List Value} {u uo:Value} (hx:lv l x=some (.pointer (some ⟨r.1,q,some 0⟩))) (hq:q=o+r.2.1) (hy:lv l y=some uo) (hu:∀ (E:Emb) (v':Value),VR E uo v'→SR em u v'∧one v'=true)
  (hc:L[c]?=some (crowd ms)) (hm:ms.Perm ((em,S)::rest)) (hm':ms'.Perm ((em,S.set i (.cells sz (vs.set o u)))::rest)) (hi:em[i]?=some r) (hS:S[i]?=some (.cells sz vs)) (ho:o<vs.length) :
  EW P n0 L l (.st x y) (fun w K=>w=undef∧K=L.set c (crowd ms')):=by
 intro X w0 E0 w E l' Kf h0 hE hR hl hK
 obtain ⟨_,h1,h2⟩:=lv_ev hl hx
 have h2:_=Value.pointer (some ⟨r.1,q,none⟩):=h2
 subst h2; subst hq
 obtain ⟨u',h3,h4⟩:=lv_ev hl hy
 obtain ⟨h5,h6⟩:=hu E u' h4
 obtain ⟨rc,hrc⟩:=hR.ent hc
 obtain ⟨g1,g2,_⟩:=hR.blk c _ rc hc hrc
 have g1:CrowdAt ((em,S)::rest) w:=CrowdAt.perm hm g1
 have hB:BoxAt em S w:=g1.all _ (List.mem_cons_self ..)
 have hap:=List.pairwise_cons.1 g1.apart
 obtain ⟨cs,hBl,hl2,hle,_⟩:=hB.blk i _ r hS hi
 have hoc:o+r.2.1<cs.length:=by omega
 have hft:Mem.at (em,S) r.1:=⟨i,_,r,hS,hi,rfl⟩
 have hB2:=hB.setC (o:=o) hi hS h5
 have hF:∀ b,Mem.at (em,S.set i (.cells sz (vs.set o u))) b→Mem.at (em,S) b:=by
  rintro b ⟨k,z,p,hz,hp,hb⟩
  rw [List.getElem?_set] at hz
  split at hz
  ·rename_i e; subst e
   rw [if_pos (List.getElem?_eq_some_iff.1 hS).1] at hz; cases hz
   rw [hi] at hp; cases hp
   exact ⟨i,_,r,hS,hi,hb⟩
  ·exact ⟨k,z,p,hz,hp,hb⟩
 have hfr:=Fr.setCell w ⟨r.1,o+r.2.1,none⟩ u'
 have hCr:CrowdAt rest (w.setCell ⟨r.1,o+r.2.1,none⟩ u'):=CrowdAt.fr (w:=w) ⟨fun m hm=>g1.all m (List.mem_cons_of_mem _ hm),hap.2⟩ hfr fun b ⟨m,h7,h8⟩ e=>by
  have e:b=r.1:=e
  subst e
  exact hap.1 m h7 _ hft h8
 have hC:CrowdAt ms' (w.setCell ⟨r.1,o+r.2.1,none⟩ u'):=CrowdAt.perm hm'.symm ⟨fun m h7=>by
  rcases List.mem_cons.1 h7 with rfl | h7
  ·exact hB2
  ·exact hCr.all m h7,List.pairwise_cons.2 ⟨fun m h7 b h8 h9=>hap.1 m h7 b (hF b h8) h9,hap.2⟩⟩
 refine ⟨_,_,h1,h3,h6,hBl.some hoc,hBl.frozen _,hK _ E _ _ _ ⟨rfl,rfl⟩ (Ext.refl E) (hR.upd hc hrc (hfr.mono fun b _ hb=>?_) (hC.is g2) fun b hb=>?_) VR.undef⟩
 ·have hb:b=r.1:=hb
  subst hb
  exact ⟨(em,S),hm.mem_iff.2 (List.mem_cons_self ..),hft⟩
 ·obtain ⟨m,h7,h8⟩:=hb
  left
  rcases List.mem_cons.1 (hm'.mem_iff.1 h7) with rfl | h7
  ·exact ⟨(em,S),hm.mem_iff.2 (List.mem_cons_self ..),hF b h8⟩
  ·exact ⟨m,hm.mem_iff.2 (List.mem_cons_of_mem _ h7),h8⟩
def ptrV:Option (Nat × Nat × Nat)→Value
 | none=>.pointer none
 | some r=>.pointer (some ⟨r.1,r.2.1,none⟩)
def ptrS:Option (Nat × Nat × Nat)→Value
 | none=>.pointer none
 | some r=>adR r 0
def pRow (ps:List (Option (Nat × Nat × Nat))):LB:=.gro 1 (ps.map ptrV)
theorem ptr_vr (q:Option (Nat × Nat × Nat)):VR E (ptrS q) (ptrV q):=by
 cases q with
 | none=>exact rfl
 | some r =>
  show ptrV (some r)=_
  unfold ptrV
  simp only [Nat.zero_add]
theorem ptr_eq {q:Option (Nat × Nat × Nat)} {v':Value} (h:VR E (ptrS q) v'):v'=ptrV q:=by
 cases q with
 | none=>exact h
 | some r =>
  have h:v'=.pointer (some ⟨r.1,0+r.2.1,none⟩):=h
  rw [h]; unfold ptrV; rw [Nat.zero_add]
theorem ptr_one (q:Option (Nat × Nat × Nat)):one (ptrV q)=true:=by cases q <;> rfl
theorem repC_ptr (n:Nat):repC n [.pointer none]=(List.replicate n none).map ptrV:=by
 induction n with
 | zero=>rfl
 | succ n ih=>simp only [repC,ih,List.replicate_succ,List.map_cons]; rfl
theorem QY.ldP {x:Operand} {b k:Nat} {ps:List (Option (Nat × Nat × Nat))} {q:Option (Nat × Nat × Nat)} {v:Value} (hx:lv l x=some (.pointer (some ⟨b,k*1,none⟩))) (hb:L[b]?=some (pRow ps)) (hk:ps[k]?=some q) (hv:ptrS q=v):QY P n0 L l (.ld x) v:=by
 subst hv
 intro X w0 E0 w E l' h0 hE hR hl
 obtain ⟨_,h1,a',rfl,_,r,hr,rfl⟩:=lv_ev hl hx
 have hlt:=(List.getElem?_eq_some_iff.1 hk).1
 rcases hR.blk b _ r hb hr with ⟨h2,_⟩ | ⟨_,_,cs,h3,h4,_⟩
 ·have:=congrArg List.length h2; simp at this; subst this; simp at hlt
 ·refine ⟨ptrV q,⟨_,h1,?_⟩,ptr_vr q⟩
  rw [h3.cellEq]
  have h5:(ps.map ptrV)[k]?=some (ptrV q):=by rw [List.getElem?_map,hk]; rfl
  rw [← h4,List.getElem?_take,if_pos (by rw [List.length_map]; exact hlt),List.getElem?_drop] at h5
  rw [← h5]
  show cs[k*1+r.2.1]?=_
  congr 1; omega
theorem EW.stP {x y:Operand} {b k:Nat} {ps:List (Option (Nat × Nat × Nat))} {q:Option (Nat × Nat × Nat)} (hx:lv l x=some (.pointer (some ⟨b,k*1,none⟩))) (hy:lv l y=some (ptrS q)) (hb:L[b]?=some (pRow ps)) (hk:k<ps.length) :
  EW P n0 L l (.st x y) (fun w K=>w=undef∧K=L.set b (pRow (ps.set k q))):=by
 intro X w0 E0 w E l' Kf h0 hE hR hl hK
 obtain ⟨_,h1,a',rfl,_,r,hr,rfl⟩:=lv_ev hl hx
 obtain ⟨u',h2,h3⟩:=lv_ev hl hy
 obtain rfl:=ptr_eq h3
 have hml:(ps.map ptrV).length=ps.length:=List.length_map _
 rcases hR.blk b _ r hb hr with ⟨h4,_⟩ | ⟨hne,hsz,cs,hB,hcs,hroom⟩
 ·have:=congrArg List.length h4; simp at this; subst this; simp at hk
 ·have hne2:(ps.set k q).map ptrV≠[]:=by intro e; have:=congrArg List.length e; simp at this; subst this; simp at hk
  have hoc:k*1+r.2.1<cs.length:=by omega
  refine ⟨_,_,h1,h2,ptr_one q,hB.some hoc,hB.frozen _,hK _ E _ _ _ ⟨rfl,rfl⟩ (Ext.refl E) (hR.upd hb hr ?_ (.inr ⟨hne2,hsz,cs.set (k*1+r.2.1) (ptrV q),hB.set _ _,?_,?_⟩) ?_) VR.undef⟩
  ·unfold pRow; rw [gro_foot hne]; exact Fr.setCell w ⟨r.1,k*1+r.2.1,none⟩ _
  ·rw [List.map_set,List.length_set,List.drop_set,if_neg (by omega),List.take_set,hcs]
   congr 1; omega
  ·simp only [List.length_set,List.length_map] at *; exact hroom
  ·unfold pRow; rw [gro_foot hne,gro_foot hne2]; exact fun _ h=>.inl h
theorem EW.appP {o:Oper} {s x:Operand} {sT xT:TypeId} {bytes b bx n:Nat} {ps:List (Option (Nat × Nat × Nat))} (ho:o.op=.call ⟨.builtin .append,⟨[s,x]⟩,⟨[sT,xT]⟩⟩) (ht:appT P sT xT=some (1,bytes))
  (hs:lv l s=some (.slice (some ⟨b,0,none⟩) 0 0)) (hx:lv l x=some (.slice (some ⟨bx,0,none⟩) n n)) (hb:L[b]?=some (.gro 1 [])) (hbx:L[bx]?=some (pRow ps)) (hn:ps.length=n) (hn0:n≠0) (hbd:(2*(0+n)+2048)*bytes≤281474976710656) :
  EW P n0 L l (.raw o) (fun v K=>v=.slice (some ⟨L.length,0,none⟩) n n∧K=L.set b .dead++[pRow ps]):=by
 refine EW.mono (EW.appX (Q:=fun us=>us=ps.map ptrV) (m:=n) ho ht hs hb rfl (by simp) hbd fun X w0 E0 w E l' h0 hE hR hl=>?_) ?_
 ·obtain ⟨vx',h3,h0',r,hr,h4⟩:=lv_ev hl hx
  have hr:E[bx]?=some r:=hr
  have hml:(ps.map ptrV).length=ps.length:=List.length_map _
  rcases hR.blk bx _ r hbx hr with ⟨h5,_⟩ | ⟨_,_,cs,hB,hcs,_⟩
  ·have:=congrArg List.length h5; rw [hml] at this; simp at this; subst this; simp at hn; omega
  refine ⟨vx',_,h3,⟨by rw [hml]; omega,fun u hu=>?_,.inr ?_⟩,rfl⟩
  ·obtain ⟨q,_,rfl⟩:=List.mem_map.1 hu; exact ptr_one q
  ·rcases h4 with ⟨a',c',rfl,⟨rfl,rfl⟩ | ⟨h,_⟩⟩ | ⟨h,_⟩
   ·refine ⟨_,_,rfl,fun j hj=>?_⟩
    rw [add_none,hB.cellEq,← hcs,List.getElem?_take,if_pos (by rw [hml]; omega),List.getElem?_drop]
    show cs[0+r.2.1+j]?=_
    congr 1; omega
   ·exact absurd h hn0
   ·exact absurd h hn0
 ·rintro v K ⟨us,rfl,rfl,rfl⟩
  exact ⟨by rw [Nat.zero_add],rfl⟩
theorem LSt.enter {ss:List Step} {K:Env→LH→Prop} {c N sz:Nat} {ms:List Mem} {vs:List Value} (hlen:L.length=N+1) (hk:L[N]?=some (.cells sz vs)) (hvs:rnB (N+1) [N] (.cells sz vs)=.cells sz vs) (hc:L[c]?=some (crowd ms)) (hcN:c<N)
  (h:∀ r:Nat × Nat × Nat,LSt P n0 ss K (realE N [r] l) [] (((closed (L.take N) [.cells sz vs] [r]).set c (crowd (([r],[.cells sz vs])::ms))).set (N+1) .dead)):LSt P n0 ss K l [] L:=⟨fun X w0 E0 w E l' F h0 hE hR hl hT=>by
 have hM:(L.take N).length=N:=by rw [List.length_take]; omega
 have hL:L=L.take N++unbox (L.take N).length [.cells sz vs]:=by
  unfold unbox
  rw [hM]
  show L=L.take N++[rnB (N+1) [N] (.cells sz vs)]
  rw [hvs]
  apply List.ext_getElem?
  intro i
  by_cases hi:i<N
  ·rw [List.getElem?_append_left (by omega),List.getElem?_take,if_pos hi]
  ·rw [List.getElem?_append_right (by omega),hM]
   by_cases e:i=N
   ·subst e; rw [hk,Nat.sub_self]; rfl
   ·rw [List.getElem?_eq_none (by omega),List.getElem?_eq_none (by simp; omega)]
 rw [hL] at hR
 obtain ⟨g1,g2,g3⟩:=hR.closeR
 rw [hM] at g1 g2 g3
 obtain ⟨r,hr⟩:=List.length_eq_one_iff.1 g3
 rw [hr] at g1 g2
 have hm:((L.take N).map (realB (L.take N).length [r])).length=N:=by rw [List.length_map,hM]
 have q1:(closed (L.take N) [LB.cells sz vs] [r])[c]?=some (crowd ms):=by
  unfold closed
  rw [List.append_assoc,List.getElem?_append_left (by omega),List.getElem?_map,List.getElem?_take,if_pos hcN,hc]
  rfl
 have q2:(closed (L.take N) [LB.cells sz vs] [r])[N+1]?=some (box [r] [.cells sz vs]):=by
  unfold closed
  have e1:((L.take N).map (realB (L.take N).length [r])++List.replicate [LB.cells sz vs].length LB.dead).length=N+1:=by rw [List.length_append,hm]; rfl
  rw [List.getElem?_append_right (by omega),e1,Nat.sub_self]
  rfl
 have g4:=g1.crowdIn (b:=c) (k:=N+1) (by omega) q1 q2
 refine (h r).go X w0 E0 w (E++[(0,0,0)]) l' F h0 (hE.trans (Ext.app E _)) g4 ((hl.ext (Ext.app E _)).real g2) ?_
 cases F with
 | nil=>trivial
 | cons _ _=>exact hT.elim⟩
end
end Go.Tum
end
section
namespace Go.Proofs.YtgfjgfapigekiaaGreat
open Go Go.Tum Go.Tum.Base
set_option maxRecDepth 4000
abbrev Q4:=Nat × Nat × Nat × Nat
def stV (q:Q4):Value:=.slice (some ⟨q.1,q.2.1,some 0⟩) q.2.2.1 q.2.2.2
def curQ (e:RA) (N:Nat):Q4:=(e.1,0+e.2.1,N,N+e.2.2)
abbrev slE (e:RA) (N:Nat):Value:=.slice (some ⟨e.1,0+e.2.1,some 0⟩) N (N+e.2.2)
structure DE where
 o:RA
 s0:RA
 s1:RA
 q:Q4
 t:PS
structure DR where
 man:Nat
 n:Nat
 key:BitVec 64
 e:RA
 g0:RA
 g1:RA
 gq:Q4
 rs:PRows
 bs:Bytes
 dl:List DE
 gl:List RB
def DR.N (d:DR):Nat:=256*d.n
def dfind (dl:List DE) (p:Int):Option DE:=dl.find? fun x=>decide ((x.t.pg:Int)=p)
def psL (dl:List DE) (n:Nat):List (Option RA):=(List.range n).map fun p:Nat=>(dfind dl p).map (·.o)
def DSr (q:Q4) (key:BitVec 64) (n z:Nat) (t:PS):LH:=[.cells 0 [stV q,.int .u64 (key.toNat:Int),.int .i64 t.pg,.int .i64 t.c,slB 1 n,.int .i64 (numS z t.f)],.gro 1 (rowsC intC (stL t n))]
def memO (x:DE):Mem:=([x.o],[.cells 0 [adR x.s0 0,.int .i64 x.t.ow]])
def memD (key:BitVec 64) (x:DE):Mem:=([x.s0,x.s1],DSr x.q key (nC x.t.c) (zC x.t.c) x.t)
def crowdO (dl:List DE):LB:=crowd (dl.map memO)
def crowdD (key:BitVec 64) (dl:List DE):LB:=crowd (dl.map (memD key))
def HSr (q:Q4) (key:BitVec 64) (gl:List RB):LH:=[.cells 0 [stV q,.int .u64 (key.toNat:Int),slB 1 gl.length],.gro 2 (rowsC RB.cells gl)]
def crowdH (key:BitVec 64) (g0 g1:RA) (q:Q4) (gl:List RB):LB:=crowd [([g0,g1],HSr q key gl)]
def DRL (d:DR):LH:=[.cells 0 [.int .i64 d.man,.int .u64 (d.key.toNat:Int),slE d.e d.N,slB 1 d.n,slB 2 d.n,adR d.g0 0],
 .gro 4 (rowsC PRow.cells d.rs),pRow (psL d.dl d.n),crowdO d.dl,crowdD d.key d.dl,box [d.e] [BL d.bs],crowdH d.key d.g0 d.g1 d.gq d.gl]
structure Tie (r:PR) (d:DR):Prop where
 man:d.man=r.man
 n:d.n=r.man+r.mgd
 key:d.key=r.key
 rs:d.rs=r.rs
 bs:d.bs=r.bs
 ts:d.dl.map (·.t)=r.sl.map (·.t)
 gs:(d.gl.map RB.page).Pairwise (· < ·)
 gm:∀ a n:Int,(∃ x∈r.G,x.1=a∧x.2.1=n)↔(⟨a,n⟩:RB)∈d.gl
theorem Tie.get {r:PR} {d:DR} (h:Tie r d) {i:Nat} {x:SE} (hx:r.sl[i]?=some x):∃ y,d.dl[i]?=some y∧y.t=x.t:=by
 have h1:=congrArg (fun l=>l[i]?) h.ts
 simp only [List.getElem?_map,hx,Option.map_some] at h1
 cases e:d.dl[i]? with
 | none=>rw [e] at h1; cases h1
 | some y=>rw [e] at h1; exact ⟨y,rfl,Option.some.inj h1⟩
theorem Tie.find {r:PR} {d:DR} (h:Tie r d) (p:Int):(dfind d.dl p).map (·.t)=(sfind r.sl p).map (·.t):=by
 have h1:∀ {α:Type} (f:α→PS) (l:List α),(l.find? fun x=>decide (((f x).pg:Int)=p)).map f=(l.map f).find? fun t=>decide ((t.pg:Int)=p):=fun f l=>by
  rw [List.find?_map]; rfl
 have e1:=h1 (fun y:DE=>y.t) d.dl
 have e2:=h1 (fun y:SE=>y.t) r.sl
 unfold dfind sfind
 rw [e1,e2,h.ts]
theorem Tie.find_none {r:PR} {d:DR} (h:Tie r d) {p:Int} (hs:sfind r.sl p=none):dfind d.dl p=none:=by
 have:=h.find p
 rw [hs] at this
 cases e:dfind d.dl p with
 | none=>rfl
 | some y=>rw [e] at this; cases this
theorem Tie.find_some {r:PR} {d:DR} (h:Tie r d) {p:Int} {x:SE} (hs:sfind r.sl p=some x):∃ y,dfind d.dl p=some y∧y.t=x.t∧y∈d.dl:=by
 have:=h.find p
 rw [hs] at this
 cases e:dfind d.dl p with
 | none=>rw [e] at this; cases this
 | some y=>rw [e] at this; exact ⟨y,rfl,Option.some.inj this,List.mem_of_find?_eq_some e⟩
theorem psL_get {dl:List DE} {n p:Nat} (hp:p<n):(psL dl n)[p]?=some ((dfind dl p).map (·.o)):=by
 unfold psL
 rw [List.getElem?_map,List.getElem?_range hp]; rfl
theorem psL_len (dl:List DE) (n:Nat):(psL dl n).length=n:=by simp [psL]
end Go.Proofs.YtgfjgfapigekiaaGreat
end
section
namespace Go.Tum.Base
open Go Go.Tum
def goodK (rs:PRows) (lo hi n A:Nat):Prop:=lo≤A∧A+n≤hi∧∀ i,A≤i→i<A+n→freeP (rs.getD i PRow.Z)=true
theorem placeP_spec {rs:PRows} {lo hi n:Nat} (hn:1≤n):∀ {f k c:Nat},k+f=hi→c≤k→lo≤k-c→c<n→(∀ i,k-c≤i→i<k→freeP (rs.getD i PRow.Z)=true)→(∀ B,goodK rs lo hi n B→k-c≤B) →
  (∃ A:Nat,placeP rs n f k c=some (A:Int)∧goodK rs lo hi n A∧∀ B,goodK rs lo hi n B→A≤B)∨(placeP rs n f k c=none∧∀ B,¬ goodK rs lo hi n B)
 | 0,k,c,hk,h1,h2,h3,h4,h5=>.inr ⟨rfl,fun B hB=>by have:=h5 B hB; have:=hB.2.1; omega⟩
 | f+1,k,c,hk,h1,h2,h3,h4,h5=>by
  simp only [placeP]
  by_cases hf:freeP (rs.getD k PRow.Z)=true
  ·rw [if_pos hf]
   by_cases hc:(c:Int)+1=n
   ·rw [if_pos hc]
    left
    refine ⟨k-c,by congr 1; omega,⟨h2,by omega,fun i hi1 hi2=>?_⟩,h5⟩
    by_cases e:i=k
    ·subst e; exact hf
    ·exact h4 i hi1 (by omega)
   ·rw [if_neg hc]
    have:=placeP_spec hn (rs:=rs) (lo:=lo) (hi:=hi) (f:=f) (k:=k+1) (c:=c+1) (by omega) (by omega) (by omega) (by omega) (fun i hi1 hi2=>by
     by_cases e:i=k
     ·subst e; exact hf
     ·exact h4 i (by omega) (by omega)) (fun B hB=>by have:=h5 B hB; omega)
    exact this
  ·rw [if_neg hf,if_neg (by omega)]
   have:=placeP_spec hn (rs:=rs) (lo:=lo) (hi:=hi) (f:=f) (k:=k+1) (c:=0) (by omega) (by omega) (by omega) (by omega) (fun i hi1 hi2=>by omega) (fun B hB=>by
    have h6:=h5 B hB
    rcases Nat.lt_or_ge k B with h7 | h7
    ·omega
    ·exact absurd (hB.2.2 k h7 (by omega)) hf)
   exact this
theorem placeP_first {rs:PRows} {lo hi n:Nat} (hn:1≤n) (hl:lo≤hi):(∃ A:Nat,placeP rs n (hi-lo) lo 0=some (A:Int)∧goodK rs lo hi n A∧∀ B,goodK rs lo hi n B→A≤B)∨(placeP rs n (hi-lo) lo 0=none∧∀ B,¬ goodK rs lo hi n B) :=
 placeP_spec hn (f:=hi-lo) (k:=lo) (c:=0) (by omega) (Nat.zero_le _) (Nat.le_refl _) hn (fun i h1 h2=>by simp at h1; omega) (fun B hB=>hB.1)
def placeI:Option Int→Int
 | some a=>a
 | none => -1
theorem eqFree (r:PRow):([r.kind == 0,r.cls == 0,r.owner == 0,r.run == 0]).all id=freeP r:=by
 obtain ⟨a,b,c,d⟩:=r
 simp only [freeP,PRow.Z,List.all_cons,List.all_nil,id,Bool.and_true]
 rw [Bool.eq_iff_iff]
 simp [PRow.mk.injEq]
def layT (rs:PRows) (a j:Nat):PRows:=rs.take a++List.replicate j tailP++rs.drop (a+j)
theorem layT_length {rs:PRows} {a j:Nat} (h:a+j≤rs.length):(layT rs a j).length=rs.length:=by simp [layT]; omega
theorem layT_snoc {rs:PRows} {a j:Nat} (h:a+j<rs.length):(layT rs a j).set (a+j) tailP=layT rs a (j+1):=by
 have e2:(rs.take a++List.replicate j tailP).length=a+j:=by simp; omega
 have e3:rs.drop (a+j)=rs[a+j]::rs.drop (a+j+1):=List.drop_eq_getElem_cons h
 rw [layT,List.set_append_right _ _ (by omega),e2,Nat.sub_self,e3,List.set_cons_zero,layT,List.append_assoc,List.append_assoc,List.replicate_succ',List.append_assoc]
 rfl
theorem layT_end {rs:PRows} {a m:Nat} {r:PRow} (hm:1≤m) (h:a+m≤rs.length):(layT rs a m).set a r=layP rs a r m:=by
 obtain ⟨m,rfl⟩:∃ k,m=k+1:=⟨m-1,by omega⟩
 have e2:(rs.take a).length=a:=by simp; omega
 rw [layT,layP,List.append_assoc,List.set_append_right _ _ (by omega),e2,Nat.sub_self,List.replicate_succ,List.append_assoc]
 rfl
theorem clearP_snoc {rs:PRows} {a j:Nat} (h:a+j<rs.length):(clearP rs a j).set (a+j) PRow.Z=clearP rs a (j+1):=by
 have e2:(rs.take a++List.replicate j PRow.Z).length=a+j:=by simp; omega
 have e3:rs.drop (a+j)=rs[a+j]::rs.drop (a+j+1):=List.drop_eq_getElem_cons h
 rw [clearP,List.set_append_right _ _ (by omega),e2,Nat.sub_self,e3,List.set_cons_zero,clearP,List.append_assoc,List.append_assoc,List.replicate_succ',List.append_assoc]
 rfl
theorem clearP_zero (rs:PRows) (a:Nat):clearP rs a 0=rs:=by simp [clearP]
theorem layT_zero (rs:PRows) (a:Nat):layT rs a 0=rs:=by simp [layT]
end Go.Tum.Base
namespace Go.Proofs.YtgfjgfapigekiaaGreat
open Go Go.Tum Go.Tum.Base
set_option maxRecDepth 4000
abbrev TB (rs:PRows):LB:=.gro 4 (rowsC PRow.cells rs)
theorem rNew4_tr (n:Nat) (hn:n≤256):Tr Tryz.prog 85 [.int .i64 n] [] (fun v K=>v=slB 0 n∧K=[TB (List.replicate n PRow.Z)]):=by
 refine Tr.of row_tumbrelref04_New_ok rfl ?_
 repeat' (first|refine qN ?_|refine dN ?_|refine qU ?_|refine qL ?_|refine iF (fun h=>?_) (fun h=>?_)|refine qR ?_|refine qS ?_|fail)
 all_goals try (exfalso; omega)
 first|refine L_rs ?_|refine L_reg ?_ | skip
 refine eE rfl rfl (EW.mk (sz:=4) (bytes:=32) (k:=n) (zs:=PRow.Z.cells) rfl (by kernel_rfl) rfl rfl (by omega) (by omega)) ?_
 conv=>whnf
 repeat' (first|refine dN ?_|fail)
 refine L_ret (RetQ.pick [0] rfl rfl rfl rfl ⟨rfl,?_⟩)
 rw [repC_rows PRow.Z]; rfl
theorem rIn4_tr (k lo hi:Int):Tr Tryz.prog 133 [.int .i64 k,.int .i64 lo,.int .i64 hi] [] (fun v K=>v=.bool (decide (lo≤k∧k<hi))∧K=[]):=by
 refine Tr.of row_tumbrelref04_In_ok rfl ?_
 repeat' (first|refine qN ?_|refine dN ?_|refine rT ?_|refine sP 10 (fun h=>?_) (fun h=>?_)|fail)
 all_goals (refine ⟨?_,rfl⟩; first | rfl|exact congrArg (Value.int _) (by (repeat' split) <;> omega)|exact congrArg Value.bool (by (repeat' split) <;> (rw [Bool.eq_iff_iff]; simp; try omega))|exact VT2 (by (repeat' split) <;> omega) (by (repeat' split) <;> first | rfl | omega | (rw [Bool.eq_iff_iff]; simp; try omega)))
set_option maxHeartbeats 2000000 in
theorem rPlace_tr (rs:PRows) (hl:rs.length≤256) (lo hi n:Nat) (hn:1≤n∧n≤256) (h1:lo≤hi) (h2:hi≤rs.length):Tr Tryz.prog 90 [slB 0 rs.length,.int .i64 lo,.int .i64 hi,.int .i64 n] [TB rs] (fun v K=>v=.int .i64 (placeI (placeP rs n (hi-lo) lo 0))∧K=[TB rs]):=by
 obtain ⟨A,hA⟩:∃ A:Option Int,A=placeP rs n (hi-lo) lo 0:=⟨_,rfl⟩
 have hsp:=placeP_first (rs:=rs) hn.1 h1
 rw [← hA] at hsp ⊢
 refine Tr.of row_tumbrelref04_Place_ok rfl ?_
 repeat' (first|refine qN ?_|refine dN ?_|refine qB ?_|refine qS ?_|fail)
 refine LWp.pick [0,1,2,3,13,14] [0] rfl rfl rfl (L_loop (fun q l L=>∃ k:Nat,q=rs.length-k∧k≤rs.length∧(∀ B,goodK rs lo hi n B→k≤B)∧l=[(0,slB 0 rs.length),(1,.int .i64 lo),(2,.int .i64 hi),(3,.int .i64 n),(13,.int .i64 rs.length),(14,.int .i64 k)]∧L=[TB rs]) rs.length ⟨0,rfl,by omega,fun B _=>Nat.zero_le B,rfl,rfl⟩ ?_)
 rintro q _ _ ⟨k,rfl,hk,hmin,rfl,rfl⟩
 first|refine L_seq (L_rs (S_done [] rfl (Nx.goL (iF (fun h=>L_skip (Nx.goL ?_)) (fun h=>L_exit ?_)))))|refine L_rs (S_done [] rfl (Nx.goL (L_seq (iF (fun h=>L_skip (Nx.goL ?_)) (fun h=>L_exit ?_)))))
 ·have hk2:k<rs.length:=by omega
  refine L_seq (L_block ?_)
  repeat' (first|refine qN ?_|refine dN ?_|refine qB ?_|refine aS ?_|refine qS ?_|fail)
  refine LWp.pick [0,1,2,3,9,10,11,13,14] [0] rfl rfl rfl (L_loop (fun q l L=>∃ (i:Nat) (ok:Bool),q=k+n-i∧k≤i∧i≤k+n∧(ok=true→k+n≤rs.length∧∀ j,k≤j→j<i→lo≤j∧j<hi∧freeP (rs.getD j PRow.Z)=true)∧(ok=false→¬ goodK rs lo hi n k)∧l=[(0,slB 0 rs.length),(1,.int .i64 lo),(2,.int .i64 hi),(3,.int .i64 n),(9,.int .i64 k),(10,.bool ok),(11,.int .i64 i),(13,.int .i64 rs.length),(14,.int .i64 k)]∧L=[TB rs]) n ⟨k,decide ((n:Int)≤rs.length-k),by omega,by omega,by omega,fun e=>⟨by have:=of_decide_eq_true e; omega,fun j h1 h2=>by omega⟩,fun e hg=>by have:=of_decide_eq_false e; have:=hg.2.1; omega,rfl,rfl⟩ ?_)
  rintro q _ _ ⟨i,ok,rfl,hi1,hi2,hok1,hok2,rfl,rfl⟩
  cases ok
  ·have hng:=hok2 rfl
   repeat' (first|refine qN ?_|refine dN ?_|refine d0 ?_|refine qU ?_|refine qL ?_|refine qF ?_|refine aA ?_|refine qR ?_|refine qS ?_|fail)
   refine Nx.pick [0,1,2,3,13,14] [0] rfl rfl rfl ⟨rs.length-(k+1),by omega,k+1,rfl,by omega,fun B hB=>?_,rfl,rfl⟩
   have h3:=hmin B hB
   by_cases e:B=k
   ·subst e; exact absurd hB hng
   ·omega
  ·obtain ⟨hkn,hall⟩:=hok1 rfl
   have hI:=rIn4_tr i lo hi
   by_cases hik:i<k+n
   ·have hgi:rs[i]?=some rs[i]:=List.getElem?_eq_getElem (by omega)
    have hgd:rs.getD i PRow.Z=rs[i]:=by rw [List.getD_eq_getElem?_getD,hgi]; rfl
    by_cases hin:lo≤i∧i<hi
    ·rw [decide_eq_true ⟨by omega,by omega⟩] at hI
     repeat' (first|refine qN ?_|refine dN ?_|refine d0 ?_|refine qB ?_|refine qT ?_|refine qL ?_|refine qF ?_|refine iF (fun h=>?_) (fun h=>?_)|refine aX ?_|refine cP [] (hI) ?_|refine S_Q [] rfl rfl (QY.ldRow PRow.ok rfl rfl hgi (by decide)) ?_|refine S_Q [] rfl rfl (QY.eqlS (bs:=[rs[i].kind == 0,rs[i].cls == 0,rs[i].owner == 0,rs[i].run == 0]) rfl rfl rfl (by kernel_rfl)) ?_|refine aA ?_|refine qR ?_|refine qS ?_|fail)
     ·rw [eqFree]
      refine Nx.pick [0,1,2,3,9,10,11,13,14] [0] rfl rfl rfl ⟨k+n-(i+1),by omega,i+1,freeP rs[i],rfl,by omega,by omega,fun e=>⟨hkn,fun j h3 h4=>?_⟩,fun e hg=>?_,rfl,rfl⟩
      ·by_cases e2:j=i
       ·subst e2; exact ⟨hin.1,hin.2,by rw [hgd]; exact e⟩
       ·exact hall j h3 (by omega)
      ·have:=hg.2.2 i hi1 hik
       rw [hgd,e] at this; cases this
     ·exfalso; omega
    ·rw [decide_eq_false (by omega)] at hI
     repeat' (first|refine qN ?_|refine dN ?_|refine d0 ?_|refine qB ?_|refine qT ?_|refine qL ?_|refine qF ?_|refine iF (fun h=>?_) (fun h=>?_)|refine cP [] (hI) ?_|refine aA ?_|refine qR ?_|refine qS ?_|fail)
     ·refine Nx.pick [0,1,2,3,9,10,11,13,14] [0] rfl rfl rfl ⟨k+n-(i+1),by omega,i+1,false,rfl,by omega,by omega,(fun e=>by cases e),fun _ hg=>?_,rfl,rfl⟩
      have:=hg.1
      have:=hg.2.1
      omega
     ·exfalso; omega
   ·obtain rfl:i=k+n:=by omega
    have hg:goodK rs lo hi n k:=⟨(hall k (by omega) (by omega)).1,by have:=(hall (k+n-1) (by omega) (by omega)).2.1; omega,fun j h3 h4=>(hall j h3 h4).2.2⟩
    have hAk:A=some (k:Int):=by
     rcases hsp with ⟨a,h3,h4,h5⟩ | ⟨_,h4⟩
     ·have h6:=h5 k hg
      have h7:=hmin a h4
      rw [h3]; congr 2; omega
     ·exact absurd hg (h4 k)
    rw [hAk]
    repeat' (first|refine qN ?_|refine dN ?_|refine qB ?_|refine rT ?_|refine qT ?_|refine qL ?_|refine qF ?_|refine iF (fun h=>?_) (fun h=>?_)|refine aA ?_|refine qR ?_|refine qS ?_|exact ⟨rfl,rfl⟩|fail)
    exfalso; omega
 ·refine Nx.goL ?_
  have:∀ B,¬ goodK rs lo hi n B:=fun B hB=>by
   have h3:=hmin B hB
   have h4:=hB.2.1
   omega
  rcases hsp with ⟨a,h3,h4,_⟩ | ⟨h3,_⟩
  ·exact absurd h4 (this a)
  ·rw [h3]
   repeat' (first|refine qN ?_|refine dN ?_|refine rT ?_|exact ⟨rfl,rfl⟩|fail)
set_option maxHeartbeats 1000000 in
theorem rLay_tr (rs:PRows) (hl:rs.length≤256) (a m:Nat) (r:PRow) (hr:r.run=m) (hm:1≤m) (h:a+m≤rs.length):Tr Tryz.prog 91 [slB 0 rs.length,.int .i64 a,.agg ⟨r.cells⟩] [TB rs] (fun v K=>v=slB 1 rs.length∧K=[TB rs,TB (layP rs a r m)]):=by
 have hcells:r.cells=[.int .i64 r.kind,.int .i64 r.cls,.int .i64 r.owner,.int .i64 m]:=by rw [← hr]; rfl
 rw [hcells]
 refine Tr.of row_tumbrelref04_Lay_ok rfl ?_
 repeat' (first|refine qN ?_|refine dN ?_|fail)
 refine S_wk [] rfl (wk_gro0 (b:=2) 4 rfl) ?_
 first|refine L_rs ?_|refine L_reg ?_ | skip
 refine eE rfl rfl (EW.appRR (bytes:=32) (xs:=[]) (ys:=rs) PRow.ok rfl (by kernel_rfl) rfl rfl rfl rfl rfl rfl (by decide) (by omega)) ?_
 conv=>whnf
 rw [Nat.zero_add]
 repeat' (first|refine qN ?_|refine dN ?_|refine qB ?_|refine qS ?_|fail)
 refine LWp.pick [1,5,7,8] [0,1,3] rfl rfl rfl (L_loop (fun q l L=>∃ j:Nat,q=m-j∧j≤m∧l=[(1,.int .i64 a),(5,ptr 1),(7,slB 2 rs.length),(8,.int .i64 (a+j:Nat))]∧L=[TB rs,.cells 0 [.int .i64 r.kind,.int .i64 r.cls,.int .i64 r.owner,.int .i64 m],TB (layT rs a j)]) m ⟨0,rfl,by omega,rfl,by rw [layT_zero]; rfl⟩ ?_)
 rintro q _ _ ⟨j,rfl,hj,rfl,rfl⟩
 repeat' (first|refine qN ?_|refine dN ?_|refine qB ?_|refine qL ?_|refine qF ?_|refine iF (fun h=>?_) (fun h=>?_)|refine aX ?_|refine S_Q [] rfl rfl (QY.add (c:=((a+m:Nat):Int)) rfl rfl (by omega) (by omega) (by omega)) ?_|refine qR ?_|refine qS ?_|fail)
 ·first|refine L_rs ?_|refine L_reg ?_ | skip
  refine eE rfl rfl (EW.stRow (k:=a+j) (a:=tailP) PRow.ok rfl rfl rfl (by rw [layT_length (by omega)]; omega) (by decide)) ?_
  conv=>whnf
  rw [layT_snoc (by omega)]
  repeat' (first|refine dN ?_|refine d0 ?_|refine aA ?_|refine qR ?_|fail)
  exact Nx.pick [1,5,7,8] [0,1,2] rfl rfl rfl ⟨m-(j+1),by omega,j+1,rfl,by omega,rfl,rfl⟩
 ·obtain rfl:j=m:=by omega
  repeat' fail
  first|refine L_rs ?_|refine L_reg ?_ | skip
  refine eE rfl rfl (EW.stRow (k:=a) (a:=r) PRow.ok rfl (by rw [hcells]; rfl) rfl (by rw [layT_length (by omega)]; omega) (by decide)) ?_
  conv=>whnf
  rw [layT_end hm (by omega)]
  repeat' (first|refine qN ?_|refine dN ?_|fail)
  exact L_ret (RetQ.pick [0,2] rfl rfl rfl rfl ⟨rfl,rfl⟩)
set_option maxHeartbeats 1000000 in
theorem rClear_tr (rs:PRows) (hl:rs.length≤256) (a m:Nat) (hr:(pAt rs a).run=m) (ha:a<rs.length) (h:a+m≤rs.length):Tr Tryz.prog 99 [slB 0 rs.length,.int .i64 a] [TB rs] (fun v K=>v=slB 1 rs.length∧K=[TB rs,TB (clearP rs a m)]):=by
 have hga:rs[a]?=some rs[a]:=List.getElem?_eq_getElem ha
 have hrun:rs[a].run=m:=by rw [← hr]; unfold pAt; rw [if_neg (by omega),Int.toNat_natCast,List.getD_eq_getElem?_getD,hga]; rfl
 refine Tr.of row_tumbrelref04_Clear_ok rfl ?_
 repeat' (first|refine qN ?_|refine dN ?_|fail)
 refine S_wk [] rfl (wk_gro0 (b:=1) 4 rfl) ?_
 first|refine L_rs ?_|refine L_reg ?_ | skip
 refine eE rfl rfl (EW.appRR (bytes:=32) (xs:=[]) (ys:=rs) PRow.ok rfl (by kernel_rfl) rfl rfl rfl rfl rfl rfl (by decide) (by omega)) ?_
 conv=>whnf
 rw [Nat.zero_add]
 repeat' (first|refine qN ?_|refine dN ?_|refine qB ?_|refine aX ?_|refine S_Q [] rfl rfl (QY.ldF (j:=3) (u:=.int .i64 m) PRow.ok rfl rfl hga (by rw [← hrun]; rfl) rfl) ?_|refine qS ?_|fail)
 refine LWp.pick [1,5,6,7] [0,2] rfl rfl rfl (L_loop (fun q l L=>∃ j:Nat,q=m-j∧j≤m∧l=[(1,.int .i64 a),(5,slB 1 rs.length),(6,.int .i64 m),(7,.int .i64 (a+j:Nat))]∧L=[TB rs,TB (clearP rs a j)]) m ⟨0,rfl,by omega,rfl,by rw [clearP_zero]; rfl⟩ ?_)
 rintro q _ _ ⟨j,rfl,hj,rfl,rfl⟩
 repeat' (first|refine qN ?_|refine dN ?_|refine qB ?_|refine qL ?_|refine qF ?_|refine iF (fun h=>?_) (fun h=>?_)|refine aX ?_|refine S_Q [] rfl rfl (QY.add (c:=((a+m:Nat):Int)) rfl rfl (by omega) (by omega) (by omega)) ?_|refine qR ?_|refine qS ?_|fail)
 ·first|refine L_rs ?_|refine L_reg ?_ | skip
  refine eE rfl rfl (EW.stRow (k:=a+j) (a:=PRow.Z) PRow.ok rfl rfl rfl (by rw [clearP_length (by omega)]; omega) (by decide)) ?_
  conv=>whnf
  rw [clearP_snoc (by omega)]
  repeat' (first|refine dN ?_|refine d0 ?_|refine aA ?_|refine qR ?_|fail)
  exact Nx.pick [1,5,6,7] [0,1] rfl rfl rfl ⟨m-(j+1),by omega,j+1,rfl,by omega,rfl,rfl⟩
 ·obtain rfl:j=m:=by omega
  exact L_ret (RetQ.pick [0,1] rfl rfl rfl rfl ⟨rfl,rfl⟩)
theorem rKey_tr (x:BitVec 64):Tr Tryz.prog 84 [.int .u64 (x.toNat:Int)] [] (fun v K=>v=.int .u64 ((keyW x).toNat:Int)∧K=[]):=by
 have h:=rMix_tr (x+0x9E3779B97F4A7C15#64)
 refine Tr.of row_tumbrelref06_Key_ok rfl ?_
 repeat' (first|refine qN ?_|refine dN ?_|refine rT ?_|refine S_Q [] rfl rfl (QY.addW (b:=0x9E3779B97F4A7C15#64) rfl rfl) ?_|refine cP [] (h) ?_|exact ⟨rfl,rfl⟩|fail)
end Go.Proofs.YtgfjgfapigekiaaGreat
end
section
namespace Go.Proofs.YtgfjgfapigekiaaGreat
open Go Go.Tum Go.Tum.Base
set_option maxRecDepth 4000
section
variable {r:PR} {d:DR}
theorem memO_in {y:DE} (h:y∈d.dl):(([y.o],[.cells 0 [adR y.s0 0,.int .i64 y.t.ow]]):Mem)∈d.dl.map memO:=List.mem_map_of_mem h
theorem memD_in {y:DE} (h:y∈d.dl):(([y.s0,y.s1],DSr y.q d.key (nC y.t.c) (zC y.t.c) y.t):Mem)∈d.dl.map (memD d.key):=List.mem_map_of_mem h
theorem psL_no {p:Nat} (hp:p<d.n) (h:dfind d.dl p=none):(psL d.dl d.n)[p]?=some none:=by rw [psL_get hp,h]; rfl
theorem psL_at {p:Nat} (hp:p<d.n) {y:DE} (h:dfind d.dl p=some y):(psL d.dl d.n)[p]?=some (some y.o):=by rw [psL_get hp,h]; rfl
end
theorem dOwner_no (r:PR) (d:DR) (ok:r.Ok) (tie:Tie r d) (a:Int) (h:a<0∨(d.N:Int)≤a∨dfind d.dl (a / 256)=none):Tr Tryz.prog 52 [ptr 0,.int .i64 a] (DRL d) (fun v K=>v=.int .i64 (-1)∧K=DRL d):=by
 have hn:=ok.n2
 have hdn:=tie.n
 have hN:d.N=256*d.n:=rfl
 by_cases h0:a<0∨(d.N:Int)≤a
 ·refine Tr.of row_tumbrelref09_Region_Owner_ok rfl ?_
  repeat' (first|refine qN ?_|refine dN ?_|refine rT ?_|refine qT ?_|refine aD ?_|refine sP 7 (fun h=>?_) (fun h=>?_)|refine sP 16 (fun h=>?_) (fun h=>?_)|refine qS ?_|exact ⟨rfl,rfl⟩|fail)
  all_goals (exfalso; omega)
 ·obtain ⟨m,rfl⟩:=Int.eq_ofNat_of_zero_le (show 0≤a by omega)
  have hf:dfind d.dl ((m / 256:Nat):Int)=none:=by
   rw [show ((m / 256:Nat):Int)=(m:Int) / 256 by omega]
   rcases h with h | h | h
   ·omega
   ·omega
   ·exact h
  have hP:=psL_no (d:=d) (p:=m / 256) (by omega) hf
  refine Tr.of row_tumbrelref09_Region_Owner_ok rfl ?_
  repeat' (first|refine qN ?_|refine dN ?_|refine rT ?_|refine qT ?_|refine aX ?_|refine S_Q [] rfl rfl (QY.divN (c:=((m / 256:Nat):Int)) rfl rfl (by omega) (by omega) (by omega)) ?_|refine S_Q [] rfl rfl (QY.ldP (k:=m / 256) (v:=.pointer none) rfl rfl hP rfl) ?_|refine sP 7 (fun h=>?_) (fun h=>?_)|refine sP 16 (fun h=>?_) (fun h=>?_)|refine qS ?_|exact ⟨rfl,rfl⟩|fail)
  all_goals (exfalso; omega)
theorem dOwner_at (r:PR) (d:DR) (ok:r.Ok) (tie:Tie r d) (m:Nat) (hm:(m:Int)<d.N) (y:DE) (hy:dfind d.dl ((m / 256:Nat):Int)=some y):Tr Tryz.prog 52 [ptr 0,.int .i64 m] (DRL d) (fun v K=>v=.int .i64 y.t.ow∧K=DRL d):=by
 have hn:=ok.n2
 have hdn:=tie.n
 have hN:d.N=256*d.n:=rfl
 have hP:=psL_at (d:=d) (p:=m / 256) (by omega) hy
 have hO:=memO_in (List.mem_of_find?_eq_some hy)
 refine Tr.of row_tumbrelref09_Region_Owner_ok rfl ?_
 repeat' (first|refine qN ?_|refine dN ?_|refine rT ?_|refine qT ?_|refine qU ?_|refine qL ?_|refine aX ?_|refine S_Q [] rfl rfl (QY.divN (c:=((m / 256:Nat):Int)) rfl rfl (by omega) (by omega) (by omega)) ?_|refine S_Q [] rfl rfl (QY.ldP (k:=m / 256) (v:=adR y.o 0) rfl rfl hP rfl) ?_|refine S_Q [] rfl rfl (QY.fldR rfl) ?_|refine S_Q [] rfl rfl (QY.ldCi (r:=y.o) (i:=0) (c:=3) (o:=1) rfl (by omega) rfl hO rfl rfl rfl) ?_|refine sP 7 (fun h=>?_) (fun h=>?_)|refine sP 16 (fun h=>?_) (fun h=>?_)|refine qS ?_|exact ⟨rfl,rfl⟩|fail)
 all_goals (exfalso; omega)
def placeT (t:PS) (k:Nat):Pl:=⟨t.pg,k,baseN t.pg (zC t.c) k,(zC t.c:Int)-8,t.st k,false⟩
theorem Tie.sok {r:PR} {d:DR} (ok:r.Ok) (tie:Tie r d) {y:DE} (hy:y∈d.dl):∃ x∈r.sl,x.t=y.t∧SOk r.man x:=by
 have:y.t∈d.dl.map (·.t):=List.mem_map_of_mem hy
 rw [tie.ts] at this
 obtain ⟨x,hx,e⟩:=List.mem_map.1 this
 exact ⟨x,hx,e,ok.sok x hx⟩
theorem dfind_pg {dl:List DE} {p:Int} {y:DE} (h:dfind dl p=some y):(y.t.pg:Int)=p:=by
 have:=List.find?_some h
 simpa using this
theorem dPlace_tr (r:PR) (d:DR) (ok:r.Ok) (tie:Tie r d) (p k:Nat) (y:DE) (hy:dfind d.dl p=some y) (hk:k<nC y.t.c):Tr Tryz.prog 107 [ptr 0,.int .i64 p,.int .i64 k] (DRL d) (fun v K=>v=.agg ⟨(placeT y.t k).cells⟩∧K=DRL d):=by
 have hn:=ok.n2
 have hdn:=tie.n
 have hmy:=List.mem_of_find?_eq_some hy
 obtain ⟨x,hx,ht,hs⟩:=Tie.sok ok tie hmy
 have hpg:y.t.pg=p:=by have:=dfind_pg hy; omega
 have hcl:=hs.cls
 have hpm:=hs.pg
 rw [ht] at hcl hpm
 have hb:=hcl.bd
 obtain ⟨b1,b2,b3,b4,b5,b6,b7⟩:=hcl.base hk y.t.pg
 have hP:=psL_at (d:=d) (p:=p) (by omega) hy
 have hO:=memO_in hmy
 have hD:=memD_in hmy
 have hZ:=dSize_tr y.t.c
 rw [hcl.size] at hZ
 have hg:(rowsC intC (stL y.t (nC y.t.c)))[k]?=some (.int .i64 (y.t.st k)):=by rw [rowsI_get,stL_get _ hk]; rfl
 have hne:nC y.t.c=0→rowsC intC (stL y.t (nC y.t.c))=[]:=fun e=>by omega
 have hE:(placeT y.t k).cells=[.int .i64 p,.int .i64 k,.int .i64 (baseN y.t.pg (zC y.t.c) k),.int .i64 ((zC y.t.c:Int)-8),.int .i64 (y.t.st k),.bool false]:=by
  unfold placeT Pl.cells
  simp only [hpg]
 rw [hE]
 refine Tr.of row_tumbrelref09_Region_place_ok rfl ?_
 repeat' (first|refine qN ?_|refine dN ?_|refine rT ?_|refine aX ?_|refine S_Q [] rfl rfl (QY.ldP (k:=p) (v:=adR y.o 0) rfl rfl hP rfl) ?_|refine S_Q [] rfl rfl (QY.fldR rfl) ?_|refine S_Q [] rfl rfl (QY.ldCa (r:=y.o) (i:=0) (c:=3) (o:=0) rfl (by omega) rfl hO rfl rfl rfl) ?_|refine S_Q [] rfl rfl (QY.ldCi (r:=y.s0) (i:=0) (c:=4) (o:=3) rfl (by omega) rfl hD rfl rfl rfl) ?_|refine cP [] (hZ) ?_|refine S_Q [] rfl rfl (QY.mul (c:=((256*p:Nat):Int)) rfl rfl (by omega) (by omega) (by omega)) ?_|refine S_Q [] rfl rfl (QY.mul (c:=((zC y.t.c*k:Nat):Int)) rfl rfl (by rw [Int.natCast_mul]) (by omega) (by omega)) ?_|refine S_Q [] rfl rfl (QY.add (c:=((baseN y.t.pg (zC y.t.c) k:Nat):Int)) rfl rfl (by omega) (by omega) (by omega)) ?_|refine S_Q [] rfl rfl (QY.ldCs (r:=y.s0) (r':=y.s1) (i:=0) (j:=1) (c:=4) (o:=4) rfl (by omega) rfl hD rfl rfl rfl rfl rfl hne) ?_|refine S_Q [] rfl rfl (QY.idxR (k:=k) rfl rfl hk) ?_|refine S_Q [] rfl rfl (QY.ldCg (r:=y.s1) (k:=k) (i:=1) (c:=4) rfl (by omega) rfl hD rfl rfl hg rfl) ?_|refine aS ?_|exact ⟨rfl,rfl⟩|fail)
theorem gin_gl {r:PR} {d:DR} (tie:Tie r d) {p:Int} (h:∀ b∈d.gl,¬ (b.page≤p∧p<b.page+pagesC b.n)):gin r.G p=none:=by
 cases e:gin r.G p with
 | none=>rfl
 | some x =>
  obtain ⟨h1,h2⟩:=gin_some e
  exact absurd h2 (h ⟨x.1,x.2.1⟩ ((tie.gm x.1 x.2.1).1 ⟨x,h1,rfl,rfl⟩))
theorem gin_hit {r:PR} {d:DR} (ok:r.Ok) (tie:Tie r d) {p:Int} {b:RB} (hb:b∈d.gl) (hp:b.page≤p∧p<b.page+pagesC b.n):(gin r.G p).map placeG=some ⟨b.page,0,256*b.page,b.n,1,true⟩:=by
 obtain ⟨x,hx,h1,h2⟩:=(tie.gm b.page b.n).2 hb
 rw [gin_mem ok.gap hx (by rw [h1,h2]; exact hp)]
 simp [placeG,h1,h2]
theorem gl_bd {r:PR} {d:DR} (ok:r.Ok) (tie:Tie r d) {b:RB} (hb:b∈d.gl):GbOk r.man (b.page,b.n,0):=by
 obtain ⟨x,hx,h1,h2⟩:=(tie.gm b.page b.n).2 hb
 have h:=ok.gok x hx
 exact ⟨by rw [← h2]; exact h.gr,by rw [← h1]; exact h.lo,by rw [← h1,← h2]; exact h.hi⟩
theorem gl_len {r:PR} {d:DR} (ok:r.Ok) (tie:Tie r d):d.gl.length≤256:=by
 have hs:=tie.gs
 have key:∀ (l:List Int) (m:Nat) (lo:Int),l.Pairwise (· < ·)→(∀ x∈l,lo≤x∧x<lo+m)→l.length≤m:=by
  intro l
  induction l with
  | nil=>intro m lo _ _; simp
  | cons a q ih =>
   intro m lo h1 h2
   obtain ⟨h3,h4⟩:=List.pairwise_cons.1 h1
   have h5:=h2 a (List.mem_cons_self ..)
   have:=ih (m-1) (lo+1) h4 (fun x hx=>by have:=h2 x (List.mem_cons_of_mem _ hx); have:=h3 x hx; omega)
   simp only [List.length_cons]; omega
 have:=key (d.gl.map RB.page) 256 0 hs (fun x hx=>by
  obtain ⟨b,hb,rfl⟩:=List.mem_map.1 hx
  have h:=gl_bd ok tie hb
  have h1:=h.lo
  have h2:=h.hi
  obtain ⟨M,h3,h4,_⟩:=greatC_pages h.gr
  simp only at h1 h2 h3
  have:=ok.n2
  omega)
 rwa [List.length_map] at this
theorem hin_H (d:DR):(([d.g0,d.g1],HSr d.gq d.key d.gl):Mem)∈[(([d.g0,d.g1],HSr d.gq d.key d.gl):Mem)]:=List.mem_singleton.2 rfl
set_option maxHeartbeats 2000000 in
theorem dFind_tr (r:PR) (d:DR) (ok:r.Ok) (tie:Tie r d) (a:Int):Tr Tryz.prog 47 [ptr 0,.int .i64 a] (DRL d) (fun v K=>v=Pl.val (r.find a)∧K=DRL d):=by
 have hn:=ok.n2
 have hdn:=tie.n
 have hN:d.N=256*d.n:=rfl
 have hrN:r.N=256*(r.man+r.mgd):=rfl
 unfold PR.find
 by_cases h0:a<0∨(r.N:Int)≤a
 ·rw [if_pos h0]
  refine Tr.of row_tumbrelref09_Region_Find_ok rfl ?_
  repeat' (first|refine qN ?_|refine dN ?_|refine rT ?_|refine qT ?_|refine qL ?_|refine iF (fun h=>?_) (fun h=>?_)|refine aD ?_|refine sP 13 (fun h=>?_) (fun h=>?_)|refine qS ?_|exact ⟨rfl,rfl⟩|fail)
  all_goals (exfalso; omega)
 rw [if_neg h0]
 obtain ⟨m,rfl⟩:=Int.eq_ofNat_of_zero_le (show 0≤a by omega)
 have hq:((m:Int) / 256)=((m / 256:Nat):Int):=by omega
 rw [hq]
 cases hs:sfind r.sl ((m / 256:Nat):Int) with
 | some x =>
  obtain ⟨y,hy,hyt,hmy⟩:=tie.find_some hs
  obtain ⟨_,_,hxm,_⟩:=sfind_some hs
  have hx:=ok.sok x hxm
  have hcl:=hx.cls
  rw [← hyt] at hcl
  have hb:=hcl.bd
  have hZ:=dSize_tr y.t.c
  rw [hcl.size] at hZ
  have hP:=psL_at (d:=d) (p:=m / 256) (by omega) hy
  have hO:=memO_in hmy
  have hD:=memD_in hmy
  have hlt:m % 256 / zC y.t.c<nC y.t.c:=by
   rcases hcl.is with ⟨_,h4,h5⟩ | ⟨_,h4,h5⟩ | ⟨_,h4,h5⟩ | ⟨_,h4,h5⟩ <;> rw [h4,h5] <;> omega
  have hPl:=dPlace_tr r d ok tie (m / 256) (m % 256 / zC y.t.c) y hy hlt
  have hdv:((m % 256:Nat):Int) / (zC y.t.c:Int)=((m % 256 / zC y.t.c:Nat):Int):=by rw [Int.natCast_ediv]
  have hdb:m % 256 / zC y.t.c≤256:=by omega
  have hE:Pl.val (some (placeS x ((m:Int).toNat % 256 / zC x.t.c)))=.tuple ⟨[.agg ⟨(placeT y.t (m % 256 / zC y.t.c)).cells⟩,.bool true]⟩:=by
   rw [Int.toNat_natCast,hyt]; rfl
  simp only
  rw [hE]
  generalize m % 256 / zC y.t.c=kk at *
  refine Tr.of row_tumbrelref09_Region_Find_ok rfl ?_
  repeat' (first|refine qN ?_|refine dN ?_|refine rT ?_|refine qT ?_|refine qL ?_|refine iF (fun h=>?_) (fun h=>?_)|refine aX ?_|refine S_Q [] rfl rfl (QY.divN (c:=((m / 256:Nat):Int)) rfl rfl (by omega) (by omega) (by omega)) ?_|refine S_Q [] rfl rfl (QY.ldP (k:=m / 256) (v:=adR y.o 0) rfl rfl hP rfl) ?_|refine S_Q [] rfl rfl (QY.fldR rfl) ?_|refine S_Q [] rfl rfl (QY.ldCa (r:=y.o) (i:=0) (c:=3) (o:=0) rfl (by omega) rfl hO rfl rfl rfl) ?_|refine S_Q [] rfl rfl (QY.ldCi (r:=y.s0) (i:=0) (c:=4) (o:=3) rfl (by omega) rfl hD rfl rfl rfl) ?_|refine cP [] (hZ) ?_|refine S_Q [] rfl rfl (QY.remN (c:=((m % 256:Nat):Int)) rfl rfl (by omega) (by omega) (by omega)) ?_|refine S_Q [] rfl rfl (QY.divN (c:=(kk:Int)) rfl rfl hdv (by omega) (by omega)) ?_|refine cP [0,1,2,3,4,5,6] (hPl) ?_|refine qS ?_|exact ⟨rfl,rfl⟩|fail)
  all_goals (exfalso; omega)
 | none =>
  have hP:=psL_no (d:=d) (p:=m / 256) (by omega) (tie.find_none hs)
  simp only
  have hgl:=gl_len ok tie
  have hH:=hin_H d
  have hne:d.gl.length=0→rowsC RB.cells d.gl=[]:=fun e=>by rw [List.eq_nil_of_length_eq_zero e]; rfl
  refine Tr.of row_tumbrelref09_Region_Find_ok rfl ?_
  repeat' (first|refine qN ?_|refine dN ?_|refine qB ?_|refine rT ?_|refine qU ?_|refine qL ?_|refine iF (fun h=>?_) (fun h=>?_)|refine aX ?_|refine S_Q [] rfl rfl (QY.divN (c:=((m / 256:Nat):Int)) rfl rfl (by omega) (by omega) (by omega)) ?_|refine S_Q [] rfl rfl (QY.ldP (k:=m / 256) (v:=.pointer none) rfl rfl hP rfl) ?_|refine S_Q [] rfl rfl (QY.fldR rfl) ?_|refine S_Q [] rfl rfl (QY.ldCs (r:=d.g0) (r':=d.g1) (i:=0) (j:=1) (c:=6) (o:=2) rfl (by omega) rfl hH rfl rfl rfl rfl rfl hne) ?_|refine qS ?_|fail)
  all_goals try (exfalso; omega)
  refine LWp.pick [4,6,61,62,63] [0,1,2,3,4,5,6,7] rfl rfl rfl (L_loop (fun q l K=>∃ k:Nat,q=d.gl.length-k∧k≤d.gl.length∧(∀ (j:Nat) (b:RB),j<k→d.gl[j]?=some b→¬ (b.page≤((m / 256:Nat):Int)∧((m / 256:Nat):Int)<b.page+pagesC b.n))∧l=[(4,ptr 7),(6,.int .i64 (m / 256:Nat)),(61,.slice (some ⟨d.g1.1,d.g1.2.1,some 0⟩) d.gl.length (d.gl.length+d.g1.2.2)),(62,.int .i64 d.gl.length),(63,.int .i64 k)]∧K=DRL d++[.cells 0 Pl.Z.cells]) d.gl.length ⟨0,rfl,by omega,by intro j b hj; omega,rfl,rfl⟩ ?_)
  rintro q _ _ ⟨k,rfl,hk,hno,rfl,rfl⟩
  first|refine L_seq (L_rs (S_done [] rfl (Nx.goL (iF (fun h=>L_skip (Nx.goL ?_)) (fun h=>L_exit ?_)))))|refine L_rs (S_done [] rfl (Nx.goL (L_seq (iF (fun h=>L_skip (Nx.goL ?_)) (fun h=>L_exit ?_)))))
  ·have hk2:k<d.gl.length:=by omega
   obtain ⟨b,hb⟩:∃ b,d.gl[k]?=some b:=⟨_,List.getElem?_eq_getElem hk2⟩
   have hmb:=List.mem_of_getElem? hb
   have hbd:=gl_bd ok tie hmb
   have hlo:=hbd.lo
   have hhi:=hbd.hi
   simp only at hlo hhi
   have hPg:=rPages_tr b.n
   have hpb:=pagesC_bd b.n
   by_cases hin:b.page≤((m / 256:Nat):Int)∧((m / 256:Nat):Int)<b.page+pagesC b.n
   ·rw [show Pl.val ((gin r.G ((m / 256:Nat):Int)).map placeG)=.tuple ⟨[.agg ⟨[.int .i64 b.page,.int .i64 0,.int .i64 (256*b.page),.int .i64 b.n,.int .i64 1,.bool true]⟩,.bool true]⟩ by rw [gin_hit ok tie hmb hin]; rfl]
    repeat' (first|refine qN ?_|refine dN ?_|refine d0 ?_|refine qB ?_|refine rT ?_|refine qU ?_|refine qL ?_|refine iF (fun h=>?_) (fun h=>?_)|refine S_Q [] rfl rfl (QY.idxR (k:=k) rfl rfl hk2) ?_|refine S_Q [] rfl rfl (QY.ldnCg (r:=d.g1) (k:=k) (i:=1) (c:=6) RB.ok rfl (by omega) rfl hH rfl rfl hb (by decide)) ?_|refine cP [] (hPg) ?_|refine aA ?_|refine aM ?_|refine sP 71 (fun h=>?_) (fun h=>?_)|refine qR ?_|refine qS ?_|exact ⟨rfl,rfl⟩|fail)
    all_goals (exfalso; omega)
   ·have hno':∀ (j:Nat) (b:RB),j<k+1→d.gl[j]?=some b→¬ (b.page≤((m / 256:Nat):Int)∧((m / 256:Nat):Int)<b.page+pagesC b.n):=fun j c hj hc=>by
     by_cases e:j=k
     ·subst e; rw [hb] at hc; cases hc; exact hin
     ·exact hno j c (by omega) hc
    repeat' (first|refine qN ?_|refine dN ?_|refine d0 ?_|refine qB ?_|refine rT ?_|refine qU ?_|refine qL ?_|refine iF (fun h=>?_) (fun h=>?_)|refine S_Q [] rfl rfl (QY.idxR (k:=k) rfl rfl hk2) ?_|refine S_Q [] rfl rfl (QY.ldnCg (r:=d.g1) (k:=k) (i:=1) (c:=6) RB.ok rfl (by omega) rfl hH rfl rfl hb (by decide)) ?_|refine cP [] (hPg) ?_|refine aA ?_|refine aM ?_|refine sP 71 (fun h=>?_) (fun h=>?_)|refine qR ?_|refine qS ?_|fail)
    all_goals first | (exfalso; omega)|exact Nx.pick [4,6,61,62,63] [0,1,2,3,4,5,6,7] rfl rfl rfl ⟨d.gl.length-(k+1),by omega,k+1,rfl,by omega,hno',rfl,rfl⟩
  ·obtain rfl:k=d.gl.length:=by omega
   refine Nx.goL ?_
   rw [gin_gl tie fun b hb=>by
    obtain ⟨j,hj⟩:=List.mem_iff_getElem?.1 hb
    exact hno j b (List.getElem?_eq_some_iff.1 hj).1 hj]
   repeat' (first|refine qN ?_|refine dN ?_|refine rT ?_|exact ⟨rfl,rfl⟩|fail)
end Go.Proofs.YtgfjgfapigekiaaGreat
end
section
namespace Go.Proofs.YtgfjgfapigekiaaGreat
open Go Go.Tum Go.Tum.Base
set_option maxRecDepth 4000
def DRX (d:DR) (ps:List (Option RA)):LH:=[.cells 0 [.int .i64 d.man,.int .u64 (d.key.toNat:Int),slE d.e d.N,slB 1 d.n,slB 2 d.n,adR d.g0 0],
 .gro 4 (rowsC PRow.cells d.rs),pRow ps,crowdO d.dl,crowdD d.key d.dl,box [d.e] [BL d.bs],crowdH d.key d.g0 d.g1 d.gq d.gl]
theorem dWith_nil (d:DR) (ps:List (Option RA)) (hl:ps.length=d.n) (p:Nat) (hp:p<d.n) (hn:d.n≤256):TrK Tryz.prog [] [0,1,3,4,5,6] 93 [ptr 0,.int .i64 p,.pointer none] (DRX d ps) (fun v K=>v=.tuple ⟨[]⟩∧K=DRX d (ps.set p none)):=by
 refine Tr.of row_tumbrelref09_Region_with_ok rfl ?_
 repeat' (first|refine qN ?_|fail)
 refine S_wk [] rfl (wk_gro0 (b:=7) 1 rfl) ?_
 first|refine L_rs ?_|refine L_reg ?_ | skip
 refine eE rfl rfl (EW.appP (bytes:=8) (ps:=ps) rfl (by kernel_rfl) rfl rfl rfl rfl hl (by omega) (by omega)) ?_
 conv=>whnf
 repeat' (first|refine qN ?_|refine dN ?_|refine aX ?_|fail)
 first|refine L_rs ?_|refine L_reg ?_ | skip
 refine eE rfl rfl (EW.stP (k:=p) (ps:=ps) (q:=none) rfl rfl rfl (by omega)) ?_
 conv=>whnf
 repeat' (first|refine dN ?_|refine d0 ?_|refine qR ?_|fail)
 exact RetQ.end [0,1,8,3,4,5,6] rfl rfl rfl rfl ⟨rfl,rfl⟩
theorem dWith_at (d:DR) (ps:List (Option RA)) (hl:ps.length=d.n) (p:Nat) (hp:p<d.n) (hn:d.n≤256) (o:RA):TrK Tryz.prog [] [0,1,3,4,5,6] 93 [ptr 0,.int .i64 p,adR o 0] (DRX d ps) (fun v K=>v=.tuple ⟨[]⟩∧K=DRX d (ps.set p (some o))):=by
 refine Tr.of row_tumbrelref09_Region_with_ok rfl ?_
 repeat' (first|refine qN ?_|fail)
 refine S_wk [] rfl (wk_gro0 (b:=7) 1 rfl) ?_
 first|refine L_rs ?_|refine L_reg ?_ | skip
 refine eE rfl rfl (EW.appP (bytes:=8) (ps:=ps) rfl (by kernel_rfl) rfl rfl rfl rfl hl (by omega) (by omega)) ?_
 conv=>whnf
 repeat' (first|refine qN ?_|refine dN ?_|refine aX ?_|fail)
 first|refine L_rs ?_|refine L_reg ?_ | skip
 refine eE rfl rfl (EW.stP (k:=p) (ps:=ps) (q:=some o) rfl rfl rfl (by omega)) ?_
 conv=>whnf
 repeat' (first|refine dN ?_|refine d0 ?_|refine qR ?_|fail)
 exact RetQ.end [0,1,8,3,4,5,6] rfl rfl rfl rfl ⟨rfl,rfl⟩
def knowR (d:DR) (i:Nat) (y:DE):DR:={ d with dl:=d.dl.set i { y with q:=curQ d.e d.N } }
theorem psL_setD {dl:List DE} {n i:Nat} {y z:DE} (hi:dl[i]?=some y) (h1:z.t.pg=y.t.pg) (h2:z.o=y.o):psL (dl.set i z) n=psL dl n:=by
 have key:∀ (p:Int),(dfind (dl.set i z) p).map (·.o)=(dfind dl p).map (·.o):=by
  intro p
  unfold dfind
  induction dl generalizing i with
  | nil=>simp at hi
  | cons a r ih =>
   cases i with
   | zero =>
    simp at hi; subst hi
    simp only [List.set_cons_zero,List.find?_cons,h1]
    split
    ·simp [h2]
    ·rfl
   | succ i =>
    simp only [List.set_cons_succ,List.find?_cons]
    split
    ·rfl
    ·exact ih (by simpa using hi)
 unfold psL
 exact List.map_congr_left fun p _=>key p
theorem memO_setD {dl:List DE} {i:Nat} {y z:DE} (hi:dl[i]?=some y) (h1:z.o=y.o) (h2:z.s0=y.s0) (h3:z.t.ow=y.t.ow):(dl.set i z).map memO=dl.map memO:=by
 apply List.ext_getElem?
 intro j
 rw [List.getElem?_map,List.getElem?_map,List.getElem?_set]
 split
 ·rename_i e; subst e
  rw [if_pos (List.getElem?_eq_some_iff.1 hi).1,hi]
  simp [memO,h1,h2,h3]
 ·rfl
theorem sl_vr {em:Emb} {e:RA} {N:Nat} (E:Emb) (v':Value) (h:VR E (slE e N) v'):SR em (stV (curQ e N)) v'∧one v'=true :=
 ⟨h,by rcases h with rfl | ⟨_,_,_,rfl⟩ <;> rfl⟩
theorem dSlab_no (r:PR) (d:DR) (ok:r.Ok) (tie:Tie r d) (a:Int) (h:a<0∨(d.n:Int)≤a∨dfind d.dl a=none):Tr Tryz.prog 96 [ptr 0,.int .i64 a] (DRL d) (fun v K=>v=.pointer none∧K=DRL d):=by
 have hn:=ok.n2
 have hdn:=tie.n
 by_cases h0:a<0∨(d.n:Int)≤a
 ·refine Tr.of row_tumbrelref09_Region_slab_ok rfl ?_
  repeat' (first|refine qN ?_|refine dN ?_|refine rT ?_|refine qT ?_|refine sP 7 (fun h=>?_) (fun h=>?_)|refine sP 16 (fun h=>?_) (fun h=>?_)|refine qS ?_|exact ⟨rfl,rfl⟩|fail)
  all_goals (exfalso; omega)
 ·obtain ⟨m,rfl⟩:=Int.eq_ofNat_of_zero_le (show 0≤a by omega)
  have hf:dfind d.dl (m:Int)=none:=by
   rcases h with h | h | h
   ·omega
   ·omega
   ·exact h
  have hP:=psL_no (d:=d) (p:=m) (by omega) hf
  refine Tr.of row_tumbrelref09_Region_slab_ok rfl ?_
  repeat' (first|refine qN ?_|refine dN ?_|refine rT ?_|refine qT ?_|refine aX ?_|refine S_Q [] rfl rfl (QY.ldP (k:=m) (v:=.pointer none) rfl rfl hP rfl) ?_|refine sP 7 (fun h=>?_) (fun h=>?_)|refine sP 16 (fun h=>?_) (fun h=>?_)|refine qS ?_|exact ⟨rfl,rfl⟩|fail)
  all_goals (exfalso; omega)
theorem dSlab_at (r:PR) (d:DR) (ok:r.Ok) (tie:Tie r d) (i:Nat) (y:DE) (hi:d.dl[i]?=some y) (hy:dfind d.dl y.t.pg=some y) (hpg:y.t.pg<d.n):Tr Tryz.prog 96 [ptr 0,.int .i64 y.t.pg] (DRL d) (fun v K=>v=adR y.s0 0∧K=DRL (knowR d i y)):=by
 have hn:=ok.n2
 have hdn:=tie.n
 have hmy:=List.mem_of_getElem? hi
 have hP:=psL_at (d:=d) (p:=y.t.pg) hpg hy
 have hO:=memO_in hmy
 have hE:DRL (knowR d i y)=[.cells 0 [.int .i64 d.man,.int .u64 (d.key.toNat:Int),slE d.e d.N,slB 1 d.n,slB 2 d.n,adR d.g0 0],
 .gro 4 (rowsC PRow.cells d.rs),pRow (psL d.dl d.n),crowdO d.dl,crowd ((d.dl.set i { y with q:=curQ d.e d.N }).map (memD d.key)),box [d.e] [BL d.bs],crowdH d.key d.g0 d.g1 d.gq d.gl]:=by
  unfold DRL knowR crowdO crowdD
  simp only
  rw [psL_setD (z:={ y with q:=curQ d.e d.N }) hi rfl rfl,memO_setD (z:={ y with q:=curQ d.e d.N }) hi rfl rfl rfl]
  rfl
 rw [hE]
 obtain ⟨p1,p2⟩:=set_perm { y with q:=curQ d.e d.N } hi
 have p1:=p1.map (memD d.key)
 have p2:=p2.map (memD d.key)
 rw [List.map_cons] at p1 p2
 refine Tr.of row_tumbrelref09_Region_slab_ok rfl ?_
 repeat' (first|refine qN ?_|refine dN ?_|refine rT ?_|refine qT ?_|refine qU ?_|refine qL ?_|refine aX ?_|refine S_Q [] rfl rfl (QY.ldP (k:=y.t.pg) (v:=adR y.o 0) rfl rfl hP rfl) ?_|refine S_Q [] rfl rfl (QY.fldR rfl) ?_|refine S_Q [] rfl rfl (QY.ldCa (r:=y.o) (i:=0) (c:=3) (o:=0) rfl (by omega) rfl hO rfl rfl rfl) ?_|refine sP 7 (fun h=>?_) (fun h=>?_)|refine sP 16 (fun h=>?_) (fun h=>?_)|refine qS ?_|fail)
 all_goals try (exfalso; omega)
 first|refine L_rs ?_|refine L_reg ?_ | skip
 refine eE rfl rfl (EW.stC (c:=4) (r:=y.s0) (o:=0) (i:=0) (sz:=0) (em:=[y.s0,y.s1]) (S:=DSr y.q d.key (nC y.t.c) (zC y.t.c) y.t) (u:=stV (curQ d.e d.N)) rfl (by omega) rfl sl_vr rfl p1 p2 rfl rfl (Nat.succ_pos _)) ?_
 conv=>whnf
 repeat' (first|refine qN ?_|refine dN ?_|refine rT ?_|refine aX ?_|refine S_Q [] rfl rfl (QY.ldP (k:=y.t.pg) (v:=adR y.o 0) rfl rfl hP rfl) ?_|refine S_Q [] rfl rfl (QY.fldR rfl) ?_|refine S_Q [] rfl rfl (QY.ldCa (r:=y.o) (i:=0) (c:=3) (o:=0) rfl (by omega) rfl hO rfl rfl rfl) ?_|exact ⟨rfl,rfl⟩|fail)
theorem Self.BL (bs:Bytes):Self [BL bs]:=by
 intro i x hx ea em w r hl
 match i,hx with
 | 0,hx=>cases hx; exact Iff.rfl
def DSt (key:BitVec 64) (N n z:Nat) (t:PS):LH:=[.cells 0 [slB 0 N,.int .u64 (key.toNat:Int),.int .i64 t.pg,.int .i64 t.c,slB 2 n,.int .i64 (numS z t.f)],.gro 1 (rowsC intC (stL t n))]
theorem DSr.up (e:RA) (N:Nat) (hN:N≠0) (key:BitVec 64) (n z:Nat) (t:PS):UpL [e] (DSr (curQ e N) key n z t) (DSt key N n z t) :=
 ⟨.cells ⟨Up.slR (i:=0) rfl hN,Up.int,Up.int,Up.int,Up.sl rfl,Up.int,trivial⟩,.gro,trivial⟩
theorem emb1 {e:Emb} (h:e.length=1):∃ a,e=[a]:=by
 match e,h with
 | [a],_=>exact ⟨a,rfl⟩
theorem dslabL {f:FuncId} {is:List Value} (e:RA) (key:BitVec 64) (N:Nat) (hN:N≠0) (bs bs':Bytes) (dl:List DE) (i:Nat) (y:DE) (t':PS) {v:Value} (hi:dl[i]?=some y) (hq:y.q=curQ e N) (hc:t'.c=y.t.c) (hv:Plain v) (his:∀ u∈is,Plain u)
  (ht:TrK Tryz.prog [] [1] f (ptr 1::is) (DSL key N bs (nC y.t.c) (zC y.t.c) y.t) (fun u K=>u=v∧K=DSL key N bs' (nC y.t.c) (zC y.t.c) t')) :
  Tr Tryz.prog f (adR y.s0 0::is) [crowdD key dl,box [e] [BL bs]] (fun u K=>∃ j:RA × RA,True∧u=v∧K=[crowdD key (dl.set i { y with s1:=j.2,q:=curQ j.1 N,t:=t' }),box [j.1] [BL bs']]):=by
 obtain ⟨h1,_⟩:=set_perm y hi
 have h1:=h1.map (memD key)
 rw [List.map_cons,show memD key y=([y.s0,y.s1],DSr (curQ e N) key (nC y.t.c) (zC y.t.c) y.t) by unfold memD; rw [hq]] at h1
 have:=TrK.shared (A:=[BL bs]) (A':=[BL bs']) (S:=DSr (curQ e N) key (nC y.t.c) (zC y.t.c) y.t) (T:=DSt key N (nC y.t.c) (zC y.t.c) y.t) (T':=DSt key N (nC y.t.c) (zC y.t.c) t') (S':=fun ea'=>DSr (curQ (ea'.getD 0 (0,0,0)) N) key (nC y.t.c) (zC y.t.c) t') (V:=fun _ _=>v) (b:=1) (k:=0) (L:=[crowdD key dl,box [e] [BL bs]]) (ea:=[e]) (em:=[y.s0,y.s1]) (vs:=adR y.s0 0::is) ht rfl rfl (by decide) (.perm h1) (DSr.up e N hN key _ _ _) (Self.BL _) (Self.BL _) rfl (fun ea' em' e1 e2 e3=>?_) (fun E vs' h _ _=>L2.head (fun v' h=>VR.toIn (i:=0) rfl rfl h) his h) (fun ea' em' v' e1 e2 e3 h E=>hv _ _ _ h)
 ·refine Tr.mono this ?_
  rintro u K ⟨ea',em',e1,e2,e3,rfl,rfl⟩
  obtain ⟨a,rfl⟩:=emb1 e1
  obtain ⟨b0,b1,rfl⟩:=emb2 e2
  have h0:=e3 1 y.s0 rfl rfl
  cases h0
  refine ⟨(a,b1),trivial,rfl,?_⟩
  obtain ⟨_,h2⟩:=set_perm { y with s1:=b1,q:=curQ a N,t:=t' } hi
  have h2:=h2.map (memD key)
  rw [List.map_cons,show memD key { y with s1:=b1,q:=curQ a N,t:=t' }=([y.s0,b1],DSr (curQ a N) key (nC y.t.c) (zC y.t.c) t') by unfold memD; rw [hc]] at h2
  unfold crowdD
  rw [crowd_perm h2]
  rfl
 ·obtain ⟨a,rfl⟩:=emb1 e1
  exact DSr.up a N hN key _ _ t'
end Go.Proofs.YtgfjgfapigekiaaGreat
end
section
namespace Go.Proofs.YtgfjgfapigekiaaGreat
open Go Go.Tum Go.Tum.Base
set_option maxRecDepth 4000
theorem dCountS (q:Q4) (key:BitVec 64) (n z:Nat) (t:PS) (hn:n≤16) (s:Int):Tr Tryz.prog 102 [ptr 0,.int .i64 s] (DSr q key n z t) (fun v K=>v=.int .i64 (cntS t s n)∧K=DSr q key n z t):=by
 refine Tr.of row_tumbrelref07_Slab_Count_ok rfl ?_
 repeat' (first|refine qN ?_|refine dN ?_|refine qB ?_|refine qS ?_|fail)
 refine LWp.pick [1,5,11,12,13] [0,1] rfl rfl rfl (L_loop (fun q' l K=>∃ k:Nat,q'=n-k∧k≤n∧l=[(1,.int .i64 s),(5,.int .i64 (cntS t s k)),(11,slB 1 n),(12,.int .i64 n),(13,.int .i64 k)]∧K=DSr q key n z t) n ⟨0,rfl,by omega,rfl,rfl⟩ ?_)
 rintro q' _ _ ⟨k,rfl,hk,rfl,rfl⟩
 first|refine L_seq (L_rs (S_done [] rfl (Nx.goL (iF (fun h=>L_skip (Nx.goL ?_)) (fun h=>L_exit ?_)))))|refine L_rs (S_done [] rfl (Nx.goL (L_seq (iF (fun h=>L_skip (Nx.goL ?_)) (fun h=>L_exit ?_)))))
 ·have hk2:k<n:=by omega
  have hc:=cntS_le t s k
  have hg:=stL_get t hk2
  by_cases e:t.st k=s
  ·repeat' (first|refine qN ?_|refine dN ?_|refine d0 ?_|refine qB ?_|refine qL ?_|refine iF (fun h=>?_) (fun h=>?_)|refine aX ?_|refine S_Q [] rfl rfl (QY.ldI rfl rfl hg) ?_|refine aA ?_|refine qR ?_|refine qS ?_|fail)
   all_goals first | (exfalso; omega)|exact Nx.pick [1,5,11,12,13] [0,1] rfl rfl rfl ⟨n-(k+1),by omega,k+1,rfl,by omega,by simp only [cntS]; rw [if_pos e]; rfl,rfl⟩
  ·repeat' (first|refine qN ?_|refine dN ?_|refine d0 ?_|refine qB ?_|refine qL ?_|refine iF (fun h=>?_) (fun h=>?_)|refine aX ?_|refine S_Q [] rfl rfl (QY.ldI rfl rfl hg) ?_|refine aA ?_|refine qR ?_|refine qS ?_|fail)
   all_goals first | (exfalso; omega)|exact Nx.pick [1,5,11,12,13] [0,1] rfl rfl rfl ⟨n-(k+1),by omega,k+1,rfl,by omega,by simp only [cntS]; rw [if_neg e]; rfl,rfl⟩
 ·obtain rfl:k=n:=by omega
  refine Nx.goL ?_
  repeat' (first|refine qN ?_|refine dN ?_|refine rT ?_|exact ⟨rfl,rfl⟩|fail)
theorem dCountL (key:BitVec 64) (dl:List DE) (i:Nat) (y:DE) (hi:dl[i]?=some y) (hn:nC y.t.c≤16) (s:Int):Tr Tryz.prog 102 [adR y.s0 0,.int .i64 s] [crowdD key dl] (fun v K=>v=.int .i64 (cntS y.t s (nC y.t.c))∧K=[crowdD key dl]):=by
 obtain ⟨h1,_⟩:=set_perm y hi
 have h1:=h1.map (memD key)
 rw [List.map_cons] at h1
 exact TrK.member (em:=[y.s0,y.s1]) (dCountS y.q key (nC y.t.c) (zC y.t.c) y.t hn s) h1 h1 rfl rfl (fun _ _ h=>L2.head (fun _ h=>VR.in0 (i:=0) rfl h) (plain1 plain_int) h) (fun _ h _=>h)
theorem dfind_at {dl:List DE} {p:Int} {y:DE} (h:dfind dl p=some y):∃ i:Nat,dl[i]?=some y:=List.mem_iff_getElem?.1 (List.mem_of_find?_eq_some h)
def homeI:Option Nat→Int
 | some p=>p
 | none => -1
set_option maxHeartbeats 1000000 in
theorem dHome_tr (r:PR) (d:DR) (ok:r.Ok) (tie:Tie r d) (c ow:Int):Tr Tryz.prog 50 [ptr 0,.int .i64 c,.int .i64 ow] (DRL d) (fun v K=>v=.int .i64 (homeI (r.home c ow))∧K=DRL d):=by
 have hn:=ok.n2
 have hdn:=tie.n
 refine Tr.of row_tumbrelref09_Region_Home_ok rfl ?_
 repeat' (first|refine qN ?_|refine dN ?_|refine qB ?_|refine qS ?_|fail)
 refine LWp.pick [0,1,2,12,13,14] [0,1,2,3,4,5,6] rfl rfl rfl (L_loop (fun q l K=>∃ k:Nat,q=d.n-k∧k≤d.n∧(∀ j,j<k→homeS r.sl c ow j=false)∧l=[(0,ptr 0),(1,.int .i64 c),(2,.int .i64 ow),(12,slB 2 d.n),(13,.int .i64 d.n),(14,.int .i64 k)]∧K=DRL d) d.n ⟨0,rfl,by omega,by intro j hj; omega,rfl,rfl⟩ ?_)
 rintro q _ _ ⟨k,rfl,hk,hno,rfl,rfl⟩
 first|refine L_seq (L_rs (S_done [] rfl (Nx.goL (iF (fun h=>L_skip (Nx.goL ?_)) (fun h=>L_exit ?_)))))|refine L_rs (S_done [] rfl (Nx.goL (L_seq (iF (fun h=>L_skip (Nx.goL ?_)) (fun h=>L_exit ?_)))))
 ·have hk2:k<d.n:=by omega
  have next:homeS r.sl c ow k=false→∀ j,j<k+1→homeS r.sl c ow j=false:=fun h0 j hj=>by
   by_cases e:j=k
   ·subst e; exact h0
   ·exact hno j (by omega)
  cases hs:sfind r.sl k with
  | none =>
   have hP:=psL_no (d:=d) hk2 (tie.find_none hs)
   have h0:homeS r.sl c ow k=false:=by unfold homeS; rw [hs]
   repeat' (first|refine qN ?_|refine dN ?_|refine d0 ?_|refine qB ?_|refine qU ?_|refine qL ?_|refine aX ?_|refine S_Q [] rfl rfl (QY.ldP (k:=k) (v:=.pointer none) rfl rfl hP rfl) ?_|refine aA ?_|refine qR ?_|refine qS ?_|fail)
   exact Nx.pick [0,1,2,12,13,14] [0,1,2,3,4,5,6] rfl rfl rfl ⟨d.n-(k+1),by omega,k+1,rfl,by omega,next h0,rfl,rfl⟩
  | some x =>
   obtain ⟨y,hy,hyt,hmy⟩:=tie.find_some hs
   obtain ⟨i,hi⟩:=dfind_at hy
   obtain ⟨_,_,hxm,_⟩:=sfind_some hs
   have hx:=ok.sok x hxm
   have hb:=hx.cls.bd
   have hP:=psL_at (d:=d) hk2 hy
   have hO:=memO_in hmy
   have hD:=memD_in hmy
   have hC:=dCountL d.key d.dl i y hi (by rw [hyt]; omega) 0
   have hcn:=cntS_le y.t 0 (nC y.t.c)
   have e0:homeS r.sl c ow k=decide (y.t.c=c∧y.t.ow=ow∧0<cntS y.t 0 (nC y.t.c)):=by unfold homeS; rw [hs,hyt]
   by_cases hh:y.t.c=c∧y.t.ow=ow∧0<cntS y.t 0 (nC y.t.c)
   ·rw [home_at (by omega) hno (by rw [e0]; exact decide_eq_true hh)]
    repeat' (first|refine qN ?_|refine dN ?_|refine d0 ?_|refine qB ?_|refine rT ?_|refine qU ?_|refine qL ?_|refine iF (fun h=>?_) (fun h=>?_)|refine aX ?_|refine S_Q [] rfl rfl (QY.ldP (k:=k) (v:=adR y.o 0) rfl rfl hP rfl) ?_|refine S_Q [] rfl rfl (QY.fldR rfl) ?_|refine S_Q [] rfl rfl (QY.ldCa (r:=y.o) (i:=0) (c:=3) (o:=0) rfl (by omega) rfl hO rfl rfl rfl) ?_|refine S_Q [] rfl rfl (QY.ldCi (r:=y.s0) (i:=0) (c:=4) (o:=3) rfl (by omega) rfl hD rfl rfl rfl) ?_|refine S_Q [] rfl rfl (QY.ldCi (r:=y.o) (i:=0) (c:=3) (o:=1) rfl (by omega) rfl hO rfl rfl rfl) ?_|refine cP [4] (hC) ?_|refine aA ?_|refine sP 32 (fun h=>?_) (fun h=>?_)|refine sP 40 (fun h=>?_) (fun h=>?_)|refine qR ?_|refine qS ?_|exact ⟨rfl,rfl⟩|fail)
    all_goals (exfalso; omega)
   ·have hn:=next (by rw [e0]; exact decide_eq_false hh)
    repeat' (first|refine qN ?_|refine dN ?_|refine d0 ?_|refine qB ?_|refine rT ?_|refine qU ?_|refine qL ?_|refine iF (fun h=>?_) (fun h=>?_)|refine aX ?_|refine S_Q [] rfl rfl (QY.ldP (k:=k) (v:=adR y.o 0) rfl rfl hP rfl) ?_|refine S_Q [] rfl rfl (QY.fldR rfl) ?_|refine S_Q [] rfl rfl (QY.ldCa (r:=y.o) (i:=0) (c:=3) (o:=0) rfl (by omega) rfl hO rfl rfl rfl) ?_|refine S_Q [] rfl rfl (QY.ldCi (r:=y.s0) (i:=0) (c:=4) (o:=3) rfl (by omega) rfl hD rfl rfl rfl) ?_|refine S_Q [] rfl rfl (QY.ldCi (r:=y.o) (i:=0) (c:=3) (o:=1) rfl (by omega) rfl hO rfl rfl rfl) ?_|refine cP [4] (hC) ?_|refine aA ?_|refine sP 32 (fun h=>?_) (fun h=>?_)|refine sP 40 (fun h=>?_) (fun h=>?_)|refine qR ?_|refine qS ?_|fail)
    all_goals first | (exfalso; omega)|exact Nx.pick [0,1,2,12,13,14] [0,1,2,3,4,5,6] rfl rfl rfl ⟨d.n-(k+1),by omega,k+1,rfl,by omega,hn,rfl,rfl⟩
 ·obtain rfl:k=d.n:=by omega
  refine Nx.goL ?_
  rw [home_none (by rw [← hdn]; exact hno)]
  repeat' (first|refine qN ?_|refine dN ?_|refine rT ?_|exact ⟨rfl,rfl⟩|fail)
def afterR (d:DR) (i:Nat) (y:DE) (j:RA × RA) (t:PS) (bs:Bytes):DR:={ d with e:=j.1,bs:=bs,dl:=d.dl.set i { y with s1:=j.2,q:=curQ j.1 d.N,t:=t } }
theorem DRL_after {d:DR} {i:Nat} {y:DE} (j:RA × RA) {t:PS} {bs:Bytes} (hi:d.dl[i]?=some y) (h1:t.pg=y.t.pg) (h2:t.ow=y.t.ow):DRL (afterR d i y j t bs)=[.cells 0 [.int .i64 d.man,.int .u64 (d.key.toNat:Int),slE j.1 d.N,slB 1 d.n,slB 2 d.n,adR d.g0 0],
 .gro 4 (rowsC PRow.cells d.rs),pRow (psL d.dl d.n),crowdO d.dl,crowdD d.key (d.dl.set i { y with s1:=j.2,q:=curQ j.1 d.N,t:=t }),box [j.1] [BL bs],crowdH d.key d.g0 d.g1 d.gq d.gl]:=by
 unfold DRL afterR crowdO
 simp only
 rw [psL_setD (z:={ y with s1:=j.2,q:=curQ j.1 d.N,t:=t }) hi h1 rfl,memO_setD (z:={ y with s1:=j.2,q:=curQ j.1 d.N,t:=t }) hi rfl rfl h2]
 rfl
theorem DRL_know {d:DR} {i:Nat} {y:DE} (hi:d.dl[i]?=some y):DRL (knowR d i y)=[.cells 0 [.int .i64 d.man,.int .u64 (d.key.toNat:Int),slE d.e d.N,slB 1 d.n,slB 2 d.n,adR d.g0 0],
 .gro 4 (rowsC PRow.cells d.rs),pRow (psL d.dl d.n),crowdO d.dl,crowdD d.key (d.dl.set i { y with q:=curQ d.e d.N }),box [d.e] [BL d.bs],crowdH d.key d.g0 d.g1 d.gq d.gl]:=by
 unfold DRL knowR crowdO
 simp only
 rw [psL_setD (z:={ y with q:=curQ d.e d.N }) hi rfl rfl,memO_setD (z:={ y with q:=curQ d.e d.N }) hi rfl rfl rfl]
 rfl
theorem get_set {α:Type} {l:List α} {i:Nat} {x y:α} (h:l[i]?=some x):(l.set i y)[i]?=some y:=by
 rw [List.getElem?_set,if_pos rfl,if_pos (List.getElem?_eq_some_iff.1 h).1]
theorem set_mem {α:Type} {l:List α} {i:Nat} {x y:α} (h:l[i]?=some x):y∈l.set i y:=List.mem_of_getElem? (get_set h)
theorem dslabA {f:FuncId} {is:List Value} (d:DR) (hN:d.N≠0) (i:Nat) (y:DE) (t':PS) (bs':Bytes) {v:Value} (hi:d.dl[i]?=some y) (hc:t'.c=y.t.c) (hv:Plain v) (his:∀ u∈is,Plain u)
  (ht:TrK Tryz.prog [] [1] f (ptr 1::is) (DSL d.key d.N d.bs (nC y.t.c) (zC y.t.c) y.t) (fun u K=>u=v∧K=DSL d.key d.N bs' (nC y.t.c) (zC y.t.c) t')) :
  Tr Tryz.prog f (adR y.s0 0::is) [crowdD d.key (d.dl.set i { y with q:=curQ d.e d.N }),box [d.e] [BL d.bs]] (fun u K=>∃ j:RA × RA,True∧u=v∧K=[crowdD d.key (d.dl.set i { y with s1:=j.2,q:=curQ j.1 d.N,t:=t' }),box [j.1] [BL bs']]):=by
 have:=dslabL d.e d.key d.N hN d.bs bs' (d.dl.set i { y with q:=curQ d.e d.N }) i { y with q:=curQ d.e d.N } t' (get_set hi) rfl hc hv his ht
 refine Tr.mono this ?_
 rintro u K ⟨j,_,rfl,rfl⟩
 exact ⟨j,trivial,rfl,by rw [List.set_set]⟩
structure Fct (r:PR) (d:DR) (i:Nat) (x:SE) (y:DE):Prop where
 hx:r.sl[i]?=some x
 hy:d.dl[i]?=some y
 t:y.t=x.t
 s:SOk r.man x
 fd:dfind d.dl y.t.pg=some y
 lt:y.t.pg<d.n
 N0:d.N≠0
 N:d.N=r.N
 bl:d.bs.length=d.N
 tok:y.t.Ok d.N (zC y.t.c) (nC y.t.c)
theorem fct {r:PR} {d:DR} (ok:r.Ok) (tie:Tie r d) {i:Nat} {x:SE} (hx:r.sl[i]?=some x):∃ y,Fct r d i x y:=by
 obtain ⟨y,hy,ht⟩:=tie.get hx
 have hm:=List.mem_of_getElem? hx
 have hs:=ok.sok x hm
 have hn:=tie.n
 have hpm:=hs.pg
 have h1:=ok.n1
 have hN:d.N=r.N:=by unfold DR.N PR.N; rw [hn]
 have hrN:r.N=256*(r.man+r.mgd):=rfl
 refine ⟨y,hx,hy,ht,hs,?_,by rw [ht]; omega,by omega,hN,by rw [tie.bs,hN]; exact ok.bl,by rw [ht,hN]; exact hs.t ok.n2⟩
 have hf:=tie.find (x.t.pg:Int)
 rw [sfind_mem ok.sap hm] at hf
 rw [ht]
 cases e:dfind d.dl (x.t.pg:Int) with
 | none=>rw [e] at hf; cases hf
 | some z =>
  have h2:=dfind_pg e
  obtain ⟨k,hk⟩:=dfind_at e
  have h3:=congrArg (fun l=>l[k]?) tie.ts
  simp only [List.getElem?_map,hk,Option.map_some] at h3
  cases e2:r.sl[k]? with
  | none=>rw [e2] at h3; cases h3
  | some x2 =>
   rw [e2] at h3
   have h3:z.t=x2.t:=Option.some.inj h3
   have hik:k=i:=by
    have hp:=ok.sap
    rw [List.pairwise_iff_getElem] at hp
    obtain ⟨l1,q1⟩:=List.getElem?_eq_some_iff.1 e2
    obtain ⟨l2,q2⟩:=List.getElem?_eq_some_iff.1 hx
    have h4:x2.t.pg=x.t.pg:=by rw [← h3]; omega
    rcases Nat.lt_trichotomy k i with h5 | h5 | h5
    ·exact absurd (by rw [q1,q2]; exact h4) (hp k i l1 l2 h5)
    ·exact h5
    ·exact absurd (by rw [q1,q2]; exact h4.symm) (hp i k l2 l1 h5)
   subst hik
   rw [hy] at hk; cases hk; rfl
theorem dTake_none (r:PR) (d:DR) (ok:r.Ok) (tie:Tie r d) (p:Int) (h:sfind r.sl p=none):Tr Tryz.prog 41 [ptr 0,.int .i64 p] (DRL d) (fun v K=>v=.tuple ⟨[.int .i64 0,.int .i64 6]⟩∧K=DRL d):=by
 have hS:=dSlab_no r d ok tie p (.inr (.inr (tie.find_none h)))
 refine Tr.of row_tumbrelref09_Region_Take_ok rfl ?_
 repeat' (first|refine qN ?_|refine dN ?_|refine rT ?_|refine qT ?_|(refine cSame hS ?_)|refine qS ?_|exact ⟨rfl,rfl⟩|fail)
theorem dTakeR_no (r:PR) (d:DR) (ok:r.Ok) (tie:Tie r d) (i:Nat) (x:SE) (y:DE) (F:Fct r d i x y) (e:Int) (he:(y.t.f = -1∧e=5)∨∃ k,k<nC y.t.c∧y.t.f=baseN y.t.pg (zC y.t.c) k∧(folP d.key d.bs (zC y.t.c) (nC y.t.c) y.t k).2=false∧e=4):Tr Tryz.prog 41 [ptr 0,.int .i64 y.t.pg] (DRL d) (fun v K=>∃ j:RA × RA,True∧v=.tuple ⟨[.int .i64 0,.int .i64 e]⟩∧K=DRL (afterR d i y j y.t d.bs)):=by
 have hi:=F.hy
 have hS:=dSlab_at r d ok tie i y hi F.fd F.lt
 rw [DRL_know hi] at hS
 have hT:TrK Tryz.prog [] [1] 97 [ptr 1] (DSL d.key d.N d.bs (nC y.t.c) (zC y.t.c) y.t) (fun v K=>v=.tuple ⟨[.int .i64 0,.int .i64 e]⟩∧K=DSL d.key d.N d.bs (nC y.t.c) (zC y.t.c) y.t):=by
  rcases he with ⟨h1,rfl⟩ | ⟨k,hk,h1,h2,rfl⟩
  ·exact dTake_full d.key d.N d.bs y.t h1
  ·exact dTake_form d.key d.N d.bs F.bl y.t F.tok k hk h1 h2
 have hA:=dslabA d F.N0 i y y.t d.bs hi rfl plain_tup2 plain0 hT
 have he0:e=5∨e=4:=by rcases he with ⟨_,h⟩ | ⟨_,_,_,_,h⟩ <;> omega
 have hE:=fun j=>DRL_after (d:=d) (i:=i) (y:=y) (t:=y.t) (bs:=d.bs) j hi rfl rfl
 refine Tr.of row_tumbrelref09_Region_Take_ok rfl ?_
 repeat' (first|refine qN ?_|refine dN ?_|refine qU ?_|refine qL ?_|(refine cF [0,1,2,3,4,5,6] (hS) ?_; conv=>whnf)|refine qS ?_|fail)
 refine cX (ι:=RA × RA) (C:=fun _=>True) (V:=fun _=>.tuple ⟨[.int .i64 0,.int .i64 e]⟩) (B:=fun j=>[crowdD d.key (d.dl.set i { y with s1:=j.2,q:=curQ j.1 d.N,t:=y.t }),box [j.1] [BL d.bs]]) [4,5] hA (fun j _=>?_)
 conv=>whnf
 have hD:(([y.s0,j.2],DSr (curQ j.1 d.N) d.key (nC y.t.c) (zC y.t.c) y.t):Mem)∈(d.dl.set i { y with s1:=j.2,q:=curQ j.1 d.N,t:=y.t }).map (memD d.key):=List.mem_map_of_mem (f:=memD d.key) (set_mem (y:={ y with s1:=j.2,q:=curQ j.1 d.N,t:=y.t }) hi)
 repeat' (first|refine qN ?_|refine dN ?_|refine rT ?_|refine qL ?_|refine iF (fun h=>?_) (fun h=>?_)|refine S_Q [] rfl rfl (QY.fldR rfl) ?_|refine S_Q [] rfl rfl (QY.ldCq (r:=y.s0) (i:=0) (c:=4) (o:=0) rfl (by first | omega | (dsimp only; omega) | fail) rfl hD rfl rfl rfl) ?_|refine aM ?_|refine qS ?_|fail)
 ·exact ⟨j,trivial,rfl,by rw [hE j]; rfl⟩
 ·exfalso; omega
theorem dTakeR_ok (r:PR) (d:DR) (ok:r.Ok) (tie:Tie r d) (i:Nat) (x:SE) (y:DE) (F:Fct r d i x y) (k:Nat) (hk:k<nC y.t.c) (hf:y.t.f=baseN y.t.pg (zC y.t.c) k) (nx:Int) (hfo:folP d.key d.bs (zC y.t.c) (nC y.t.c) y.t k=(nx,true)):Tr Tryz.prog 41 [ptr 0,.int .i64 y.t.pg] (DRL d) (fun v K=>∃ j:RA × RA,True∧v=.tuple ⟨[.int .i64 (baseN y.t.pg (zC y.t.c) k:Nat),.int .i64 0]⟩∧K=DRL (afterR d i y j (tookT y.t k nx) (tookB d.key d.bs y.t.pg (zC y.t.c) k))):=by
 have hi:=F.hy
 have hlt:=F.lt
 have hn:=ok.n2
 have hdn:=tie.n
 have hb:=F.tok.cls.bd
 obtain ⟨b1,b2,b3,b4,b5,b6,b7⟩:=F.tok.cls.base hk y.t.pg
 have hZ:=dSize_tr y.t.c
 rw [F.tok.cls.size] at hZ
 have hS:=dSlab_at r d ok tie i y hi F.fd F.lt
 rw [DRL_know hi] at hS
 have hA:=dslabA d F.N0 i y (tookT y.t k nx) (tookB d.key d.bs y.t.pg (zC y.t.c) k) hi rfl plain_tup2 plain0 (dTake_ok d.key d.N d.bs F.bl y.t F.tok k hk hf nx hfo)
 have hE:=fun j=>DRL_after (d:=d) (i:=i) (y:=y) (t:=tookT y.t k nx) (bs:=tookB d.key d.bs y.t.pg (zC y.t.c) k) j hi rfl rfl
 generalize tookB d.key d.bs y.t.pg (zC y.t.c) k=bs' at *
 refine Tr.of row_tumbrelref09_Region_Take_ok rfl ?_
 repeat' (first|refine qN ?_|refine dN ?_|refine qU ?_|refine qL ?_|(refine cF [0,1,2,3,4,5,6] (hS) ?_; conv=>whnf)|refine qS ?_|fail)
 refine cX (ι:=RA × RA) (C:=fun _=>True) (V:=fun _=>.tuple ⟨[.int .i64 k,.int .i64 0]⟩) (B:=fun j=>[crowdD d.key (d.dl.set i { y with s1:=j.2,q:=curQ j.1 d.N,t:=tookT y.t k nx }),box [j.1] [BL bs']]) [4,5] hA (fun j _=>?_)
 conv=>whnf
 have hD:(([y.s0,j.2],DSr (curQ j.1 d.N) d.key (nC y.t.c) (zC y.t.c) (tookT y.t k nx)):Mem)∈(d.dl.set i { y with s1:=j.2,q:=curQ j.1 d.N,t:=tookT y.t k nx }).map (memD d.key):=List.mem_map_of_mem (f:=memD d.key) (set_mem (y:={ y with s1:=j.2,q:=curQ j.1 d.N,t:=tookT y.t k nx }) hi)
 repeat' (first|refine qN ?_|refine dN ?_|refine rT ?_|refine qU ?_|refine qL ?_|refine S_Q [] rfl rfl (QY.fldR rfl) ?_|refine S_Q [] rfl rfl (QY.ldCq (r:=y.s0) (i:=0) (c:=4) (o:=0) rfl (by first | omega | (dsimp only; omega) | fail) rfl hD rfl rfl rfl) ?_|refine S_Q [] rfl rfl (QY.ldCi (r:=y.s0) (i:=0) (c:=4) (o:=3) rfl (by first | omega | (dsimp only; omega) | fail) rfl hD rfl rfl rfl) ?_|refine cP [] (hZ) ?_|refine S_Q [] rfl rfl (QY.mul (c:=((256*y.t.pg:Nat):Int)) rfl rfl (by omega) (by omega) (by omega)) ?_|refine S_Q [] rfl rfl (QY.mul (c:=((zC y.t.c*k:Nat):Int)) rfl rfl (by rw [Int.natCast_mul]) (by omega) (by omega)) ?_|refine S_Q [] rfl rfl (QY.add (c:=((baseN y.t.pg (zC y.t.c) k:Nat):Int)) rfl rfl (by omega) (by omega) (by omega)) ?_|refine qS ?_|fail)
 all_goals first | (exfalso; omega)|exact ⟨j,trivial,rfl,by rw [hE j]; rfl⟩
end Go.Proofs.YtgfjgfapigekiaaGreat
end
section
namespace Go.Proofs.YtgfjgfapigekiaaGreat
open Go Go.Tum Go.Tum.Base
set_option maxRecDepth 4000
def HSt (key:BitVec 64) (N:Nat) (gl:List RB):LH:=[.cells 0 [slB 0 N,.int .u64 (key.toNat:Int),slB 2 gl.length],.gro 2 (rowsC RB.cells gl)]
theorem HSr.up (e:RA) (N:Nat) (hN:N≠0) (key:BitVec 64) (gl:List RB):UpL [e] (HSr (curQ e N) key gl) (HSt key N gl) :=
 ⟨.cells ⟨Up.slR (i:=0) rfl hN,Up.int,Up.sl rfl,trivial⟩,.gro,trivial⟩
theorem hsetL {f:FuncId} {is:List Value} (e g0 g1:RA) (key:BitVec 64) (N:Nat) (hN:N≠0) (bs bs':Bytes) (hl:bs.length=N) (hl':bs'.length=N) (gl gl':List RB) {v:Value} (hv:Plain v) (his:∀ u∈is,Plain u) (h1:is.map (rnV 3 [1,0,2])=is) (h2:rnV 6 (phi2 [1,0,2] 3 (RS key bs' gl')) v=v)
  (ht:TrK Tryz.prog [] [0] f (ptr 0::is) (RS key bs gl) (fun u K=>u=v∧K=RS key bs' gl')) :
  Tr Tryz.prog f (adR g0 0::is) [crowdH key g0 g1 (curQ e N) gl,box [e] [BL bs]] (fun u K=>∃ j:RA × RA,True∧u=v∧K=[crowdH key g0 j.2 (curQ j.1 N) gl',box [j.1] [BL bs']]):=by
 have hF:=TrK.frame (L:=[BL bs]++HSt key N gl) (K2:=[BL bs']++HSt key N gl') (v2:=v) (vs:=ptr 1::is) (keep2:=[1]) [1,0,2] ht (by rw [List.map_cons]; exact congrArg (_::·) h1) (by decide) (by subst hl; exact ⟨rfl,rfl,rfl,trivial⟩) (by kernel_rfl) h2 (by subst hl'; rfl) (by decide)
 have:=TrK.shared (A:=[BL bs]) (A':=[BL bs']) (S:=HSr (curQ e N) key gl) (T:=HSt key N gl) (T':=HSt key N gl') (S':=fun ea'=>HSr (curQ (ea'.getD 0 (0,0,0)) N) key gl') (V:=fun _ _=>v) (b:=1) (k:=0) (L:=[crowdH key g0 g1 (curQ e N) gl,box [e] [BL bs]]) (ea:=[e]) (em:=[g0,g1]) (vs:=adR g0 0::is) hF rfl rfl (by decide) Has.self (HSr.up e N hN key _) (Self.BL _) (Self.BL _) rfl (fun ea' em' e1 e2 e3=>?_) (fun E vs' h _ _=>L2.head (fun v' h=>VR.toIn (i:=0) rfl rfl h) his h) (fun ea' em' v' e1 e2 e3 h E=>hv _ _ _ h)
 ·refine Tr.mono this ?_
  rintro u K ⟨ea',em',e1,e2,e3,rfl,rfl⟩
  obtain ⟨a,rfl⟩:=emb1 e1
  obtain ⟨b0,b1,rfl⟩:=emb2 e2
  have h0:=e3 1 g0 rfl rfl
  cases h0
  exact ⟨(a,b1),trivial,rfl,rfl⟩
 ·obtain ⟨a,rfl⟩:=emb1 e1
  exact HSr.up a N hN key gl'
theorem dDrop_none (r:PR) (d:DR) (ok:r.Ok) (tie:Tie r d) (a:Int) (h:r.base a=none):Tr Tryz.prog 42 [ptr 0,.int .i64 a] (DRL d) (fun v K=>v=.tuple ⟨[.bool false,.int .i64 6]⟩∧K=DRL d):=by
 have hF:=dFind_tr r d ok tie a
 unfold PR.base at h
 cases hf:r.find a with
 | none =>
  rw [hf] at hF
  refine Tr.of row_tumbrelref09_Region_Drop_ok rfl ?_
  repeat' (first|refine qN ?_|refine dN ?_|refine rT ?_|refine qT ?_|refine cP [0,1,2,3,4,5,6] (hF) ?_|refine qS ?_|exact ⟨rfl,rfl⟩|fail)
 | some p =>
  rw [hf] at hF h
  have hne:p.bs≠a:=fun e=>by simp only at h; rw [if_pos e] at h; cases h
  change Tr Tryz.prog _ _ _ (fun v K=>v=.tuple ⟨[.agg ⟨p.cells⟩,.bool true]⟩∧K=DRL d) at hF
  refine Tr.of row_tumbrelref09_Region_Drop_ok rfl ?_
  repeat' (first|refine qN ?_|refine dN ?_|refine rT ?_|refine qL ?_|refine iF (fun h=>?_) (fun h=>?_)|refine cP [0,1,2,3,4,5,6] (hF) ?_|refine qS ?_|exact ⟨rfl,rfl⟩|fail)
  all_goals (exfalso; omega)
theorem dDropR (r:PR) (d:DR) (ok:r.Ok) (tie:Tie r d) (i:Nat) (x:SE) (y:DE) (F:Fct r d i x y) (k:Nat) (hk:k<nC y.t.c) (t':PS) (bs':Bytes) (w:Bool) (e:Int) (hc:t'.c=y.t.c) (hpg:t'.pg=y.t.pg) (how:t'.ow=y.t.ow)
  (ht:TrK Tryz.prog [] [1] 100 [ptr 1,.int .i64 k] (DSL d.key d.N d.bs (nC y.t.c) (zC y.t.c) y.t) (fun v K=>v=.tuple ⟨[.bool w,.int .i64 e]⟩∧K=DSL d.key d.N bs' (nC y.t.c) (zC y.t.c) t')):Tr Tryz.prog 42 [ptr 0,.int .i64 (baseN y.t.pg (zC y.t.c) k:Nat)] (DRL d) (fun v K=>∃ j:RA × RA,True∧v=.tuple ⟨[.bool w,.int .i64 e]⟩∧K=DRL (afterR d i y j t' bs')):=by
 have hi:=F.hy
 have hFi:=dFind_tr r d ok tie (baseN y.t.pg (zC y.t.c) k:Nat)
 have hk':=hk
 rw [F.t] at hk'
 rw [F.t,ok.find_slot (List.mem_of_getElem? F.hx) hk',← F.t] at hFi
 change Tr Tryz.prog _ _ _ (fun v K=>v=.tuple ⟨[.agg ⟨(placeS x k).cells⟩,.bool true]⟩∧K=DRL d) at hFi
 simp only [Pl.cells,placeS,← F.t] at hFi
 have hS:=dSlab_at r d ok tie i y hi F.fd F.lt
 rw [DRL_know hi] at hS
 have hA:=dslabA d F.N0 i y t' bs' hi hc plain_tupb (plain1 plain_int) ht
 have hE:=fun j=>DRL_after (d:=d) (i:=i) (y:=y) (t:=t') (bs:=bs') j hi hpg how
 refine Tr.of row_tumbrelref09_Region_Drop_ok rfl ?_
 repeat' (first|refine qN ?_|refine dN ?_|refine rT ?_|refine qU ?_|refine qL ?_|refine iF (fun h=>?_) (fun h=>?_)|refine cP [0,1,2,3,4,5,6] (hFi) ?_|(refine cF [0,1,2,3,4,5,6] (hS) ?_; conv=>whnf)|refine qS ?_|fail)
 all_goals try (exfalso; omega)
 refine cX (ι:=RA × RA) (C:=fun _=>True) (V:=fun _=>.tuple ⟨[.bool w,.int .i64 e]⟩) (B:=fun j=>[crowdD d.key (d.dl.set i { y with s1:=j.2,q:=curQ j.1 d.N,t:=t' }),box [j.1] [BL bs']]) [4,5] hA (fun j _=>?_)
 conv=>whnf
 have hD:(([y.s0,j.2],DSr (curQ j.1 d.N) d.key (nC t'.c) (zC t'.c) t'):Mem)∈(d.dl.set i { y with s1:=j.2,q:=curQ j.1 d.N,t:=t' }).map (memD d.key):=List.mem_map_of_mem (f:=memD d.key) (set_mem (y:={ y with s1:=j.2,q:=curQ j.1 d.N,t:=t' }) hi)
 repeat' (first|refine qN ?_|refine dN ?_|refine rT ?_|refine S_Q [] rfl rfl (QY.fldR rfl) ?_|refine S_Q [] rfl rfl (QY.ldCq (r:=y.s0) (i:=0) (c:=4) (o:=0) rfl (by first | omega | (dsimp only; omega) | fail) rfl hD rfl rfl rfl) ?_|fail)
 all_goals first | (exfalso; omega)|exact ⟨j,trivial,rfl,by rw [hE j]; rfl⟩
theorem dGive_none (r:PR) (d:DR) (ok:r.Ok) (tie:Tie r d) (a:Int) (h:r.base a=none):Tr Tryz.prog 43 [ptr 0,.int .i64 a] (DRL d) (fun v K=>v=.int .i64 6∧K=DRL d):=by
 have hF:=dFind_tr r d ok tie a
 unfold PR.base at h
 cases hf:r.find a with
 | none =>
  rw [hf] at hF
  refine Tr.of row_tumbrelref09_Region_Give_ok rfl ?_
  repeat' (first|refine qN ?_|refine dN ?_|refine rT ?_|refine qT ?_|refine cP [0,1,2,3,4,5,6] (hF) ?_|refine qS ?_|exact ⟨rfl,rfl⟩|fail)
 | some p =>
  rw [hf] at hF h
  have hne:p.bs≠a:=fun e=>by simp only at h; rw [if_pos e] at h; cases h
  change Tr Tryz.prog _ _ _ (fun v K=>v=.tuple ⟨[.agg ⟨p.cells⟩,.bool true]⟩∧K=DRL d) at hF
  refine Tr.of row_tumbrelref09_Region_Give_ok rfl ?_
  repeat' (first|refine qN ?_|refine dN ?_|refine rT ?_|refine qT ?_|refine cP [0,1,2,3,4,5,6] (hF) ?_|refine sP 23 (fun h=>?_) (fun h=>?_)|refine qS ?_|exact ⟨rfl,rfl⟩|fail)
  all_goals (exfalso; omega)
theorem dGive_great (r:PR) (d:DR) (ok:r.Ok) (tie:Tie r d) (b:Int × Int × Nat) (hb:b∈r.G):Tr Tryz.prog 43 [ptr 0,.int .i64 (256*b.1)] (DRL d) (fun v K=>v=.int .i64 6∧K=DRL d):=by
 have hF:=dFind_tr r d ok tie (256*b.1)
 rw [ok.find_great hb] at hF
 change Tr Tryz.prog _ _ _ (fun v K=>v=.tuple ⟨[.agg ⟨(placeG b).cells⟩,.bool true]⟩∧K=DRL d) at hF
 simp only [Pl.cells,placeG] at hF
 refine Tr.of row_tumbrelref09_Region_Give_ok rfl ?_
 repeat' (first|refine qN ?_|refine dN ?_|refine rT ?_|refine qT ?_|refine cP [0,1,2,3,4,5,6] (hF) ?_|refine sP 23 (fun h=>?_) (fun h=>?_)|refine qS ?_|exact ⟨rfl,rfl⟩|fail)
theorem dGiveR (r:PR) (d:DR) (ok:r.Ok) (tie:Tie r d) (i:Nat) (x:SE) (y:DE) (F:Fct r d i x y) (k:Nat) (hk:k<nC y.t.c) (t':PS) (bs':Bytes) (e:Int) (hc:t'.c=y.t.c) (hpg:t'.pg=y.t.pg) (how:t'.ow=y.t.ow)
  (ht:TrK Tryz.prog [] [1] 101 [ptr 1,.int .i64 k] (DSL d.key d.N d.bs (nC y.t.c) (zC y.t.c) y.t) (fun v K=>v=.int .i64 e∧K=DSL d.key d.N bs' (nC y.t.c) (zC y.t.c) t')):Tr Tryz.prog 43 [ptr 0,.int .i64 (baseN y.t.pg (zC y.t.c) k:Nat)] (DRL d) (fun v K=>∃ j:RA × RA,True∧v=.int .i64 e∧K=DRL (afterR d i y j t' bs')):=by
 have hi:=F.hy
 have hFi:=dFind_tr r d ok tie (baseN y.t.pg (zC y.t.c) k:Nat)
 have hk':=hk
 rw [F.t] at hk'
 rw [F.t,ok.find_slot (List.mem_of_getElem? F.hx) hk',← F.t] at hFi
 change Tr Tryz.prog _ _ _ (fun v K=>v=.tuple ⟨[.agg ⟨(placeS x k).cells⟩,.bool true]⟩∧K=DRL d) at hFi
 simp only [Pl.cells,placeS,← F.t] at hFi
 have hS:=dSlab_at r d ok tie i y hi F.fd F.lt
 rw [DRL_know hi] at hS
 have hA:=dslabA d F.N0 i y t' bs' hi hc plain_int (plain1 plain_int) ht
 have hE:=fun j=>DRL_after (d:=d) (i:=i) (y:=y) (t:=t') (bs:=bs') j hi hpg how
 refine Tr.of row_tumbrelref09_Region_Give_ok rfl ?_
 repeat' (first|refine qN ?_|refine dN ?_|refine rT ?_|refine qT ?_|refine qU ?_|refine qL ?_|refine cP [0,1,2,3,4,5,6] (hFi) ?_|(refine cF [0,1,2,3,4,5,6] (hS) ?_; conv=>whnf)|refine sP 23 (fun h=>?_) (fun h=>?_)|refine qS ?_|fail)
 all_goals try (exfalso; omega)
 refine cX (ι:=RA × RA) (C:=fun _=>True) (V:=fun _=>.int .i64 e) (B:=fun j=>[crowdD d.key (d.dl.set i { y with s1:=j.2,q:=curQ j.1 d.N,t:=t' }),box [j.1] [BL bs']]) [4,5] hA (fun j _=>?_)
 conv=>whnf
 have hD:(([y.s0,j.2],DSr (curQ j.1 d.N) d.key (nC t'.c) (zC t'.c) t'):Mem)∈(d.dl.set i { y with s1:=j.2,q:=curQ j.1 d.N,t:=t' }).map (memD d.key):=List.mem_map_of_mem (f:=memD d.key) (set_mem (y:={ y with s1:=j.2,q:=curQ j.1 d.N,t:=t' }) hi)
 repeat' (first|refine qN ?_|refine dN ?_|refine rT ?_|refine S_Q [] rfl rfl (QY.fldR rfl) ?_|refine S_Q [] rfl rfl (QY.ldCq (r:=y.s0) (i:=0) (c:=4) (o:=0) rfl (by first | omega | (dsimp only; omega) | fail) rfl hD rfl rfl rfl) ?_|fail)
 all_goals first | (exfalso; omega)|exact ⟨j,trivial,rfl,by rw [hE j]; rfl⟩
def greatR (d:DR) (j:RA × RA) (rs:PRows) (bs:Bytes) (gl:List RB):DR:={ d with e:=j.1,g1:=j.2,gq:=curQ j.1 d.N,rs:=rs,bs:=bs,gl:=gl }
set_option maxHeartbeats 1000000 in
theorem dDrop_great (r:PR) (d:DR) (ok:r.Ok) (tie:Tie r d) (k:Nat) (b:RB) (hb:d.gl[k]?=some b) (g M:Nat) (hg:b.page=g) (hM:pagesC b.n=M):TrK Tryz.prog [] [0,2,3,4,5,6] 42 [ptr 0,.int .i64 (256*b.page)] (DRL d) (fun v K=>∃ j:RA × RA,True∧v=.tuple ⟨[.bool (rStands d.key d.bs b),.int .i64 0]⟩∧K=DRL (greatR d j (clearP d.rs g M) (overB d.bs (256*g) (List.replicate (256*M) 0xDD#8)) (d.gl.take k++d.gl.drop (k+1)))):=by
 have hmb:=List.mem_of_getElem? hb
 have hbd:=gl_bd ok tie hmb
 have hhi:=hbd.hi
 have hlo:=hbd.lo
 simp only at hhi hlo
 obtain ⟨M',hM',hM1,hM17⟩:=greatC_pages hbd.gr
 simp only at hM'
 obtain rfl:M'=M:=by omega
 have hn:=ok.n2
 have h1:=ok.n1
 have hdn:=tie.n
 have hN:d.N=256*d.n:=rfl
 have hrN:r.N=256*(r.man+r.mgd):=rfl
 have hbl:d.bs.length=d.N:=by rw [tie.bs,ok.bl]; omega
 have hgl:=gl_len ok tie
 obtain ⟨x,hx,hx1,hx2⟩:=(tie.gm b.page b.n).2 hmb
 have hFi:=dFind_tr r d ok tie (256*b.page)
 rw [← hx1,ok.find_great hx,hx1] at hFi
 change Tr Tryz.prog _ _ _ (fun v K=>v=.tuple ⟨[.agg ⟨(placeG x).cells⟩,.bool true]⟩∧K=DRL d) at hFi
 simp only [Pl.cells,placeG,hx1,hx2] at hFi
 have hrow:pAt d.rs g=lrow M':=by
  rw [tie.rs,pAt_row ok (by omega)]
  unfold rowP
  rw [ok.sfind_great hx (by rw [hx1,hx2]; omega),gin_mem ok.gap hx (by rw [hx1,hx2]; omega)]
  simp [hM,hg,hx1,hx2]
 have hrl:d.rs.length=d.n:=by rw [tie.rs,ok.rl]; omega
 have hC:=rClear_tr d.rs (by omega) g M' (by rw [hrow]; rfl) (by omega) (by omega)
 rw [hrl] at hC
 have hat:atR d.gl g=k:=atR_hit (b:=b) (fun j c hj hc=>by
  have hs:=tie.gs
  rw [List.pairwise_iff_getElem] at hs
  obtain ⟨l1,q1⟩:=List.getElem?_eq_some_iff.1 hc
  obtain ⟨l2,q2⟩:=List.getElem?_eq_some_iff.1 hb
  have:=hs j k (by rw [List.length_map]; exact l1) (by rw [List.length_map]; exact l2) hj
  simp only [List.getElem_map,q1,q2] at this
  omega) hb hg
 have hl2:(overB d.bs (256*g) (List.replicate (256*M') 0xDD#8)).length=d.bs.length:=overB_length (by rw [List.length_replicate]; omega)
 have hL:=hsetL d.e d.g0 d.g1 d.key d.N (by omega) d.bs _ hbl (by rw [hl2,hbl]) d.gl _ plain_tupb (plain1 plain_int) rfl rfl (rDrop_ok d.key d.bs (by omega) d.gl (by omega) k b g M' hg hb hat hM hM1 (by omega))
 rw [hg] at hFi ⊢
 refine Tr.of row_tumbrelref09_Region_Drop_ok rfl ?_
 repeat' (first|refine qN ?_|refine dN ?_|refine rT ?_|refine qT ?_|refine qL ?_|refine iF (fun h=>?_) (fun h=>?_)|refine cP [0,1,2,3,4,5,6] (hFi) ?_|refine S_Q [] rfl rfl (QY.fldR rfl) ?_|refine qS ?_|fail)
 all_goals try (exfalso; omega)
 first|refine L_rs ?_|refine L_reg ?_ | skip
 refine eE rfl rfl (EW.stC (c:=6) (ms:=[([d.g0,d.g1],HSr d.gq d.key d.gl)]) (ms':=[([d.g0,d.g1],HSr (curQ d.e d.N) d.key d.gl)]) (rest:=[]) (r:=d.g0) (o:=0) (i:=0) (sz:=0) (em:=[d.g0,d.g1]) (S:=HSr d.gq d.key d.gl) (u:=stV (curQ d.e d.N)) rfl (by first | omega | (dsimp only; omega) | fail) rfl sl_vr rfl (List.Perm.refl _) (List.Perm.refl _) rfl rfl (Nat.succ_pos _)) ?_
 conv=>whnf
 repeat' (first|refine qN ?_|refine dN ?_|fail)
 refine cX (ι:=RA × RA) (C:=fun _=>True) (V:=fun _=>.tuple ⟨[.bool (rStands d.key d.bs b),.int .i64 0]⟩) (B:=fun j=>[crowdH d.key d.g0 j.2 (curQ j.1 d.N) (d.gl.take k++d.gl.drop (k+1)),box [j.1] [BL (overB d.bs (256*g) (List.replicate (256*M') 0xDD#8))]]) [6,5] hL (fun j _=>?_)
 conv=>whnf
 have hH:(([d.g0,j.2],HSr (curQ j.1 d.N) d.key (d.gl.take k++d.gl.drop (k+1))):Mem)∈[(([d.g0,j.2],HSr (curQ j.1 d.N) d.key (d.gl.take k++d.gl.drop (k+1))):Mem)]:=List.mem_singleton.2 rfl
 repeat' (first|refine qN ?_|refine dN ?_|refine S_Q [] rfl rfl (QY.fldR rfl) ?_|refine S_Q [] rfl rfl (QY.ldCq (r:=d.g0) (i:=0) (c:=6) (o:=0) rfl (by first | omega | (dsimp only; omega) | fail) rfl hH rfl rfl rfl) ?_|(refine cF [1] (hC) ?_; conv=>whnf)|fail)
 exact L_ret (RetQ.pick [0,8,2,3,4,5,6] rfl rfl rfl rfl ⟨j,trivial,rfl,rfl⟩)
end Go.Proofs.YtgfjgfapigekiaaGreat
end
section
namespace Go.Proofs.YtgfjgfapigekiaaGreat
open Go Go.Tum Go.Tum.Base
set_option maxRecDepth 4000
theorem dShut_none (r:PR) (d:DR) (ok:r.Ok) (tie:Tie r d) (p:Int) (h:sfind r.sl p=none):Tr Tryz.prog 44 [ptr 0,.int .i64 p] (DRL d) (fun v K=>v=.int .i64 6∧K=DRL d):=by
 have hS:=dSlab_no r d ok tie p (.inr (.inr (tie.find_none h)))
 refine Tr.of row_tumbrelref09_Region_Shut_ok rfl ?_
 repeat' (first|refine qN ?_|refine dN ?_|refine rT ?_|refine qT ?_|(refine cSame hS ?_)|refine qS ?_|exact ⟨rfl,rfl⟩|fail)
theorem dShut_no (r:PR) (d:DR) (ok:r.Ok) (tie:Tie r d) (i:Nat) (x:SE) (y:DE) (F:Fct r d i x y) (h:cntS y.t 0 (nC y.t.c)<nC y.t.c):Tr Tryz.prog 44 [ptr 0,.int .i64 y.t.pg] (DRL d) (fun v K=>v=.int .i64 8∧K=DRL (knowR d i y)):=by
 have hi:=F.hy
 have hb:=F.tok.cls.bd
 have hS:=dSlab_at r d ok tie i y hi F.fd F.lt
 rw [DRL_know hi] at hS ⊢
 have hC:=dCountL d.key (d.dl.set i { y with q:=curQ d.e d.N }) i _ (get_set hi) (by show nC y.t.c≤16; omega) 0
 have hD:(([y.s0,y.s1],DSr (curQ d.e d.N) d.key (nC y.t.c) (zC y.t.c) y.t):Mem)∈(d.dl.set i { y with q:=curQ d.e d.N }).map (memD d.key):=List.mem_map_of_mem (f:=memD d.key) (set_mem (y:={ y with q:=curQ d.e d.N }) hi)
 have hne:nC y.t.c=0→rowsC intC (stL y.t (nC y.t.c))=[]:=fun e=>by omega
 have hcn:=cntS_le y.t 0 (nC y.t.c)
 refine Tr.of row_tumbrelref09_Region_Shut_ok rfl ?_
 repeat' (first|refine qN ?_|refine dN ?_|refine rT ?_|refine qU ?_|refine qL ?_|refine iF (fun h=>?_) (fun h=>?_)|(refine cF [0,1,2,3,4,5,6] (hS) ?_; conv=>whnf)|refine S_Q [] rfl rfl (QY.fldR rfl) ?_|refine S_Q [] rfl rfl (QY.ldCs (r:=y.s0) (r':=y.s1) (i:=0) (j:=1) (c:=4) (o:=4) rfl (by first | omega | (dsimp only; omega) | fail) rfl hD rfl rfl rfl rfl rfl hne) ?_|refine cP [4] (hC) ?_ (hc:=(by repeat' (first|exact trivial|refine ⟨.inr ⟨QY.ldCs (r:=y.s0) (r':=y.s1) (i:=0) (j:=1) (c:=4) (o:=4) rfl (by first | omega | (dsimp only; omega) | fail) rfl hD rfl rfl rfl rfl rfl hne,Sure.slice (by omega)⟩,?_⟩|fail)))|refine qS ?_|exact ⟨rfl,rfl⟩|fail)
 exfalso; simp only at h; omega
def shutR (d:DR) (p:Nat):DR:={ d with rs:=clearP d.rs p 1,dl:=d.dl.filter fun x => !decide ((x.t.pg:Int)=p) }
theorem psL_shut (dl:List DE) (n p:Nat):psL (dl.filter fun x => !decide ((x.t.pg:Int)=p)) n=(psL dl n).set p none:=by
 have key:∀ q:Nat,dfind (dl.filter fun x => !decide ((x.t.pg:Int)=p)) q=if q=p then none else dfind dl q:=by
  intro q
  unfold dfind
  rw [List.find?_filter]
  split
  ·rename_i e; subst e
   rw [List.find?_eq_none]
   intro x _
   simp
  ·rename_i e
   congr 1
   funext x
   by_cases h:(x.t.pg:Int)=q
   ·simp [h]; omega
   ·simp [h]
 unfold psL
 apply List.ext_getElem?
 intro j
 rw [List.getElem?_set,List.length_map,List.length_range]
 by_cases hj:j<n
 ·rw [List.getElem?_map,List.getElem?_range hj]
  simp only [Option.map_some]
  rw [key]
  by_cases e:p=j
  ·subst e; simp [hj]
  ·rw [if_neg e,if_neg (fun q=>e q.symm),List.getElem?_map,List.getElem?_range hj]; rfl
 ·rw [List.getElem?_eq_none (by simp; omega)]
  split
  ·rw [if_neg (by omega)]
  ·rw [List.getElem?_eq_none (by simp; omega)]
set_option maxHeartbeats 1000000 in
theorem dShut_ok (r:PR) (d:DR) (ok:r.Ok) (tie:Tie r d) (i:Nat) (x:SE) (y:DE) (F:Fct r d i x y) (h:cntS y.t 0 (nC y.t.c)=nC y.t.c):TrK Tryz.prog [] [0,3,4,5,6] 44 [ptr 0,.int .i64 y.t.pg] (DRL d) (fun v K=>v=.int .i64 0∧K=DRL (shutR (knowR d i y) y.t.pg)):=by
 have hi:=F.hy
 have hb:=F.tok.cls.bd
 have hn:=ok.n2
 have hdn:=tie.n
 have hlt:=F.lt
 have hS:=dSlab_at r d ok tie i y hi F.fd F.lt
 have hi1:(knowR d i y).dl[i]?=some { y with q:=curQ d.e d.N }:=get_set hi
 have hmx:=List.mem_of_getElem? F.hx
 have hpm:=F.s.pg
 rw [← F.t] at hpm
 have hrow:pAt (knowR d i y).rs y.t.pg=⟨1,y.t.c,y.t.ow,1⟩:=by
  show pAt d.rs y.t.pg=_
  rw [tie.rs,pAt_row ok (by omega)]; unfold rowP
  rw [F.t,sfind_mem ok.sap hmx]
 have hrl:(knowR d i y).rs.length=(knowR d i y).n:=by show d.rs.length=d.n; rw [tie.rs,ok.rl]; omega
 have hn1:(knowR d i y).n=d.n:=rfl
 generalize knowR d i y=d1 at *
 have hC:=dCountL d1.key d1.dl i _ hi1 (by show nC y.t.c≤16; omega) 0
 simp only [h] at hC
 have hD:(([y.s0,y.s1],DSr (curQ d.e d.N) d1.key (nC y.t.c) (zC y.t.c) y.t):Mem)∈d1.dl.map (memD d1.key):=List.mem_map_of_mem (f:=memD d1.key) (List.mem_of_getElem? hi1)
 have hne:nC y.t.c=0→rowsC intC (stL y.t (nC y.t.c))=[]:=fun e=>by omega
 have hW:=dWith_nil d1 (psL d1.dl d1.n) (psL_len _ _) y.t.pg (by omega) (by omega)
 have hCl:=rClear_tr d1.rs (by omega) y.t.pg 1 (by rw [hrow]; rfl) (by omega) (by omega)
 rw [hrl] at hCl
 refine TrK.post (R:=fun v K=>v=.int .i64 0∧K=[.cells 0 [.int .i64 d1.man,.int .u64 (d1.key.toNat:Int),slE d1.e d1.N,slB 1 d1.n,slB 2 d1.n,adR d1.g0 0],
  .gro 4 (rowsC PRow.cells (clearP d1.rs y.t.pg 1)),pRow ((psL d1.dl d1.n).set y.t.pg none),crowdO d1.dl,crowdD d1.key d1.dl,box [d1.e] [BL d1.bs],crowdH d1.key d1.g0 d1.g1 d1.gq d1.gl]) ?_ ?_
 ·refine Tr.of row_tumbrelref09_Region_Shut_ok rfl ?_
  repeat' (first|refine qN ?_|refine dN ?_|refine qU ?_|refine qL ?_|refine iF (fun h=>?_) (fun h=>?_)|(refine cF [0,1,2,3,4,5,6] (hS) ?_; conv=>whnf)|refine S_Q [] rfl rfl (QY.fldR rfl) ?_|refine S_Q [] rfl rfl (QY.ldCs (r:=y.s0) (r':=y.s1) (i:=0) (j:=1) (c:=4) (o:=4) rfl (by first | omega | (dsimp only; omega) | fail) rfl hD rfl rfl rfl rfl rfl hne) ?_|refine cP [4] (hC) ?_ (hc:=(by repeat' (first|exact trivial|refine ⟨.inr ⟨QY.ldCs (r:=y.s0) (r':=y.s1) (i:=0) (j:=1) (c:=4) (o:=4) rfl (by first | omega | (dsimp only; omega) | fail) rfl hD rfl rfl rfl rfl rfl hne,Sure.slice (by omega)⟩,?_⟩|fail)))|(refine cW [0,1,2,3,4,5,6] (hW) ?_; conv=>whnf)|(refine cF [1] (hCl) ?_; conv=>whnf)|refine qS ?_|fail)
  all_goals try (exfalso; omega)
  exact L_ret (RetQ.pick [0,7,2,3,4,5,6] rfl rfl rfl rfl ⟨rfl,rfl⟩)
 ·rintro v K ⟨rfl,rfl⟩
  refine ⟨_,(More.less (b:=3) (ms:=d1.dl.map memO) (ms':=(d1.dl.filter fun x => !decide ((x.t.pg:Int)=y.t.pg)).map memO) rfl (List.filter_sublist.map _)).trans (More.less (b:=4) (ms:=d1.dl.map (memD d1.key)) (ms':=(d1.dl.filter fun x => !decide ((x.t.pg:Int)=y.t.pg)).map (memD d1.key)) rfl (List.filter_sublist.map _)),rfl,?_⟩
  unfold DRL shutR
  simp only
  rw [psL_shut]
  rfl
theorem dPlaceT (r:PR) (d:DR) (ok:r.Ok) (tie:Tie r d) (n:Nat) (hn:1≤n∧n≤256):Tr Tryz.prog 90 [slB 0 d.n,.int .i64 0,.int .i64 d.man,.int .i64 n] [TB d.rs] (fun v K=>v=.int .i64 (placeI (placeP r.rs n r.man 0 0))∧K=[TB d.rs]):=by
 have hrl:d.rs.length=d.n:=by rw [tie.rs,ok.rl,tie.n]
 have:=rPlace_tr d.rs (by rw [hrl,tie.n]; exact ok.n2) 0 d.man n hn (Nat.zero_le _) (by rw [hrl,tie.n,tie.man]; omega)
 rw [hrl,Nat.sub_zero,tie.rs,tie.man] at this
 rw [tie.rs,tie.man]
 exact this
theorem dOpen_arg (d:DR) (c ow:Int) (h:sizeC c=0∨ow<0∨64≤ow):Tr Tryz.prog 39 [ptr 0,.int .i64 c,.int .i64 ow] (DRL d) (fun v K=>v=.tuple ⟨[.int .i64 0,.int .i64 1]⟩∧K=DRL d):=by
 have hZ:=dSize_tr c
 have hz:0≤sizeC c∧sizeC c≤128:=by unfold sizeC; (repeat' split) <;> omega
 generalize sizeC c=z at *
 refine Tr.of row_tumbrelref09_Region_Open_ok rfl ?_
 repeat' (first|refine qN ?_|refine dN ?_|refine rT ?_|refine qT ?_|refine qL ?_|refine iF (fun h=>?_) (fun h=>?_)|refine cP [] (hZ) ?_|refine sP 13 (fun h=>?_) (fun h=>?_)|refine sP 17 (fun h=>?_) (fun h=>?_)|refine qS ?_|exact ⟨rfl,rfl⟩|fail)
 all_goals (exfalso; omega)
theorem dOpen_full (r:PR) (d:DR) (ok:r.Ok) (tie:Tie r d) (c ow:Int) (hc:sizeC c≠0) (how:0≤ow∧ow<64) (hp:placeP r.rs 1 r.man 0 0=none):Tr Tryz.prog 39 [ptr 0,.int .i64 c,.int .i64 ow] (DRL d) (fun v K=>v=.tuple ⟨[.int .i64 0,.int .i64 5]⟩∧K=DRL d):=by
 have hZ:=dSize_tr c
 have hz:0≤sizeC c∧sizeC c≤128:=by unfold sizeC; (repeat' split) <;> omega
 have hM:=dPlaceT r d ok tie 1 (by decide)
 rw [show ((1:Nat):Int)=1 from rfl,hp] at hM
 change Tr Tryz.prog _ _ _ (fun v K=>v=.int .i64 (-1)∧K=[TB d.rs]) at hM
 generalize sizeC c=z at *
 refine Tr.of row_tumbrelref09_Region_Open_ok rfl ?_
 repeat' (first|refine qN ?_|refine dN ?_|refine rT ?_|refine qT ?_|refine qL ?_|refine iF (fun h=>?_) (fun h=>?_)|refine cP [] (hZ) ?_|refine cP [1] (hM) ?_|refine sP 13 (fun h=>?_) (fun h=>?_)|refine sP 17 (fun h=>?_) (fun h=>?_)|refine qS ?_|exact ⟨rfl,rfl⟩|fail)
 all_goals (exfalso; omega)
theorem dslabMake (e:RA) (key:BitVec 64) (N:Nat) (bs:Bytes) (hl:bs.length=N) (hN0:N≠0) (hN:N≤65536) {z n:Nat} {c:Int} (hc:Cls c z n) (p:Nat) (ow:Int) (hp:256*(p+1)≤N) (dl:List DE):Tr Tryz.prog 92 [slE e N,.int .u64 (key.toNat:Int),.int .i64 p,.int .i64 c] [crowdD key dl,box [e] [BL bs]]
  (fun v K=>∃ j:RA × RA × RA,True∧v=adR j.2.1 0∧K=[crowd (([j.2.1,j.2.2],DSr (curQ j.1 N) key n z (newPS key bs p c ow z n n))::dl.map (memD key)),box [j.1] [BL (madeP key bs p z n n).1]]):=by
 have hM:=dMake_tr key N bs hl hN hc p ow hp
 have:=TrK.shared (A:=[BL bs]) (A':=[BL (madeP key bs p z n n).1]) (S:=[]) (T:=[]) (T':=DSt key N n z (newPS key bs p c ow z n n)) (S':=fun ea'=>DSr (curQ (ea'.getD 0 (0,0,0)) N) key n z (newPS key bs p c ow z n n)) (V:=fun _ em'=>adR (em'.getD 0 (0,0,0)) 0) (b:=1) (k:=0) (L:=[crowdD key dl,box [e] [BL bs]]) (ea:=[e]) (em:=[]) (vs:=[slE e N,.int .u64 (key.toNat:Int),.int .i64 p,.int .i64 c]) hM rfl rfl (by decide) Has.none trivial (Self.BL _) (Self.BL _) rfl (fun ea' em' e1 e2 e3=>?_) (fun E vs' h _ _=>?_) (fun ea' em' v' e1 e2 e3 h E=>?_)
 ·refine Tr.mono this ?_
  rintro v K ⟨ea',em',e1,e2,e3,rfl,rfl⟩
  obtain ⟨a,rfl⟩:=emb1 e1
  obtain ⟨b0,b1,rfl⟩:=emb2 e2
  exact ⟨(a,b0,b1),trivial,rfl,rfl⟩
 ·obtain ⟨a,rfl⟩:=emb1 e1
  exact DSr.up a N hN0 key n z _
 ·refine L2.head (fun v' h=>?_) (by
   intro u hu
   simp only [List.mem_cons,List.not_mem_nil,or_false] at hu
   rcases hu with rfl | rfl | rfl <;> exact plain_int) h
  exact (Up.slR (ea:=[e]) (i:=0) (o:=0) (n:=N) (c:=N) rfl hN0 [] v').1 h
 ·obtain ⟨a,rfl⟩:=emb1 e1
  obtain ⟨b0,b1,rfl⟩:=emb2 e2
  exact VR.toOut (E:=E) (ea:=[a]) (em:=[b0,b1]) (i:=0) rfl rfl h
end Go.Proofs.YtgfjgfapigekiaaGreat
end
section
namespace Go.Proofs.YtgfjgfapigekiaaGreat
open Go Go.Tum Go.Tum.Base
set_option maxRecDepth 4000
def newDE (d:DR) (A:Nat) (c ow:Int) (j:RA × RA × RA) (o:RA):DE:=⟨o,j.2.1,j.2.2,curQ j.1 d.N,newPS d.key d.bs A c ow (zC c) (nC c) (nC c)⟩
def openR (d:DR) (A:Nat) (c ow:Int) (j:RA × RA × RA) (o:RA):DR:={ d with e:=j.1,rs:=layP d.rs A (srow c ow) 1,bs:=(madeP d.key d.bs A (zC c) (nC c) (nC c)).1,dl:=d.dl++[newDE d A c ow j o] }
theorem psL_open {dl:List DE} {n A:Nat} {y:DE} (h:dfind dl A=none) (hy:y.t.pg=A):psL (dl++[y]) n=(psL dl n).set A (some y.o):=by
 have key:∀ q:Nat,dfind (dl++[y]) q=if q=A then some y else dfind dl q:=by
  intro q
  unfold dfind at *
  rw [List.find?_append]
  by_cases e:q=A
  ·subst e
   rw [h,if_pos rfl]
   simp [hy]
  ·rw [if_neg e]
   have:List.find? (fun x:DE=>decide ((x.t.pg:Int)=q)) [y]=none:=by
    rw [List.find?_eq_none]; intro x hx; rw [List.mem_singleton] at hx; subst hx; simp; omega
   rw [this]; simp
 unfold psL
 apply List.ext_getElem?
 intro j
 rw [List.getElem?_set,List.length_map,List.length_range]
 by_cases hj:j<n
 ·rw [List.getElem?_map,List.getElem?_range hj]
  simp only [Option.map_some]
  rw [key]
  by_cases e:A=j
  ·subst e; simp [hj]
  ·rw [if_neg e,if_neg (fun q=>e q.symm),List.getElem?_map,List.getElem?_range hj]; rfl
 ·rw [List.getElem?_eq_none (by simp; omega)]
  split
  ·rw [if_neg (by omega)]
  ·rw [List.getElem?_eq_none (by simp; omega)]
def openR0 (d:DR) (A:Nat) (c ow:Int) (j:RA × RA × RA) (o:RA):DR:={ d with e:=j.1,rs:=layP d.rs A (srow c ow) 1,bs:=(madeP d.key d.bs A (zC c) (nC c) (nC c)).1,dl:=newDE d A c ow j o::d.dl }
theorem open_eq {d:DR} {A:Nat} {c ow:Int} {j:RA × RA × RA} {o:RA} (h:dfind d.dl A=none):DRX (openR0 d A c ow j o) ((psL d.dl d.n).set A (some o))=DRL (openR d A c ow j o):=by
 have hp:(d.dl++[newDE d A c ow j o]).Perm (newDE d A c ow j o::d.dl):=List.perm_append_comm
 unfold DRX DRL crowdO crowdD openR openR0
 simp only
 rw [crowd_perm (hp.map memO),crowd_perm (hp.map (memD d.key)),psL_open h rfl]
 rfl
set_option maxHeartbeats 1000000 in
theorem dOpen_ok (r:PR) (d:DR) (ok:r.Ok) (tie:Tie r d) (c ow:Int) (hc:Cls c (zC c) (nC c)) (how:0≤ow∧ow<64) (A:Nat) (hp:placeP r.rs 1 r.man 0 0=some (A:Int)) :
  TrK Tryz.prog [] [0,3,4,5,6] 39 [ptr 0,.int .i64 c,.int .i64 ow] (DRL d) (fun v K=>∃ (j:RA × RA × RA) (o:RA),v=.tuple ⟨[.int .i64 A,.int .i64 0]⟩∧K=DRL (openR d A c ow j o)):=by
 obtain ⟨hA,hfr⟩:=placeP_free hp (by decide)
 have hA:A+1≤r.man:=hA
 have hn:=ok.n2
 have h1:=ok.n1
 have hdn:=tie.n
 have hN:d.N=256*d.n:=rfl
 have hf:=tie.find_none (row_free ok (by omega) (hfr A (Nat.le_refl _) (by omega))).1
 have hz:=hc.bd
 have hZ:=dSize_tr c
 rw [hc.size] at hZ
 have hM:=dPlaceT r d ok tie 1 (by decide)
 rw [show ((1:Nat):Int)=1 from rfl,hp] at hM
 change Tr Tryz.prog _ _ _ (fun v K=>v=.int .i64 (A:Int)∧K=[TB d.rs]) at hM
 have hrl:d.rs.length=d.n:=by rw [tie.rs,ok.rl,tie.n]
 have hLa:=rLay_tr d.rs (by omega) A 1 (srow c ow) rfl (by decide) (by omega)
 rw [hrl] at hLa
 have hbl:d.bs.length=d.N:=by rw [tie.bs,ok.bl]; unfold PR.N; omega
 have hK:=dslabMake d.e d.key d.N d.bs hbl (by omega) (by omega) hc A ow (by omega) d.dl
 refine Tr.of row_tumbrelref09_Region_Open_ok rfl ?_
 repeat' (first|refine qN ?_|refine dN ?_|refine qT ?_|refine qU ?_|refine qL ?_|refine iF (fun h=>?_) (fun h=>?_)|refine cP [] (hZ) ?_|refine cP [1] (hM) ?_|(refine cF [1] (hLa) ?_; conv=>whnf)|refine sP 13 (fun h=>?_) (fun h=>?_)|refine sP 17 (fun h=>?_) (fun h=>?_)|refine qS ?_|fail)
 all_goals try (exfalso; omega)
 refine cX (ι:=RA × RA × RA) (C:=fun _=>True) (V:=fun j=>adR j.2.1 0) (B:=fun j=>[crowd (([j.2.1,j.2.2],DSr (curQ j.1 d.N) d.key (nC c) (zC c) (newPS d.key d.bs A c ow (zC c) (nC c) (nC c)))::d.dl.map (memD d.key)),box [j.1] [BL (madeP d.key d.bs A (zC c) (nC c) (nC c)).1]]) [4,5] hK (fun j _=>?_)
 conv=>whnf
 have hD:(([j.2.1,j.2.2],DSr (curQ j.1 d.N) d.key (nC c) (zC c) (newPS d.key d.bs A c ow (zC c) (nC c) (nC c))):Mem)∈(([j.2.1,j.2.2],DSr (curQ j.1 d.N) d.key (nC c) (zC c) (newPS d.key d.bs A c ow (zC c) (nC c) (nC c)))::d.dl.map (memD d.key)):=List.mem_cons_self ..
 repeat' (first|refine qN ?_|refine dN ?_|refine S_Q [] rfl rfl (QY.fldR rfl) ?_|refine S_Q [] rfl rfl (QY.ldCq (r:=j.2.1) (i:=0) (c:=4) (o:=0) rfl (by first | omega | (dsimp only; omega) | fail) rfl hD rfl rfl rfl) ?_|fail)
 refine S_wk [] rfl (fun _ _ _ _ h=>h) (LSt.nf ?_)
 conv=>whnf
 refine LSt.enter (c:=3) (N:=8) (sz:=0) (ms:=d.dl.map memO) (vs:=[adR j.2.1 0,.int .i64 ow]) rfl rfl rfl rfl (by decide) (fun o=>LSt.nf ?_)
 conv=>whnf
 have hW:=dWith_at (openR0 d A c ow j o) (psL d.dl d.n) (psL_len _ _) A (by show A<d.n; omega) (by show d.n≤256; omega) o
 have hE:=open_eq (c:=c) (ow:=ow) (j:=j) (o:=o) hf
 repeat' (first|refine qN ?_|refine dN ?_|(refine cW [0,7,2,3,4,5,6] (hW) ?_; conv=>whnf)|fail)
 exact L_ret (RetQ.pick [0,7,2,3,4,5,6] rfl rfl rfl rfl ⟨j,o,rfl,by rw [← hE]; rfl⟩)
theorem pagesC_zero {n:Int}:pagesC n=0↔greatC n=false:=by
 unfold pagesC greatC
 constructor
 ·intro h; simp; split at h <;> omega
 ·intro h; rw [if_pos]; simp at h; omega
theorem dGreat_arg (d:DR) (n:Int) (hn:greatC n=false):Tr Tryz.prog 46 [ptr 0,.int .i64 n] (DRL d) (fun v K=>v=.tuple ⟨[.int .i64 0,.int .i64 1]⟩∧K=DRL d):=by
 have hP:=rPages_tr n
 rw [pagesC_zero.2 hn] at hP
 refine Tr.of row_tumbrelref09_Region_Great_ok rfl ?_
 repeat' (first|refine qN ?_|refine dN ?_|refine rT ?_|refine qT ?_|refine cP [] (hP) ?_|refine qS ?_|exact ⟨rfl,rfl⟩|fail)
theorem dGreat_full (r:PR) (d:DR) (ok:r.Ok) (tie:Tie r d) (n:Int) (hn:greatC n=true) (hp:placeP r.rs (pagesC n) r.man 0 0=none):Tr Tryz.prog 46 [ptr 0,.int .i64 n] (DRL d) (fun v K=>v=.tuple ⟨[.int .i64 0,.int .i64 5]⟩∧K=DRL d):=by
 have hP:=rPages_tr n
 obtain ⟨M,hM,hM1,hM17⟩:=greatC_pages hn
 rw [hM] at hP hp
 have hPl:=dPlaceT r d ok tie M ⟨hM1,by omega⟩
 rw [hp] at hPl
 change Tr Tryz.prog _ _ _ (fun v K=>v=.int .i64 (-1)∧K=[TB d.rs]) at hPl
 refine Tr.of row_tumbrelref09_Region_Great_ok rfl ?_
 repeat' (first|refine qN ?_|refine dN ?_|refine rT ?_|refine qT ?_|refine qL ?_|refine iF (fun h=>?_) (fun h=>?_)|refine cP [] (hP) ?_|refine cP [1] (hPl) ?_|refine qS ?_|exact ⟨rfl,rfl⟩|fail)
 all_goals (exfalso; omega)
set_option maxHeartbeats 1000000 in
theorem dGreat_ok (r:PR) (d:DR) (ok:r.Ok) (tie:Tie r d) (n:Int) (hn:greatC n=true) (A M:Nat) (hM:pagesC n=M) (hp:placeP r.rs M r.man 0 0=some (A:Int)):TrK Tryz.prog [] [0,2,3,4,5,6] 46 [ptr 0,.int .i64 n] (DRL d) (fun v K=>∃ j:RA × RA,True∧v=.tuple ⟨[.int .i64 (256*A:Nat),.int .i64 0]⟩∧K=DRL (greatR d j (layP d.rs A (lrow M) M) (madeB d.key d.bs A M) (rPutL d.gl A n))):=by
 have hP:=rPages_tr n
 rw [hM] at hP
 obtain ⟨M',hM',hM1,hM17⟩:=greatC_pages hn
 obtain rfl:M'=M:=by omega
 obtain ⟨hA,hfr⟩:=placeP_free hp (by omega)
 have hn2:=ok.n2
 have hn1:=ok.n1
 have hdn:=tie.n
 have hN:d.N=256*d.n:=rfl
 have hbl:d.bs.length=d.N:=by rw [tie.bs,ok.bl]; unfold PR.N; omega
 have hgl:=gl_len ok tie
 have hPl:=dPlaceT r d ok tie M' ⟨hM1,by omega⟩
 rw [hp] at hPl
 change Tr Tryz.prog _ _ _ (fun v K=>v=.int .i64 (A:Int)∧K=[TB d.rs]) at hPl
 have hrl:d.rs.length=d.n:=by rw [tie.rs,ok.rl,tie.n]
 have hLa:=rLay_tr d.rs (by omega) A M' (lrow M') rfl hM1 (by omega)
 rw [hrl] at hLa
 have hl2:=madeB_length (key:=d.key) (bs:=d.bs) (p:=A) (M:=M') (by omega) hM1
 have hno:∀ b∈d.gl,∀ i:Nat,i<M'→(A:Int)+i<b.page∨b.page+pagesC b.n≤(A:Int)+i:=fun b hb i hi=>by
  have h1:=(row_free ok (by omega) (hfr (A+i) (by omega) (by omega))).2
  obtain ⟨x,hx,hx1,hx2⟩:=(tie.gm b.page b.n).2 hb
  have:=gin_none h1 x hx
  rw [hx1,hx2] at this
  omega
 have hL:=hsetL d.e d.g0 d.g1 d.key d.N (by omega) d.bs _ hbl (by rw [hl2,hbl]) d.gl _ plain_int (plain2 plain_int plain_int) rfl rfl (rMake8_tr d.key d.bs d.n (by rw [hbl]; rfl) (by omega) d.gl hgl (fun b hb=>by
  have h:=gl_bd ok tie hb
  have h1:=h.lo
  have h2:=h.hi
  have h3:=pagesC_bd b.n
  simp only at h1 h2
  omega) A M' n hn hM (by omega) hno)
 refine Tr.of row_tumbrelref09_Region_Great_ok rfl ?_
 repeat' (first|refine qN ?_|refine dN ?_|refine qU ?_|refine qL ?_|refine iF (fun h=>?_) (fun h=>?_)|refine cP [] (hP) ?_|refine cP [1] (hPl) ?_|(refine cF [1] (hLa) ?_; conv=>whnf)|refine S_Q [] rfl rfl (QY.fldR rfl) ?_|refine qS ?_|fail)
 all_goals try (exfalso; omega)
 first|refine L_rs ?_|refine L_reg ?_ | skip
 refine eE rfl rfl (EW.stC (c:=6) (ms:=[([d.g0,d.g1],HSr d.gq d.key d.gl)]) (ms':=[([d.g0,d.g1],HSr (curQ d.e d.N) d.key d.gl)]) (rest:=[]) (r:=d.g0) (o:=0) (i:=0) (sz:=0) (em:=[d.g0,d.g1]) (S:=HSr d.gq d.key d.gl) (u:=stV (curQ d.e d.N)) rfl (by first | omega | (dsimp only; omega) | fail) rfl sl_vr rfl (List.Perm.refl _) (List.Perm.refl _) rfl rfl (Nat.succ_pos _)) ?_
 conv=>whnf
 repeat' (first|refine qN ?_|refine dN ?_|fail)
 refine cX (ι:=RA × RA) (C:=fun _=>True) (V:=fun _=>.int .i64 0) (B:=fun j=>[crowdH d.key d.g0 j.2 (curQ j.1 d.N) (rPutL d.gl A n),box [j.1] [BL (madeB d.key d.bs A M')]]) [6,5] hL (fun j _=>?_)
 conv=>whnf
 have hH:(([d.g0,j.2],HSr (curQ j.1 d.N) d.key (rPutL d.gl A n)):Mem)∈[(([d.g0,j.2],HSr (curQ j.1 d.N) d.key (rPutL d.gl A n)):Mem)]:=List.mem_singleton.2 rfl
 repeat' (first|refine qN ?_|refine dN ?_|refine S_Q [] rfl rfl (QY.fldR rfl) ?_|refine S_Q [] rfl rfl (QY.ldCq (r:=d.g0) (i:=0) (c:=6) (o:=0) rfl (by first | omega | (dsimp only; omega) | fail) rfl hH rfl rfl rfl) ?_|refine aM ?_|fail)
 exact L_ret (RetQ.pick [0,7,2,3,4,5,6] rfl rfl rfl rfl ⟨j,trivial,rfl,rfl⟩)
end Go.Proofs.YtgfjgfapigekiaaGreat
end
section
namespace Go.Proofs.YtgfjgfapigekiaaGreat
open Go Go.Tum Go.Tum.Base
set_option maxRecDepth 4000
def DL0 (m n:Nat) (key:BitVec 64):LH :=
 [.cells 0 [.int .i64 m,.int .u64 (key.toNat:Int),slB 1 (256*n),slB 2 n,slB 3 n,ptr 4],BL (List.replicate (256*n) 0),TB (List.replicate n PRow.Z),pRow (List.replicate n none),
  .cells 0 [slB 1 (256*n),.int .u64 (key.toNat:Int),.slice none 0 0]]
set_option maxHeartbeats 2000000 in
theorem dNew0_tr (m g:Nat) (seed:BitVec 64) (h:m+g≤256) (h1:1≤m+g):Tr Tryz.prog 36 [.int .i64 m,.int .i64 g,.int .u64 (seed.toNat:Int)] [] (fun v K=>v=ptr 0∧K=DL0 m (m+g) (keyW seed)):=by
 have hK:=rKey_tr seed
 have hP:=rNew4_tr (m+g) h
 have hr1:=repC_rows (g:=byteC) (0:BitVec 8) (256*(m+g))
 have hr2:=repC_ptr (m+g)
 refine Tr.of row_tumbrelref09_New_ok rfl ?_
 repeat' (first|refine qN ?_|refine dN ?_|refine S_Q [] rfl rfl (QY.add (c:=((m+g:Nat):Int)) rfl rfl (by omega) (by omega) (by omega)) ?_|refine cP [] (hK) ?_|(refine cF [] (hP) ?_; conv=>whnf)|(refine S_E [] rfl rfl (EW.mk (sz:=1) (bytes:=1) (k:=256*(m+g)) (zs:=byteC (0:BitVec 8)) rfl (by kernel_rfl) rfl rfl (by omega) (by omega)) ?_; rw [hr1]; rintro _ _ ⟨rfl,rfl⟩; refine ⟨(by repeat' (first|exact trivial|fail)),LSt.nf ?_⟩; conv=>whnf)|(refine S_E [] rfl rfl (EW.mk (sz:=1) (bytes:=8) (k:=m+g) (zs:=[.pointer none]) rfl (by kernel_rfl) rfl rfl (by omega) (by omega)) ?_; rw [hr2]; rintro _ _ ⟨rfl,rfl⟩; refine ⟨(by repeat' (first|exact trivial|fail)),LSt.nf ?_⟩; conv=>whnf)|(refine S_E [] rfl rfl (esafe_ok rfl) ?_; rintro _ _ ⟨rfl,rfl⟩; refine ⟨(by repeat' (first|exact trivial|refine ⟨⟨qsafe_ok (st:=[]) rfl,Sure.of rfl⟩,?_⟩|refine ⟨⟨qsafe_ok (st:=[]) rfl,Sure.slice (by omega)⟩,?_⟩|fail)),LSt.nf ?_⟩; conv=>whnf)|refine L_rT ?_|refine P_lin rfl ?_|refine P_A [] rfl ?_ ?_|refine P_Q [] rfl rfl (QY.mul (c:=((256*(m+g):Nat):Int)) rfl rfl (by omega) (by omega) (by omega)) ?_|(refine P_Ed [] rfl rfl (EWd.callP [] (hK) rfl rfl (by decide) (by repeat' (first|exact trivial|fail)) rfl rfl) (disj_nil _) (nm_nilE _) (nm_nilT _) ?_; rintro _ _ ⟨rfl,rfl⟩; refine ⟨(by repeat' (first|exact trivial|fail)),?_⟩)|(refine P_E [] rfl rfl (EW.callF [] (hP) rfl rfl (by decide) (by repeat' (first|exact trivial|fail)) rfl rfl) ?_; rintro _ _ ⟨rfl,rfl⟩; refine ⟨(by repeat' (first|exact trivial|fail)),LPt.nf ?_⟩; conv=>whnf)|(refine P_E [] rfl rfl (EW.mk (sz:=1) (bytes:=1) (k:=256*(m+g)) (zs:=byteC (0:BitVec 8)) rfl (by kernel_rfl) rfl rfl (by omega) (by omega)) ?_; rw [hr1]; rintro _ _ ⟨rfl,rfl⟩; refine ⟨(by repeat' (first|exact trivial|fail)),LPt.nf ?_⟩; conv=>whnf)|(refine P_E [] rfl rfl (EW.mk (sz:=1) (bytes:=8) (k:=m+g) (zs:=[.pointer none]) rfl (by kernel_rfl) rfl rfl (by omega) (by omega)) ?_; rw [hr2]; rintro _ _ ⟨rfl,rfl⟩; refine ⟨(by repeat' (first|exact trivial|fail)),LPt.nf ?_⟩; conv=>whnf)|fail)
 all_goals first|exact L_ret (RetQ.pick [3,0,1,2,4] rfl rfl rfl rfl ⟨rfl,rfl⟩)|exact L_ret (RetQ.pick [3,0,2,1,4] rfl rfl rfl rfl ⟨rfl,rfl⟩)|exact L_ret (RetQ.pick [3,1,0,2,4] rfl rfl rfl rfl ⟨rfl,rfl⟩)|exact L_ret (RetQ.pick [3,1,2,0,4] rfl rfl rfl rfl ⟨rfl,rfl⟩)|exact L_ret (RetQ.pick [3,2,0,1,4] rfl rfl rfl rfl ⟨rfl,rfl⟩)|exact L_ret (RetQ.pick [3,2,1,0,4] rfl rfl rfl rfl ⟨rfl,rfl⟩)
theorem BoxAt.oneB {X:Nat→Prop} {w0 w:World} {E:Emb} {K:LH} (h:Rep X w0 E K w) {i:Nat} {a:RA} {x x':LB} (hx:K[i]?=some x') (ha:E[i]?=some a) (hx':LBis [a] w a x) (fx:foot a x=foot a x':=by rfl):BoxAt [a] [x] w:=by
 refine ⟨rfl,fun k z r hz hr=>?_,fun k k' z z' r r' c hz hz' hr hr' hc hc'=>?_,fun k z r c hz hr hc=>?_⟩
 ·match k,hz,hr with
  | 0,hz,hr=>cases hz; cases hr; exact hx'
 ·match k,k',hz,hz',hr,hr' with
  | 0,0,_,_,_,_=>rfl
 ·match k,hz,hr with
  | 0,hz,hr=>cases hz; cases hr; exact (h.rng i _ _ hx ha c (by rw [← fx]; exact hc)).2
def newD (m n:Nat) (key:BitVec 64) (e g0 g1:RA):DR:=⟨m,n,key,e,g0,g1,curQ e (256*n),List.replicate n PRow.Z,List.replicate (256*n) 0,[],[]⟩
theorem newTie (m g:Nat) (seed:BitVec 64) (a b g0 g1:RA) (m0:Nat) (e g2 g3:RA):Tie (newR m g seed a b g0 g1 m0) (newD m (m+g) (keyW seed) e g2 g3) :=
 ⟨rfl,rfl,rfl,rfl,rfl,rfl,List.Pairwise.nil,fun a n=>by simp [newR,newD]⟩
theorem dNew_tr (m g:Nat) (seed:BitVec 64) (h:m+g≤256) (h1:1≤m+g):TrK Tryz.prog [] [] 36 [.int .i64 m,.int .i64 g,.int .u64 (seed.toNat:Int)] [] (fun v K=>∃ e g0 g1,v=ptr 0∧K=DRL (newD m (m+g) (keyW seed) e g0 g1)):=by
 refine TrK.retell (Tr.nilC 4 2 2 (dNew0_tr m g seed h h1) rfl rfl) ?_
 rintro X w0 w E v v' K hR hv ⟨rfl,rfl⟩
 obtain ⟨e0,e1,e2,e3,e4,e5,rfl⟩:∃ a b c d e f,E=[a,b,c,d,e,f]:=by
  have:=hR.len
  match E,this with
  | [a,b,c,d,f,g],_=>exact ⟨a,b,c,d,f,g,rfl⟩
 have hN:256*(m+g)≠0:=by omega
 have B0:=hR.blk 0 _ e0 rfl rfl
 have B1:=hR.blk 1 _ e1 rfl rfl
 have B2:=hR.blk 2 _ e2 rfl rfl
 have B3:=hR.blk 3 _ e3 rfl rfl
 have B4:=hR.blk 4 _ e4 rfl rfl
 have B5:=hR.blk 5 _ e5 rfl rfl
 have hA:BoxAt [e1] [BL (List.replicate (256*(m+g)) 0)] w:=BoxAt.oneB hR (i:=1) rfl rfl B1
 have hG:BoxAt [e4,e5] (HSr (curQ e1 (256*(m+g))) (keyW seed) []) w:=BoxAt.two hR (i:=4) (j:=5) (by decide) rfl rfl rfl rfl (B4.cellsTo ⟨SRm.slR rfl hN,SRm.int,SRm.sl rfl rfl,trivial⟩) B5 rfl rfl
 have hps:psL [] (m+g)=List.replicate (m+g) none:=by
  apply List.ext_getElem?
  intro j
  rw [List.getElem?_replicate]
  by_cases hj:j<m+g
  ·rw [psL_get hj,if_pos hj]; rfl
  ·rw [if_neg hj,List.getElem?_eq_none (by rw [psL_len]; omega)]
 refine ⟨[e0,e2,e3,(0,0,0),(0,0,0),(0,0,0),(0,0,0)],ptr 0,DRL (newD m (m+g) (keyW seed) e1 e4 e5),Nat.zero_le _,hR.regroup (fun j=>[0,5,1,2,6,6].getD j 0) rfl (fun i x r hx hr=>?_) (fun i x r c hx hr hc=>?_),(SRm.ptr (i:=0) (r:=e0) rfl rfl v' hv),e1,e4,e5,rfl,rfl⟩
 ·match i,hx,hr with
  | 0,hx,hr=>cases hx; cases hr; exact B0.cellsTo ⟨SRm.int,SRm.int,SRm.slR rfl hN,SRm.sl rfl rfl,SRm.sl rfl rfl,SRm.real rfl,trivial⟩
  | 1,hx,hr=>cases hx; cases hr; exact B2
  | 2,hx,hr=>cases hr; have hx:some (pRow (psL [] (m+g)))=some x:=hx; rw [hps] at hx; cases hx; exact B3
  | 3,hx,hr=>cases hx; cases hr; exact CrowdAt.is ⟨fun m hm=>(by simp [newD] at hm),List.Pairwise.nil⟩ rfl
  | 4,hx,hr=>cases hx; cases hr; exact CrowdAt.is ⟨fun m hm=>(by simp [newD] at hm),List.Pairwise.nil⟩ rfl
  | 5,hx,hr=>cases hx; cases hr; exact hA.is rfl
  | 6,hx,hr=>cases hx; cases hr; exact CrowdAt.is ⟨fun m hm=>(by rw [List.mem_singleton] at hm; subst hm; exact hG),List.pairwise_singleton _ _⟩ rfl
 ·match i,hx,hr with
  | 0,hx,hr=>cases hx; cases hr; exact ⟨0,_,e0,rfl,rfl,rfl,hc⟩
  | 1,hx,hr=>cases hx; cases hr; exact ⟨2,_,e2,rfl,rfl,rfl,hc⟩
  | 2,hx,hr=>cases hr; have hx:some (pRow (psL [] (m+g)))=some x:=hx; rw [hps] at hx; cases hx; exact ⟨3,_,e3,rfl,rfl,rfl,hc⟩
  | 3,hx,hr=>cases hx; cases hr; obtain ⟨m,hm,_⟩:=hc; exact absurd hm (by simp [newD])
  | 4,hx,hr=>cases hx; cases hr; obtain ⟨m,hm,_⟩:=hc; exact absurd hm (by simp [newD])
  | 5,hx,hr =>
   cases hx; cases hr
   obtain ⟨k,z,r,hz,hr,hc⟩:=hc
   match k,hz,hr with
   | 0,hz,hr=>cases hz; cases hr; exact ⟨1,_,e1,rfl,rfl,rfl,hc⟩
  | 6,hx,hr =>
   cases hx; cases hr
   obtain ⟨m,hm,hc⟩:=hc
   rw [List.mem_singleton] at hm
   subst hm
   rcases footL2 hc with h | h
   ·exact ⟨4,_,e4,rfl,rfl,rfl,h⟩
   ·exact ⟨5,_,e5,rfl,rfl,rfl,h⟩
end Go.Proofs.YtgfjgfapigekiaaGreat
end
section
namespace Go.Tum.Base
open Go Go.Tum Go.Proofs.YtgfjgfapigekiaaGreat
set_option maxRecDepth 4000
theorem layP_get {rs:PRows} {a m:Nat} {r:PRow} (hm:1≤m) (h:a+m≤rs.length) (p:Nat):(layP rs a r m)[p]?=if p=a then some r else if a<p∧p<a+m then some tailP else rs[p]?:=by
 unfold layP
 by_cases h1:p<a
 ·rw [List.append_assoc,List.getElem?_append_left (by simp; omega),List.getElem?_take,if_pos h1,if_neg (by omega),if_neg (by omega)]
 ·rw [List.append_assoc,List.getElem?_append_right (by simp; omega),List.length_take,Nat.min_eq_left (by omega)]
  by_cases h2:p<a+m
  ·rw [List.getElem?_append_left (by simp; omega)]
   by_cases h3:p=a
   ·subst h3; simp
   ·rw [if_neg h3,if_pos (by omega),show p-a=(p-a-1)+1 by omega,List.getElem?_cons_succ,List.getElem?_replicate,if_pos (by omega)]
  ·rw [List.getElem?_append_right (by simp; omega),if_neg (by omega),if_neg (by omega),List.getElem?_drop]
   congr 1; simp; omega
theorem clearP_get {rs:PRows} {a m:Nat} (h:a+m≤rs.length) (p:Nat):(clearP rs a m)[p]?=if a≤p∧p<a+m then some PRow.Z else rs[p]?:=by
 unfold clearP
 by_cases h1:p<a
 ·rw [List.append_assoc,List.getElem?_append_left (by simp; omega),List.getElem?_take,if_pos h1,if_neg (by omega)]
 ·rw [List.append_assoc,List.getElem?_append_right (by simp; omega),List.length_take,Nat.min_eq_left (by omega)]
  by_cases h2:p<a+m
  ·rw [List.getElem?_append_left (by simp; omega),if_pos (by omega),List.getElem?_replicate,if_pos (by omega)]
  ·rw [List.getElem?_append_right (by simp; omega),if_neg (by omega),List.getElem?_drop]
   congr 1; simp; omega
def keyS (x:SE):Nat × Int × Int:=(x.t.pg,x.t.c,x.t.ow)
theorem sfind_key (sl:SEs) (p:Int):(sfind sl p).map keyS=(sl.map keyS).find? fun k=>decide ((k.1:Int)=p):=by
 unfold sfind
 rw [List.find?_map]; rfl
theorem rowP_key {sl sl':SEs} (h:sl.map keyS=sl'.map keyS) (G:Great) (p:Int):rowP sl G p=rowP sl' G p:=by
 have h1:(sfind sl p).map keyS=(sfind sl' p).map keyS:=by rw [sfind_key,sfind_key,h]
 unfold rowP
 cases e:sfind sl p with
 | none =>
  rw [e] at h1
  cases e':sfind sl' p with
  | none=>rfl
  | some y=>rw [e'] at h1; cases h1
 | some x =>
  rw [e] at h1
  cases e':sfind sl' p with
  | none=>rw [e'] at h1; cases h1
  | some y =>
   rw [e'] at h1
   have h2:=Option.some.inj h1
   unfold keyS at h2
   simp only [Prod.mk.injEq] at h2
   simp only [h2.2.1,h2.2.2]
theorem set_same {α β:Type} {f:α→β} {l:List α} {i:Nat} {x y:α} (hi:l[i]?=some x) (h:f y=f x):(l.set i y).map f=l.map f:=by
 apply List.ext_getElem?
 intro j
 rw [List.getElem?_map,List.getElem?_map,List.getElem?_set]
 split
 ·rename_i hj
  subst hj
  rw [hi]
  have:=(List.getElem?_eq_some_iff.1 hi).1
  rw [if_pos this]
  exact congrArg some h
 ·rfl
theorem pairwise_key {sl sl':SEs} (h:sl.map keyS=sl'.map keyS) (hp:sl.Pairwise fun x y=>x.t.pg≠y.t.pg):sl'.Pairwise fun x y=>x.t.pg≠y.t.pg:=by
 have h1:(sl.map keyS).Pairwise fun a b=>a.1≠b.1:=(List.pairwise_map (f:=keyS)).2 hp
 rw [h] at h1
 exact (List.pairwise_map (f:=keyS)).1 h1
section
variable {r:PR}
theorem PR.Ok.up (ok:r.Ok) {i:Nat} {x:SE} (hi:r.sl[i]?=some x) {t:PS} {bs:Bytes} (hk:keyS { x with t:=t }=keyS x) (hf:t.f = -1∨∃ k,k<nC x.t.c∧t.f=baseN x.t.pg (zC x.t.c) k∧t.st k=0) (hb:bs.length=r.bs.length):(r.upS i x t bs).Ok:=by
 have hx:=List.mem_of_getElem? hi
 have hm:(r.upS i x t bs).sl.map keyS=r.sl.map keyS:=set_same hi hk
 have hs:=ok.sok x hx
 unfold keyS at hk
 simp only [Prod.mk.injEq] at hk
 obtain ⟨k1,k2,k3⟩:=hk
 refine ⟨ok.n1,ok.n2,ok.rl,hb.trans ok.bl,?_,pairwise_key hm.symm ok.sap,ok.gok,ok.gg,ok.gap,?_,?_⟩
 ·intro y hy
  rcases List.mem_or_eq_of_mem_set hy with hy | rfl
  ·exact ok.sok y hy
  ·refine ⟨?_,?_,?_,?_⟩
   ·simp only [k2]; exact hs.cls
   ·simp only [k1]; exact hs.pg
   ·simp only [k3]; exact hs.ow
   ·simp only [k1,k2]; exact hf
 ·intro y hy b hb
  rcases List.mem_or_eq_of_mem_set hy with hy | rfl
  ·exact ok.sg y hy b hb
  ·simp only [k1]; exact ok.sg x hx b hb
 ·intro p hp
  show r.rs[p]?=some (rowP _ r.G p)
  rw [rowP_key hm]
  exact ok.row p hp
theorem tookT_f {key:BitVec 64} {bs:Bytes} {x:SE} {k:Nat} {nx:Int} (hs:SOk r.man x) (hN:r.man≤256) (hk:k<nC x.t.c) (hfo:folP key bs (zC x.t.c) (nC x.t.c) x.t k=(nx,true)):(tookT x.t k nx).f = -1∨∃ j,j<nC x.t.c∧(tookT x.t k nx).f=baseN x.t.pg (zC x.t.c) j∧(tookT x.t k nx).st j=0:=by
 have hb:=hs.cls.bd
 have hp:=hs.pg
 by_cases h1:nx = -1
 ·exact .inl h1
 ·obtain ⟨j,hj,h2,h3⟩:=fol_some hfo h1
  refine .inr ⟨j,hj,h2,?_⟩
  rw [h2] at hfo
  have:=(fol_hit hs.cls (by omega) hk hj).2 hfo
  rw [st_took (by omega) (by omega),if_neg this.2.1]
  exact h3
theorem PR.Ok.took (ok:r.Ok) {i:Nat} {x:SE} (hi:r.sl[i]?=some x) {k:Nat} (hk:k<nC x.t.c) {nx:Int} (hfo:folP r.key r.bs (zC x.t.c) (nC x.t.c) x.t k=(nx,true)):(r.upS i x (tookT x.t k nx) (tookB r.key r.bs x.t.pg (zC x.t.c) k)).Ok:=by
 have hs:=ok.sok x (List.mem_of_getElem? hi)
 have hp:=hs.pg
 have hn:=ok.n2
 have hbl:=ok.bl
 have hN:r.N=256*(r.man+r.mgd):=rfl
 exact ok.up hi rfl (tookT_f hs (by omega) hk hfo) (tookB_length hs.cls hk (by omega))
theorem PR.Ok.drop (ok:r.Ok) {i:Nat} {x:SE} (hi:r.sl[i]?=some x) {k:Nat} (hk:k<nC x.t.c) (hst:x.t.st k=1):(r.upS i x (dropT x.t k) (dropB r.bs x.t.pg (zC x.t.c) k)).Ok:=by
 have hs:=ok.sok x (List.mem_of_getElem? hi)
 have hp:=hs.pg
 have hb:=hs.cls.bd
 have hbl:=ok.bl
 have hN:r.N=256*(r.man+r.mgd):=rfl
 refine ok.up hi rfl ?_ (dropB_length hs.cls hk (by omega))
 rcases hs.f with h | ⟨j,h1,h2,h3⟩
 ·exact .inl h
 ·refine .inr ⟨j,h1,h2,?_⟩
  rw [st_drop (by omega) (by omega),if_neg (fun e=>by rw [e,hst] at h3; cases h3)]
  exact h3
theorem PR.Ok.give (ok:r.Ok) {i:Nat} {x:SE} (hi:r.sl[i]?=some x) {k:Nat} (hk:k<nC x.t.c) (hst:x.t.st k=2):(r.upS i x (giveT x.t k) (joinP r.key r.bs (zC x.t.c) x.t k)).Ok:=by
 have hs:=ok.sok x (List.mem_of_getElem? hi)
 have hp:=hs.pg
 have hb:=hs.cls.bd
 have hbl:=ok.bl
 have hN:r.N=256*(r.man+r.mgd):=rfl
 refine ok.up hi rfl (.inr ⟨k,hk,rfl,?_⟩) (joinB_length hs.cls hk (by omega))
 rw [st_give (by omega) hst (by omega),if_pos rfl]
theorem sfind_app {sl:SEs} {x:SE} (h:sfind sl x.t.pg=none) (p:Int):sfind (sl++[x]) p=if (x.t.pg:Int)=p then some x else sfind sl p:=by
 unfold sfind at *
 rw [List.find?_append]
 by_cases e:(x.t.pg:Int)=p
 ·subst e; rw [h,if_pos rfl]; simp
 ·rw [if_neg e]; simp [e]
theorem PR.Ok.open (ok:r.Ok) {A:Nat} {c ow:Int} {x:SE} (hc:Cls c (zC c) (nC c)) (how:0≤ow∧ow<64) (hx:x.t=newPS r.key r.bs A c ow (zC c) (nC c) (nC c)) (hA:A<r.man) (hs:sfind r.sl A=none) (hg:gin r.G A=none):(r.opened A c ow x).Ok:=by
 have hrl:=ok.rl
 have hn:=ok.n2
 have hN:r.N=256*(r.man+r.mgd):=rfl
 have hb:=hc.bd
 have hpg:x.t.pg=A:=by rw [hx]; rfl
 have hcc:x.t.c=c:=by rw [hx]; rfl
 have hoo:x.t.ow=ow:=by rw [hx]; rfl
 refine ⟨ok.n1,ok.n2,(layP_length (by omega) (by decide)).trans ok.rl,(madeP_len hc (by rw [ok.bl]; omega) _ (Nat.le_refl _)).trans ok.bl,?_,?_,ok.gok,ok.gg,ok.gap,?_,?_⟩
 ·intro y hy
  rcases List.mem_append.1 hy with hy | hy
  ·exact ok.sok y hy
  ·rw [List.mem_singleton] at hy; subst hy
   refine ⟨by rw [hcc]; exact hc,by rw [hpg]; exact hA,by rw [hoo]; exact how,?_⟩
   rcases madeP_at r.key r.bs A (zC c) (nC c) (nC c) (Nat.le_refl _) with h | ⟨k,h1,h2⟩
   ·exact .inl (by rw [hx]; exact h)
   ·refine .inr ⟨k,by rw [hcc]; exact h1,by rw [hpg,hcc,← h2,hx]; rfl,?_⟩
    rw [hx]; unfold newPS PS.st; simp
 ·show (r.sl++[x]).Pairwise _
  rw [List.pairwise_append]
  refine ⟨ok.sap,List.pairwise_singleton _ _,fun a ha b hb=>?_⟩
  rw [List.mem_singleton] at hb; subst hb
  have:=sfind_none hs a ha
  rw [hpg]; omega
 ·intro y hy b hb
  rcases List.mem_append.1 hy with hy | hy
  ·exact ok.sg y hy b hb
  ·rw [List.mem_singleton] at hy; subst hy
   have:=gin_none hg b hb
   rw [hpg]; omega
 ·intro p hp
  show (layP r.rs A (srow c ow) 1)[p]?=some (rowP (r.sl++[x]) r.G p)
  rw [layP_get (by decide) (by omega)]
  unfold rowP
  rw [sfind_app (by rw [hpg]; exact hs),hpg]
  by_cases e:p=A
  ·subst e
   rw [if_pos rfl,if_pos rfl]
   simp only [hcc,hoo]; rfl
  ·rw [if_neg e,if_neg (by omega),if_neg (by omega)]
   exact ok.row p hp
theorem sfind_filt {sl:SEs} {q:Nat} (p:Int):sfind (sl.filter fun x => !decide ((x.t.pg:Int)=q)) p=if p=q then none else sfind sl p:=by
 unfold sfind
 rw [List.find?_filter]
 by_cases e:p=q
 ·rw [if_pos e,List.find?_eq_none]; intro x _; simp; omega
 ·rw [if_neg e]; congr 1; funext x; simp; omega
theorem PR.Ok.shut (ok:r.Ok) {i:Nat} {x:SE} (hi:r.sl[i]?=some x):(r.shut x.t.pg).Ok:=by
 have hx:=List.mem_of_getElem? hi
 have hs:=ok.sok x hx
 have hrl:=ok.rl
 have hp:=hs.pg
 refine ⟨ok.n1,ok.n2,(clearP_length (by omega)).trans ok.rl,ok.bl,fun y hy=>ok.sok y (List.mem_filter.1 hy).1,ok.sap.filter _,ok.gok,ok.gg,ok.gap,fun y hy b hb=>ok.sg y (List.mem_filter.1 hy).1 b hb,?_⟩
 intro p hpp
 show (clearP r.rs x.t.pg 1)[p]?=some (rowP (r.sl.filter _) r.G p)
 rw [clearP_get (by omega)]
 unfold rowP
 rw [sfind_filt]
 by_cases e:p=x.t.pg
 ·subst e
  rw [if_pos (by omega),if_pos rfl]
  cases h:gin r.G (x.t.pg:Int) with
  | none=>rfl
  | some b =>
   obtain ⟨h1,h2,h3⟩:=gin_some h
   have:=ok.sg x hx b h1
   omega
 ·rw [if_neg (by omega),if_neg (by omega)]
  exact ok.row p hpp
theorem gin_app {G:Great} {b:Int × Int × Nat} (h:∀ p,b.1≤p∧p<b.1+pagesC b.2.1→gin G p=none) (p:Int):gin (G++[b]) p=if b.1≤p∧p<b.1+pagesC b.2.1 then some b else gin G p:=by
 by_cases e:b.1≤p∧p<b.1+pagesC b.2.1
 ·have h1:=h p e
  unfold gin at *
  rw [List.find?_append,h1,if_pos e]; simp [e]
 ·unfold gin
  rw [List.find?_append,if_neg e]; simp [e]
theorem PR.Ok.made (ok:r.Ok) {A M:Nat} {n:Int} (hn:greatC n=true) (hM:pagesC n=M) (hA:A+M≤r.man) (hs:∀ p:Nat,A≤p→p<A+M→sfind r.sl p=none∧gin r.G p=none):(madeR r A M n).Ok:=by
 have hrl:=ok.rl
 have hn2:=ok.n2
 have hN:r.N=256*(r.man+r.mgd):=rfl
 obtain ⟨M',hM',hM1,hM17⟩:=greatC_pages hn
 obtain rfl:M'=M:=by omega
 have hx:∀ x∈r.sl,(x.t.pg:Int)<A∨(A:Int)+M'≤x.t.pg:=fun x hx=>by
  by_cases h:A≤x.t.pg∧x.t.pg<A+M'
  ·exact absurd rfl (sfind_none (hs x.t.pg h.1 h.2).1 x hx)
  ·omega
 have hg:∀ b∈r.G,b.1+pagesC b.2.1≤A∨(A:Int)+M'≤b.1:=fun b hb=>by
  have h0:=(ok.gok b hb).lo
  obtain ⟨Q,hQ,hQ1,_⟩:=greatC_pages (ok.gok b hb).gr
  by_cases h:b.1+pagesC b.2.1≤A∨(A:Int)+M'≤b.1
  ·exact h
  ·have hmx:A≤max A b.1.toNat∧max A b.1.toNat<A+M':=by omega
   have:=gin_none (hs (max A b.1.toNat) hmx.1 hmx.2).2 b hb
   exact absurd (by omega) this
 have hne:gfind r.G A=none:=by
  unfold gfind
  rw [List.find?_eq_none]
  intro b hb
  have:=hg b hb
  obtain ⟨Q,hQ,hQ1,_⟩:=greatC_pages (ok.gok b hb).gr
  simp; omega
 refine ⟨ok.n1,ok.n2,(layP_length (by omega) hM1).trans ok.rl,(madeB_length (by rw [ok.bl]; omega) hM1).trans ok.bl,ok.sok,ok.sap,?_,ok.gg.put hne,?_,?_,?_⟩
 ·intro b hb
  rcases List.mem_append.1 hb with hb | hb
  ·exact ok.gok b hb
  ·rw [List.mem_singleton] at hb; subst hb
   exact ⟨hn,by simp,by simp only [hM]; show (A:Int)+M'≤(r.man:Int); omega⟩
 ·show (r.G++[_]).Pairwise _
  rw [List.pairwise_append]
  refine ⟨ok.gap,List.pairwise_singleton _ _,fun a ha b hb=>?_⟩
  rw [List.mem_singleton] at hb; subst hb
  have:=hg a ha
  simp only [hM]; omega
 ·intro x hxx b hb
  rcases List.mem_append.1 hb with hb | hb
  ·exact ok.sg x hxx b hb
  ·rw [List.mem_singleton] at hb; subst hb
   have:=hx x hxx
   simp only [hM]; omega
 ·intro p hp
  show (layP r.rs A (lrow M') M')[p]?=some (rowP r.sl (r.G++[((A:Int),n,r.gc)]) p)
  rw [layP_get hM1 (by omega)]
  unfold rowP
  rw [gin_app (fun q hq=>by
   simp only [hM] at hq
   have:=(hs q.toNat (by omega) (by omega)).2
   rwa [show ((q.toNat:Nat):Int)=q by omega] at this)]
  simp only [hM]
  by_cases e:A≤p∧p<A+M'
  ·rw [(hs p e.1 e.2).1,if_pos (by omega:(A:Int)≤p∧(p:Int)<A+M')]
   dsimp only
   by_cases e2:p=A
   ·rw [if_pos e2,if_pos (by omega),hM]
   ·rw [if_neg e2,if_pos (by omega),if_neg (by omega)]
  ·rw [if_neg (by omega),if_neg (by omega),if_neg (by omega)]
   exact ok.row p hp
theorem find_congr {α:Type} {p q:α→Bool}:∀ {l:List α},(∀ x∈l,p x=q x)→l.find? p=l.find? q
 | [],_=>rfl
 | a::l,h=>by
  rw [List.find?_cons,List.find?_cons,h a (List.mem_cons_self ..),find_congr fun x hx=>h x (List.mem_cons_of_mem _ hx)]
theorem gin_del {G:Great} {b:Int × Int × Nat} (hb:b∈G) (hk:∀ x∈G,x.1=b.1→x=b) (p:Int) (h:¬ (b.1≤p∧p<b.1+pagesC b.2.1)):gin (gdel G b.1) p=gin G p:=by
 unfold gin gdel
 rw [List.find?_filter]
 refine find_congr fun x hx=>?_
 by_cases e:x.1=b.1
 ·have:=hk x hx e
  subst this
  simp [h]
 ·simp [e]
theorem PR.Ok.key1 (ok:r.Ok) {b:Int × Int × Nat} (hb:b∈r.G):∀ x∈r.G,x.1=b.1→x=b:=fun x hx he=>by
 obtain ⟨Q,hQ,hQ1,_⟩:=greatC_pages (ok.gok b hb).gr
 have h1:=gin_mem ok.gap hb (p:=b.1) (by omega)
 obtain ⟨Q',hQ',hQ1',_⟩:=greatC_pages (ok.gok x hx).gr
 have h2:=gin_mem ok.gap hx (p:=b.1) (by omega)
 rw [h1] at h2
 exact (Option.some.inj h2).symm
theorem PR.Ok.lost (ok:r.Ok) {b:Int × Int × Nat} (hb:b∈r.G) {g M:Nat} (hg:b.1=g) (hM:pagesC b.2.1=M):(r.lost g M).Ok:=by
 have hrl:=ok.rl
 have hn2:=ok.n2
 have hN:r.N=256*(r.man+r.mgd):=rfl
 have hbd:=ok.gok b hb
 have hhi:=hbd.hi
 obtain ⟨M',hM',hM1,hM17⟩:=greatC_pages hbd.gr
 obtain rfl:M'=M:=by omega
 refine ⟨ok.n1,ok.n2,(clearP_length (by omega)).trans ok.rl,?_,ok.sok,ok.sap,fun x hx=>ok.gok x (List.mem_filter.1 hx).1,ok.gg.del g,ok.gap.filter _,fun x hx y hy=>ok.sg x hx y (List.mem_filter.1 hy).1,?_⟩
 ·show (overB r.bs _ _).length=r.N
  rw [overB_length (by rw [List.length_replicate,ok.bl]; omega),ok.bl]
 ·intro p hp
  show (clearP r.rs g M')[p]?=some (rowP r.sl (gdel r.G g) p)
  rw [clearP_get (by omega)]
  unfold rowP
  by_cases e:g≤p∧p<g+M'
  ·rw [if_pos e,ok.sfind_great hb (by omega)]
   have:gin (gdel r.G g) p=none:=by
    unfold gin
    rw [List.find?_eq_none]
    intro x hx
    obtain ⟨h1,h2⟩:=List.mem_filter.1 hx
    have h3:=gin_mem ok.gap hb (p:=p) (by omega)
    simp only [decide_eq_true_eq]
    intro h4
    have h5:=gin_mem ok.gap h1 h4
    rw [h3] at h5
    cases h5
    simp [hg] at h2
   rw [this]
  ·rw [if_neg e,← hg,gin_del hb (ok.key1 hb) _ (by omega)]
   exact ok.row p hp
end
end Go.Tum.Base
end
section
namespace Go.Tum.Base
open Go Go.Tum Go.Proofs.YtgfjgfapigekiaaGreat
set_option maxRecDepth 4000
inductive Stp (r:PR):PR→Prop
 | same:Stp r r
 | took {i:Nat} {x:SE} {k:Nat} {nx:Int} (hi:r.sl[i]?=some x) (hk:k<nC x.t.c) (hf:x.t.f=baseN x.t.pg (zC x.t.c) k) (hfo:folP r.key r.bs (zC x.t.c) (nC x.t.c) x.t k=(nx,true)):Stp r (r.upS i x (tookT x.t k nx) (tookB r.key r.bs x.t.pg (zC x.t.c) k))
 | drop {i:Nat} {x:SE} {k:Nat} (hi:r.sl[i]?=some x) (hk:k<nC x.t.c) (hst:x.t.st k=1):Stp r (r.upS i x (dropT x.t k) (dropB r.bs x.t.pg (zC x.t.c) k))
 | give {i:Nat} {x:SE} {k:Nat} (hi:r.sl[i]?=some x) (hk:k<nC x.t.c) (hst:x.t.st k=2):Stp r (r.upS i x (giveT x.t k) (joinP r.key r.bs (zC x.t.c) x.t k))
 | open {A:Nat} {c ow:Int} {x:SE} (hc:Cls c (zC c) (nC c)) (how:0≤ow∧ow<64) (hx:x.t=newPS r.key r.bs A c ow (zC c) (nC c) (nC c)) (hA:A<r.man) (hs:sfind r.sl A=none) (hg:gin r.G A=none):Stp r (r.opened A c ow x)
 | shut {i:Nat} {x:SE} (hi:r.sl[i]?=some x) (h:cntS x.t 1 (nC x.t.c)+cntS x.t 2 (nC x.t.c)=0):Stp r (r.shut x.t.pg)
 | made {A M:Nat} {n:Int} (hn:greatC n=true) (hM:pagesC n=M) (hA:A+M≤r.man) (hs:∀ p:Nat,A≤p→p<A+M→sfind r.sl p=none∧gin r.G p=none):Stp r (madeR r A M n)
 | lost {b:Int × Int × Nat} {g M:Nat} (hb:b∈r.G) (hg:b.1=g) (hM:pagesC b.2.1=M):Stp r (r.lost g M)
theorem Stp.ok {r r':PR} (h:Stp r r') (ok:r.Ok):r'.Ok:=by
 cases h with
 | same=>exact ok
 | took hi hk hf hfo=>exact ok.took hi hk hfo
 | drop hi hk hst=>exact ok.drop hi hk hst
 | give hi hk hst=>exact ok.give hi hk hst
 | «open» hc how hx hA hs hg=>exact ok.open hc how hx hA hs hg
 | shut hi h=>exact ok.shut hi
 | made hn hM hA hs=>exact ok.made hn hM hA hs
 | lost hb hg hM=>exact ok.lost hb hg hM
theorem Stp.man {r r':PR} (h:Stp r r'):r'.man=r.man∧r'.mgd=r.mgd∧r'.seed=r.seed:=by
 cases h <;> exact ⟨rfl,rfl,rfl⟩
end Go.Tum.Base
namespace Go.Proofs.YtgfjgfapigekiaaGreat
open Go Go.Tum Go.Tum.Base
section
variable {r:PR} {d:DR} {i:Nat} {x:SE} {y:DE}
theorem Tie.up (tie:Tie r d) (t:PS) (bs:Bytes) (j:RA × RA):Tie (r.upS i x t bs) (afterR d i y j t bs) :=
 ⟨tie.man,tie.n,tie.key,tie.rs,rfl,by
  show (d.dl.set i _).map (fun y:DE=>y.t)=(r.sl.set i _).map (fun y:SE=>y.t)
  rw [List.map_set,List.map_set,tie.ts],tie.gs,tie.gm⟩
theorem Tie.know (tie:Tie r d) (hy:d.dl[i]?=some y):Tie r (knowR d i y) :=
 ⟨tie.man,tie.n,tie.key,tie.rs,tie.bs,by
  show (d.dl.set i _).map (fun y:DE=>y.t)=_
  rw [set_same (f:=fun y:DE=>y.t) (y:={ y with q:=curQ d.e d.N }) hy rfl]; exact tie.ts,tie.gs,tie.gm⟩
theorem set_back {α:Type} {l:List α} {i:Nat} {x:α} (h:l[i]?=some x):l.set i x=l:=by
 apply List.ext_getElem?
 intro j
 rw [List.getElem?_set]
 split
 ·rename_i e
  subst e
  rw [h,if_pos (List.getElem?_eq_some_iff.1 h).1]
 ·rfl
theorem Tie.stay (tie:Tie r d) (hx:r.sl[i]?=some x) (ht:y.t=x.t) (j:RA × RA):Tie r (afterR d i y j y.t d.bs):=by
 have:=tie.up (i:=i) (x:=x) (y:=y) y.t d.bs j
 have e:r.upS i x y.t d.bs=r:=by
  unfold PR.upS
  rw [ht,tie.bs,show ({ x with t:=x.t }:SE)=x from rfl,set_back hx]
 rwa [e] at this
theorem Tie.open (tie:Tie r d) {A:Nat} {c ow:Int} (hx:x.t=newPS r.key r.bs A c ow (zC c) (nC c) (nC c)) (j:RA × RA × RA) (o:RA):Tie (r.opened A c ow x) (openR d A c ow j o) :=
 ⟨tie.man,tie.n,tie.key,by
  show layP d.rs A _ 1=layP r.rs A _ 1
  rw [tie.rs],by
  show (madeP d.key d.bs A _ _ _).1=(madeP r.key r.bs A _ _ _).1
  rw [tie.key,tie.bs],by
  show (d.dl++[_]).map (fun y:DE=>y.t)=(r.sl++[x]).map (fun y:SE=>y.t)
  rw [List.map_append,List.map_append,tie.ts]
  show _++[newPS d.key d.bs A c ow (zC c) (nC c) (nC c)]=_++[x.t]
  rw [hx,tie.key,tie.bs],tie.gs,tie.gm⟩
theorem Tie.shut (tie:Tie r d) (p:Nat):Tie (r.shut p) (shutR d p) :=
 ⟨tie.man,tie.n,tie.key,by
  show clearP d.rs p 1=clearP r.rs p 1
  rw [tie.rs],tie.bs,by
  show (d.dl.filter _).map (fun y:DE=>y.t)=(r.sl.filter _).map (fun y:SE=>y.t)
  have e1:∀ l:List DE,(l.filter fun x => !decide ((x.t.pg:Int)=p)).map (fun y:DE=>y.t)=(l.map fun y:DE=>y.t).filter fun t => !decide ((t.pg:Int)=p):=fun l=>by rw [List.filter_map]; rfl
  have e2:∀ l:List SE,(l.filter fun x => !decide ((x.t.pg:Int)=p)).map (fun y:SE=>y.t)=(l.map fun y:SE=>y.t).filter fun t => !decide ((t.pg:Int)=p):=fun l=>by rw [List.filter_map]; rfl
  rw [e1,e2,tie.ts],tie.gs,tie.gm⟩
theorem Tie.made (tie:Tie r d) {A M:Nat} {n:Int} (hg:∀ b∈r.G,b.1≠A) (j:RA × RA):Tie (madeR r A M n) (greatR d j (layP d.rs A (lrow M) M) (madeB d.key d.bs A M) (rPutL d.gl A n)):=by
 have hne:∀ b∈d.gl,b.page≠A:=fun b hb he=>by
  obtain ⟨x,hx,h1,_⟩:=(tie.gm b.page b.n).2 hb
  exact hg x hx (h1.trans he)
 refine ⟨tie.man,tie.n,tie.key,?_,?_,tie.ts,?_,?_⟩
 ·show layP d.rs A _ M=layP r.rs A _ M
  rw [tie.rs]
 ·show madeB d.key d.bs A M=madeB r.key r.bs A M
  rw [tie.key,tie.bs]
 ·have hso:=tie.gs
  show ((rPutL d.gl A n).map RB.page).Pairwise _
  rw [List.pairwise_map] at hso ⊢
  unfold rPutL
  rw [List.pairwise_append]
  refine ⟨hso.filter _,?_,?_⟩
  ·rw [List.pairwise_cons]
   refine ⟨fun b hb=>?_,hso.filter _⟩
   have:=(List.mem_filter.1 hb).2
   simpa using this
  ·intro a ha b hb
   have h1:=(List.mem_filter.1 ha).2
   simp only [decide_eq_true_eq] at h1
   rcases List.mem_cons.1 hb with rfl | hb
   ·exact h1
   ·have h2:=(List.mem_filter.1 hb).2
    simp only [decide_eq_true_eq] at h2
    omega
 ·intro a m
  have:(⟨a,m⟩:RB)∈rPutL d.gl A n↔(⟨a,m⟩:RB)∈d.gl∨(a=A∧m=n):=by
   unfold rPutL
   rw [List.mem_append,List.mem_cons,List.mem_filter,List.mem_filter]
   simp only [decide_eq_true_eq,RB.mk.injEq]
   constructor
   ·rintro (⟨h1,_⟩ | h1 | ⟨h1,_⟩)
    ·exact .inl h1
    ·exact .inr h1
    ·exact .inl h1
   ·rintro (h1 | h1)
    ·have:=hne _ h1
     simp only at this
     by_cases h2:a<A
     ·exact .inl ⟨h1,h2⟩
     ·exact .inr (.inr ⟨h1,by omega⟩)
    ·exact .inr (.inl h1)
  show _↔_∈rPutL d.gl A n
  rw [this,← tie.gm]
  constructor
  ·rintro ⟨x,hx,h1,h2⟩
   rcases List.mem_append.1 hx with hx | hx
   ·exact .inl ⟨x,hx,h1,h2⟩
   ·rw [List.mem_singleton] at hx; subst hx
    exact .inr ⟨h1.symm,h2.symm⟩
  ·rintro (⟨x,hx,h1,h2⟩ | ⟨rfl,rfl⟩)
   ·exact ⟨x,List.mem_append_left _ hx,h1,h2⟩
   ·exact ⟨_,List.mem_append_right _ (List.mem_singleton.2 rfl),rfl,rfl⟩
theorem Tie.lost (tie:Tie r d) {k g M:Nat} {b:RB} (hi:d.gl[k]?=some b) (hp:b.page=g) (j:RA × RA):Tie (r.lost g M) (greatR d j (clearP d.rs g M) (overB d.bs (256*g) (List.replicate (256*M) 0xDD#8)) (d.gl.take k++d.gl.drop (k+1))):=by
 have hil:=(List.getElem?_eq_some_iff.1 hi).1
 have hie:=(List.getElem?_eq_some_iff.1 hi).2
 refine ⟨tie.man,tie.n,tie.key,?_,?_,tie.ts,?_,?_⟩
 ·show clearP d.rs g M=clearP r.rs g M
  rw [tie.rs]
 ·show overB d.bs _ _=overB r.bs _ _
  rw [tie.bs]
 ·show ((d.gl.take k++d.gl.drop (k+1)).map RB.page).Pairwise _
  rw [← List.eraseIdx_eq_take_drop_succ]
  exact tie.gs.sublist ((List.eraseIdx_sublist d.gl k).map _)
 ·intro a m
  have hl:d.gl=d.gl.take k++b::d.gl.drop (k+1):=by rw [← hie,← List.drop_eq_getElem_cons hil,List.take_append_drop]
  have hso:=tie.gs
  rw [List.pairwise_map,hl,List.pairwise_append,List.pairwise_cons] at hso
  obtain ⟨_,⟨hs2,_⟩,hs3⟩:=hso
  have hm:(⟨a,m⟩:RB)∈d.gl.take k++d.gl.drop (k+1)↔(⟨a,m⟩:RB)∈d.gl∧a≠g:=by
   have:(⟨a,m⟩:RB)∈d.gl↔(⟨a,m⟩:RB)∈d.gl.take k∨(⟨a,m⟩:RB)=b∨(⟨a,m⟩:RB)∈d.gl.drop (k+1):=by
    conv=>lhs; rw [hl]
    rw [List.mem_append,List.mem_cons]
   rw [this,List.mem_append]
   constructor
   ·rintro (h1 | h1)
    ·have:=hs3 _ h1 b (List.mem_cons_self ..)
     simp only at this
     exact ⟨.inl h1,by omega⟩
    ·have:=hs2 _ h1
     simp only at this
     exact ⟨.inr (.inr h1),by omega⟩
   ·rintro ⟨h1 | h1 | h1,h2⟩
    ·exact .inl h1
    ·rw [← h1] at hp; exact absurd hp h2
    ·exact .inr h1
  show _↔_∈d.gl.take k++d.gl.drop (k+1)
  rw [hm,← tie.gm]
  constructor
  ·rintro ⟨x,hx,h1,h2⟩
   obtain ⟨h3,h4⟩:=List.mem_filter.1 hx
   exact ⟨⟨x,h3,h1,h2⟩,by rw [← h1]; simpa using h4⟩
  ·rintro ⟨⟨x,hx,h1,h2⟩,h3⟩
   exact ⟨x,List.mem_filter.2 ⟨hx,by rw [h1]; simpa using h3⟩,h1,h2⟩
end
end Go.Proofs.YtgfjgfapigekiaaGreat
end
section
namespace Go.Proofs.YtgfjgfapigekiaaGreat
open Go Go.Tum Go.Tum.Base
set_option maxRecDepth 4000
def Both (fp fd:FuncId) (us:List Value) (r:PR) (d:DR) (V:Value):Prop :=
 ∃ (P:PR→Prop) (D:DR→Prop),
  Tr Tryz.prog fp (ptr 0::us) (RPL r) (fun v K=>∃ r',P r'∧v=V∧K=RPL r') ∧
  TrK Tryz.prog [] [0] fd (ptr 0::us) (DRL d) (fun v K=>∃ d',D d'∧v=V∧K=DRL d') ∧
  ∀ r' d',P r'→D d'→Stp r r'∧Tie r' d'
theorem Both.of {fp fd:FuncId} {us:List Value} {r r':PR} {d:DR} {V:Value} {keep:List Nat} {D:DR→Prop} (hp:Tr Tryz.prog fp (ptr 0::us) (RPL r) (fun v K=>v=V∧K=RPL r'))
  (hd:TrK Tryz.prog [] keep fd (ptr 0::us) (DRL d) (fun v K=>∃ d',D d'∧v=V∧K=DRL d')) (hs:Stp r r') (ht:∀ d',D d'→Tie r' d') (hk:([0].all fun k=>inL k keep)=true:=by rfl):Both fp fd us r d V :=
 ⟨fun q=>q=r',D,Tr.mono hp (by rintro _ _ ⟨rfl,rfl⟩; exact ⟨_,rfl,rfl,rfl⟩),hd.fewer hk,by rintro _ d' rfl h; exact ⟨hs,ht d' h⟩⟩
theorem Both.same {fp fd:FuncId} {us:List Value} {r:PR} {d:DR} {V:Value} {keep:List Nat} (tie:Tie r d) (hp:Tr Tryz.prog fp (ptr 0::us) (RPL r) (fun v K=>v=V∧K=RPL r))
  (hd:TrK Tryz.prog [] keep fd (ptr 0::us) (DRL d) (fun v K=>v=V∧K=DRL d)) (hk:([0].all fun k=>inL k keep)=true:=by rfl):Both fp fd us r d V :=
 Both.of (D:=fun q=>q=d) hp (Tr.mono hd (by rintro _ _ ⟨rfl,rfl⟩; exact ⟨_,rfl,rfl,rfl⟩)) .same (by rintro _ rfl; exact tie) hk
theorem fam {fd:FuncId} {us:List Value} {d:DR} {V:Value} {keep:List Nat} {ι:Type} {C:ι→Prop} {g:ι→DR} (hd:TrK Tryz.prog [] keep fd us (DRL d) (fun v K=>∃ j:ι,C j∧v=V∧K=DRL (g j))):TrK Tryz.prog [] keep fd us (DRL d) (fun v K=>∃ d',(∃ j,d'=g j)∧v=V∧K=DRL d') :=
 Tr.mono hd (by rintro _ _ ⟨j,_,rfl,rfl⟩; exact ⟨_,⟨j,rfl⟩,rfl,rfl⟩)
theorem cls_of {c:Int} (h:sizeC c≠0):Cls c (zC c) (nC c):=by
 obtain ⟨z,n,hc⟩:=Cls.of h
 rcases hc.is with ⟨rfl,rfl,rfl⟩ | ⟨rfl,rfl,rfl⟩ | ⟨rfl,rfl,rfl⟩ | ⟨rfl,rfl,rfl⟩ <;> exact hc
theorem cls_slot {c:Int} {z n:Nat} (h:Cls c z n) (m:Nat):m % 256 / z<n∧(m=baseN (m / 256) z (m % 256 / z)↔m % 256 % z=0):=by
 unfold baseN
 rcases h.is with ⟨rfl,rfl,rfl⟩ | ⟨rfl,rfl,rfl⟩ | ⟨rfl,rfl,rfl⟩ | ⟨rfl,rfl,rfl⟩ <;> omega
theorem cntS_sum (t:PS):∀ n,cntS t 0 n+cntS t 1 n+cntS t 2 n=n
 | 0=>rfl
 | n+1=>by
  have:=cntS_sum t n
  simp only [cntS]
  have:t.st n=0∨t.st n=1∨t.st n=2:=by unfold PS.st; cases t.lw.getLsbD n <;> cases t.hw.getLsbD n <;> simp
  rcases this with h | h | h <;> rw [h] <;> simp <;> omega
section
variable {r:PR} {d:DR} (ok:r.Ok) (tie:Tie r d)
include ok tie
theorem bTake (p:Int):∃ a e:Int,Both 40 41 [.int .i64 p] r d (.tuple ⟨[.int .i64 a,.int .i64 e]⟩):=by
 cases h:sfind r.sl p with
 | none=>exact ⟨0,6,Both.same tie (pgTake_none r p h) (dTake_none r d ok tie p h)⟩
 | some x =>
  obtain ⟨i,hi,hx,rfl⟩:=sfind_some h
  obtain ⟨y,F⟩:=fct ok tie hi
  have hno:∀ e:Int,((x.t.f = -1∧e=5)∨∃ k,k<nC x.t.c∧x.t.f=baseN x.t.pg (zC x.t.c) k∧(folP r.key r.bs (zC x.t.c) (nC x.t.c) x.t k).2=false∧e=4)→Both 40 41 [.int .i64 x.t.pg] r d (.tuple ⟨[.int .i64 0,.int .i64 e]⟩):=fun e he=>by
   have hD:=dTakeR_no r d ok tie i x y F e (by rw [F.t,tie.key,tie.bs]; exact he)
   rw [show ((y.t.pg:Nat):Int)=x.t.pg by rw [F.t]] at hD
   exact Both.of (pgTake_no r ok i x hi e he) (fam hD) .same (by rintro _ ⟨j,rfl⟩; exact tie.stay hi F.t j)
  rcases F.s.f with hf | ⟨k,hk,hf,_⟩
  ·exact ⟨0,5,hno 5 (.inl ⟨hf,rfl⟩)⟩
  ·cases hfo:folP r.key r.bs (zC x.t.c) (nC x.t.c) x.t k with
   | mk nx b =>
    cases b
    ·exact ⟨0,4,hno 4 (.inr ⟨k,hk,hf,by rw [hfo],rfl⟩)⟩
    ·have hD:=dTakeR_ok r d ok tie i x y F k (by rw [F.t]; exact hk) (by rw [F.t]; exact hf) nx (by rw [F.t,tie.key,tie.bs]; exact hfo)
     rw [F.t,tie.key,tie.bs] at hD
     exact ⟨_,_,Both.of (pgTake_ok r ok i x hi k hk hf nx hfo) (fam hD) (.took hi hk hf hfo) (by rintro _ ⟨j,rfl⟩; exact tie.up _ _ j)⟩
omit tie in
theorem base_cases (a:Int):r.base a=none∨(∃ (i:Nat) (x:SE) (k:Nat),r.sl[i]?=some x∧k<nC x.t.c∧a=(baseN x.t.pg (zC x.t.c) k:Nat))∨∃ b∈r.G,a=256*b.1:=by
 cases h:r.base a with
 | none=>exact .inl rfl
 | some p =>
  right
  unfold PR.base at h
  cases h1:r.find a with
  | none=>rw [h1] at h; cases h
  | some q =>
   rw [h1] at h
   simp only at h
   split at h
   rotate_left
   ·cases h
   rename_i hq
   unfold PR.find at h1
   split at h1
   ·cases h1
   rename_i hr
   cases h2:sfind r.sl (a / 256) with
   | some x =>
    rw [h2] at h1
    obtain ⟨i,hi,hx,hpg⟩:=sfind_some h2
    simp only [Option.some.injEq] at h1
    subst h1
    have:=(cls_slot (ok.sok x hx).cls a.toNat).1
    exact .inl ⟨i,x,a.toNat % 256 / zC x.t.c,hi,this,hq.symm⟩
   | none =>
    rw [h2] at h1
    simp only at h1
    cases h3:gin r.G (a / 256) with
    | none=>rw [h3] at h1; cases h1
    | some b =>
     rw [h3] at h1
     simp only [Option.map_some,Option.some.injEq] at h1
     subst h1
     exact .inr ⟨b,(gin_some h3).1,hq.symm⟩
theorem bDrop (a:Int):∃ (w:Bool) (e:Int),Both 15 42 [.int .i64 a] r d (.tuple ⟨[.bool w,.int .i64 e]⟩):=by
 rcases base_cases ok a with h | ⟨i,x,k,hi,hk,rfl⟩ | ⟨b,hb,rfl⟩
 ·exact ⟨false,6,Both.same tie (pgDrop_none r ok a h) (dDrop_none r d ok tie a h)⟩
 ·obtain ⟨y,F⟩:=fct ok tie hi
  by_cases hs:x.t.st k=1
  ·have hD:=dDropR r d ok tie i x y F k (by rw [F.t]; exact hk) (dropT y.t k) _ _ _ rfl rfl rfl (dDrop_ok d.key d.N d.bs F.bl y.t F.tok k (by rw [F.t]; exact hk) (by rw [F.t]; exact hs))
   rw [F.t,tie.key,tie.bs] at hD
   exact ⟨_,_,Both.of (pgDrop_ok r ok i x hi k hk hs) (fam hD) (.drop hi hk hs) (by rintro _ ⟨j,rfl⟩; exact tie.up _ _ j)⟩
  ·have hD:=dDropR r d ok tie i x y F k (by rw [F.t]; exact hk) y.t d.bs _ _ rfl rfl rfl (dDrop_no d.key d.N d.bs y.t k (by rw [F.t]; exact hk) (by rw [F.t]; exact hs))
   rw [show ((baseN y.t.pg (zC y.t.c) k:Nat):Int)=(baseN x.t.pg (zC x.t.c) k:Nat) by rw [F.t]] at hD
   exact ⟨_,_,Both.of (pgDrop_no r ok i x hi k hk hs) (fam hD) .same (by rintro _ ⟨j,rfl⟩; exact tie.stay hi F.t j)⟩
 ·have hbd:=ok.gok b hb
  have hlo:=hbd.lo
  obtain ⟨M,hM,hM1,_⟩:=greatC_pages hbd.gr
  have hg:b.1=(b.1.toNat:Int):=by omega
  have hm:=(tie.gm b.1 b.2.1).1 ⟨b,hb,rfl,rfl⟩
  obtain ⟨k,hk⟩:=List.mem_iff_getElem?.1 hm
  have hD:=dDrop_great r d ok tie k ⟨b.1,b.2.1⟩ hk b.1.toNat M hg hM
  have hw:rStands d.key d.bs ⟨b.1,b.2.1⟩=decide (wordB r.bs (256*(b.1.toNat+M)-8)=canW r.key (256*b.1.toNat)):=by
   unfold rStands
   simp only [hM]
   rw [tie.key,tie.bs,show (256*(b.1+(M:Int))-8).toNat=256*(b.1.toNat+M)-8 by omega,← hg]
  rw [hw] at hD
  exact ⟨_,_,Both.of (pgDrop_great r ok b hb b.1.toNat M hg hM) (fam hD) (.lost hb hg hM) (by rintro _ ⟨j,rfl⟩; exact tie.lost hk hg j)⟩
theorem bGive (a:Int):∃ e:Int,Both 16 43 [.int .i64 a] r d (.int .i64 e):=by
 rcases base_cases ok a with h | ⟨i,x,k,hi,hk,rfl⟩ | ⟨b,hb,rfl⟩
 ·exact ⟨6,Both.same tie (pgGive_none r ok a h) (dGive_none r d ok tie a h)⟩
 ·obtain ⟨y,F⟩:=fct ok tie hi
  by_cases hs:x.t.st k=2
  ·have hD:=dGiveR r d ok tie i x y F k (by rw [F.t]; exact hk) (giveT y.t k) _ _ rfl rfl rfl (dGive_ok d.key d.N d.bs F.bl y.t F.tok (by rw [F.t]; exact F.s.f.imp id fun ⟨j,h1,h2,_⟩=>⟨j,h1,h2⟩) k (by rw [F.t]; exact hk) (by rw [F.t]; exact hs))
   rw [F.t,tie.key,tie.bs] at hD
   exact ⟨_,Both.of (pgGive_ok r ok i x hi k hk hs) (fam hD) (.give hi hk hs) (by rintro _ ⟨j,rfl⟩; exact tie.up _ _ j)⟩
  ·have hD:=dGiveR r d ok tie i x y F k (by rw [F.t]; exact hk) y.t d.bs _ rfl rfl rfl (dGive_no d.key d.N d.bs y.t k (by rw [F.t]; exact hk) (by rw [F.t]; exact hs))
   rw [show ((baseN y.t.pg (zC y.t.c) k:Nat):Int)=(baseN x.t.pg (zC x.t.c) k:Nat) by rw [F.t]] at hD
   exact ⟨_,Both.of (pgGive_no r ok i x hi k hk hs) (fam hD) .same (by rintro _ ⟨j,rfl⟩; exact tie.stay hi F.t j)⟩
 ·exact ⟨6,Both.same tie (pgGive_great r ok b hb) (dGive_great r d ok tie b hb)⟩
theorem bShut (p:Int):∃ e:Int,Both 17 44 [.int .i64 p] r d (.int .i64 e):=by
 cases h:sfind r.sl p with
 | none=>exact ⟨6,Both.same tie (pgShut_none r p h) (dShut_none r d ok tie p h)⟩
 | some x =>
  obtain ⟨i,hi,hx,rfl⟩:=sfind_some h
  obtain ⟨y,F⟩:=fct ok tie hi
  have hc:=cntS_sum x.t (nC x.t.c)
  by_cases h0:cntS x.t 1 (nC x.t.c)+cntS x.t 2 (nC x.t.c)=0
  ·have hD:=dShut_ok r d ok tie i x y F (by rw [F.t]; omega)
   rw [F.t] at hD
   exact ⟨0,Both.of (D:=fun q=>q=shutR (knowR d i y) x.t.pg) (pgShut_ok r ok i x hi h0) (Tr.mono hD (by rintro _ _ ⟨rfl,rfl⟩; exact ⟨_,rfl,rfl,rfl⟩)) (.shut hi h0) (by rintro _ rfl; exact (tie.know F.hy).shut _)⟩
  ·have hD:=dShut_no r d ok tie i x y F (by rw [F.t]; omega)
   rw [F.t] at hD
   exact ⟨8,Both.of (D:=fun q=>q=knowR d i y) (pgShut_no r ok i x hi (by omega)) (Tr.mono hD (by rintro _ _ ⟨rfl,rfl⟩; exact ⟨_,rfl,rfl,rfl⟩)) .same (by rintro _ rfl; exact tie.know F.hy)⟩
omit tie in
theorem place_nat {M:Nat} (hM:1≤M):placeP r.rs M r.man 0 0=none∨∃ A:Nat,placeP r.rs M r.man 0 0=some (A:Int)∧A+M≤r.man∧∀ p:Nat,A≤p→p<A+M→sfind r.sl p=none∧gin r.G p=none:=by
 have hn:=ok.n2
 rcases placeP_first (rs:=r.rs) (lo:=0) (hi:=r.man) (n:=M) hM (Nat.zero_le _) with ⟨A,h1,_⟩ | ⟨h1,_⟩
 ·rw [Nat.sub_zero] at h1
  obtain ⟨h2,h3⟩:=placeP_free h1 (by omega)
  exact .inr ⟨A,h1,by omega,fun p hp hq=>row_free ok (by omega) (h3 p hp (by omega))⟩
 ·rw [Nat.sub_zero] at h1; exact .inl h1
theorem bOpen (c ow:Int):∃ a e:Int,Both 38 39 [.int .i64 c,.int .i64 ow] r d (.tuple ⟨[.int .i64 a,.int .i64 e]⟩):=by
 by_cases h:sizeC c=0∨ow<0∨64≤ow
 ·exact ⟨0,1,Both.same tie (pgOpen_arg r c ow h) (dOpen_arg d c ow h)⟩
 ·have hc:sizeC c≠0:=fun e=>h (.inl e)
  have how:0≤ow∧ow<64:=by omega
  rcases place_nat ok (M:=1) (by decide) with hp | ⟨A,hp,hA,hfr⟩
  ·exact ⟨0,5,Both.same tie (pgOpen_full r ok c ow hc how hp) (dOpen_full r d ok tie c ow hc how hp)⟩
  ·obtain ⟨h1,h2⟩:=hfr A (Nat.le_refl _) (by omega)
   refine ⟨_,_,⟨fun r'=>∃ x:SE,x.t=newPS r.key r.bs A c ow (zC c) (nC c) (nC c)∧r'=r.opened A c ow x,fun d'=>∃ j o,d'=openR d A c ow j o,Tr.mono (pgOpen_ok r ok c ow (cls_of hc) how A hp) (by rintro _ _ ⟨x,hx,rfl,rfl⟩; exact ⟨_,⟨x,hx.1,rfl⟩,rfl,rfl⟩),TrK.fewer (Tr.mono (dOpen_ok r d ok tie c ow (cls_of hc) how A hp) (by rintro _ _ ⟨j,o,rfl,rfl⟩; exact ⟨_,⟨j,o,rfl⟩,rfl,rfl⟩)) rfl,?_⟩⟩
   rintro _ _ ⟨x,hx,rfl⟩ ⟨j,o,rfl⟩
   exact ⟨.open (cls_of hc) how hx (by omega) h1 h2,tie.open hx j o⟩
theorem bGreat (n:Int):∃ a e:Int,Both 45 46 [.int .i64 n] r d (.tuple ⟨[.int .i64 a,.int .i64 e]⟩):=by
 cases hn:greatC n
 ·exact ⟨0,1,Both.same tie (pgGreat_arg r n hn) (dGreat_arg d n hn)⟩
 ·obtain ⟨M,hM,hM1,_⟩:=greatC_pages hn
  rcases place_nat ok hM1 with hp | ⟨A,hp,hA,hfr⟩
  ·exact ⟨0,5,Both.same tie (pgGreat_full r ok n hn (by rw [hM]; exact hp)) (dGreat_full r d ok tie n hn (by rw [hM]; exact hp))⟩
  ·have hne:∀ b∈r.G,b.1≠A:=fun b hb he=>by
    obtain ⟨Q,hQ,hQ1,_⟩:=greatC_pages (ok.gok b hb).gr
    exact gin_none (hfr A (Nat.le_refl _) (by omega)).2 b hb (by omega)
   exact ⟨_,_,Both.of (pgGreat_ok r ok n hn A M hM hp) (fam (dGreat_ok r d ok tie n hn A M hM hp)) (.made hn hM hA hfr) (by rintro _ ⟨j,rfl⟩; exact tie.made hne j)⟩
theorem bOwner (a:Int) (ha:a<9223372036854775808):∃ v:Int,Tr Tryz.prog 51 [ptr 0,.int .i64 a] (RPL r) (fun u K=>u=.int .i64 v∧K=RPL r)∧Tr Tryz.prog 52 [ptr 0,.int .i64 a] (DRL d) (fun u K=>u=.int .i64 v∧K=DRL d):=by
 by_cases h0:a<0
 ·exact ⟨-1,pgOwner_no r a ha (.inl h0),dOwner_no r d ok tie a (.inl h0)⟩
 ·cases h:sfind r.sl (a / 256) with
  | none=>exact ⟨-1,pgOwner_no r a ha (.inr h),dOwner_no r d ok tie a (.inr (.inr (tie.find_none h)))⟩
  | some x =>
   obtain ⟨i,hi,hx,hpg⟩:=sfind_some h
   obtain ⟨y,F⟩:=fct ok tie hi
   have hs:=F.s.pg
   have hN:=F.N
   have hlt:=F.lt
   have hdN:d.N=256*d.n:=rfl
   have hD:=dOwner_at r d ok tie a.toNat (by rw [F.t] at hlt; omega) y (by
    have:=F.fd
    rwa [F.t,hpg,show a / 256=((a.toNat / 256:Nat):Int) by omega] at this)
   rw [F.t,show ((a.toNat:Nat):Int)=a by omega] at hD
   exact ⟨_,pgOwner_at r ok a ha (by omega) x h,hD⟩
end
end Go.Proofs.YtgfjgfapigekiaaGreat
end
