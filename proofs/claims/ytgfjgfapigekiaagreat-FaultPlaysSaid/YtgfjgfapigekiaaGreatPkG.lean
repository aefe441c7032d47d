/-
  What the proof leans on, part 7: of the texts RgM, RLargeA, RLargeB, RLargeC, Lw27, RLargeD, DocM, DocC, DocD, DocE, RgA, RgB, RgC, RgD, RgN, Lw39, DocR, DocP, DocS.
-/
import Derived.Test.YtgfjgfapigekiaaGreatPkF
set_option linter.unusedVariables false
set_option linter.unusedSimpArgs false
set_option linter.unusedSectionVars false
section
namespace Go.Tum.Base
open Go Go.Tum
structure Pl where
 pg:Int
 sl:Int
 bs:Int
 sz:Int
 st:Int
 gr:Bool
deriving DecidableEq
def Pl.cells (p:Pl):List Value:=[.int .i64 p.pg,.int .i64 p.sl,.int .i64 p.bs,.int .i64 p.sz,.int .i64 p.st,.bool p.gr]
def Pl.Z:Pl:=⟨0,0,0,0,0,false⟩
def sfind (sl:SEs) (p:Int):Option SE:=sl.find? fun x=>decide ((x.t.pg:Int)=p)
def gin (G:Great) (p:Int):Option (Int × Int × Nat):=G.find? fun b=>decide (b.1≤p∧p<b.1+pagesC b.2.1)
def rowP (sl:SEs) (G:Great) (p:Int):PRow:=match sfind sl p with
 | some x=>⟨1,x.t.c,x.t.ow,1⟩
 | none=>match gin G p with
  | some b=>if b.1=p then lrow (pagesC b.2.1) else tailP
  | none=>PRow.Z
def placeS (x:SE) (k:Nat):Pl:=⟨x.t.pg,k,baseN x.t.pg (zC x.t.c) k,(zC x.t.c:Int)-8,x.t.st k,false⟩
def placeG (b:Int × Int × Nat):Pl:=⟨b.1,0,256*b.1,b.2.1,1,true⟩
structure PR where
 man:Nat
 mgd:Nat
 seed:BitVec 64
 a:RA
 b:RA
 g0:RA
 g1:RA
 m0:Nat
 mc:Nat
 rs:PRows
 bs:Bytes
 sl:SEs
 G:Great
 gc:Nat
def PR.N (r:PR):Nat:=256*(r.man+r.mgd)
def PR.key (r:PR):BitVec 64:=keyW r.seed
def peS (sl:SEs):List PE:=sl.map fun x=>⟨x.t.pg,x.e0,x.bn⟩
structure SOk (man:Nat) (x:SE):Prop where
 cls:Cls x.t.c (zC x.t.c) (nC x.t.c)
 pg:x.t.pg<man
 ow:0≤x.t.ow∧x.t.ow<64
 f:x.t.f = -1∨∃ k,k<nC x.t.c∧x.t.f=baseN x.t.pg (zC x.t.c) k∧x.t.st k=0
structure GbOk (man:Nat) (b:Int × Int × Nat):Prop where
 gr:greatC b.2.1=true
 lo:0≤b.1
 hi:b.1+pagesC b.2.1≤man
structure PR.Ok (r:PR):Prop where
 n1:1≤r.man+r.mgd
 n2:r.man+r.mgd≤256
 rl:r.rs.length=r.man+r.mgd
 bl:r.bs.length=r.N
 sok:∀ x∈r.sl,SOk r.man x
 sap:r.sl.Pairwise fun x y=>x.t.pg≠y.t.pg
 gok:∀ b∈r.G,GbOk r.man b
 gg:GOk r.G r.gc
 gap:r.G.Pairwise fun x y=>x.1+pagesC x.2.1≤y.1∨y.1+pagesC y.2.1≤x.1
 sg:∀ x∈r.sl,∀ b∈r.G,(x.t.pg:Int)<b.1∨b.1+pagesC b.2.1≤x.t.pg
 row:∀ p:Nat,p<r.man+r.mgd→r.rs[p]?=some (rowP r.sl r.G p)
def PR.find (r:PR) (a:Int):Option Pl:=if a<0∨(r.N:Int)≤a then none else match sfind r.sl (a / 256) with
 | some x=>some (placeS x (a.toNat % 256 / zC x.t.c))
 | none=>(gin r.G (a / 256)).map placeG
def PR.base (r:PR) (a:Int):Option Pl:=match r.find a with
 | some p=>if p.bs=a then some p else none
 | none=>none
theorem sfind_some {sl:SEs} {p:Int} {x:SE} (h:sfind sl p=some x):∃ i:Nat,sl[i]?=some x∧x∈sl∧(x.t.pg:Int)=p:=by
 have h1:=List.mem_of_find?_eq_some h
 obtain ⟨i,hi⟩:=List.mem_iff_getElem?.1 h1
 exact ⟨i,hi,h1,by simpa using List.find?_some h⟩
theorem gin_some {G:Great} {p:Int} {b:Int × Int × Nat} (h:gin G p=some b):b∈G∧b.1≤p∧p<b.1+pagesC b.2.1:=by
 refine ⟨List.mem_of_find?_eq_some h,?_⟩
 have:=List.find?_some h
 simpa using this
theorem gin_none {G:Great} {p:Int} (h:gin G p=none):∀ b∈G,¬ (b.1≤p∧p<b.1+pagesC b.2.1):=by
 intro b hb
 have:=List.find?_eq_none.1 h b hb
 simpa using this
theorem sfind_none {sl:SEs} {p:Int} (h:sfind sl p=none):∀ x∈sl,(x.t.pg:Int)≠p:=by
 intro x hx
 have:=List.find?_eq_none.1 h x hx
 simpa using this
theorem sfind_mem {sl:SEs} (h:sl.Pairwise fun x y=>x.t.pg≠y.t.pg) {x:SE} (hx:x∈sl):sfind sl x.t.pg=some x:=by
 induction sl with
 | nil=>cases hx
 | cons a r ih =>
  unfold sfind at *
  rw [List.find?_cons]
  obtain ⟨h1,h2⟩:=List.pairwise_cons.1 h
  rcases List.mem_cons.1 hx with rfl | hx
  ·simp
  ·have:=h1 x hx
   rw [show decide ((a.t.pg:Int)=x.t.pg)=false by simp; omega]
   exact ih h2 hx
theorem gin_mem {G:Great} (h:G.Pairwise fun x y=>x.1+pagesC x.2.1≤y.1∨y.1+pagesC y.2.1≤x.1) {b:Int × Int × Nat} (hb:b∈G) {p:Int} (hp:b.1≤p∧p<b.1+pagesC b.2.1):gin G p=some b:=by
 induction G with
 | nil=>cases hb
 | cons a r ih =>
  unfold gin at *
  rw [List.find?_cons]
  obtain ⟨h1,h2⟩:=List.pairwise_cons.1 h
  rcases List.mem_cons.1 hb with rfl | hb
  ·simp [hp]
  ·have:=h1 b hb
   rw [show decide (a.1≤p∧p<a.1+pagesC a.2.1)=false by simp; omega]
   exact ih h2 hb
theorem greatC_pg {n:Int} (h:greatC n=true):∃ M:Nat,pagesC n=M∧1≤M∧M≤17:=by
 have h1:=pagesC_bd n
 have e1:1≤pagesC n:=by unfold pagesC; unfold greatC at h; simp at h; rw [if_neg (by omega)]; omega
 exact ⟨(pagesC n).toNat,by omega,by omega,by omega⟩
theorem baseN_find {c:Int} {z n:Nat} (h:Cls c z n) {k p:Nat} (hk:k<n):((baseN p z k:Nat):Int) / 256=p∧((baseN p z k:Nat):Int).toNat % 256 / z=k:=by
 obtain ⟨h1,h2,h3,h4,h5,h6,h7⟩:=h.base hk p
 rw [Int.toNat_natCast]
 exact ⟨by omega,h7⟩
theorem PR.Ok.find_slot {r:PR} (ok:r.Ok) {x:SE} (hx:x∈r.sl) {k:Nat} (hk:k<nC x.t.c):r.find (baseN x.t.pg (zC x.t.c) k:Nat)=some (placeS x k):=by
 have hs:=ok.sok x hx
 obtain ⟨h1,h2⟩:=baseN_find hs.cls (p:=x.t.pg) hk
 obtain ⟨h3,h4,_⟩:=hs.cls.base hk x.t.pg
 have hp:=hs.pg
 have hb:=hs.cls.bd
 have hN:r.N=256*(r.man+r.mgd):=rfl
 unfold PR.find
 rw [if_neg (by omega),h1,sfind_mem ok.sap hx]
 simp only [h2]
theorem PR.Ok.base_slot {r:PR} (ok:r.Ok) {x:SE} (hx:x∈r.sl) {k:Nat} (hk:k<nC x.t.c):r.base (baseN x.t.pg (zC x.t.c) k:Nat)=some (placeS x k):=by
 unfold PR.base
 rw [ok.find_slot hx hk]
 simp [placeS]
theorem PR.Ok.sfind_great {r:PR} (ok:r.Ok) {b:Int × Int × Nat} (hb:b∈r.G) {p:Int} (hp:b.1≤p∧p<b.1+pagesC b.2.1):sfind r.sl p=none:=by
 cases e:sfind r.sl p with
 | none=>rfl
 | some x =>
  obtain ⟨_,_,hx,hq⟩:=sfind_some e
  have:=ok.sg x hx b hb
  omega
theorem PR.Ok.find_great {r:PR} (ok:r.Ok) {b:Int × Int × Nat} (hb:b∈r.G):r.find (256*b.1)=some (placeG b):=by
 have hg:=ok.gok b hb
 have h1:=hg.lo
 have h2:=hg.hi
 obtain ⟨M,hM,hM1,_⟩:=greatC_pg hg.gr
 have hN:r.N=256*(r.man+r.mgd):=rfl
 unfold PR.find
 rw [if_neg (by omega),show 256*b.1 / 256=b.1 by omega,ok.sfind_great hb (by omega),gin_mem ok.gap hb (by omega)]
 rfl
theorem PR.Ok.base_great {r:PR} (ok:r.Ok) {b:Int × Int × Nat} (hb:b∈r.G):r.base (256*b.1)=some (placeG b):=by
 unfold PR.base
 rw [ok.find_great hb]
 simp [placeG]
theorem PR.Ok.find_cases {r:PR} (ok:r.Ok) {a:Int} {p:Pl} (h:r.find a=some p):(∃ (i:Nat) (x:SE) (k:Nat),r.sl[i]?=some x∧k<nC x.t.c∧(baseN x.t.pg (zC x.t.c) k:Int)≤a∧a<(baseN x.t.pg (zC x.t.c) k:Int)+zC x.t.c∧p=placeS x k)∨(∃ b∈r.G,256*b.1≤a∧a<256*(b.1+pagesC b.2.1)∧p=placeG b):=by
 unfold PR.find at h
 split at h
 ·cases h
 rename_i h0
 obtain ⟨n,rfl⟩:=Int.eq_ofNat_of_zero_le (show 0≤a by omega)
 cases hs:sfind r.sl ((n:Int) / 256) with
 | some x =>
  rw [hs] at h
  simp only [Int.toNat_natCast,Option.some.injEq] at h
  obtain ⟨i,hi,hm,hpg⟩:=sfind_some hs
  have hx:=ok.sok x hm
  have hlt:n % 256 / zC x.t.c<nC x.t.c∧baseN x.t.pg (zC x.t.c) (n % 256 / zC x.t.c)≤n∧n<baseN x.t.pg (zC x.t.c) (n % 256 / zC x.t.c)+zC x.t.c:=by
   unfold baseN
   rcases hx.cls.is with ⟨_,h4,h5⟩ | ⟨_,h4,h5⟩ | ⟨_,h4,h5⟩ | ⟨_,h4,h5⟩ <;> rw [h4,h5] <;> omega
  exact .inl ⟨i,x,_,hi,hlt.1,by omega,by omega,h.symm⟩
 | none =>
  rw [hs] at h
  simp only at h
  cases hg:gin r.G ((n:Int) / 256) with
  | none=>rw [hg] at h; cases h
  | some b =>
   rw [hg] at h
   obtain ⟨h1,h2,h3⟩:=gin_some hg
   exact .inr ⟨b,h1,by omega,by omega,(Option.some.inj h).symm⟩
theorem peS_set {sl:SEs} {i:Nat} {x y:SE} (hi:sl[i]?=some x) (h1:y.t.pg=x.t.pg) (h2:y.e0=x.e0) (h3:y.bn=x.bn):peS (sl.set i y)=peS sl:=by
 unfold peS
 apply List.ext_getElem?
 intro j
 rw [List.getElem?_map,List.getElem?_map,List.getElem?_set]
 split
 ·rename_i e; subst e
  rw [if_pos (List.getElem?_eq_some_iff.1 hi).1,hi]
  simp [h1,h2,h3]
 ·rfl
theorem pfind_pe (sl:SEs) (p:Int):pfind (peS sl) p=(sfind sl p).map fun x=>⟨x.t.pg,x.e0,x.bn⟩:=by
 simp only [pfind,peS,sfind,List.find?_map]
 rfl
theorem SOk.t {man mgd:Nat} {x:SE} (h:SOk man x) (h2:man+mgd≤256):x.t.Ok (256*(man+mgd)) (zC x.t.c) (nC x.t.c):=by
 have hp:=h.pg
 refine ⟨h.cls,by omega,?_,by omega⟩
 rcases h.f with h0 | ⟨k,hk,h0,_⟩
 ·omega
 ·have:=h.cls.base hk x.t.pg
  have:=h.cls.bd
  omega
def PR.upS (r:PR) (i:Nat) (x:SE) (t:PS) (bs:Bytes):PR:={ r with bs:=bs,sl:=r.sl.set i { x with t:=t } }
def tookT (t:PS) (k:Nat) (nx:Int):PS:={ t with lw:=putW t.lw k true,f:=nx }
def dropT (t:PS) (k:Nat):PS:={ t with lw:=putW t.lw k false,hw:=putW t.hw k true }
def giveT (t:PS) (k:Nat):PS:={ t with hw:=putW t.hw k false,f:=baseN t.pg (zC t.c) k }
def srow (c ow:Int):PRow:=⟨1,c,ow,1⟩
def PR.opened (r:PR) (A:Nat) (c ow:Int) (x:SE):PR:={ r with rs:=layP r.rs A (srow c ow) 1,bs:=(madeP r.key r.bs A (zC c) (nC c) (nC c)).1,sl:=r.sl++[x],mc:=r.mc+1 }
def PR.shut (r:PR) (p:Nat):PR:={ r with rs:=clearP r.rs p 1,sl:=r.sl.filter fun x => !decide ((x.t.pg:Int)=p) }
def PR.lost (r:PR) (p M:Nat):PR:={ r with rs:=clearP r.rs p M,bs:=overB r.bs (256*p) (List.replicate (256*M) 0xDD#8),G:=gdel r.G p }
def homeS (sl:SEs) (c ow:Int) (p:Nat):Bool:=match sfind sl p with
 | some x=>decide (x.t.c=c∧x.t.ow=ow∧0<cntS x.t 0 (nC x.t.c))
 | none=>false
def PR.home (r:PR) (c ow:Int):Option Nat:=(List.range (r.man+r.mgd)).find? (homeS r.sl c ow)
def PR.pageL (r:PR) (p:Nat):List Pl:=match sfind r.sl p with
 | some x=>((List.range (nC x.t.c)).filter fun k=>decide (x.t.st k=1)).map (placeS x)
 | none=>match gin r.G p with
  | some b=>if b.1=p then [placeG b] else []
  | none=>[]
def PR.liveK (r:PR):Nat→List Pl
 | 0=>[]
 | k+1=>r.liveK k++r.pageL k
def PR.live (r:PR):List Pl:=r.liveK (r.man+r.mgd)
theorem peS_del (sl:SEs) (p:Int):pdel (peS sl) p=peS (sl.filter fun x => !decide ((x.t.pg:Int)=p)):=by
 unfold pdel peS
 rw [List.filter_map]; rfl
end Go.Tum.Base
end
section
namespace Go.Proofs.YtgfjgfapigekiaaGreat
open Go Go.Tum Go.Tum.Base
set_option maxRecDepth 4000
structure RB where
 page:Int
 n:Int
def RB.cells (b:RB):List Value:=[.int .i64 b.page,.int .i64 b.n]
theorem RB.ok:RowOk RB.cells 2:=⟨fun _=>rfl,fun _=>rfl⟩
def RS (key:BitVec 64) (bs:Bytes) (l:List RB):LH:=[.cells 0 [.slice (some ⟨1,0,none⟩) bs.length bs.length,.int .u64 (key.toNat:Int),.slice (some ⟨2,0,none⟩) l.length l.length],BL bs,.gro 2 (rowsC RB.cells l)]
def atR (l:List RB) (p:Int):Int:=match l.findIdx? fun b=>decide (b.page=p) with
 | some i=>i
 | none => -1
theorem atR_hit {l:List RB} {p:Int} {i:Nat} {b:RB} (h:∀ (j:Nat) (c:RB),j<i→l[j]?=some c→c.page≠p) (hi:l[i]?=some b) (hb:b.page=p):atR l p=i:=by
 have:l.findIdx? (fun b=>decide (b.page=p))=some i:=by
  rw [List.findIdx?_eq_some_iff_getElem]
  obtain ⟨hlt,e⟩:=List.getElem?_eq_some_iff.1 hi
  refine ⟨hlt,by simp [e,hb],fun j hj=>?_⟩
  have:=h j _ hj (List.getElem?_eq_getElem (by omega))
  simpa using this
 unfold atR; rw [this]
theorem atR_miss {l:List RB} {p:Int} (h:∀ (j:Nat) (c:RB),j<l.length→l[j]?=some c→c.page≠p):atR l p = -1:=by
 have:l.findIdx? (fun b=>decide (b.page=p))=none:=by
  rw [List.findIdx?_eq_none_iff]
  intro x hx
  obtain ⟨j,hj⟩:=List.mem_iff_getElem?.1 hx
  have:=h j x (List.getElem?_eq_some_iff.1 hj).1 hj
  simpa using this
 unfold atR; rw [this]
set_option maxHeartbeats 1000000 in
theorem rAt_tr (key:BitVec 64) (bs:Bytes) (l:List RB) (hl:l.length≤1000) (p:Int):Tr Tryz.prog 144 [ptr 0,.int .i64 p] (RS key bs l) (fun v K=>v=.int .i64 (atR l p)∧K=RS key bs l):=by
 refine Tr.of row_tumbrelref08_Set_At_ok rfl ?_
 repeat' (first|refine qN ?_|refine dN ?_|refine qB ?_|refine qS ?_|fail)
 refine LWp.pick [1,10,11,12] [0,1,2] rfl rfl rfl (L_loop (fun q E L=>∃ i:Nat,q=l.length-i∧i≤l.length∧(∀ (j:Nat) (c:RB),j<i→l[j]?=some c→c.page≠p)∧E=[(1,.int .i64 p),(10,.slice (some ⟨2,0,none⟩) l.length l.length),(11,.int .i64 l.length),(12,.int .i64 i)]∧L=RS key bs l) l.length ⟨0,rfl,by omega,fun j c h=>by omega,rfl,rfl⟩ ?_)
 rintro q _ _ ⟨i,rfl,hi,hall,rfl,rfl⟩
 first|refine L_seq (L_rs (S_done [] rfl (Nx.goL (iF (fun h=>L_skip (Nx.goL ?_)) (fun h=>L_exit ?_)))))|refine L_rs (S_done [] rfl (Nx.goL (L_seq (iF (fun h=>L_skip (Nx.goL ?_)) (fun h=>L_exit ?_)))))
 ·have hin:i<l.length:=by omega
  obtain ⟨b,hb⟩:∃ b,l[i]?=some b:=⟨_,List.getElem?_eq_getElem (by omega)⟩
  by_cases he:b.page=p
  ·have e:=atR_hit hall hb he
   rw [e]
   repeat' (first|refine qN ?_|refine dN ?_|refine d0 ?_|refine qB ?_|refine qL ?_|refine iF (fun h=>?_) (fun h=>?_)|refine aX ?_|refine S_Q [] rfl rfl (QY.ldRow RB.ok rfl rfl hb (by decide)) ?_|refine aA ?_|refine qR ?_|refine qS ?_|fail)
   all_goals first | (exfalso; omega)|exact L_ret (RetQ.pick [0,1,2] rfl rfl rfl rfl ⟨rfl,rfl⟩)
  ·repeat' (first|refine qN ?_|refine dN ?_|refine d0 ?_|refine qB ?_|refine rT ?_|refine qL ?_|refine iF (fun h=>?_) (fun h=>?_)|refine aX ?_|refine S_Q [] rfl rfl (QY.ldRow RB.ok rfl rfl hb (by decide)) ?_|refine aA ?_|refine qR ?_|refine qS ?_|fail)
   all_goals first | (exfalso; omega)|exact Nx.pick [1,10,11,12] [0,1,2] rfl rfl rfl ⟨l.length-(i+1),by omega,i+1,rfl,by omega,(fun j c hj hc=>by
    by_cases h2:j<i
    ·exact hall j c h2 hc
    ·obtain rfl:j=i:=by omega
     rw [hb] at hc; cases hc; exact he),rfl,rfl⟩
 ·refine Nx.goL ?_
  obtain rfl:i=l.length:=by omega
  rw [atR_miss hall]
  repeat' (first|refine qN ?_|refine dN ?_|fail)
  exact L_ret (RetQ.pick [0,1,2] rfl rfl rfl rfl ⟨rfl,rfl⟩)
end Go.Proofs.YtgfjgfapigekiaaGreat
end
section
namespace Go.Tum.Base
open Go Go.Tum
def hornerN:Bytes→Nat
 | []=>0
 | b::r=>b.toNat+256*hornerN r
theorem hornerN_lt:∀ bs:Bytes,hornerN bs<256 ^ bs.length
 | []=>by simp [hornerN]
 | b::r=>by
  have:=hornerN_lt r
  have hb:=b.isLt
  simp only [hornerN,List.length_cons,Nat.pow_succ]
  omega
theorem hornerN_snoc:∀ (xs:Bytes) (b:BitVec 8),hornerN (xs++[b])=hornerN xs+256 ^ xs.length*b.toNat
 | [],b=>by simp [hornerN]
 | x::r,b=>by
  simp only [List.cons_append,hornerN,hornerN_snoc r b,List.length_cons,Nat.pow_succ]
  rw [Nat.mul_add,← Nat.mul_assoc,Nat.mul_comm 256 (256 ^ r.length)]; omega
theorem pow256 (k:Nat):256 ^ k=2 ^ (8*k):=by rw [Nat.pow_mul]
theorem getF_horner (bs:Bytes):∀ k,k≤8→k≤bs.length→(getF bs k).toNat=hornerN (bs.take k)
 | 0,_,_=>by simp [getF,hornerN]
 | k+1,h8,hk=>by
  have ih:=getF_horner bs k (by omega) (by omega)
  have hlt:=hornerN_lt (bs.take k)
  rw [List.length_take,Nat.min_eq_left (by omega),pow256] at hlt
  have hg:bs.getD k 0=bs[k]:=by rw [List.getD_eq_getElem?_getD,List.getElem?_eq_getElem (by omega)]; rfl
  have hb:=bs[k].isLt
  have hp:2 ^ (8*k)*256≤2 ^ 64:=by
   have:2 ^ (8*k)*2 ^ 8≤2 ^ 64:=by rw [← Nat.pow_add]; exact Nat.pow_le_pow_right (by decide) (by omega)
   omega
  have hsh:(bs[k].setWidth 64 <<< (8*k)).toNat=2 ^ (8*k)*bs[k].toNat:=by
   rw [BitVec.toNat_shiftLeft,Nat.shiftLeft_eq,BitVec.toNat_setWidth,Nat.mod_eq_of_lt (a:=bs[k].toNat) (by omega),Nat.mul_comm,Nat.mod_eq_of_lt]
   have:2 ^ (8*k)*bs[k].toNat<2 ^ (8*k)*256:=Nat.mul_lt_mul_of_pos_left hb (Nat.two_pow_pos _)
   omega
  rw [getF,hg,BitVec.toNat_or,ih,hsh,Nat.or_comm,← Nat.two_pow_add_eq_or_of_lt hlt,List.take_succ_eq_append_getElem (by omega),hornerN_snoc,List.length_take,Nat.min_eq_left (by omega),pow256]
  omega
theorem getW_horner {bs:Bytes} (h:bs.length=8):getW bs=BitVec.ofNat 64 (hornerN bs):=by
 apply BitVec.eq_of_toNat_eq
 have h1:=hornerN_lt bs
 rw [h] at h1
 have h2:=getF_horner bs 8 (by omega) (by omega)
 rw [List.take_of_length_le (by omega)] at h2
 rw [getW,h,show min 8 8=8 by rfl,h2,BitVec.toNat_ofNat,Nat.mod_eq_of_lt (by simpa using h1)]
theorem shift_step (v:BitVec 64) (k:Nat):v >>> (8*k) >>> 8=v >>> (8*(k+1)):=by
 apply BitVec.eq_of_getLsbD_eq
 intro i hi
 simp only [BitVec.getLsbD_ushiftRight]
 congr 1; omega
end Go.Tum.Base
namespace Go.Proofs.YtgfjgfapigekiaaGreat
open Go Go.Tum Go.Tum.Base
set_option maxRecDepth 4000
theorem rMix_tr (x:BitVec 64):Tr Tryz.prog 130 [.int .u64 (x.toNat:Int)] [] (fun v K=>v=.int .u64 ((mixW x).toNat:Int)∧K=[]):=by
 refine Tr.of row_tumbrelref06_Mix_ok rfl ?_
 repeat' (first|refine qN ?_|refine dN ?_|refine rT ?_|refine S_Q [] rfl rfl (QY.quoW 30 rfl rfl (by decide) (by decide)) ?_|refine S_Q [] rfl rfl (QY.quoW 27 rfl rfl (by decide) (by decide)) ?_|refine S_Q [] rfl rfl (QY.quoW 31 rfl rfl (by decide) (by decide)) ?_|refine S_Q [] rfl rfl (QY.xorW rfl rfl) ?_|refine S_Q [] rfl rfl (QY.mulW (b:=0xBF58476D1CE4E5B9#64) rfl rfl) ?_|refine S_Q [] rfl rfl (QY.mulW (b:=0x94D049BB133111EB#64) rfl rfl) ?_|exact ⟨rfl,rfl⟩|fail)
set_option maxHeartbeats 1000000 in
theorem rGet_tr (ys:Bytes) (i c:Nat) (h:i+8≤ys.length) (hb:ys.length≤65536):Tr Tryz.prog 166 [.slice (some ⟨0,i*1,none⟩) 8 c] [BL ys] (fun v K=>v=.int .u64 ((wordB ys i).toNat:Int)∧K=[BL ys]):=by
 have hp:(partB ys i 8).length=8:=partB_length h
 rw [wordB,getW_horner hp]
 obtain ⟨W,hW⟩:∃ W:Nat→BitVec 64,W=fun k=>BitVec.ofNat 64 (hornerN ((partB ys i 8).drop k)):=⟨_,rfl⟩
 have hg:∀ k,k<8→ys[i+k]?=some ((partB ys i 8).getD k 0):=fun k hk=>by
  rw [List.getD_eq_getElem?_getD,partB,List.getElem?_take,if_pos hk,List.getElem?_drop,List.getElem?_eq_getElem (by omega)]; rfl
 have hWs:∀ k,k<8→W (k+1)*256#64+((partB ys i 8).getD k 0).setWidth 64=W k:=fun k hk=>by
  rw [hW]
  simp only
  have hd:(partB ys i 8).drop k=(partB ys i 8).getD k 0::(partB ys i 8).drop (k+1):=by
   rw [List.drop_eq_getElem_cons (by omega),List.getD_eq_getElem?_getD,List.getElem?_eq_getElem (by omega)]; rfl
  rw [hd,hornerN]
  apply BitVec.eq_of_toNat_eq
  have:=((partB ys i 8).getD k 0).isLt
  simp only [BitVec.toNat_add,BitVec.toNat_mul,BitVec.toNat_ofNat,BitVec.toNat_setWidth]
  omega
 have hW8:W 8=0#64:=by rw [hW]; simp only; rw [List.drop_eq_nil_of_le (by omega)]; rfl
 have hW0:W 0=BitVec.ofNat 64 (hornerN (partB ys i 8)):=by rw [hW]; simp only; rw [List.drop_zero]
 rw [← hW0]
 generalize partB ys i 8=xs at *
 refine Tr.of row_tumbrelref01_Get_ok rfl ?_
 repeat' (first|refine qN ?_|refine dN ?_|refine qB ?_|refine qU ?_|refine qL ?_|refine aS ?_|refine qS ?_|fail)
 refine LWp.pick [0,3,4] [0] rfl rfl rfl (L_loop (fun q l L=>∃ k:Nat,q=k∧k≤8∧l=[(0,.slice (some ⟨0,i*1,none⟩) 8 c),(3,.int .u64 ((W k).toNat:Int)),(4,.int .i64 ((k:Int)-1))]∧L=[BL ys]) 8 ⟨8,rfl,by omega,by rw [hW8]; rfl,rfl⟩ ?_)
 rintro k _ _ ⟨_,rfl,hk,rfl,rfl⟩
 cases k with
 | zero =>
  repeat' (first|refine qN ?_|refine dN ?_|refine rT ?_|refine qU ?_|refine qF ?_|refine qS ?_|exact ⟨rfl,rfl⟩|fail)
 | succ k =>
  have hgk:=hg k (by omega)
  have hWk:=hWs k (by omega)
  rw [show ((k+1:Nat):Int)-1=(k:Int) by omega]
  repeat' (first|refine qN ?_|refine dN ?_|refine d0 ?_|refine qB ?_|refine qT ?_|refine qL ?_|refine S_Q [] rfl rfl (QY.mulW (b:=256#64) rfl rfl) ?_|refine S_Q [] rfl rfl (QY.idxO (k:=k) rfl rfl (by omega)) ?_|refine S_Q [] rfl rfl (QY.ldYo rfl (by omega) rfl hgk) ?_|refine S_Q [] rfl rfl (QY.cvBW rfl) ?_|refine S_Q [] rfl rfl (QY.addW rfl rfl) ?_|refine aS ?_|refine qR ?_|refine qS ?_|fail)
  ·rw [hWk]
   exact Nx.pick [0,3,4] [0] rfl rfl rfl ⟨k,by omega,k,rfl,by omega,rfl,rfl⟩
set_option maxHeartbeats 1000000 in
theorem rPut_tr (v:BitVec 64):Tr Tryz.prog 142 [.int .i64 8,.int .u64 (v.toNat:Int)] [] (fun u K=>u=slB 0 8∧K=[BL (putB v 8)]):=by
 refine Tr.of row_tumbrelref01_Put_ok rfl ?_
 repeat' (first|refine qN ?_|refine dN ?_|refine qB ?_|refine qS ?_|fail)
 refine LWp.nilE 5 1 rfl (LWp.pick [0,1,5,6] [0] rfl rfl rfl (L_loop (fun q l L=>∃ k:Nat,q=8-k∧k≤8∧l=[(0,.int .i64 8),(1,.int .u64 ((v >>> (8*k)).toNat:Int)),(5,.slice (some ⟨0,0,none⟩) k k),(6,.int .i64 k)]∧L=[BL (putB v k)]) 8 ⟨0,rfl,by omega,by rw [Nat.mul_zero,BitVec.ushiftRight_zero]; rfl,rfl⟩ ?_))
 rintro q _ _ ⟨k,rfl,hk,rfl,rfl⟩
 repeat' (first|refine qN ?_|refine dN ?_|refine qB ?_|refine qT ?_|refine qU ?_|refine qL ?_|refine qF ?_|refine S_Q [] rfl rfl (QY.rem256 rfl rfl) ?_|refine S_Q [] rfl rfl (QY.cvi rfl (rem_byte _)) ?_|refine sP 10 (fun h=>?_) (fun h=>?_)|refine qS ?_|fail)
 ·first|refine L_rs ?_|refine L_reg ?_ | skip
  refine eE rfl rfl (EW.appR1 (bytes:=1) (a:=byteAt v k) byteC_ok rfl (by kernel_rfl) rfl rfl rfl rfl (putB_length v k) (by omega)) ?_
  conv=>whnf
  repeat' (first|refine dN ?_|refine d0 ?_|refine S_Q [] rfl rfl (QY.quoW 8 rfl rfl (by decide) (by decide)) ?_|refine aA ?_|refine qR ?_|fail)
  rw [shift_step]
  refine Nx.pick [0,1,5,6] [2] rfl rfl rfl ⟨8-(k+1),by omega,k+1,rfl,by omega,rfl,rfl⟩
 ·obtain rfl:k=8:=by omega
  exact L_ret (RetQ.pick [0] rfl rfl rfl rfl ⟨rfl,rfl⟩)
theorem rPages_tr (n:Int):Tr Tryz.prog 105 [.int .i64 n] [] (fun v K=>v=.int .i64 (pagesC n)∧K=[]):=by
 refine Tr.of row_tumbrelref05_Pages_ok rfl ?_
 by_cases h:n<121∨n > 4096
 ·rw [show pagesC n=0 by unfold pagesC; rw [if_pos (by omega)]]
  repeat' (first|refine qN ?_|refine dN ?_|refine qB ?_|refine rT ?_|refine qT ?_|refine qL ?_|refine iF (fun h=>?_) (fun h=>?_)|refine sP 6 (fun h=>?_) (fun h=>?_)|refine qS ?_|exact ⟨rfl,rfl⟩|fail)
  all_goals (exfalso; omega)
 ·repeat' (first|refine qN ?_|refine dN ?_|refine qB ?_|refine qT ?_|refine qL ?_|refine iF (fun h=>?_) (fun h=>?_)|refine sP 6 (fun h=>?_) (fun h=>?_)|refine qS ?_|fail)
  all_goals try (exfalso; omega)
  refine LWp.pick [0,3] [] rfl rfl rfl (L_loop (fun q l L=>∃ k:Nat,q=17-k∧1≤k∧(k:Int)≤pagesC n∧l=[(0,.int .i64 n),(3,.int .i64 k)]∧L=[]) 16 ⟨1,rfl,by omega,by unfold pagesC; rw [if_neg (by omega)]; omega,rfl,rfl⟩ ?_)
  have hp:pagesC n=(n+263) / 256:=by unfold pagesC; rw [if_neg (by omega)]
  rw [hp]
  rintro q _ _ ⟨k,rfl,hk1,hk2,rfl,rfl⟩
  repeat' (first|refine qN ?_|refine dN ?_|refine d0 ?_|refine qB ?_|refine rT ?_|refine qL ?_|refine qF ?_|refine iF (fun h=>?_) (fun h=>?_)|refine aA ?_|refine aM ?_|refine qR ?_|refine qS ?_|fail)
  ·exact Nx.pick [0,3] [] rfl rfl rfl ⟨17-(k+1),by omega,k+1,rfl,by omega,by omega,rfl,rfl⟩
  ·refine ⟨congrArg (Value.int _) ?_,rfl⟩; omega
end Go.Proofs.YtgfjgfapigekiaaGreat
end
section
namespace Go.Proofs.YtgfjgfapigekiaaGreat
open Go Go.Tum Go.Tum.Base
set_option maxRecDepth 4000
def rPutL (gl:List RB) (p:Int) (n:Int):List RB:=gl.filter (fun x=>decide (x.page<p))++⟨p,n⟩::gl.filter (fun x=>decide (p<x.page))
set_option maxHeartbeats 1000000 in
theorem rFill_tr (key:BitVec 64) (bs:Bytes) (hb:bs.length≤65536) (gl:List RB) (p M:Nat) (h:256*(p+M)≤bs.length) (c:BitVec 8):TrK Tryz.prog [] [0,2] 146 [ptr 0,.int .i64 p,.int .i64 M,.int .u8 (c.toNat:Int)] (RS key bs gl) (fun v K=>v=undef∧K=RS key (overB bs (256*p) (List.replicate (256*M) c)) gl):=by
 have hl:∀ k,k≤256*M→(overB bs (256*p) (List.replicate k c)).length=bs.length:=fun k hk=>overB_length (by rw [List.length_replicate]; omega)
 refine Tr.of row_tumbrelref08_Set_fill_ok rfl ?_
 repeat' (first|refine qN ?_|fail)
 refine S_wk [] rfl (wk_gro0 (b:=3) 1 rfl) ?_
 first|refine L_rs ?_|refine L_reg ?_ | skip
 refine eE rfl rfl (EW.appRR (bytes:=1) (xs:=[]) (ys:=bs) byteC_ok rfl (by kernel_rfl) rfl rfl rfl rfl rfl rfl (by decide) (by omega)) ?_
 conv=>whnf
 rw [Nat.zero_add]
 repeat' (first|refine qN ?_|refine dN ?_|refine qB ?_|refine S_Q [] rfl rfl (QY.mul (c:=((256*p:Nat):Int)) rfl rfl (by omega) (by omega) (by omega)) ?_|refine qS ?_|fail)
 refine LWp.pick [0,1,2,3,8,9] [0,1,2,4] rfl rfl rfl (L_loop (fun q l K=>∃ k:Nat,q=256*M-k∧k≤256*M∧l=[(0,ptr 0),(1,.int .i64 p),(2,.int .i64 M),(3,.int .u8 (c.toNat:Int)),(8,slB 3 bs.length),(9,.int .i64 (256*p+k:Nat))]∧K=RS key bs gl++[BL (overB bs (256*p) (List.replicate k c))]) (256*M) ⟨0,rfl,by omega,rfl,by rw [List.replicate_zero,overB_nil]; rfl⟩ ?_)
 rintro q _ _ ⟨k,rfl,hk,rfl,rfl⟩
 have hlk:=hl k hk
 repeat' (first|refine qN ?_|refine dN ?_|refine d0 ?_|refine qB ?_|refine qL ?_|refine qF ?_|refine iF (fun h=>?_) (fun h=>?_)|refine aX ?_|refine S_Q [] rfl rfl (QY.mul (c:=((256*(p+M):Nat):Int)) rfl rfl (by omega) (by omega) (by omega)) ?_|refine aA ?_|refine qR ?_|refine qS ?_|fail)
 ·have hk2:k<256*M:=by omega
  have hsn:=overB_snoc (bs:=bs) (i:=256*p) (ys:=List.replicate k c) c (by rw [List.length_replicate]; omega)
  rw [List.length_replicate,← List.replicate_succ'] at hsn
  first|refine L_rs ?_|refine L_reg ?_ | skip
  refine eE rfl rfl (EW.stY (k:=256*p+k) (a:=c) rfl rfl rfl (by rw [hlk]; omega)) ?_
  conv=>whnf
  rw [hsn]
  repeat' (first|refine dN ?_|refine d0 ?_|refine aA ?_|refine qR ?_|fail)
  exact Nx.pick [0,1,2,3,8,9] [0,1,2,3] rfl rfl rfl ⟨256*M-(k+1),by omega,k+1,rfl,by omega,rfl,rfl⟩
 ·obtain rfl:k=256*M:=by omega
  refine RetQ.end [0,3,2] rfl rfl rfl rfl ⟨rfl,?_⟩
  unfold RS; rw [hlk]; rfl
theorem takeG_succ {L:List RB} {p:RB→Bool} {k:Nat} (h:k<L.length):(L.take (k+1)).filter p=(L.take k).filter p++(if p L[k] then [L[k]] else []):=by
 rw [List.take_succ_eq_append_getElem h,List.filter_append]
 congr 1
 rw [List.filter_cons]; rfl
theorem takeG_len {L:List RB} {p:RB→Bool} (k:Nat):((L.take k).filter p).length≤L.length:=by
 have:=List.length_filter_le p (L.take k)
 rw [List.length_take] at this
 omega
set_option maxHeartbeats 2000000 in
theorem rMake8_tr (key:BitVec 64) (bs:Bytes) (N:Nat) (hN:bs.length=256*N) (hN2:N≤256) (gl:List RB) (hgl:gl.length≤256) (hgb:∀ x∈gl,0≤x.page∧x.page≤256) (p M:Nat) (n:Int) (hn:greatC n=true) (hM:pagesC n=M) (hpM:p+M≤N) (hno:∀ x∈gl,∀ i:Nat,i<M→(p:Int)+i<x.page∨x.page+pagesC x.n≤(p:Int)+i) :
  TrK Tryz.prog [] [0] 106 [ptr 0,.int .i64 p,.int .i64 n] (RS key bs gl) (fun v K=>v=.int .i64 0∧K=RS key (madeB key bs p M) (rPutL gl p n)):=by
 obtain ⟨M',hM',hM1,hM17⟩:=greatC_pages hn
 obtain rfl:M'=M:=by omega
 have hP:=rPages_tr n
 rw [hM] at hP
 refine Tr.of row_tumbrelref08_Set_Make_ok rfl ?_
 repeat' (first|refine qN ?_|refine dN ?_|refine qB ?_|refine qT ?_|refine qU ?_|refine qL ?_|refine iF (fun h=>?_) (fun h=>?_)|refine cP [] (hP) ?_|refine S_Q [] rfl rfl (QY.divN (c:=(N:Int)) rfl rfl (by omega) (by omega) (by omega)) ?_|refine aS ?_|refine sP 18 (fun h=>?_) (fun h=>?_)|refine sP 30 (fun h=>?_) (fun h=>?_)|refine qS ?_|fail)
 all_goals try (exfalso; omega)
 refine LWp.nilE 8 2 rfl (LWp.pick [0,1,2,7,8,45,46,47] [0,1,2,3] rfl rfl rfl (L_loop (fun q l K=>∃ k:Nat,q=gl.length-k∧k≤gl.length∧l=[(0,ptr 0),(1,.int .i64 p),(2,.int .i64 n),(7,.int .i64 M'),(8,slB 3 ((gl.take k).filter fun x=>decide (x.page<(p:Int))).length),(45,slB 2 gl.length),(46,.int .i64 gl.length),(47,.int .i64 k)]∧K=RS key bs gl++[.gro 2 (rowsC RB.cells ((gl.take k).filter fun x=>decide (x.page<(p:Int))))]) gl.length ⟨0,rfl,by omega,rfl,rfl⟩ ?_))
 rintro q _ _ ⟨k,rfl,hk,rfl,rfl⟩
 first|refine L_seq (L_rs (S_done [] rfl (Nx.goL (iF (fun h=>L_skip (Nx.goL ?_)) (fun h=>L_exit ?_)))))|refine L_rs (S_done [] rfl (Nx.goL (L_seq (iF (fun h=>L_skip (Nx.goL ?_)) (fun h=>L_exit ?_)))))
 ·have hk2:k<gl.length:=by omega
  have hg:gl[k]?=some gl[k]:=List.getElem?_eq_getElem hk2
  have hFk:=takeG_succ (p:=fun x=>decide (x.page<(p:Int))) hk2
  have hFl:=takeG_len (L:=gl) (p:=fun x=>decide (x.page<(p:Int))) k
  have hx:=hgb gl[k] (List.getElem_mem hk2)
  have hxn:=hno gl[k] (List.getElem_mem hk2)
  have hPx:=rPages_tr gl[k].n
  have hPb:=pagesC_bd gl[k].n
  refine L_seq (L_block ?_)
  repeat' (first|refine qN ?_|refine dN ?_|refine qB ?_|refine aX ?_|refine S_Q [] rfl rfl (QY.ldRow RB.ok rfl rfl hg (by decide)) ?_|refine qS ?_|fail)
  refine LWp.pick [0,1,2,7,8,10,11,45,46,47] [0,1,2,3,4] rfl rfl rfl (L_loop (fun q l K=>∃ i:Nat,q=M'-i∧i≤M'∧l=[(0,ptr 0),(1,.int .i64 p),(2,.int .i64 n),(7,.int .i64 M'),(8,slB 3 ((gl.take k).filter fun x=>decide (x.page<(p:Int))).length),(10,ptr 4),(11,.int .i64 i),(45,slB 2 gl.length),(46,.int .i64 gl.length),(47,.int .i64 k)]∧K=RS key bs gl++[.gro 2 (rowsC RB.cells ((gl.take k).filter fun x=>decide (x.page<(p:Int)))),.cells 0 [.int .i64 gl[k].page,.int .i64 gl[k].n]]) M' ⟨0,rfl,by omega,rfl,rfl⟩ ?_)
  rintro q _ _ ⟨i,rfl,hi,rfl,rfl⟩
  by_cases hi2:i<M'
  ·have hxi:=hxn i hi2
   repeat' (first|refine qN ?_|refine dN ?_|refine d0 ?_|refine qB ?_|refine qU ?_|refine qL ?_|refine qF ?_|refine iF (fun h=>?_) (fun h=>?_)|refine cP [] (hPx) ?_|refine aA ?_|refine sP 62 (fun h=>?_) (fun h=>?_)|refine qR ?_|refine qS ?_|fail)
   all_goals first | (exfalso; omega)|exact Nx.pick [0,1,2,7,8,10,11,45,46,47] [0,1,2,3,4] rfl rfl rfl ⟨M'-(i+1),by omega,i+1,rfl,by omega,rfl,rfl⟩
  ·obtain rfl:i=M':=by omega
   repeat' (first|refine qN ?_|refine dN ?_|refine d0 ?_|refine qB ?_|refine qU ?_|refine qL ?_|refine qF ?_|refine iF (fun h=>?_) (fun h=>?_)|refine aA ?_|refine sP 62 (fun h=>?_) (fun h=>?_)|refine qR ?_|refine qS ?_|fail)
   all_goals try (exfalso; omega)
   ·rw [if_pos (by simpa using h)] at hFk
    first|refine L_rs ?_|refine L_reg ?_ | skip
    refine eE rfl rfl (EW.appR1 (bytes:=16) (a:=gl[k]) RB.ok rfl (by kernel_rfl) rfl rfl rfl rfl rfl (by omega)) ?_
    conv=>whnf
    repeat' (first|refine dN ?_|refine d0 ?_|refine aA ?_|refine qR ?_|fail)
    refine Nx.pick [0,1,2,7,8,45,46,47] [0,1,2,6] rfl rfl rfl ⟨gl.length-(k+1),by omega,k+1,rfl,by omega,?_,by rw [hFk]; rfl⟩
    rw [hFk,List.length_append]; rfl
   ·rw [if_neg (by simpa using h),List.append_nil] at hFk
    refine Nx.pick [0,1,2,7,8,45,46,47] [0,1,2,3] rfl rfl rfl ⟨gl.length-(k+1),by omega,k+1,rfl,by omega,?_,by rw [hFk]; rfl⟩
    rw [hFk]; rfl
 ·obtain rfl:k=gl.length:=by omega
  refine Nx.goL ?_
  rw [List.take_length]
  have hl1:=List.length_filter_le (fun x:RB=>decide (x.page<(p:Int))) gl
  have hgp:rPutL gl p n=gl.filter (fun x=>decide (x.page<(p:Int)))++(⟨(p:Int),n⟩:RB)::gl.filter (fun x=>decide ((p:Int)<x.page)):=rfl
  generalize gl.filter (fun x=>decide (x.page<(p:Int)))=A1 at *
  repeat' (first|refine qN ?_|fail)
  first|refine L_rs ?_|refine L_reg ?_ | skip
  refine eE rfl rfl (EW.appR1 (bytes:=16) (a:=(⟨(p:Int),n⟩:RB)) RB.ok rfl (by kernel_rfl) rfl rfl rfl rfl rfl (by omega)) ?_
  conv=>whnf
  repeat' (first|refine qN ?_|refine dN ?_|refine qB ?_|refine qS ?_|fail)
  refine LWp.pick [0,1,2,7,8,92,93,94] [0,1,2,5] rfl rfl rfl (L_loop (fun q l K=>∃ k:Nat,q=gl.length-k∧k≤gl.length∧l=[(0,ptr 0),(1,.int .i64 p),(2,.int .i64 n),(7,.int .i64 M'),(8,slB 3 (A1++[(⟨(p:Int),n⟩:RB)]++(gl.take k).filter fun x=>decide ((p:Int)<x.page)).length),(92,slB 2 gl.length),(93,.int .i64 gl.length),(94,.int .i64 k)]∧K=RS key bs gl++[.gro 2 (rowsC RB.cells (A1++[(⟨(p:Int),n⟩:RB)]++(gl.take k).filter fun x=>decide ((p:Int)<x.page)))]) gl.length ⟨0,rfl,by omega,by rw [List.take_zero,List.filter_nil,List.append_nil,List.length_append]; rfl,by rw [List.take_zero,List.filter_nil,List.append_nil]; rfl⟩ ?_)
  rintro q _ _ ⟨k,rfl,hk,rfl,rfl⟩
  first|refine L_seq (L_rs (S_done [] rfl (Nx.goL (iF (fun h=>L_skip (Nx.goL ?_)) (fun h=>L_exit ?_)))))|refine L_rs (S_done [] rfl (Nx.goL (L_seq (iF (fun h=>L_skip (Nx.goL ?_)) (fun h=>L_exit ?_)))))
  ·have hk2:k<gl.length:=by omega
   have hg:gl[k]?=some gl[k]:=List.getElem?_eq_getElem hk2
   have hFk:=takeG_succ (p:=fun x=>decide ((p:Int)<x.page)) hk2
   have hFl:=takeG_len (L:=gl) (p:=fun x=>decide ((p:Int)<x.page)) k
   repeat' (first|refine qN ?_|refine dN ?_|refine d0 ?_|refine qB ?_|refine qL ?_|refine iF (fun h=>?_) (fun h=>?_)|refine aX ?_|refine S_Q [] rfl rfl (QY.ldRow RB.ok rfl rfl hg (by decide)) ?_|refine aA ?_|refine qR ?_|refine qS ?_|fail)
   ·rw [if_pos (by simpa using h)] at hFk
    first|refine L_rs ?_|refine L_reg ?_ | skip
    refine eE rfl rfl (EW.appR1 (bytes:=16) (a:=gl[k]) RB.ok rfl (by kernel_rfl) rfl rfl rfl rfl rfl (by simp only [List.length_append,List.length_cons,List.length_nil]; omega)) ?_
    conv=>whnf
    repeat' (first|refine dN ?_|refine d0 ?_|refine aA ?_|refine qR ?_|fail)
    refine Nx.pick [0,1,2,7,8,92,93,94] [0,1,2,6] rfl rfl rfl ⟨gl.length-(k+1),by omega,k+1,rfl,by omega,?_,by rw [hFk,← List.append_assoc]; rfl⟩
    rw [hFk,← List.append_assoc,List.length_append (bs:=[gl[k]])]; rfl
   ·rw [if_neg (by simpa using h),List.append_nil] at hFk
    refine Nx.pick [0,1,2,7,8,92,93,94] [0,1,2,3] rfl rfl rfl ⟨gl.length-(k+1),by omega,k+1,rfl,by omega,?_,by rw [hFk]; rfl⟩
    rw [hFk]; rfl
  ·obtain rfl:k=gl.length:=by omega
   refine Nx.goL ?_
   rw [List.take_length]
   rw [List.append_cons] at hgp
   generalize gl.filter (fun x=>decide ((p:Int)<x.page))=A2 at *
   rw [hgp]
   generalize A1++[(⟨(p:Int),n⟩:RB)]++A2=X at *
   have hF:=rFill_tr key bs (by omega) gl p M' (by omega) 0#8
   have hlb:(overB bs (256*p) (List.replicate (256*M') 0#8)).length=bs.length:=overB_length (by rw [List.length_replicate]; omega)
   simp only [RS,hlb] at hF
   have hMx:=rMix_tr (key ^^^ BitVec.ofInt 64 (256*(p:Int)))
   have hPt:=rPut_tr (canW key (256*(p:Int)))
   change Tr Tryz.prog _ _ _ (fun v K=>v=.int .u64 ((canW key (256*(p:Int))).toNat:Int)∧K=[]) at hMx
   repeat' (first|refine qN ?_|refine dN ?_|(refine cW [0,1,2] (hF) ?_; conv=>whnf)|refine S_Q [] rfl rfl (QY.sub (c:=((256*(p+M')-8:Nat):Int)) rfl rfl (by omega) (by omega) (by omega)) ?_|refine S_Q [] rfl rfl (QY.slc0 (b:=1) (lo':=256*(p+M')-8) (hi':=bs.length) rfl rfl rfl (by omega) (by omega)) ?_|refine S_Q [] rfl rfl (QY.cvIW rfl) ?_|refine S_Q [] rfl rfl (QY.xorW rfl rfl) ?_|refine cP [] (hMx) ?_|(refine cF [] (hPt) ?_; conv=>whnf)|refine aA ?_|refine aM ?_|fail)
   first|refine L_rs ?_|refine L_reg ?_ | skip
   refine eE rfl rfl (EW.copyg (i:=256*(p+M')-8) (j:=0) (xs:=overB bs (256*p) (List.replicate (256*M') 0#8)) (ys:=putB (canW key (256*(p:Int))) 8) byteC_ok rfl (by kernel_rfl) rfl rfl rfl rfl (by rw [hlb]; omega) (by rw [putB_length]; omega) (by decide)) ?_
   conv=>whnf
   rw [overB_copy _ _ _ (putB_length _ _).symm (by omega)]
   repeat' (first|refine qN ?_|refine dN ?_|fail)
   refine L_ret (RetQ.pick [0,1,3] rfl rfl rfl rfl ⟨rfl,?_⟩)
   have hmb:=madeB_length (key:=key) (bs:=bs) (p:=p) (M:=M') (by omega) hM1
   unfold RS; rw [hmb]; rfl
end Go.Proofs.YtgfjgfapigekiaaGreat
end
section
namespace Go.Tum
open Go
section
variable {P:Program} {n0:NA} {l:Env} {L:LH}
theorem EW.appRSe {α:Type} {g:α→List Value} {sz:Nat} {o:Oper} {s x:Operand} {sT xT:TypeId} {bytes b n bx ox i m cx t:Nat} {xs ys zs:List α} (hnm:n+m=t) (hzs:xs++(ys.drop i).take m=zs) (h:RowOk g sz) (ho:o.op=.call ⟨.builtin .append,⟨[s,x]⟩,⟨[sT,xT]⟩⟩) (ht:appT P sT xT=some (sz,bytes)) (hs:lv l s=some (.slice (some ⟨b,0,none⟩) n n)) (hx:lv l x=some (.slice (some ⟨bx,ox,none⟩) m cx))
  (hb:L[b]?=some (.gro sz (rowsC g xs))) (hbx:L[bx]?=some (.gro sz (rowsC g ys))) (hox:ox=i*sz) (hn:xs.length=n) (hm:i+m≤ys.length) (hz:0<sz) (hbd:(2*(n+m)+2048)*bytes≤281474976710656) :
  EW P n0 L l (.raw o) (fun v K=>v=.slice (some ⟨L.length,0,none⟩) t t∧K=L.set b .dead++[.gro sz (rowsC g zs)]):=by
 subst hnm; subst hzs
 exact EW.appRS h ho ht hs hx hb hbx hox hn hm hz hbd
end
end Go.Tum
end
section
namespace Go.Proofs.YtgfjgfapigekiaaGreat
open Go Go.Tum Go.Tum.Base
set_option maxRecDepth 4000
def rStands (key:BitVec 64) (bs:Bytes) (b:RB):Bool:=decide (wordB bs (256*(b.page+pagesC b.n)-8).toNat=canW key (256*b.page))
theorem rStands_tr (key:BitVec 64) (bs:Bytes) (hb:bs.length≤65536) (gl:List RB) (b:RB) (i:Nat) (hp:0≤b.page) (hi:256*(b.page+pagesC b.n)-8=i) (hle:i+8≤bs.length) :
  Tr Tryz.prog 145 [ptr 0,.agg ⟨RB.cells b⟩] (RS key bs gl) (fun v K=>v=.bool (rStands key bs b)∧K=RS key bs gl):=by
 have hP:=rPages_tr b.n
 have hPb:=pagesC_bd b.n
 have hM:=rMix_tr (key ^^^ BitVec.ofInt 64 (256*b.page))
 change Tr Tryz.prog _ _ _ (fun v K=>v=.int .u64 ((canW key (256*b.page)).toNat:Int)∧K=[]) at hM
 have hG:Tr Tryz.prog 166 [.slice (some ⟨0,i*1,none⟩) (i+8-i) (bs.length-i)] [BL bs] (fun v K=>v=.int .u64 ((wordB bs i).toNat:Int)∧K=[BL bs]):=by
  rw [show i+8-i=8 by omega]; exact rGet_tr bs i (bs.length-i) (by omega) hb
 refine Tr.of row_tumbrelref08_Set_Stands_ok rfl ?_
 repeat' (first|refine qN ?_|refine dN ?_|refine rT ?_|refine cP [] (hP) ?_|refine S_Q [] rfl rfl (QY.mul (c:=((i+8:Nat):Int)) rfl rfl (by omega) (by omega) (by omega)) ?_|refine S_Q [] rfl rfl (QY.sub (c:=(i:Int)) rfl rfl (by omega) (by omega) (by omega)) ?_|refine S_Q [] rfl rfl (QY.slc0 (b:=1) (lo':=i) (hi':=i+8) rfl rfl rfl (by omega) (by omega)) ?_|refine S_Q [] rfl rfl (QY.cvIW rfl) ?_|refine S_Q [] rfl rfl (QY.xorW rfl rfl) ?_|refine cP [1] (hG) ?_|refine cP [] (hM) ?_|refine aA ?_|refine aM ?_|fail)
 refine ⟨congrArg Value.bool ?_,rfl⟩
 rw [rStands,hi,Int.toNat_natCast,Bool.eq_iff_iff,beq_iff_eq,decide_eq_true_eq]
 exact ⟨fun h=>BitVec.eq_of_toNat_eq (by omega),fun h=>by rw [h]⟩
set_option maxHeartbeats 2000000 in
theorem rDrop_ok (key:BitVec 64) (bs:Bytes) (hb:bs.length≤65536) (l:List RB) (hl:l.length≤1000) (i:Nat) (b:RB) (p M:Nat) (hp:b.page=p) (hi:l[i]?=some b) (h:atR l p=i) (hM:pagesC b.n=M) (hM1:1≤M) (hle:256*(p+M)≤bs.length) :
  TrK Tryz.prog [] [0] 98 [ptr 0,.int .i64 p] (RS key bs l) (fun v K=>v=.tuple ⟨[.bool (rStands key bs b),.int .i64 0]⟩∧K=RS key (overB bs (256*p) (List.replicate (256*M) 0xDD#8)) (l.take i++l.drop (i+1))):=by
 have hA:=rAt_tr key bs l hl p
 rw [h] at hA
 have hil:i<l.length:=(List.getElem?_eq_some_iff.1 hi).1
 have hS:=rStands_tr key bs hb l b (256*(p+M)-8) (by omega) (by omega) (by omega)
 have hP:=rPages_tr b.n
 rw [hM] at hP
 have hF:=rFill_tr key bs hb l p M hle 0xDD#8
 have hlb:(overB bs (256*p) (List.replicate (256*M) 0xDD#8)).length=bs.length:=overB_length (by rw [List.length_replicate]; omega)
 simp only [RS,hlb,← hp] at hF
 refine Tr.of row_tumbrelref08_Set_Drop_ok rfl ?_
 repeat' (first|refine qN ?_|refine dN ?_|refine qU ?_|refine qL ?_|refine aX ?_|refine cP [0,1,2] (hA) ?_|refine S_Q [] rfl rfl (QY.ldRow RB.ok rfl rfl hi (by decide)) ?_|refine cP [0,1,2] (hS) ?_|refine cP [] (hP) ?_|(refine cW [0,1,2] (hF) ?_; conv=>whnf)|refine S_Q [] rfl rfl (QY.slc0 (b:=2) (lo':=0) (hi':=i) rfl rfl rfl (by omega) (by omega)) ?_|refine S_Q [] rfl rfl (QY.slc0 (b:=2) (lo':=i+1) (hi':=l.length) rfl rfl rfl (by omega) (by omega)) ?_|refine aA ?_|refine qS ?_|fail)
 refine S_E [] rfl rfl (esafe_ok rfl) ?_
 rintro _ _ ⟨rfl,rfl⟩
 refine ⟨(by repeat' (first|exact trivial|refine ⟨⟨qsafe_ok (st:=[]) rfl,Sure.slice (by omega)⟩,?_⟩|fail)),LSt.nf ?_⟩
 conv=>whnf
 refine S_wk [] rfl (wk_gro0 (b:=4) 2 rfl) ?_
 first|refine L_rs ?_|refine L_reg ?_ | skip
 refine eE rfl rfl (EW.appRS (bytes:=16) (xs:=[]) (ys:=l) (i:=0) RB.ok rfl (by kernel_rfl) rfl rfl rfl rfl (by omega) rfl (by omega) (by decide) (by omega)) ?_
 conv=>whnf
 first|refine L_rs ?_|refine L_reg ?_ | skip
 refine eE rfl rfl (EW.appRSe (bytes:=16) (t:=l.length-1) (ys:=l) (i:=i+1) (by omega) rfl RB.ok rfl (by kernel_rfl) rfl rfl rfl rfl rfl (by simp; omega) (by omega) (by decide) (by omega)) ?_
 conv=>whnf
 repeat' (first|refine qN ?_|refine dN ?_|fail)
 have hlen:(l.take i++l.drop (i+1)).length=l.length-1:=by simp; omega
 have e2:(l.drop (i+1)).take (l.length-(i+1))=l.drop (i+1):=by rw [List.take_of_length_le (by simp)]
 have hE:RS key (overB bs (256*p) (List.replicate (256*M) 0xDD#8)) (l.take i++l.drop (i+1))=[.cells 0 [slB 1 bs.length,.int .u64 (key.toNat:Int),slB 2 (l.length-1)],BL (overB bs (256*p) (List.replicate (256*M) 0xDD#8)),.gro 2 (rowsC RB.cells ([]++List.take (i-0) (List.drop 0 l)++List.take (l.length-(i+1)) (List.drop (i+1) l)))]:=by
  simp only [RS,hlen,hlb]; rw [e2]; rfl
 refine L_ret (RetQ.pick [0,1,6] rfl rfl rfl rfl ⟨rfl,?_⟩)
 rw [hE]; rfl
end Go.Proofs.YtgfjgfapigekiaaGreat
end
section
namespace Go.Tum.Base
open Go Go.Tum
def stL (t:PS) (n:Nat):List Int:=(List.range n).map t.st
theorem stL_len (t:PS) (n:Nat):(stL t n).length=n:=by simp [stL]
theorem stL_get (t:PS) {n k:Nat} (hk:k<n):(stL t n)[k]?=some (t.st k):=by
 unfold stL
 rw [List.getElem?_map,List.getElem?_range hk]; rfl
def numS (z:Nat) (a:Int):Int:=if a = -1 then -1 else a % 256 / z
theorem numS_base {c:Int} {z n:Nat} (h:Cls c z n) {k p:Nat} (hk:k<n):numS z (baseN p z k:Nat)=k:=by
 unfold numS baseN
 rcases h.is with ⟨rfl,rfl,rfl⟩ | ⟨rfl,rfl,rfl⟩ | ⟨rfl,rfl,rfl⟩ | ⟨rfl,rfl,rfl⟩ <;> (rw [if_neg (by omega)]; omega)
theorem low_bits:∀ i:_root_.Fin 64,(4294967295#64).getLsbD i.val=decide (i.val<32):=by decide
theorem mark_bits:∀ i:_root_.Fin 64,i.val<32→(6510516211317473280#64).getLsbD i.val=false:=by decide
theorem num_bits {m:Nat} (h:m<2 ^ 32) {i:Nat} (hi:32≤i):(BitVec.ofNat 64 m).getLsbD i=false:=by
 rw [BitVec.getLsbD_ofNat]
 rw [Nat.testBit_lt_two_pow (Nat.lt_of_lt_of_le h (Nat.pow_le_pow_right (by decide) hi))]
 simp
theorem low_or {m:Nat} (h:m<2 ^ 32):(BitVec.ofNat 64 m ||| 6510516211317473280#64) &&& ~~~ 4294967295#64=6510516211317473280#64∧(BitVec.ofNat 64 m ||| 6510516211317473280#64) &&& 4294967295#64=BitVec.ofNat 64 m:=by
 constructor
 ·apply BitVec.eq_of_getLsbD_eq
  intro i hi
  rw [BitVec.getLsbD_and,BitVec.getLsbD_or,BitVec.getLsbD_not,low_bits ⟨i,hi⟩]
  by_cases h1:i<32
  ·have:=mark_bits ⟨i,hi⟩ h1
   simp only at this
   simp [h1,this]
  ·rw [num_bits h (by omega)]
   simp [h1,hi]
 ·apply BitVec.eq_of_getLsbD_eq
  intro i hi
  rw [BitVec.getLsbD_and,BitVec.getLsbD_or,low_bits ⟨i,hi⟩]
  by_cases h1:i<32
  ·have:=mark_bits ⟨i,hi⟩ h1
   simp only at this
   simp [h1,this]
  ·rw [num_bits h (by omega)]
   simp [h1]
theorem split_or (x:BitVec 64):(x &&& 4294967295#64) ||| (x &&& ~~~ 4294967295#64)=x:=by
 apply BitVec.eq_of_getLsbD_eq
 intro i hi
 rw [BitVec.getLsbD_or,BitVec.getLsbD_and,BitVec.getLsbD_and,BitVec.getLsbD_not]
 cases (4294967295#64).getLsbD i <;> simp [hi]
theorem orAdd {nx:Int} (h : -1≤nx∧nx<65536):6510516211317473280#64+BitVec.ofInt 64 (nx+1)=BitVec.ofInt 64 (nx+1) ||| 6510516211317473280#64:=by
 obtain ⟨m,hm⟩:=Int.eq_ofNat_of_zero_le (show 0≤nx+1 by omega)
 rw [hm,show BitVec.ofInt 64 (m:Int)=BitVec.ofNat 64 m by simp,BitVec.or_comm]
 refine BitVec.add_eq_or_of_and_eq_zero _ _ ?_
 apply BitVec.eq_of_getLsbD_eq
 intro i hi
 rw [BitVec.getLsbD_and]
 by_cases h1:i<32
 ·have:=mark_bits ⟨i,hi⟩ h1
  simp only at this
  simp [this]
 ·rw [num_bits (m:=m) (by omega) (by omega)]
  simp
theorem getL_put {key:BitVec 64} {a:Nat} {nx:Int} (h : -1≤nx∧nx<65536):getL key (putL key a nx) a=some nx:=by
 obtain ⟨m,hm⟩:=Int.eq_ofNat_of_zero_le (show 0≤nx+1 by omega)
 have h1:BitVec.ofInt 64 (m:Int)=BitVec.ofNat 64 m:=by simp
 obtain ⟨h2,h3⟩:=low_or (m:=m) (by omega)
 unfold getL putL
 simp only
 rw [hm,h1,BitVec.xor_assoc,BitVec.xor_self,BitVec.xor_zero,h2,h3,show (BitVec.ofNat 64 m).toNat=m by rw [BitVec.toNat_ofNat]; exact Nat.mod_eq_of_lt (by omega),if_pos ⟨by decide,by omega⟩]
 congr 1; omega
theorem putL_get {key w:BitVec 64} {a:Nat} {nx:Int} (h:getL key w a=some nx):w=putL key a nx:=by
 unfold getL at h
 simp only at h
 split at h
 ·rename_i hc
  obtain ⟨h1,h2⟩:=hc
  have h:((w ^^^ mixW (key+BitVec.ofInt 64 a)) &&& 4294967295#64).toNat-1=nx:=Option.some.inj h
  have e1:(w ^^^ mixW (key+BitVec.ofInt 64 a)) &&& ~~~ 4294967295#64=6510516211317473280#64:=BitVec.eq_of_toNat_eq h1
  have e2:(w ^^^ mixW (key+BitVec.ofInt 64 a)) &&& 4294967295#64=BitVec.ofInt 64 (nx+1):=by
   apply BitVec.eq_of_toNat_eq
   rw [← h,show (((w ^^^ mixW (key+BitVec.ofInt 64 a)) &&& 4294967295#64).toNat:Int)-1+1=((((w ^^^ mixW (key+BitVec.ofInt 64 a)) &&& 4294967295#64).toNat:Nat):Int) by omega]
   simp
  unfold putL
  rw [← e1,← e2,split_or,BitVec.xor_assoc,BitVec.xor_self,BitVec.xor_zero]
 ·cases h
section
variable {key:BitVec 64} {bs:Bytes} {c:Int} {z n:Nat} {t:PS} {k:Nat}
theorem base_inj (hc:Cls c z n) {p i j:Nat} (hi:i<n) (hj:j<n) (h:baseN p z i=baseN p z j):i=j:=by
 have h1:=hc.base hi p
 have h2:=hc.base hj p
 rw [← h1.2.2.2.2.2.2,← h2.2.2.2.2.2.2,h]
theorem fol_end:wordB bs (baseN t.pg z k)=putL key (baseN t.pg z k) (-1)↔folP key bs z n t k=(-1,true):=by
 constructor
 ·intro h
  have:=getL_put (key:=key) (a:=baseN t.pg z k) (nx := -1) (by decide)
  rw [← h] at this
  unfold folP
  rw [this]; rfl
 ·intro h
  unfold folP at h
  cases e:getL key (wordB bs (baseN t.pg z k)) (baseN t.pg z k) with
  | none=>rw [e] at h; cases h
  | some nx =>
   rw [e] at h
   simp only at h
   split at h
   ·rename_i h1; subst h1; exact putL_get e
   ·rename_i h1; exact absurd (congrArg Prod.fst h) h1
theorem fol_hit (hc:Cls c z n) (hp:t.pg<256) (hk:k<n) {i:Nat} (hi:i<n):(t.st i=0∧i≠k∧wordB bs (baseN t.pg z k)=putL key (baseN t.pg z k) (baseN t.pg z i:Nat))↔folP key bs z n t k=(((baseN t.pg z i:Nat):Int),true):=by
 have hb:=hc.base hi t.pg
 have hz:=hc.bd
 obtain ⟨s1,s2⟩:=hc.slotI hi hp
 have e1:baseI t.pg z n (i:Int)=baseN t.pg z i:=by unfold baseI; rw [if_neg (by omega),Int.toNat_natCast]
 have e2:t.stI n (i:Int)=t.st i:=by unfold PS.stI; rw [if_neg (by omega),Int.toNat_natCast]
 constructor
 ·rintro ⟨h1,h2,h3⟩
  have:=getL_put (key:=key) (a:=baseN t.pg z k) (nx:=(baseN t.pg z i:Nat)) (by omega)
  rw [← h3] at this
  unfold folP
  rw [this]
  simp only
  rw [if_neg (by omega)]
  congr 1
  rw [decide_eq_true_eq,s1,s2,e1,e2]
  refine ⟨fun h=>h2 (base_inj (p:=t.pg) hc hi hk (by omega)),rfl,rfl,h1⟩
 ·intro h
  unfold folP at h
  cases e:getL key (wordB bs (baseN t.pg z k)) (baseN t.pg z k) with
  | none=>rw [e] at h; cases h
  | some nx =>
   rw [e] at h
   simp only at h
   split at h
   ·have:=congrArg Prod.fst h
    simp only at this
    omega
   ·have g1:=congrArg Prod.fst h
    have g2:=congrArg Prod.snd h
    simp only at g1 g2
    subst g1
    rw [decide_eq_true_eq,s1,e2] at g2
    refine ⟨g2.2.2.2,fun e3=>?_,putL_get e⟩
    subst e3
    exact g2.1 rfl
theorem fol_some {nx:Int} (h:folP key bs z n t k=(nx,true)) (h1:nx ≠ -1):∃ i,i<n∧nx=baseN t.pg z i∧t.st i=0:=by
 unfold folP at h
 cases e:getL key (wordB bs (baseN t.pg z k)) (baseN t.pg z k) with
 | none=>rw [e] at h; cases h
 | some m =>
  rw [e] at h
  simp only at h
  split at h
  ·have:=congrArg Prod.fst h
   simp only at this
   omega
  ·have g1:=congrArg Prod.fst h
   have g2:=congrArg Prod.snd h
   simp only at g1 g2
   subst g1
   rw [decide_eq_true_eq] at g2
   obtain ⟨_,_,g3,g4⟩:=g2
   unfold baseI at g3
   split at g3
   ·exact absurd g3 h1
   ·rename_i h2
    refine ⟨(slotI z m).toNat,by omega,g3,?_⟩
    unfold PS.stI at g4
    rw [if_neg (by omega)] at g4
    exact g4
def lnkF (key:BitVec 64) (bs:Bytes) (z n:Nat) (t:PS) (k:Nat):Int:=if (folP key bs z n t k).2 then numS z (folP key bs z n t k).1 else -2
end
theorem stL_set {t t':PS} {n k:Nat} {v:Int} (h:∀ j,j<n→t'.st j=if j=k then v else t.st j):(stL t n).set k v=stL t' n:=by
 apply List.ext_getElem?
 intro j
 rw [List.getElem?_set,stL_len]
 by_cases hj:j<n
 ·rw [stL_get t' hj,stL_get t hj,h j hj]
  by_cases e:k=j
  ·subst e; simp [hj]
  ·rw [if_neg e,if_neg (fun q=>e q.symm)]
 ·rw [List.getElem?_eq_none (by rw [stL_len]; omega),List.getElem?_eq_none (by rw [stL_len]; omega)]
  split
  ·rw [if_neg (by omega)]
  ·rfl
theorem st_took {t:PS} {k:Nat} {nx:Int} (hk:k<64) {j:Nat} (hj:j<64):(tookT t k nx).st j=if j=k then 1 else t.st j:=by
 unfold PS.st tookT
 simp only
 rw [putW_get _ hk _ hj]
 by_cases e:j=k
 ·rw [if_pos e,if_pos e]; rfl
 ·rw [if_neg e,if_neg e]
theorem st_drop {t:PS} {k:Nat} (hk:k<64) {j:Nat} (hj:j<64):(dropT t k).st j=if j=k then 2 else t.st j:=by
 unfold PS.st dropT
 simp only
 rw [putW_get _ hk _ hj,putW_get _ hk _ hj]
 by_cases e:j=k
 ·rw [if_pos e,if_pos e,if_pos e]; rfl
 ·rw [if_neg e,if_neg e,if_neg e]
theorem st_give {t:PS} {k:Nat} (hk:k<64) (hs:t.st k=2) {j:Nat} (hj:j<64):(giveT t k).st j=if j=k then 0 else t.st j:=by
 have hl:t.lw.getLsbD k=false:=by
  cases e:t.lw.getLsbD k with
  | false=>rfl
  | true=>unfold PS.st at hs; rw [e,if_pos rfl] at hs; exact absurd hs (by decide)
 unfold PS.st giveT
 simp only
 rw [putW_get _ hk _ hj]
 by_cases e:j=k
 ·subst e; rw [if_pos rfl,hl]; simp
 ·rw [if_neg e,if_neg e]
end Go.Tum.Base
end
section
namespace Go.Proofs.YtgfjgfapigekiaaGreat
open Go Go.Tum Go.Tum.Base
set_option maxRecDepth 4000
theorem dSize_tr (c:Int):Tr Tryz.prog 89 [.int .i64 c] [] (fun v K=>v=.int .i64 (sizeC c)∧K=[]):=by
 refine Tr.of row_tumbrelref05_Size_ok rfl ?_
 repeat' (first|refine qN ?_|refine dN ?_|refine qB ?_|refine rT ?_|refine qL ?_|refine iF (fun h=>?_) (fun h=>?_)|refine qS ?_|fail)
 all_goals
  refine ⟨congrArg (Value.int _) ?_,rfl⟩
  unfold sizeC; (repeat' split) <;> omega
theorem dSlots_tr {c:Int} {z n:Nat} (hc:Cls c z n):Tr Tryz.prog 134 [.int .i64 c] [] (fun v K=>v=.int .i64 n∧K=[]):=by
 have hZ:=dSize_tr c
 rw [hc.size] at hZ
 have hb:=hc.bd
 have hzn:∀ k:Nat,k≤16→((((k+1)*z:Nat):Int)≤256↔k<n):=fun k hk=>by
  rcases hc.is with ⟨_,rfl,rfl⟩ | ⟨_,rfl,rfl⟩ | ⟨_,rfl,rfl⟩ | ⟨_,rfl,rfl⟩ <;> omega
 have hz2:∀ k:Nat,k≤16→(k+1)*z≤2176:=fun k hk=>by
  rcases hc.is with ⟨_,rfl,rfl⟩ | ⟨_,rfl,rfl⟩ | ⟨_,rfl,rfl⟩ | ⟨_,rfl,rfl⟩ <;> omega
 refine Tr.of row_tumbrelref05_Slots_ok rfl ?_
 repeat' (first|refine qN ?_|refine dN ?_|refine qB ?_|refine qS ?_|fail)
 refine LWp.pick [0,3] [] rfl rfl rfl (L_loop (fun q l L=>∃ k:Nat,q=n-k∧k≤n∧l=[(0,.int .i64 c),(3,.int .i64 k)]∧L=[]) n ⟨0,rfl,by omega,rfl,rfl⟩ ?_)
 rintro q _ _ ⟨k,rfl,hk,rfl,rfl⟩
 have h1:=hzn k (by omega)
 have h2:=hz2 k (by omega)
 by_cases hk2:k<n
 ·repeat' (first|refine qN ?_|refine dN ?_|refine d0 ?_|refine qB ?_|refine rT ?_|refine qU ?_|refine qL ?_|refine qF ?_|refine iF (fun h=>?_) (fun h=>?_)|refine cP [] (hZ) ?_|refine S_Q [] rfl rfl (QY.mul (c:=(((k+1)*z:Nat):Int)) rfl rfl (by rw [Int.natCast_mul]; rfl) (by omega) (by omega)) ?_|refine aA ?_|refine sP 7 (fun h=>?_) (fun h=>?_)|refine qR ?_|refine qS ?_|fail)
  all_goals first | (exfalso; omega)|exact Nx.pick [0,3] [] rfl rfl rfl ⟨n-(k+1),by omega,k+1,rfl,by omega,rfl,rfl⟩
 ·obtain rfl:k=n:=by omega
  repeat' (first|refine qN ?_|refine dN ?_|refine d0 ?_|refine qB ?_|refine rT ?_|refine qU ?_|refine qL ?_|refine qF ?_|refine iF (fun h=>?_) (fun h=>?_)|refine cP [] (hZ) ?_|refine S_Q [] rfl rfl (QY.mul (c:=(((k+1)*z:Nat):Int)) rfl rfl (by rw [Int.natCast_mul]; rfl) (by omega) (by omega)) ?_|refine aA ?_|refine sP 7 (fun h=>?_) (fun h=>?_)|refine qR ?_|refine qS ?_|exact ⟨rfl,rfl⟩|fail)
  all_goals (exfalso; omega)
theorem dPut_tr (key:BitVec 64) (a:Nat) (nx:Int) (h : -1≤nx∧nx<65536):Tr Tryz.prog 161 [.int .u64 (key.toNat:Int),.int .i64 a,.int .i64 nx] [] (fun v K=>v=.int .u64 ((putL key a nx).toNat:Int)∧K=[]):=by
 have hM:=rMix_tr (key+BitVec.ofInt 64 a)
 unfold putL
 rw [← orAdd h]
 refine Tr.of row_tumbrelref06_Put_ok rfl ?_
 repeat' (first|refine qN ?_|refine dN ?_|refine rT ?_|refine qT ?_|refine qL ?_|refine iF (fun h=>?_) (fun h=>?_)|refine cP [] (hM) ?_|refine S_Q [] rfl rfl (QY.cvIW rfl) ?_|refine S_Q [] rfl rfl (QY.addW (a:=6510516211317473280#64) rfl rfl) ?_|refine S_Q [] rfl rfl (QY.addW rfl rfl) ?_|refine S_Q [] rfl rfl (QY.xorW rfl rfl) ?_|refine aA ?_|refine sP 10 (fun h=>?_) (fun h=>?_)|refine sP 14 (fun h=>?_) (fun h=>?_)|refine qS ?_|exact ⟨rfl,rfl⟩|fail)
 all_goals (exfalso; omega)
def DSX (key:BitVec 64) (N:Nat) (bs:Bytes) (xs:List Int) (n z:Nat) (t:PS):LH:=[BL bs,.cells 0 [slB 0 N,.int .u64 (key.toNat:Int),.int .i64 t.pg,.int .i64 t.c,slB 2 n,.int .i64 (numS z t.f)],.gro 1 (rowsC intC xs)]
def DSL (key:BitVec 64) (N:Nat) (bs:Bytes) (n z:Nat) (t:PS):LH:=DSX key N bs (stL t n) n z t
theorem dBaseX (key:BitVec 64) (N:Nat) (bs:Bytes) (xs:List Int) (m:Nat) {z n:Nat} (t:PS) (h:t.Ok N z n) (k:Nat) (hk:k<n):Tr Tryz.prog 141 [ptr 1,.int .i64 k] (DSX key N bs xs m z t) (fun v K=>v=.int .i64 (baseN t.pg z k)∧K=DSX key N bs xs m z t):=by
 have hZ:=dSize_tr t.c
 rw [h.cls.size] at hZ
 obtain ⟨h1,h2,h3,h4,h5,_⟩:=h.cls.base hk t.pg
 have hp:=h.pg
 have hN:=h.N
 refine Tr.of row_tumbrelref07_Slab_base_ok rfl ?_
 repeat' (first|refine qN ?_|refine dN ?_|refine rT ?_|refine cP [] (hZ) ?_|refine S_Q [] rfl rfl (QY.mul (c:=((256*t.pg:Nat):Int)) rfl rfl (by omega) (by omega) (by omega)) ?_|refine S_Q [] rfl rfl (QY.mul (c:=((z*k:Nat):Int)) rfl rfl (by rw [Int.natCast_mul]) (by omega) (by omega)) ?_|refine S_Q [] rfl rfl (QY.add (c:=((baseN t.pg z k:Nat):Int)) rfl rfl (by omega) (by omega) (by omega)) ?_|exact ⟨rfl,rfl⟩|fail)
theorem dSputX (key:BitVec 64) (N:Nat) (bs:Bytes) (xs:List Int) (m':Nat) (hl:bs.length=N) (hN:N≤65536) {z:Nat} (t:PS) (i:Nat) (ys:Bytes) (m:Nat) (hm:ys.length=m) (hi:i+m≤N):TrK Tryz.prog [] [1,2,3] 140 [ptr 1,.int .i64 i,slB 3 m] (DSX key N bs xs m' z t++[BL ys]) (fun v K=>v=.tuple ⟨[]⟩∧K=DSX key N (overB bs i ys) xs m' z t++[BL ys]):=by
 refine Tr.of row_tumbrelref07_Slab_put_ok rfl ?_
 repeat' (first|refine qN ?_|fail)
 refine S_wk [] rfl (wk_gro0 (b:=4) 1 rfl) ?_
 first|refine L_rs ?_|refine L_reg ?_ | skip
 refine eE rfl rfl (EW.appRR (bytes:=1) (xs:=[]) (ys:=bs) byteC_ok rfl (by kernel_rfl) rfl rfl rfl rfl rfl hl (by decide) (by omega)) ?_
 conv=>whnf
 rw [Nat.zero_add]
 repeat' (first|refine qN ?_|refine dN ?_|fail)
 first|refine L_rs ?_|refine L_reg ?_ | skip
 refine S_Q [] rfl rfl (QY.slc0 (b:=5) (lo':=i) (hi':=N) rfl rfl rfl (by omega) (by omega)) ?_
 first|refine L_rs ?_|refine L_reg ?_ | skip
 refine eE rfl rfl (EW.copyg (i:=i) (j:=0) (xs:=bs) (ys:=ys) byteC_ok rfl (by kernel_rfl) rfl rfl rfl rfl (by rw [hl]; omega) (by omega) (by decide)) ?_
 conv=>whnf
 rw [overB_copy _ _ _ hm.symm (by omega)]
 repeat' (first|refine dN ?_|refine d0 ?_|refine qR ?_|fail)
 exact RetQ.end [5,1,2,3] rfl rfl rfl rfl ⟨rfl,rfl⟩
theorem dJoinX (key:BitVec 64) (N:Nat) (bs:Bytes) (xs:List Int) (m:Nat) (hl:bs.length=N) {z n:Nat} (t:PS) (h:t.Ok N z n) (hf:t.f = -1∨∃ j,j<n∧t.f=baseN t.pg z j) (k:Nat) (hk:k<n):TrK Tryz.prog [] [1,2] 135 [ptr 1,.int .i64 k] (DSX key N bs xs m z t) (fun v K=>v=.tuple ⟨[]⟩∧K=DSX key N (joinP key bs z t k) xs m z { t with f:=baseN t.pg z k }):=by
 have hb:=h.cls.bd
 have hN:=h.N
 have hp:=h.pg
 obtain ⟨b1,b2,b3,b4,b5,b6,b7⟩:=h.cls.base hk t.pg
 have hB:=dBaseX key N bs xs m t h
 have hBk:=hB k hk
 have hP:=dPut_tr key (baseN t.pg z k) t.f h.f
 have hPt:=rPut_tr (putL key (baseN t.pg z k) t.f)
 have hpu:=dSputX key N bs xs m hl hN (z:=z) t (baseN t.pg z k) (putB (putL key (baseN t.pg z k) t.f) 8) 8 (putB_length _ _) (by omega)
 have hE:DSX key N (joinP key bs z t k) xs m z { t with f:=baseN t.pg z k }=[BL (joinP key bs z t k),.cells 0 [slB 0 N,.int .u64 (key.toNat:Int),.int .i64 t.pg,.int .i64 t.c,slB 2 m,.int .i64 k],.gro 1 (rowsC intC xs)]:=by
  unfold DSX
  rw [show numS z (baseN t.pg z k:Nat)=k from numS_base h.cls hk]
 rw [hE]
 unfold joinP
 rcases hf with hf | ⟨j,hj,hf⟩
 ·unfold DSX at hBk hpu ⊢
  rw [show numS z t.f = -1 by unfold numS; rw [if_pos hf]] at hBk hpu ⊢
  rw [hf] at hP hPt hpu ⊢
  refine Tr.of row_tumbrelref07_Slab_join_ok rfl ?_
  repeat' (first|refine qN ?_|refine dN ?_|refine d0 ?_|refine qU ?_|refine qL ?_|refine cP [0,1,2] (hBk) ?_|refine cP [] (hP) ?_|(refine cF [] (hPt) ?_; conv=>whnf)|(refine cW [0,1,2,3] (hpu) ?_; conv=>whnf)|refine qR ?_|refine qS ?_|fail)
  exact RetQ.end [0,1,2] rfl rfl rfl rfl ⟨rfl,rfl⟩
 ·have hBj:=hB j hj
  unfold DSX at hBk hBj hpu ⊢
  rw [show numS z t.f=j by rw [hf]; exact numS_base h.cls hj] at hBk hBj hpu ⊢
  rw [hf] at hP hPt hpu ⊢
  refine Tr.of row_tumbrelref07_Slab_join_ok rfl ?_
  repeat' (first|refine qN ?_|refine dN ?_|refine d0 ?_|refine qT ?_|refine cP [0,1,2] (hBj) ?_|refine cP [0,1,2] (hBk) ?_|refine cP [] (hP) ?_|(refine cF [] (hPt) ?_; conv=>whnf)|(refine cW [0,1,2,3] (hpu) ?_; conv=>whnf)|refine qR ?_|refine qS ?_|fail)
  all_goals first | (exfalso; omega)|exact RetQ.end [0,1,2] rfl rfl rfl rfl ⟨rfl,rfl⟩
theorem dBase_ok (key:BitVec 64) (N:Nat) (bs:Bytes) {z n:Nat} (t:PS) (h:t.Ok N z n) (k:Nat) (hk:k<n):Tr Tryz.prog 141 [ptr 1,.int .i64 k] (DSL key N bs n z t) (fun v K=>v=.int .i64 (baseN t.pg z k)∧K=DSL key N bs n z t):=dBaseX key N bs (stL t n) n t h k hk
theorem dSput_tr (key:BitVec 64) (N:Nat) (bs:Bytes) (hl:bs.length=N) (hN:N≤65536) {z n:Nat} (t:PS) (i:Nat) (ys:Bytes) (m:Nat) (hm:ys.length=m) (hi:i+m≤N):TrK Tryz.prog [] [1,2,3] 140 [ptr 1,.int .i64 i,slB 3 m] (DSL key N bs n z t++[BL ys]) (fun v K=>v=.tuple ⟨[]⟩∧K=DSL key N (overB bs i ys) n z t++[BL ys]):=dSputX key N bs (stL t n) n hl hN t i ys m hm hi
theorem dWith_tr (xs:List Int) (n k:Nat) (v:Int) (hl:xs.length=n) (hk:k<n) (hn:n≤16):Tr Tryz.prog 143 [slB 0 n,.int .i64 k,.int .i64 v] [.gro 1 (rowsC intC xs)] (fun u K=>u=slB 1 n∧K=[.gro 1 (rowsC intC xs),.gro 1 (rowsC intC (xs.set k v))]):=by
 refine Tr.of row_tumbrelref07_with_ok rfl ?_
 repeat' (first|refine qN ?_|refine dN ?_|fail)
 refine S_wk [] rfl (wk_gro0 (b:=1) 1 rfl) ?_
 first|refine L_rs ?_|refine L_reg ?_ | skip
 refine eE rfl rfl (EW.appRR (bytes:=8) (xs:=[]) (ys:=xs) intC_ok rfl (by kernel_rfl) rfl rfl rfl rfl rfl hl (by decide) (by omega)) ?_
 conv=>whnf
 rw [Nat.zero_add]
 repeat' (first|refine qN ?_|refine dN ?_|refine aX ?_|fail)
 first|refine L_rs ?_|refine L_reg ?_ | skip
 refine eE rfl rfl (EW.stI (k:=k) rfl rfl rfl (by rw [List.nil_append]; omega)) ?_
 conv=>whnf
 repeat' (first|refine qN ?_|refine dN ?_|fail)
 exact L_ret (RetQ.pick [0,2] rfl rfl rfl rfl ⟨rfl,rfl⟩)
theorem dMust_tr (key:BitVec 64) (N:Nat) (bs:Bytes) {z n:Nat} (t:PS) (k:Nat) (hk:k<n) (s:Int):Tr Tryz.prog 147 [ptr 1,.int .i64 k,.int .i64 s] (DSL key N bs n z t) (fun v K=>v=.int .i64 (if t.st k=s then 0 else 8)∧K=DSL key N bs n z t):=by
 have hg:=stL_get t hk
 have hb:=st_bd t k
 generalize t.st k=u at *
 by_cases h2:u=s
 ·rw [if_pos h2]
  refine Tr.of row_tumbrelref07_Slab_must_ok rfl ?_
  repeat' (first|refine qN ?_|refine dN ?_|refine rT ?_|refine qL ?_|refine iF (fun h=>?_) (fun h=>?_)|refine aX ?_|refine S_Q [] rfl rfl (QY.ldI rfl rfl hg) ?_|refine qS ?_|exact ⟨rfl,rfl⟩|fail)
  all_goals (exfalso; omega)
 ·rw [if_neg h2]
  refine Tr.of row_tumbrelref07_Slab_must_ok rfl ?_
  repeat' (first|refine qN ?_|refine dN ?_|refine rT ?_|refine qL ?_|refine iF (fun h=>?_) (fun h=>?_)|refine aX ?_|refine S_Q [] rfl rfl (QY.ldI rfl rfl hg) ?_|refine qS ?_|exact ⟨rfl,rfl⟩|fail)
  all_goals (exfalso; omega)
end Go.Proofs.YtgfjgfapigekiaaGreat
end
section
namespace Go.Proofs.YtgfjgfapigekiaaGreat
open Go Go.Tum Go.Tum.Base
set_option maxRecDepth 4000
theorem dGet (N:Nat) (bs:Bytes) (hl:bs.length=N) (hN:N≤65536) (i j:Nat) (hj:j=i+8) (h:j≤N):Tr Tryz.prog 166 [.slice (some ⟨0,i*1,none⟩) (j-i) (N-i)] [BL bs] (fun v K=>v=.int .u64 ((wordB bs i).toNat:Int)∧K=[BL bs]):=by
 rw [show j-i=8 by omega]; exact rGet_tr bs i (N-i) (by omega) (by omega)
theorem dStands_tr (key:BitVec 64) (N:Nat) (bs:Bytes) (hl:bs.length=N) {z n:Nat} (t:PS) (h:t.Ok N z n) (k:Nat) (hk:k<n):Tr Tryz.prog 148 [ptr 1,.int .i64 k] (DSL key N bs n z t) (fun v K=>v=.bool (standsK key bs t.pg z k)∧K=DSL key N bs n z t):=by
 obtain ⟨b1,b2,b3,b4,b5,b6,b7⟩:=h.cls.base hk t.pg
 have hb:=h.cls.bd
 have hp:=h.pg
 have hN:=h.N
 have hB:=dBase_ok key N bs t h k hk
 have hZ:=dSize_tr t.c
 rw [h.cls.size] at hZ
 have hM:=rMix_tr (key ^^^ BitVec.ofInt 64 (baseN t.pg z k:Nat))
 change Tr Tryz.prog _ _ _ (fun v K=>v=.int .u64 ((canW key (baseN t.pg z k:Nat)).toNat:Int)∧K=[]) at hM
 have hG:=dGet N bs hl hN (baseN t.pg z k+z-8) (baseN t.pg z k+z) (by omega) (by omega)
 unfold standsK
 generalize baseN t.pg z k=a at *
 unfold DSL DSX at hB ⊢
 refine Tr.of row_tumbrelref07_Slab_stands_ok rfl ?_
 repeat' (first|refine qN ?_|refine dN ?_|refine rT ?_|refine cP [0,1,2] (hB) ?_|refine cP [] (hZ) ?_|refine S_Q [] rfl rfl (QY.add (c:=((a+z:Nat):Int)) rfl rfl (by omega) (by omega) (by omega)) ?_|refine S_Q [] rfl rfl (QY.sub (c:=((a+z-8:Nat):Int)) rfl rfl (by omega) (by omega) (by omega)) ?_|refine S_Q [] rfl rfl (QY.slc0 (b:=0) (lo':=a+z-8) (hi':=a+z) rfl rfl rfl (by omega) (by omega)) ?_|refine S_Q [] rfl rfl (QY.cvIW rfl) ?_|refine S_Q [] rfl rfl (QY.xorW rfl rfl) ?_|refine cP [0] (hG) ?_|refine cP [] (hM) ?_|fail)
 refine ⟨congrArg Value.bool ?_,rfl⟩
 rw [Bool.eq_iff_iff,beq_iff_eq,decide_eq_true_eq]
 exact ⟨fun h=>BitVec.eq_of_toNat_eq (by omega),fun h=>by rw [h]⟩
set_option maxHeartbeats 2000000 in
theorem dLink_tr (key:BitVec 64) (N:Nat) (bs:Bytes) (hl:bs.length=N) {z n:Nat} (t:PS) (h:t.Ok N z n) (k:Nat) (hk:k<n):Tr Tryz.prog 139 [ptr 1,.int .i64 k] (DSL key N bs n z t) (fun v K=>v=.int .i64 (lnkF key bs z n t k)∧K=DSL key N bs n z t):=by
 have hb:=h.cls.bd
 have hp:=h.pg
 have hN:=h.N
 have hBA:=dBase_ok key N bs t h
 have hB:=hBA k hk
 obtain ⟨b1,b2,b3,b4,b5,b6,b7⟩:=h.cls.base hk t.pg
 have hG:=dGet N bs hl hN (baseN t.pg z k) (baseN t.pg z k+8) rfl (by omega)
 have hP1:=dPut_tr key (baseN t.pg z k) (-1) (by decide)
 have hPA:=fun (i:Nat) (hi:i<n)=>dPut_tr key (baseN t.pg z k) (baseN t.pg z i:Nat) (by have:=h.cls.base hi t.pg; omega)
 have hend:=fol_end (key:=key) (bs:=bs) (z:=z) (n:=n) (t:=t) (k:=k)
 have hhit:=fun (i:Nat) (hi:i<n)=>fol_hit (key:=key) (bs:=bs) (t:=t) h.cls (by omega) hk hi
 have hsome:=fun nx=>fol_some (key:=key) (bs:=bs) (z:=z) (n:=n) (t:=t) (k:=k) (nx:=nx)
 have hcls:=h.cls
 by_cases he:wordB bs (baseN t.pg z k)=putL key (baseN t.pg z k) (-1)
 ·rw [show lnkF key bs z n t k = -1 by unfold lnkF; rw [hend.1 he]; rfl]
  rw [he] at hG
  refine Tr.of row_tumbrelref07_Slab_link_ok rfl ?_
  repeat' (first|refine qN ?_|refine dN ?_|refine qB ?_|refine rT ?_|refine qL ?_|refine iF (fun h=>?_) (fun h=>?_)|refine cP [0,1,2] (hB) ?_|refine S_Q [] rfl rfl (QY.slc0 (b:=0) (lo':=baseN t.pg z k) (hi':=baseN t.pg z k+8) rfl rfl rfl (by omega) (by omega)) ?_|refine cP [0] (hG) ?_|refine cP [] (hP1) ?_|refine aA ?_|refine qS ?_|exact ⟨rfl,rfl⟩|fail)
  all_goals (exfalso; omega)
 ·have hne:(wordB bs (baseN t.pg z k)).toNat≠(putL key (baseN t.pg z k) (-1)).toNat:=fun e=>he (BitVec.eq_of_toNat_eq e)
  refine Tr.of row_tumbrelref07_Slab_link_ok rfl ?_
  repeat' (first|refine qN ?_|refine dN ?_|refine qB ?_|refine rT ?_|refine qL ?_|refine iF (fun h=>?_) (fun h=>?_)|refine cP [0,1,2] (hB) ?_|refine S_Q [] rfl rfl (QY.slc0 (b:=0) (lo':=baseN t.pg z k) (hi':=baseN t.pg z k+8) rfl rfl rfl (by omega) (by omega)) ?_|refine cP [0] (hG) ?_|refine cP [] (hP1) ?_|refine aA ?_|refine qS ?_|fail)
  all_goals try (exfalso; omega)
  refine LWp.pick [0,1,5,34,35,36] [0,1,2] rfl rfl rfl (L_loop (fun q l K=>∃ i:Nat,q=n-i∧i≤n∧(∀ j,j<i→folP key bs z n t k≠(((baseN t.pg z j:Nat):Int),true))∧l=[(0,ptr 1),(1,.int .i64 k),(5,.int .u64 ((wordB bs (baseN t.pg z k)).toNat:Int)),(34,slB 2 n),(35,.int .i64 n),(36,.int .i64 i)]∧K=DSL key N bs n z t) n ⟨0,rfl,by omega,by intro j hj; omega,rfl,rfl⟩ ?_)
  rintro q _ _ ⟨i,rfl,hi,hno,rfl,rfl⟩
  first|refine L_seq (L_rs (S_done [] rfl (Nx.goL (iF (fun h=>L_skip (Nx.goL ?_)) (fun h=>L_exit ?_)))))|refine L_rs (S_done [] rfl (Nx.goL (L_seq (iF (fun h=>L_skip (Nx.goL ?_)) (fun h=>L_exit ?_)))))
  ·have hi2:i<n:=by omega
   have hBi:=hBA i hi2
   have hPi:=hPA i hi2
   have hg:=stL_get t hi2
   have hsb:=st_bd t i
   have hht:=hhit i hi2
   by_cases hh:t.st i=0∧i≠k∧wordB bs (baseN t.pg z k)=putL key (baseN t.pg z k) (baseN t.pg z i:Nat)
   ·rw [show lnkF key bs z n t k=i by unfold lnkF; rw [hht.1 hh]; exact numS_base hcls hi2]
    obtain ⟨q1,q2,q3⟩:=hh
    have q4:(wordB bs (baseN t.pg z k)).toNat=(putL key (baseN t.pg z k) (baseN t.pg z i:Nat)).toNat:=congrArg BitVec.toNat q3
    generalize t.st i=u at *
    repeat' (first|refine qN ?_|refine dN ?_|refine d0 ?_|refine qB ?_|refine rT ?_|refine qU ?_|refine qL ?_|refine iF (fun h=>?_) (fun h=>?_)|refine aX ?_|refine S_Q [] rfl rfl (QY.ldI rfl rfl hg) ?_|refine cP [0,1,2] (hB) ?_|refine cP [0,1,2] (hBi) ?_|refine cP [] (hPi) ?_|refine aA ?_|refine sP 43 (fun h=>?_) (fun h=>?_)|refine sP 48 (fun h=>?_) (fun h=>?_)|refine qR ?_|refine qS ?_|exact ⟨rfl,rfl⟩|fail)
    all_goals (exfalso; omega)
   ·have hn':folP key bs z n t k≠(((baseN t.pg z i:Nat):Int),true):=fun e=>hh (hht.2 e)
    have q4:t.st i=0→i≠k→(wordB bs (baseN t.pg z k)).toNat≠(putL key (baseN t.pg z k) (baseN t.pg z i:Nat)).toNat:=fun e1 e2 e3=>hh ⟨e1,e2,BitVec.eq_of_toNat_eq e3⟩
    generalize t.st i=u at *
    repeat' (first|refine qN ?_|refine dN ?_|refine d0 ?_|refine qB ?_|refine rT ?_|refine qU ?_|refine qL ?_|refine iF (fun h=>?_) (fun h=>?_)|refine aX ?_|refine S_Q [] rfl rfl (QY.ldI rfl rfl hg) ?_|refine cP [0,1,2] (hB) ?_|refine cP [0,1,2] (hBi) ?_|refine cP [] (hPi) ?_|refine aA ?_|refine sP 43 (fun h=>?_) (fun h=>?_)|refine sP 48 (fun h=>?_) (fun h=>?_)|refine qR ?_|refine qS ?_|fail)
    all_goals first | (exfalso; omega)|exact Nx.pick [0,1,5,34,35,36] [0,1,2] rfl rfl rfl ⟨n-(i+1),by omega,i+1,rfl,by omega,(fun j hj=>by
     by_cases e:j=i
     ·subst e; exact hn'
     ·exact hno j (by omega)),rfl,rfl⟩
  ·refine Nx.goL ?_
   obtain rfl:i=n:=by omega
   have hf:(folP key bs z i t k).2=false:=by
    cases e:folP key bs z i t k with
    | mk nx b =>
     cases b with
     | false=>rfl
     | true =>
      exfalso
      by_cases e1:nx = -1
      ·subst e1; exact he (hend.2 e)
      ·obtain ⟨j,h1,h2,_⟩:=hsome nx e e1
       exact hno j h1 (by rw [e,h2])
   rw [show lnkF key bs z i t k = -2 by unfold lnkF; rw [hf]; rfl]
   repeat' (first|refine qN ?_|refine dN ?_|refine rT ?_|exact ⟨rfl,rfl⟩|fail)
end Go.Proofs.YtgfjgfapigekiaaGreat
end
section
namespace Go.Proofs.YtgfjgfapigekiaaGreat
open Go Go.Tum Go.Tum.Base
set_option maxRecDepth 4000
theorem dTake_full (key:BitVec 64) (N:Nat) (bs:Bytes) {z n:Nat} (t:PS) (hf:t.f = -1):TrK Tryz.prog [] [1] 97 [ptr 1] (DSL key N bs n z t) (fun v K=>v=.tuple ⟨[.int .i64 0,.int .i64 5]⟩∧K=DSL key N bs n z t):=by
 unfold DSL DSX
 rw [show numS z t.f = -1 by unfold numS; rw [if_pos hf]]
 refine Tr.of row_tumbrelref07_Slab_Take_ok rfl ?_
 repeat' (first|refine qN ?_|refine dN ?_|refine rT ?_|refine qT ?_|refine qS ?_|exact ⟨rfl,rfl⟩|fail)
theorem dTake_form (key:BitVec 64) (N:Nat) (bs:Bytes) (hl:bs.length=N) {z n:Nat} (t:PS) (h:t.Ok N z n) (k:Nat) (hk:k<n) (hf:t.f=baseN t.pg z k) (hx:(folP key bs z n t k).2=false):TrK Tryz.prog [] [1] 97 [ptr 1] (DSL key N bs n z t) (fun v K=>v=.tuple ⟨[.int .i64 0,.int .i64 4]⟩∧K=DSL key N bs n z t):=by
 have hL:=dLink_tr key N bs hl t h k hk
 rw [show lnkF key bs z n t k = -2 by unfold lnkF; rw [hx]; rfl] at hL
 unfold DSL DSX at hL ⊢
 rw [show numS z t.f=k by rw [hf]; exact numS_base h.cls hk] at hL ⊢
 refine Tr.of row_tumbrelref07_Slab_Take_ok rfl ?_
 repeat' (first|refine qN ?_|refine dN ?_|refine rT ?_|refine qT ?_|refine qU ?_|refine qL ?_|refine cP [0,1,2] (hL) ?_|refine qS ?_|exact ⟨rfl,rfl⟩|fail)
 all_goals (exfalso; omega)
set_option maxHeartbeats 2000000 in
theorem dTake_ok (key:BitVec 64) (N:Nat) (bs:Bytes) (hl:bs.length=N) {z n:Nat} (t:PS) (h:t.Ok N z n) (k:Nat) (hk:k<n) (hf:t.f=baseN t.pg z k) (nx:Int) (hx:folP key bs z n t k=(nx,true)):TrK Tryz.prog [] [1] 97 [ptr 1] (DSL key N bs n z t) (fun v K=>v=.tuple ⟨[.int .i64 k,.int .i64 0]⟩∧K=DSL key N (tookB key bs t.pg z k) n z (tookT t k nx)):=by
 obtain ⟨b1,b2,b3,b4,b5,b6,b7⟩:=h.cls.base hk t.pg
 have hbd:=h.cls.bd
 have hp:=h.pg
 have hN:=h.N
 have hnf : -1≤numS z nx∧numS z nx≤256:=by
  by_cases e:nx = -1
  ·unfold numS; rw [if_pos e]; omega
  ·obtain ⟨i,h1,h2,_⟩:=fol_some hx e
   rw [h2,numS_base h.cls h1]; omega
 have hL:=dLink_tr key N bs hl t h k hk
 rw [show lnkF key bs z n t k=numS z nx by unfold lnkF; rw [hx]; rfl] at hL
 have hZ:=dSize_tr t.c
 rw [h.cls.size] at hZ
 have hl1:(overB bs (baseN t.pg z k) (List.replicate (z-8) 0)).length=N:=by rw [overB_length (by rw [List.length_replicate]; omega),hl]
 have hB:=dBase_ok key N bs t h k hk
 have hB2:=dBase_ok key N (overB bs (baseN t.pg z k) (List.replicate (z-8) 0)) t h k hk
 have hM:=rMix_tr (key ^^^ BitVec.ofInt 64 (baseN t.pg z k:Nat))
 change Tr Tryz.prog _ _ _ (fun v K=>v=.int .u64 ((canW key (baseN t.pg z k:Nat)).toNat:Int)∧K=[]) at hM
 have hPt:=rPut_tr (canW key (baseN t.pg z k:Nat))
 have hp1:=dSput_tr key N bs hl hN (z:=z) (n:=n) t (baseN t.pg z k) (List.replicate (z-8) 0) (z-8) List.length_replicate (by omega)
 have hp2:=dSput_tr key N (overB bs (baseN t.pg z k) (List.replicate (z-8) 0)) hl1 hN (z:=z) (n:=n) t (baseN t.pg z k+z-8) (putB (canW key (baseN t.pg z k:Nat)) 8) 8 (putB_length _ _) (by omega)
 have hW:=dWith_tr (stL t n) n k 1 (stL_len t n) hk (by omega)
 rw [stL_set (t':=tookT t k nx) (fun j hj=>st_took (by omega) (by omega))] at hW
 unfold tookB
 have hE:DSL key N (overB (overB bs (baseN t.pg z k) (List.replicate (z-8) 0)) (baseN t.pg z k+z-8) (putB (canW key (baseN t.pg z k:Nat)) 8)) n z (tookT t k nx)=[BL (overB (overB bs (baseN t.pg z k) (List.replicate (z-8) 0)) (baseN t.pg z k+z-8) (putB (canW key (baseN t.pg z k:Nat)) 8)),.cells 0 [slB 0 N,.int .u64 (key.toNat:Int),.int .i64 t.pg,.int .i64 t.c,slB 2 n,.int .i64 (numS z nx)],.gro 1 (rowsC intC (stL (tookT t k nx) n))]:=rfl
 rw [hE]
 unfold DSL DSX at hL hB hB2 hp1 hp2 ⊢
 rw [show numS z t.f=k by rw [hf]; exact numS_base h.cls hk] at hL hB hB2 hp1 hp2 ⊢
 generalize baseN t.pg z k=a at *
 refine Tr.of row_tumbrelref07_Slab_Take_ok rfl ?_
 have hrep:BL (List.replicate (z-8) 0)=.gro 1 (repC (z-8) (byteC 0)):=by unfold BL; rw [repC_rows]
 rw [hrep] at hp1
 repeat' (first|refine qN ?_|refine dN ?_|refine qU ?_|refine qL ?_|refine iF (fun h=>?_) (fun h=>?_)|refine cP [0,1,2] (hL) ?_|refine cP [] (hZ) ?_|refine S_Q [] rfl rfl (QY.sub (c:=((z-8:Nat):Int)) rfl rfl (by omega) (by omega) (by omega)) ?_|refine cP [0,1,2] (hB) ?_|(refine S_E [] rfl rfl (EW.mk (sz:=1) (bytes:=1) (k:=z-8) (zs:=byteC 0) rfl (by kernel_rfl) rfl rfl (by omega) (by omega)) ?_; rintro _ _ ⟨rfl,rfl⟩; refine ⟨(by repeat' (first|exact trivial|fail)),LSt.nf ?_⟩; conv=>whnf)|refine L_rT ?_|refine P_lin rfl ?_|refine P_A [] rfl ?_ ?_|refine qS ?_|fail)
 ·exfalso; omega
 all_goals
  first|refine L_rs ?_|refine L_reg ?_ | skip
  refine cW [0,1,2,3] (hp1) ?_
  conv=>whnf
  repeat' (first|refine qN ?_|refine dN ?_|refine cP [0,1,2] (hB2) ?_|refine S_Q [] rfl rfl (QY.add (c:=((a+z-8:Nat):Int)) rfl rfl (by omega) (by omega) (by omega)) ?_|refine S_Q [] rfl rfl (QY.cvIW rfl) ?_|refine S_Q [] rfl rfl (QY.xorW rfl rfl) ?_|refine cP [] (hM) ?_|(refine cF [] (hPt) ?_; conv=>whnf)|(refine cW [0,1,2,4] (hp2) ?_; conv=>whnf)|(refine cF [2] (hW) ?_; conv=>whnf)|fail)
  exact L_ret (RetQ.pick [0,1,5] rfl rfl rfl rfl ⟨rfl,rfl⟩)
theorem dDrop_no (key:BitVec 64) (N:Nat) (bs:Bytes) {z n:Nat} (t:PS) (k:Nat) (hk:k<n) (hs:t.st k≠1):TrK Tryz.prog [] [1] 100 [ptr 1,.int .i64 k] (DSL key N bs n z t) (fun v K=>v=.tuple ⟨[.bool false,.int .i64 8]⟩∧K=DSL key N bs n z t):=by
 have hM:=dMust_tr key N bs (z:=z) t k hk 1
 rw [if_neg hs] at hM
 refine Tr.of row_tumbrelref07_Slab_Drop_ok rfl ?_
 repeat' (first|refine qN ?_|refine dN ?_|refine rT ?_|refine qT ?_|refine cP [0,1,2] (hM) ?_|refine qS ?_|exact ⟨rfl,rfl⟩|fail)
set_option maxHeartbeats 2000000 in
theorem dDrop_ok (key:BitVec 64) (N:Nat) (bs:Bytes) (hl:bs.length=N) {z n:Nat} (t:PS) (h:t.Ok N z n) (k:Nat) (hk:k<n) (hs:t.st k=1):TrK Tryz.prog [] [1] 100 [ptr 1,.int .i64 k] (DSL key N bs n z t) (fun v K=>v=.tuple ⟨[.bool (standsK key bs t.pg z k),.int .i64 0]⟩∧K=DSL key N (dropB bs t.pg z k) n z (dropT t k)):=by
 obtain ⟨b1,b2,b3,b4,b5,b6,b7⟩:=h.cls.base hk t.pg
 have hbd:=h.cls.bd
 have hp:=h.pg
 have hN:=h.N
 have hM:=dMust_tr key N bs (z:=z) t k hk 1
 rw [if_pos hs] at hM
 have hSt:=dStands_tr key N bs hl t h k hk
 have hZ:=dSize_tr t.c
 rw [h.cls.size] at hZ
 have hB:=dBase_ok key N bs t h k hk
 have hp1:=dSput_tr key N bs hl hN (z:=z) (n:=n) t (baseN t.pg z k) (List.replicate z 0xDD#8) z List.length_replicate (by omega)
 have hW:=dWith_tr (stL t n) n k 2 (stL_len t n) hk (by omega)
 rw [stL_set (t':=dropT t k) (fun j hj=>st_drop (by omega) (by omega))] at hW
 unfold dropB
 generalize baseN t.pg z k=a at *
 refine Tr.of row_tumbrelref07_Slab_Drop_ok rfl ?_
 repeat' (first|refine qN ?_|refine dN ?_|refine qB ?_|refine qU ?_|refine qL ?_|refine cP [0,1,2] (hM) ?_|refine cP [0,1,2] (hSt) ?_|refine qS ?_|fail)
 refine LWp.nilE 8 1 rfl (LWp.pick [0,1,7,8,9] [0,1,2,3] rfl rfl rfl (L_loop (fun q l K=>∃ j:Nat,q=z-j∧j≤z∧l=[(0,ptr 1),(1,.int .i64 k),(7,.bool (standsK key bs t.pg z k)),(8,.slice (some ⟨3,0,none⟩) j j),(9,.int .i64 j)]∧K=DSL key N bs n z t++[BL (List.replicate j 0xDD#8)]) z ⟨0,rfl,by omega,rfl,rfl⟩ ?_))
 rintro q _ _ ⟨j,rfl,hj,rfl,rfl⟩
 repeat' (first|refine qN ?_|refine dN ?_|refine qB ?_|refine qL ?_|refine qF ?_|refine iF (fun h=>?_) (fun h=>?_)|refine cP [] (hZ) ?_|refine qR ?_|refine qS ?_|fail)
 ·have hj2:j<z:=by omega
  first|refine L_rs ?_|refine L_reg ?_ | skip
  refine eE rfl rfl (EW.appR1 (bytes:=1) (a:=0xDD#8) byteC_ok rfl (by kernel_rfl) rfl rfl rfl rfl List.length_replicate (by omega)) ?_
  conv=>whnf
  repeat' (first|refine dN ?_|refine d0 ?_|refine aA ?_|refine qR ?_|fail)
  exact Nx.pick [0,1,7,8,9] [0,1,2,5] rfl rfl rfl ⟨z-(j+1),by omega,j+1,rfl,by omega,rfl,by rw [List.replicate_succ']; rfl⟩
 ·obtain rfl:j=z:=by omega
  repeat' (first|refine qN ?_|refine dN ?_|refine cP [0,1,2] (hB) ?_|(refine cW [0,1,2,3] (hp1) ?_; conv=>whnf)|(refine cF [2] (hW) ?_; conv=>whnf)|fail)
  exact L_ret (RetQ.pick [0,1,4] rfl rfl rfl rfl ⟨rfl,rfl⟩)
theorem dGive_no (key:BitVec 64) (N:Nat) (bs:Bytes) {z n:Nat} (t:PS) (k:Nat) (hk:k<n) (hs:t.st k≠2):TrK Tryz.prog [] [1] 101 [ptr 1,.int .i64 k] (DSL key N bs n z t) (fun v K=>v=.int .i64 8∧K=DSL key N bs n z t):=by
 have hM:=dMust_tr key N bs (z:=z) t k hk 2
 rw [if_neg hs] at hM
 refine Tr.of row_tumbrelref07_Slab_Give_ok rfl ?_
 repeat' (first|refine qN ?_|refine dN ?_|refine rT ?_|refine qT ?_|refine cP [0,1,2] (hM) ?_|refine qS ?_|exact ⟨rfl,rfl⟩|fail)
set_option maxHeartbeats 2000000 in
theorem dGive_ok (key:BitVec 64) (N:Nat) (bs:Bytes) (hl:bs.length=N) {z n:Nat} (t:PS) (h:t.Ok N z n) (hf:t.f = -1∨∃ j,j<n∧t.f=baseN t.pg z j) (k:Nat) (hk:k<n) (hs:t.st k=2):TrK Tryz.prog [] [1] 101 [ptr 1,.int .i64 k] (DSL key N bs n z t) (fun v K=>v=.int .i64 0∧K=DSL key N (joinP key bs z t k) n z (giveT t k)):=by
 have hbd:=h.cls.bd
 have hM:=dMust_tr key N bs (z:=z) t k hk 2
 rw [if_pos hs] at hM
 have hW:=dWith_tr (stL t n) n k 0 (stL_len t n) hk (by omega)
 rw [stL_set (t':=giveT t k) (fun j hj=>st_give (by omega) hs (by omega))] at hW
 have hJ:=dJoinX key N bs (stL (giveT t k) n) n hl t h hf k hk
 have hE:DSL key N (joinP key bs z t k) n z (giveT t k)=DSX key N (joinP key bs z t k) (stL (giveT t k) n) n z { t with f:=baseN t.pg z k }:=by
  unfold DSL DSX giveT
  rw [h.cls.zC]
 rw [hE]
 generalize stL (giveT t k) n=ys at *
 unfold DSL at *
 refine Tr.of row_tumbrelref07_Slab_Give_ok rfl ?_
 repeat' (first|refine qN ?_|refine dN ?_|refine qU ?_|refine qL ?_|refine cP [0,1,2] (hM) ?_|(refine cF [2] (hW) ?_; conv=>whnf)|(refine cW [0,1,3] (hJ) ?_; conv=>whnf)|refine qS ?_|fail)
 exact L_ret (RetQ.pick [0,1,3] rfl rfl rfl rfl ⟨rfl,rfl⟩)
theorem madeP_at (key:BitVec 64) (bs:Bytes) (p z n j:Nat) (hj:j≤n):(madeP key bs p z n j).2 = -1∨∃ i,i<n∧(madeP key bs p z n j).2=baseN p z i:=by
 cases j with
 | zero=>exact .inl rfl
 | succ j=>exact .inr ⟨n-1-j,by omega,rfl⟩
theorem stL_new (key:BitVec 64) (bs:Bytes) (p:Nat) (c ow:Int) (z n j m:Nat):stL (newPS key bs p c ow z n j) m=List.replicate m 0:=by
 apply List.ext_getElem?
 intro i
 by_cases hi:i<m
 ·rw [stL_get _ hi,List.getElem?_replicate,if_pos hi]
  simp [PS.st,newPS]
 ·rw [List.getElem?_eq_none (by rw [stL_len]; omega),List.getElem?_eq_none (by simp; omega)]
set_option maxHeartbeats 2000000 in
theorem dMake_tr (key:BitVec 64) (N:Nat) (bs:Bytes) (hl:bs.length=N) (hN:N≤65536) {z n:Nat} {c:Int} (hc:Cls c z n) (p:Nat) (ow:Int) (hp:256*(p+1)≤N):TrK Tryz.prog [] [] 92 [slB 0 N,.int .u64 (key.toNat:Int),.int .i64 p,.int .i64 c] [BL bs] (fun v K=>v=ptr 1∧K=DSL key N (madeP key bs p z n n).1 n z (newPS key bs p c ow z n n)):=by
 have hb:=hc.bd
 have hS:=dSlots_tr hc
 have hE:DSL key N (madeP key bs p z n n).1 n z (newPS key bs p c ow z n n)=DSX key N (madeP key bs p z n n).1 (List.replicate n 0) n z (newPS key bs p c ow z n n):=by
  unfold DSL; rw [stL_new]
 rw [hE]
 refine Tr.of row_tumbrelref07_Make_ok rfl ?_
 repeat' (first|refine qN ?_|refine dN ?_|refine qB ?_|refine cP [] (hS) ?_|refine aS ?_|refine qS ?_|fail)
 refine LWp.nilC 1 4 1 rfl rfl (LWp.pick [9,10] [0,1,2] rfl rfl rfl (L_loop (fun q l K=>∃ j:Nat,q=n-j∧j≤n∧l=[(9,ptr 1),(10,.int .i64 ((n:Int)-1-j))]∧K=DSX key N (madeP key bs p z n j).1 (List.replicate j 0) j z (newPS key bs p c ow z n j)) n ⟨0,rfl,by omega,by rw [show (n:Int)-1-(0:Nat)=n-1 by omega]; rfl,by subst hl; rfl⟩ ?_))
 rintro q _ _ ⟨j,rfl,hj,rfl,rfl⟩
 by_cases hj2:j<n
 ·have hx:=madeP_f (key:=key) (bs:=bs) hc (show p<256 by omega) j hj
  have hJ:=dJoinX key N (madeP key bs p z n j).1 (List.replicate (j+1) 0) (j+1) (by rw [madeP_len hc (by omega) j hj,hl]) (newPS key bs p c ow z n j) (newPS_ok hc hp hN hj) (madeP_at key bs p z n j hj) (n-1-j) (by omega)
  rw [show ((n-1-j:Nat):Int)=(n:Int)-1-j by omega] at hJ
  repeat' (first|refine qN ?_|refine dN ?_|refine qB ?_|refine qL ?_|refine qF ?_|refine iF (fun h=>?_) (fun h=>?_)|refine qS ?_|fail)
  ·first|refine L_rs ?_|refine L_reg ?_ | skip
   refine eE rfl rfl (EW.appR1 (bytes:=8) (a:=(0:Int)) intC_ok rfl (by kernel_rfl) rfl rfl rfl rfl List.length_replicate (by omega)) ?_
   conv=>whnf
   rw [← List.replicate_succ']
   repeat' (first|refine dN ?_|refine d0 ?_|(refine cW [0,1,4] (hJ) ?_; conv=>whnf)|refine aS ?_|refine qR ?_|fail)
   exact Nx.pick [9,10] [0,1,4] rfl rfl rfl ⟨n-(j+1),by omega,j+1,rfl,by omega,by rw [show (n:Int)-1-((j+1:Nat):Int)=n-1-j-1 by omega]; rfl,rfl⟩
  ·exfalso; omega
 ·obtain rfl:j=n:=by omega
  repeat' (first|refine qN ?_|refine dN ?_|refine qB ?_|refine qL ?_|refine qF ?_|refine iF (fun h=>?_) (fun h=>?_)|refine qS ?_|fail)
  ·exfalso; omega
  ·exact L_ret (RetQ.pick [0,1,2] rfl rfl rfl rfl ⟨rfl,rfl⟩)
end Go.Proofs.YtgfjgfapigekiaaGreat
end
section
namespace Go.Proofs.YtgfjgfapigekiaaGreat
open Go Go.Tum Go.Tum.Base
set_option maxRecDepth 4000
def RPL (r:PR):LH:=[.cells 0 [.int .i64 r.man,.int .i64 r.mgd,.int .u64 (r.seed.toNat:Int),adR r.a 0,ptr 1,.int .u64 (r.key.toNat:Int),.map (some 3),adR r.g0 0],
 .cells 0 [slB 2 (r.man+r.mgd)],.gro 4 (rowsC PRow.cells r.rs),pB r.m0 (peS r.sl) r.mc,crowdS r.a r.key r.sl,box [r.a,r.b] (AN r.N r.bs),crowdG r.a r.key r.g0 r.g1 r.G r.gc]
def TN (n:Nat) (rs:PRows):LH:=[.cells 0 [slB 1 n],.gro 4 (rowsC PRow.cells rs)]
theorem mT_s:Tryz.prog.underlying 103=some (.map 3 108):=Tryz.underlying103
theorem kT_s:Tryz.prog.underlying 3=some (.int .i64):=Tryz.underlying3
theorem zT_s:zeroOf Tryz.prog 108=some (.pointer none):=by kernel_rfl
theorem pgSlab_no (r:PR) {p:Int} (h:sfind r.sl p=none):Tr Tryz.prog 54 [ptr 0,.int .i64 p] (RPL r) (fun v K=>v=.pointer none∧K=RPL r):=by
 refine Tr.of row_region_Region_slab_ok rfl ?_
 repeat' (first|refine qN ?_|refine dN ?_|refine rT ?_|refine qU ?_|refine qL ?_|refine S_Q [] rfl rfl (QY.plook rfl mT_s kT_s zT_s rfl rfl rfl (v:=.pointer none) (by rw [pfind_pe,h]; rfl)) ?_|refine qS ?_|exact ⟨rfl,rfl⟩|fail)
theorem pgSlab_at (r:PR) {p:Int} {x:SE} (h:sfind r.sl p=some x):Tr Tryz.prog 54 [ptr 0,.int .i64 p] (RPL r) (fun v K=>v=adR x.e0 0∧K=RPL r):=by
 refine Tr.of row_region_Region_slab_ok rfl ?_
 repeat' (first|refine qN ?_|refine dN ?_|refine rT ?_|refine qU ?_|refine qL ?_|refine S_Q [] rfl rfl (QY.plook rfl mT_s kT_s zT_s rfl rfl rfl (v:=adR x.e0 0) (by rw [pfind_pe,h]; rfl)) ?_|refine qS ?_|exact ⟨rfl,rfl⟩|fail)
theorem pgPlace_tr (r:PR) (ok:r.Ok) (i:Nat) (x:SE) (hi:r.sl[i]?=some x) (k:Nat) (hk:k<nC x.t.c):Tr Tryz.prog 57 [ptr 0,adR x.e0 0,.int .i64 k] (RPL r) (fun v K=>v=.agg ⟨(placeS x k).cells⟩∧K=RPL r):=by
 have hx:=ok.sok x (List.mem_of_getElem? hi)
 have ht:x.t.Ok r.N _ _:=hx.t ok.n2
 have hp:=hx.pg
 have hn:=ok.n2
 have hb:=hx.cls.bd
 have h1:=slabK r.a r.b r.key r.N r.bs r.sl i x hi plain_int plain0 (sPage_tr r.key r.N r.bs (n:=nC x.t.c) x.t)
 have h2:=slabK r.a r.b r.key r.N r.bs r.sl i x hi plain_int plain0 (sClass_tr r.key r.N r.bs (n:=nC x.t.c) x.t)
 have h3:=slabK r.a r.b r.key r.N r.bs r.sl i x hi plain_int (plain1 plain_int) (sState_tr r.key r.N r.bs x.t ht k)
 rw [stI_at x.t hk] at h3
 have h4:=Base_ok hx.cls x.t.pg k (by omega) hk
 have h5:=Room_tr x.t.c
 rw [hx.cls.size,show max ((zC x.t.c:Int)-8) 0=(zC x.t.c:Int)-8 by omega] at h5
 refine Tr.of row_region_Region_place_ok rfl ?_
 repeat' (first|refine qN ?_|refine dN ?_|refine rT ?_|refine cP [4,5] (h1) ?_|refine cP [4,5] (h2) ?_|refine cP [4,5] (h3) ?_|refine cP [] (h4) ?_|refine cP [] (h5) ?_|exact ⟨rfl,rfl⟩|fail)
theorem tRow (n:Nat) (rs:PRows) (hl:rs.length=n) (a:Int):Tr Tryz.prog 12 [ptr 0,.int .i64 a] (TN n rs) (fun v K=>v=.agg ⟨(pAt rs a).cells⟩∧K=TN n rs):=by
 subst hl; exact pagesRow_tr rs a
theorem tLen (n:Nat) (rs:PRows) (hl:rs.length=n):Tr Tryz.prog 60 [ptr 0] (TN n rs) (fun v K=>v=.int .i64 n∧K=TN n rs):=by
 subst hl; exact pagesLen_tr rs
theorem head_tr (n:Nat) (rs:PRows) (hl:rs.length=n) (hn:n≤256) (g j:Nat) (hj:g+j≤n) (h3:∀ i:Nat,g<i→i≤g+j→(pAt rs i).kind=3) (hk:(pAt rs g).kind≠3) (t:Bool) (hf:firstP (pAt rs g)=t):Tr Tryz.prog 58 [ptr 0,.int .i64 (g+j:Nat)] (TN n rs) (fun v K=>v=.tuple ⟨[.int .i64 (if t then g else 0),.bool t]⟩∧K=TN n rs):=by
 have hR:=tRow n rs hl
 have hF:=first_tr (pAt rs g)
 rw [hf] at hF
 refine Tr.of row_pages_Table_Head_ok rfl ?_
 repeat' (first|refine qN ?_|refine dN ?_|refine qB ?_|refine qS ?_|fail)
 refine LWp.pick [0,1] [0,1] rfl rfl rfl (L_loop (fun q l K=>∃ i:Nat,q=i∧i≤j∧l=[(0,ptr 0),(1,.int .i64 (g+i:Nat))]∧K=TN n rs) j ⟨j,rfl,Nat.le_refl _,rfl,rfl⟩ ?_)
 rintro q _ _ ⟨i,rfl,hi,rfl,rfl⟩
 have hR1:=hR (g+q:Nat)
 by_cases hi0:q=0
 ·subst hi0
  rw [Nat.add_zero] at hR1 ⊢
  generalize pAt rs g=u at *
  cases t
  ·repeat' (first|refine qN ?_|refine dN ?_|refine d0 ?_|refine qB ?_|refine rT ?_|refine qT ?_|refine qL ?_|refine qF ?_|refine iF (fun h=>?_) (fun h=>?_)|refine cP [0,1] (hR1) ?_|refine cP [] (hF) ?_|refine aS ?_|refine qR ?_|refine qS ?_|exact ⟨rfl,rfl⟩|fail)
   all_goals (exfalso; omega)
  ·repeat' (first|refine qN ?_|refine dN ?_|refine d0 ?_|refine qB ?_|refine rT ?_|refine qU ?_|refine qL ?_|refine qF ?_|refine iF (fun h=>?_) (fun h=>?_)|refine cP [0,1] (hR1) ?_|refine cP [] (hF) ?_|refine aS ?_|refine qR ?_|refine qS ?_|exact ⟨rfl,rfl⟩|fail)
   all_goals (exfalso; omega)
 ·have h3':=h3 (g+q) (by omega) (by omega)
  generalize pAt rs (g+q:Nat)=u at *
  repeat' (first|refine qN ?_|refine dN ?_|refine d0 ?_|refine qB ?_|refine qL ?_|refine qF ?_|refine iF (fun h=>?_) (fun h=>?_)|refine cP [0,1] (hR1) ?_|refine aS ?_|refine qR ?_|refine qS ?_|fail)
  all_goals first | (exfalso; omega)|exact Nx.pick [0,1] [0,1] rfl rfl rfl ⟨q-1,by omega,q-1,rfl,by omega,by rw [show ((g+q:Nat):Int)-1=((g+(q-1):Nat):Int) by omega]; rfl,rfl⟩
theorem gLen (r:PR) (ok:r.Ok):Tr Tryz.prog 53 [adR r.a 0] [box [r.a,r.b] (AN r.N r.bs)] (fun v K=>v=.int .i64 r.N∧K=[box [r.a,r.b] (AN r.N r.bs)]) :=
 TrK.boxed (aLen r.N r.bs ok.bl) rfl rfl (fun _ _ h=>L2.head (fun _ h=>VR.in0 (i:=0) rfl h) plain0 h) (fun _ h _=>h)
theorem gSizeL (r:PR) (ok:r.Ok) (p:Int):Tr Tryz.prog 59 [adR r.g0 0,.int .i64 p] [crowdG r.a r.key r.g0 r.g1 r.G r.gc,box [r.a,r.b] (AN r.N r.bs)] (fun v K=>v=.int .i64 (gget r.G p)∧K=[crowdG r.a r.key r.g0 r.g1 r.G r.gc,box [r.a,r.b] (AN r.N r.bs)]) :=
 largeL r.a r.b r.g0 r.g1 r.key r.N r.bs r.bs ok.bl ok.bl r.G r.G r.gc r.gc plain_int (plain1 plain_int) rfl rfl (gSize_tr r.key r.bs r.G r.gc p)
theorem pAt_row {r:PR} (ok:r.Ok) {p:Nat} (hp:p<r.man+r.mgd):pAt r.rs p=rowP r.sl r.G p:=by
 unfold pAt
 rw [if_neg (by omega),Int.toNat_natCast,List.getD_eq_getElem?_getD,ok.row p hp]; rfl
theorem gget_in {G:Great} {c:Nat} (h:GOk G c) {b:Int × Int × Nat} (hb:b∈G):gget G b.1=b.2.1:=by
 simp only [gget,h.find hb]; rfl
def Pl.val (q:Option Pl):Value:=.tuple ⟨[.agg ⟨(q.getD Pl.Z).cells⟩,.bool q.isSome]⟩
set_option maxHeartbeats 1000000 in
theorem pgFind_tr (r:PR) (ok:r.Ok) (a:Int):Tr Tryz.prog 10 [ptr 0,.int .i64 a] (RPL r) (fun v K=>v=Pl.val (r.find a)∧K=RPL r):=by
 have hL:=gLen r ok
 have hn:=ok.n2
 have hN:r.N=256*(r.man+r.mgd):=rfl
 unfold PR.find
 by_cases h0:a<0∨(r.N:Int)≤a
 ·rw [if_pos h0]
  refine Tr.of row_region_Region_Find_ok rfl ?_
  repeat' (first|refine qN ?_|refine dN ?_|refine rT ?_|refine qT ?_|refine qL ?_|refine iF (fun h=>?_) (fun h=>?_)|refine cP [5] (hL) ?_|refine aD ?_|refine sP 19 (fun h=>?_) (fun h=>?_)|refine qS ?_|exact ⟨rfl,rfl⟩|fail)
  all_goals (exfalso; omega)
 rw [if_neg h0]
 obtain ⟨n,rfl⟩:=Int.eq_ofNat_of_zero_le (show 0≤a by omega)
 have hq:((n:Int) / 256)=((n / 256:Nat):Int):=by omega
 rw [hq]
 cases hs:sfind r.sl ((n / 256:Nat):Int) with
 | some x =>
  obtain ⟨i,hi,hm,hpg⟩:=sfind_some hs
  have hx:=ok.sok x hm
  have hb:=hx.cls.bd
  have hS:=pgSlab_at r hs
  have h2:=slabK r.a r.b r.key r.N r.bs r.sl i x hi plain_int plain0 (sClass_tr r.key r.N r.bs (n:=nC x.t.c) x.t)
  have h3:=Slot_tr hx.cls (n:Int)
  have e1:slotI (zC x.t.c) (n:Int)=((n % 256 / zC x.t.c:Nat):Int):=by
   unfold slotI; rw [if_neg (by omega)]; rfl
  rw [e1] at h3
  have hlt:n % 256 / zC x.t.c<nC x.t.c:=by
   rcases hx.cls.is with ⟨_,h4,h5⟩ | ⟨_,h4,h5⟩ | ⟨_,h4,h5⟩ | ⟨_,h4,h5⟩ <;> rw [h4,h5] <;> omega
  have h4:=pgPlace_tr r ok i x hi _ hlt
  generalize pageI (n:Int)=pp at *
  simp only [Int.toNat_natCast]
  refine Tr.of row_region_Region_Find_ok rfl ?_
  repeat' (first|refine qN ?_|refine dN ?_|refine rT ?_|refine qT ?_|refine qL ?_|refine iF (fun h=>?_) (fun h=>?_)|refine cP [5] (hL) ?_|refine S_Q [] rfl rfl (QY.divN (c:=((n / 256:Nat):Int)) rfl rfl (by omega) (by omega) (by omega)) ?_|(refine cF [0,1,2,3,4,5,6] (hS) ?_; conv=>whnf)|refine cP [4,5] (h2) ?_|refine cP [] (h3) ?_|refine cP [0,1,2,3,4,5,6] (h4) ?_|refine qS ?_|exact ⟨rfl,rfl⟩|fail)
  all_goals (exfalso; omega)
 | none =>
  have hS:=pgSlab_no r hs
  have hlt:n / 256<r.man+r.mgd:=by omega
  have hrow:=pAt_row ok hlt
  have hr1:rowP r.sl r.G ((n / 256:Nat):Int)=(match gin r.G ((n / 256:Nat):Int) with
   | some b=>if b.1=((n / 256:Nat):Int) then lrow (pagesC b.2.1) else tailP
   | none=>PRow.Z):=by unfold rowP; rw [hs]; first | done | rfl
  cases hg:gin r.G ((n / 256:Nat):Int) with
  | none =>
   rw [hr1,hg] at hrow
   replace hrow:pAt r.rs ((n / 256:Nat):Int)=PRow.Z:=hrow
   have hH:=head_tr (r.man+r.mgd) r.rs ok.rl hn (n / 256) 0 (by omega) (fun i h1 h2=>by omega) (by rw [hrow]; decide) false (by rw [hrow]; rfl)
   have hG:=gSizeL r ok 0
   rw [Nat.add_zero] at hH
   refine Tr.of row_region_Region_Find_ok rfl ?_
   repeat' (first|refine qN ?_|refine dN ?_|refine rT ?_|refine qU ?_|refine qL ?_|refine iF (fun h=>?_) (fun h=>?_)|refine cP [5] (hL) ?_|refine S_Q [] rfl rfl (QY.divN (c:=((n / 256:Nat):Int)) rfl rfl (by omega) (by omega) (by omega)) ?_|(refine cF [0,1,2,3,4,5,6] (hS) ?_; conv=>whnf)|refine cP [1,2] (hH) ?_|refine cP [6,5] (hG) ?_|refine qS ?_|exact ⟨rfl,rfl⟩|fail)
   all_goals (exfalso; omega)
  | some b =>
   obtain ⟨hm,hb1,hb2⟩:=gin_some hg
   have hb:=ok.gok b hm
   obtain ⟨M,hM,hM1,hM17⟩:=greatC_pages hb.gr
   have hlo:=hb.lo
   have hhi:=hb.hi
   obtain ⟨g,hg0⟩:=Int.eq_ofNat_of_zero_le hlo
   have rowG:∀ j:Nat,j<M→pAt r.rs ((g+j:Nat):Int)=if j=0 then lrow M else tailP:=fun j hj=>by
    rw [pAt_row ok (by omega)]
    unfold rowP
    have e1:sfind r.sl ((g+j:Nat):Int)=none:=by
     cases e:sfind r.sl ((g+j:Nat):Int) with
     | none=>rfl
     | some x =>
      obtain ⟨_,_,hx,hp⟩:=sfind_some e
      have:=ok.sg x hx b hm
      omega
    rw [e1,gin_mem ok.gap hm (by omega)]
    simp only [hM]
    by_cases hj0:j=0
    ·rw [if_pos (by omega),if_pos hj0]
    ·rw [if_neg (by omega),if_neg hj0]
   have hH:=head_tr (r.man+r.mgd) r.rs ok.rl hn g (n / 256-g) (by omega) (fun i h1 h2=>by rw [show i=g+(i-g) by omega,rowG _ (by omega),if_neg (by omega)]; rfl) (by have:=rowG 0 (by omega); rw [Nat.add_zero,if_pos rfl] at this; rw [this]; show (2:Int)≠3; decide) true (by have:=rowG 0 (by omega); rw [Nat.add_zero] at this; rw [this]; rfl)
   rw [show g+(n / 256-g)=n / 256 by omega,if_pos rfl] at hH
   have hG:=gSizeL r ok g
   rw [← hg0,gget_in ok.gg hm] at hG
   rw [← hg0] at hH
   have hsz:120<b.2.1∧b.2.1≤4096:=by
    have:=hb.gr
    unfold greatC at this
    simp at this; omega
   have hv:Pl.val ((some b).map placeG)=.tuple ⟨[.agg ⟨[.int .i64 b.1,.int .i64 0,.int .i64 (256*b.1),.int .i64 b.2.1,.int .i64 1,.bool true]⟩,.bool true]⟩:=rfl
   rw [hv]
   generalize b.1=q1 at *
   generalize b.2.1=q2 at *
   refine Tr.of row_region_Region_Find_ok rfl ?_
   repeat' (first|refine qN ?_|refine dN ?_|refine rT ?_|refine qU ?_|refine qL ?_|refine iF (fun h=>?_) (fun h=>?_)|refine cP [5] (hL) ?_|refine S_Q [] rfl rfl (QY.divN (c:=((n / 256:Nat):Int)) rfl rfl (by omega) (by omega) (by omega)) ?_|(refine cF [0,1,2,3,4,5,6] (hS) ?_; conv=>whnf)|refine cP [1,2] (hH) ?_|refine cP [6,5] (hG) ?_|refine aM ?_|refine qS ?_|exact ⟨rfl,rfl⟩|fail)
   all_goals (exfalso; omega)
end Go.Proofs.YtgfjgfapigekiaaGreat
end
section
namespace Go.Proofs.YtgfjgfapigekiaaGreat
open Go Go.Tum Go.Tum.Base
set_option maxRecDepth 4000
theorem pgBase_no (r:PR) (ok:r.Ok) (a:Int) (h:r.base a=none):Tr Tryz.prog 63 [ptr 0,.int .i64 a] (RPL r) (fun v K=>v=.tuple ⟨[.agg ⟨Pl.Z.cells⟩,.int .i64 6]⟩∧K=RPL r):=by
 have hF:=pgFind_tr r ok a
 unfold PR.base at h
 cases hf:r.find a with
 | none =>
  rw [hf] at hF
  refine Tr.of row_region_Region_base_ok rfl ?_
  repeat' (first|refine qN ?_|refine dN ?_|refine rT ?_|refine qT ?_|refine qU ?_|refine qL ?_|refine cP [0,1,2,3,4,5,6] (hF) ?_|refine qS ?_|exact ⟨rfl,rfl⟩|fail)
 | some p =>
  rw [hf] at hF h
  have hne:p.bs≠a:=fun e=>by simp only at h; rw [if_pos e] at h; cases h
  change Tr Tryz.prog _ _ _ (fun v K=>v=.tuple ⟨[.agg ⟨p.cells⟩,.bool true]⟩∧K=RPL r) at hF
  refine Tr.of row_region_Region_base_ok rfl ?_
  repeat' (first|refine qN ?_|refine dN ?_|refine rT ?_|refine qU ?_|refine qL ?_|refine iF (fun h=>?_) (fun h=>?_)|refine cP [0,1,2,3,4,5,6] (hF) ?_|refine qS ?_|exact ⟨rfl,rfl⟩|fail)
  all_goals (exfalso; omega)
theorem pgBase_at (r:PR) (ok:r.Ok) (a:Int) (p:Pl) (h:r.base a=some p):Tr Tryz.prog 63 [ptr 0,.int .i64 a] (RPL r) (fun v K=>v=.tuple ⟨[.agg ⟨p.cells⟩,.int .i64 0]⟩∧K=RPL r):=by
 have hF:=pgFind_tr r ok a
 unfold PR.base at h
 cases hf:r.find a with
 | none=>rw [hf] at h; cases h
 | some q =>
  rw [hf] at hF h
  have he:q.bs=a∧q=p:=by
   simp only at h
   split at h
   ·cases h; exact ⟨‹_›,rfl⟩
   ·cases h
  obtain ⟨he,rfl⟩:=he
  change Tr Tryz.prog _ _ _ (fun v K=>v=.tuple ⟨[.agg ⟨q.cells⟩,.bool true]⟩∧K=RPL r) at hF
  refine Tr.of row_region_Region_base_ok rfl ?_
  repeat' (first|refine qN ?_|refine dN ?_|refine rT ?_|refine qU ?_|refine qL ?_|refine iF (fun h=>?_) (fun h=>?_)|refine cP [0,1,2,3,4,5,6] (hF) ?_|refine qS ?_|exact ⟨rfl,rfl⟩|fail)
  all_goals (exfalso; omega)
theorem pgTake_none (r:PR) (p:Int) (h:sfind r.sl p=none):Tr Tryz.prog 40 [ptr 0,.int .i64 p] (RPL r) (fun v K=>v=.tuple ⟨[.int .i64 0,.int .i64 6]⟩∧K=RPL r):=by
 have hS:=pgSlab_no r h
 refine Tr.of row_region_Region_Take_ok rfl ?_
 repeat' (first|refine qN ?_|refine dN ?_|refine rT ?_|refine qT ?_|refine qU ?_|refine qL ?_|(refine cF [0,1,2,3,4,5,6] (hS) ?_; conv=>whnf)|refine qS ?_|exact ⟨rfl,rfl⟩|fail)
theorem pgTake_no (r:PR) (ok:r.Ok) (i:Nat) (x:SE) (hi:r.sl[i]?=some x) (e:Int) (he:(x.t.f = -1∧e=5)∨∃ k,k<nC x.t.c∧x.t.f=baseN x.t.pg (zC x.t.c) k∧(folP r.key r.bs (zC x.t.c) (nC x.t.c) x.t k).2=false∧e=4):Tr Tryz.prog 40 [ptr 0,.int .i64 x.t.pg] (RPL r) (fun v K=>v=.tuple ⟨[.int .i64 0,.int .i64 e]⟩∧K=RPL r):=by
 have hx:=ok.sok x (List.mem_of_getElem? hi)
 have hS:=pgSlab_at r (sfind_mem ok.sap (List.mem_of_getElem? hi))
 have ht:x.t.Ok r.N _ _:=hx.t ok.n2
 have hT:Tr Tryz.prog 94 [ptr 2] (PSL r.key r.N r.bs (nC x.t.c) x.t) (fun v K=>v=.tuple ⟨[.int .i64 0,.int .i64 e]⟩∧K=PSL r.key r.N r.bs (nC x.t.c) x.t):=by
  rcases he with ⟨h1,rfl⟩ | ⟨k,hk,h1,h2,rfl⟩
  ·exact sTake_full r.key r.N r.bs x.t h1
  ·exact sTake_form r.key r.N r.bs ok.bl x.t ht k hk h1 h2
 have h1:=slabK r.a r.b r.key r.N r.bs r.sl i x hi plain_tup2 plain0 hT
 have he0:e=5∨e=4:=by rcases he with ⟨_,h⟩ | ⟨_,_,_,_,h⟩ <;> omega
 refine Tr.of row_region_Region_Take_ok rfl ?_
 repeat' (first|refine qN ?_|refine dN ?_|refine rT ?_|refine qU ?_|refine qL ?_|refine iF (fun h=>?_) (fun h=>?_)|(refine cF [0,1,2,3,4,5,6] (hS) ?_; conv=>whnf)|refine cP [4,5] (h1) ?_|refine qS ?_|exact ⟨rfl,rfl⟩|fail)
 all_goals (exfalso; omega)
theorem RPL_upS {r:PR} {i:Nat} {x:SE} {t:PS} {bs:Bytes} (hi:r.sl[i]?=some x) (h:t.pg=x.t.pg):RPL (PR.upS r i x t bs)=[.cells 0 [.int .i64 r.man,.int .i64 r.mgd,.int .u64 (r.seed.toNat:Int),adR r.a 0,ptr 1,.int .u64 (r.key.toNat:Int),.map (some 3),adR r.g0 0],
 .cells 0 [slB 2 (r.man+r.mgd)],.gro 4 (rowsC PRow.cells r.rs),pB r.m0 (peS r.sl) r.mc,crowdS r.a r.key (r.sl.set i { x with t:=t }),box [r.a,r.b] (AN r.N bs),crowdG r.a r.key r.g0 r.g1 r.G r.gc]:=by
 unfold RPL PR.upS
 simp only
 rw [peS_set (y:={ x with t:=t }) hi h rfl rfl]
 rfl
theorem pgTake_ok (r:PR) (ok:r.Ok) (i:Nat) (x:SE) (hi:r.sl[i]?=some x) (k:Nat) (hk:k<nC x.t.c) (hf:x.t.f=baseN x.t.pg (zC x.t.c) k) (nx:Int) (hfo:folP r.key r.bs (zC x.t.c) (nC x.t.c) x.t k=(nx,true)) :
  Tr Tryz.prog 40 [ptr 0,.int .i64 x.t.pg] (RPL r) (fun v K=>v=.tuple ⟨[.int .i64 (baseN x.t.pg (zC x.t.c) k:Nat),.int .i64 0]⟩∧K=RPL (r.upS i x (tookT x.t k nx) (tookB r.key r.bs x.t.pg (zC x.t.c) k))):=by
 have hx:=ok.sok x (List.mem_of_getElem? hi)
 have hp:=hx.pg
 have hn:=ok.n2
 have hS:=pgSlab_at r (sfind_mem ok.sap (List.mem_of_getElem? hi))
 have ht:x.t.Ok r.N _ _:=hx.t ok.n2
 have h1:=slabL r.a r.b r.key r.N r.bs _ r.sl i x (tookT x.t k nx) hi rfl plain_tup2 plain0 (sTake_ok r.key r.N r.bs ok.bl x.t ht k hk hf nx hfo)
 have hi':(r.sl.set i { x with t:=tookT x.t k nx })[i]?=some { x with t:=tookT x.t k nx }:=by rw [List.getElem?_set,if_pos rfl,if_pos (List.getElem?_eq_some_iff.1 hi).1]
 have h2:=slabK r.a r.b r.key r.N (tookB r.key r.bs x.t.pg (zC x.t.c) k) (r.sl.set i { x with t:=tookT x.t k nx }) i _ hi' plain_int plain0 (sClass_tr r.key r.N _ (n:=nC x.t.c) (tookT x.t k nx))
 have h3:=Base_ok hx.cls x.t.pg k (by omega) hk
 rw [RPL_upS (t:=tookT x.t k nx) hi rfl]
 generalize r.sl.set i { x with t:=tookT x.t k nx }=sl' at *
 refine Tr.of row_region_Region_Take_ok rfl ?_
 repeat' (first|refine qN ?_|refine dN ?_|refine rT ?_|refine qU ?_|refine qL ?_|(refine cF [0,1,2,3,4,5,6] (hS) ?_; conv=>whnf)|(refine cF [4,5] (h1) ?_; conv=>whnf)|refine cP [4,5] (h2) ?_|refine cP [] (h3) ?_|refine qS ?_|exact ⟨rfl,rfl⟩|fail)
 all_goals (exfalso; omega)
theorem pgDrop_none (r:PR) (ok:r.Ok) (a:Int) (h:r.base a=none):Tr Tryz.prog 15 [ptr 0,.int .i64 a] (RPL r) (fun v K=>v=.tuple ⟨[.bool false,.int .i64 6]⟩∧K=RPL r):=by
 have hB:=pgBase_no r ok a h
 refine Tr.of row_region_Region_Drop_ok rfl ?_
 repeat' (first|refine qN ?_|refine dN ?_|refine rT ?_|refine qT ?_|refine cP [0,1,2,3,4,5,6] (hB) ?_|refine qS ?_|exact ⟨rfl,rfl⟩|fail)
theorem pgDrop_no (r:PR) (ok:r.Ok) (i:Nat) (x:SE) (hi:r.sl[i]?=some x) (k:Nat) (hk:k<nC x.t.c) (hs:x.t.st k≠1):Tr Tryz.prog 15 [ptr 0,.int .i64 (baseN x.t.pg (zC x.t.c) k:Nat)] (RPL r) (fun v K=>v=.tuple ⟨[.bool false,.int .i64 8]⟩∧K=RPL r):=by
 have hm:=List.mem_of_getElem? hi
 have hB:=pgBase_at r ok _ _ (ok.base_slot hm hk)
 have hx:=ok.sok x hm
 have hS:=pgSlab_at r (sfind_mem ok.sap hm)
 have ht:x.t.Ok r.N _ _:=hx.t ok.n2
 have hD:=sDrop_no r.key r.N r.bs ok.bl x.t ht k (by rw [stI_at x.t hk]; exact hs)
 rw [stI_at x.t hk,if_neg (by have:=st_bd x.t k; omega)] at hD
 have h1:=slabK r.a r.b r.key r.N r.bs r.sl i x hi plain_tupb (plain1 plain_int) hD
 simp only [Pl.cells,placeS] at hB
 refine Tr.of row_region_Region_Drop_ok rfl ?_
 repeat' (first|refine qN ?_|refine dN ?_|refine rT ?_|refine qT ?_|refine qU ?_|refine qL ?_|refine cP [0,1,2,3,4,5,6] (hB) ?_|(refine cF [0,1,2,3,4,5,6] (hS) ?_; conv=>whnf)|refine cP [4,5] (h1) ?_|refine qS ?_|exact ⟨rfl,rfl⟩|fail)
theorem pgDrop_ok (r:PR) (ok:r.Ok) (i:Nat) (x:SE) (hi:r.sl[i]?=some x) (k:Nat) (hk:k<nC x.t.c) (hs:x.t.st k=1):Tr Tryz.prog 15 [ptr 0,.int .i64 (baseN x.t.pg (zC x.t.c) k:Nat)] (RPL r) (fun v K=>v=.tuple ⟨[.bool (standsK r.key r.bs x.t.pg (zC x.t.c) k),.int .i64 0]⟩∧K=RPL (r.upS i x (dropT x.t k) (dropB r.bs x.t.pg (zC x.t.c) k))):=by
 have hm:=List.mem_of_getElem? hi
 have hB:=pgBase_at r ok _ _ (ok.base_slot hm hk)
 have hx:=ok.sok x hm
 have hS:=pgSlab_at r (sfind_mem ok.sap hm)
 have ht:x.t.Ok r.N _ _:=hx.t ok.n2
 have h1:=slabL r.a r.b r.key r.N r.bs _ r.sl i x (dropT x.t k) hi rfl plain_tupb (plain1 plain_int) (sDrop_ok r.key r.N r.bs ok.bl x.t ht k hk hs)
 rw [RPL_upS (t:=dropT x.t k) hi rfl]
 simp only [Pl.cells,placeS] at hB
 refine Tr.of row_region_Region_Drop_ok rfl ?_
 repeat' (first|refine qN ?_|refine dN ?_|refine rT ?_|refine qT ?_|refine qU ?_|refine qL ?_|refine cP [0,1,2,3,4,5,6] (hB) ?_|(refine cF [0,1,2,3,4,5,6] (hS) ?_; conv=>whnf)|(refine cF [4,5] (h1) ?_; conv=>whnf)|refine qS ?_|exact ⟨rfl,rfl⟩|fail)
theorem pgGive_none (r:PR) (ok:r.Ok) (a:Int) (h:r.base a=none):Tr Tryz.prog 16 [ptr 0,.int .i64 a] (RPL r) (fun v K=>v=.int .i64 6∧K=RPL r):=by
 have hB:=pgBase_no r ok a h
 refine Tr.of row_region_Region_Give_ok rfl ?_
 repeat' (first|refine qN ?_|refine dN ?_|refine qB ?_|refine rT ?_|refine qT ?_|refine cP [0,1,2,3,4,5,6] (hB) ?_|refine qS ?_|exact ⟨rfl,rfl⟩|fail)
theorem pgGive_great (r:PR) (ok:r.Ok) (b:Int × Int × Nat) (hb:b∈r.G):Tr Tryz.prog 16 [ptr 0,.int .i64 (256*b.1)] (RPL r) (fun v K=>v=.int .i64 6∧K=RPL r):=by
 have hB:=pgBase_at r ok _ _ (ok.base_great hb)
 simp only [Pl.cells,placeG] at hB
 refine Tr.of row_region_Region_Give_ok rfl ?_
 repeat' (first|refine qN ?_|refine dN ?_|refine qB ?_|refine rT ?_|refine qT ?_|refine qU ?_|refine cP [0,1,2,3,4,5,6] (hB) ?_|refine qS ?_|exact ⟨rfl,rfl⟩|fail)
theorem pgGive_no (r:PR) (ok:r.Ok) (i:Nat) (x:SE) (hi:r.sl[i]?=some x) (k:Nat) (hk:k<nC x.t.c) (hs:x.t.st k≠2):Tr Tryz.prog 16 [ptr 0,.int .i64 (baseN x.t.pg (zC x.t.c) k:Nat)] (RPL r) (fun v K=>v=.int .i64 8∧K=RPL r):=by
 have hm:=List.mem_of_getElem? hi
 have hB:=pgBase_at r ok _ _ (ok.base_slot hm hk)
 have hx:=ok.sok x hm
 have hS:=pgSlab_at r (sfind_mem ok.sap hm)
 have ht:x.t.Ok r.N _ _:=hx.t ok.n2
 have hD:=sGive_no r.key r.N r.bs ok.bl x.t ht k (by rw [stI_at x.t hk]; exact hs)
 rw [stI_at x.t hk,if_neg (by have:=st_bd x.t k; omega)] at hD
 have h1:=slabK r.a r.b r.key r.N r.bs r.sl i x hi plain_int (plain1 plain_int) hD
 simp only [Pl.cells,placeS] at hB
 refine Tr.of row_region_Region_Give_ok rfl ?_
 repeat' (first|refine qN ?_|refine dN ?_|refine qB ?_|refine rT ?_|refine qU ?_|refine qL ?_|refine cP [0,1,2,3,4,5,6] (hB) ?_|(refine cF [0,1,2,3,4,5,6] (hS) ?_; conv=>whnf)|refine cP [4,5] (h1) ?_|refine qS ?_|exact ⟨rfl,rfl⟩|fail)
theorem pgGive_ok (r:PR) (ok:r.Ok) (i:Nat) (x:SE) (hi:r.sl[i]?=some x) (k:Nat) (hk:k<nC x.t.c) (hs:x.t.st k=2):Tr Tryz.prog 16 [ptr 0,.int .i64 (baseN x.t.pg (zC x.t.c) k:Nat)] (RPL r) (fun v K=>v=.int .i64 0∧K=RPL (r.upS i x (giveT x.t k) (joinP r.key r.bs (zC x.t.c) x.t k))):=by
 have hm:=List.mem_of_getElem? hi
 have hB:=pgBase_at r ok _ _ (ok.base_slot hm hk)
 have hx:=ok.sok x hm
 have hS:=pgSlab_at r (sfind_mem ok.sap hm)
 have ht:x.t.Ok r.N _ _:=hx.t ok.n2
 have h1:=slabL r.a r.b r.key r.N r.bs _ r.sl i x (giveT x.t k) hi rfl plain_int (plain1 plain_int) (sGive_ok r.key r.N r.bs ok.bl x.t ht k hk hs)
 rw [RPL_upS (t:=giveT x.t k) hi rfl]
 simp only [Pl.cells,placeS] at hB
 refine Tr.of row_region_Region_Give_ok rfl ?_
 repeat' (first|refine qN ?_|refine dN ?_|refine qB ?_|refine rT ?_|refine qU ?_|refine qL ?_|refine cP [0,1,2,3,4,5,6] (hB) ?_|(refine cF [0,1,2,3,4,5,6] (hS) ?_; conv=>whnf)|(refine cF [4,5] (h1) ?_; conv=>whnf)|refine qS ?_|exact ⟨rfl,rfl⟩|fail)
theorem pgOwner_no (r:PR) (a:Int) (ha:a<9223372036854775808) (h:a<0∨sfind r.sl (a / 256)=none):Tr Tryz.prog 51 [ptr 0,.int .i64 a] (RPL r) (fun v K=>v=.int .i64 (-1)∧K=RPL r):=by
 by_cases h0:a<0
 ·refine Tr.of row_region_Region_Owner_ok rfl ?_
  repeat' (first|refine qN ?_|refine dN ?_|refine rT ?_|refine qT ?_|refine qU ?_|refine qL ?_|refine aD ?_|refine sP 9 (fun h=>?_) (fun h=>?_)|refine qS ?_|exact ⟨rfl,rfl⟩|fail)
  all_goals (exfalso; omega)
 ·have hS:=pgSlab_no r (h.resolve_left h0)
  refine Tr.of row_region_Region_Owner_ok rfl ?_
  repeat' (first|refine qN ?_|refine dN ?_|refine rT ?_|refine qT ?_|refine qU ?_|refine qL ?_|(refine cF [0,1,2,3,4,5,6] (hS) ?_; conv=>whnf)|refine S_Q [] rfl rfl (QY.divN (c:=a / 256) rfl rfl rfl (by omega) (by omega)) ?_|refine sP 9 (fun h=>?_) (fun h=>?_)|refine qS ?_|exact ⟨rfl,rfl⟩|fail)
  all_goals (exfalso; omega)
theorem pgOwner_at (r:PR) (ok:r.Ok) (a:Int) (ha:a<9223372036854775808) (h0:0≤a) (x:SE) (h:sfind r.sl (a / 256)=some x):Tr Tryz.prog 51 [ptr 0,.int .i64 a] (RPL r) (fun v K=>v=.int .i64 x.t.ow∧K=RPL r):=by
 obtain ⟨i,hi,hm,_⟩:=sfind_some h
 have hS:=pgSlab_at r h
 have h2:=slabK r.a r.b r.key r.N r.bs r.sl i x hi plain_int plain0 (sOwner_tr r.key r.N r.bs (n:=nC x.t.c) x.t)
 refine Tr.of row_region_Region_Owner_ok rfl ?_
 repeat' (first|refine qN ?_|refine dN ?_|refine rT ?_|refine qT ?_|refine qU ?_|refine qL ?_|(refine cF [0,1,2,3,4,5,6] (hS) ?_; conv=>whnf)|refine S_Q [] rfl rfl (QY.divN (c:=a / 256) rfl rfl rfl (by omega) (by omega)) ?_|refine cP [4,5] (h2) ?_|refine sP 9 (fun h=>?_) (fun h=>?_)|refine qS ?_|exact ⟨rfl,rfl⟩|fail)
 all_goals (exfalso; omega)
end Go.Proofs.YtgfjgfapigekiaaGreat
end
section
namespace Go.Proofs.YtgfjgfapigekiaaGreat
open Go Go.Tum Go.Tum.Base
set_option maxRecDepth 4000
def madeR (r:PR) (A M:Nat) (n:Int):PR:={ r with rs:=layP r.rs A (lrow M) M,bs:=madeB r.key r.bs A M,G:=gput r.G A n r.gc,gc:=r.gc+1 }
theorem tMap_full (n:Nat) (rs:PRows) (hl:rs.length=n) (hn:n≤256) (man:Nat) (hm:man≤n) (q:PRow) (hr:firstP q=true) (hr1:1≤q.run∧q.run≤256) (hp:placeP rs q.run man 0 0=none):Tr Tryz.prog 87 [ptr 0,.int .i64 0,.int .i64 man,.agg ⟨q.cells⟩] (TN n rs) (fun v K=>v=.tuple ⟨[.int .i64 0,.int .i64 5]⟩∧K=TN n rs):=by
 subst hl
 have e1:cutLo 0=0:=rfl
 have e2:cutHi rs 0 man=man:=by unfold cutHi; omega
 exact map_full rs 0 man (by omega) q hn hr hr1 (by rw [e1,e2]; exact hp)
theorem tMap_ok (n:Nat) (rs:PRows) (hl:rs.length=n) (hn:n≤256) (man:Nat) (hm:man≤n) (q:PRow) (hr:firstP q=true) (A m:Nat) (hqm:q.run=m) (hm1:1≤m) (hm2:m≤256) (hA:A+m≤n) (hp:placeP rs q.run man 0 0=some (A:Int)):Tr Tryz.prog 87 [ptr 0,.int .i64 0,.int .i64 man,.agg ⟨q.cells⟩] (TN n rs) (fun v K=>v=.tuple ⟨[.int .i64 A,.int .i64 0]⟩∧K=TN n (layP rs A q m)):=by
 subst hl
 have e1:cutLo 0=0:=rfl
 have e2:cutHi rs 0 man=man:=by unfold cutHi; omega
 have:=map_ok rs 0 man (by omega) q hn hr A m hqm hm1 hm2 (by rw [e1,e2]; exact hp)
 have hl2:=layP_length (rs:=rs) (a:=A) (m:=m) (r:=q) hA hm1
 unfold TL at this
 rw [hl2] at this
 exact this
theorem tUnmap_ok (n:Nat) (rs:PRows) (hl:rs.length=n) (hn:n≤256) (a m:Nat) (h:firstP (pAt rs a)=true) (hm:(pAt rs a).run=m) (hle:a+m≤n):Tr Tryz.prog 66 [ptr 0,.int .i64 a] (TN n rs) (fun v K=>v=.int .i64 0∧K=TN n (clearP rs a m)):=by
 subst hl
 have:=unmap_ok rs hn a m h hm hle
 have hl2:=clearP_length (rs:=rs) (a:=a) (m:=m) hle
 unfold TL at this
 rw [hl2] at this
 exact this
theorem placeP_free {rs:PRows} {n:Int} {f:Nat} {A:Nat} (h:placeP rs n f 0 0=some (A:Int)) (hn:1≤n):A+n.toNat≤f∧∀ i:Nat,A≤i→(i:Int)<A+n→rs.getD i PRow.Z=PRow.Z:=by
 have key:∀ (f k:Nat) (c:Int) (A:Nat),0≤c→c≤k→(∀ i:Nat,(k:Int)-c≤i→i<k→rs.getD i PRow.Z=PRow.Z)→placeP rs n f k c=some (A:Int)→A+n.toNat≤k+f∧∀ i:Nat,A≤i→(i:Int)<A+n→rs.getD i PRow.Z=PRow.Z:=by
  intro f
  induction f with
  | zero=>intro k c A _ _ _ h; cases h
  | succ f ih =>
   intro k c A h1 h2 h3 h4
   simp only [placeP] at h4
   by_cases hz:freeP (rs.getD k PRow.Z)=true
   ·rw [if_pos hz] at h4
    have hz':rs.getD k PRow.Z=PRow.Z:=by simpa [freeP] using hz
    have h3':∀ i:Nat,((k+1:Nat):Int)-(c+1)≤i→i<k+1→rs.getD i PRow.Z=PRow.Z:=fun i h5 h6=>by
     by_cases e:i=k
     ·subst e; exact hz'
     ·exact h3 i (by omega) (by omega)
    split at h4
    ·rename_i hn2
     have hA:(A:Int)=k-n+1:=by have:=Option.some.inj h4; omega
     exact ⟨by omega,fun i h5 h6=>h3' i (by omega) (by omega)⟩
    ·obtain ⟨h5,h6⟩:=ih (k+1) (c+1) A (by omega) (by omega) h3' h4
     exact ⟨by omega,h6⟩
   ·rw [if_neg hz] at h4
    split at h4
    ·omega
    ·obtain ⟨h5,h6⟩:=ih (k+1) 0 A (by omega) (by omega) (fun i h5 h6=>by omega) h4
     exact ⟨by omega,h6⟩
 have:=key f 0 0 A (by omega) (by omega) (fun i h5 h6=>by omega) h
 exact ⟨by omega,this.2⟩
theorem row_free {r:PR} (ok:r.Ok) {p:Nat} (hp:p<r.man+r.mgd) (h:r.rs.getD p PRow.Z=PRow.Z):sfind r.sl p=none∧gin r.G p=none:=by
 have h1:=ok.row p hp
 rw [List.getD_eq_getElem?_getD,h1] at h
 have h:rowP r.sl r.G p=PRow.Z:=h
 unfold rowP at h
 cases hs:sfind r.sl p with
 | some x=>rw [hs] at h; exact absurd (congrArg PRow.kind h) (by show ¬ (1:Int)=0; decide)
 | none =>
  rw [hs] at h
  refine ⟨rfl,?_⟩
  cases hg:gin r.G p with
  | none=>rfl
  | some b =>
   rw [hg] at h
   simp only at h
   split at h
   ·exact absurd (congrArg PRow.kind h) (by show ¬ (2:Int)=0; decide)
   ·exact absurd (congrArg PRow.kind h) (by show ¬ (3:Int)=0; decide)
theorem pgOpen_arg (r:PR) (c ow:Int) (h:sizeC c=0∨ow<0∨64≤ow):Tr Tryz.prog 38 [ptr 0,.int .i64 c,.int .i64 ow] (RPL r) (fun v K=>v=.tuple ⟨[.int .i64 0,.int .i64 1]⟩∧K=RPL r):=by
 have hZ:=Size_tr c
 have hz:0≤sizeC c∧sizeC c≤128:=by unfold sizeC; (repeat' split) <;> omega
 generalize sizeC c=z at *
 refine Tr.of row_region_Region_Open_ok rfl ?_
 repeat' (first|refine qN ?_|refine dN ?_|refine qB ?_|refine rT ?_|refine qT ?_|refine qU ?_|refine qL ?_|refine iF (fun h=>?_) (fun h=>?_)|refine cP [] (hZ) ?_|refine sP 18 (fun h=>?_) (fun h=>?_)|refine sP 22 (fun h=>?_) (fun h=>?_)|refine qS ?_|exact ⟨rfl,rfl⟩|fail)
 all_goals (exfalso; omega)
theorem pgOpen_full (r:PR) (ok:r.Ok) (c ow:Int) (hc:sizeC c≠0) (how:0≤ow∧ow<64) (hp:placeP r.rs 1 r.man 0 0=none):Tr Tryz.prog 38 [ptr 0,.int .i64 c,.int .i64 ow] (RPL r) (fun v K=>v=.tuple ⟨[.int .i64 0,.int .i64 5]⟩∧K=RPL r):=by
 have hZ:=Size_tr c
 have hz:0≤sizeC c∧sizeC c≤128:=by unfold sizeC; (repeat' split) <;> omega
 have hM:=tMap_full (r.man+r.mgd) r.rs ok.rl ok.n2 r.man (by omega) (srow c ow) rfl ⟨by show (1:Int)≤1; decide,by show (1:Int)≤256; decide⟩ hp
 generalize sizeC c=z at *
 refine Tr.of row_region_Region_Open_ok rfl ?_
 repeat' (first|refine qN ?_|refine dN ?_|refine qB ?_|refine rT ?_|refine qT ?_|refine qU ?_|refine qL ?_|refine iF (fun h=>?_) (fun h=>?_)|refine cP [] (hZ) ?_|refine cP [1,2] (hM) ?_|refine sP 18 (fun h=>?_) (fun h=>?_)|refine sP 22 (fun h=>?_) (fun h=>?_)|refine qS ?_|exact ⟨rfl,rfl⟩|fail)
 all_goals (exfalso; omega)
set_option maxHeartbeats 1000000 in
theorem pgOpen_ok (r:PR) (ok:r.Ok) (c ow:Int) (hc:Cls c (zC c) (nC c)) (how:0≤ow∧ow<64) (A:Nat) (hp:placeP r.rs 1 r.man 0 0=some (A:Int)) :
  Tr Tryz.prog 38 [ptr 0,.int .i64 c,.int .i64 ow] (RPL r) (fun v K=>∃ x:SE,(x.t=newPS r.key r.bs A c ow (zC c) (nC c) (nC c)∧x.bn=r.mc)∧v=.tuple ⟨[.int .i64 A,.int .i64 0]⟩∧K=RPL (r.opened A c ow x)):=by
 obtain ⟨hA,hfr⟩:=placeP_free hp (by decide)
 have hA:A+1≤r.man:=hA
 have hn:=ok.n2
 have hf:=(row_free ok (by omega) (hfr A (Nat.le_refl _) (by omega))).1
 have hz:=hc.bd
 have hZ:=Size_tr c
 rw [hc.size] at hZ
 have hM:=tMap_ok (r.man+r.mgd) r.rs ok.rl ok.n2 r.man (by omega) (srow c ow) rfl A 1 rfl (by decide) (by decide) (by omega) hp
 have hN:r.N=256*(r.man+r.mgd):=rfl
 have hK:=slabMake r.a r.b r.key r.N r.bs ok.bl (by omega) hc A ow (by omega) r.sl r.mc
 refine Tr.of row_region_Region_Open_ok rfl ?_
 repeat' (first|refine qN ?_|refine dN ?_|refine qB ?_|refine rT ?_|refine qT ?_|refine qU ?_|refine qL ?_|refine iF (fun h=>?_) (fun h=>?_)|refine cP [] (hZ) ?_|(refine cF [1,2] (hM) ?_; conv=>whnf)|refine sP 18 (fun h=>?_) (fun h=>?_)|refine sP 22 (fun h=>?_) (fun h=>?_)|refine qS ?_|fail)
 all_goals try (exfalso; omega)
 refine cX (ι:=SE) (C:=fun x=>x.t=newPS r.key r.bs A c ow (zC c) (nC c) (nC c)∧x.bn=r.mc) (V:=fun x=>.tuple ⟨[adR x.e0 0,.int .i64 0]⟩) (B:=fun x=>[crowdS r.a r.key (r.sl++[x]),box [r.a,r.b] (AN r.N (madeP r.key r.bs A (zC c) (nC c) (nC c)).1)]) [4,5] hK (fun x hx=>?_)
 conv=>whnf
 have hpf:pfind (peS r.sl) A=none:=by rw [pfind_pe,hf]; rfl
 have hE:peS (r.sl++[x])=peS r.sl++[(⟨A,x.e0,r.mc⟩:PE)]:=by
  unfold peS
  rw [List.map_append,List.map_cons,hx.1,hx.2]; rfl
 repeat' (first|refine qN ?_|refine dN ?_|refine qU ?_|refine qL ?_|refine qS ?_|fail)
 first|refine L_rs ?_|refine L_reg ?_ | skip
 refine eE rfl rfl (EW.pput (r0:=x.e0) rfl mT_s kT_s rfl rfl rfl rfl hpf) ?_
 conv=>whnf
 repeat' (first|refine qN ?_|refine dN ?_|fail)
 refine L_ret (RetQ.pick [0,1,2,3,4,5,6] rfl rfl rfl rfl ⟨x,hx,rfl,?_⟩)
 unfold RPL
 simp only [PR.opened]
 rw [hE]
 rfl
theorem pgShut_none (r:PR) (p:Int) (h:sfind r.sl p=none):Tr Tryz.prog 17 [ptr 0,.int .i64 p] (RPL r) (fun v K=>v=.int .i64 6∧K=RPL r):=by
 have hS:=pgSlab_no r h
 refine Tr.of row_region_Region_Shut_ok rfl ?_
 repeat' (first|refine qN ?_|refine dN ?_|refine qB ?_|refine rT ?_|refine qT ?_|refine qU ?_|refine qL ?_|(refine cF [0,1,2,3,4,5,6] (hS) ?_; conv=>whnf)|refine qS ?_|exact ⟨rfl,rfl⟩|fail)
theorem pgShut_no (r:PR) (ok:r.Ok) (i:Nat) (x:SE) (hi:r.sl[i]?=some x) (h:0<cntS x.t 1 (nC x.t.c)+cntS x.t 2 (nC x.t.c)):Tr Tryz.prog 17 [ptr 0,.int .i64 x.t.pg] (RPL r) (fun v K=>v=.int .i64 8∧K=RPL r):=by
 have hm:=List.mem_of_getElem? hi
 have hx:=ok.sok x hm
 have hb:=hx.cls.bd
 have hS:=pgSlab_at r (sfind_mem ok.sap hm)
 have ht:x.t.Ok r.N _ _:=hx.t ok.n2
 have c1:=cntS_le x.t 1 (nC x.t.c)
 have c2:=cntS_le x.t 2 (nC x.t.c)
 have h1:=slabK r.a r.b r.key r.N r.bs r.sl i x hi plain_int (plain1 plain_int) (sCount_tr r.key r.N r.bs x.t ht 1)
 have h2:=slabK r.a r.b r.key r.N r.bs r.sl i x hi plain_int (plain1 plain_int) (sCount_tr r.key r.N r.bs x.t ht 2)
 refine Tr.of row_region_Region_Shut_ok rfl ?_
 repeat' (first|refine qN ?_|refine dN ?_|refine qB ?_|refine rT ?_|refine qU ?_|refine qL ?_|refine iF (fun h=>?_) (fun h=>?_)|(refine cF [0,1,2,3,4,5,6] (hS) ?_; conv=>whnf)|refine cP [4,5] (h1) ?_|refine cP [4,5] (h2) ?_|refine aA ?_|refine qS ?_|exact ⟨rfl,rfl⟩|fail)
 all_goals (exfalso; omega)
theorem pgShut_ok (r:PR) (ok:r.Ok) (i:Nat) (x:SE) (hi:r.sl[i]?=some x) (h:cntS x.t 1 (nC x.t.c)+cntS x.t 2 (nC x.t.c)=0):Tr Tryz.prog 17 [ptr 0,.int .i64 x.t.pg] (RPL r) (fun v K=>v=.int .i64 0∧K=RPL (r.shut x.t.pg)):=by
 have hm:=List.mem_of_getElem? hi
 have hx:=ok.sok x hm
 have hp:=hx.pg
 have hn:=ok.n2
 have hb:=hx.cls.bd
 have hf:=sfind_mem ok.sap hm
 have hS:=pgSlab_at r hf
 have ht:x.t.Ok r.N _ _:=hx.t ok.n2
 have h1:=slabK r.a r.b r.key r.N r.bs r.sl i x hi plain_int (plain1 plain_int) (sCount_tr r.key r.N r.bs x.t ht 1)
 have h2:=slabK r.a r.b r.key r.N r.bs r.sl i x hi plain_int (plain1 plain_int) (sCount_tr r.key r.N r.bs x.t ht 2)
 rw [show cntS x.t 1 (nC x.t.c)=0 by omega] at h1
 rw [show cntS x.t 2 (nC x.t.c)=0 by omega] at h2
 have hrow:pAt r.rs x.t.pg=⟨1,x.t.c,x.t.ow,1⟩:=by
  rw [pAt_row ok (by omega)]; unfold rowP; rw [hf]
 have hU:=tUnmap_ok (r.man+r.mgd) r.rs ok.rl hn x.t.pg 1 (by rw [hrow]; rfl) (by rw [hrow]; rfl) (by omega)
 refine TrK.post (R:=fun v K=>v=.int .i64 0∧K=[.cells 0 [.int .i64 r.man,.int .i64 r.mgd,.int .u64 (r.seed.toNat:Int),adR r.a 0,ptr 1,.int .u64 (r.key.toNat:Int),.map (some 3),adR r.g0 0],
 .cells 0 [slB 2 (r.man+r.mgd)],.gro 4 (rowsC PRow.cells (clearP r.rs x.t.pg 1)),pB r.m0 (pdel (peS r.sl) x.t.pg) r.mc,crowdS r.a r.key r.sl,box [r.a,r.b] (AN r.N r.bs),crowdG r.a r.key r.g0 r.g1 r.G r.gc]) ?_ ?_
 ·refine Tr.of row_region_Region_Shut_ok rfl ?_
  repeat' (first|refine qN ?_|refine dN ?_|refine qB ?_|refine qU ?_|refine qL ?_|(refine cF [0,1,2,3,4,5,6] (hS) ?_; conv=>whnf)|refine cP [4,5] (h1) ?_|refine cP [4,5] (h2) ?_|refine aA ?_|refine qS ?_|fail)
  first|refine L_rs ?_|refine L_reg ?_ | skip
  refine eE rfl rfl (EW.pdel rfl mT_s kT_s rfl rfl rfl) ?_
  conv=>whnf
  repeat' (first|refine qN ?_|refine dN ?_|refine rT ?_|(refine cF [1,2] (hU) ?_; conv=>whnf)|exact ⟨rfl,rfl⟩|fail)
 ·rintro v K ⟨rfl,rfl⟩
  rw [peS_del]
  refine ⟨_,More.less (b:=4) (ms:=r.sl.map fun x=>memS x r.a r.key) (ms':=(r.sl.filter fun y => !decide ((y.t.pg:Int)=x.t.pg)).map fun x=>memS x r.a r.key) rfl (List.filter_sublist.map _),rfl,rfl⟩
theorem pgGreat_arg (r:PR) (n:Int) (hn:greatC n=false):Tr Tryz.prog 45 [ptr 0,.int .i64 n] (RPL r) (fun v K=>v=.tuple ⟨[.int .i64 0,.int .i64 1]⟩∧K=RPL r):=by
 have hP:=Pages_tr n
 rw [hn] at hP
 refine Tr.of row_region_Region_Great_ok rfl ?_
 repeat' (first|refine qN ?_|refine dN ?_|refine rT ?_|refine qT ?_|refine qU ?_|refine qL ?_|refine cP [] (hP) ?_|refine qS ?_|exact ⟨rfl,rfl⟩|fail)
theorem pgGreat_full (r:PR) (ok:r.Ok) (n:Int) (hn:greatC n=true) (hp:placeP r.rs (pagesC n) r.man 0 0=none):Tr Tryz.prog 45 [ptr 0,.int .i64 n] (RPL r) (fun v K=>v=.tuple ⟨[.int .i64 0,.int .i64 5]⟩∧K=RPL r):=by
 have hP:=Pages_tr n
 rw [hn] at hP
 obtain ⟨M,hM,hM1,hM17⟩:=greatC_pages hn
 rw [hM] at hP hp
 have hF:=tMap_full (r.man+r.mgd) r.rs ok.rl ok.n2 r.man (by omega) (lrow M) rfl ⟨by show (1:Int)≤M; omega,by show (M:Int)≤256; omega⟩ hp
 refine Tr.of row_region_Region_Great_ok rfl ?_
 repeat' (first|refine qN ?_|refine dN ?_|refine rT ?_|refine qT ?_|refine qU ?_|refine qL ?_|refine cP [] (hP) ?_|refine cP [1,2] (hF) ?_|refine qS ?_|exact ⟨rfl,rfl⟩|fail)
theorem small_of {r:PR} (ok:r.Ok):Small r.G 256:=fun x hx=>by
 have h:=ok.gok x hx
 have:=h.lo
 have:=h.hi
 have:=ok.n2
 exact ⟨h.lo,h.gr,by omega⟩
theorem meets_free {r:PR} {A M:Nat} (h:∀ i:Nat,A≤i→i<A+M→gin r.G i=none) (ok:r.Ok) (hM:1≤M):meetsG r.G A M=false:=by
 rw [meetsG,List.any_eq_false]
 intro b hb
 have hg:=ok.gok b hb
 have hlo:=hg.lo
 simp only [decide_eq_true_eq,not_and]
 intro h1 h2
 obtain ⟨g,hg0⟩:=Int.eq_ofNat_of_zero_le hlo
 obtain ⟨M2,hM2,hM21,_⟩:=greatC_pages hg.gr
 by_cases hc:A≤g
 ·exact gin_none (h g hc (by omega)) b hb ⟨by omega,by omega⟩
 ·exact gin_none (h A (Nat.le_refl _) (by omega)) b hb ⟨by omega,by omega⟩
set_option maxHeartbeats 1000000 in
theorem pgGreat_ok (r:PR) (ok:r.Ok) (n:Int) (hn:greatC n=true) (A M:Nat) (hM:pagesC n=M) (hp:placeP r.rs M r.man 0 0=some (A:Int)):Tr Tryz.prog 45 [ptr 0,.int .i64 n] (RPL r) (fun v K=>v=.tuple ⟨[.int .i64 (256*A:Nat),.int .i64 0]⟩∧K=RPL (madeR r A M n)):=by
 have hP:=Pages_tr n
 rw [hn,hM] at hP
 obtain ⟨M',hM',hM1,hM17⟩:=greatC_pages hn
 obtain rfl:M'=M:=by omega
 obtain ⟨hA,hfr⟩:=placeP_free hp (by omega)
 have hn2:=ok.n2
 have hN:r.N=256*(r.man+r.mgd):=rfl
 have hbl:=ok.bl
 have hF:=tMap_ok (r.man+r.mgd) r.rs ok.rl hn2 r.man (by omega) (lrow M') rfl A M' rfl hM1 (by omega) (by omega) hp
 have hfree:=meets_free (A:=A) (M:=M') (fun i h1 h2=>(row_free ok (by omega) (hfr i h1 (by omega))).2) ok hM1
 have hl2:=madeB_length (key:=r.key) (bs:=r.bs) (p:=A) (M:=M') (by omega) hM1
 have hL:=largeL r.a r.b r.g0 r.g1 r.key r.N r.bs _ ok.bl (by rw [hl2,ok.bl]) r.G _ r.gc _ plain_int (plain2 plain_int plain_int) rfl rfl (largeMake_ok r.key r.bs (r.man+r.mgd) (by rw [ok.bl]; rfl) hn2 r.G r.gc (small_of ok) ok.gg A M' n hn hM (by omega) hfree)
 refine Tr.of row_region_Region_Great_ok rfl ?_
 repeat' (first|refine qN ?_|refine dN ?_|refine rT ?_|refine qU ?_|refine qL ?_|refine cP [] (hP) ?_|(refine cF [1,2] (hF) ?_; conv=>whnf)|(refine cF [6,5] (hL) ?_; conv=>whnf)|refine S_Q [] rfl rfl (QY.mul (c:=((256*A:Nat):Int)) rfl rfl (by omega) (by omega) (by omega)) ?_|refine qS ?_|exact ⟨rfl,rfl⟩|fail)
set_option maxHeartbeats 1000000 in
theorem pgDrop_great (r:PR) (ok:r.Ok) (b:Int × Int × Nat) (hb:b∈r.G) (g M:Nat) (hg:b.1=g) (hM:pagesC b.2.1=M):Tr Tryz.prog 15 [ptr 0,.int .i64 (256*b.1)] (RPL r) (fun v K=>v=.tuple ⟨[.bool (decide (wordB r.bs (256*(g+M)-8)=canW r.key (256*g))),.int .i64 0]⟩∧K=RPL (r.lost g M)):=by
 have hB:=pgBase_at r ok _ _ (ok.base_great hb)
 simp only [Pl.cells,placeG] at hB
 have hgk:=ok.gok b hb
 have hhi:=hgk.hi
 obtain ⟨M',hM',hM1,hM17⟩:=greatC_pages hgk.gr
 obtain rfl:M'=M:=by omega
 have hn2:=ok.n2
 have hN:r.N=256*(r.man+r.mgd):=rfl
 have hbl:=ok.bl
 have hl2:(overB r.bs (256*g) (List.replicate (256*M') 0xDD#8)).length=r.bs.length:=overB_length (by rw [List.length_replicate]; omega)
 have hgg:gget r.G g=b.2.1:=by rw [← hg]; exact gget_in ok.gg hb
 have hgh:ghas r.G g=true:=by rw [← hg]; unfold ghas; rw [ok.gg.find hb]; rfl
 have hL:=largeL r.a r.b r.g0 r.g1 r.key r.N r.bs _ ok.bl (by rw [hl2,ok.bl]) r.G _ r.gc _ plain_tupb (plain1 plain_int) rfl rfl (largeDrop_ok r.key r.bs (by omega) r.G r.gc g M' b.2.1 hgh hgg hM hM1 (by omega))
 have hrow:pAt r.rs g=lrow M':=by
  rw [pAt_row ok (by omega)]
  unfold rowP
  rw [ok.sfind_great hb (by omega),gin_mem ok.gap hb (by omega)]
  simp [hM,hg]
 have hU:=tUnmap_ok (r.man+r.mgd) r.rs ok.rl hn2 g M' (by rw [hrow]; rfl) (by rw [hrow]; rfl) (by omega)
 rw [hg] at hB ⊢
 refine Tr.of row_region_Region_Drop_ok rfl ?_
 repeat' (first|refine qN ?_|refine dN ?_|refine rT ?_|refine qT ?_|refine qU ?_|refine qL ?_|refine cP [0,1,2,3,4,5,6] (hB) ?_|(refine cF [6,5] (hL) ?_; conv=>whnf)|(refine cF [1,2] (hU) ?_; conv=>whnf)|refine qR ?_|refine qS ?_|exact ⟨rfl,rfl⟩|fail)
theorem pgArena_tr (r:PR):Tr Tryz.prog 19 [ptr 0] (RPL r) (fun v K=>v=adR r.a 0∧K=RPL r):=by
 refine Tr.of row_region_Region_Arena_ok rfl ?_
 repeat' (first|refine qN ?_|refine dN ?_|refine rT ?_|refine qU ?_|refine qL ?_|refine qS ?_|exact ⟨rfl,rfl⟩|fail)
theorem pgPages_tr (r:PR):Tr Tryz.prog 11 [ptr 0] (RPL r) (fun v K=>v=ptr 1∧K=RPL r):=by
 refine Tr.of row_region_Region_Pages_ok rfl ?_
 repeat' (first|refine qN ?_|refine dN ?_|refine rT ?_|refine qU ?_|refine qL ?_|refine qS ?_|exact ⟨rfl,rfl⟩|fail)
theorem pgConfig_tr (r:PR):Tr Tryz.prog 125 [ptr 0] (RPL r) (fun v K=>v=.agg ⟨[.int .i64 r.man,.int .i64 r.mgd,.int .u64 (r.seed.toNat:Int)]⟩∧K=RPL r):=by
 refine Tr.of row_region_Region_Config_ok rfl ?_
 repeat' (first|refine qN ?_|refine dN ?_|refine rT ?_|refine qU ?_|refine qL ?_|refine qS ?_|exact ⟨rfl,rfl⟩|fail)
end Go.Proofs.YtgfjgfapigekiaaGreat
end
section
namespace Go.Proofs.YtgfjgfapigekiaaGreat
open Go Go.Tum Go.Tum.Base
set_option maxRecDepth 4000
theorem pgLen (r:PR) (ok:r.Ok):Tr Tryz.prog 60 [ptr 0] (TN (r.man+r.mgd) r.rs) (fun v K=>v=.int .i64 (r.man+r.mgd:Nat)∧K=TN (r.man+r.mgd) r.rs):=tLen _ _ ok.rl
def homeV:Option Nat→Value
 | some p=>.tuple ⟨[.int .i64 p,.bool true]⟩
 | none=>.tuple ⟨[.int .i64 0,.bool false]⟩
theorem home_none {r:PR} {c ow:Int} (h:∀ j,j<r.man+r.mgd→homeS r.sl c ow j=false):r.home c ow=none:=by
 unfold PR.home
 rw [List.find?_eq_none]
 intro j hj
 rw [h j (List.mem_range.1 hj)]
 decide
theorem home_at {r:PR} {c ow:Int} {k:Nat} (hk:k<r.man+r.mgd) (h:∀ j,j<k→homeS r.sl c ow j=false) (h1:homeS r.sl c ow k=true):r.home c ow=some k:=by
 unfold PR.home
 rw [List.find?_range_eq_some]
 exact ⟨h1,List.mem_range.2 hk,fun j hj=>by rw [h j hj]; rfl⟩
set_option maxHeartbeats 1000000 in
theorem pgHome_tr (r:PR) (ok:r.Ok) (c ow:Int):Tr Tryz.prog 49 [ptr 0,.int .i64 c,.int .i64 ow] (RPL r) (fun v K=>v=homeV (r.home c ow)∧K=RPL r):=by
 have hn:=ok.n2
 have hP:=pgPages_tr r
 have hL:=pgLen r ok
 refine Tr.of row_region_Region_Home_ok rfl ?_
 repeat' (first|refine qN ?_|refine dN ?_|refine qB ?_|(refine cSame hP ?_)|refine cP [1,2] (hL) ?_|refine qS ?_|fail)
 refine LWp.pick [0,1,2,12,13] [0,1,2,3,4,5,6] rfl rfl rfl (L_loop (fun q l K=>∃ k:Nat,q=r.man+r.mgd-k∧k≤r.man+r.mgd∧(∀ j,j<k→homeS r.sl c ow j=false)∧l=[(0,ptr 0),(1,.int .i64 c),(2,.int .i64 ow),(12,.int .i64 (r.man+r.mgd:Nat)),(13,.int .i64 k)]∧K=RPL r) (r.man+r.mgd) ⟨0,rfl,by omega,by intro j hj; omega,rfl,rfl⟩ ?_)
 rintro q _ _ ⟨k,rfl,hk,hno,rfl,rfl⟩
 first|refine L_seq (L_rs (S_done [] rfl (Nx.goL (iF (fun h=>L_skip (Nx.goL ?_)) (fun h=>L_exit ?_)))))|refine L_rs (S_done [] rfl (Nx.goL (L_seq (iF (fun h=>L_skip (Nx.goL ?_)) (fun h=>L_exit ?_)))))
 ·have hk2:k<r.man+r.mgd:=by omega
  have next:homeS r.sl c ow k=false→∀ j,j<k+1→homeS r.sl c ow j=false:=fun h0 j hj=>by
   by_cases e:j=k
   ·subst e; exact h0
   ·exact hno j (by omega)
  cases hs:sfind r.sl k with
  | none =>
   have hS:=pgSlab_no r hs
   have h0:homeS r.sl c ow k=false:=by unfold homeS; rw [hs]
   repeat' (first|refine qN ?_|refine dN ?_|refine d0 ?_|refine qB ?_|refine qU ?_|refine qL ?_|(refine cSame hS ?_)|refine aA ?_|refine qR ?_|refine qS ?_|fail)
   exact Nx.pick [0,1,2,12,13] [0,1,2,3,4,5,6] rfl rfl rfl ⟨r.man+r.mgd-(k+1),by omega,k+1,rfl,by omega,next h0,rfl,rfl⟩
  | some x =>
   obtain ⟨i,hi,hm,hpg⟩:=sfind_some hs
   have hx:=ok.sok x hm
   have hb:=hx.cls.bd
   have hS:=pgSlab_at r hs
   have ht:x.t.Ok r.N _ _:=hx.t ok.n2
   have hcn:=cntS_le x.t 0 (nC x.t.c)
   have h1:=slabK r.a r.b r.key r.N r.bs r.sl i x hi plain_int plain0 (sClass_tr r.key r.N r.bs (n:=nC x.t.c) x.t)
   have h2:=slabK r.a r.b r.key r.N r.bs r.sl i x hi plain_int plain0 (sOwner_tr r.key r.N r.bs (n:=nC x.t.c) x.t)
   have h3:=slabK r.a r.b r.key r.N r.bs r.sl i x hi plain_int (plain1 plain_int) (sCount_tr r.key r.N r.bs x.t ht 0)
   have e0:homeS r.sl c ow k=decide (x.t.c=c∧x.t.ow=ow∧0<cntS x.t 0 (nC x.t.c)):=by unfold homeS; rw [hs]
   by_cases hh:x.t.c=c∧x.t.ow=ow∧0<cntS x.t 0 (nC x.t.c)
   ·rw [home_at hk2 hno (by rw [e0]; exact decide_eq_true hh)]
    repeat' (first|refine qN ?_|refine dN ?_|refine d0 ?_|refine qB ?_|refine rT ?_|refine qU ?_|refine qL ?_|refine iF (fun h=>?_) (fun h=>?_)|(refine cSame hS ?_)|refine cP [4,5] (h1) ?_|refine cP [4,5] (h2) ?_|refine cP [4,5] (h3) ?_|refine aA ?_|refine sP 27 (fun h=>?_) (fun h=>?_)|refine sP 33 (fun h=>?_) (fun h=>?_)|refine qR ?_|refine qS ?_|exact ⟨rfl,rfl⟩|fail)
    all_goals (exfalso; omega)
   ·have hn:=next (by rw [e0]; exact decide_eq_false hh)
    repeat' (first|refine qN ?_|refine dN ?_|refine d0 ?_|refine qB ?_|refine rT ?_|refine qU ?_|refine qL ?_|refine iF (fun h=>?_) (fun h=>?_)|(refine cSame hS ?_)|refine cP [4,5] (h1) ?_|refine cP [4,5] (h2) ?_|refine cP [4,5] (h3) ?_|refine aA ?_|refine sP 27 (fun h=>?_) (fun h=>?_)|refine sP 33 (fun h=>?_) (fun h=>?_)|refine qR ?_|refine qS ?_|fail)
    all_goals first | (exfalso; omega)|exact Nx.pick [0,1,2,12,13] [0,1,2,3,4,5,6] rfl rfl rfl ⟨r.man+r.mgd-(k+1),by omega,k+1,rfl,by omega,hn,rfl,rfl⟩
 ·obtain rfl:k=r.man+r.mgd:=by omega
  refine Nx.goL ?_
  rw [home_none hno]
  repeat' (first|refine qN ?_|refine dN ?_|refine rT ?_|exact ⟨rfl,rfl⟩|fail)
end Go.Proofs.YtgfjgfapigekiaaGreat
end
section
namespace Go.Proofs.YtgfjgfapigekiaaGreat
open Go Go.Tum Go.Tum.Base
set_option maxRecDepth 4000
def RL0 (man mgd:Int) (seed:BitVec 64) (N:Nat) (bs:Bytes) (n:Nat) (rs:PRows):LH :=
 [.cells 0 [.int .i64 man,.int .i64 mgd,.int .u64 (seed.toNat:Int),ptr 1,ptr 3,.int .u64 ((keyW seed).toNat:Int),.map (some 5),ptr 6],
  .cells 0 [slB 2 N],BL bs,.cells 0 [slB 4 n],.gro 4 (rowsC PRow.cells rs),.imap [] 0,
  .cells 0 [ptr 1,.int .u64 ((keyW seed).toNat:Int),.map (some 7)],.imap [] 0]
def newR (m g:Nat) (seed:BitVec 64) (a b g0 g1:RA) (m0:Nat):PR:=⟨m,g,seed,a,b,g0,g1,m0,0,List.replicate (m+g) PRow.Z,List.replicate (256*(m+g)) 0,[],[],0⟩
theorem newR_ok {m g:Nat} {seed:BitVec 64} {a b g0 g1:RA} {m0:Nat} (h1:1≤m+g) (h2:m+g≤256):(newR m g seed a b g0 g1 m0).Ok :=
 ⟨h1,h2,by simp [newR],by simp [newR,PR.N],by simp [newR],by simp [newR],by simp [newR],⟨by simp [newR],by simp [newR],by simp [newR]⟩,by simp [newR],by simp [newR],fun p hp=>by
  show (List.replicate (m+g) PRow.Z)[p]?=some (rowP [] [] p)
  have hp:p<m+g:=hp
  rw [List.getElem?_replicate,if_pos hp]; rfl⟩
set_option maxHeartbeats 1000000 in
theorem pgNew0_tr (m g:Nat) (seed:BitVec 64) (h1:m+g≤256) (h2:1≤m+g):Tr Tryz.prog 35 [.agg ⟨[.int .i64 m,.int .i64 g,.int .u64 (seed.toNat:Int)]⟩] [] (fun v K=>v=.tuple ⟨[ptr 0,.int .i64 0]⟩∧K=RL0 m g seed (256*(m+g)) (List.replicate (256*(m+g)) 0) (m+g) (List.replicate (m+g) PRow.Z)):=by
 have hA:=arenaNew_tr ((m+g:Nat):Int) (256*(m+g)) (by omega)
 have hK:=linkNew_tr seed
 have hP:=pagesNew_tr ((m+g:Nat):Int) (m+g) (by omega)
 have hG:=largeNew_tr (List.replicate (256*(m+g)) 0) (keyW seed)
 simp only [AL,List.length_replicate,TL] at hA hP hG
 refine Tr.of row_region_New_ok rfl ?_
 repeat' (first|refine qN ?_|refine dN ?_|refine qT ?_|refine qL ?_|refine iF (fun h=>?_) (fun h=>?_)|refine S_Q [] rfl rfl (QY.add (c:=((m+g:Nat):Int)) rfl rfl (by omega) (by omega) (by omega)) ?_|(refine cF [] (hA) ?_; conv=>whnf)|refine cP [] (hK) ?_|(refine cF [] (hP) ?_; conv=>whnf)|(refine cF [1,2] (hG) ?_; conv=>whnf)|(refine S_E [] rfl rfl (esafe_ok rfl) ?_; rintro _ _ ⟨rfl,rfl⟩; refine ⟨(by repeat' (first|exact trivial|refine ⟨⟨qsafe_ok (st:=[]) rfl,Sure.of rfl⟩,?_⟩|fail)),LSt.nf ?_⟩; conv=>whnf)|(refine S_E [] rfl rfl (EW.imake rfl) ?_; rintro _ _ ⟨rfl,rfl⟩; refine ⟨(by repeat' (first|exact trivial|refine ⟨⟨qsafe_ok (st:=[]) rfl,Sure.of rfl⟩,?_⟩|fail)),LSt.nf ?_⟩; conv=>whnf)|refine L_rT ?_|refine P_lin rfl ?_|refine P_A [] rfl ?_ ?_|refine P_Q [] rfl rfl (QY.add (c:=((m+g:Nat):Int)) rfl rfl (by omega) (by omega) (by omega)) ?_|(refine P_E [] rfl rfl (EW.callF [] (hP) rfl rfl (by decide) (by repeat' (first|exact trivial|fail)) rfl rfl) ?_; rintro _ _ ⟨rfl,rfl⟩; refine ⟨(by repeat' (first|exact trivial|refine ⟨⟨qsafe_ok (st:=[]) rfl,Sure.of rfl⟩,?_⟩|fail)),LPt.nf ?_⟩; conv=>whnf)|refine aS ?_|refine sP 9 (fun h=>?_) (fun h=>?_)|refine sP 14 (fun h=>?_) (fun h=>?_)|refine sP 19 (fun h=>?_) (fun h=>?_)|refine sP 27 (fun h=>?_) (fun h=>?_)|refine qS ?_|fail)
 all_goals try (exfalso; omega)
 ·exact L_ret (RetQ.pick [9,1,2,4,5,6,7,8] rfl rfl rfl rfl ⟨rfl,rfl⟩)
 ·exact L_ret (RetQ.pick [9,1,2,4,5,8,6,7] rfl rfl rfl rfl ⟨rfl,rfl⟩)
 ·exact L_ret (RetQ.pick [9,1,2,5,6,4,7,8] rfl rfl rfl rfl ⟨rfl,rfl⟩)
theorem emb8 {e:Emb} (h:e.length=8):∃ a b c d f g i j,e=[a,b,c,d,f,g,i,j]:=by
 match e,h with
 | [a,b,c,d,f,g,i,j],_=>exact ⟨a,b,c,d,f,g,i,j,rfl⟩
theorem BoxAt.two {X:Nat→Prop} {w0 w:World} {E:Emb} {K:LH} (h:Rep X w0 E K w) {i j:Nat} {a b:RA} {x y x' y':LB} (hij:i≠j) (hx:K[i]?=some x') (hy:K[j]?=some y') (ha:E[i]?=some a) (hb:E[j]?=some b) (hx':LBis [a,b] w a x) (hy':LBis [a,b] w b y) (fx:foot a x=foot a x') (fy:foot b y=foot b y'):BoxAt [a,b] [x,y] w:=by
 refine ⟨rfl,fun k z r hz hr=>?_,fun k k' z z' r r' c hz hz' hr hr' hc hc'=>?_,fun k z r c hz hr hc=>?_⟩
 ·match k,hz,hr with
  | 0,hz,hr=>cases hz; cases hr; exact hx'
  | 1,hz,hr=>cases hz; cases hr; exact hy'
 ·match k,k',hz,hz',hr,hr' with
  | 0,0,_,_,_,_=>rfl
  | 1,1,_,_,_,_=>rfl
  | 0,1,hz,hz',hr,hr' =>
   cases hz; cases hz'; cases hr; cases hr'
   exact absurd (h.inj i j _ _ _ _ c hx hy ha hb (by rw [← fx]; exact hc) (by rw [← fy]; exact hc')) hij
  | 1,0,hz,hz',hr,hr' =>
   cases hz; cases hz'; cases hr; cases hr'
   exact absurd (h.inj j i _ _ _ _ c hy hx hb ha (by rw [← fy]; exact hc) (by rw [← fx]; exact hc')).symm hij
 ·match k,hz,hr with
  | 0,hz,hr=>cases hz; cases hr; exact (h.rng i _ _ hx ha c (by rw [← fx]; exact hc)).2
  | 1,hz,hr=>cases hz; cases hr; exact (h.rng j _ _ hy hb c (by rw [← fy]; exact hc)).2
theorem footL2 {a b:RA} {x y:LB} {c:Nat} (h:footL [a,b] [x,y] c):foot a x c∨foot b y c:=by
 obtain ⟨k,z,r,hz,hr,hc⟩:=h
 match k,hz,hr with
 | 0,hz,hr=>cases hz; cases hr; exact .inl hc
 | 1,hz,hr=>cases hz; cases hr; exact .inr hc
theorem pgNew_tr (m g:Nat) (seed:BitVec 64) (h1:m+g≤256) (h2:1≤m+g):TrK Tryz.prog [] [] 35 [.agg ⟨[.int .i64 m,.int .i64 g,.int .u64 (seed.toNat:Int)]⟩] [] (fun v K=>∃ a b g0 g1 m0,v=.tuple ⟨[ptr 0,.int .i64 0]⟩∧K=RPL (newR m g seed a b g0 g1 m0)):=by
 refine TrK.retell (pgNew0_tr m g seed h1 h2) ?_
 rintro X w0 w E v v' K hR hv ⟨rfl,rfl⟩
 obtain ⟨e0,e1,e2,e3,e4,e5,e6,e7,rfl⟩:=emb8 hR.len
 have B0:=hR.blk 0 _ e0 rfl rfl
 have B1:=hR.blk 1 _ e1 rfl rfl
 have B2:=hR.blk 2 _ e2 rfl rfl
 have B3:=hR.blk 3 _ e3 rfl rfl
 have B4:=hR.blk 4 _ e4 rfl rfl
 have B5:=hR.blk 5 _ e5 rfl rfl
 have B6:=hR.blk 6 _ e6 rfl rfl
 have B7:=hR.blk 7 _ e7 rfl rfl
 have hA:BoxAt [e1,e2] (AN (256*(m+g)) (List.replicate (256*(m+g)) 0)) w:=BoxAt.two hR (i:=1) (j:=2) (by decide) rfl rfl rfl rfl (B1.cellsTo ⟨SRm.sl rfl rfl,trivial⟩) B2 rfl rfl
 have hG:BoxAt [e6,e7] (LGr e1 (keyW seed) [] 0) w:=BoxAt.two hR (i:=6) (j:=7) (by decide) rfl rfl rfl rfl (B6.cellsTo ⟨SRm.real rfl,SRm.int,SRm.map rfl rfl rfl,trivial⟩) B7 rfl rfl
 refine ⟨[e0,e3,e4,(e5.1,0,0),(0,0,0),(0,0,0),(0,0,0)],.tuple ⟨[ptr 0,.int .i64 0]⟩,RPL (newR m g seed e1 e2 e6 e7 e5.1),Nat.zero_le _,hR.regroup (fun j=>[0,5,5,1,2,3,6,6].getD j 0) rfl (fun i x r hx hr=>?_) (fun i x r c hx hr hc=>?_),?_,e1,e2,e6,e7,e5.1,rfl,rfl⟩
 ·match i,hx,hr with
  | 0,hx,hr=>cases hx; cases hr; exact B0.cellsTo ⟨SRm.int,SRm.int,SRm.int,SRm.real rfl,SRm.ptr rfl rfl,SRm.int,SRm.map rfl rfl rfl,SRm.real rfl,trivial⟩
  | 1,hx,hr=>cases hx; cases hr; exact B3.cellsTo ⟨SRm.sl rfl rfl,trivial⟩
  | 2,hx,hr=>cases hx; cases hr; exact B4
  | 3,hx,hr=>cases hx; cases hr; exact pB_of B5
  | 4,hx,hr=>cases hx; cases hr; exact CrowdAt.is ⟨fun m hm=>(by simp [newR] at hm),List.Pairwise.nil⟩ rfl
  | 5,hx,hr=>cases hx; cases hr; exact hA.is rfl
  | 6,hx,hr=>cases hx; cases hr; exact CrowdAt.is ⟨fun m hm=>(by rw [List.mem_singleton] at hm; subst hm; exact hG),List.pairwise_singleton _ _⟩ rfl
 ·match i,hx,hr with
  | 0,hx,hr=>cases hx; cases hr; exact ⟨0,_,e0,rfl,rfl,rfl,hc⟩
  | 1,hx,hr=>cases hx; cases hr; exact ⟨3,_,e3,rfl,rfl,rfl,hc⟩
  | 2,hx,hr=>cases hx; cases hr; exact ⟨4,_,e4,rfl,rfl,rfl,hc⟩
  | 3,hx,hr=>cases hx; cases hr; exact ⟨5,_,e5,rfl,rfl,rfl,hc⟩
  | 4,hx,hr=>cases hx; cases hr; obtain ⟨m,hm,_⟩:=hc; exact absurd hm (by simp [newR])
  | 5,hx,hr =>
   cases hx; cases hr
   rcases footL2 hc with h | h
   ·exact ⟨1,_,e1,rfl,rfl,rfl,h⟩
   ·exact ⟨2,_,e2,rfl,rfl,rfl,h⟩
  | 6,hx,hr =>
   cases hx; cases hr
   obtain ⟨m,hm,hc⟩:=hc
   rw [List.mem_singleton] at hm
   subst hm
   rcases footL2 hc with h | h
   ·exact ⟨6,_,e6,rfl,rfl,rfl,h⟩
   ·exact ⟨7,_,e7,rfl,rfl,rfl,h⟩
 ·obtain ⟨vs',q1,q2⟩:=hv
  exact ⟨vs',q1,L2.to (R:=V1 [e0,e1,e2,e3,e4,e5,e6,e7]) (vs:=[ptr 0,.int .i64 0]) ⟨fun c h=>SRm.ptr (r:=e0) rfl rfl c h,fun _ h=>h,trivial⟩ q2⟩
end Go.Proofs.YtgfjgfapigekiaaGreat
end
section
namespace Go.Tum
open Go
section
variable {P:Program} {n0:NA} {l:Env} {L:LH} {X:Nat→Prop} {w0 w w':World} {E em:Emb} {S:LH}
theorem crowd_at {c:Nat} {ms:List Mem} {m:Mem} (hR:Rep X w0 E L w) (hc:L[c]?=some (crowd ms)) (hm:m∈ms):BoxAt m.1 m.2 w:=by
 obtain ⟨r,hr⟩:=hR.ent hc
 obtain ⟨h1,_,_⟩:=hR.blk c _ r hc hr
 exact h1.all m hm
theorem QY.ldC {x:Operand} {c q i o:Nat} {ms:List Mem} {r:Nat × Nat × Nat} {sz:Nat} {vs:List Value} {u v:Value} (hx:lv l x=some (.pointer (some ⟨r.1,q,some 0⟩))) (hq:q=o+r.2.1) (hc:L[c]?=some (crowd ms)) (hm:(em,S)∈ms) (hi:em[i]?=some r) (hS:S[i]?=some (.cells sz vs)) (ho:vs[o]?=some u)
  (hu:∀ v',SR em u v'→∀ E,VR E v v'):QY P n0 L l (.ld x) v:=by
 intro X w0 E0 w E l' h0 hE hR hl
 obtain ⟨_,h1,h2⟩:=lv_ev hl hx
 have h2:_=Value.pointer (some ⟨r.1,q,none⟩):=h2
 subst h2; subst hq
 obtain ⟨cs,h3,h4,h5,_⟩:=(crowd_at hR hc hm).blk i _ r hS hi
 obtain ⟨y,h6,h7⟩:=h4.get ho
 refine ⟨y,⟨_,h1,?_⟩,hu y h7 E⟩
 have hlt:=(List.getElem?_eq_some_iff.1 ho).1
 rw [h3.cellEq,Nat.add_comm]
 rw [List.getElem?_take,if_pos hlt,List.getElem?_drop] at h6
 exact h6
theorem QY.ldCi {x:Operand} {c q i o:Nat} {ms:List Mem} {r:Nat × Nat × Nat} {sz:Nat} {vs:List Value} {k:IntKind} {n:Int} (hx:lv l x=some (.pointer (some ⟨r.1,q,some 0⟩))) (hq:q=o+r.2.1) (hc:L[c]?=some (crowd ms)) (hm:(em,S)∈ms) (hi:em[i]?=some r) (hS:S[i]?=some (.cells sz vs)) (ho:vs[o]?=some (.int k n)):QY P n0 L l (.ld x) (.int k n) :=
 QY.ldC hx hq hc hm hi hS ho fun _ h _=>h
theorem QY.ldCa {x:Operand} {c q i o o':Nat} {ms:List Mem} {r r':Nat × Nat × Nat} {sz:Nat} {vs:List Value} (hx:lv l x=some (.pointer (some ⟨r.1,q,some 0⟩))) (hq:q=o+r.2.1) (hc:L[c]?=some (crowd ms)) (hm:(em,S)∈ms) (hi:em[i]?=some r) (hS:S[i]?=some (.cells sz vs)) (ho:vs[o]?=some (adR r' o')):QY P n0 L l (.ld x) (adR r' o') :=
 QY.ldC hx hq hc hm hi hS ho fun _ h _=>h
theorem QY.ldCq {x:Operand} {c q i o b o' s n m:Nat} {ms:List Mem} {r:Nat × Nat × Nat} {sz:Nat} {vs:List Value} (hx:lv l x=some (.pointer (some ⟨r.1,q,some 0⟩))) (hq:q=o+r.2.1) (hc:L[c]?=some (crowd ms)) (hm:(em,S)∈ms) (hi:em[i]?=some r) (hS:S[i]?=some (.cells sz vs)) (ho:vs[o]?=some (.slice (some ⟨b,o',some s⟩) n m)):QY P n0 L l (.ld x) (.slice (some ⟨b,o',some s⟩) n m) :=
 QY.ldC hx hq hc hm hi hS ho fun _ h _=>h
theorem QY.ldCg {x:Operand} {c q i k:Nat} {ms:List Mem} {r:Nat × Nat × Nat} {sz:Nat} {ws:List Value} {u:Value} (hx:lv l x=some (.pointer (some ⟨r.1,q,some 0⟩))) (hq:q=k+r.2.1) (hc:L[c]?=some (crowd ms)) (hm:(em,S)∈ms) (hi:em[i]?=some r) (hS:S[i]?=some (.gro sz ws)) (hk:ws[k]?=some u)
  (hu:stillS u=true):QY P n0 L l (.ld x) u:=by
 intro X w0 E0 w E l' h0 hE hR hl
 obtain ⟨_,h1,h2⟩:=lv_ev hl hx
 have h2:_=Value.pointer (some ⟨r.1,q,none⟩):=h2
 subst h2; subst hq
 have hlt:=(List.getElem?_eq_some_iff.1 hk).1
 rcases (crowd_at hR hc hm).blk i _ r hS hi with ⟨rfl,_⟩ | ⟨_,_,cs,h3,h4,_⟩
 ·simp at hlt
 ·refine ⟨u,⟨_,h1,?_⟩,(SR.still (E:=E) hu).vr⟩
  rw [h3.cellEq,Nat.add_comm]
  rw [← h4,List.getElem?_take,if_pos hlt,List.getElem?_drop] at hk
  exact hk
theorem QY.fldR {x:Operand} {b o s off:Nat} (hx:lv l x=some (.pointer (some ⟨b,o,some s⟩))):QY P n0 L l (.fld x off) (.pointer (some ⟨b,o+off,some s⟩)):=by
 intro X w0 E0 w E l' h0 hE hR hl
 obtain ⟨_,h1,h2⟩:=lv_ev hl hx
 have h2:_=Value.pointer (some ⟨b,o,none⟩):=h2
 subst h2
 exact ⟨_,⟨b,o,none,h1,rfl⟩,by rw [add_none]; rfl⟩
theorem L2.stillA:∀ {vs:List Value},vs.all stillS=true→L2 (SR E) vs vs
 | [],_=>trivial
 | v::vs,h=>by
  simp only [List.all_cons,Bool.and_eq_true] at h
  exact ⟨SR.still h.1,L2.stillA h.2⟩
theorem QY.ldnCg {α:Type} {g:α→List Value} {x:Operand} {c q i k:Nat} {ms:List Mem} {r:Nat × Nat × Nat} {sz:Nat} {xs:List α} {a:α} (hg:RowOk g sz) (hx:lv l x=some (.pointer (some ⟨r.1,q,some 0⟩))) (hq:q=k*sz+r.2.1) (hc:L[c]?=some (crowd ms)) (hm:(em,S)∈ms) (hi:em[i]?=some r) (hS:S[i]?=some (.gro sz (rowsC g xs))) (hk:xs[k]?=some a) (hz:0<sz):QY P n0 L l (.ldn x sz) (.agg ⟨g a⟩):=by
 intro X w0 E0 w E l' h0 hE hR hl
 obtain ⟨_,h1,h2⟩:=lv_ev hl hx
 have h2:_=Value.pointer (some ⟨r.1,q,none⟩):=h2
 subst h2; subst hq
 have hlt:=(List.getElem?_eq_some_iff.1 hk).1
 have hle:(k+1)*sz≤xs.length*sz:=Nat.mul_le_mul_right _ hlt
 rw [Nat.add_mul,Nat.one_mul] at hle
 have hlen:=rowsC_length hg xs
 rcases (crowd_at hR hc hm).blk i _ r hS hi with ⟨h2,_⟩ | ⟨_,_,cs,h3,h4,_⟩
 ·have:=congrArg List.length h2
  rw [hlen] at this
  simp at this; omega
 ·refine ⟨.agg ⟨g a⟩,⟨_,⟨g a⟩,h1,hg.len a,fun j hj=>?_,rfl⟩,⟨g a,rfl,L2.stillA (hg.still a)⟩⟩
  have h5:=rowsC_cell hg hk hj
  rw [← h4,List.getElem?_take,if_pos (by omega),List.getElem?_drop] at h5
  rw [add_none,h3.cellEq,List.getElem?_toArray,← h5]
  congr 1; omega
theorem QY.ldCs {x:Operand} {c q i j o m sz sz':Nat} {ms:List Mem} {r r':Nat × Nat × Nat} {vs ws:List Value} (hx:lv l x=some (.pointer (some ⟨r.1,q,some 0⟩))) (hq:q=o+r.2.1) (hc:L[c]?=some (crowd ms)) (hm:(em,S)∈ms) (hi:em[i]?=some r) (hS:S[i]?=some (.cells sz vs)) (ho:vs[o]?=some (.slice (some ⟨j,0,none⟩) m m)) (hj:em[j]?=some r') (hw:S[j]?=some (.gro sz' ws)) (h0w:m=0→ws=[]) :
  QY P n0 L l (.ld x) (.slice (some ⟨r'.1,r'.2.1,some 0⟩) m (m+r'.2.2)):=by
 intro X w0 E0 w E l' h0 hE hR hl
 obtain ⟨_,h1,h2⟩:=lv_ev hl hx
 have h2:_=Value.pointer (some ⟨r.1,q,none⟩):=h2
 subst h2; subst hq
 have hB:=crowd_at hR hc hm
 obtain ⟨cs,h3,h4,h5,_⟩:=hB.blk i _ r hS hi
 obtain ⟨y,h6,h7⟩:=h4.get ho
 have hlt:=(List.getElem?_eq_some_iff.1 ho).1
 refine ⟨y,⟨_,h1,?_⟩,?_⟩
 ·rw [h3.cellEq,Nat.add_comm]
  rw [List.getElem?_take,if_pos hlt,List.getElem?_drop] at h6
  exact h6
 ·obtain ⟨_,p,hp,h8⟩:=h7
  have hp:em[j]?=some p:=hp
  rw [hj] at hp; cases hp
  have hz:m=0→r'.2.2=0:=fun e=>by
   rcases hB.blk j _ r' hw hj with ⟨_,h⟩ | ⟨h,_⟩
   ·exact h
   ·exact absurd (h0w e) h
  rcases h8 with ⟨a',c',rfl,⟨rfl,rfl⟩ | ⟨e1,_,e3,o',rfl,_⟩⟩ | ⟨e1,_,a',rfl⟩
  ·left
   show _=_
   rw [Nat.zero_add]
  ·right
   exact ⟨e1,by have:=hz e1; omega,⟨_,by rw [e1,e3]⟩⟩
  ·right
   exact ⟨e1,by have:=hz e1; omega,⟨_,rfl⟩⟩
theorem BoxAt.setC {i o sz:Nat} {r:Nat × Nat × Nat} {vs:List Value} {u u':Value} (h:BoxAt em S w) (hi:em[i]?=some r) (hS:S[i]?=some (.cells sz vs)) (hu:SR em u u'):BoxAt em (S.set i (.cells sz (vs.set o u))) (w.setCell ⟨r.1,o+r.2.1,none⟩ u'):=by
 have hR:=h.rep
 obtain ⟨cs,hB,hl2,hle,hz⟩:=h.blk i _ r hS hi
 refine (hR.upd (x:=.cells sz (vs.set o u)) hS hi (Fr.setCell w ⟨r.1,o+r.2.1,none⟩ u') ⟨cs.set (o+r.2.1) u',hB.set _ _,?_,?_,hz⟩ (fun _ h=>.inl h)).boxAt
 ·have h3:=hl2.set o hu
  rw [List.length_set]
  have e:((cs.set (o+r.2.1) u').drop r.2.1).take vs.length=((cs.drop r.2.1).take vs.length).set o u':=by
   rw [List.drop_set,if_neg (by omega),List.take_set]
   congr 1; omega
  rw [e]; exact h3
 ·simp only [List.length_set]; omega
theorem EW.stC {x y:Operand} {c q i o sz:Nat} {ms ms' rest:List Mem} {r:Nat × Nat × Nat} {vs:List Value} {u uo:Value} (hx:lv l x=some (.pointer (some ⟨r.1,q,some 0⟩))) (hq:q=o+r.2.1) (hy:lv l y=some uo) (hu:∀ (E:Emb) (v':Value),VR E uo v'→SR em u v'∧one v'=true)
  (hc:L[c]?=some (crowd ms)) (hm:ms.Perm ((em,S)::rest)) (hm':ms'.Perm ((em,S.set i (.cells sz (vs.set o u)))::rest)) (hi:em[i]?=some r) (hS:S[i]?=some (.cells sz vs)) (ho:o<vs.length) :
  EW P n0 L l (.st x y) (fun w K=>w=undef∧K=L.set c (crowd ms')):=by
 intro X w0 E0 w E l' Kf h0 hE hR hl hK
 obtain ⟨_,h1,h2⟩:=lv_ev hl hx
 have h2:_=Value.pointer (some ⟨r.1,q,none⟩):=h2
 subst h2; subst hq
 obtain ⟨u',h3,h4⟩:=lv_ev hl hy
 obtain ⟨h5,h6⟩:=hu E u' h4
 obtain ⟨rc,hrc⟩:=hR.ent hc
 obtain ⟨g1,g2,_⟩:=hR.blk c _ rc hc hrc
 have g1:CrowdAt ((em,S)::rest) w:=CrowdAt.perm hm g1
 have hB:BoxAt em S w:=g1.all _ (List.mem_cons_self ..)
 have hap:=List.pairwise_cons.1 g1.apart
 obtain ⟨cs,hBl,hl2,hle,_⟩:=hB.blk i _ r hS hi
 have hoc:o+r.2.1<cs.length:=by omega
 have hft:Mem.at (em,S) r.1:=⟨i,_,r,hS,hi,rfl⟩
 have hB2:=hB.setC (o:=o) hi hS h5
 have hF:∀ b,Mem.at (em,S.set i (.cells sz (vs.set o u))) b→Mem.at (em,S) b:=by
  rintro b ⟨k,z,p,hz,hp,hb⟩
  rw [List.getElem?_set] at hz
  split at hz
  ·rename_i e; subst e
   rw [if_pos (List.getElem?_eq_some_iff.1 hS).1] at hz; cases hz
   rw [hi] at hp; cases hp
   exact ⟨i,_,r,hS,hi,hb⟩
  ·exact ⟨k,z,p,hz,hp,hb⟩
 have hfr:=Fr.setCell w ⟨r.1,o+r.2.1,none⟩ u'
 have hCr:CrowdAt rest (w.setCell ⟨r.1,o+r.2.1,none⟩ u'):=CrowdAt.fr (w:=w) ⟨fun m hm=>g1.all m (List.mem_cons_of_mem _ hm),hap.2⟩ hfr fun b ⟨m,h7,h8⟩ e=>by
  have e:b=r.1:=e
  subst e
  exact hap.1 m h7 _ hft h8
 have hC:CrowdAt ms' (w.setCell ⟨r.1,o+r.2.1,none⟩ u'):=CrowdAt.perm hm'.symm ⟨fun m h7=>by
  rcases List.mem_cons.1 h7 with rfl | h7
  ·exact hB2
  ·exact hCr.all m h7,List.pairwise_cons.2 ⟨fun m h7 b h8 h9=>hap.1 m h7 b (hF b h8) h9,hap.2⟩⟩
 refine ⟨_,_,h1,h3,h6,hBl.some hoc,hBl.frozen _,hK _ E _ _ _ ⟨rfl,rfl⟩ (Ext.refl E) (hR.upd hc hrc (hfr.mono fun b _ hb=>?_) (hC.is g2) fun b hb=>?_) VR.undef⟩
 ·have hb:b=r.1:=hb
  subst hb
  exact ⟨(em,S),hm.mem_iff.2 (List.mem_cons_self ..),hft⟩
 ·obtain ⟨m,h7,h8⟩:=hb
  left
  rcases List.mem_cons.1 (hm'.mem_iff.1 h7) with rfl | h7
  ·exact ⟨(em,S),hm.mem_iff.2 (List.mem_cons_self ..),hF b h8⟩
  ·exact ⟨m,hm.mem_iff.2 (List.mem_cons_of_mem _ h7),h8⟩
def ptrV:Option (Nat × Nat × Nat)→Value
 | none=>.pointer none
 | some r=>.pointer (some ⟨r.1,r.2.1,none⟩)
def ptrS:Option (Nat × Nat × Nat)→Value
 | none=>.pointer none
 | some r=>adR r 0
def pRow (ps:List (Option (Nat × Nat × Nat))):LB:=.gro 1 (ps.map ptrV)
theorem ptr_vr (q:Option (Nat × Nat × Nat)):VR E (ptrS q) (ptrV q):=by
 cases q with
 | none=>exact rfl
 | some r =>
  show ptrV (some r)=_
  unfold ptrV
  simp only [Nat.zero_add]
theorem ptr_eq {q:Option (Nat × Nat × Nat)} {v':Value} (h:VR E (ptrS q) v'):v'=ptrV q:=by
 cases q with
 | none=>exact h
 | some r =>
  have h:v'=.pointer (some ⟨r.1,0+r.2.1,none⟩):=h
  rw [h]; unfold ptrV; rw [Nat.zero_add]
theorem ptr_one (q:Option (Nat × Nat × Nat)):one (ptrV q)=true:=by cases q <;> rfl
theorem repC_ptr (n:Nat):repC n [.pointer none]=(List.replicate n none).map ptrV:=by
 induction n with
 | zero=>rfl
 | succ n ih=>simp only [repC,ih,List.replicate_succ,List.map_cons]; rfl
theorem QY.ldP {x:Operand} {b k:Nat} {ps:List (Option (Nat × Nat × Nat))} {q:Option (Nat × Nat × Nat)} {v:Value} (hx:lv l x=some (.pointer (some ⟨b,k*1,none⟩))) (hb:L[b]?=some (pRow ps)) (hk:ps[k]?=some q) (hv:ptrS q=v):QY P n0 L l (.ld x) v:=by
 subst hv
 intro X w0 E0 w E l' h0 hE hR hl
 obtain ⟨_,h1,a',rfl,_,r,hr,rfl⟩:=lv_ev hl hx
 have hlt:=(List.getElem?_eq_some_iff.1 hk).1
 rcases hR.blk b _ r hb hr with ⟨h2,_⟩ | ⟨_,_,cs,h3,h4,_⟩
 ·have:=congrArg List.length h2; simp at this; subst this; simp at hlt
 ·refine ⟨ptrV q,⟨_,h1,?_⟩,ptr_vr q⟩
  rw [h3.cellEq]
  have h5:(ps.map ptrV)[k]?=some (ptrV q):=by rw [List.getElem?_map,hk]; rfl
  rw [← h4,List.getElem?_take,if_pos (by rw [List.length_map]; exact hlt),List.getElem?_drop] at h5
  rw [← h5]
  show cs[k*1+r.2.1]?=_
  congr 1; omega
theorem EW.stP {x y:Operand} {b k:Nat} {ps:List (Option (Nat × Nat × Nat))} {q:Option (Nat × Nat × Nat)} (hx:lv l x=some (.pointer (some ⟨b,k*1,none⟩))) (hy:lv l y=some (ptrS q)) (hb:L[b]?=some (pRow ps)) (hk:k<ps.length) :
  EW P n0 L l (.st x y) (fun w K=>w=undef∧K=L.set b (pRow (ps.set k q))):=by
 intro X w0 E0 w E l' Kf h0 hE hR hl hK
 obtain ⟨_,h1,a',rfl,_,r,hr,rfl⟩:=lv_ev hl hx
 obtain ⟨u',h2,h3⟩:=lv_ev hl hy
 obtain rfl:=ptr_eq h3
 have hml:(ps.map ptrV).length=ps.length:=List.length_map _
 rcases hR.blk b _ r hb hr with ⟨h4,_⟩ | ⟨hne,hsz,cs,hB,hcs,hroom⟩
 ·have:=congrArg List.length h4; simp at this; subst this; simp at hk
 ·have hne2:(ps.set k q).map ptrV≠[]:=by intro e; have:=congrArg List.length e; simp at this; subst this; simp at hk
  have hoc:k*1+r.2.1<cs.length:=by omega
  refine ⟨_,_,h1,h2,ptr_one q,hB.some hoc,hB.frozen _,hK _ E _ _ _ ⟨rfl,rfl⟩ (Ext.refl E) (hR.upd hb hr ?_ (.inr ⟨hne2,hsz,cs.set (k*1+r.2.1) (ptrV q),hB.set _ _,?_,?_⟩) ?_) VR.undef⟩
  ·unfold pRow; rw [gro_foot hne]; exact Fr.setCell w ⟨r.1,k*1+r.2.1,none⟩ _
  ·rw [List.map_set,List.length_set,List.drop_set,if_neg (by omega),List.take_set,hcs]
   congr 1; omega
  ·simp only [List.length_set,List.length_map] at *; exact hroom
  ·unfold pRow; rw [gro_foot hne,gro_foot hne2]; exact fun _ h=>.inl h
theorem EW.appP {o:Oper} {s x:Operand} {sT xT:TypeId} {bytes b bx n:Nat} {ps:List (Option (Nat × Nat × Nat))} (ho:o.op=.call ⟨.builtin .append,⟨[s,x]⟩,⟨[sT,xT]⟩⟩) (ht:appT P sT xT=some (1,bytes))
  (hs:lv l s=some (.slice (some ⟨b,0,none⟩) 0 0)) (hx:lv l x=some (.slice (some ⟨bx,0,none⟩) n n)) (hb:L[b]?=some (.gro 1 [])) (hbx:L[bx]?=some (pRow ps)) (hn:ps.length=n) (hn0:n≠0) (hbd:(2*(0+n)+2048)*bytes≤281474976710656) :
  EW P n0 L l (.raw o) (fun v K=>v=.slice (some ⟨L.length,0,none⟩) n n∧K=L.set b .dead++[pRow ps]):=by
 refine EW.mono (EW.appX (Q:=fun us=>us=ps.map ptrV) (m:=n) ho ht hs hb rfl (by simp) hbd fun X w0 E0 w E l' h0 hE hR hl=>?_) ?_
 ·obtain ⟨vx',h3,h0',r,hr,h4⟩:=lv_ev hl hx
  have hr:E[bx]?=some r:=hr
  have hml:(ps.map ptrV).length=ps.length:=List.length_map _
  rcases hR.blk bx _ r hbx hr with ⟨h5,_⟩ | ⟨_,_,cs,hB,hcs,_⟩
  ·have:=congrArg List.length h5; rw [hml] at this; simp at this; subst this; simp at hn; omega
  refine ⟨vx',_,h3,⟨by rw [hml]; omega,fun u hu=>?_,.inr ?_⟩,rfl⟩
  ·obtain ⟨q,_,rfl⟩:=List.mem_map.1 hu; exact ptr_one q
  ·rcases h4 with ⟨a',c',rfl,⟨rfl,rfl⟩ | ⟨h,_⟩⟩ | ⟨h,_⟩
   ·refine ⟨_,_,rfl,fun j hj=>?_⟩
    rw [add_none,hB.cellEq,← hcs,List.getElem?_take,if_pos (by rw [hml]; omega),List.getElem?_drop]
    show cs[0+r.2.1+j]?=_
    congr 1; omega
   ·exact absurd h hn0
   ·exact absurd h hn0
 ·rintro v K ⟨us,rfl,rfl,rfl⟩
  exact ⟨by rw [Nat.zero_add],rfl⟩
theorem LSt.enter {ss:List Step} {K:Env→LH→Prop} {c N sz:Nat} {ms:List Mem} {vs:List Value} (hlen:L.length=N+1) (hk:L[N]?=some (.cells sz vs)) (hvs:rnB (N+1) [N] (.cells sz vs)=.cells sz vs) (hc:L[c]?=some (crowd ms)) (hcN:c<N)
  (h:∀ r:Nat × Nat × Nat,LSt P n0 ss K (realE N [r] l) [] (((closed (L.take N) [.cells sz vs] [r]).set c (crowd (([r],[.cells sz vs])::ms))).set (N+1) .dead)):LSt P n0 ss K l [] L:=⟨fun X w0 E0 w E l' F h0 hE hR hl hT=>by
 have hM:(L.take N).length=N:=by rw [List.length_take]; omega
 have hL:L=L.take N++unbox (L.take N).length [.cells sz vs]:=by
  unfold unbox
  rw [hM]
  show L=L.take N++[rnB (N+1) [N] (.cells sz vs)]
  rw [hvs]
  apply List.ext_getElem?
  intro i
  by_cases hi:i<N
  ·rw [List.getElem?_append_left (by omega),List.getElem?_take,if_pos hi]
  ·rw [List.getElem?_append_right (by omega),hM]
   by_cases e:i=N
   ·subst e; rw [hk,Nat.sub_self]; rfl
   ·rw [List.getElem?_eq_none (by omega),List.getElem?_eq_none (by simp; omega)]
 rw [hL] at hR
 obtain ⟨g1,g2,g3⟩:=hR.closeR
 rw [hM] at g1 g2 g3
 obtain ⟨r,hr⟩:=List.length_eq_one_iff.1 g3
 rw [hr] at g1 g2
 have hm:((L.take N).map (realB (L.take N).length [r])).length=N:=by rw [List.length_map,hM]
 have q1:(closed (L.take N) [LB.cells sz vs] [r])[c]?=some (crowd ms):=by
  unfold closed
  rw [List.append_assoc,List.getElem?_append_left (by omega),List.getElem?_map,List.getElem?_take,if_pos hcN,hc]
  rfl
 have q2:(closed (L.take N) [LB.cells sz vs] [r])[N+1]?=some (box [r] [.cells sz vs]):=by
  unfold closed
  have e1:((L.take N).map (realB (L.take N).length [r])++List.replicate [LB.cells sz vs].length LB.dead).length=N+1:=by rw [List.length_append,hm]; rfl
  rw [List.getElem?_append_right (by omega),e1,Nat.sub_self]
  rfl
 have g4:=g1.crowdIn (b:=c) (k:=N+1) (by omega) q1 q2
 refine (h r).go X w0 E0 w (E++[(0,0,0)]) l' F h0 (hE.trans (Ext.app E _)) g4 ((hl.ext (Ext.app E _)).real g2) ?_
 cases F with
 | nil=>trivial
 | cons _ _=>exact hT.elim⟩
end
end Go.Tum
end
section
namespace Go.Proofs.YtgfjgfapigekiaaGreat
open Go Go.Tum Go.Tum.Base
set_option maxRecDepth 4000
abbrev Q4:=Nat × Nat × Nat × Nat
def stV (q:Q4):Value:=.slice (some ⟨q.1,q.2.1,some 0⟩) q.2.2.1 q.2.2.2
def curQ (e:RA) (N:Nat):Q4:=(e.1,0+e.2.1,N,N+e.2.2)
abbrev slE (e:RA) (N:Nat):Value:=.slice (some ⟨e.1,0+e.2.1,some 0⟩) N (N+e.2.2)
structure DE where
 o:RA
 s0:RA
 s1:RA
 q:Q4
 t:PS
structure DR where
 man:Nat
 n:Nat
 key:BitVec 64
 e:RA
 g0:RA
 g1:RA
 gq:Q4
 rs:PRows
 bs:Bytes
 dl:List DE
 gl:List RB
def DR.N (d:DR):Nat:=256*d.n
def dfind (dl:List DE) (p:Int):Option DE:=dl.find? fun x=>decide ((x.t.pg:Int)=p)
def psL (dl:List DE) (n:Nat):List (Option RA):=(List.range n).map fun p:Nat=>(dfind dl p).map (·.o)
def DSr (q:Q4) (key:BitVec 64) (n z:Nat) (t:PS):LH:=[.cells 0 [stV q,.int .u64 (key.toNat:Int),.int .i64 t.pg,.int .i64 t.c,slB 1 n,.int .i64 (numS z t.f)],.gro 1 (rowsC intC (stL t n))]
def memO (x:DE):Mem:=([x.o],[.cells 0 [adR x.s0 0,.int .i64 x.t.ow]])
def memD (key:BitVec 64) (x:DE):Mem:=([x.s0,x.s1],DSr x.q key (nC x.t.c) (zC x.t.c) x.t)
def crowdO (dl:List DE):LB:=crowd (dl.map memO)
def crowdD (key:BitVec 64) (dl:List DE):LB:=crowd (dl.map (memD key))
def HSr (q:Q4) (key:BitVec 64) (gl:List RB):LH:=[.cells 0 [stV q,.int .u64 (key.toNat:Int),slB 1 gl.length],.gro 2 (rowsC RB.cells gl)]
def crowdH (key:BitVec 64) (g0 g1:RA) (q:Q4) (gl:List RB):LB:=crowd [([g0,g1],HSr q key gl)]
def DRL (d:DR):LH:=[.cells 0 [.int .i64 d.man,.int .u64 (d.key.toNat:Int),slE d.e d.N,slB 1 d.n,slB 2 d.n,adR d.g0 0],
 .gro 4 (rowsC PRow.cells d.rs),pRow (psL d.dl d.n),crowdO d.dl,crowdD d.key d.dl,box [d.e] [BL d.bs],crowdH d.key d.g0 d.g1 d.gq d.gl]
structure Tie (r:PR) (d:DR):Prop where
 man:d.man=r.man
 n:d.n=r.man+r.mgd
 key:d.key=r.key
 rs:d.rs=r.rs
 bs:d.bs=r.bs
 ts:d.dl.map (·.t)=r.sl.map (·.t)
 gs:(d.gl.map RB.page).Pairwise (· < ·)
 gm:∀ a n:Int,(∃ x∈r.G,x.1=a∧x.2.1=n)↔(⟨a,n⟩:RB)∈d.gl
theorem Tie.get {r:PR} {d:DR} (h:Tie r d) {i:Nat} {x:SE} (hx:r.sl[i]?=some x):∃ y,d.dl[i]?=some y∧y.t=x.t:=by
 have h1:=congrArg (fun l=>l[i]?) h.ts
 simp only [List.getElem?_map,hx,Option.map_some] at h1
 cases e:d.dl[i]? with
 | none=>rw [e] at h1; cases h1
 | some y=>rw [e] at h1; exact ⟨y,rfl,Option.some.inj h1⟩
theorem Tie.find {r:PR} {d:DR} (h:Tie r d) (p:Int):(dfind d.dl p).map (·.t)=(sfind r.sl p).map (·.t):=by
 have h1:∀ {α:Type} (f:α→PS) (l:List α),(l.find? fun x=>decide (((f x).pg:Int)=p)).map f=(l.map f).find? fun t=>decide ((t.pg:Int)=p):=fun f l=>by
  rw [List.find?_map]; rfl
 have e1:=h1 (fun y:DE=>y.t) d.dl
 have e2:=h1 (fun y:SE=>y.t) r.sl
 unfold dfind sfind
 rw [e1,e2,h.ts]
theorem Tie.find_none {r:PR} {d:DR} (h:Tie r d) {p:Int} (hs:sfind r.sl p=none):dfind d.dl p=none:=by
 have:=h.find p
 rw [hs] at this
 cases e:dfind d.dl p with
 | none=>rfl
 | some y=>rw [e] at this; cases this
theorem Tie.find_some {r:PR} {d:DR} (h:Tie r d) {p:Int} {x:SE} (hs:sfind r.sl p=some x):∃ y,dfind d.dl p=some y∧y.t=x.t∧y∈d.dl:=by
 have:=h.find p
 rw [hs] at this
 cases e:dfind d.dl p with
 | none=>rw [e] at this; cases this
 | some y=>rw [e] at this; exact ⟨y,rfl,Option.some.inj this,List.mem_of_find?_eq_some e⟩
theorem psL_get {dl:List DE} {n p:Nat} (hp:p<n):(psL dl n)[p]?=some ((dfind dl p).map (·.o)):=by
 unfold psL
 rw [List.getElem?_map,List.getElem?_range hp]; rfl
theorem psL_len (dl:List DE) (n:Nat):(psL dl n).length=n:=by simp [psL]
end Go.Proofs.YtgfjgfapigekiaaGreat
end
section
namespace Go.Tum.Base
open Go Go.Tum
def goodK (rs:PRows) (lo hi n A:Nat):Prop:=lo≤A∧A+n≤hi∧∀ i,A≤i→i<A+n→freeP (rs.getD i PRow.Z)=true
theorem placeP_spec {rs:PRows} {lo hi n:Nat} (hn:1≤n):∀ {f k c:Nat},k+f=hi→c≤k→lo≤k-c→c<n→(∀ i,k-c≤i→i<k→freeP (rs.getD i PRow.Z)=true)→(∀ B,goodK rs lo hi n B→k-c≤B) →
  (∃ A:Nat,placeP rs n f k c=some (A:Int)∧goodK rs lo hi n A∧∀ B,goodK rs lo hi n B→A≤B)∨(placeP rs n f k c=none∧∀ B,¬ goodK rs lo hi n B)
 | 0,k,c,hk,h1,h2,h3,h4,h5=>.inr ⟨rfl,fun B hB=>by have:=h5 B hB; have:=hB.2.1; omega⟩
 | f+1,k,c,hk,h1,h2,h3,h4,h5=>by
  simp only [placeP]
  by_cases hf:freeP (rs.getD k PRow.Z)=true
  ·rw [if_pos hf]
   by_cases hc:(c:Int)+1=n
   ·rw [if_pos hc]
    left
    refine ⟨k-c,by congr 1; omega,⟨h2,by omega,fun i hi1 hi2=>?_⟩,h5⟩
    by_cases e:i=k
    ·subst e; exact hf
    ·exact h4 i hi1 (by omega)
   ·rw [if_neg hc]
    have:=placeP_spec hn (rs:=rs) (lo:=lo) (hi:=hi) (f:=f) (k:=k+1) (c:=c+1) (by omega) (by omega) (by omega) (by omega) (fun i hi1 hi2=>by
     by_cases e:i=k
     ·subst e; exact hf
     ·exact h4 i (by omega) (by omega)) (fun B hB=>by have:=h5 B hB; omega)
    exact this
  ·rw [if_neg hf,if_neg (by omega)]
   have:=placeP_spec hn (rs:=rs) (lo:=lo) (hi:=hi) (f:=f) (k:=k+1) (c:=0) (by omega) (by omega) (by omega) (by omega) (fun i hi1 hi2=>by omega) (fun B hB=>by
    have h6:=h5 B hB
    rcases Nat.lt_or_ge k B with h7 | h7
    ·omega
    ·exact absurd (hB.2.2 k h7 (by omega)) hf)
   exact this
theorem placeP_first {rs:PRows} {lo hi n:Nat} (hn:1≤n) (hl:lo≤hi):(∃ A:Nat,placeP rs n (hi-lo) lo 0=some (A:Int)∧goodK rs lo hi n A∧∀ B,goodK rs lo hi n B→A≤B)∨(placeP rs n (hi-lo) lo 0=none∧∀ B,¬ goodK rs lo hi n B) :=
 placeP_spec hn (f:=hi-lo) (k:=lo) (c:=0) (by omega) (Nat.zero_le _) (Nat.le_refl _) hn (fun i h1 h2=>by simp at h1; omega) (fun B hB=>hB.1)
def placeI:Option Int→Int
 | some a=>a
 | none => -1
theorem eqFree (r:PRow):([r.kind == 0,r.cls == 0,r.owner == 0,r.run == 0]).all id=freeP r:=by
 obtain ⟨a,b,c,d⟩:=r
 simp only [freeP,PRow.Z,List.all_cons,List.all_nil,id,Bool.and_true]
 rw [Bool.eq_iff_iff]
 simp [PRow.mk.injEq]
def layT (rs:PRows) (a j:Nat):PRows:=rs.take a++List.replicate j tailP++rs.drop (a+j)
theorem layT_length {rs:PRows} {a j:Nat} (h:a+j≤rs.length):(layT rs a j).length=rs.length:=by simp [layT]; omega
theorem layT_snoc {rs:PRows} {a j:Nat} (h:a+j<rs.length):(layT rs a j).set (a+j) tailP=layT rs a (j+1):=by
 have e2:(rs.take a++List.replicate j tailP).length=a+j:=by simp; omega
 have e3:rs.drop (a+j)=rs[a+j]::rs.drop (a+j+1):=List.drop_eq_getElem_cons h
 rw [layT,List.set_append_right _ _ (by omega),e2,Nat.sub_self,e3,List.set_cons_zero,layT,List.append_assoc,List.append_assoc,List.replicate_succ',List.append_assoc]
 rfl
theorem layT_end {rs:PRows} {a m:Nat} {r:PRow} (hm:1≤m) (h:a+m≤rs.length):(layT rs a m).set a r=layP rs a r m:=by
 obtain ⟨m,rfl⟩:∃ k,m=k+1:=⟨m-1,by omega⟩
 have e2:(rs.take a).length=a:=by simp; omega
 rw [layT,layP,List.append_assoc,List.set_append_right _ _ (by omega),e2,Nat.sub_self,List.replicate_succ,List.append_assoc]
 rfl
theorem clearP_snoc {rs:PRows} {a j:Nat} (h:a+j<rs.length):(clearP rs a j).set (a+j) PRow.Z=clearP rs a (j+1):=by
 have e2:(rs.take a++List.replicate j PRow.Z).length=a+j:=by simp; omega
 have e3:rs.drop (a+j)=rs[a+j]::rs.drop (a+j+1):=List.drop_eq_getElem_cons h
 rw [clearP,List.set_append_right _ _ (by omega),e2,Nat.sub_self,e3,List.set_cons_zero,clearP,List.append_assoc,List.append_assoc,List.replicate_succ',List.append_assoc]
 rfl
theorem clearP_zero (rs:PRows) (a:Nat):clearP rs a 0=rs:=by simp [clearP]
theorem layT_zero (rs:PRows) (a:Nat):layT rs a 0=rs:=by simp [layT]
end Go.Tum.Base
namespace Go.Proofs.YtgfjgfapigekiaaGreat
open Go Go.Tum Go.Tum.Base
set_option maxRecDepth 4000
abbrev TB (rs:PRows):LB:=.gro 4 (rowsC PRow.cells rs)
theorem rNew4_tr (n:Nat) (hn:n≤256):Tr Tryz.prog 85 [.int .i64 n] [] (fun v K=>v=slB 0 n∧K=[TB (List.replicate n PRow.Z)]):=by
 refine Tr.of row_tumbrelref04_New_ok rfl ?_
 repeat' (first|refine qN ?_|refine dN ?_|refine qU ?_|refine qL ?_|refine iF (fun h=>?_) (fun h=>?_)|refine qR ?_|refine qS ?_|fail)
 all_goals try (exfalso; omega)
 first|refine L_rs ?_|refine L_reg ?_ | skip
 refine eE rfl rfl (EW.mk (sz:=4) (bytes:=32) (k:=n) (zs:=PRow.Z.cells) rfl (by kernel_rfl) rfl rfl (by omega) (by omega)) ?_
 conv=>whnf
 repeat' (first|refine dN ?_|fail)
 refine L_ret (RetQ.pick [0] rfl rfl rfl rfl ⟨rfl,?_⟩)
 rw [repC_rows PRow.Z]; rfl
theorem rIn4_tr (k lo hi:Int):Tr Tryz.prog 133 [.int .i64 k,.int .i64 lo,.int .i64 hi] [] (fun v K=>v=.bool (decide (lo≤k∧k<hi))∧K=[]):=by
 refine Tr.of row_tumbrelref04_In_ok rfl ?_
 repeat' (first|refine qN ?_|refine dN ?_|refine rT ?_|refine sP 10 (fun h=>?_) (fun h=>?_)|fail)
 all_goals (refine ⟨?_,rfl⟩; first | rfl|exact congrArg (Value.int _) (by (repeat' split) <;> omega)|exact congrArg Value.bool (by (repeat' split) <;> (rw [Bool.eq_iff_iff]; simp; try omega))|exact VT2 (by (repeat' split) <;> omega) (by (repeat' split) <;> first | rfl | omega | (rw [Bool.eq_iff_iff]; simp; try omega)))
set_option maxHeartbeats 2000000 in
theorem rPlace_tr (rs:PRows) (hl:rs.length≤256) (lo hi n:Nat) (hn:1≤n∧n≤256) (h1:lo≤hi) (h2:hi≤rs.length):Tr Tryz.prog 90 [slB 0 rs.length,.int .i64 lo,.int .i64 hi,.int .i64 n] [TB rs] (fun v K=>v=.int .i64 (placeI (placeP rs n (hi-lo) lo 0))∧K=[TB rs]):=by
 obtain ⟨A,hA⟩:∃ A:Option Int,A=placeP rs n (hi-lo) lo 0:=⟨_,rfl⟩
 have hsp:=placeP_first (rs:=rs) hn.1 h1
 rw [← hA] at hsp ⊢
 refine Tr.of row_tumbrelref04_Place_ok rfl ?_
 repeat' (first|refine qN ?_|refine dN ?_|refine qB ?_|refine qS ?_|fail)
 refine LWp.pick [0,1,2,3,13,14] [0] rfl rfl rfl (L_loop (fun q l L=>∃ k:Nat,q=rs.length-k∧k≤rs.length∧(∀ B,goodK rs lo hi n B→k≤B)∧l=[(0,slB 0 rs.length),(1,.int .i64 lo),(2,.int .i64 hi),(3,.int .i64 n),(13,.int .i64 rs.length),(14,.int .i64 k)]∧L=[TB rs]) rs.length ⟨0,rfl,by omega,fun B _=>Nat.zero_le B,rfl,rfl⟩ ?_)
 rintro q _ _ ⟨k,rfl,hk,hmin,rfl,rfl⟩
 first|refine L_seq (L_rs (S_done [] rfl (Nx.goL (iF (fun h=>L_skip (Nx.goL ?_)) (fun h=>L_exit ?_)))))|refine L_rs (S_done [] rfl (Nx.goL (L_seq (iF (fun h=>L_skip (Nx.goL ?_)) (fun h=>L_exit ?_)))))
 ·have hk2:k<rs.length:=by omega
  refine L_seq (L_block ?_)
  repeat' (first|refine qN ?_|refine dN ?_|refine qB ?_|refine aS ?_|refine qS ?_|fail)
  refine LWp.pick [0,1,2,3,9,10,11,13,14] [0] rfl rfl rfl (L_loop (fun q l L=>∃ (i:Nat) (ok:Bool),q=k+n-i∧k≤i∧i≤k+n∧(ok=true→k+n≤rs.length∧∀ j,k≤j→j<i→lo≤j∧j<hi∧freeP (rs.getD j PRow.Z)=true)∧(ok=false→¬ goodK rs lo hi n k)∧l=[(0,slB 0 rs.length),(1,.int .i64 lo),(2,.int .i64 hi),(3,.int .i64 n),(9,.int .i64 k),(10,.bool ok),(11,.int .i64 i),(13,.int .i64 rs.length),(14,.int .i64 k)]∧L=[TB rs]) n ⟨k,decide ((n:Int)≤rs.length-k),by omega,by omega,by omega,fun e=>⟨by have:=of_decide_eq_true e; omega,fun j h1 h2=>by omega⟩,fun e hg=>by have:=of_decide_eq_false e; have:=hg.2.1; omega,rfl,rfl⟩ ?_)
  rintro q _ _ ⟨i,ok,rfl,hi1,hi2,hok1,hok2,rfl,rfl⟩
  cases ok
  ·have hng:=hok2 rfl
   repeat' (first|refine qN ?_|refine dN ?_|refine d0 ?_|refine qU ?_|refine qL ?_|refine qF ?_|refine aA ?_|refine qR ?_|refine qS ?_|fail)
   refine Nx.pick [0,1,2,3,13,14] [0] rfl rfl rfl ⟨rs.length-(k+1),by omega,k+1,rfl,by omega,fun B hB=>?_,rfl,rfl⟩
   have h3:=hmin B hB
   by_cases e:B=k
   ·subst e; exact absurd hB hng
   ·omega
  ·obtain ⟨hkn,hall⟩:=hok1 rfl
   have hI:=rIn4_tr i lo hi
   by_cases hik:i<k+n
   ·have hgi:rs[i]?=some rs[i]:=List.getElem?_eq_getElem (by omega)
    have hgd:rs.getD i PRow.Z=rs[i]:=by rw [List.getD_eq_getElem?_getD,hgi]; rfl
    by_cases hin:lo≤i∧i<hi
    ·rw [decide_eq_true ⟨by omega,by omega⟩] at hI
     repeat' (first|refine qN ?_|refine dN ?_|refine d0 ?_|refine qB ?_|refine qT ?_|refine qL ?_|refine qF ?_|refine iF (fun h=>?_) (fun h=>?_)|refine aX ?_|refine cP [] (hI) ?_|refine S_Q [] rfl rfl (QY.ldRow PRow.ok rfl rfl hgi (by decide)) ?_|refine S_Q [] rfl rfl (QY.eqlS (bs:=[rs[i].kind == 0,rs[i].cls == 0,rs[i].owner == 0,rs[i].run == 0]) rfl rfl rfl (by kernel_rfl)) ?_|refine aA ?_|refine qR ?_|refine qS ?_|fail)
     ·rw [eqFree]
      refine Nx.pick [0,1,2,3,9,10,11,13,14] [0] rfl rfl rfl ⟨k+n-(i+1),by omega,i+1,freeP rs[i],rfl,by omega,by omega,fun e=>⟨hkn,fun j h3 h4=>?_⟩,fun e hg=>?_,rfl,rfl⟩
      ·by_cases e2:j=i
       ·subst e2; exact ⟨hin.1,hin.2,by rw [hgd]; exact e⟩
       ·exact hall j h3 (by omega)
      ·have:=hg.2.2 i hi1 hik
       rw [hgd,e] at this; cases this
     ·exfalso; omega
    ·rw [decide_eq_false (by omega)] at hI
     repeat' (first|refine qN ?_|refine dN ?_|refine d0 ?_|refine qB ?_|refine qT ?_|refine qL ?_|refine qF ?_|refine iF (fun h=>?_) (fun h=>?_)|refine cP [] (hI) ?_|refine aA ?_|refine qR ?_|refine qS ?_|fail)
     ·refine Nx.pick [0,1,2,3,9,10,11,13,14] [0] rfl rfl rfl ⟨k+n-(i+1),by omega,i+1,false,rfl,by omega,by omega,(fun e=>by cases e),fun _ hg=>?_,rfl,rfl⟩
      have:=hg.1
      have:=hg.2.1
      omega
     ·exfalso; omega
   ·obtain rfl:i=k+n:=by omega
    have hg:goodK rs lo hi n k:=⟨(hall k (by omega) (by omega)).1,by have:=(hall (k+n-1) (by omega) (by omega)).2.1; omega,fun j h3 h4=>(hall j h3 h4).2.2⟩
    have hAk:A=some (k:Int):=by
     rcases hsp with ⟨a,h3,h4,h5⟩ | ⟨_,h4⟩
     ·have h6:=h5 k hg
      have h7:=hmin a h4
      rw [h3]; congr 2; omega
     ·exact absurd hg (h4 k)
    rw [hAk]
    repeat' (first|refine qN ?_|refine dN ?_|refine qB ?_|refine rT ?_|refine qT ?_|refine qL ?_|refine qF ?_|refine iF (fun h=>?_) (fun h=>?_)|refine aA ?_|refine qR ?_|refine qS ?_|exact ⟨rfl,rfl⟩|fail)
    exfalso; omega
 ·refine Nx.goL ?_
  have:∀ B,¬ goodK rs lo hi n B:=fun B hB=>by
   have h3:=hmin B hB
   have h4:=hB.2.1
   omega
  rcases hsp with ⟨a,h3,h4,_⟩ | ⟨h3,_⟩
  ·exact absurd h4 (this a)
  ·rw [h3]
   repeat' (first|refine qN ?_|refine dN ?_|refine rT ?_|exact ⟨rfl,rfl⟩|fail)
set_option maxHeartbeats 1000000 in
theorem rLay_tr (rs:PRows) (hl:rs.length≤256) (a m:Nat) (r:PRow) (hr:r.run=m) (hm:1≤m) (h:a+m≤rs.length):Tr Tryz.prog 91 [slB 0 rs.length,.int .i64 a,.agg ⟨r.cells⟩] [TB rs] (fun v K=>v=slB 1 rs.length∧K=[TB rs,TB (layP rs a r m)]):=by
 have hcells:r.cells=[.int .i64 r.kind,.int .i64 r.cls,.int .i64 r.owner,.int .i64 m]:=by rw [← hr]; rfl
 rw [hcells]
 refine Tr.of row_tumbrelref04_Lay_ok rfl ?_
 repeat' (first|refine qN ?_|refine dN ?_|fail)
 refine S_wk [] rfl (wk_gro0 (b:=2) 4 rfl) ?_
 first|refine L_rs ?_|refine L_reg ?_ | skip
 refine eE rfl rfl (EW.appRR (bytes:=32) (xs:=[]) (ys:=rs) PRow.ok rfl (by kernel_rfl) rfl rfl rfl rfl rfl rfl (by decide) (by omega)) ?_
 conv=>whnf
 rw [Nat.zero_add]
 repeat' (first|refine qN ?_|refine dN ?_|refine qB ?_|refine qS ?_|fail)
 refine LWp.pick [1,5,7,8] [0,1,3] rfl rfl rfl (L_loop (fun q l L=>∃ j:Nat,q=m-j∧j≤m∧l=[(1,.int .i64 a),(5,ptr 1),(7,slB 2 rs.length),(8,.int .i64 (a+j:Nat))]∧L=[TB rs,.cells 0 [.int .i64 r.kind,.int .i64 r.cls,.int .i64 r.owner,.int .i64 m],TB (layT rs a j)]) m ⟨0,rfl,by omega,rfl,by rw [layT_zero]; rfl⟩ ?_)
 rintro q _ _ ⟨j,rfl,hj,rfl,rfl⟩
 repeat' (first|refine qN ?_|refine dN ?_|refine qB ?_|refine qL ?_|refine qF ?_|refine iF (fun h=>?_) (fun h=>?_)|refine aX ?_|refine S_Q [] rfl rfl (QY.add (c:=((a+m:Nat):Int)) rfl rfl (by omega) (by omega) (by omega)) ?_|refine qR ?_|refine qS ?_|fail)
 ·first|refine L_rs ?_|refine L_reg ?_ | skip
  refine eE rfl rfl (EW.stRow (k:=a+j) (a:=tailP) PRow.ok rfl rfl rfl (by rw [layT_length (by omega)]; omega) (by decide)) ?_
  conv=>whnf
  rw [layT_snoc (by omega)]
  repeat' (first|refine dN ?_|refine d0 ?_|refine aA ?_|refine qR ?_|fail)
  exact Nx.pick [1,5,7,8] [0,1,2] rfl rfl rfl ⟨m-(j+1),by omega,j+1,rfl,by omega,rfl,rfl⟩
 ·obtain rfl:j=m:=by omega
  repeat' fail
  first|refine L_rs ?_|refine L_reg ?_ | skip
  refine eE rfl rfl (EW.stRow (k:=a) (a:=r) PRow.ok rfl (by rw [hcells]; rfl) rfl (by rw [layT_length (by omega)]; omega) (by decide)) ?_
  conv=>whnf
  rw [layT_end hm (by omega)]
  repeat' (first|refine qN ?_|refine dN ?_|fail)
  exact L_ret (RetQ.pick [0,2] rfl rfl rfl rfl ⟨rfl,rfl⟩)
set_option maxHeartbeats 1000000 in
theorem rClear_tr (rs:PRows) (hl:rs.length≤256) (a m:Nat) (hr:(pAt rs a).run=m) (ha:a<rs.length) (h:a+m≤rs.length):Tr Tryz.prog 99 [slB 0 rs.length,.int .i64 a] [TB rs] (fun v K=>v=slB 1 rs.length∧K=[TB rs,TB (clearP rs a m)]):=by
 have hga:rs[a]?=some rs[a]:=List.getElem?_eq_getElem ha
 have hrun:rs[a].run=m:=by rw [← hr]; unfold pAt; rw [if_neg (by omega),Int.toNat_natCast,List.getD_eq_getElem?_getD,hga]; rfl
 refine Tr.of row_tumbrelref04_Clear_ok rfl ?_
 repeat' (first|refine qN ?_|refine dN ?_|fail)
 refine S_wk [] rfl (wk_gro0 (b:=1) 4 rfl) ?_
 first|refine L_rs ?_|refine L_reg ?_ | skip
 refine eE rfl rfl (EW.appRR (bytes:=32) (xs:=[]) (ys:=rs) PRow.ok rfl (by kernel_rfl) rfl rfl rfl rfl rfl rfl (by decide) (by omega)) ?_
 conv=>whnf
 rw [Nat.zero_add]
 repeat' (first|refine qN ?_|refine dN ?_|refine qB ?_|refine aX ?_|refine S_Q [] rfl rfl (QY.ldF (j:=3) (u:=.int .i64 m) PRow.ok rfl rfl hga (by rw [← hrun]; rfl) rfl) ?_|refine qS ?_|fail)
 refine LWp.pick [1,5,6,7] [0,2] rfl rfl rfl (L_loop (fun q l L=>∃ j:Nat,q=m-j∧j≤m∧l=[(1,.int .i64 a),(5,slB 1 rs.length),(6,.int .i64 m),(7,.int .i64 (a+j:Nat))]∧L=[TB rs,TB (clearP rs a j)]) m ⟨0,rfl,by omega,rfl,by rw [clearP_zero]; rfl⟩ ?_)
 rintro q _ _ ⟨j,rfl,hj,rfl,rfl⟩
 repeat' (first|refine qN ?_|refine dN ?_|refine qB ?_|refine qL ?_|refine qF ?_|refine iF (fun h=>?_) (fun h=>?_)|refine aX ?_|refine S_Q [] rfl rfl (QY.add (c:=((a+m:Nat):Int)) rfl rfl (by omega) (by omega) (by omega)) ?_|refine qR ?_|refine qS ?_|fail)
 ·first|refine L_rs ?_|refine L_reg ?_ | skip
  refine eE rfl rfl (EW.stRow (k:=a+j) (a:=PRow.Z) PRow.ok rfl rfl rfl (by rw [clearP_length (by omega)]; omega) (by decide)) ?_
  conv=>whnf
  rw [clearP_snoc (by omega)]
  repeat' (first|refine dN ?_|refine d0 ?_|refine aA ?_|refine qR ?_|fail)
  exact Nx.pick [1,5,6,7] [0,1] rfl rfl rfl ⟨m-(j+1),by omega,j+1,rfl,by omega,rfl,rfl⟩
 ·obtain rfl:j=m:=by omega
  exact L_ret (RetQ.pick [0,1] rfl rfl rfl rfl ⟨rfl,rfl⟩)
theorem rKey_tr (x:BitVec 64):Tr Tryz.prog 84 [.int .u64 (x.toNat:Int)] [] (fun v K=>v=.int .u64 ((keyW x).toNat:Int)∧K=[]):=by
 have h:=rMix_tr (x+0x9E3779B97F4A7C15#64)
 refine Tr.of row_tumbrelref06_Key_ok rfl ?_
 repeat' (first|refine qN ?_|refine dN ?_|refine rT ?_|refine S_Q [] rfl rfl (QY.addW (b:=0x9E3779B97F4A7C15#64) rfl rfl) ?_|refine cP [] (h) ?_|exact ⟨rfl,rfl⟩|fail)
end Go.Proofs.YtgfjgfapigekiaaGreat
end
section
namespace Go.Proofs.YtgfjgfapigekiaaGreat
open Go Go.Tum Go.Tum.Base
set_option maxRecDepth 4000
section
variable {r:PR} {d:DR}
theorem memO_in {y:DE} (h:y∈d.dl):(([y.o],[.cells 0 [adR y.s0 0,.int .i64 y.t.ow]]):Mem)∈d.dl.map memO:=List.mem_map_of_mem h
theorem memD_in {y:DE} (h:y∈d.dl):(([y.s0,y.s1],DSr y.q d.key (nC y.t.c) (zC y.t.c) y.t):Mem)∈d.dl.map (memD d.key):=List.mem_map_of_mem h
theorem psL_no {p:Nat} (hp:p<d.n) (h:dfind d.dl p=none):(psL d.dl d.n)[p]?=some none:=by rw [psL_get hp,h]; rfl
theorem psL_at {p:Nat} (hp:p<d.n) {y:DE} (h:dfind d.dl p=some y):(psL d.dl d.n)[p]?=some (some y.o):=by rw [psL_get hp,h]; rfl
end
theorem dOwner_no (r:PR) (d:DR) (ok:r.Ok) (tie:Tie r d) (a:Int) (h:a<0∨(d.N:Int)≤a∨dfind d.dl (a / 256)=none):Tr Tryz.prog 52 [ptr 0,.int .i64 a] (DRL d) (fun v K=>v=.int .i64 (-1)∧K=DRL d):=by
 have hn:=ok.n2
 have hdn:=tie.n
 have hN:d.N=256*d.n:=rfl
 by_cases h0:a<0∨(d.N:Int)≤a
 ·refine Tr.of row_tumbrelref09_Region_Owner_ok rfl ?_
  repeat' (first|refine qN ?_|refine dN ?_|refine rT ?_|refine qT ?_|refine aD ?_|refine sP 7 (fun h=>?_) (fun h=>?_)|refine sP 16 (fun h=>?_) (fun h=>?_)|refine qS ?_|exact ⟨rfl,rfl⟩|fail)
  all_goals (exfalso; omega)
 ·obtain ⟨m,rfl⟩:=Int.eq_ofNat_of_zero_le (show 0≤a by omega)
  have hf:dfind d.dl ((m / 256:Nat):Int)=none:=by
   rw [show ((m / 256:Nat):Int)=(m:Int) / 256 by omega]
   rcases h with h | h | h
   ·omega
   ·omega
   ·exact h
  have hP:=psL_no (d:=d) (p:=m / 256) (by omega) hf
  refine Tr.of row_tumbrelref09_Region_Owner_ok rfl ?_
  repeat' (first|refine qN ?_|refine dN ?_|refine rT ?_|refine qT ?_|refine aX ?_|refine S_Q [] rfl rfl (QY.divN (c:=((m / 256:Nat):Int)) rfl rfl (by omega) (by omega) (by omega)) ?_|refine S_Q [] rfl rfl (QY.ldP (k:=m / 256) (v:=.pointer none) rfl rfl hP rfl) ?_|refine sP 7 (fun h=>?_) (fun h=>?_)|refine sP 16 (fun h=>?_) (fun h=>?_)|refine qS ?_|exact ⟨rfl,rfl⟩|fail)
  all_goals (exfalso; omega)
theorem dOwner_at (r:PR) (d:DR) (ok:r.Ok) (tie:Tie r d) (m:Nat) (hm:(m:Int)<d.N) (y:DE) (hy:dfind d.dl ((m / 256:Nat):Int)=some y):Tr Tryz.prog 52 [ptr 0,.int .i64 m] (DRL d) (fun v K=>v=.int .i64 y.t.ow∧K=DRL d):=by
 have hn:=ok.n2
 have hdn:=tie.n
 have hN:d.N=256*d.n:=rfl
 have hP:=psL_at (d:=d) (p:=m / 256) (by omega) hy
 have hO:=memO_in (List.mem_of_find?_eq_some hy)
 refine Tr.of row_tumbrelref09_Region_Owner_ok rfl ?_
 repeat' (first|refine qN ?_|refine dN ?_|refine rT ?_|refine qT ?_|refine qU ?_|refine qL ?_|refine aX ?_|refine S_Q [] rfl rfl (QY.divN (c:=((m / 256:Nat):Int)) rfl rfl (by omega) (by omega) (by omega)) ?_|refine S_Q [] rfl rfl (QY.ldP (k:=m / 256) (v:=adR y.o 0) rfl rfl hP rfl) ?_|refine S_Q [] rfl rfl (QY.fldR rfl) ?_|refine S_Q [] rfl rfl (QY.ldCi (r:=y.o) (i:=0) (c:=3) (o:=1) rfl (by omega) rfl hO rfl rfl rfl) ?_|refine sP 7 (fun h=>?_) (fun h=>?_)|refine sP 16 (fun h=>?_) (fun h=>?_)|refine qS ?_|exact ⟨rfl,rfl⟩|fail)
 all_goals (exfalso; omega)
def placeT (t:PS) (k:Nat):Pl:=⟨t.pg,k,baseN t.pg (zC t.c) k,(zC t.c:Int)-8,t.st k,false⟩
theorem Tie.sok {r:PR} {d:DR} (ok:r.Ok) (tie:Tie r d) {y:DE} (hy:y∈d.dl):∃ x∈r.sl,x.t=y.t∧SOk r.man x:=by
 have:y.t∈d.dl.map (·.t):=List.mem_map_of_mem hy
 rw [tie.ts] at this
 obtain ⟨x,hx,e⟩:=List.mem_map.1 this
 exact ⟨x,hx,e,ok.sok x hx⟩
theorem dfind_pg {dl:List DE} {p:Int} {y:DE} (h:dfind dl p=some y):(y.t.pg:Int)=p:=by
 have:=List.find?_some h
 simpa using this
theorem dPlace_tr (r:PR) (d:DR) (ok:r.Ok) (tie:Tie r d) (p k:Nat) (y:DE) (hy:dfind d.dl p=some y) (hk:k<nC y.t.c):Tr Tryz.prog 107 [ptr 0,.int .i64 p,.int .i64 k] (DRL d) (fun v K=>v=.agg ⟨(placeT y.t k).cells⟩∧K=DRL d):=by
 have hn:=ok.n2
 have hdn:=tie.n
 have hmy:=List.mem_of_find?_eq_some hy
 obtain ⟨x,hx,ht,hs⟩:=Tie.sok ok tie hmy
 have hpg:y.t.pg=p:=by have:=dfind_pg hy; omega
 have hcl:=hs.cls
 have hpm:=hs.pg
 rw [ht] at hcl hpm
 have hb:=hcl.bd
 obtain ⟨b1,b2,b3,b4,b5,b6,b7⟩:=hcl.base hk y.t.pg
 have hP:=psL_at (d:=d) (p:=p) (by omega) hy
 have hO:=memO_in hmy
 have hD:=memD_in hmy
 have hZ:=dSize_tr y.t.c
 rw [hcl.size] at hZ
 have hg:(rowsC intC (stL y.t (nC y.t.c)))[k]?=some (.int .i64 (y.t.st k)):=by rw [rowsI_get,stL_get _ hk]; rfl
 have hne:nC y.t.c=0→rowsC intC (stL y.t (nC y.t.c))=[]:=fun e=>by omega
 have hE:(placeT y.t k).cells=[.int .i64 p,.int .i64 k,.int .i64 (baseN y.t.pg (zC y.t.c) k),.int .i64 ((zC y.t.c:Int)-8),.int .i64 (y.t.st k),.bool false]:=by
  unfold placeT Pl.cells
  simp only [hpg]
 rw [hE]
 refine Tr.of row_tumbrelref09_Region_place_ok rfl ?_
 repeat' (first|refine qN ?_|refine dN ?_|refine rT ?_|refine aX ?_|refine S_Q [] rfl rfl (QY.ldP (k:=p) (v:=adR y.o 0) rfl rfl hP rfl) ?_|refine S_Q [] rfl rfl (QY.fldR rfl) ?_|refine S_Q [] rfl rfl (QY.ldCa (r:=y.o) (i:=0) (c:=3) (o:=0) rfl (by omega) rfl hO rfl rfl rfl) ?_|refine S_Q [] rfl rfl (QY.ldCi (r:=y.s0) (i:=0) (c:=4) (o:=3) rfl (by omega) rfl hD rfl rfl rfl) ?_|refine cP [] (hZ) ?_|refine S_Q [] rfl rfl (QY.mul (c:=((256*p:Nat):Int)) rfl rfl (by omega) (by omega) (by omega)) ?_|refine S_Q [] rfl rfl (QY.mul (c:=((zC y.t.c*k:Nat):Int)) rfl rfl (by rw [Int.natCast_mul]) (by omega) (by omega)) ?_|refine S_Q [] rfl rfl (QY.add (c:=((baseN y.t.pg (zC y.t.c) k:Nat):Int)) rfl rfl (by omega) (by omega) (by omega)) ?_|refine S_Q [] rfl rfl (QY.ldCs (r:=y.s0) (r':=y.s1) (i:=0) (j:=1) (c:=4) (o:=4) rfl (by omega) rfl hD rfl rfl rfl rfl rfl hne) ?_|refine S_Q [] rfl rfl (QY.idxR (k:=k) rfl rfl hk) ?_|refine S_Q [] rfl rfl (QY.ldCg (r:=y.s1) (k:=k) (i:=1) (c:=4) rfl (by omega) rfl hD rfl rfl hg rfl) ?_|refine aS ?_|exact ⟨rfl,rfl⟩|fail)
theorem gin_gl {r:PR} {d:DR} (tie:Tie r d) {p:Int} (h:∀ b∈d.gl,¬ (b.page≤p∧p<b.page+pagesC b.n)):gin r.G p=none:=by
 cases e:gin r.G p with
 | none=>rfl
 | some x =>
  obtain ⟨h1,h2⟩:=gin_some e
  exact absurd h2 (h ⟨x.1,x.2.1⟩ ((tie.gm x.1 x.2.1).1 ⟨x,h1,rfl,rfl⟩))
theorem gin_hit {r:PR} {d:DR} (ok:r.Ok) (tie:Tie r d) {p:Int} {b:RB} (hb:b∈d.gl) (hp:b.page≤p∧p<b.page+pagesC b.n):(gin r.G p).map placeG=some ⟨b.page,0,256*b.page,b.n,1,true⟩:=by
 obtain ⟨x,hx,h1,h2⟩:=(tie.gm b.page b.n).2 hb
 rw [gin_mem ok.gap hx (by rw [h1,h2]; exact hp)]
 simp [placeG,h1,h2]
theorem gl_bd {r:PR} {d:DR} (ok:r.Ok) (tie:Tie r d) {b:RB} (hb:b∈d.gl):GbOk r.man (b.page,b.n,0):=by
 obtain ⟨x,hx,h1,h2⟩:=(tie.gm b.page b.n).2 hb
 have h:=ok.gok x hx
 exact ⟨by rw [← h2]; exact h.gr,by rw [← h1]; exact h.lo,by rw [← h1,← h2]; exact h.hi⟩
theorem gl_len {r:PR} {d:DR} (ok:r.Ok) (tie:Tie r d):d.gl.length≤256:=by
 have hs:=tie.gs
 have key:∀ (l:List Int) (m:Nat) (lo:Int),l.Pairwise (· < ·)→(∀ x∈l,lo≤x∧x<lo+m)→l.length≤m:=by
  intro l
  induction l with
  | nil=>intro m lo _ _; simp
  | cons a q ih =>
   intro m lo h1 h2
   obtain ⟨h3,h4⟩:=List.pairwise_cons.1 h1
   have h5:=h2 a (List.mem_cons_self ..)
   have:=ih (m-1) (lo+1) h4 (fun x hx=>by have:=h2 x (List.mem_cons_of_mem _ hx); have:=h3 x hx; omega)
   simp only [List.length_cons]; omega
 have:=key (d.gl.map RB.page) 256 0 hs (fun x hx=>by
  obtain ⟨b,hb,rfl⟩:=List.mem_map.1 hx
  have h:=gl_bd ok tie hb
  have h1:=h.lo
  have h2:=h.hi
  obtain ⟨M,h3,h4,_⟩:=greatC_pages h.gr
  simp only at h1 h2 h3
  have:=ok.n2
  omega)
 rwa [List.length_map] at this
theorem hin_H (d:DR):(([d.g0,d.g1],HSr d.gq d.key d.gl):Mem)∈[(([d.g0,d.g1],HSr d.gq d.key d.gl):Mem)]:=List.mem_singleton.2 rfl
set_option maxHeartbeats 2000000 in
theorem dFind_tr (r:PR) (d:DR) (ok:r.Ok) (tie:Tie r d) (a:Int):Tr Tryz.prog 47 [ptr 0,.int .i64 a] (DRL d) (fun v K=>v=Pl.val (r.find a)∧K=DRL d):=by
 have hn:=ok.n2
 have hdn:=tie.n
 have hN:d.N=256*d.n:=rfl
 have hrN:r.N=256*(r.man+r.mgd):=rfl
 unfold PR.find
 by_cases h0:a<0∨(r.N:Int)≤a
 ·rw [if_pos h0]
  refine Tr.of row_tumbrelref09_Region_Find_ok rfl ?_
  repeat' (first|refine qN ?_|refine dN ?_|refine rT ?_|refine qT ?_|refine qL ?_|refine iF (fun h=>?_) (fun h=>?_)|refine aD ?_|refine sP 13 (fun h=>?_) (fun h=>?_)|refine qS ?_|exact ⟨rfl,rfl⟩|fail)
  all_goals (exfalso; omega)
 rw [if_neg h0]
 obtain ⟨m,rfl⟩:=Int.eq_ofNat_of_zero_le (show 0≤a by omega)
 have hq:((m:Int) / 256)=((m / 256:Nat):Int):=by omega
 rw [hq]
 cases hs:sfind r.sl ((m / 256:Nat):Int) with
 | some x =>
  obtain ⟨y,hy,hyt,hmy⟩:=tie.find_some hs
  obtain ⟨_,_,hxm,_⟩:=sfind_some hs
  have hx:=ok.sok x hxm
  have hcl:=hx.cls
  rw [← hyt] at hcl
  have hb:=hcl.bd
  have hZ:=dSize_tr y.t.c
  rw [hcl.size] at hZ
  have hP:=psL_at (d:=d) (p:=m / 256) (by omega) hy
  have hO:=memO_in hmy
  have hD:=memD_in hmy
  have hlt:m % 256 / zC y.t.c<nC y.t.c:=by
   rcases hcl.is with ⟨_,h4,h5⟩ | ⟨_,h4,h5⟩ | ⟨_,h4,h5⟩ | ⟨_,h4,h5⟩ <;> rw [h4,h5] <;> omega
  have hPl:=dPlace_tr r d ok tie (m / 256) (m % 256 / zC y.t.c) y hy hlt
  have hdv:((m % 256:Nat):Int) / (zC y.t.c:Int)=((m % 256 / zC y.t.c:Nat):Int):=by rw [Int.natCast_ediv]
  have hdb:m % 256 / zC y.t.c≤256:=by omega
  have hE:Pl.val (some (placeS x ((m:Int).toNat % 256 / zC x.t.c)))=.tuple ⟨[.agg ⟨(placeT y.t (m % 256 / zC y.t.c)).cells⟩,.bool true]⟩:=by
   rw [Int.toNat_natCast,hyt]; rfl
  simp only
  rw [hE]
  generalize m % 256 / zC y.t.c=kk at *
  refine Tr.of row_tumbrelref09_Region_Find_ok rfl ?_
  repeat' (first|refine qN ?_|refine dN ?_|refine rT ?_|refine qT ?_|refine qL ?_|refine iF (fun h=>?_) (fun h=>?_)|refine aX ?_|refine S_Q [] rfl rfl (QY.divN (c:=((m / 256:Nat):Int)) rfl rfl (by omega) (by omega) (by omega)) ?_|refine S_Q [] rfl rfl (QY.ldP (k:=m / 256) (v:=adR y.o 0) rfl rfl hP rfl) ?_|refine S_Q [] rfl rfl (QY.fldR rfl) ?_|refine S_Q [] rfl rfl (QY.ldCa (r:=y.o) (i:=0) (c:=3) (o:=0) rfl (by omega) rfl hO rfl rfl rfl) ?_|refine S_Q [] rfl rfl (QY.ldCi (r:=y.s0) (i:=0) (c:=4) (o:=3) rfl (by omega) rfl hD rfl rfl rfl) ?_|refine cP [] (hZ) ?_|refine S_Q [] rfl rfl (QY.remN (c:=((m % 256:Nat):Int)) rfl rfl (by omega) (by omega) (by omega)) ?_|refine S_Q [] rfl rfl (QY.divN (c:=(kk:Int)) rfl rfl hdv (by omega) (by omega)) ?_|refine cP [0,1,2,3,4,5,6] (hPl) ?_|refine qS ?_|exact ⟨rfl,rfl⟩|fail)
  all_goals (exfalso; omega)
 | none =>
  have hP:=psL_no (d:=d) (p:=m / 256) (by omega) (tie.find_none hs)
  simp only
  have hgl:=gl_len ok tie
  have hH:=hin_H d
  have hne:d.gl.length=0→rowsC RB.cells d.gl=[]:=fun e=>by rw [List.eq_nil_of_length_eq_zero e]; rfl
  refine Tr.of row_tumbrelref09_Region_Find_ok rfl ?_
  repeat' (first|refine qN ?_|refine dN ?_|refine qB ?_|refine rT ?_|refine qU ?_|refine qL ?_|refine iF (fun h=>?_) (fun h=>?_)|refine aX ?_|refine S_Q [] rfl rfl (QY.divN (c:=((m / 256:Nat):Int)) rfl rfl (by omega) (by omega) (by omega)) ?_|refine S_Q [] rfl rfl (QY.ldP (k:=m / 256) (v:=.pointer none) rfl rfl hP rfl) ?_|refine S_Q [] rfl rfl (QY.fldR rfl) ?_|refine S_Q [] rfl rfl (QY.ldCs (r:=d.g0) (r':=d.g1) (i:=0) (j:=1) (c:=6) (o:=2) rfl (by omega) rfl hH rfl rfl rfl rfl rfl hne) ?_|refine qS ?_|fail)
  all_goals try (exfalso; omega)
  refine LWp.pick [4,6,61,62,63] [0,1,2,3,4,5,6,7] rfl rfl rfl (L_loop (fun q l K=>∃ k:Nat,q=d.gl.length-k∧k≤d.gl.length∧(∀ (j:Nat) (b:RB),j<k→d.gl[j]?=some b→¬ (b.page≤((m / 256:Nat):Int)∧((m / 256:Nat):Int)<b.page+pagesC b.n))∧l=[(4,ptr 7),(6,.int .i64 (m / 256:Nat)),(61,.slice (some ⟨d.g1.1,d.g1.2.1,some 0⟩) d.gl.length (d.gl.length+d.g1.2.2)),(62,.int .i64 d.gl.length),(63,.int .i64 k)]∧K=DRL d++[.cells 0 Pl.Z.cells]) d.gl.length ⟨0,rfl,by omega,by intro j b hj; omega,rfl,rfl⟩ ?_)
  rintro q _ _ ⟨k,rfl,hk,hno,rfl,rfl⟩
  first|refine L_seq (L_rs (S_done [] rfl (Nx.goL (iF (fun h=>L_skip (Nx.goL ?_)) (fun h=>L_exit ?_)))))|refine L_rs (S_done [] rfl (Nx.goL (L_seq (iF (fun h=>L_skip (Nx.goL ?_)) (fun h=>L_exit ?_)))))
  ·have hk2:k<d.gl.length:=by omega
   obtain ⟨b,hb⟩:∃ b,d.gl[k]?=some b:=⟨_,List.getElem?_eq_getElem hk2⟩
   have hmb:=List.mem_of_getElem? hb
   have hbd:=gl_bd ok tie hmb
   have hlo:=hbd.lo
   have hhi:=hbd.hi
   simp only at hlo hhi
   have hPg:=rPages_tr b.n
   have hpb:=pagesC_bd b.n
   by_cases hin:b.page≤((m / 256:Nat):Int)∧((m / 256:Nat):Int)<b.page+pagesC b.n
   ·rw [show Pl.val ((gin r.G ((m / 256:Nat):Int)).map placeG)=.tuple ⟨[.agg ⟨[.int .i64 b.page,.int .i64 0,.int .i64 (256*b.page),.int .i64 b.n,.int .i64 1,.bool true]⟩,.bool true]⟩ by rw [gin_hit ok tie hmb hin]; rfl]
    repeat' (first|refine qN ?_|refine dN ?_|refine d0 ?_|refine qB ?_|refine rT ?_|refine qU ?_|refine qL ?_|refine iF (fun h=>?_) (fun h=>?_)|refine S_Q [] rfl rfl (QY.idxR (k:=k) rfl rfl hk2) ?_|refine S_Q [] rfl rfl (QY.ldnCg (r:=d.g1) (k:=k) (i:=1) (c:=6) RB.ok rfl (by omega) rfl hH rfl rfl hb (by decide)) ?_|refine cP [] (hPg) ?_|refine aA ?_|refine aM ?_|refine sP 71 (fun h=>?_) (fun h=>?_)|refine qR ?_|refine qS ?_|exact ⟨rfl,rfl⟩|fail)
    all_goals (exfalso; omega)
   ·have hno':∀ (j:Nat) (b:RB),j<k+1→d.gl[j]?=some b→¬ (b.page≤((m / 256:Nat):Int)∧((m / 256:Nat):Int)<b.page+pagesC b.n):=fun j c hj hc=>by
     by_cases e:j=k
     ·subst e; rw [hb] at hc; cases hc; exact hin
     ·exact hno j c (by omega) hc
    repeat' (first|refine qN ?_|refine dN ?_|refine d0 ?_|refine qB ?_|refine rT ?_|refine qU ?_|refine qL ?_|refine iF (fun h=>?_) (fun h=>?_)|refine S_Q [] rfl rfl (QY.idxR (k:=k) rfl rfl hk2) ?_|refine S_Q [] rfl rfl (QY.ldnCg (r:=d.g1) (k:=k) (i:=1) (c:=6) RB.ok rfl (by omega) rfl hH rfl rfl hb (by decide)) ?_|refine cP [] (hPg) ?_|refine aA ?_|refine aM ?_|refine sP 71 (fun h=>?_) (fun h=>?_)|refine qR ?_|refine qS ?_|fail)
    all_goals first | (exfalso; omega)|exact Nx.pick [4,6,61,62,63] [0,1,2,3,4,5,6,7] rfl rfl rfl ⟨d.gl.length-(k+1),by omega,k+1,rfl,by omega,hno',rfl,rfl⟩
  ·obtain rfl:k=d.gl.length:=by omega
   refine Nx.goL ?_
   rw [gin_gl tie fun b hb=>by
    obtain ⟨j,hj⟩:=List.mem_iff_getElem?.1 hb
    exact hno j b (List.getElem?_eq_some_iff.1 hj).1 hj]
   repeat' (first|refine qN ?_|refine dN ?_|refine rT ?_|exact ⟨rfl,rfl⟩|fail)
end Go.Proofs.YtgfjgfapigekiaaGreat
end
