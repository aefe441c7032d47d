/-
  What the proof leans on, part 9: of the texts TaI, Lw44, TaJ, Lw45, Lw46, TaK, TaL, TnB, Lw47, FlowNil.
-/
import Derived.Test.YtblibdfcnplfhaaGreatPkH
set_option linter.unusedVariables false
set_option linter.unusedSimpArgs false
set_option linter.unusedSectionVars false
section
namespace Go.Proofs.YtblibdfcnplfhaaGreat
open Go Go.Tum Go.Tum.Base
set_option maxRecDepth 20000
theorem flNote_full (r:PR) (b0:Nat) (G:GS) (c:Nat) (rs:List Rp) (hr:¬ rs.length<4096) (hr2:rs.length≤1000000) (th a f:Int) (hf:f≠0):Tr Tryz.prog 102 [ptr 8,.int .i64 th,.int .i64 a,.int .i64 f] (FL r b0 G c rs) (fun v K=>v=.tuple ⟨[]⟩∧K=FL r b0 G c rs):=by
 refine Tr.of Ro22 rfl ?_
 repeat' (first|refine qN ?_|refine dN ?_|refine dR ?_|refine d0 ?_|refine rT ?_|refine qT ?_|refine qU ?_|refine qL ?_|refine qK ?_|refine iF (fun h=>?_) (fun h=>?_)|refine aI (hn:=?_)|refine sP 10 (fun h=>?_) (fun h=>?_)|refine sP 14 (fun h=>?_) (fun h=>?_)|refine qR ?_|refine qS ?_|exact ⟨rfl,rfl⟩|fail)
 all_goals try (exfalso; omega)
 all_goals exact RetQ.end [0,1,2,3,4,5,6,7,8,9] rfl rfl rfl rfl ⟨rfl,rfl⟩
def noteP (rs:List Rp) (x:Rp):List Rp:=if rs.length<4096 then rs++[x] else rs
theorem note_tr (r:PR) (b0:Nat) (G:GS) (c:Nat) (rs:List Rp) (hr2:rs.length≤1000000) (th a f:Int) (hf:f≠0):TrK Tryz.prog [] [0,1,2,3,4,5,6,7,8] 102 [ptr 8,.int .i64 th,.int .i64 a,.int .i64 f] (FL r b0 G c rs) (fun v K=>v=.tuple ⟨[]⟩∧K=FL r b0 G c (noteP rs ⟨th,a,f⟩)):=by
 unfold noteP
 by_cases hr:rs.length<4096
 ·rw [if_pos hr]; exact flNote_tr r b0 G c rs hr th a f hf
 ·rw [if_neg hr]; exact TrK.fewer (flNote_full r b0 G c rs hr hr2 th a f hf) rfl
set_option maxRecDepth 4000
def lookN (o:Int) (t:Nat):Option Nat:=if o=t then some fKeep else if o = -1 then none else some fPost
inductive EvLook (k:TK) (p:PS):TK × PS→Prop
 | bad (hf:faultV p.r p.G k.arg≠0):EvLook k p (⟨k.t,k.arg,none,k.at_,faultV p.r p.G k.arg,p.now⟩,{ p with rs:=noteP p.rs ⟨k.t,k.arg,faultV p.r p.G k.arg⟩ })
 | ok {w:Bool} {e:Int} {r':PR} (hf:faultV p.r p.G k.arg=0) (h:EvDrop p.r k.arg w e r'):EvLook k p (⟨k.t,k.arg,lookN (p.r.own k.arg) k.t,k.at_,0,p.now⟩,{ p with r:=r',G:=(dropG r' p.G p.c k.arg).1,c:=(dropG r' p.G p.c k.arg).2 })
theorem fault_range {r:PR} {G:GS} {a:Int} (h:faultV r G a=0):0≤a∧a<r.N:=by
 unfold faultV at h
 split at h
 ·cases h
 ·omega
theorem look_tr (k:TK) (g:Nat) (hk:k.nx=some g) (p:PS) (ok:p.r.Ok) (hrs:p.rs.length≤1000000):TrK Tryz.prog [] [0,1,2,3,4,5,6,7,8,9,10,12,13,14] 56 [ptr 0] (TPL k p) (fun v K=>∃ s,EvLook k p s∧v=.tuple ⟨[]⟩∧K=TPL s.1 s.2):=by
 have hC:=tCounts_tr k p
 have hF:=flFault_tr p.r ok p.b0 p.G p.c p.rs k.arg
 by_cases hf:faultV p.r p.G k.arg=0
 ·have ha:=fault_range hf
  have hN:(p.r.N:Int)≤65536:=by have:=ok.n2; unfold PR.N; omega
  have hO:=pOwner ok k.arg (by omega)
  obtain ⟨w,e,hD⟩:=pDrop ok k.arg
  have hDr:=fun r' (h:EvDrop p.r k.arg w e r')=>flDrop r' (h.stp.ok ok) p.b0 p.G p.c p.rs k.arg
  obtain ⟨kt,ka,nx,kat,kf,km⟩:=k
  obtain rfl:nx=some g:=hk
  simp only at hf hO hD hF
  rw [hf] at hF
  generalize ho:p.r.own ka=o at hO
  refine Tr.of Ro121 rfl ?_
  repeat' (first|refine qN ?_|refine dN ?_|refine d0 ?_|refine qB ?_|refine qT ?_|refine qU ?_|refine qL ?_|refine qK ?_|refine iF (fun h=>?_) (fun h=>?_)|(refine cF [0,1,2,3,4,5,6,7,8,9,10,11,12,13,14] (hC) ?_; conv=>whnf)|refine cP [2,3,4,5,6,7,8,9,10,11] (hF) ?_|refine cP [2,3,4,5,6,7,8] (hO) ?_|refine aI (hn:=?_)|refine qR ?_|refine qS ?_|exact ⟨rfl,rfl⟩|fail)
  refine cX (ι:=PR) (C:=EvDrop p.r ka w e) (V:=fun _=>.tuple ⟨[.bool w,.int .i64 e]⟩) (B:=fun r'=>RPL r') [2,3,4,5,6,7,8] hD (fun r' hr=>?_)
  conv=>whnf
  have hDr':=hDr r' hr
  clear hDr
  repeat' (first|refine qN ?_|refine dN ?_|refine d0 ?_|refine qB ?_|refine qT ?_|refine qU ?_|refine qL ?_|refine qK ?_|refine iF (fun h=>?_) (fun h=>?_)|(refine cF [2,3,4,5,6,7,8,9,10,11] (hDr') ?_; conv=>whnf)|refine aI (hn:=?_)|refine qR ?_|refine qS ?_|exact ⟨rfl,rfl⟩|fail)
  ·have hE:=EvLook.ok (k:=⟨kt,ka,some g,kat,kf,km⟩) hf hr
   have e:lookN (p.r.own ka) kt=some fKeep:=by unfold lookN; rw [ho,if_pos h]
   simp only [e] at hE
   exact RetQ.end [0,1,2,3,4,5,6,7,8,9,10,11,12,13,14] rfl rfl rfl rfl ⟨_,hE,rfl,rfl⟩
  ·rename_i h1
   have hE:=EvLook.ok (k:=⟨kt,ka,some g,kat,kf,km⟩) hf hr
   have e:lookN (p.r.own ka) kt=some fPost:=by unfold lookN; rw [ho,if_neg h1,if_neg h]
   simp only [e] at hE
   exact RetQ.end [0,1,2,3,4,5,6,7,8,9,10,11,12,13,14] rfl rfl rfl rfl ⟨_,hE,rfl,rfl⟩
  ·rename_i h1
   have hE:=EvLook.ok (k:=⟨kt,ka,some g,kat,kf,km⟩) hf hr
   have e:lookN (p.r.own ka) kt=none:=by unfold lookN; rw [ho,if_neg h1,if_pos (Classical.not_not.1 h)]
   simp only [e] at hE
   exact RetQ.end [0,1,2,3,4,5,6,7,8,9,10,11,12,13,14] rfl rfl rfl rfl ⟨_,hE,rfl,rfl⟩
 ·have hN:=note_tr p.r p.b0 p.G p.c p.rs hrs k.t k.arg _ hf
  obtain ⟨kt,ka,nx,kat,kf,km⟩:=k
  obtain rfl:nx=some g:=hk
  simp only at hf hF hN
  have hE:=EvLook.bad (k:=⟨kt,ka,some g,kat,kf,km⟩) hf
  simp only at hE
  generalize faultV p.r p.G ka=fv at hf hF hN hE
  refine Tr.of Ro121 rfl ?_
  repeat' (first|refine qN ?_|refine dN ?_|refine d0 ?_|refine qB ?_|refine qT ?_|refine qU ?_|refine qL ?_|refine qK ?_|refine iF (fun h=>?_) (fun h=>?_)|(refine cF [0,1,2,3,4,5,6,7,8,9,10,11,12,13,14] (hC) ?_; conv=>whnf)|refine cP [2,3,4,5,6,7,8,9,10,11] (hF) ?_|(refine cW [2,3,4,5,6,7,8,9,10,11] (hN) ?_; conv=>whnf)|refine aI (hn:=?_)|refine qR ?_|refine qS ?_|exact ⟨rfl,rfl⟩|fail)
  ·exact L_ret (RetQ.pick [0,1,2,3,4,5,6,7,8,9,10,11,12,13,14] rfl rfl rfl rfl ⟨_,hE,rfl,rfl⟩)
  ·exact absurd hf (by assumption)
inductive EvKeep (k:TK) (p:PS):TK × PS→Prop
 | mk {p':PS} (h:EvSettle k.t p k.arg p'):EvKeep k p (k.nxt none,p')
theorem keep_tr (k:TK) (g:Nat) (hk:k.nx=some g) (p:PS) {n j:Nat} (ok:p.Ok n j) (hn:k.t<n):Tr Tryz.prog 106 [ptr 0] (TPL k p) (fun v K=>∃ s,EvKeep k p s∧v=.tuple ⟨[]⟩∧K=TPL s.1 s.2):=by
 have hS:=settle_tr (k.nxt none) p ok hn k.arg
 obtain ⟨kt,ka,nx,kat,kf,km⟩:=k
 obtain rfl:nx=some g:=hk
 refine Tr.of Ro119 rfl ?_
 repeat' (first|refine qN ?_|refine dN ?_|refine d0 ?_|refine aI (hn:=?_)|refine qR ?_|refine qS ?_|exact ⟨rfl,rfl⟩|fail)
 refine cX (ι:=PS) (C:=EvSettle kt p ka) (V:=fun _=>.tuple ⟨[]⟩) (B:=fun p'=>TPL ⟨kt,ka,none,kat,kf,km⟩ p') [0,1,2,3,4,5,6,7,8,9,10,11,12,13,14] hS (fun p' hs=>?_)
 conv=>whnf
 repeat' (first|refine qN ?_|refine dN ?_|refine d0 ?_|refine aI (hn:=?_)|refine qR ?_|refine qS ?_|exact ⟨rfl,rfl⟩|fail)
 exact RetQ.end [0,1,2,3,4,5,6,7,8,9,10,11,12,13,14] rfl rfl rfl rfl ⟨_,.mk hs,rfl,rfl⟩
inductive EvPost (k:TK) (p:PS):TK × PS→Prop
 | ok {G':Nat→Prop} (h:0≤p.r.own k.arg∧p.r.own k.arg<p.ml.n∧p.r.own k.arg≠k.t):EvPost k p (k.nxt none,p.mail (p.ml.post k.t (p.r.own k.arg) k.arg) G')
 | no (h:¬ (0≤p.r.own k.arg∧p.r.own k.arg<p.ml.n∧p.r.own k.arg≠k.t)):EvPost k p (k.nxt none,p)
theorem post_tr (k:TK) (g:Nat) (hk:k.nx=some g) (p:PS) {n j:Nat} (ok:p.Ok n j) (hn:k.t<n) (hj:j≤1000000) (ha:k.arg<9223372036854775808):Tr Tryz.prog 107 [ptr 0] (TPL k p) (fun v K=>∃ s,EvPost k p s∧v=.tuple ⟨[]⟩∧K=TPL s.1 s.2):=by
 have hO:=pOwner ok.r k.arg ha
 have hmn:=ok.mn
 have hsm:=ok.m.small hj
 by_cases h:0≤p.r.own k.arg∧p.r.own k.arg<p.ml.n∧p.r.own k.arg≠k.t
 ·have hP:Tr Tryz.prog 153 [ptr 0,.int .i64 k.t,.int .i64 (p.r.own k.arg),.int .i64 k.arg] [MB p.ml p.mg] (fun v K=>∃ G':Nat→Prop,True∧v=.int .i64 0∧K=[MB (p.ml.post k.t (p.r.own k.arg) k.arg) G']) :=
   Tr.mono (mPost_ok p.ml hsm p.mg k.t (p.r.own k.arg) k.arg (by omega) (by omega) (by omega)) (by rintro _ _ ⟨rfl,G',rfl⟩; exact ⟨G',trivial,rfl,rfl⟩)
  have hE:=fun G'=>EvPost.ok (G':=G') h
  obtain ⟨kt,ka,nx,kat,kf,km⟩:=k
  obtain rfl:nx=some g:=hk
  simp only at hO hP hE
  generalize p.r.own ka=o at hO hP hE
  refine Tr.of Ro124 rfl ?_
  repeat' (first|refine qN ?_|refine dN ?_|refine d0 ?_|refine cP [2,3,4,5,6,7,8] (hO) ?_|refine aI (hn:=?_)|refine qR ?_|refine qS ?_|exact ⟨rfl,rfl⟩|fail)
  refine cX (ι:=Nat→Prop) (C:=fun _=>True) (V:=fun _=>.int .i64 0) (B:=fun G'=>[MB (p.ml.post kt o ka) G']) [12] hP (fun G' _=>?_)
  conv=>whnf
  repeat' (first|refine qN ?_|refine dN ?_|refine d0 ?_|refine aI (hn:=?_)|refine qR ?_|refine qS ?_|exact ⟨rfl,rfl⟩|fail)
  exact RetQ.end [0,1,2,3,4,5,6,7,8,9,10,11,12,13,14] rfl rfl rfl rfl ⟨_,hE G',rfl,rfl⟩
 ·have hP:=mPost_no p.ml p.mg k.t (p.r.own k.arg) k.arg (fun q=>h ⟨q.2.1.1,q.2.1.2,fun e=>q.2.2 e.symm⟩)
  have hE:=EvPost.no h
  obtain ⟨kt,ka,nx,kat,kf,km⟩:=k
  obtain rfl:nx=some g:=hk
  simp only at hO hP hE
  generalize p.r.own ka=o at hO hP hE
  refine Tr.of Ro124 rfl ?_
  repeat' (first|refine qN ?_|refine dN ?_|refine d0 ?_|refine cP [2,3,4,5,6,7,8] (hO) ?_|refine cP [12] (hP) ?_|refine aI (hn:=?_)|refine qR ?_|refine qS ?_|exact ⟨rfl,rfl⟩|fail)
  exact RetQ.end [0,1,2,3,4,5,6,7,8,9,10,11,12,13,14] rfl rfl rfl rfl ⟨_,hE,rfl,rfl⟩
end Go.Proofs.YtblibdfcnplfhaaGreat
end
section
namespace Go.Tum
open Go
section
variable {P:Program} {n0:NA} {l l1:Env} {L L1 Lc:LH} {T T1:Taken} {K:Env→LH→Prop} {ss r:List Step} {d:Option Nat} {g:Option (Nat × Bool)} {pend:List Nat}
theorem cVX {ι:Type} {V V2:ι→Value} {B K2:ι→LH} {C:ι→Prop} {keep:List Nat} {f:FuncId} {x:Operand} {args:List Operand} {a c vs us:List Value} (φ:List Nat) (ht:TrK P [] keep f us Lc (fun v K=>∃ i,C i∧v=V i∧K=B i)) (hn:∀ i,C i→nE (dpush d (V2 i) l1) fun l=>nL (K2 i) fun L=>LSt P n0 r K l T1 L) (h:arun [] ss l T L=(.e d g (.callv x args) pend::r,l1,T1,L1):=by exact rfl) (hg:gw g l1=some true:=by exact rfl)
  (hx:lv l1 x=some (.func (.func f) ⟨a⟩ ⟨c⟩):=by exact rfl) (hv:lvs l1 args=some vs:=by exact rfl) (he:us.map (rnV L1.length φ)=a++vs++c:=by exact rfl) (h1:φ.Nodup:=by decide) (h2:partL L1 φ φ Lc:=by repeat' (first|exact trivial|refine ⟨rfl,?_⟩ | fail)) (hm:nmL (dropped keep 0 φ) φ 0 L1=true:=by kernel_rfl) (h3:∀ i,rnV (L1.length+(B i).length) (phi2 φ L1.length (B i)) (V i)=V2 i:=by exact fun _=>rfl) (h4:∀ i,joinQ φ L1 (B i)=K2 i:=by exact fun _=>rfl)
  (h5:disj (dropped keep 0 φ) n0.keep=true:=by kernel_rfl) (h6:nmE (dropped keep 0 φ) l1=true:=by kernel_rfl) (h7:nmT (dropped keep 0 φ) T1=true:=by kernel_rfl)
  (hc:∀ i,chkG P n0 φ T1 L1 (K2 i) pend:=by intro _; repeat' (first|exact trivial|refine ⟨.inl rfl,?_⟩|refine ⟨.inr ⟨qsafe_ok (st:=[]) rfl,Sure.of rfl⟩,?_⟩ | fail)):LSt P n0 ss K l T L :=
 S_Ed [] h hg ((EWd.callv φ ht hx hv he (Part.of h1 h2) handed_nil hm).mono fun v K ⟨_,_,⟨i,hi,e1,e2⟩,e3,e4⟩=>(by subst e1; subst e2; exact ⟨i,hi,e3.trans (h3 i),e4.trans ((joinQ_eq h1).trans (h4 i))⟩:∃ i,C i∧v=V2 i∧K=K2 i)) h5 h6 h7 (by rintro _ _ ⟨i,hi,rfl,rfl⟩; exact ⟨hc i,LSt.nf (hn i hi)⟩)
end
def funT (P:Program) (t:TypeId):Bool:=match P.underlying t with
 | some (.func _ _ _)=>true
 | _=>false
theorem nilF_run {P:Program} {t:TypeId} {w:World} (ht:funT P t=true):(Op.equal t .nilFunc .nilFunc).run P w=.ok true w:=by
 unfold funT at ht
 split at ht
 ·rename_i e1 e2 e3 hu
  unfold Op.equal Op.maxDepth
  unfold Op.equalIn
  simp only [Sem.run_bind,run_underlying hu,Result.andThen_ok]
  rfl
 ·cases ht
theorem someF_run {P:Program} {t:TypeId} {f:Fn} {a c:Array Value} {w:World} (ht:funT P t=true):(Op.equal t (.func f a c) .nilFunc).run P w=.ok false w:=by
 unfold funT at ht
 split at ht
 ·rename_i e1 e2 e3 hu
  unfold Op.equal Op.maxDepth
  unfold Op.equalIn
  simp only [Sem.run_bind,run_underlying hu,Result.andThen_ok]
  rfl
 ·cases ht
section
variable {P:Program} {n0:NA} {l:Env} {L:LH}
theorem QY.nilFn {o:Oper} {t ty:TypeId} {x:Operand} (ho:o.op=.binOp .eql t x (.const .nilFunc) ty) (ht:funT P t=true) (hx:lv l x=some .nilFunc):QY P n0 L l (.raw o) (.bool true):=by
 intro X w0 E0 w E l' _ hE hR hl
 obtain ⟨vx,h1,h2⟩:=lv_ev hl hx
 have h2:vx=.nilFunc:=h2
 subst h2
 obtain ⟨d,op,ty',pos,af,g⟩:=o
 simp only at ho
 subst ho
 refine ⟨_,fun ρ w1 ha hs1=>?_,rfl⟩
 have hc:ρ (.const .nilFunc)=.nilFunc:=ha _ _ rfl
 simp [execOp,ha x _ h1,hc,eqGuard,binOp,nilF_run ht]
theorem QY.someFn {o:Oper} {t ty:TypeId} {x:Operand} {f:Fn} {a c:List Value} (ho:o.op=.binOp .eql t x (.const .nilFunc) ty) (ht:funT P t=true) (hx:lv l x=some (.func f ⟨a⟩ ⟨c⟩)):QY P n0 L l (.raw o) (.bool false):=by
 intro X w0 E0 w E l' _ hE hR hl
 obtain ⟨vx,h1,h2⟩:=lv_ev hl hx
 obtain ⟨a',c',rfl,_⟩:=h2
 obtain ⟨d,op,ty',pos,af,g⟩:=o
 simp only at ho
 subst ho
 refine ⟨_,fun ρ w1 ha hs1=>?_,rfl⟩
 have hc:ρ (.const .nilFunc)=.nilFunc:=ha _ _ rfl
 simp [execOp,ha x _ h1,hc,eqGuard,binOp,someF_run ht]
end
end Go.Tum
end
section
namespace Go.Proofs.YtblibdfcnplfhaaGreat
open Go Go.Tum Go.Tum.Base
set_option maxRecDepth 4000
def PS.tick (p:PS):PS:={ p with now:=p.now+1 }
inductive EvGo (k:TK) (p:PS):TK × PS→Prop
 | drain {s:TK × PS} (hk:k.nx=some fDrain) (h:EvDrain k p s):EvGo k p s
 | take {s:TK × PS} (hk:k.nx=some fTake) (h:EvTk k p s):EvGo k p s
 | opn {s:TK × PS} (hk:k.nx=some fOpen) (h:EvOp k p s):EvGo k p s
 | spill {s:TK × PS} (hk:k.nx=some fSpill) (h:EvSpill k p s):EvGo k p s
 | trim {s:TK × PS} (hk:k.nx=some fTrim) (h:EvTrim k p s):EvGo k p s
 | look {s:TK × PS} (hk:k.nx=some fLook) (h:EvLook k p s):EvGo k p s
 | keep {s:TK × PS} (hk:k.nx=some fKeep) (h:EvKeep k p s):EvGo k p s
 | post {s:TK × PS} (hk:k.nx=some fPost) (h:EvPost k p s):EvGo k p s
def nxs:List Nat:=[fDrain,fTake,fOpen,fSpill,fTrim,fLook,fKeep,fPost]
structure TK.Ok (k:TK) (n:Nat):Prop where
 t:k.t<n
 a:k.arg<9223372036854775808
 nx:∀ g,k.nx=some g→g∈nxs
theorem go_tr (k:TK) (g:Nat) (hk:k.nx=some g) (p:PS) {n j:Nat} (ok:p.Ok n j) (kok:k.Ok n) (hj:j≤1000000):TrK Tryz.prog [] [0,1,2,3,4,5,6,7,8,9,10,12,13,14] g [ptr 0] (TPL k p) (fun v K=>∃ s,EvGo k p s∧v=.tuple ⟨[]⟩∧K=TPL s.1 s.2):=by
 have hg:=kok.nx g hk
 unfold nxs at hg
 simp only [List.mem_cons,List.not_mem_nil,or_false] at hg
 have hrs:=ok.rs
 rcases hg with rfl | rfl | rfl | rfl | rfl | rfl | rfl | rfl
 ·exact TrK.fewer (Tr.mono (drain_tr k _ hk p ok kok.t) (by rintro _ _ ⟨s,hs,rfl,rfl⟩; exact ⟨s,.drain hk hs,rfl,rfl⟩)) rfl
 ·exact TrK.fewer (Tr.mono (take_tr k _ hk p ok.r) (by rintro _ _ ⟨s,hs,rfl,rfl⟩; exact ⟨s,.take hk hs,rfl,rfl⟩)) rfl
 ·exact TrK.fewer (Tr.mono (open_tr k _ hk p ok.r) (by rintro _ _ ⟨s,hs,rfl,rfl⟩; exact ⟨s,.opn hk hs,rfl,rfl⟩)) rfl
 ·exact TrK.fewer (Tr.mono (spill_tr k _ hk p ok kok.t) (by rintro _ _ ⟨s,hs,rfl,rfl⟩; exact ⟨s,.spill hk hs,rfl,rfl⟩)) rfl
 ·exact TrK.fewer (Tr.mono (trim_tr k _ hk p ok.r) (by rintro _ _ ⟨s,hs,rfl,rfl⟩; exact ⟨s,.trim hk hs,rfl,rfl⟩)) rfl
 ·exact TrK.fewer (Tr.mono (look_tr k _ hk p ok.r (by omega)) (by rintro _ _ ⟨s,hs,rfl,rfl⟩; exact ⟨s,.look hk hs,rfl,rfl⟩)) rfl
 ·exact TrK.fewer (Tr.mono (keep_tr k _ hk p ok kok.t) (by rintro _ _ ⟨s,hs,rfl,rfl⟩; exact ⟨s,.keep hk hs,rfl,rfl⟩)) rfl
 ·exact TrK.fewer (Tr.mono (post_tr k _ hk p ok kok.t hj kok.a) (by rintro _ _ ⟨s,hs,rfl,rfl⟩; exact ⟨s,.post hk hs,rfl,rfl⟩)) rfl
theorem tDone_tr (k:TK) (p:PS):Tr Tryz.prog 18 [ptr 0] (TPL k p) (fun v K=>v=.bool k.nx.isNone∧K=TPL k p):=by
 obtain ⟨kt,ka,nx,kat,kf,km⟩:=k
 refine Tr.of Ro112 rfl ?_
 cases nx
 ·repeat' (first|refine qN ?_|refine dN ?_|refine d0 ?_|refine S_Q [] rfl rfl (QY.nilFn rfl (by kernel_rfl) rfl) ?_|refine aI (hn:=?_)|refine sP 5 (fun h=>?_) (fun h=>?_)|refine qR ?_|refine qS ?_|exact ⟨rfl,rfl⟩|fail)
  exact L_ret (RetQ.pick [0,1,2,3,4,5,6,7,8,9,10,11,12,13,14] rfl rfl rfl rfl ⟨rfl,rfl⟩)
 ·repeat' (first|refine qN ?_|refine dN ?_|refine d0 ?_|refine S_Q [] rfl rfl (QY.someFn rfl (by kernel_rfl) rfl) ?_|refine aI (hn:=?_)|refine sP 5 (fun h=>?_) (fun h=>?_)|refine qR ?_|refine qS ?_|exact ⟨rfl,rfl⟩|fail)
  exact L_ret (RetQ.pick [0,1,2,3,4,5,6,7,8,9,10,11,12,13,14] rfl rfl rfl rfl ⟨rfl,rfl⟩)
theorem tAt_tr (k:TK) (p:PS):Tr Tryz.prog 35 [ptr 0] (TPL k p) (fun v K=>v=.int .i64 k.at_∧K=TPL k p):=by
 obtain ⟨kt,ka,nx,kat,kf,km⟩:=k
 refine Tr.of Ro111 rfl ?_
 cases nx <;> repeat' (first|refine qN ?_|refine dN ?_|refine dR ?_|refine d0 ?_|refine rT ?_|refine qT ?_|refine qU ?_|refine qL ?_|refine qK ?_|refine iF (fun h=>?_) (fun h=>?_)|refine aI (hn:=?_)|refine qR ?_|refine qS ?_|exact ⟨rfl,rfl⟩|fail)
theorem tFault_tr (k:TK) (p:PS):Tr Tryz.prog 17 [ptr 0] (TPL k p) (fun v K=>v=.int .i64 k.f∧K=TPL k p):=by
 obtain ⟨kt,ka,nx,kat,kf,km⟩:=k
 refine Tr.of Ro113 rfl ?_
 cases nx <;> repeat' (first|refine qN ?_|refine dN ?_|refine dR ?_|refine d0 ?_|refine rT ?_|refine qT ?_|refine qU ?_|refine qL ?_|refine qK ?_|refine iF (fun h=>?_) (fun h=>?_)|refine aI (hn:=?_)|refine qR ?_|refine qS ?_|exact ⟨rfl,rfl⟩|fail)
theorem tMoment_tr (k:TK) (p:PS):Tr Tryz.prog 24 [ptr 0] (TPL k p) (fun v K=>v=.int .i64 k.mo∧K=TPL k p):=by
 obtain ⟨kt,ka,nx,kat,kf,km⟩:=k
 refine Tr.of Ro114 rfl ?_
 cases nx <;> repeat' (first|refine qN ?_|refine dN ?_|refine dR ?_|refine d0 ?_|refine rT ?_|refine qT ?_|refine qU ?_|refine qL ?_|refine qK ?_|refine iF (fun h=>?_) (fun h=>?_)|refine aI (hn:=?_)|refine qR ?_|refine qS ?_|exact ⟨rfl,rfl⟩|fail)
theorem tStep_tr (k:TK) (g:Nat) (hk:k.nx=some g) (p:PS) {n j:Nat} (ok:p.Ok n j) (kok:k.Ok n) (hj:j≤1000000) (hnow:p.now≤1000000):TrK Tryz.prog [] [0,1,2,3,4,5,6,7,8,9,10,12,13,14] 16 [ptr 0] (TPL k p) (fun v K=>∃ s,EvGo k p.tick s∧v=.bool s.1.nx.isNone∧K=TPL s.1 s.2):=by
 have hD:=tDone_tr k p
 have hG:=go_tr k g hk p.tick (n:=n) (j:=j) ⟨ok.r,ok.q,ok.m,ok.qn,ok.mn,ok.n1,by show 0≤p.now+1; have:=ok.now; omega,ok.rs⟩ kok hj
 have hD2:=tDone_tr
 have hnow0:=ok.now
 obtain ⟨kt,ka,nx,kat,kf,km⟩:=k
 obtain rfl:nx=some g:=hk
 refine Tr.of Ro115 rfl ?_
 repeat' (first|refine qN ?_|refine dN ?_|refine d0 ?_|refine qT ?_|refine qU ?_|refine qL ?_|refine qK ?_|refine iF (fun h=>?_) (fun h=>?_)|refine cP [0,1,2,3,4,5,6,7,8,9,10,11,12,13,14] (hD) ?_|refine aA ?_|refine aI (hn:=?_)|refine qR ?_|refine qS ?_|exact ⟨rfl,rfl⟩|fail)
 repeat' (first|refine qN ?_|refine dN ?_|refine d0 ?_|refine qT ?_|refine qU ?_|refine qL ?_|refine qK ?_|refine iF (fun h=>?_) (fun h=>?_)|refine aA ?_|refine aI (hn:=?_)|refine qR ?_|refine qS ?_|exact ⟨rfl,rfl⟩|fail)
 refine cVX (ι:=TK × PS) (C:=EvGo _ p.tick) (V:=fun _=>.tuple ⟨[]⟩) (B:=fun s=>TPL s.1 s.2) [0,1,2,3,4,5,6,7,8,9,10,11,12,13,14] hG (fun s hs=>?_)
 conv=>whnf
 have hD3:=hD2 s.1 s.2
 obtain ⟨⟨kt',ka',nx',kat',kf',km'⟩,p'⟩:=s
 cases nx'
 ·repeat' (first|refine qN ?_|refine dN ?_|refine d0 ?_|refine qT ?_|refine qU ?_|refine qL ?_|refine qK ?_|refine iF (fun h=>?_) (fun h=>?_)|refine cP [0,1,2,3,4,5,6,7,8,9,10,11,12,13,14] (hD3) ?_|refine aA ?_|refine aI (hn:=?_)|refine qR ?_|refine qS ?_|exact ⟨rfl,rfl⟩|fail)
  exact L_ret (RetQ.pick [0,1,2,3,4,5,6,7,8,9,10,11,12,13,14] rfl rfl rfl rfl ⟨_,hs,rfl,rfl⟩)
 ·repeat' (first|refine qN ?_|refine dN ?_|refine d0 ?_|refine qT ?_|refine qU ?_|refine qL ?_|refine qK ?_|refine iF (fun h=>?_) (fun h=>?_)|refine cP [0,1,2,3,4,5,6,7,8,9,10,11,12,13,14] (hD3) ?_|refine aA ?_|refine aI (hn:=?_)|refine qR ?_|refine qS ?_|exact ⟨rfl,rfl⟩|fail)
  exact L_ret (RetQ.pick [0,1,2,3,4,5,6,7,8,9,10,11,12,13,14] rfl rfl rfl rfl ⟨_,hs,rfl,rfl⟩)
end Go.Proofs.YtblibdfcnplfhaaGreat
end
section
namespace Go.Tum
open Go
def rawQ2 (P:Program):RawQ:=fun L l o =>
 match o.op with
 | .binOp .eql t x (.const .nilFunc) _=>bif funT P t then (match lv l x with
  | some .nilFunc=>some (.bool true)
  | some (.func _ _ _)=>some (.bool false)
  | _=>none) else none
 | _=>rawQ1 P L l o
theorem rawQ2_ok (P:Program):RawOk P (rawQ2 P):=by
 intro X w0 w E L l l' o v h hR hl
 unfold rawQ2 at h
 split at h
 ·rename_i t x ty hop
  cases ht:funT P t
  ·rw [ht] at h; cases h
  rw [ht] at h
  simp only [cond_true] at h
  obtain ⟨d,op,ty',pos,af,g⟩:=o
  simp only at hop
  subst hop
  split at h <;> first | (cases h; done) | skip
  ·rename_i hx
   cases h
   obtain ⟨vx,h1,h2⟩:=lv_ev hl hx
   have h2:vx=.nilFunc:=h2
   subst h2
   refine ⟨_,fun ρ w1 ha hs1=>?_,rfl⟩
   have hc:ρ (.const .nilFunc)=.nilFunc:=ha _ _ rfl
   simp [execOp,ha x _ h1,hc,eqGuard,binOp,nilF_run ht]
  ·rename_i f a c hx
   cases h
   obtain ⟨vx,h1,h2⟩:=lv_ev hl hx
   obtain ⟨a⟩:=a
   obtain ⟨c⟩:=c
   obtain ⟨a',c',rfl,_⟩:=h2
   refine ⟨_,fun ρ w1 ha hs1=>?_,rfl⟩
   have hc:ρ (.const .nilFunc)=.nilFunc:=ha _ _ rfl
   simp [execOp,ha x _ h1,hc,eqGuard,binOp,someF_run ht]
 ·exact rawQ1_ok P _ _ _ _ _ _ _ _ _ h hR hl
end Go.Tum
end
section
namespace Go.Tum
open Go
section
variable {P:Program} {n0:NA} {l:Env} {L:LH} {Q:Exit→Env→LH→Prop}
theorem crowdNil (w:World):CrowdAt [] w:=⟨fun m hm=>by simp at hm,List.Pairwise.nil⟩
theorem More.crowd0:More L (L++[crowd []]):=⟨by simp,fun X w0 E w h=>⟨E++[(0,0,0)],Ext.push E _,h.push (Fr.refl _ _) (fun _ hb=>by obtain ⟨m,hm,_⟩:=hb; simp at hm) ((crowdNil w).is rfl)⟩⟩
theorem LWp.crowd0 {m:MC} (h:LWp P n0 m Q l (L++[crowd []])):LWp P n0 m Q l L:=h.more More.crowd0
theorem TrK.born {f:FuncId} {vs:List Value} {x:LB} {ms:List Mem} (ht:TrK P [] [] f vs [] (fun v K=>v=.pointer (some ⟨0,0,none⟩)∧K=[x])) (hv:vs.map (rnV 1 [])=vs) (h1:rnB 2 [1] x=x) (h2:rnB 2 (phi2 [] 1 [x]) x=x) :
  TrK P [] [0] f vs [crowd ms] (fun v K=>∃ e:Nat × Nat × Nat,True∧v=adR e 0∧K=[crowd (([e],[x])::ms),.dead,.dead]):=by
 have hf:TrK P [] [0] f vs [crowd ms] (fun v K=>v=.pointer (some ⟨1,0,none⟩)∧K=[crowd ms]++unbox 1 [x]):=by
  refine TrK.frame (L:=[crowd ms]) (keep2:=[0]) [] ht hv .nil trivial rfl rfl ?_ rfl
  show [crowd ms]++[rnB 2 (phi2 [] 1 [x]) x]=[crowd ms]++[rnB 2 [1] x]
  rw [h1,h2]
 have hc:=TrK.closeR (M:=[crowd ms]) (Ls:=[x]) (R:=fun v K=>∃ e:Nat × Nat × Nat,v=adR e 0∧K=[crowd ms,.dead,box [e] [x]]) hf (fun Es he=>by
  obtain ⟨e,rfl⟩:=List.length_eq_one_iff.1 he
  exact ⟨e,rfl,rfl⟩)
 refine TrK.post hc ?_
 rintro v K ⟨e,rfl,rfl⟩
 exact ⟨_,More.in (b:=0) (k:=2) (by decide) rfl rfl,e,trivial,rfl,rfl⟩
theorem EW.appP1 {o:Oper} {s x:Operand} {sT xT:TypeId} {bytes b bx n:Nat} {ps:List (Option (Nat × Nat × Nat))} {e:Nat × Nat × Nat} (ho:o.op=.call ⟨.builtin .append,⟨[s,x]⟩,⟨[sT,xT]⟩⟩) (ht:appT P sT xT=some (1,bytes))
  (hs:lv l s=some (.slice (some ⟨b,0,none⟩) n n)) (hx:lv l x=some (.slice (some ⟨bx,0,none⟩) 1 1)) (hb:L[b]?=some (pRow ps)) (hbx:L[bx]?=some (.cells 0 [adR e 0])) (hn:ps.length=n) (hbd:(2*(n+1)+2048)*bytes≤281474976710656) :
  EW P n0 L l (.raw o) (fun v K=>v=.slice (some ⟨L.length,0,none⟩) (n+1) (n+1)∧K=L.set b .dead++[pRow (ps++[some e])]):=by
 refine EW.mono (EW.appX (Q:=fun us=>us=[ptrV (some e)]) (m:=1) ho ht hs hb (by rw [List.length_map,hn,Nat.mul_one]) (fun u hu=>by obtain ⟨q,_,rfl⟩:=List.mem_map.1 hu; exact ptr_one q) hbd fun X w0 E0 w E l' h0 hE hR hl=>?_) ?_
 ·obtain ⟨vx',h3,h0',r,hr,h4⟩:=lv_ev hl hx
  obtain ⟨cs,hB,hcs,hle,_⟩:=hR.blk bx _ r hbx hr
  refine ⟨vx',_,h3,⟨rfl,fun u hu=>(by rw [List.mem_singleton] at hu; subst hu; exact ptr_one _),.inr ?_⟩,rfl⟩
  rcases h4 with ⟨a',c',rfl,⟨rfl,rfl⟩ | ⟨h,_⟩⟩ | ⟨h,_⟩
  ·refine ⟨_,_,rfl,fun j hj=>?_⟩
   have hj:j<1:=hj
   obtain rfl:j=0:=by omega
   rw [add_none,hB.cellEq]
   show cs[0+r.2.1+0]?=some (ptrV (some e))
   obtain ⟨u,hu1,hu2⟩:=hcs.get (i:=0) rfl
   rw [List.getElem?_take,if_pos (by show 0<1; omega),List.getElem?_drop] at hu1
   rw [Nat.zero_add,hu1]
   have hu2:u=.pointer (some ⟨e.1,0+e.2.1,none⟩):=hu2
   rw [hu2,Nat.zero_add]
   rfl
  ·cases h
  ·cases h
 ·rintro v K ⟨us,rfl,rfl,rfl⟩
  exact ⟨rfl,by show _=L.set b .dead++[LB.gro 1 ((ps++[some e]).map ptrV)]; rw [List.map_append]; rfl⟩
theorem EWd.bs1R {t:TypeId} {x:Operand} {e:Nat × Nat × Nat} (hx:lv l x=some (adR e 0)):EWd P n0 [] [] L l (.bs1 t 1 x) (fun v K=>v=.slice (some ⟨L.length,0,none⟩) 1 1∧K=L++[.cells 0 [adR e 0]]):=by
 intro X w0 E0 w E l' Kf h0 hE hR hl hK
 obtain ⟨v',h1,h2⟩:=lv_ev hl hx
 have h2:v'=.pointer (some ⟨e.1,0+e.2.1,none⟩):=h2
 subst h2
 refine ⟨_,h1,rfl,hK _ _ _ _ _ ⟨rfl,rfl⟩ (fun k r _ hk=>Ext.push E _ k r hk) (fun k x r b _ hx hr hb=>?_) (new_rep hR (cs:=(Value.pointer (some ⟨e.1,0+e.2.1,none⟩)).cells) (vs:=[adR e 0]) ⟨rfl,trivial⟩) ⟨rfl,_,hR.last _,.inl ⟨_,_,rfl,.inl ⟨by simp,rfl⟩⟩⟩⟩
 have:=(hR.rng k x r hx hr b hb).2
 show (w.heap.push _)[b]?=_
 rw [Array.getElem?_push,if_neg (by omega)]
end
end Go.Tum
end
section
namespace Go.Proofs.YtblibdfcnplfhaaGreat
open Go Go.Tum Go.Tum.Base
set_option maxRecDepth 4000
def PPL (p:PS):LH:=[
 .cells 0 [.int .i64 p.cm,.int .i64 p.cg,.int .u64 p.cs,.int .i64 p.th,.int .i64 p.ba,.int .i64 p.wa,ptr 1,ptr 9,ptr 11,slB 12 p.qs.length,.int .i64 p.now],
 .cells 0 [.int .i64 p.r.man,.int .i64 p.r.mgd,.int .u64 (p.r.seed.toNat:Int),adR p.r.a 0,ptr 2,.int .u64 (p.r.key.toNat:Int),.map (some 4),adR p.r.g0 0],
 .cells 0 [slB 3 (p.r.man+p.r.mgd)],.gro 4 (rowsC PRow.cells p.r.rs),pB p.r.m0 (peS p.r.sl) p.r.mc,crowdS p.r.a p.r.key p.r.sl,box [p.r.a,p.r.b] (AN p.r.N p.r.bs),crowdG p.r.a p.r.key p.r.g0 p.r.g1 p.r.G p.r.gc,
 tB p.b0 p.G p.c,.cells 0 [ptr 1,.map (some 8),slB 10 p.rs.length],.gro 3 (rowsC Rp.cells p.rs),MB p.ml p.mg,pRow (p.qs.map fun x=>some x.e),crowdQ p.qs]
structure NewP (m g:Nat) (seed:BitVec 64) (n:Nat) (ba wa:Int) (p:PS):Prop where
 r:∃ a b g0 g1 m0,p.r=newR m g seed a b g0 g1 m0
 G:p.G=[]
 c:p.c=0
 rs:p.rs=[]
 ml:p.ml=Remote.Mail.new n ba
 qn:p.qs.length=n
 q:∀ x∈p.qs,x.q=newQ wa
 now:p.now=0
theorem crowdQ_more (qs:List QE) (x:QE):crowd (([x.e],[QB x.q])::qs.map memQ)=crowdQ (qs++[x]):=by
 unfold crowdQ
 refine crowd_perm ?_
 rw [List.map_append]
 exact (List.perm_append_comm (l₁:=qs.map memQ) (l₂:=[memQ x])).symm
theorem qBorn (w:Int) (qs:List QE):TrK Tryz.prog [] [0] 79 [.int .i64 w] [crowdQ qs] (fun v K=>∃ e:RA,True∧v=adR e 0∧K=[crowdQ (qs++[⟨e,newQ w⟩]),.dead,.dead]) :=
 Tr.mono (TrK.born (ms:=qs.map memQ) (qNew_tr w) rfl rfl rfl) (by rintro _ _ ⟨e,_,rfl,rfl⟩; exact ⟨e,trivial,rfl,by rw [← crowdQ_more]⟩)
def np (m g:Nat) (seed:BitVec 64) (n:Nat) (ba wa:Int) (a b g0 g1:RA) (m0 b0:Nat) (mg:Nat→Prop) (qs:List QE):PS:=⟨newR m g seed a b g0 g1 m0,b0,[],0,[],Remote.Mail.new n ba,mg,qs,0,m,g,seed.toNat,n,ba,wa⟩
set_option maxHeartbeats 2000000 in
theorem poolNew_tr (m g:Nat) (seed:BitVec 64) (h1:m+g≤256) (h2:1≤m+g) (n:Nat) (hn:1≤n∧n≤64) (ba wa:Int):TrK Tryz.prog [] [] 28 [.agg ⟨[.int .i64 m,.int .i64 g,.int .u64 (seed.toNat:Int),.int .i64 n,.int .i64 ba,.int .i64 wa]⟩] [] (fun v K=>∃ p,NewP m g seed n ba wa p∧v=.tuple ⟨[ptr 0,.int .i64 0]⟩∧K=PPL p):=by
 have hR:=pgNew_tr m g seed h1 h2
 refine Tr.of Ro106 rfl ?_
 repeat' (first|refine qN ?_|refine dN ?_|refine d0 ?_|refine qB ?_|refine qT ?_|refine qU ?_|refine qL ?_|refine qK ?_|refine qF ?_|refine qE ?_|refine iF (fun h=>?_) (fun h=>?_)|refine aA ?_|refine aI (hn:=?_)|refine sP 15 (fun h=>?_) (fun h=>?_)|refine sP 20 (fun h=>?_) (fun h=>?_)|refine qR ?_|refine qS ?_|exact ⟨rfl,rfl⟩|fail)
 refine cX (ι:=RA × RA × RA × RA × Nat) (C:=fun _=>True) (V:=fun _=>.tuple ⟨[ptr 0,.int .i64 0]⟩) (B:=fun j=>RPL (newR m g seed j.1 j.2.1 j.2.2.1 j.2.2.2.1 j.2.2.2.2)) [] (Tr.mono hR (by rintro _ _ ⟨a,b,g0,g1,m0,rfl,rfl⟩; exact ⟨(a,b,g0,g1,m0),trivial,rfl,rfl⟩)) (fun j _=>?_)
 obtain ⟨a,b,g0,g1,m0⟩:=j
 conv=>whnf
 have hF:=flNew_tr (newR m g seed a b g0 g1 m0)
 have hM:=mNew_tr n ba
 repeat' (first|refine qN ?_|refine dN ?_|refine d0 ?_|refine qB ?_|refine qT ?_|refine qU ?_|refine qL ?_|refine qK ?_|refine qF ?_|refine qE ?_|refine iF (fun h=>?_) (fun h=>?_)|refine aA ?_|refine aI (hn:=?_)|refine sP 15 (fun h=>?_) (fun h=>?_)|refine sP 20 (fun h=>?_) (fun h=>?_)|refine qR ?_|refine qS ?_|exact ⟨rfl,rfl⟩|fail)
 all_goals try (exfalso; omega)
 refine cX (ι:=Nat) (C:=fun _=>True) (V:=fun _=>ptr 8) (B:=fun b0=>FL (newR m g seed a b g0 g1 m0) b0 [] 0 []) [1,2,3,4,5,6,7] hF (fun b0 _=>?_)
 conv=>whnf
 repeat' (first|refine qN ?_|refine dN ?_|refine d0 ?_|refine qB ?_|refine qT ?_|refine qU ?_|refine qL ?_|refine qK ?_|refine qF ?_|refine qE ?_|refine iF (fun h=>?_) (fun h=>?_)|refine aA ?_|refine aI (hn:=?_)|refine sP 15 (fun h=>?_) (fun h=>?_)|refine sP 20 (fun h=>?_) (fun h=>?_)|refine qR ?_|refine qS ?_|exact ⟨rfl,rfl⟩|fail)
 refine cX (ι:=Nat→Prop) (C:=fun _=>True) (V:=fun _=>op) (B:=fun mg=>[MB (Remote.Mail.new n ba) mg]) [] (Tr.mono hM (by rintro _ _ ⟨rfl,mg,rfl⟩; exact ⟨mg,trivial,rfl,rfl⟩)) (fun mg _=>?_)
 conv=>whnf
 repeat' (first|refine qN ?_|refine dN ?_|refine d0 ?_|refine qB ?_|refine qT ?_|refine qU ?_|refine qL ?_|refine qK ?_|refine qF ?_|refine qE ?_|refine iF (fun h=>?_) (fun h=>?_)|refine aA ?_|refine aI (hn:=?_)|refine sP 15 (fun h=>?_) (fun h=>?_)|refine sP 20 (fun h=>?_) (fun h=>?_)|refine qR ?_|refine qS ?_|exact ⟨rfl,rfl⟩|fail)
 refine S_E [] rfl rfl (esafe_ok rfl) ?_
 rintro _ _ ⟨rfl,rfl⟩
 refine ⟨(by repeat' (first|exact trivial|refine ⟨⟨qsafe_ok (st:=[]) rfl,Sure.of rfl⟩,?_⟩|refine ⟨.inl rfl,?_⟩|refine ⟨.inr ⟨qsafe_ok (st:=[]) rfl,Sure.of rfl⟩,?_⟩|refine ⟨⟨qsafe_ok (st:=[]) rfl,Sure.slice (by omega)⟩,?_⟩|refine ⟨.inr ⟨qsafe_ok (st:=[]) rfl,Sure.slice (by omega)⟩,?_⟩|refine ⟨.inr ⟨QY.neqB rfl (by kernel_rfl) rfl rfl,Sure.of rfl⟩,?_⟩|refine ⟨.inr ⟨QY.eqlB rfl (by kernel_rfl) rfl rfl,Sure.of rfl⟩,?_⟩ | fail)),LSt.nf ?_⟩
 conv=>whnf
 repeat' (first|refine qN ?_|refine dN ?_|refine d0 ?_|refine qB ?_|refine qT ?_|refine qU ?_|refine qL ?_|refine qK ?_|refine qF ?_|refine qE ?_|refine iF (fun h=>?_) (fun h=>?_)|refine aA ?_|refine aI (hn:=?_)|refine sP 15 (fun h=>?_) (fun h=>?_)|refine sP 20 (fun h=>?_) (fun h=>?_)|refine qR ?_|refine qS ?_|exact ⟨rfl,rfl⟩|fail)
 refine LWp.nilC 12 9 1 rfl rfl (LWp.crowd0 ?_)
 refine LWp.pick [1,6,37,38] [12,1,2,3,4,5,6,7,8,9,10,11,13,14,0] rfl rfl rfl (L_loop (fun q l L=>∃ qs:List QE,q=n-qs.length∧qs.length≤n∧(∀ x∈qs,x.q=newQ wa)∧l=[(1,ptr 14),(6,ptr 0),(37,.int .i64 n),(38,.int .i64 qs.length)]∧L=PPL (np m g seed n ba wa a b g0 g1 m0 b0 mg qs)++[.cells 0 [.int .i64 m,.int .i64 g,.int .u64 (seed.toNat:Int),.int .i64 n,.int .i64 ba,.int .i64 wa]]) n ⟨[],by simp,by simp,by simp,rfl,rfl⟩ ?_)
 rintro q _ _ ⟨qs,rfl,hq,hqs,rfl,rfl⟩
 have hB:=qBorn wa qs
 first|refine L_seq (L_rs (S_done [] rfl (Nx.goL (iF (fun h=>L_skip (Nx.goL ?_)) (fun h=>L_exit ?_)))))|refine L_rs (S_done [] rfl (Nx.goL (L_seq (iF (fun h=>L_skip (Nx.goL ?_)) (fun h=>L_exit ?_)))))
 ·refine L_seq (L_block ?_)
  repeat' (first|refine qN ?_|refine dN ?_|refine d0 ?_|refine qB ?_|refine qT ?_|refine qU ?_|refine qL ?_|refine qK ?_|refine qF ?_|refine qE ?_|refine iF (fun h=>?_) (fun h=>?_)|refine aA ?_|refine aI (hn:=?_)|refine sP 15 (fun h=>?_) (fun h=>?_)|refine sP 20 (fun h=>?_) (fun h=>?_)|refine qR ?_|refine qS ?_|exact ⟨rfl,rfl⟩|fail)
  refine cX (ι:=RA) (C:=fun _=>True) (V:=fun e=>adR e 0) (B:=fun e=>[crowdQ (qs++[⟨e,newQ wa⟩]),.dead,.dead]) [13] hB (fun e _=>?_)
  conv=>whnf
  repeat' (first|refine qN ?_|refine dN ?_|refine d0 ?_|refine qB ?_|refine qT ?_|refine qU ?_|refine qL ?_|refine qK ?_|refine qF ?_|refine qE ?_|refine iF (fun h=>?_) (fun h=>?_)|refine aA ?_|refine aI (hn:=?_)|refine sP 15 (fun h=>?_) (fun h=>?_)|refine sP 20 (fun h=>?_) (fun h=>?_)|refine qR ?_|refine qS ?_|exact ⟨rfl,rfl⟩|fail)
  refine S_Ed [] rfl rfl (EWd.bs1R rfl) rfl rfl rfl ?_
  rintro _ _ ⟨rfl,rfl⟩
  refine ⟨(by repeat' (first|exact trivial|refine ⟨⟨qsafe_ok (st:=[]) rfl,Sure.of rfl⟩,?_⟩|refine ⟨.inl rfl,?_⟩|refine ⟨.inr ⟨qsafe_ok (st:=[]) rfl,Sure.of rfl⟩,?_⟩|refine ⟨⟨qsafe_ok (st:=[]) rfl,Sure.slice (by omega)⟩,?_⟩|refine ⟨.inr ⟨qsafe_ok (st:=[]) rfl,Sure.slice (by omega)⟩,?_⟩|refine ⟨.inr ⟨QY.neqB rfl (by kernel_rfl) rfl rfl,Sure.of rfl⟩,?_⟩|refine ⟨.inr ⟨QY.eqlB rfl (by kernel_rfl) rfl rfl,Sure.of rfl⟩,?_⟩ | fail)),LSt.nf ?_⟩
  conv=>whnf
  first|refine L_rs ?_|refine L_reg ?_ | skip
  refine eE rfl rfl (EW.appP1 (bytes:=8) (n:=qs.length) (ps:=qs.map fun x=>some x.e) (e:=e) rfl (by kernel_rfl) rfl rfl rfl rfl (by rw [List.length_map]) (by omega)) ?_
  conv=>whnf
  repeat' (first|refine qN ?_|refine dN ?_|refine d0 ?_|refine qB ?_|refine qT ?_|refine qU ?_|refine qL ?_|refine qK ?_|refine qF ?_|refine qE ?_|refine iF (fun h=>?_) (fun h=>?_)|refine aA ?_|refine aI (hn:=?_)|refine sP 15 (fun h=>?_) (fun h=>?_)|refine sP 20 (fun h=>?_) (fun h=>?_)|refine qR ?_|refine qS ?_|exact ⟨rfl,rfl⟩|fail)
  have hl:(qs++[(⟨e,newQ wa⟩:QE)]).length=qs.length+1:=by simp
  show Nx _ _ _ _
  refine Nx.pick [1,6,37,38] [0,1,2,3,4,5,6,7,8,9,10,11,18,13,14] rfl rfl rfl ⟨n-(qs.length+1),by omega,qs++[⟨e,newQ wa⟩],by rw [hl],by rw [hl]; omega,fun x hx=>?_,by rw [hl]; rfl,?_⟩
  ·rcases List.mem_append.1 hx with hx | hx
   ·exact hqs x hx
   ·rw [List.mem_singleton] at hx; subst hx; rfl
  ·conv=>rhs; unfold PPL
   conv=>rhs; simp only [np,hl,List.map_append,List.map_cons,List.map_nil]
   conv=>lhs; whnf
   repeat (first | rfl|(refine congrArg₂ List.cons (by rfl) ?_; conv=>lhs; whnf))
 ·refine Nx.goL ?_
  repeat' (first|refine qN ?_|refine dN ?_|refine d0 ?_|refine qB ?_|refine qT ?_|refine qU ?_|refine qL ?_|refine qK ?_|refine qF ?_|refine qE ?_|refine iF (fun h=>?_) (fun h=>?_)|refine aA ?_|refine aI (hn:=?_)|refine sP 15 (fun h=>?_) (fun h=>?_)|refine sP 20 (fun h=>?_) (fun h=>?_)|refine qR ?_|refine qS ?_|exact ⟨rfl,rfl⟩|fail)
  exact L_ret (RetQ.pick [0,1,2,3,4,5,6,7,8,9,10,11,12,13] rfl rfl rfl rfl ⟨np m g seed n ba wa a b g0 g1 m0 b0 mg qs,⟨⟨a,b,g0,g1,m0,rfl⟩,rfl,rfl,rfl,rfl,by show qs.length=n; omega,hqs,rfl⟩,rfl,rfl⟩)
end Go.Proofs.YtblibdfcnplfhaaGreat
end
section
namespace Go.Proofs.YtblibdfcnplfhaaGreat
open Go Go.Tum Go.Tum.Base
set_option maxRecDepth 4000
abbrev K14:List Nat:=[0,1,2,3,4,5,6,7,8,9,10,11,12,13]
abbrev nilP:Value:=.pointer none
def nxP:Option Nat→Value
 | none=>.nilFunc
 | some g=>.func (.func g) ⟨[ptr 14]⟩ ⟨[]⟩
def TKP (k:TK):LB:=.cells 0 [ptr 0,.int .i64 k.t,.int .i64 k.arg,nxP k.nx,.int .i64 k.at_,.int .i64 k.f,.int .i64 k.mo]
theorem pIn_tr (p:PS) (t:Int) (hl:p.qs.length≤64):Tr Tryz.prog 55 [ptr 0,.int .i64 t] (PPL p) (fun v K=>v=.bool (decide (0≤t∧t<p.qs.length))∧K=PPL p):=by
 by_cases h:0≤t∧t<p.qs.length
 ·rw [decide_eq_true h]
  refine Tr.of Ro110 rfl ?_
  repeat' (first|refine qN ?_|refine dN ?_|refine d0 ?_|refine aI (hn:=?_)|refine sP 7 (fun h=>?_) (fun h=>?_)|refine sP 11 (fun h=>?_) (fun h=>?_)|refine qR ?_|refine qS ?_|exact ⟨rfl,rfl⟩|fail)
  all_goals first | (exfalso; omega)|exact L_ret (RetQ.pick K14 rfl rfl rfl rfl ⟨by first | rfl|(refine congrArg Value.bool ?_; simp; omega),rfl⟩)
 ·rw [decide_eq_false h]
  refine Tr.of Ro110 rfl ?_
  repeat' (first|refine qN ?_|refine dN ?_|refine d0 ?_|refine aI (hn:=?_)|refine sP 7 (fun h=>?_) (fun h=>?_)|refine sP 11 (fun h=>?_) (fun h=>?_)|refine qR ?_|refine qS ?_|exact ⟨rfl,rfl⟩|fail)
  all_goals first | (exfalso; omega)|exact L_ret (RetQ.pick K14 rfl rfl rfl rfl ⟨by first | rfl|(refine congrArg Value.bool ?_; simp; omega),rfl⟩)
theorem pFree_ok (p:PS) (t:Nat) (hl:p.qs.length≤64) (ht:t<p.qs.length) (a:Int):Tr Tryz.prog 15 [ptr 0,.int .i64 t,.int .i64 a] (PPL p) (fun v K=>v=.tuple ⟨[ptr 14,.int .i64 0]⟩∧K=PPL p++[TKP ⟨t,a,some fLook,-1,0,0⟩]):=by
 have hI:=pIn_tr p t hl
 rw [decide_eq_true (by omega)] at hI
 refine Tr.of Ro107 rfl ?_
 repeat' (first|refine qN ?_|refine dN ?_|refine d0 ?_|refine qB ?_|refine qT ?_|refine qU ?_|refine qL ?_|refine qK ?_|refine iF (fun h=>?_) (fun h=>?_)|refine cP K14 (hI) ?_|refine aI (hn:=?_)|refine qR ?_|refine qS ?_|exact ⟨rfl,rfl⟩|fail)
 all_goals first | (exfalso; omega)|exact L_ret (RetQ.pick [0,1,2,3,4,5,6,7,8,9,10,11,12,13,14] rfl rfl rfl rfl ⟨rfl,rfl⟩)
theorem pFree_no (p:PS) (t:Int) (hl:p.qs.length≤64) (a:Int) (hn:¬ (0≤t∧t<p.qs.length)):Tr Tryz.prog 15 [ptr 0,.int .i64 t,.int .i64 a] (PPL p) (fun v K=>v=.tuple ⟨[nilP,.int .i64 1]⟩∧K=PPL p):=by
 have hI:=pIn_tr p t hl
 rw [decide_eq_false hn] at hI
 refine Tr.of Ro107 rfl ?_
 repeat' (first|refine qN ?_|refine dN ?_|refine d0 ?_|refine qB ?_|refine qT ?_|refine qU ?_|refine qL ?_|refine qK ?_|refine iF (fun h=>?_) (fun h=>?_)|refine cP K14 (hI) ?_|refine aI (hn:=?_)|refine qR ?_|refine qS ?_|exact ⟨rfl,rfl⟩|fail)
 all_goals first | (exfalso; omega)|exact L_ret (RetQ.pick K14 rfl rfl rfl rfl ⟨rfl,rfl⟩)
end Go.Proofs.YtblibdfcnplfhaaGreat
end
section
namespace Go.Proofs.YtblibdfcnplfhaaGreat
open Go Go.Tum Go.Tum.Base Go.Deep
set_option maxRecDepth 4000
def rowsTB:List FnRow:=[Rw132,Rw135,Rw117,Rw127,Rw122,Rw126,Rw128,Rw121,Rw119,Rw124,Rw108,Rw107,Rw106,Rw115,Rw111,Rw114,Rw109,Rw37,Rw31,Rw35,Rw30,Rw28,Rw84,Rw125,Rw129,Rw13,Rw123,Rw67,Rw73,Rw78,Rw58,Rw77,Rw79,Rw120,Rw116,Rw21,Rw22,Rw71,Rw20,Rw85,Rw110,Rw68,Rw26,Rw89,Rw64,Rw112,Rw33,Rw36,Rw113,Rw105,Rw86,Rw66,Rw74,Rw118,Rw75,Rw80,Rw15,Rw76,Rw65,Rw81,Rw83,Rw94,Rw95,Rw92,Rw61,Rw69,Rw1,Rw25,Rw24,Rw93,Rw39,Rw87,Rw88,Rw6,Rw50,Rw54,Rw38,Rw14,Rw59,Rw40,Rw23,Rw91,Rw98,Rw12,Rw16,Rw90,Rw72,Rw103,Rw10,Rw102,Rw9,Rw97,Rw60,Rw55,Rw70,Rw104,Rw99,Rw0,Rw44,Rw45,Rw51,Rw62,Rw63,Rw43,Rw42,Rw2,Rw27,Rw101,Rw17,Rw100,Rw18,Rw19,Rw7,Rw82,Rw57,Rw41,Rw11,Rw48,Rw8,Rw3,Rw4,Rw56,Rw46,Rw5,Rw53,Rw47,Rw96,Rw49,Rw52]
theorem rowsTB_ok:∀ x∈rowsTB,x.Ok Tryz.prog:=by
 refine List.forall_mem_cons.2 ⟨Ro132,?_⟩
 refine List.forall_mem_cons.2 ⟨Ro135,?_⟩
 refine List.forall_mem_cons.2 ⟨Ro117,?_⟩
 refine List.forall_mem_cons.2 ⟨Ro127,?_⟩
 refine List.forall_mem_cons.2 ⟨Ro122,?_⟩
 refine List.forall_mem_cons.2 ⟨Ro126,?_⟩
 refine List.forall_mem_cons.2 ⟨Ro128,?_⟩
 refine List.forall_mem_cons.2 ⟨Ro121,?_⟩
 refine List.forall_mem_cons.2 ⟨Ro119,?_⟩
 refine List.forall_mem_cons.2 ⟨Ro124,?_⟩
 refine List.forall_mem_cons.2 ⟨Ro108,?_⟩
 refine List.forall_mem_cons.2 ⟨Ro107,?_⟩
 refine List.forall_mem_cons.2 ⟨Ro106,?_⟩
 refine List.forall_mem_cons.2 ⟨Ro115,?_⟩
 refine List.forall_mem_cons.2 ⟨Ro111,?_⟩
 refine List.forall_mem_cons.2 ⟨Ro114,?_⟩
 refine List.forall_mem_cons.2 ⟨Ro109,?_⟩
 refine List.forall_mem_cons.2 ⟨Ro37,?_⟩
 refine List.forall_mem_cons.2 ⟨Ro31,?_⟩
 refine List.forall_mem_cons.2 ⟨Ro35,?_⟩
 refine List.forall_mem_cons.2 ⟨Ro30,?_⟩
 refine List.forall_mem_cons.2 ⟨Ro28,?_⟩
 refine List.forall_mem_cons.2 ⟨Ro84,?_⟩
 refine List.forall_mem_cons.2 ⟨Ro125,?_⟩
 refine List.forall_mem_cons.2 ⟨Ro129,?_⟩
 refine List.forall_mem_cons.2 ⟨Ro13,?_⟩
 refine List.forall_mem_cons.2 ⟨Ro123,?_⟩
 refine List.forall_mem_cons.2 ⟨Ro67,?_⟩
 refine List.forall_mem_cons.2 ⟨Ro73,?_⟩
 refine List.forall_mem_cons.2 ⟨Ro78,?_⟩
 refine List.forall_mem_cons.2 ⟨Ro58,?_⟩
 refine List.forall_mem_cons.2 ⟨Ro77,?_⟩
 refine List.forall_mem_cons.2 ⟨Ro79,?_⟩
 refine List.forall_mem_cons.2 ⟨Ro120,?_⟩
 refine List.forall_mem_cons.2 ⟨Ro116,?_⟩
 refine List.forall_mem_cons.2 ⟨Ro21,?_⟩
 refine List.forall_mem_cons.2 ⟨Ro22,?_⟩
 refine List.forall_mem_cons.2 ⟨Ro71,?_⟩
 refine List.forall_mem_cons.2 ⟨Ro20,?_⟩
 refine List.forall_mem_cons.2 ⟨Ro85,?_⟩
 refine List.forall_mem_cons.2 ⟨Ro110,?_⟩
 refine List.forall_mem_cons.2 ⟨Ro68,?_⟩
 refine List.forall_mem_cons.2 ⟨Ro26,?_⟩
 refine List.forall_mem_cons.2 ⟨Ro89,?_⟩
 refine List.forall_mem_cons.2 ⟨Ro64,?_⟩
 refine List.forall_mem_cons.2 ⟨Ro112,?_⟩
 refine List.forall_mem_cons.2 ⟨Ro33,?_⟩
 refine List.forall_mem_cons.2 ⟨Ro36,?_⟩
 refine List.forall_mem_cons.2 ⟨Ro113,?_⟩
 refine List.forall_mem_cons.2 ⟨Ro105,?_⟩
 refine List.forall_mem_cons.2 ⟨Ro86,?_⟩
 refine List.forall_mem_cons.2 ⟨Ro66,?_⟩
 refine List.forall_mem_cons.2 ⟨Ro74,?_⟩
 refine List.forall_mem_cons.2 ⟨Ro118,?_⟩
 refine List.forall_mem_cons.2 ⟨Ro75,?_⟩
 refine List.forall_mem_cons.2 ⟨Ro80,?_⟩
 refine List.forall_mem_cons.2 ⟨Ro15,?_⟩
 refine List.forall_mem_cons.2 ⟨Ro76,?_⟩
 refine List.forall_mem_cons.2 ⟨Ro65,?_⟩
 refine List.forall_mem_cons.2 ⟨Ro81,?_⟩
 refine List.forall_mem_cons.2 ⟨Ro83,?_⟩
 refine List.forall_mem_cons.2 ⟨Ro94,?_⟩
 refine List.forall_mem_cons.2 ⟨Ro95,?_⟩
 refine List.forall_mem_cons.2 ⟨Ro92,?_⟩
 refine List.forall_mem_cons.2 ⟨Ro61,?_⟩
 refine List.forall_mem_cons.2 ⟨Ro69,?_⟩
 refine List.forall_mem_cons.2 ⟨Ro1,?_⟩
 refine List.forall_mem_cons.2 ⟨Ro25,?_⟩
 refine List.forall_mem_cons.2 ⟨Ro24,?_⟩
 refine List.forall_mem_cons.2 ⟨Ro93,?_⟩
 refine List.forall_mem_cons.2 ⟨Ro39,?_⟩
 refine List.forall_mem_cons.2 ⟨Ro87,?_⟩
 refine List.forall_mem_cons.2 ⟨Ro88,?_⟩
 refine List.forall_mem_cons.2 ⟨Ro6,?_⟩
 refine List.forall_mem_cons.2 ⟨Ro50,?_⟩
 refine List.forall_mem_cons.2 ⟨Ro54,?_⟩
 refine List.forall_mem_cons.2 ⟨Ro38,?_⟩
 refine List.forall_mem_cons.2 ⟨Ro14,?_⟩
 refine List.forall_mem_cons.2 ⟨Ro59,?_⟩
 refine List.forall_mem_cons.2 ⟨Ro40,?_⟩
 refine List.forall_mem_cons.2 ⟨Ro23,?_⟩
 refine List.forall_mem_cons.2 ⟨Ro91,?_⟩
 refine List.forall_mem_cons.2 ⟨Ro98,?_⟩
 refine List.forall_mem_cons.2 ⟨Ro12,?_⟩
 refine List.forall_mem_cons.2 ⟨Ro16,?_⟩
 refine List.forall_mem_cons.2 ⟨Ro90,?_⟩
 refine List.forall_mem_cons.2 ⟨Ro72,?_⟩
 refine List.forall_mem_cons.2 ⟨Ro103,?_⟩
 refine List.forall_mem_cons.2 ⟨Ro10,?_⟩
 refine List.forall_mem_cons.2 ⟨Ro102,?_⟩
 refine List.forall_mem_cons.2 ⟨Ro9,?_⟩
 refine List.forall_mem_cons.2 ⟨Ro97,?_⟩
 refine List.forall_mem_cons.2 ⟨Ro60,?_⟩
 refine List.forall_mem_cons.2 ⟨Ro55,?_⟩
 refine List.forall_mem_cons.2 ⟨Ro70,?_⟩
 refine List.forall_mem_cons.2 ⟨Ro104,?_⟩
 refine List.forall_mem_cons.2 ⟨Ro99,?_⟩
 refine List.forall_mem_cons.2 ⟨Ro0,?_⟩
 refine List.forall_mem_cons.2 ⟨Ro44,?_⟩
 refine List.forall_mem_cons.2 ⟨Ro45,?_⟩
 refine List.forall_mem_cons.2 ⟨Ro51,?_⟩
 refine List.forall_mem_cons.2 ⟨Ro62,?_⟩
 refine List.forall_mem_cons.2 ⟨Ro63,?_⟩
 refine List.forall_mem_cons.2 ⟨Ro43,?_⟩
 refine List.forall_mem_cons.2 ⟨Ro42,?_⟩
 refine List.forall_mem_cons.2 ⟨Ro2,?_⟩
 refine List.forall_mem_cons.2 ⟨Ro27,?_⟩
 refine List.forall_mem_cons.2 ⟨Ro101,?_⟩
 refine List.forall_mem_cons.2 ⟨Ro17,?_⟩
 refine List.forall_mem_cons.2 ⟨Ro100,?_⟩
 refine List.forall_mem_cons.2 ⟨Ro18,?_⟩
 refine List.forall_mem_cons.2 ⟨Ro19,?_⟩
 refine List.forall_mem_cons.2 ⟨Ro7,?_⟩
 refine List.forall_mem_cons.2 ⟨Ro82,?_⟩
 refine List.forall_mem_cons.2 ⟨Ro57,?_⟩
 refine List.forall_mem_cons.2 ⟨Ro41,?_⟩
 refine List.forall_mem_cons.2 ⟨Ro11,?_⟩
 refine List.forall_mem_cons.2 ⟨Ro48,?_⟩
 refine List.forall_mem_cons.2 ⟨Ro8,?_⟩
 refine List.forall_mem_cons.2 ⟨Ro3,?_⟩
 refine List.forall_mem_cons.2 ⟨Ro4,?_⟩
 refine List.forall_mem_cons.2 ⟨Ro56,?_⟩
 refine List.forall_mem_cons.2 ⟨Ro46,?_⟩
 refine List.forall_mem_cons.2 ⟨Ro5,?_⟩
 refine List.forall_mem_cons.2 ⟨Ro53,?_⟩
 refine List.forall_mem_cons.2 ⟨Ro47,?_⟩
 refine List.forall_mem_cons.2 ⟨Ro96,?_⟩
 refine List.forall_mem_cons.2 ⟨Ro49,?_⟩
 refine List.forall_mem_cons.2 ⟨Ro52,?_⟩
 exact fun x hx=>by cases hx
set_option maxRecDepth 20000 in
theorem awake14_tr:Tr Tryz.prog 42 [] [] (fun v K=>v=.bool true∧K=[]) :=
 Tr.closed (by kernel_rfl) rfl rfl fun w=>closed_call (vs:=[]) (fuel:=5000) rowsTB_ok (rawQ2_ok _) (rawE2_ok _) rfl rfl rfl (by kernel_rfl) w
end Go.Proofs.YtblibdfcnplfhaaGreat
end
section
namespace Go.Tum
open Go
theorem Tr.runG {P:Program} {tab:List FnRow} {rawQ:RawQ} {rawE:RawE} (ht:∀ x∈tab,x.Ok P) (hq:RawOk P rawQ) (he:RawEOk P rawE) {fuel:Nat} {f:FuncId} {vs:List Value}
  (hc:callable P f=true) (h:(match lcall noOv tab rawQ rawE fuel f vs [] with
   | some (.pointer (some ⟨k,0,none⟩),K)=>Nat.blt k K.length
   | _=>false)=true):TrK P [] [] f vs [] (fun u K=>u=.pointer (some ⟨0,0,none⟩)∧K=[.dead]):=by
 intro X w0 w E vs' hA hR hv
 split at h
 ·rename_i k K hx
  refine ⟨hc,((lrun_ok (H:=fun _ _=>True) (noOv_ok _ P) ht hq he fuel).1 X w0 trivial w E [] f vs vs' _ _ hx hR hv).2.mono ?_⟩
  rintro v' w' ⟨E',k1,k2,k3⟩
  have hk:k<E'.length:=by rw [k3.len]; exact Nat.le_of_ble_eq_true h
  have k2:=VR.toReal (List.getElem?_eq_getElem hk) k2
  refine ⟨[E'[k]],_,_,fun j r hj _=>by simp [inL] at hj,Nat.zero_le _,?_,⟨k3.fr,rfl,?_,?_,?_⟩,rfl,rfl⟩
  ·rw [k2]
   exact ⟨_,rfl,rfl,E'[k],rfl,rfl⟩
  ·intro j x r hx hr b hb
   match j,hx with
   | 0,hx=>cases hx; exact hb.elim
  ·intro j x r hx hr
   match j,hx with
   | 0,hx=>cases hx; exact trivial
  ·intro j j' x x' r r' b hx hx' _ _ hb _
   match j,hx with
   | 0,hx=>cases hx; exact hb.elim
 ·cases h
theorem Tr.deadA {P:Program} {keep:List Nat} {f:FuncId} {us:List Value} {L:LH} {b:Bool} (h:TrK P [] keep f us L (fun v _=>v=.bool b)):TrK P [] keep f us L (fun v K=>v=.bool b∧K=List.replicate L.length .dead):=by
 intro X w0 w E vs' hA hR hv
 obtain ⟨h1,h2⟩:=h X w0 w E vs' hA hR hv
 refine ⟨h1,h2.mono ?_⟩
 rintro v' w' ⟨E',v,L',g1,g0,g2,g3,rfl⟩
 have hl:L.length≤E'.length:=by rw [g3.len]; exact g0
 have hd:∀ (k:Nat) (x:LB),(List.replicate L.length LB.dead)[k]?=some x→x=.dead:=fun k x hx=>by
  rw [List.getElem?_replicate] at hx; split at hx
  ·cases hx; rfl
  ·cases hx
 refine ⟨E'.take L.length,.bool b,_,fun j r hj hr=>(by
  have h3:=g1 j r hj hr
  have h4:=(List.getElem?_eq_some_iff.1 hr).1
  rw [List.getElem?_take,if_pos (by rw [← hR.len]; exact h4)]; exact h3),by simp,g2,⟨g3.fr,by simp; omega,?_,?_,?_⟩,rfl,rfl⟩
 ·intro k x r hx _ c hc; rw [hd k x hx] at hc; exact hc.elim
 ·intro k x r hx _; rw [hd k x hx]; exact trivial
 ·intro k k' x x' r r' c hx _ _ _ hc _; rw [hd k x hx] at hc; exact hc.elim
end Go.Tum
end
section
namespace Go.Proofs.YtblibdfcnplfhaaGreat
open Go Go.Tum Go.Tum.Base
set_option maxRecDepth 4000
abbrev nilW:Value:=.pointer none
def rowsFN:List FnRow:=[Rw37,Rw31,Rw29,Rw35,Rw28,Rw30,Rw32,Rw34,Rw33,Rw143,Rw131,Rw130,Rw107,Rw108,Rw106,Rw36,Rw115,Rw114,Rw111,Rw113,Rw109,Rw105,Rw139,Rw140,Rw142,Rw141,Rw110,Rw68,Rw26,Rw89,Rw64,Rw112,Rw137,Rw136,Rw6,Rw50,Rw54,Rw38,Rw138,Rw51]
theorem rowsFN_ok:∀ x∈rowsFN,x.Ok Tryz.prog:=by
 refine List.forall_mem_cons.2 ⟨Ro37,?_⟩
 refine List.forall_mem_cons.2 ⟨Ro31,?_⟩
 refine List.forall_mem_cons.2 ⟨Ro29,?_⟩
 refine List.forall_mem_cons.2 ⟨Ro35,?_⟩
 refine List.forall_mem_cons.2 ⟨Ro28,?_⟩
 refine List.forall_mem_cons.2 ⟨Ro30,?_⟩
 refine List.forall_mem_cons.2 ⟨Ro32,?_⟩
 refine List.forall_mem_cons.2 ⟨Ro34,?_⟩
 refine List.forall_mem_cons.2 ⟨Ro33,?_⟩
 refine List.forall_mem_cons.2 ⟨Ro143,?_⟩
 refine List.forall_mem_cons.2 ⟨Ro131,?_⟩
 refine List.forall_mem_cons.2 ⟨Ro130,?_⟩
 refine List.forall_mem_cons.2 ⟨Ro107,?_⟩
 refine List.forall_mem_cons.2 ⟨Ro108,?_⟩
 refine List.forall_mem_cons.2 ⟨Ro106,?_⟩
 refine List.forall_mem_cons.2 ⟨Ro36,?_⟩
 refine List.forall_mem_cons.2 ⟨Ro115,?_⟩
 refine List.forall_mem_cons.2 ⟨Ro114,?_⟩
 refine List.forall_mem_cons.2 ⟨Ro111,?_⟩
 refine List.forall_mem_cons.2 ⟨Ro113,?_⟩
 refine List.forall_mem_cons.2 ⟨Ro109,?_⟩
 refine List.forall_mem_cons.2 ⟨Ro105,?_⟩
 refine List.forall_mem_cons.2 ⟨Ro139,?_⟩
 refine List.forall_mem_cons.2 ⟨Ro140,?_⟩
 refine List.forall_mem_cons.2 ⟨Ro142,?_⟩
 refine List.forall_mem_cons.2 ⟨Ro141,?_⟩
 refine List.forall_mem_cons.2 ⟨Ro110,?_⟩
 refine List.forall_mem_cons.2 ⟨Ro68,?_⟩
 refine List.forall_mem_cons.2 ⟨Ro26,?_⟩
 refine List.forall_mem_cons.2 ⟨Ro89,?_⟩
 refine List.forall_mem_cons.2 ⟨Ro64,?_⟩
 refine List.forall_mem_cons.2 ⟨Ro112,?_⟩
 refine List.forall_mem_cons.2 ⟨Ro137,?_⟩
 refine List.forall_mem_cons.2 ⟨Ro136,?_⟩
 refine List.forall_mem_cons.2 ⟨Ro6,?_⟩
 refine List.forall_mem_cons.2 ⟨Ro50,?_⟩
 refine List.forall_mem_cons.2 ⟨Ro54,?_⟩
 refine List.forall_mem_cons.2 ⟨Ro38,?_⟩
 refine List.forall_mem_cons.2 ⟨Ro138,?_⟩
 refine List.forall_mem_cons.2 ⟨Ro51,?_⟩
 exact fun x hx=>by cases hx
theorem zNew_tr:Tr Tryz.prog 44 [.agg ⟨[.int .i64 0,.int .i64 0,.int .u64 0,.int .i64 0,.int .i64 0,.int .i64 0]⟩] [] (fun v K=>v=.tuple ⟨[nilW,.int .i64 1]⟩∧K=[]) :=
 Tr.runK [] (fuel:=500) rowsFN_ok (rawQ2_ok _) (rawE2_ok _) (by kernel_rfl) (by kernel_rfl) (by kernel_rfl) (by kernel_rfl)
theorem zSmall_tr:Tr Tryz.prog 12 [.agg ⟨[.int .i64 0,.int .i64 0,.int .i64 2,.int .i64 0,.int .i64 0,.int .u64 0]⟩] [] (fun v K=>v=.agg ⟨[.int .i64 1,.int .i64 0,.int .i64 3,.int .i64 0,.int .i64 0,.int .u64 0]⟩∧K=[]) :=
 Tr.runK [] (fuel:=500) rowsFN_ok (rawQ2_ok _) (rawE2_ok _) (by kernel_rfl) (by kernel_rfl) (by kernel_rfl) (by kernel_rfl)
theorem zOurs_tr:Tr Tryz.prog 29 [.agg ⟨[.int .i64 1,.int .i64 0,.int .i64 3,.int .i64 0,.int .i64 0,.int .u64 0]⟩] [] (fun v K=>v=.agg ⟨[.int .i64 1,.int .i64 0,.int .u64 0,.int .i64 3,.int .i64 0,.int .i64 0]⟩∧K=[]) :=
 Tr.runK [] (fuel:=500) rowsFN_ok (rawQ2_ok _) (rawE2_ok _) (by kernel_rfl) (by kernel_rfl) (by kernel_rfl) (by kernel_rfl)
theorem zMalloc_tr (t n:Int):Tr Tryz.prog 45 [nilW,.int .i64 t,.int .i64 n] [] (fun v K=>v=.int .i64 2∧K=[]) :=
 Tr.runK [] (fuel:=500) rowsFN_ok (rawQ2_ok _) (rawE2_ok _) (by kernel_rfl) (by kernel_rfl) (by kernel_rfl) (by kernel_rfl)
theorem zFree_tr (t n:Int):Tr Tryz.prog 46 [nilW,.int .i64 t,.int .i64 n] [] (fun v K=>v=.int .i64 2∧K=[]) :=
 Tr.runK [] (fuel:=500) rowsFN_ok (rawQ2_ok _) (rawE2_ok _) (by kernel_rfl) (by kernel_rfl) (by kernel_rfl) (by kernel_rfl)
theorem zStep_tr (t:Int):Tr Tryz.prog 47 [nilW,.int .i64 t] [] (fun v K=>v=.bool false∧K=[]) :=
 Tr.runK [] (fuel:=500) rowsFN_ok (rawQ2_ok _) (rawE2_ok _) (by kernel_rfl) (by kernel_rfl) (by kernel_rfl) (by kernel_rfl)
theorem zBusy_tr (t:Int):Tr Tryz.prog 48 [nilW,.int .i64 t] [] (fun v K=>v=.bool false∧K=[]) :=
 Tr.runK [] (fuel:=500) rowsFN_ok (rawQ2_ok _) (rawE2_ok _) (by kernel_rfl) (by kernel_rfl) (by kernel_rfl) (by kernel_rfl)
theorem zHistory_tr (_t:Int):Tr Tryz.prog 41 [nilW] [] (fun v K=>v=.slice none 0 0∧K=[]) :=
 Tr.runK [] (fuel:=500) rowsFN_ok (rawQ2_ok _) (rawE2_ok _) (by kernel_rfl) (by kernel_rfl) (by kernel_rfl) (by kernel_rfl)
theorem zPending_tr (_t:Int):Tr Tryz.prog 39 [nilW] [] (fun v K=>v=.slice none 0 0∧K=[]) :=
 Tr.runK [] (fuel:=500) rowsFN_ok (rawQ2_ok _) (rawE2_ok _) (by kernel_rfl) (by kernel_rfl) (by kernel_rfl) (by kernel_rfl)
theorem zRest_tr (n:Int):Tr Tryz.prog 43 [nilW,.int .i64 n] [] (fun v K=>v=.int .i64 0∧K=[]) :=
 Tr.runK [] (fuel:=500) rowsFN_ok (rawQ2_ok _) (rawE2_ok _) (by kernel_rfl) (by kernel_rfl) (by kernel_rfl) (by kernel_rfl)
theorem zPool_tr (_n:Int):Tr Tryz.prog 49 [nilW] [] (fun v K=>v=nilW∧K=[]) :=
 Tr.runK [] (fuel:=500) rowsFN_ok (rawQ2_ok _) (rawE2_ok _) (by kernel_rfl) (by kernel_rfl) (by kernel_rfl) (by kernel_rfl)
theorem flowNew_tr:TrK Tryz.prog [] [] 44 [.agg ⟨[.int .i64 1,.int .i64 0,.int .u64 0,.int .i64 3,.int .i64 0,.int .i64 0]⟩] [] (fun v K=>∃ p,NewP 1 0 0#64 3 0 0 p∧v=.tuple ⟨[ptr 14,.int .i64 0]⟩∧K=PPL p++[.cells 0 [ptr 0,slB 15 3,.slice none 0 0],.cells 0 [nilW,nilW,nilW]]):=by
 have hN:=poolNew_tr 1 0 0#64 (by decide) (by decide) 3 (by decide) 0 0
 refine Tr.of Ro37 rfl ?_
 repeat' (first|refine qN ?_|refine dN ?_|refine d0 ?_|refine qT ?_|refine qU ?_|refine qL ?_|refine qK ?_|refine iF (fun h=>?_) (fun h=>?_)|refine aI (hn:=?_)|refine qR ?_|refine qS ?_|exact ⟨rfl,rfl⟩|fail)
 refine cX (ι:=PS) (C:=NewP 1 0 0#64 3 0 0) (V:=fun _=>.tuple ⟨[ptr 0,.int .i64 0]⟩) (B:=PPL) [] hN (fun p hp=>?_)
 conv=>whnf
 repeat' (first|refine qN ?_|refine dN ?_|refine d0 ?_|refine qT ?_|refine qU ?_|refine qL ?_|refine qK ?_|refine iF (fun h=>?_) (fun h=>?_)|refine aI (hn:=?_)|refine qR ?_|refine qS ?_|exact ⟨rfl,rfl⟩|fail)
 refine S_E [] rfl rfl (EW.of (v:=.slice (some ⟨15,0,none⟩) 3 3) (by rfl)) ?_
 rintro _ _ ⟨rfl,rfl⟩
 refine ⟨(by repeat' (first|exact trivial|refine ⟨⟨qsafe_ok (st:=[]) rfl,Sure.of rfl⟩,?_⟩|refine ⟨.inl rfl,?_⟩|refine ⟨.inr ⟨qsafe_ok (st:=[]) rfl,Sure.of rfl⟩,?_⟩|refine ⟨⟨qsafe_ok (st:=[]) rfl,Sure.slice (by omega)⟩,?_⟩|refine ⟨.inr ⟨qsafe_ok (st:=[]) rfl,Sure.slice (by omega)⟩,?_⟩|refine ⟨.inr ⟨QY.neqB rfl (by kernel_rfl) rfl rfl,Sure.of rfl⟩,?_⟩|refine ⟨.inr ⟨QY.eqlB rfl (by kernel_rfl) rfl rfl,Sure.of rfl⟩,?_⟩ | fail)),LSt.nf ?_⟩
 conv=>whnf
 repeat' (first|refine qN ?_|refine dN ?_|refine d0 ?_|refine qT ?_|refine qU ?_|refine qL ?_|refine qK ?_|refine iF (fun h=>?_) (fun h=>?_)|refine aI (hn:=?_)|refine qR ?_|refine qS ?_|exact ⟨rfl,rfl⟩|fail)
 exact L_ret (RetQ.pick [1,2,3,4,5,6,7,8,9,10,11,12,13,14,16,15] rfl rfl rfl rfl ⟨p,hp,rfl,rfl⟩)
theorem zDoc_tr:TrK Tryz.prog [] [] 50 [.int .i64 1,.int .i64 0,.int .u64 0,.int .i64 3,.int .i64 0,.int .i64 0] [] (fun v K=>v=ptr 0∧K=[.dead]) :=
 Tr.runG (fuel:=500) rowsFN_ok (rawQ2_ok _) (rawE2_ok _) (by kernel_rfl) (by kernel_rfl)
def FN (p:PS):LH:=PPL p++[.cells 0 [ptr 0,slB 15 3,.slice none 0 0],.cells 0 [nilW,nilW,nilW],.cells 0 [ptr 14,ptr 17],.dead]
theorem begin14z_tr:TrK Tryz.prog [] [] 36 [.agg ⟨[.int .i64 1,.int .i64 0,.int .i64 3,.int .i64 0,.int .i64 0,.int .u64 0]⟩] [] (fun v K=>∃ p,NewP 1 0 0#64 3 0 0 p∧v=ptr 16∧K=FN p):=by
 have hO:=zOurs_tr
 have hD:=zDoc_tr
 refine Tr.of Ro133 rfl ?_
 repeat' (first|refine qN ?_|refine dN ?_|refine d0 ?_|refine qT ?_|refine qU ?_|refine qL ?_|refine qK ?_|refine iF (fun h=>?_) (fun h=>?_)|refine cP [] (hO) ?_|refine aI (hn:=?_)|refine sP 13 (fun h=>?_) (fun h=>?_)|refine qR ?_|refine qS ?_|exact ⟨rfl,rfl⟩|fail)
 refine cX (ι:=PS) (C:=NewP 1 0 0#64 3 0 0) (V:=fun _=>.tuple ⟨[ptr 14,.int .i64 0]⟩) (B:=fun p=>PPL p++[.cells 0 [ptr 0,slB 15 3,.slice none 0 0],.cells 0 [nilW,nilW,nilW]]) [] flowNew_tr (fun p hp=>?_)
 conv=>whnf
 repeat' (first|refine qN ?_|refine dN ?_|refine d0 ?_|refine qT ?_|refine qU ?_|refine qL ?_|refine qK ?_|refine iF (fun h=>?_) (fun h=>?_)|(refine cF [] (hD) ?_; conv=>whnf)|(refine S_E [] rfl rfl (EW.of (by rfl)) ?_; rintro _ _ ⟨rfl,rfl⟩; refine ⟨(by repeat' (first|exact trivial|refine ⟨⟨qsafe_ok (st:=[]) rfl,Sure.of rfl⟩,?_⟩|refine ⟨.inl rfl,?_⟩|refine ⟨.inr ⟨qsafe_ok (st:=[]) rfl,Sure.of rfl⟩,?_⟩|refine ⟨⟨qsafe_ok (st:=[]) rfl,Sure.slice (by omega)⟩,?_⟩|refine ⟨.inr ⟨qsafe_ok (st:=[]) rfl,Sure.slice (by omega)⟩,?_⟩|refine ⟨.inr ⟨QY.neqB rfl (by kernel_rfl) rfl rfl,Sure.of rfl⟩,?_⟩|refine ⟨.inr ⟨QY.eqlB rfl (by kernel_rfl) rfl rfl,Sure.of rfl⟩,?_⟩ | fail)),LSt.nf ?_⟩; conv=>whnf)|refine L_rT ?_|refine L_regT ?_|refine P_lin rfl ?_|refine P_A [] rfl ?_ ?_|(refine P_E [] rfl rfl (EW.callF [] (hD) rfl rfl (by decide) (by repeat' (first|exact trivial|refine ⟨rfl,?_⟩ | fail)) rfl rfl) ?_; rintro _ _ ⟨rfl,rfl⟩; refine ⟨(by repeat' (first|exact trivial|refine ⟨⟨qsafe_ok (st:=[]) rfl,Sure.of rfl⟩,?_⟩|refine ⟨.inl rfl,?_⟩|refine ⟨.inr ⟨qsafe_ok (st:=[]) rfl,Sure.of rfl⟩,?_⟩|refine ⟨⟨qsafe_ok (st:=[]) rfl,Sure.slice (by omega)⟩,?_⟩|refine ⟨.inr ⟨qsafe_ok (st:=[]) rfl,Sure.slice (by omega)⟩,?_⟩|refine ⟨.inr ⟨QY.neqB rfl (by kernel_rfl) rfl rfl,Sure.of rfl⟩,?_⟩|refine ⟨.inr ⟨QY.eqlB rfl (by kernel_rfl) rfl rfl,Sure.of rfl⟩,?_⟩ | fail)),LPt.nf ?_⟩; conv=>whnf)|(refine P_E [] rfl rfl (EW.of (by rfl)) ?_; rintro _ _ ⟨rfl,rfl⟩; refine ⟨(by repeat' (first|exact trivial|refine ⟨⟨qsafe_ok (st:=[]) rfl,Sure.of rfl⟩,?_⟩|refine ⟨.inl rfl,?_⟩|refine ⟨.inr ⟨qsafe_ok (st:=[]) rfl,Sure.of rfl⟩,?_⟩|refine ⟨⟨qsafe_ok (st:=[]) rfl,Sure.slice (by omega)⟩,?_⟩|refine ⟨.inr ⟨qsafe_ok (st:=[]) rfl,Sure.slice (by omega)⟩,?_⟩|refine ⟨.inr ⟨QY.neqB rfl (by kernel_rfl) rfl rfl,Sure.of rfl⟩,?_⟩|refine ⟨.inr ⟨QY.eqlB rfl (by kernel_rfl) rfl rfl,Sure.of rfl⟩,?_⟩ | fail)),LPt.nf ?_⟩; conv=>whnf)|refine aI (hn:=?_)|refine sP 13 (fun h=>?_) (fun h=>?_)|refine qR ?_|refine qS ?_|exact ⟨rfl,rfl⟩|fail)
 all_goals exact LWp.wk (wk_dead 20 rfl) (L_ret (RetQ.pick [1,2,3,4,5,6,7,8,9,10,11,12,13,14,15,16,21,20] rfl rfl rfl rfl ⟨p,hp,rfl,rfl⟩))
abbrev K18:List Nat:=[0,1,2,3,4,5,6,7,8,9,10,11,12,13,14,15,16,17]
abbrev K20:List Nat:=[0,1,2,3,4,5,6,7,8,9,10,11,12,13,14,15,16,17,18,19]
def rowT:Nat→List Value
 | 0=>[ptr 18,nilW,nilW]
 | 1=>[nilW,ptr 18,nilW]
 | _=>[nilW,nilW,ptr 18]
def FC (p:PS) (t:Nat) (n:Int):LH:=PPL p++[.cells 0 [ptr 0,slB 15 3,.slice none 0 0],.cells 0 (rowT t),.cells 0 [ptr 14,ptr 17],.dead,
 .cells 0 [.int .i64 t,.bool true,.int .i64 n,.int .i64 (-1),.int .i64 0,.int .i64 p.now,.int .i64 0,.int .i64 0,ptr 19],
 .cells 0 [ptr 0,.int .i64 t,.int .i64 n,.func (.func fLook) ⟨[ptr 19]⟩ ⟨[]⟩,.int .i64 (-1),.int .i64 0,.int .i64 0]]
theorem pNow_tr (p:PS):Tr Tryz.prog 25 [ptr 0] (PPL p) (fun v K=>v=.int .i64 p.now∧K=PPL p):=by
 refine Tr.of Ro109 rfl ?_
 repeat' (first|refine qN ?_|refine dN ?_|refine d0 ?_|refine qT ?_|refine qU ?_|refine qL ?_|refine qK ?_|refine iF (fun h=>?_) (fun h=>?_)|refine aI (hn:=?_)|refine qR ?_|refine qS ?_|exact ⟨rfl,rfl⟩|fail)
 exact L_ret (RetQ.pick K14 rfl rfl rfl rfl ⟨rfl,rfl⟩)
theorem fPool_tr (p:PS):Tr Tryz.prog 49 [ptr 14] (FN p) (fun v K=>v=ptr 0∧K=FN p):=by
 refine Tr.of Ro33 rfl ?_
 repeat' (first|refine qN ?_|refine dN ?_|refine d0 ?_|refine qT ?_|refine qU ?_|refine qL ?_|refine qK ?_|refine iF (fun h=>?_) (fun h=>?_)|refine aI (hn:=?_)|refine qR ?_|refine qS ?_|exact ⟨rfl,rfl⟩|fail)
 exact L_ret (RetQ.pick K18 rfl rfl rfl rfl ⟨rfl,rfl⟩)
theorem busyNo_tr (p:PS) (t:Int):Tr Tryz.prog 48 [ptr 14,.int .i64 t] (FN p) (fun v K=>v=.bool false∧K=FN p):=by
 refine Tr.of Ro28 rfl ?_
 by_cases h:0≤t∧t<3
 ·have ht:t=0∨t=1∨t=2:=by omega
  rcases ht with rfl | rfl | rfl
  ·repeat' (first|refine qN ?_|refine dN ?_|refine dR ?_|refine d0 ?_|refine rT ?_|refine aX ?_|refine S_Q [] rfl rfl (QY.idxN (k:=0) rfl rfl (by decide)) ?_|refine aI (hn:=?_)|refine sP 7 (fun h=>?_) (fun h=>?_)|refine sP 11 (fun h=>?_) (fun h=>?_)|refine sP 20 (fun h=>?_) (fun h=>?_)|refine qR ?_|refine qS ?_|exact ⟨rfl,rfl⟩|fail)
  ·repeat' (first|refine qN ?_|refine dN ?_|refine dR ?_|refine d0 ?_|refine rT ?_|refine aX ?_|refine S_Q [] rfl rfl (QY.idxN (k:=1) rfl rfl (by decide)) ?_|refine aI (hn:=?_)|refine sP 7 (fun h=>?_) (fun h=>?_)|refine sP 11 (fun h=>?_) (fun h=>?_)|refine sP 20 (fun h=>?_) (fun h=>?_)|refine qR ?_|refine qS ?_|exact ⟨rfl,rfl⟩|fail)
  ·repeat' (first|refine qN ?_|refine dN ?_|refine dR ?_|refine d0 ?_|refine rT ?_|refine aX ?_|refine S_Q [] rfl rfl (QY.idxN (k:=2) rfl rfl (by decide)) ?_|refine aI (hn:=?_)|refine sP 7 (fun h=>?_) (fun h=>?_)|refine sP 11 (fun h=>?_) (fun h=>?_)|refine sP 20 (fun h=>?_) (fun h=>?_)|refine qR ?_|refine qS ?_|exact ⟨rfl,rfl⟩|fail)
 ·repeat' (first|refine qN ?_|refine dN ?_|refine dR ?_|refine d0 ?_|refine rT ?_|refine aX ?_|refine aI (hn:=?_)|refine sP 7 (fun h=>?_) (fun h=>?_)|refine sP 11 (fun h=>?_) (fun h=>?_)|refine sP 20 (fun h=>?_) (fun h=>?_)|refine qR ?_|refine qS ?_|exact ⟨rfl,rfl⟩|fail)
  all_goals first | done | (exfalso; omega)|(refine ⟨?_,rfl⟩; exact congrArg Value.bool (by simp; omega))
theorem busyYes0_tr (p:PS) (n:Int):Tr Tryz.prog 48 [ptr 14,.int .i64 0] (FC p 0 n) (fun v K=>v=.bool true∧K=FC p 0 n):=by
 refine Tr.of Ro28 rfl ?_
 repeat' (first|refine qN ?_|refine dN ?_|refine dR ?_|refine d0 ?_|refine rT ?_|refine aX ?_|refine S_Q [] rfl rfl (QY.idxN (k:=0) rfl rfl (by decide)) ?_|refine aI (hn:=?_)|refine sP 7 (fun h=>?_) (fun h=>?_)|refine sP 11 (fun h=>?_) (fun h=>?_)|refine sP 20 (fun h=>?_) (fun h=>?_)|refine qR ?_|refine qS ?_|exact ⟨rfl,rfl⟩|fail)
theorem busyYes1_tr (p:PS) (n:Int):Tr Tryz.prog 48 [ptr 14,.int .i64 1] (FC p 1 n) (fun v K=>v=.bool true∧K=FC p 1 n):=by
 refine Tr.of Ro28 rfl ?_
 repeat' (first|refine qN ?_|refine dN ?_|refine dR ?_|refine d0 ?_|refine rT ?_|refine aX ?_|refine S_Q [] rfl rfl (QY.idxN (k:=1) rfl rfl (by decide)) ?_|refine aI (hn:=?_)|refine sP 7 (fun h=>?_) (fun h=>?_)|refine sP 11 (fun h=>?_) (fun h=>?_)|refine sP 20 (fun h=>?_) (fun h=>?_)|refine qR ?_|refine qS ?_|exact ⟨rfl,rfl⟩|fail)
theorem busyYes2_tr (p:PS) (n:Int):Tr Tryz.prog 48 [ptr 14,.int .i64 2] (FC p 2 n) (fun v K=>v=.bool true∧K=FC p 2 n):=by
 refine Tr.of Ro28 rfl ?_
 repeat' (first|refine qN ?_|refine dN ?_|refine dR ?_|refine d0 ?_|refine rT ?_|refine aX ?_|refine S_Q [] rfl rfl (QY.idxN (k:=2) rfl rfl (by decide)) ?_|refine aI (hn:=?_)|refine sP 7 (fun h=>?_) (fun h=>?_)|refine sP 11 (fun h=>?_) (fun h=>?_)|refine sP 20 (fun h=>?_) (fun h=>?_)|refine qR ?_|refine qS ?_|exact ⟨rfl,rfl⟩|fail)
theorem fbegin0_tr (p:PS) (hl:p.qs.length=3) (n:Int):Tr Tryz.prog 87 [ptr 14,.agg ⟨[.int .i64 0,.bool true,.int .i64 n,.int .i64 0,.int .i64 0,.int .i64 0,.int .i64 0,.int .i64 0]⟩,.func (.func 15) ⟨[ptr 0]⟩ ⟨[]⟩] (FN p) (fun v K=>v=.int .i64 0∧K=FC p 0 n):=by
 have hB:=busyNo_tr p 0
 have hF:=pFree_ok p 0 (by omega) (by omega) n
 have hN:=pNow_tr p
 refine Tr.of Ro36 rfl ?_
 repeat' (first|refine qN ?_|refine dN ?_|refine d0 ?_|refine qT ?_|refine qU ?_|refine qL ?_|refine qK ?_|refine iF (fun h=>?_) (fun h=>?_)|refine aX ?_|refine cP K18 (hB) ?_|refine aI (hn:=?_)|refine qR ?_|refine qS ?_|exact ⟨rfl,rfl⟩|fail)
 refine cV K14 hF ?_
 conv=>whnf
 repeat' (first|refine qN ?_|refine dN ?_|refine d0 ?_|refine qT ?_|refine qU ?_|refine qL ?_|refine qK ?_|refine iF (fun h=>?_) (fun h=>?_)|refine aX ?_|refine cP K14 (hN) ?_|(refine S_E [] rfl rfl (esafe_ok rfl) ?_; rintro _ _ ⟨rfl,rfl⟩; refine ⟨(by repeat' (first|exact trivial|refine ⟨⟨qsafe_ok (st:=[]) rfl,Sure.of rfl⟩,?_⟩|refine ⟨.inl rfl,?_⟩|refine ⟨.inr ⟨qsafe_ok (st:=[]) rfl,Sure.of rfl⟩,?_⟩|refine ⟨⟨qsafe_ok (st:=[]) rfl,Sure.slice (by omega)⟩,?_⟩|refine ⟨.inr ⟨qsafe_ok (st:=[]) rfl,Sure.slice (by omega)⟩,?_⟩|refine ⟨.inr ⟨QY.neqB rfl (by kernel_rfl) rfl rfl,Sure.of rfl⟩,?_⟩|refine ⟨.inr ⟨QY.eqlB rfl (by kernel_rfl) rfl rfl,Sure.of rfl⟩,?_⟩ | fail)),LSt.nf ?_⟩; conv=>whnf)|refine S_Q [] rfl rfl (QY.idxN (k:=0) rfl rfl (by decide)) ?_|refine aI (hn:=?_)|refine qR ?_|refine qS ?_|exact ⟨rfl,rfl⟩|fail)
 exact L_ret (RetQ.pick [0,1,2,3,4,5,6,7,8,9,10,11,12,13,14,15,16,17,20,19] rfl rfl rfl rfl ⟨rfl,rfl⟩)
theorem fFree0_tr (p:PS) (hl:p.qs.length=3) (n:Int):Tr Tryz.prog 46 [ptr 14,.int .i64 0,.int .i64 n] (FN p) (fun v K=>v=.int .i64 0∧K=FC p 0 n):=by
 have hP:=fPool_tr p
 have hB:=fbegin0_tr p hl n
 refine Tr.of Ro29 rfl ?_
 repeat' (first|refine qN ?_|refine dN ?_|refine d0 ?_|(refine cF K18 (hP) ?_; conv=>whnf)|(refine cF K18 (hB) ?_; conv=>whnf)|refine aI (hn:=?_)|refine qR ?_|refine qS ?_|exact ⟨rfl,rfl⟩|fail)
 exact L_ret (RetQ.pick K20 rfl rfl rfl rfl ⟨rfl,rfl⟩)
theorem fbegin1_tr (p:PS) (hl:p.qs.length=3) (n:Int):Tr Tryz.prog 87 [ptr 14,.agg ⟨[.int .i64 1,.bool true,.int .i64 n,.int .i64 0,.int .i64 0,.int .i64 0,.int .i64 0,.int .i64 0]⟩,.func (.func 15) ⟨[ptr 0]⟩ ⟨[]⟩] (FN p) (fun v K=>v=.int .i64 0∧K=FC p 1 n):=by
 have hB:=busyNo_tr p 1
 have hF:=pFree_ok p 1 (by omega) (by omega) n
 have hN:=pNow_tr p
 refine Tr.of Ro36 rfl ?_
 repeat' (first|refine qN ?_|refine dN ?_|refine d0 ?_|refine qT ?_|refine qU ?_|refine qL ?_|refine qK ?_|refine iF (fun h=>?_) (fun h=>?_)|refine aX ?_|refine cP K18 (hB) ?_|refine aI (hn:=?_)|refine qR ?_|refine qS ?_|exact ⟨rfl,rfl⟩|fail)
 refine cV K14 hF ?_
 conv=>whnf
 repeat' (first|refine qN ?_|refine dN ?_|refine d0 ?_|refine qT ?_|refine qU ?_|refine qL ?_|refine qK ?_|refine iF (fun h=>?_) (fun h=>?_)|refine aX ?_|refine cP K14 (hN) ?_|(refine S_E [] rfl rfl (esafe_ok rfl) ?_; rintro _ _ ⟨rfl,rfl⟩; refine ⟨(by repeat' (first|exact trivial|refine ⟨⟨qsafe_ok (st:=[]) rfl,Sure.of rfl⟩,?_⟩|refine ⟨.inl rfl,?_⟩|refine ⟨.inr ⟨qsafe_ok (st:=[]) rfl,Sure.of rfl⟩,?_⟩|refine ⟨⟨qsafe_ok (st:=[]) rfl,Sure.slice (by omega)⟩,?_⟩|refine ⟨.inr ⟨qsafe_ok (st:=[]) rfl,Sure.slice (by omega)⟩,?_⟩|refine ⟨.inr ⟨QY.neqB rfl (by kernel_rfl) rfl rfl,Sure.of rfl⟩,?_⟩|refine ⟨.inr ⟨QY.eqlB rfl (by kernel_rfl) rfl rfl,Sure.of rfl⟩,?_⟩ | fail)),LSt.nf ?_⟩; conv=>whnf)|refine S_Q [] rfl rfl (QY.idxN (k:=1) rfl rfl (by decide)) ?_|refine aI (hn:=?_)|refine qR ?_|refine qS ?_|exact ⟨rfl,rfl⟩|fail)
 exact L_ret (RetQ.pick [0,1,2,3,4,5,6,7,8,9,10,11,12,13,14,15,16,17,20,19] rfl rfl rfl rfl ⟨rfl,rfl⟩)
theorem fFree1_tr (p:PS) (hl:p.qs.length=3) (n:Int):Tr Tryz.prog 46 [ptr 14,.int .i64 1,.int .i64 n] (FN p) (fun v K=>v=.int .i64 0∧K=FC p 1 n):=by
 have hP:=fPool_tr p
 have hB:=fbegin1_tr p hl n
 refine Tr.of Ro29 rfl ?_
 repeat' (first|refine qN ?_|refine dN ?_|refine d0 ?_|(refine cF K18 (hP) ?_; conv=>whnf)|(refine cF K18 (hB) ?_; conv=>whnf)|refine aI (hn:=?_)|refine qR ?_|refine qS ?_|exact ⟨rfl,rfl⟩|fail)
 exact L_ret (RetQ.pick K20 rfl rfl rfl rfl ⟨rfl,rfl⟩)
theorem fbegin2_tr (p:PS) (hl:p.qs.length=3) (n:Int):Tr Tryz.prog 87 [ptr 14,.agg ⟨[.int .i64 2,.bool true,.int .i64 n,.int .i64 0,.int .i64 0,.int .i64 0,.int .i64 0,.int .i64 0]⟩,.func (.func 15) ⟨[ptr 0]⟩ ⟨[]⟩] (FN p) (fun v K=>v=.int .i64 0∧K=FC p 2 n):=by
 have hB:=busyNo_tr p 2
 have hF:=pFree_ok p 2 (by omega) (by omega) n
 have hN:=pNow_tr p
 refine Tr.of Ro36 rfl ?_
 repeat' (first|refine qN ?_|refine dN ?_|refine d0 ?_|refine qT ?_|refine qU ?_|refine qL ?_|refine qK ?_|refine iF (fun h=>?_) (fun h=>?_)|refine aX ?_|refine cP K18 (hB) ?_|refine aI (hn:=?_)|refine qR ?_|refine qS ?_|exact ⟨rfl,rfl⟩|fail)
 refine cV K14 hF ?_
 conv=>whnf
 repeat' (first|refine qN ?_|refine dN ?_|refine d0 ?_|refine qT ?_|refine qU ?_|refine qL ?_|refine qK ?_|refine iF (fun h=>?_) (fun h=>?_)|refine aX ?_|refine cP K14 (hN) ?_|(refine S_E [] rfl rfl (esafe_ok rfl) ?_; rintro _ _ ⟨rfl,rfl⟩; refine ⟨(by repeat' (first|exact trivial|refine ⟨⟨qsafe_ok (st:=[]) rfl,Sure.of rfl⟩,?_⟩|refine ⟨.inl rfl,?_⟩|refine ⟨.inr ⟨qsafe_ok (st:=[]) rfl,Sure.of rfl⟩,?_⟩|refine ⟨⟨qsafe_ok (st:=[]) rfl,Sure.slice (by omega)⟩,?_⟩|refine ⟨.inr ⟨qsafe_ok (st:=[]) rfl,Sure.slice (by omega)⟩,?_⟩|refine ⟨.inr ⟨QY.neqB rfl (by kernel_rfl) rfl rfl,Sure.of rfl⟩,?_⟩|refine ⟨.inr ⟨QY.eqlB rfl (by kernel_rfl) rfl rfl,Sure.of rfl⟩,?_⟩ | fail)),LSt.nf ?_⟩; conv=>whnf)|refine S_Q [] rfl rfl (QY.idxN (k:=2) rfl rfl (by decide)) ?_|refine aI (hn:=?_)|refine qR ?_|refine qS ?_|exact ⟨rfl,rfl⟩|fail)
 exact L_ret (RetQ.pick [0,1,2,3,4,5,6,7,8,9,10,11,12,13,14,15,16,17,20,19] rfl rfl rfl rfl ⟨rfl,rfl⟩)
theorem fFree2_tr (p:PS) (hl:p.qs.length=3) (n:Int):Tr Tryz.prog 46 [ptr 14,.int .i64 2,.int .i64 n] (FN p) (fun v K=>v=.int .i64 0∧K=FC p 2 n):=by
 have hP:=fPool_tr p
 have hB:=fbegin2_tr p hl n
 refine Tr.of Ro29 rfl ?_
 repeat' (first|refine qN ?_|refine dN ?_|refine d0 ?_|(refine cF K18 (hP) ?_; conv=>whnf)|(refine cF K18 (hB) ?_; conv=>whnf)|refine aI (hn:=?_)|refine qR ?_|refine qS ?_|exact ⟨rfl,rfl⟩|fail)
 exact L_ret (RetQ.pick K20 rfl rfl rfl rfl ⟨rfl,rfl⟩)
theorem fbeginNo_tr (p:PS) (hl:p.qs.length=3) (t n:Int) (ht:¬ (0≤t∧t<3)):Tr Tryz.prog 87 [ptr 14,.agg ⟨[.int .i64 t,.bool true,.int .i64 n,.int .i64 0,.int .i64 0,.int .i64 0,.int .i64 0,.int .i64 0]⟩,.func (.func 15) ⟨[ptr 0]⟩ ⟨[]⟩] (FN p) (fun v K=>v=.int .i64 1∧K=FN p):=by
 have hB:=busyNo_tr p t
 have hF:=pFree_no p t (by omega) n (by rw [hl]; exact ht)
 refine Tr.of Ro36 rfl ?_
 repeat' (first|refine qN ?_|refine dN ?_|refine d0 ?_|refine qT ?_|refine qU ?_|refine qL ?_|refine qK ?_|refine iF (fun h=>?_) (fun h=>?_)|refine aX ?_|refine cP K18 (hB) ?_|refine aI (hn:=?_)|refine qR ?_|refine qS ?_|exact ⟨rfl,rfl⟩|fail)
 refine cV K14 hF ?_
 conv=>whnf
 repeat' (first|refine qN ?_|refine dN ?_|refine d0 ?_|refine qT ?_|refine qU ?_|refine qL ?_|refine qK ?_|refine iF (fun h=>?_) (fun h=>?_)|refine aX ?_|refine aI (hn:=?_)|refine qR ?_|refine qS ?_|exact ⟨rfl,rfl⟩|fail)
 exact L_ret (RetQ.pick K18 rfl rfl rfl rfl ⟨rfl,rfl⟩)
theorem fFreeNo_tr (p:PS) (hl:p.qs.length=3) (t n:Int) (ht:¬ (0≤t∧t<3)):Tr Tryz.prog 46 [ptr 14,.int .i64 t,.int .i64 n] (FN p) (fun v K=>v=.int .i64 1∧K=FN p):=by
 have hP:=fPool_tr p
 have hB:=fbeginNo_tr p hl t n ht
 refine Tr.of Ro29 rfl ?_
 repeat' (first|refine qN ?_|refine dN ?_|refine d0 ?_|(refine cF K18 (hP) ?_; conv=>whnf)|(refine cF K18 (hB) ?_; conv=>whnf)|refine aI (hn:=?_)|refine qR ?_|refine qS ?_|exact ⟨rfl,rfl⟩|fail)
 exact L_ret (RetQ.pick K18 rfl rfl rfl rfl ⟨rfl,rfl⟩)
theorem fStepNo_tr (p:PS) (t:Int):Tr Tryz.prog 47 [ptr 14,.int .i64 t] (FN p) (fun v K=>v=.bool false∧K=FN p):=by
 have hB:=busyNo_tr p t
 refine Tr.of Ro35 rfl ?_
 repeat' (first|refine qN ?_|refine dN ?_|refine d0 ?_|refine qT ?_|refine qU ?_|refine qL ?_|refine qK ?_|refine iF (fun h=>?_) (fun h=>?_)|refine aX ?_|refine cP K18 (hB) ?_|refine aI (hn:=?_)|refine qR ?_|refine qS ?_|exact ⟨rfl,rfl⟩|fail)
 exact L_ret (RetQ.pick K18 rfl rfl rfl rfl ⟨rfl,rfl⟩)
theorem newP_ok {m g:Nat} {sd:BitVec 64} {n:Nat} {ba wa:Int} {p:PS} (h:NewP m g sd n ba wa p) (h1:m+g≤256) (h2:1≤m+g) (hn:1≤n∧n≤64):p.Ok n 0:=by
 obtain ⟨a,b,g0,g1,m0,hr⟩:=h.r
 refine ⟨by rw [hr]; exact newR_ok h2 h1,fun x hx=>by rw [h.q x hx]; exact newQ_ok wa,by rw [h.ml]; exact Remote.new_ok _ _,h.qn,?_,hn,by rw [h.now]; exact Int.le_refl 0,by rw [h.rs]; exact Nat.zero_le _⟩
 rw [h.ml]; show (min (max (n:Int) 0) 64).toNat=n; omega
set_option maxHeartbeats 2000000 in
theorem fStep0_tr (p:PS) (hp:NewP 1 0 0#64 3 0 0 p) (n:Int) (hn:n<9223372036854775808):TrK Tryz.prog [] [14,16] 47 [ptr 14,.int .i64 0] (FC p 0 n) (fun v K=>v=.bool true∧K=List.replicate 20 .dead):=by
 refine Tr.deadA (keep:=[14,16]) (L:=FC p 0 n) ?_
 have hB:=busyYes0_tr p n
 have hS:=tStep_tr ⟨0,n,some fLook,-1,0,0⟩ fLook rfl p (n:=3) (j:=0) (newP_ok hp (by decide) (by decide) (by decide)) ⟨by show 0<3; decide,hn,fun g h=>by cases h; unfold nxs; decide⟩ (by decide) (by rw [hp.now]; decide)
 refine Tr.of Ro35 rfl ?_
 repeat' (first|refine qN ?_|refine dN ?_|refine d0 ?_|refine qT ?_|refine qU ?_|refine qL ?_|refine qK ?_|refine iF (fun h=>?_) (fun h=>?_)|refine aX ?_|refine cP K20 (hB) ?_|refine S_Q [] rfl rfl (QY.idxN (k:=0) rfl rfl (by decide)) ?_|refine aI (hn:=?_)|refine qR ?_|refine qS ?_|exact ⟨rfl,rfl⟩|fail)
 refine cX (ι:=TK × PS) (C:=EvGo _ p.tick) (V:=fun s=>.bool s.1.nx.isNone) (B:=fun s=>TPL s.1 s.2) [19,0,1,2,3,4,5,6,7,8,9,10,11,12,13] hS (fun s hs=>?_)
 conv=>whnf
 have hM:=tMoment_tr s.1 s.2
 have hA:=tAt_tr s.1 s.2
 have hF:=tFault_tr s.1 s.2
 have hN:=pNow_tr s.2
 clear hs hS hB
 obtain ⟨⟨kt',ka',nx',kat',kf',km'⟩,p'⟩:=s
 cases nx'
 ·repeat' (first|refine qN ?_|refine dN ?_|refine d0 ?_|refine qT ?_|refine qU ?_|refine qL ?_|refine qK ?_|refine iF (fun h=>?_) (fun h=>?_)|refine aX ?_|refine cP [19,0,1,2,3,4,5,6,7,8,9,10,11,12,13] (hM) ?_|refine cP [19,0,1,2,3,4,5,6,7,8,9,10,11,12,13] (hA) ?_|refine cP [19,0,1,2,3,4,5,6,7,8,9,10,11,12,13] (hF) ?_|refine cP K14 (hN) ?_|(refine S_E [] rfl rfl (esafe_ok rfl) ?_; rintro _ _ ⟨rfl,rfl⟩; refine ⟨(by repeat' (first|exact trivial|refine ⟨⟨qsafe_ok (st:=[]) rfl,Sure.of rfl⟩,?_⟩|refine ⟨.inl rfl,?_⟩|refine ⟨.inr ⟨qsafe_ok (st:=[]) rfl,Sure.of rfl⟩,?_⟩|refine ⟨⟨qsafe_ok (st:=[]) rfl,Sure.slice (by omega)⟩,?_⟩|refine ⟨.inr ⟨qsafe_ok (st:=[]) rfl,Sure.slice (by omega)⟩,?_⟩|refine ⟨.inr ⟨QY.neqB rfl (by kernel_rfl) rfl rfl,Sure.of rfl⟩,?_⟩|refine ⟨.inr ⟨QY.eqlB rfl (by kernel_rfl) rfl rfl,Sure.of rfl⟩,?_⟩ | fail)),LSt.nf ?_⟩; conv=>whnf)|refine S_Q [] rfl rfl (QY.idxN (k:=0) rfl rfl (by decide)) ?_|(refine S_E [] rfl rfl (EW.of (by rfl)) ?_; rintro _ _ ⟨rfl,rfl⟩; refine ⟨(by repeat' (first|exact trivial|refine ⟨⟨qsafe_ok (st:=[]) rfl,Sure.of rfl⟩,?_⟩|refine ⟨.inl rfl,?_⟩|refine ⟨.inr ⟨qsafe_ok (st:=[]) rfl,Sure.of rfl⟩,?_⟩|refine ⟨⟨qsafe_ok (st:=[]) rfl,Sure.slice (by omega)⟩,?_⟩|refine ⟨.inr ⟨qsafe_ok (st:=[]) rfl,Sure.slice (by omega)⟩,?_⟩|refine ⟨.inr ⟨QY.neqB rfl (by kernel_rfl) rfl rfl,Sure.of rfl⟩,?_⟩|refine ⟨.inr ⟨QY.eqlB rfl (by kernel_rfl) rfl rfl,Sure.of rfl⟩,?_⟩ | fail)),LSt.nf ?_⟩; conv=>whnf)|refine aI (hn:=?_)|refine qR ?_|refine qS ?_|exact ⟨rfl,rfl⟩|fail)
  exact LWp.wk (wk_dead 14 rfl) (L_ret (RetQ.pick K20 rfl rfl rfl rfl rfl))
 ·repeat' (first|refine qN ?_|refine dN ?_|refine d0 ?_|refine qT ?_|refine qU ?_|refine qL ?_|refine qK ?_|refine iF (fun h=>?_) (fun h=>?_)|refine aX ?_|refine cP [19,0,1,2,3,4,5,6,7,8,9,10,11,12,13] (hM) ?_|refine aI (hn:=?_)|refine qR ?_|refine qS ?_|exact ⟨rfl,rfl⟩|fail)
  exact LWp.wk (wk_dead 14 rfl) (L_ret (RetQ.pick K20 rfl rfl rfl rfl rfl))
set_option maxHeartbeats 2000000 in
theorem fStep1_tr (p:PS) (hp:NewP 1 0 0#64 3 0 0 p) (n:Int) (hn:n<9223372036854775808):TrK Tryz.prog [] [14,16] 47 [ptr 14,.int .i64 1] (FC p 1 n) (fun v K=>v=.bool true∧K=List.replicate 20 .dead):=by
 refine Tr.deadA (keep:=[14,16]) (L:=FC p 1 n) ?_
 have hB:=busyYes1_tr p n
 have hS:=tStep_tr ⟨1,n,some fLook,-1,0,0⟩ fLook rfl p (n:=3) (j:=0) (newP_ok hp (by decide) (by decide) (by decide)) ⟨by show 1<3; decide,hn,fun g h=>by cases h; unfold nxs; decide⟩ (by decide) (by rw [hp.now]; decide)
 refine Tr.of Ro35 rfl ?_
 repeat' (first|refine qN ?_|refine dN ?_|refine d0 ?_|refine qT ?_|refine qU ?_|refine qL ?_|refine qK ?_|refine iF (fun h=>?_) (fun h=>?_)|refine aX ?_|refine cP K20 (hB) ?_|refine S_Q [] rfl rfl (QY.idxN (k:=1) rfl rfl (by decide)) ?_|refine aI (hn:=?_)|refine qR ?_|refine qS ?_|exact ⟨rfl,rfl⟩|fail)
 refine cX (ι:=TK × PS) (C:=EvGo _ p.tick) (V:=fun s=>.bool s.1.nx.isNone) (B:=fun s=>TPL s.1 s.2) [19,0,1,2,3,4,5,6,7,8,9,10,11,12,13] hS (fun s hs=>?_)
 conv=>whnf
 have hM:=tMoment_tr s.1 s.2
 have hA:=tAt_tr s.1 s.2
 have hF:=tFault_tr s.1 s.2
 have hN:=pNow_tr s.2
 clear hs hS hB
 obtain ⟨⟨kt',ka',nx',kat',kf',km'⟩,p'⟩:=s
 cases nx'
 ·repeat' (first|refine qN ?_|refine dN ?_|refine d0 ?_|refine qT ?_|refine qU ?_|refine qL ?_|refine qK ?_|refine iF (fun h=>?_) (fun h=>?_)|refine aX ?_|refine cP [19,0,1,2,3,4,5,6,7,8,9,10,11,12,13] (hM) ?_|refine cP [19,0,1,2,3,4,5,6,7,8,9,10,11,12,13] (hA) ?_|refine cP [19,0,1,2,3,4,5,6,7,8,9,10,11,12,13] (hF) ?_|refine cP K14 (hN) ?_|(refine S_E [] rfl rfl (esafe_ok rfl) ?_; rintro _ _ ⟨rfl,rfl⟩; refine ⟨(by repeat' (first|exact trivial|refine ⟨⟨qsafe_ok (st:=[]) rfl,Sure.of rfl⟩,?_⟩|refine ⟨.inl rfl,?_⟩|refine ⟨.inr ⟨qsafe_ok (st:=[]) rfl,Sure.of rfl⟩,?_⟩|refine ⟨⟨qsafe_ok (st:=[]) rfl,Sure.slice (by omega)⟩,?_⟩|refine ⟨.inr ⟨qsafe_ok (st:=[]) rfl,Sure.slice (by omega)⟩,?_⟩|refine ⟨.inr ⟨QY.neqB rfl (by kernel_rfl) rfl rfl,Sure.of rfl⟩,?_⟩|refine ⟨.inr ⟨QY.eqlB rfl (by kernel_rfl) rfl rfl,Sure.of rfl⟩,?_⟩ | fail)),LSt.nf ?_⟩; conv=>whnf)|refine S_Q [] rfl rfl (QY.idxN (k:=1) rfl rfl (by decide)) ?_|(refine S_E [] rfl rfl (EW.of (by rfl)) ?_; rintro _ _ ⟨rfl,rfl⟩; refine ⟨(by repeat' (first|exact trivial|refine ⟨⟨qsafe_ok (st:=[]) rfl,Sure.of rfl⟩,?_⟩|refine ⟨.inl rfl,?_⟩|refine ⟨.inr ⟨qsafe_ok (st:=[]) rfl,Sure.of rfl⟩,?_⟩|refine ⟨⟨qsafe_ok (st:=[]) rfl,Sure.slice (by omega)⟩,?_⟩|refine ⟨.inr ⟨qsafe_ok (st:=[]) rfl,Sure.slice (by omega)⟩,?_⟩|refine ⟨.inr ⟨QY.neqB rfl (by kernel_rfl) rfl rfl,Sure.of rfl⟩,?_⟩|refine ⟨.inr ⟨QY.eqlB rfl (by kernel_rfl) rfl rfl,Sure.of rfl⟩,?_⟩ | fail)),LSt.nf ?_⟩; conv=>whnf)|refine aI (hn:=?_)|refine qR ?_|refine qS ?_|exact ⟨rfl,rfl⟩|fail)
  exact LWp.wk (wk_dead 14 rfl) (L_ret (RetQ.pick K20 rfl rfl rfl rfl rfl))
 ·repeat' (first|refine qN ?_|refine dN ?_|refine d0 ?_|refine qT ?_|refine qU ?_|refine qL ?_|refine qK ?_|refine iF (fun h=>?_) (fun h=>?_)|refine aX ?_|refine cP [19,0,1,2,3,4,5,6,7,8,9,10,11,12,13] (hM) ?_|refine aI (hn:=?_)|refine qR ?_|refine qS ?_|exact ⟨rfl,rfl⟩|fail)
  exact LWp.wk (wk_dead 14 rfl) (L_ret (RetQ.pick K20 rfl rfl rfl rfl rfl))
set_option maxHeartbeats 2000000 in
theorem fStep2_tr (p:PS) (hp:NewP 1 0 0#64 3 0 0 p) (n:Int) (hn:n<9223372036854775808):TrK Tryz.prog [] [14,16] 47 [ptr 14,.int .i64 2] (FC p 2 n) (fun v K=>v=.bool true∧K=List.replicate 20 .dead):=by
 refine Tr.deadA (keep:=[14,16]) (L:=FC p 2 n) ?_
 have hB:=busyYes2_tr p n
 have hS:=tStep_tr ⟨2,n,some fLook,-1,0,0⟩ fLook rfl p (n:=3) (j:=0) (newP_ok hp (by decide) (by decide) (by decide)) ⟨by show 2<3; decide,hn,fun g h=>by cases h; unfold nxs; decide⟩ (by decide) (by rw [hp.now]; decide)
 refine Tr.of Ro35 rfl ?_
 repeat' (first|refine qN ?_|refine dN ?_|refine d0 ?_|refine qT ?_|refine qU ?_|refine qL ?_|refine qK ?_|refine iF (fun h=>?_) (fun h=>?_)|refine aX ?_|refine cP K20 (hB) ?_|refine S_Q [] rfl rfl (QY.idxN (k:=2) rfl rfl (by decide)) ?_|refine aI (hn:=?_)|refine qR ?_|refine qS ?_|exact ⟨rfl,rfl⟩|fail)
 refine cX (ι:=TK × PS) (C:=EvGo _ p.tick) (V:=fun s=>.bool s.1.nx.isNone) (B:=fun s=>TPL s.1 s.2) [19,0,1,2,3,4,5,6,7,8,9,10,11,12,13] hS (fun s hs=>?_)
 conv=>whnf
 have hM:=tMoment_tr s.1 s.2
 have hA:=tAt_tr s.1 s.2
 have hF:=tFault_tr s.1 s.2
 have hN:=pNow_tr s.2
 clear hs hS hB
 obtain ⟨⟨kt',ka',nx',kat',kf',km'⟩,p'⟩:=s
 cases nx'
 ·repeat' (first|refine qN ?_|refine dN ?_|refine d0 ?_|refine qT ?_|refine qU ?_|refine qL ?_|refine qK ?_|refine iF (fun h=>?_) (fun h=>?_)|refine aX ?_|refine cP [19,0,1,2,3,4,5,6,7,8,9,10,11,12,13] (hM) ?_|refine cP [19,0,1,2,3,4,5,6,7,8,9,10,11,12,13] (hA) ?_|refine cP [19,0,1,2,3,4,5,6,7,8,9,10,11,12,13] (hF) ?_|refine cP K14 (hN) ?_|(refine S_E [] rfl rfl (esafe_ok rfl) ?_; rintro _ _ ⟨rfl,rfl⟩; refine ⟨(by repeat' (first|exact trivial|refine ⟨⟨qsafe_ok (st:=[]) rfl,Sure.of rfl⟩,?_⟩|refine ⟨.inl rfl,?_⟩|refine ⟨.inr ⟨qsafe_ok (st:=[]) rfl,Sure.of rfl⟩,?_⟩|refine ⟨⟨qsafe_ok (st:=[]) rfl,Sure.slice (by omega)⟩,?_⟩|refine ⟨.inr ⟨qsafe_ok (st:=[]) rfl,Sure.slice (by omega)⟩,?_⟩|refine ⟨.inr ⟨QY.neqB rfl (by kernel_rfl) rfl rfl,Sure.of rfl⟩,?_⟩|refine ⟨.inr ⟨QY.eqlB rfl (by kernel_rfl) rfl rfl,Sure.of rfl⟩,?_⟩ | fail)),LSt.nf ?_⟩; conv=>whnf)|refine S_Q [] rfl rfl (QY.idxN (k:=2) rfl rfl (by decide)) ?_|(refine S_E [] rfl rfl (EW.of (by rfl)) ?_; rintro _ _ ⟨rfl,rfl⟩; refine ⟨(by repeat' (first|exact trivial|refine ⟨⟨qsafe_ok (st:=[]) rfl,Sure.of rfl⟩,?_⟩|refine ⟨.inl rfl,?_⟩|refine ⟨.inr ⟨qsafe_ok (st:=[]) rfl,Sure.of rfl⟩,?_⟩|refine ⟨⟨qsafe_ok (st:=[]) rfl,Sure.slice (by omega)⟩,?_⟩|refine ⟨.inr ⟨qsafe_ok (st:=[]) rfl,Sure.slice (by omega)⟩,?_⟩|refine ⟨.inr ⟨QY.neqB rfl (by kernel_rfl) rfl rfl,Sure.of rfl⟩,?_⟩|refine ⟨.inr ⟨QY.eqlB rfl (by kernel_rfl) rfl rfl,Sure.of rfl⟩,?_⟩ | fail)),LSt.nf ?_⟩; conv=>whnf)|refine aI (hn:=?_)|refine qR ?_|refine qS ?_|exact ⟨rfl,rfl⟩|fail)
  exact LWp.wk (wk_dead 14 rfl) (L_ret (RetQ.pick K20 rfl rfl rfl rfl rfl))
 ·repeat' (first|refine qN ?_|refine dN ?_|refine d0 ?_|refine qT ?_|refine qU ?_|refine qL ?_|refine qK ?_|refine iF (fun h=>?_) (fun h=>?_)|refine aX ?_|refine cP [19,0,1,2,3,4,5,6,7,8,9,10,11,12,13] (hM) ?_|refine aI (hn:=?_)|refine qR ?_|refine qS ?_|exact ⟨rfl,rfl⟩|fail)
  exact LWp.wk (wk_dead 14 rfl) (L_ret (RetQ.pick K20 rfl rfl rfl rfl rfl))
set_option maxHeartbeats 8000000 in
theorem FlowNil_no (t n:Int) (hn:n<9223372036854775808) (ht:¬ (0≤t∧t<3)):Tr Tryz.prog 10 [.int .i64 t,.int .i64 n] [] (fun v _=>v=.bool true):=by
 have hN:=zNew_tr
 have hS:=zSmall_tr
 have zMa:=zMalloc_tr t n
 have zFr:=zFree_tr t n
 have zSt:=zStep_tr t
 have zBu:=zBusy_tr t
 have zHi:=zHistory_tr 0
 have zPe:=zPending_tr 0
 have zRe:=zRest_tr n
 have zPo:=zPool_tr 0
 have hAw:=awake14_tr
 refine Tr.of Ro134 rfl ?_
 repeat' (first|refine qN ?_|refine dN ?_|refine d0 ?_|refine qT ?_|refine qU ?_|refine qL ?_|refine qK ?_|refine iF (fun h=>?_) (fun h=>?_)|(refine cF [] (hN) ?_; conv=>whnf)|refine cP [] (hS) ?_|refine aI (hn:=?_)|refine sP 22 (fun h=>?_) (fun h=>?_)|refine sP 28 (fun h=>?_) (fun h=>?_)|refine sP 32 (fun h=>?_) (fun h=>?_)|refine sP 39 (fun h=>?_) (fun h=>?_)|refine sP 46 (fun h=>?_) (fun h=>?_)|refine sP 52 (fun h=>?_) (fun h=>?_)|refine sP 58 (fun h=>?_) (fun h=>?_)|refine sP 64 (fun h=>?_) (fun h=>?_)|refine sP 70 (fun h=>?_) (fun h=>?_)|refine sP 76 (fun h=>?_) (fun h=>?_)|refine sP 81 (fun h=>?_) (fun h=>?_)|refine sP 93 (fun h=>?_) (fun h=>?_)|refine sP 103 (fun h=>?_) (fun h=>?_)|refine sP 113 (fun h=>?_) (fun h=>?_)|refine qR ?_|refine qS ?_|exact ⟨rfl,rfl⟩|fail)
 refine cX (ι:=PS) (C:=NewP 1 0 0#64 3 0 0) (V:=fun _=>ptr 16) (B:=FN) [] begin14z_tr (fun p hp=>?_)
 conv=>whnf
 have hl:p.qs.length=3:=hp.qn
 have hF:=fFreeNo_tr p hl t n ht
 have hB:=busyNo_tr p t
 have hT:=fStepNo_tr p t
 repeat' (first|refine qN ?_|refine dN ?_|refine dR ?_|refine d0 ?_|refine rT ?_|refine qT ?_|refine qU ?_|refine qL ?_|refine qK ?_|refine iF (fun h=>?_) (fun h=>?_)|refine cP [] (zMa) ?_|refine cP [] (zFr) ?_|refine cP [] (zSt) ?_|refine cP [] (zBu) ?_|(refine cF [] (zHi) ?_; conv=>whnf)|(refine cF [] (zPe) ?_; conv=>whnf)|refine cP [] (zRe) ?_|(refine cF [] (zPo) ?_; conv=>whnf)|refine cP K18 (hF) ?_|refine cP K18 (hB) ?_|refine cP K18 (hT) ?_|refine S_Q [] rfl rfl (QY.eqlB rfl (by kernel_rfl) rfl rfl) ?_|refine cP [] (hAw) ?_|refine aI (hn:=?_)|refine sP 22 (fun h=>?_) (fun h=>?_)|refine sP 28 (fun h=>?_) (fun h=>?_)|refine sP 32 (fun h=>?_) (fun h=>?_)|refine sP 39 (fun h=>?_) (fun h=>?_)|refine sP 46 (fun h=>?_) (fun h=>?_)|refine sP 52 (fun h=>?_) (fun h=>?_)|refine sP 58 (fun h=>?_) (fun h=>?_)|refine sP 64 (fun h=>?_) (fun h=>?_)|refine sP 70 (fun h=>?_) (fun h=>?_)|refine sP 76 (fun h=>?_) (fun h=>?_)|refine sP 81 (fun h=>?_) (fun h=>?_)|refine sP 93 (fun h=>?_) (fun h=>?_)|refine sP 103 (fun h=>?_) (fun h=>?_)|refine sP 113 (fun h=>?_) (fun h=>?_)|refine qR ?_|refine qS ?_|exact ⟨rfl,rfl⟩|fail)
 all_goals first|exact rfl | (exfalso; omega) | (exfalso; rename_i h; apply h; simp; omega) | (exfalso; rename_i h; apply h; simp) | (exfalso; rename_i h; simp at h; omega)
set_option maxHeartbeats 8000000 in
theorem FlowNil0 (n:Int) (hn:n<9223372036854775808):Tr Tryz.prog 10 [.int .i64 0,.int .i64 n] [] (fun v _=>v=.bool true):=by
 have hN:=zNew_tr
 have hS:=zSmall_tr
 have zMa:=zMalloc_tr 0 n
 have zFr:=zFree_tr 0 n
 have zSt:=zStep_tr 0
 have zBu:=zBusy_tr 0
 have zHi:=zHistory_tr 0
 have zPe:=zPending_tr 0
 have zRe:=zRest_tr n
 have zPo:=zPool_tr 0
 have hAw:=awake14_tr
 refine Tr.of Ro134 rfl ?_
 repeat' (first|refine qN ?_|refine dN ?_|refine d0 ?_|refine qT ?_|refine qU ?_|refine qL ?_|refine qK ?_|refine iF (fun h=>?_) (fun h=>?_)|(refine cF [] (hN) ?_; conv=>whnf)|refine cP [] (hS) ?_|refine aI (hn:=?_)|refine sP 22 (fun h=>?_) (fun h=>?_)|refine sP 28 (fun h=>?_) (fun h=>?_)|refine sP 32 (fun h=>?_) (fun h=>?_)|refine sP 39 (fun h=>?_) (fun h=>?_)|refine sP 46 (fun h=>?_) (fun h=>?_)|refine sP 52 (fun h=>?_) (fun h=>?_)|refine sP 58 (fun h=>?_) (fun h=>?_)|refine sP 64 (fun h=>?_) (fun h=>?_)|refine sP 70 (fun h=>?_) (fun h=>?_)|refine sP 76 (fun h=>?_) (fun h=>?_)|refine sP 81 (fun h=>?_) (fun h=>?_)|refine sP 93 (fun h=>?_) (fun h=>?_)|refine sP 103 (fun h=>?_) (fun h=>?_)|refine sP 113 (fun h=>?_) (fun h=>?_)|refine qR ?_|refine qS ?_|exact ⟨rfl,rfl⟩|fail)
 refine cX (ι:=PS) (C:=NewP 1 0 0#64 3 0 0) (V:=fun _=>ptr 16) (B:=FN) [] begin14z_tr (fun p hp=>?_)
 conv=>whnf
 have hl:p.qs.length=3:=hp.qn
 have hF:=fFree0_tr p hl n
 have hB:=busyYes0_tr p n
 have hT:=fStep0_tr p hp n hn
 repeat' (first|refine qN ?_|refine dN ?_|refine dR ?_|refine d0 ?_|refine rT ?_|refine qT ?_|refine qU ?_|refine qL ?_|refine qK ?_|refine iF (fun h=>?_) (fun h=>?_)|refine cP [] (zMa) ?_|refine cP [] (zFr) ?_|refine cP [] (zSt) ?_|refine cP [] (zBu) ?_|(refine cF [] (zHi) ?_; conv=>whnf)|(refine cF [] (zPe) ?_; conv=>whnf)|refine cP [] (zRe) ?_|(refine cF [] (zPo) ?_; conv=>whnf)|(refine cF K18 (hF) ?_; conv=>whnf)|refine cP K20 (hB) ?_|(refine cW K20 (hT) ?_; conv=>whnf)|refine S_Q [] rfl rfl (QY.eqlB rfl (by kernel_rfl) rfl rfl) ?_|refine cP [] (hAw) ?_|refine aI (hn:=?_)|refine sP 22 (fun h=>?_) (fun h=>?_)|refine sP 28 (fun h=>?_) (fun h=>?_)|refine sP 32 (fun h=>?_) (fun h=>?_)|refine sP 39 (fun h=>?_) (fun h=>?_)|refine sP 46 (fun h=>?_) (fun h=>?_)|refine sP 52 (fun h=>?_) (fun h=>?_)|refine sP 58 (fun h=>?_) (fun h=>?_)|refine sP 64 (fun h=>?_) (fun h=>?_)|refine sP 70 (fun h=>?_) (fun h=>?_)|refine sP 76 (fun h=>?_) (fun h=>?_)|refine sP 81 (fun h=>?_) (fun h=>?_)|refine sP 93 (fun h=>?_) (fun h=>?_)|refine sP 103 (fun h=>?_) (fun h=>?_)|refine sP 113 (fun h=>?_) (fun h=>?_)|refine qR ?_|refine qS ?_|exact ⟨rfl,rfl⟩|fail)
 all_goals first|exact rfl | (exfalso; omega) | (exfalso; rename_i h; apply h; simp; omega) | (exfalso; rename_i h; apply h; simp) | (exfalso; rename_i h; simp at h; omega)
set_option maxHeartbeats 8000000 in
theorem FlowNil1 (n:Int) (hn:n<9223372036854775808):Tr Tryz.prog 10 [.int .i64 1,.int .i64 n] [] (fun v _=>v=.bool true):=by
 have hN:=zNew_tr
 have hS:=zSmall_tr
 have zMa:=zMalloc_tr 1 n
 have zFr:=zFree_tr 1 n
 have zSt:=zStep_tr 1
 have zBu:=zBusy_tr 1
 have zHi:=zHistory_tr 0
 have zPe:=zPending_tr 0
 have zRe:=zRest_tr n
 have zPo:=zPool_tr 0
 have hAw:=awake14_tr
 refine Tr.of Ro134 rfl ?_
 repeat' (first|refine qN ?_|refine dN ?_|refine d0 ?_|refine qT ?_|refine qU ?_|refine qL ?_|refine qK ?_|refine iF (fun h=>?_) (fun h=>?_)|(refine cF [] (hN) ?_; conv=>whnf)|refine cP [] (hS) ?_|refine aI (hn:=?_)|refine sP 22 (fun h=>?_) (fun h=>?_)|refine sP 28 (fun h=>?_) (fun h=>?_)|refine sP 32 (fun h=>?_) (fun h=>?_)|refine sP 39 (fun h=>?_) (fun h=>?_)|refine sP 46 (fun h=>?_) (fun h=>?_)|refine sP 52 (fun h=>?_) (fun h=>?_)|refine sP 58 (fun h=>?_) (fun h=>?_)|refine sP 64 (fun h=>?_) (fun h=>?_)|refine sP 70 (fun h=>?_) (fun h=>?_)|refine sP 76 (fun h=>?_) (fun h=>?_)|refine sP 81 (fun h=>?_) (fun h=>?_)|refine sP 93 (fun h=>?_) (fun h=>?_)|refine sP 103 (fun h=>?_) (fun h=>?_)|refine sP 113 (fun h=>?_) (fun h=>?_)|refine qR ?_|refine qS ?_|exact ⟨rfl,rfl⟩|fail)
 refine cX (ι:=PS) (C:=NewP 1 0 0#64 3 0 0) (V:=fun _=>ptr 16) (B:=FN) [] begin14z_tr (fun p hp=>?_)
 conv=>whnf
 have hl:p.qs.length=3:=hp.qn
 have hF:=fFree1_tr p hl n
 have hB:=busyYes1_tr p n
 have hT:=fStep1_tr p hp n hn
 repeat' (first|refine qN ?_|refine dN ?_|refine dR ?_|refine d0 ?_|refine rT ?_|refine qT ?_|refine qU ?_|refine qL ?_|refine qK ?_|refine iF (fun h=>?_) (fun h=>?_)|refine cP [] (zMa) ?_|refine cP [] (zFr) ?_|refine cP [] (zSt) ?_|refine cP [] (zBu) ?_|(refine cF [] (zHi) ?_; conv=>whnf)|(refine cF [] (zPe) ?_; conv=>whnf)|refine cP [] (zRe) ?_|(refine cF [] (zPo) ?_; conv=>whnf)|(refine cF K18 (hF) ?_; conv=>whnf)|refine cP K20 (hB) ?_|(refine cW K20 (hT) ?_; conv=>whnf)|refine S_Q [] rfl rfl (QY.eqlB rfl (by kernel_rfl) rfl rfl) ?_|refine cP [] (hAw) ?_|refine aI (hn:=?_)|refine sP 22 (fun h=>?_) (fun h=>?_)|refine sP 28 (fun h=>?_) (fun h=>?_)|refine sP 32 (fun h=>?_) (fun h=>?_)|refine sP 39 (fun h=>?_) (fun h=>?_)|refine sP 46 (fun h=>?_) (fun h=>?_)|refine sP 52 (fun h=>?_) (fun h=>?_)|refine sP 58 (fun h=>?_) (fun h=>?_)|refine sP 64 (fun h=>?_) (fun h=>?_)|refine sP 70 (fun h=>?_) (fun h=>?_)|refine sP 76 (fun h=>?_) (fun h=>?_)|refine sP 81 (fun h=>?_) (fun h=>?_)|refine sP 93 (fun h=>?_) (fun h=>?_)|refine sP 103 (fun h=>?_) (fun h=>?_)|refine sP 113 (fun h=>?_) (fun h=>?_)|refine qR ?_|refine qS ?_|exact ⟨rfl,rfl⟩|fail)
 all_goals first|exact rfl | (exfalso; omega) | (exfalso; rename_i h; apply h; simp; omega) | (exfalso; rename_i h; apply h; simp) | (exfalso; rename_i h; simp at h; omega)
set_option maxHeartbeats 8000000 in
theorem FlowNil2 (n:Int) (hn:n<9223372036854775808):Tr Tryz.prog 10 [.int .i64 2,.int .i64 n] [] (fun v _=>v=.bool true):=by
 have hN:=zNew_tr
 have hS:=zSmall_tr
 have zMa:=zMalloc_tr 2 n
 have zFr:=zFree_tr 2 n
 have zSt:=zStep_tr 2
 have zBu:=zBusy_tr 2
 have zHi:=zHistory_tr 0
 have zPe:=zPending_tr 0
 have zRe:=zRest_tr n
 have zPo:=zPool_tr 0
 have hAw:=awake14_tr
 refine Tr.of Ro134 rfl ?_
 repeat' (first|refine qN ?_|refine dN ?_|refine d0 ?_|refine qT ?_|refine qU ?_|refine qL ?_|refine qK ?_|refine iF (fun h=>?_) (fun h=>?_)|(refine cF [] (hN) ?_; conv=>whnf)|refine cP [] (hS) ?_|refine aI (hn:=?_)|refine sP 22 (fun h=>?_) (fun h=>?_)|refine sP 28 (fun h=>?_) (fun h=>?_)|refine sP 32 (fun h=>?_) (fun h=>?_)|refine sP 39 (fun h=>?_) (fun h=>?_)|refine sP 46 (fun h=>?_) (fun h=>?_)|refine sP 52 (fun h=>?_) (fun h=>?_)|refine sP 58 (fun h=>?_) (fun h=>?_)|refine sP 64 (fun h=>?_) (fun h=>?_)|refine sP 70 (fun h=>?_) (fun h=>?_)|refine sP 76 (fun h=>?_) (fun h=>?_)|refine sP 81 (fun h=>?_) (fun h=>?_)|refine sP 93 (fun h=>?_) (fun h=>?_)|refine sP 103 (fun h=>?_) (fun h=>?_)|refine sP 113 (fun h=>?_) (fun h=>?_)|refine qR ?_|refine qS ?_|exact ⟨rfl,rfl⟩|fail)
 refine cX (ι:=PS) (C:=NewP 1 0 0#64 3 0 0) (V:=fun _=>ptr 16) (B:=FN) [] begin14z_tr (fun p hp=>?_)
 conv=>whnf
 have hl:p.qs.length=3:=hp.qn
 have hF:=fFree2_tr p hl n
 have hB:=busyYes2_tr p n
 have hT:=fStep2_tr p hp n hn
 repeat' (first|refine qN ?_|refine dN ?_|refine dR ?_|refine d0 ?_|refine rT ?_|refine qT ?_|refine qU ?_|refine qL ?_|refine qK ?_|refine iF (fun h=>?_) (fun h=>?_)|refine cP [] (zMa) ?_|refine cP [] (zFr) ?_|refine cP [] (zSt) ?_|refine cP [] (zBu) ?_|(refine cF [] (zHi) ?_; conv=>whnf)|(refine cF [] (zPe) ?_; conv=>whnf)|refine cP [] (zRe) ?_|(refine cF [] (zPo) ?_; conv=>whnf)|(refine cF K18 (hF) ?_; conv=>whnf)|refine cP K20 (hB) ?_|(refine cW K20 (hT) ?_; conv=>whnf)|refine S_Q [] rfl rfl (QY.eqlB rfl (by kernel_rfl) rfl rfl) ?_|refine cP [] (hAw) ?_|refine aI (hn:=?_)|refine sP 22 (fun h=>?_) (fun h=>?_)|refine sP 28 (fun h=>?_) (fun h=>?_)|refine sP 32 (fun h=>?_) (fun h=>?_)|refine sP 39 (fun h=>?_) (fun h=>?_)|refine sP 46 (fun h=>?_) (fun h=>?_)|refine sP 52 (fun h=>?_) (fun h=>?_)|refine sP 58 (fun h=>?_) (fun h=>?_)|refine sP 64 (fun h=>?_) (fun h=>?_)|refine sP 70 (fun h=>?_) (fun h=>?_)|refine sP 76 (fun h=>?_) (fun h=>?_)|refine sP 81 (fun h=>?_) (fun h=>?_)|refine sP 93 (fun h=>?_) (fun h=>?_)|refine sP 103 (fun h=>?_) (fun h=>?_)|refine sP 113 (fun h=>?_) (fun h=>?_)|refine qR ?_|refine qS ?_|exact ⟨rfl,rfl⟩|fail)
 all_goals first|exact rfl | (exfalso; omega) | (exfalso; rename_i h; apply h; simp; omega) | (exfalso; rename_i h; apply h; simp) | (exfalso; rename_i h; simp at h; omega)
theorem FlowNil_does (w:World) (t n:Int) (hn:n<9223372036854775808):Does Tryz.prog 10 #[.int .i64 t,.int .i64 n] w fun v w'=>v=.bool true∧Fr (fun _=>False) w w':=by
 have hT:Tr Tryz.prog 10 [.int .i64 t,.int .i64 n] [] (fun v _=>v=.bool true):=by
  by_cases h:0≤t∧t<3
  ·have ht:t=0∨t=1∨t=2:=by omega
   rcases ht with rfl | rfl | rfl
   ·exact FlowNil0 n hn
   ·exact FlowNil1 n hn
   ·exact FlowNil2 n hn
  ·exact FlowNil_no t n hn h
 exact TrK.law (vs':=[.int .i64 t,.int .i64 n]) hT [] w rfl (fun x hx=>by cases hx) ⟨rfl,rfl,trivial⟩
end Go.Proofs.YtblibdfcnplfhaaGreat
end
