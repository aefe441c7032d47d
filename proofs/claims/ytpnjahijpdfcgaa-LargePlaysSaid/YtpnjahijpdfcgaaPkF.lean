/-
  What the proof leans on, part 6: of the texts RLargeC, Lw27, RLargeD, LargeP, Lw31, LargeS, LargeW, LargePlays.
-/
import Derived.Test.YtpnjahijpdfcgaaPkE
set_option linter.unusedVariables false
set_option linter.unusedSimpArgs false
set_option linter.unusedSectionVars false
section
namespace Go.Proofs.Ytpnjahijpdfcgaa
open Go Go.Tum Go.Tum.Base
set_option maxRecDepth 4000
def rPutL (gl:List RB) (p:Int) (n:Int):List RB:=gl.filter (fun x=>decide (x.page<p))++⟨p,n⟩::gl.filter (fun x=>decide (p<x.page))
set_option maxHeartbeats 1000000 in
theorem rFill_tr (key:BitVec 64) (bs:Bytes) (hb:bs.length≤65536) (gl:List RB) (p M:Nat) (h:256*(p+M)≤bs.length) (c:BitVec 8):TrK Try.prog [] [0,2] 26 [ptr 0,.int .i64 p,.int .i64 M,.int .u8 (c.toNat:Int)] (RS key bs gl) (fun v K=>v=undef∧K=RS key (overB bs (256*p) (List.replicate (256*M) c)) gl):=by
 have hl:∀ k,k≤256*M→(overB bs (256*p) (List.replicate k c)).length=bs.length:=fun k hk=>overB_length (by rw [List.length_replicate]; omega)
 refine Tr.of row_tumbrelref08_Set_fill_ok rfl ?_
 repeat' (first|refine qN ?_|refine dN ?_|refine d0 ?_|refine qB ?_|refine qT ?_|refine qU ?_|refine qL ?_|refine qK ?_|refine qF ?_|refine qE ?_|refine iF (fun h=>?_) (fun h=>?_)|refine aX ?_|refine aA ?_|refine aI (hn:=?_)|refine aM ?_|refine qR ?_|refine qS ?_|exact ⟨rfl,rfl⟩|fail)
 refine S_wk [] rfl (wk_gro0 (b:=3) 1 rfl) ?_
 first|refine L_rs ?_|refine L_reg ?_ | skip
 refine eE rfl rfl (EW.appRR (bytes:=1) (xs:=[]) (ys:=bs) byteC_ok rfl (by kernel_rfl) rfl rfl rfl rfl rfl rfl (by decide) (by omega)) ?_
 conv=>whnf
 rw [Nat.zero_add]
 repeat' (first|refine qN ?_|refine dN ?_|refine d0 ?_|refine qB ?_|refine qT ?_|refine qU ?_|refine qL ?_|refine qK ?_|refine qF ?_|refine qE ?_|refine iF (fun h=>?_) (fun h=>?_)|refine aX ?_|refine S_Q [] rfl rfl (QY.mul (c:=((256*p:Nat):Int)) rfl rfl (by omega) (by omega) (by omega)) ?_|refine aA ?_|refine aI (hn:=?_)|refine aM ?_|refine qR ?_|refine qS ?_|exact ⟨rfl,rfl⟩|fail)
 refine LWp.pick [0,1,2,3,8,9] [0,1,2,4] rfl rfl rfl (L_loop (fun q l K=>∃ k:Nat,q=256*M-k∧k≤256*M∧l=[(0,ptr 0),(1,.int .i64 p),(2,.int .i64 M),(3,.int .u8 (c.toNat:Int)),(8,slB 3 bs.length),(9,.int .i64 (256*p+k:Nat))]∧K=RS key bs gl++[BL (overB bs (256*p) (List.replicate k c))]) (256*M) ⟨0,rfl,by omega,rfl,by rw [List.replicate_zero,overB_nil]; rfl⟩ ?_)
 rintro q _ _ ⟨k,rfl,hk,rfl,rfl⟩
 have hlk:=hl k hk
 repeat' (first|refine qN ?_|refine dN ?_|refine d0 ?_|refine qB ?_|refine qT ?_|refine qU ?_|refine qL ?_|refine qK ?_|refine qF ?_|refine qE ?_|refine iF (fun h=>?_) (fun h=>?_)|refine aX ?_|refine S_Q [] rfl rfl (QY.mul (c:=((256*(p+M):Nat):Int)) rfl rfl (by omega) (by omega) (by omega)) ?_|refine aA ?_|refine aI (hn:=?_)|refine aM ?_|refine qR ?_|refine qS ?_|exact ⟨rfl,rfl⟩|fail)
 ·have hk2:k<256*M:=by omega
  have hsn:=overB_snoc (bs:=bs) (i:=256*p) (ys:=List.replicate k c) c (by rw [List.length_replicate]; omega)
  rw [List.length_replicate,← List.replicate_succ'] at hsn
  first|refine L_rs ?_|refine L_reg ?_ | skip
  refine eE rfl rfl (EW.stY (k:=256*p+k) (a:=c) rfl rfl rfl (by rw [hlk]; omega)) ?_
  conv=>whnf
  rw [hsn]
  repeat' (first|refine qN ?_|refine dN ?_|refine d0 ?_|refine qB ?_|refine qT ?_|refine qU ?_|refine qL ?_|refine qK ?_|refine qF ?_|refine qE ?_|refine iF (fun h=>?_) (fun h=>?_)|refine aX ?_|refine aA ?_|refine aI (hn:=?_)|refine aM ?_|refine qR ?_|refine qS ?_|exact ⟨rfl,rfl⟩|fail)
  exact Nx.pick [0,1,2,3,8,9] [0,1,2,3] rfl rfl rfl ⟨256*M-(k+1),by omega,k+1,rfl,by omega,rfl,rfl⟩
 ·obtain rfl:k=256*M:=by omega
  refine RetQ.end [0,3,2] rfl rfl rfl rfl ⟨rfl,?_⟩
  unfold RS; rw [hlk]; rfl
theorem takeG_succ {L:List RB} {p:RB→Bool} {k:Nat} (h:k<L.length):(L.take (k+1)).filter p=(L.take k).filter p++(if p L[k] then [L[k]] else []):=by
 rw [List.take_succ_eq_append_getElem h,List.filter_append]
 congr 1
 rw [List.filter_cons]; rfl
theorem takeG_len {L:List RB} {p:RB→Bool} (k:Nat):((L.take k).filter p).length≤L.length:=by
 have:=List.length_filter_le p (L.take k)
 rw [List.length_take] at this
 omega
set_option maxHeartbeats 2000000 in
theorem rMake8_tr (key:BitVec 64) (bs:Bytes) (N:Nat) (hN:bs.length=256*N) (hN2:N≤256) (gl:List RB) (hgl:gl.length≤256) (hgb:∀ x∈gl,0≤x.page∧x.page≤256) (p M:Nat) (n:Int) (hn:greatC n=true) (hM:pagesC n=M) (hpM:p+M≤N) (hno:∀ x∈gl,∀ i:Nat,i<M→(p:Int)+i<x.page∨x.page+pagesC x.n≤(p:Int)+i) :
  TrK Try.prog [] [0] 8 [ptr 0,.int .i64 p,.int .i64 n] (RS key bs gl) (fun v K=>v=.int .i64 0∧K=RS key (madeB key bs p M) (rPutL gl p n)):=by
 obtain ⟨M',hM',hM1,hM17⟩:=greatC_pages hn
 obtain rfl:M'=M:=by omega
 have hP:=rPages_tr n
 rw [hM] at hP
 refine Tr.of row_tumbrelref08_Set_Make_ok rfl ?_
 repeat' (first|refine qN ?_|refine dN ?_|refine d0 ?_|refine qB ?_|refine qT ?_|refine qU ?_|refine qL ?_|refine qK ?_|refine qF ?_|refine qE ?_|refine iF (fun h=>?_) (fun h=>?_)|refine aX ?_|refine cP [] (hP) ?_|refine S_Q [] rfl rfl (QY.divN (c:=(N:Int)) rfl rfl (by omega) (by omega) (by omega)) ?_|refine aA ?_|refine aS ?_|refine aI (hn:=?_)|refine aD ?_|refine aM ?_|refine sP 18 (fun h=>?_) (fun h=>?_)|refine sP 30 (fun h=>?_) (fun h=>?_)|refine sP 62 (fun h=>?_) (fun h=>?_)|refine qR ?_|refine qS ?_|exact ⟨rfl,rfl⟩|fail)
 all_goals try (exfalso; omega)
 refine LWp.nilE 8 2 rfl (LWp.pick [0,1,2,7,8,45,46,47] [0,1,2,3] rfl rfl rfl (L_loop (fun q l K=>∃ k:Nat,q=gl.length-k∧k≤gl.length∧l=[(0,ptr 0),(1,.int .i64 p),(2,.int .i64 n),(7,.int .i64 M'),(8,slB 3 ((gl.take k).filter fun x=>decide (x.page<(p:Int))).length),(45,slB 2 gl.length),(46,.int .i64 gl.length),(47,.int .i64 k)]∧K=RS key bs gl++[.gro 2 (rowsC RB.cells ((gl.take k).filter fun x=>decide (x.page<(p:Int))))]) gl.length ⟨0,rfl,by omega,rfl,rfl⟩ ?_))
 rintro q _ _ ⟨k,rfl,hk,rfl,rfl⟩
 first|refine L_seq (L_rs (S_done [] rfl (Nx.goL (iF (fun h=>L_skip (Nx.goL ?_)) (fun h=>L_exit ?_)))))|refine L_rs (S_done [] rfl (Nx.goL (L_seq (iF (fun h=>L_skip (Nx.goL ?_)) (fun h=>L_exit ?_)))))
 ·have hk2:k<gl.length:=by omega
  have hg:gl[k]?=some gl[k]:=List.getElem?_eq_getElem hk2
  have hFk:=takeG_succ (p:=fun x=>decide (x.page<(p:Int))) hk2
  have hFl:=takeG_len (L:=gl) (p:=fun x=>decide (x.page<(p:Int))) k
  have hx:=hgb gl[k] (List.getElem_mem hk2)
  have hxn:=hno gl[k] (List.getElem_mem hk2)
  have hPx:=rPages_tr gl[k].n
  have hPb:=pagesC_bd gl[k].n
  refine L_seq (L_block ?_)
  repeat' (first|refine qN ?_|refine dN ?_|refine d0 ?_|refine qB ?_|refine qT ?_|refine qU ?_|refine qL ?_|refine qK ?_|refine qF ?_|refine qE ?_|refine iF (fun h=>?_) (fun h=>?_)|refine aX ?_|refine S_Q [] rfl rfl (QY.ldRow RB.ok rfl rfl hg (by decide)) ?_|refine aA ?_|refine aS ?_|refine aI (hn:=?_)|refine aD ?_|refine aM ?_|refine sP 18 (fun h=>?_) (fun h=>?_)|refine sP 30 (fun h=>?_) (fun h=>?_)|refine sP 62 (fun h=>?_) (fun h=>?_)|refine qR ?_|refine qS ?_|exact ⟨rfl,rfl⟩|fail)
  refine LWp.pick [0,1,2,7,8,10,11,45,46,47] [0,1,2,3,4] rfl rfl rfl (L_loop (fun q l K=>∃ i:Nat,q=M'-i∧i≤M'∧l=[(0,ptr 0),(1,.int .i64 p),(2,.int .i64 n),(7,.int .i64 M'),(8,slB 3 ((gl.take k).filter fun x=>decide (x.page<(p:Int))).length),(10,ptr 4),(11,.int .i64 i),(45,slB 2 gl.length),(46,.int .i64 gl.length),(47,.int .i64 k)]∧K=RS key bs gl++[.gro 2 (rowsC RB.cells ((gl.take k).filter fun x=>decide (x.page<(p:Int)))),.cells 0 [.int .i64 gl[k].page,.int .i64 gl[k].n]]) M' ⟨0,rfl,by omega,rfl,rfl⟩ ?_)
  rintro q _ _ ⟨i,rfl,hi,rfl,rfl⟩
  by_cases hi2:i<M'
  ·have hxi:=hxn i hi2
   repeat' (first|refine qN ?_|refine dN ?_|refine d0 ?_|refine qB ?_|refine qT ?_|refine qU ?_|refine qL ?_|refine qK ?_|refine qF ?_|refine qE ?_|refine iF (fun h=>?_) (fun h=>?_)|refine aX ?_|refine cP [] (hPx) ?_|refine aA ?_|refine aS ?_|refine aI (hn:=?_)|refine aD ?_|refine aM ?_|refine sP 18 (fun h=>?_) (fun h=>?_)|refine sP 30 (fun h=>?_) (fun h=>?_)|refine sP 62 (fun h=>?_) (fun h=>?_)|refine qR ?_|refine qS ?_|exact ⟨rfl,rfl⟩|fail)
   all_goals first | (exfalso; omega)|exact Nx.pick [0,1,2,7,8,10,11,45,46,47] [0,1,2,3,4] rfl rfl rfl ⟨M'-(i+1),by omega,i+1,rfl,by omega,rfl,rfl⟩
  ·obtain rfl:i=M':=by omega
   repeat' (first|refine qN ?_|refine dN ?_|refine d0 ?_|refine qB ?_|refine qT ?_|refine qU ?_|refine qL ?_|refine qK ?_|refine qF ?_|refine qE ?_|refine iF (fun h=>?_) (fun h=>?_)|refine aX ?_|refine aA ?_|refine aS ?_|refine aI (hn:=?_)|refine aD ?_|refine aM ?_|refine sP 18 (fun h=>?_) (fun h=>?_)|refine sP 30 (fun h=>?_) (fun h=>?_)|refine sP 62 (fun h=>?_) (fun h=>?_)|refine qR ?_|refine qS ?_|exact ⟨rfl,rfl⟩|fail)
   all_goals try (exfalso; omega)
   ·rw [if_pos (by simpa using h)] at hFk
    first|refine L_rs ?_|refine L_reg ?_ | skip
    refine eE rfl rfl (EW.appR1 (bytes:=16) (a:=gl[k]) RB.ok rfl (by kernel_rfl) rfl rfl rfl rfl rfl (by omega)) ?_
    conv=>whnf
    repeat' (first|refine qN ?_|refine dN ?_|refine d0 ?_|refine qB ?_|refine qT ?_|refine qU ?_|refine qL ?_|refine qK ?_|refine qF ?_|refine qE ?_|refine iF (fun h=>?_) (fun h=>?_)|refine aX ?_|refine aA ?_|refine aS ?_|refine aI (hn:=?_)|refine aD ?_|refine aM ?_|refine sP 18 (fun h=>?_) (fun h=>?_)|refine sP 30 (fun h=>?_) (fun h=>?_)|refine sP 62 (fun h=>?_) (fun h=>?_)|refine qR ?_|refine qS ?_|exact ⟨rfl,rfl⟩|fail)
    refine Nx.pick [0,1,2,7,8,45,46,47] [0,1,2,6] rfl rfl rfl ⟨gl.length-(k+1),by omega,k+1,rfl,by omega,?_,by rw [hFk]; rfl⟩
    rw [hFk,List.length_append]; rfl
   ·rw [if_neg (by simpa using h),List.append_nil] at hFk
    refine Nx.pick [0,1,2,7,8,45,46,47] [0,1,2,3] rfl rfl rfl ⟨gl.length-(k+1),by omega,k+1,rfl,by omega,?_,by rw [hFk]; rfl⟩
    rw [hFk]; rfl
 ·obtain rfl:k=gl.length:=by omega
  refine Nx.goL ?_
  rw [List.take_length]
  have hl1:=List.length_filter_le (fun x:RB=>decide (x.page<(p:Int))) gl
  have hgp:rPutL gl p n=gl.filter (fun x=>decide (x.page<(p:Int)))++(⟨(p:Int),n⟩:RB)::gl.filter (fun x=>decide ((p:Int)<x.page)):=rfl
  generalize gl.filter (fun x=>decide (x.page<(p:Int)))=A1 at *
  repeat' (first|refine qN ?_|refine dN ?_|refine d0 ?_|refine qB ?_|refine qT ?_|refine qU ?_|refine qL ?_|refine qK ?_|refine qF ?_|refine qE ?_|refine iF (fun h=>?_) (fun h=>?_)|refine aX ?_|refine aA ?_|refine aS ?_|refine aI (hn:=?_)|refine aD ?_|refine aM ?_|refine sP 18 (fun h=>?_) (fun h=>?_)|refine sP 30 (fun h=>?_) (fun h=>?_)|refine sP 62 (fun h=>?_) (fun h=>?_)|refine qR ?_|refine qS ?_|exact ⟨rfl,rfl⟩|fail)
  first|refine L_rs ?_|refine L_reg ?_ | skip
  refine eE rfl rfl (EW.appR1 (bytes:=16) (a:=(⟨(p:Int),n⟩:RB)) RB.ok rfl (by kernel_rfl) rfl rfl rfl rfl rfl (by omega)) ?_
  conv=>whnf
  repeat' (first|refine qN ?_|refine dN ?_|refine d0 ?_|refine qB ?_|refine qT ?_|refine qU ?_|refine qL ?_|refine qK ?_|refine qF ?_|refine qE ?_|refine iF (fun h=>?_) (fun h=>?_)|refine aX ?_|refine aA ?_|refine aS ?_|refine aI (hn:=?_)|refine aD ?_|refine aM ?_|refine sP 18 (fun h=>?_) (fun h=>?_)|refine sP 30 (fun h=>?_) (fun h=>?_)|refine sP 62 (fun h=>?_) (fun h=>?_)|refine qR ?_|refine qS ?_|exact ⟨rfl,rfl⟩|fail)
  refine LWp.pick [0,1,2,7,8,92,93,94] [0,1,2,5] rfl rfl rfl (L_loop (fun q l K=>∃ k:Nat,q=gl.length-k∧k≤gl.length∧l=[(0,ptr 0),(1,.int .i64 p),(2,.int .i64 n),(7,.int .i64 M'),(8,slB 3 (A1++[(⟨(p:Int),n⟩:RB)]++(gl.take k).filter fun x=>decide ((p:Int)<x.page)).length),(92,slB 2 gl.length),(93,.int .i64 gl.length),(94,.int .i64 k)]∧K=RS key bs gl++[.gro 2 (rowsC RB.cells (A1++[(⟨(p:Int),n⟩:RB)]++(gl.take k).filter fun x=>decide ((p:Int)<x.page)))]) gl.length ⟨0,rfl,by omega,by rw [List.take_zero,List.filter_nil,List.append_nil,List.length_append]; rfl,by rw [List.take_zero,List.filter_nil,List.append_nil]; rfl⟩ ?_)
  rintro q _ _ ⟨k,rfl,hk,rfl,rfl⟩
  first|refine L_seq (L_rs (S_done [] rfl (Nx.goL (iF (fun h=>L_skip (Nx.goL ?_)) (fun h=>L_exit ?_)))))|refine L_rs (S_done [] rfl (Nx.goL (L_seq (iF (fun h=>L_skip (Nx.goL ?_)) (fun h=>L_exit ?_)))))
  ·have hk2:k<gl.length:=by omega
   have hg:gl[k]?=some gl[k]:=List.getElem?_eq_getElem hk2
   have hFk:=takeG_succ (p:=fun x=>decide ((p:Int)<x.page)) hk2
   have hFl:=takeG_len (L:=gl) (p:=fun x=>decide ((p:Int)<x.page)) k
   repeat' (first|refine qN ?_|refine dN ?_|refine d0 ?_|refine qB ?_|refine qT ?_|refine qU ?_|refine qL ?_|refine qK ?_|refine qF ?_|refine qE ?_|refine iF (fun h=>?_) (fun h=>?_)|refine aX ?_|refine S_Q [] rfl rfl (QY.ldRow RB.ok rfl rfl hg (by decide)) ?_|refine aA ?_|refine aS ?_|refine aI (hn:=?_)|refine aD ?_|refine aM ?_|refine sP 18 (fun h=>?_) (fun h=>?_)|refine sP 30 (fun h=>?_) (fun h=>?_)|refine sP 62 (fun h=>?_) (fun h=>?_)|refine qR ?_|refine qS ?_|exact ⟨rfl,rfl⟩|fail)
   ·rw [if_pos (by simpa using h)] at hFk
    first|refine L_rs ?_|refine L_reg ?_ | skip
    refine eE rfl rfl (EW.appR1 (bytes:=16) (a:=gl[k]) RB.ok rfl (by kernel_rfl) rfl rfl rfl rfl rfl (by simp only [List.length_append,List.length_cons,List.length_nil]; omega)) ?_
    conv=>whnf
    repeat' (first|refine qN ?_|refine dN ?_|refine d0 ?_|refine qB ?_|refine qT ?_|refine qU ?_|refine qL ?_|refine qK ?_|refine qF ?_|refine qE ?_|refine iF (fun h=>?_) (fun h=>?_)|refine aX ?_|refine aA ?_|refine aS ?_|refine aI (hn:=?_)|refine aD ?_|refine aM ?_|refine sP 18 (fun h=>?_) (fun h=>?_)|refine sP 30 (fun h=>?_) (fun h=>?_)|refine sP 62 (fun h=>?_) (fun h=>?_)|refine qR ?_|refine qS ?_|exact ⟨rfl,rfl⟩|fail)
    refine Nx.pick [0,1,2,7,8,92,93,94] [0,1,2,6] rfl rfl rfl ⟨gl.length-(k+1),by omega,k+1,rfl,by omega,?_,by rw [hFk,← List.append_assoc]; rfl⟩
    rw [hFk,← List.append_assoc,List.length_append (bs:=[gl[k]])]; rfl
   ·rw [if_neg (by simpa using h),List.append_nil] at hFk
    refine Nx.pick [0,1,2,7,8,92,93,94] [0,1,2,3] rfl rfl rfl ⟨gl.length-(k+1),by omega,k+1,rfl,by omega,?_,by rw [hFk]; rfl⟩
    rw [hFk]; rfl
  ·obtain rfl:k=gl.length:=by omega
   refine Nx.goL ?_
   rw [List.take_length]
   rw [List.append_cons] at hgp
   generalize gl.filter (fun x=>decide ((p:Int)<x.page))=A2 at *
   rw [hgp]
   generalize A1++[(⟨(p:Int),n⟩:RB)]++A2=X at *
   have hF:=rFill_tr key bs (by omega) gl p M' (by omega) 0#8
   have hlb:(overB bs (256*p) (List.replicate (256*M') 0#8)).length=bs.length:=overB_length (by rw [List.length_replicate]; omega)
   simp only [RS,hlb] at hF
   have hMx:=rMix_tr (key ^^^ BitVec.ofInt 64 (256*(p:Int)))
   have hPt:=rPut_tr (canW key (256*(p:Int)))
   change Tr Try.prog _ _ _ (fun v K=>v=.int .u64 ((canW key (256*(p:Int))).toNat:Int)∧K=[]) at hMx
   repeat' (first|refine qN ?_|refine dN ?_|refine d0 ?_|refine qB ?_|refine qT ?_|refine qU ?_|refine qL ?_|refine qK ?_|refine qF ?_|refine qE ?_|refine iF (fun h=>?_) (fun h=>?_)|refine aX ?_|(refine cW [0,1,2] (hF) ?_; conv=>whnf)|refine S_Q [] rfl rfl (QY.sub (c:=((256*(p+M')-8:Nat):Int)) rfl rfl (by omega) (by omega) (by omega)) ?_|refine S_Q [] rfl rfl (QY.slc0 (b:=1) (lo':=256*(p+M')-8) (hi':=bs.length) rfl rfl rfl (by omega) (by omega)) ?_|refine S_Q [] rfl rfl (QY.cvIW rfl) ?_|refine S_Q [] rfl rfl (QY.xorW rfl rfl) ?_|refine cP [] (hMx) ?_|(refine cF [] (hPt) ?_; conv=>whnf)|refine aA ?_|refine aS ?_|refine aI (hn:=?_)|refine aD ?_|refine aM ?_|refine sP 18 (fun h=>?_) (fun h=>?_)|refine sP 30 (fun h=>?_) (fun h=>?_)|refine sP 62 (fun h=>?_) (fun h=>?_)|refine qR ?_|refine qS ?_|exact ⟨rfl,rfl⟩|fail)
   first|refine L_rs ?_|refine L_reg ?_ | skip
   refine eE rfl rfl (EW.copyg (i:=256*(p+M')-8) (j:=0) (xs:=overB bs (256*p) (List.replicate (256*M') 0#8)) (ys:=putB (canW key (256*(p:Int))) 8) byteC_ok rfl (by kernel_rfl) rfl rfl rfl rfl (by rw [hlb]; omega) (by rw [putB_length]; omega) (by decide)) ?_
   conv=>whnf
   rw [overB_copy _ _ _ (putB_length _ _).symm (by omega)]
   repeat' (first|refine qN ?_|refine dN ?_|refine d0 ?_|refine qB ?_|refine qT ?_|refine qU ?_|refine qL ?_|refine qK ?_|refine qF ?_|refine qE ?_|refine iF (fun h=>?_) (fun h=>?_)|refine aX ?_|refine aA ?_|refine aS ?_|refine aI (hn:=?_)|refine aD ?_|refine aM ?_|refine sP 18 (fun h=>?_) (fun h=>?_)|refine sP 30 (fun h=>?_) (fun h=>?_)|refine sP 62 (fun h=>?_) (fun h=>?_)|refine qR ?_|refine qS ?_|exact ⟨rfl,rfl⟩|fail)
   refine L_ret (RetQ.pick [0,1,3] rfl rfl rfl rfl ⟨rfl,?_⟩)
   have hmb:=madeB_length (key:=key) (bs:=bs) (p:=p) (M:=M') (by omega) hM1
   unfold RS; rw [hmb]; rfl
end Go.Proofs.Ytpnjahijpdfcgaa
end
section
namespace Go.Tum
open Go
section
variable {P:Program} {n0:NA} {l:Env} {L:LH}
theorem EW.appRSe {α:Type} {g:α→List Value} {sz:Nat} {o:Oper} {s x:Operand} {sT xT:TypeId} {bytes b n bx ox i m cx t:Nat} {xs ys zs:List α} (hnm:n+m=t) (hzs:xs++(ys.drop i).take m=zs) (h:RowOk g sz) (ho:o.op=.call ⟨.builtin .append,⟨[s,x]⟩,⟨[sT,xT]⟩⟩) (ht:appT P sT xT=some (sz,bytes)) (hs:lv l s=some (.slice (some ⟨b,0,none⟩) n n)) (hx:lv l x=some (.slice (some ⟨bx,ox,none⟩) m cx))
  (hb:L[b]?=some (.gro sz (rowsC g xs))) (hbx:L[bx]?=some (.gro sz (rowsC g ys))) (hox:ox=i*sz) (hn:xs.length=n) (hm:i+m≤ys.length) (hz:0<sz) (hbd:(2*(n+m)+2048)*bytes≤281474976710656) :
  EW P n0 L l (.raw o) (fun v K=>v=.slice (some ⟨L.length,0,none⟩) t t∧K=L.set b .dead++[.gro sz (rowsC g zs)]):=by
 subst hnm; subst hzs
 exact EW.appRS h ho ht hs hx hb hbx hox hn hm hz hbd
end
end Go.Tum
end
section
namespace Go.Proofs.Ytpnjahijpdfcgaa
open Go Go.Tum Go.Tum.Base
set_option maxRecDepth 4000
theorem rMake8_arg (key:BitVec 64) (bs:Bytes) (gl:List RB) (p n:Int) (h:greatC n=false∨p<0) :
  Tr Try.prog 8 [ptr 0,.int .i64 p,.int .i64 n] (RS key bs gl) (fun v K=>v=.int .i64 1∧K=RS key bs gl):=by
 have hP:=rPages_tr n
 have hb:=pagesC_bd n
 by_cases h0:pagesC n=0
 ·rw [h0] at hP
  refine Tr.of row_tumbrelref08_Set_Make_ok rfl ?_
  repeat' (first|refine qN ?_|refine dN ?_|refine dR ?_|refine d0 ?_|refine qB ?_|refine rT ?_|refine qT ?_|refine qU ?_|refine qL ?_|refine qK ?_|refine qF ?_|refine qE ?_|refine iF (fun h=>?_) (fun h=>?_)|refine aX ?_|refine cP [] (hP) ?_|refine aA ?_|refine aS ?_|refine aI (hn:=?_)|refine aD ?_|refine aM ?_|refine sP 18 (fun h=>?_) (fun h=>?_)|refine sP 30 (fun h=>?_) (fun h=>?_)|refine sP 62 (fun h=>?_) (fun h=>?_)|refine qR ?_|refine qS ?_|exact ⟨rfl,rfl⟩|fail)
 ·have hp:p<0:=by
   rcases h with h | h
   ·exfalso; apply h0; unfold greatC at h; unfold pagesC; rw [if_pos]; simp at h; omega
   ·exact h
  refine Tr.of row_tumbrelref08_Set_Make_ok rfl ?_
  repeat' (first|refine qN ?_|refine dN ?_|refine dR ?_|refine d0 ?_|refine qB ?_|refine rT ?_|refine qT ?_|refine qU ?_|refine qL ?_|refine qK ?_|refine qF ?_|refine qE ?_|refine iF (fun h=>?_) (fun h=>?_)|refine aX ?_|refine cP [] (hP) ?_|refine aA ?_|refine aS ?_|refine aI (hn:=?_)|refine aD ?_|refine aM ?_|refine sP 18 (fun h=>?_) (fun h=>?_)|refine sP 30 (fun h=>?_) (fun h=>?_)|refine sP 62 (fun h=>?_) (fun h=>?_)|refine qR ?_|refine qS ?_|exact ⟨rfl,rfl⟩|fail)
  all_goals (exfalso; omega)
theorem rMake8_range (key:BitVec 64) (bs:Bytes) (N:Nat) (hN:bs.length=256*N) (hN2:N≤256) (gl:List RB) (p M n:Int) (hM:pagesC n=M) (hM1:1≤M) (hp:0≤p) (h:N<p+M) :
  Tr Try.prog 8 [ptr 0,.int .i64 p,.int .i64 n] (RS key bs gl) (fun v K=>v=.int .i64 3∧K=RS key bs gl):=by
 have hb:=pagesC_bd n
 have hP:=rPages_tr n
 rw [hM] at hP
 refine Tr.of row_tumbrelref08_Set_Make_ok rfl ?_
 repeat' (first|refine qN ?_|refine dN ?_|refine dR ?_|refine d0 ?_|refine qB ?_|refine rT ?_|refine qT ?_|refine qU ?_|refine qL ?_|refine qK ?_|refine qF ?_|refine qE ?_|refine iF (fun h=>?_) (fun h=>?_)|refine aX ?_|refine cP [] (hP) ?_|refine S_Q [] rfl rfl (QY.divN (c:=(N:Int)) rfl rfl (by omega) (by omega) (by omega)) ?_|refine aA ?_|refine aS ?_|refine aI (hn:=?_)|refine aD ?_|refine aM ?_|refine sP 18 (fun h=>?_) (fun h=>?_)|refine sP 30 (fun h=>?_) (fun h=>?_)|refine sP 62 (fun h=>?_) (fun h=>?_)|refine qR ?_|refine qS ?_|exact ⟨rfl,rfl⟩|fail)
 all_goals (exfalso; omega)
set_option maxHeartbeats 2000000 in
theorem rMake8_there (key:BitVec 64) (bs:Bytes) (N:Nat) (hN:bs.length=256*N) (hN2:N≤256) (gl:List RB) (hgl:gl.length≤256) (hgb:∀ x∈gl,0≤x.page∧x.page≤256) (p M:Nat) (n:Int) (hn:greatC n=true) (hM:pagesC n=M) (hpM:p+M≤N) (hex:∃ x∈gl,∃ i:Nat,i<M∧x.page≤(p:Int)+i∧(p:Int)+i<x.page+pagesC x.n) :
  Tr Try.prog 8 [ptr 0,.int .i64 p,.int .i64 n] (RS key bs gl) (fun v K=>v=.int .i64 7∧K=RS key bs gl):=by
 obtain ⟨M',hM',hM1,hM17⟩:=greatC_pages hn
 obtain rfl:M'=M:=by omega
 have hP:=rPages_tr n
 rw [hM] at hP
 refine Tr.of row_tumbrelref08_Set_Make_ok rfl ?_
 repeat' (first|refine qN ?_|refine dN ?_|refine d0 ?_|refine qB ?_|refine qT ?_|refine qU ?_|refine qL ?_|refine qK ?_|refine qF ?_|refine qE ?_|refine iF (fun h=>?_) (fun h=>?_)|refine aX ?_|refine cP [] (hP) ?_|refine S_Q [] rfl rfl (QY.divN (c:=(N:Int)) rfl rfl (by omega) (by omega) (by omega)) ?_|refine aA ?_|refine aS ?_|refine aI (hn:=?_)|refine aD ?_|refine aM ?_|refine sP 18 (fun h=>?_) (fun h=>?_)|refine sP 30 (fun h=>?_) (fun h=>?_)|refine sP 62 (fun h=>?_) (fun h=>?_)|refine qR ?_|refine qS ?_|exact ⟨rfl,rfl⟩|fail)
 all_goals try (exfalso; omega)
 refine LWp.nilE 8 2 rfl (LWp.pick [0,1,2,7,8,45,46,47] [0,1,2,3] rfl rfl rfl (L_loop (fun q l K=>∃ k:Nat,q=gl.length-k∧k≤gl.length∧(∀ x∈gl.take k,∀ i:Nat,i<M'→(p:Int)+i<x.page∨x.page+pagesC x.n≤(p:Int)+i)∧l=[(0,ptr 0),(1,.int .i64 p),(2,.int .i64 n),(7,.int .i64 M'),(8,slB 3 ((gl.take k).filter fun x=>decide (x.page<(p:Int))).length),(45,slB 2 gl.length),(46,.int .i64 gl.length),(47,.int .i64 k)]∧K=RS key bs gl++[.gro 2 (rowsC RB.cells ((gl.take k).filter fun x=>decide (x.page<(p:Int))))]) gl.length ⟨0,rfl,by omega,by simp,rfl,rfl⟩ ?_))
 rintro q _ _ ⟨k,rfl,hk,hno,rfl,rfl⟩
 first|refine L_seq (L_rs (S_done [] rfl (Nx.goL (iF (fun h=>L_skip (Nx.goL ?_)) (fun h=>L_exit ?_)))))|refine L_rs (S_done [] rfl (Nx.goL (L_seq (iF (fun h=>L_skip (Nx.goL ?_)) (fun h=>L_exit ?_)))))
 ·have hk2:k<gl.length:=by omega
  have hg:gl[k]?=some gl[k]:=List.getElem?_eq_getElem hk2
  have hFk:=takeG_succ (p:=fun x=>decide (x.page<(p:Int))) hk2
  have hFl:=takeG_len (L:=gl) (p:=fun x=>decide (x.page<(p:Int))) k
  have hx:=hgb gl[k] (List.getElem_mem hk2)
  have hPx:=rPages_tr gl[k].n
  have hPb:=pagesC_bd gl[k].n
  refine L_seq (L_block ?_)
  repeat' (first|refine qN ?_|refine dN ?_|refine d0 ?_|refine qB ?_|refine qT ?_|refine qU ?_|refine qL ?_|refine qK ?_|refine qF ?_|refine qE ?_|refine iF (fun h=>?_) (fun h=>?_)|refine aX ?_|refine S_Q [] rfl rfl (QY.ldRow RB.ok rfl rfl hg (by decide)) ?_|refine aA ?_|refine aS ?_|refine aI (hn:=?_)|refine aD ?_|refine aM ?_|refine sP 18 (fun h=>?_) (fun h=>?_)|refine sP 30 (fun h=>?_) (fun h=>?_)|refine sP 62 (fun h=>?_) (fun h=>?_)|refine qR ?_|refine qS ?_|exact ⟨rfl,rfl⟩|fail)
  refine LWp.pick [0,1,2,7,8,10,11,45,46,47] [0,1,2,3,4] rfl rfl rfl (L_loop (fun q l K=>∃ i:Nat,q=M'-i∧i≤M'∧(∀ j:Nat,j<i→(p:Int)+j<gl[k].page∨gl[k].page+pagesC gl[k].n≤(p:Int)+j)∧l=[(0,ptr 0),(1,.int .i64 p),(2,.int .i64 n),(7,.int .i64 M'),(8,slB 3 ((gl.take k).filter fun x=>decide (x.page<(p:Int))).length),(10,ptr 4),(11,.int .i64 i),(45,slB 2 gl.length),(46,.int .i64 gl.length),(47,.int .i64 k)]∧K=RS key bs gl++[.gro 2 (rowsC RB.cells ((gl.take k).filter fun x=>decide (x.page<(p:Int)))),.cells 0 [.int .i64 gl[k].page,.int .i64 gl[k].n]]) M' ⟨0,rfl,by omega,by intro j hj; omega,rfl,rfl⟩ ?_)
  rintro q _ _ ⟨i,rfl,hi,hxn,rfl,rfl⟩
  by_cases hi2:i<M'
  ·by_cases hxi:(p:Int)+i<gl[k].page∨gl[k].page+pagesC gl[k].n≤(p:Int)+i
   ·repeat' (first|refine qN ?_|refine dN ?_|refine d0 ?_|refine qB ?_|refine qT ?_|refine qU ?_|refine qL ?_|refine qK ?_|refine qF ?_|refine qE ?_|refine iF (fun h=>?_) (fun h=>?_)|refine aX ?_|refine cP [] (hPx) ?_|refine aA ?_|refine aS ?_|refine aI (hn:=?_)|refine aD ?_|refine aM ?_|refine sP 18 (fun h=>?_) (fun h=>?_)|refine sP 30 (fun h=>?_) (fun h=>?_)|refine sP 62 (fun h=>?_) (fun h=>?_)|refine qR ?_|refine qS ?_|exact ⟨rfl,rfl⟩|fail)
    all_goals first | (exfalso; omega)|exact Nx.pick [0,1,2,7,8,10,11,45,46,47] [0,1,2,3,4] rfl rfl rfl ⟨M'-(i+1),by omega,i+1,rfl,by omega,fun j hj=>(by
      by_cases h2:j<i
      ·exact hxn j h2
      ·obtain rfl:j=i:=by omega
       exact hxi),rfl,rfl⟩
   ·repeat' (first|refine qN ?_|refine dN ?_|refine d0 ?_|refine qB ?_|refine qT ?_|refine qU ?_|refine qL ?_|refine qK ?_|refine qF ?_|refine qE ?_|refine iF (fun h=>?_) (fun h=>?_)|refine aX ?_|refine cP [] (hPx) ?_|refine aA ?_|refine aS ?_|refine aI (hn:=?_)|refine aD ?_|refine aM ?_|refine sP 18 (fun h=>?_) (fun h=>?_)|refine sP 30 (fun h=>?_) (fun h=>?_)|refine sP 62 (fun h=>?_) (fun h=>?_)|refine qR ?_|refine qS ?_|exact ⟨rfl,rfl⟩|fail)
    all_goals first | (exfalso; omega)|exact L_ret (RetQ.pick [0,1,2] rfl rfl rfl rfl ⟨rfl,rfl⟩)
  ·have hno':∀ x∈gl.take (k+1),∀ i:Nat,i<M'→(p:Int)+i<x.page∨x.page+pagesC x.n≤(p:Int)+i:=by
    intro x hx
    rw [List.take_succ_eq_append_getElem hk2] at hx
    rcases List.mem_append.1 hx with hx | hx
    ·exact hno x hx
    ·rw [List.mem_singleton] at hx; subst hx; exact fun j hj=>hxn j (by omega)
   obtain rfl:i=M':=by omega
   repeat' (first|refine qN ?_|refine dN ?_|refine d0 ?_|refine qB ?_|refine qT ?_|refine qU ?_|refine qL ?_|refine qK ?_|refine qF ?_|refine qE ?_|refine iF (fun h=>?_) (fun h=>?_)|refine aX ?_|refine aA ?_|refine aS ?_|refine aI (hn:=?_)|refine aD ?_|refine aM ?_|refine sP 18 (fun h=>?_) (fun h=>?_)|refine sP 30 (fun h=>?_) (fun h=>?_)|refine sP 62 (fun h=>?_) (fun h=>?_)|refine qR ?_|refine qS ?_|exact ⟨rfl,rfl⟩|fail)
   all_goals try (exfalso; omega)
   ·rw [if_pos (by simpa using h)] at hFk
    first|refine L_rs ?_|refine L_reg ?_ | skip
    refine eE rfl rfl (EW.appR1 (bytes:=16) (a:=gl[k]) RB.ok rfl (by kernel_rfl) rfl rfl rfl rfl rfl (by omega)) ?_
    conv=>whnf
    repeat' (first|refine qN ?_|refine dN ?_|refine d0 ?_|refine qB ?_|refine qT ?_|refine qU ?_|refine qL ?_|refine qK ?_|refine qF ?_|refine qE ?_|refine iF (fun h=>?_) (fun h=>?_)|refine aX ?_|refine aA ?_|refine aS ?_|refine aI (hn:=?_)|refine aD ?_|refine aM ?_|refine sP 18 (fun h=>?_) (fun h=>?_)|refine sP 30 (fun h=>?_) (fun h=>?_)|refine sP 62 (fun h=>?_) (fun h=>?_)|refine qR ?_|refine qS ?_|exact ⟨rfl,rfl⟩|fail)
    refine Nx.pick [0,1,2,7,8,45,46,47] [0,1,2,6] rfl rfl rfl ⟨gl.length-(k+1),by omega,k+1,rfl,by omega,hno',?_,by rw [hFk]; rfl⟩
    rw [hFk,List.length_append]; rfl
   ·rw [if_neg (by simpa using h),List.append_nil] at hFk
    refine Nx.pick [0,1,2,7,8,45,46,47] [0,1,2,3] rfl rfl rfl ⟨gl.length-(k+1),by omega,k+1,rfl,by omega,hno',?_,by rw [hFk]; rfl⟩
    rw [hFk]; rfl
 ·exfalso
  obtain rfl:k=gl.length:=by omega
  rw [List.take_length] at hno
  obtain ⟨x,hx,i,hi,h1,h2⟩:=hex
  have:=hno x hx i hi
  omega
def rStands (key:BitVec 64) (bs:Bytes) (b:RB):Bool:=decide (wordB bs (256*(b.page+pagesC b.n)-8).toNat=canW key (256*b.page))
theorem rStands_tr (key:BitVec 64) (bs:Bytes) (hb:bs.length≤65536) (gl:List RB) (b:RB) (i:Nat) (hp:0≤b.page) (hi:256*(b.page+pagesC b.n)-8=i) (hle:i+8≤bs.length) :
  Tr Try.prog 13 [ptr 0,.agg ⟨RB.cells b⟩] (RS key bs gl) (fun v K=>v=.bool (rStands key bs b)∧K=RS key bs gl):=by
 have hP:=rPages_tr b.n
 have hPb:=pagesC_bd b.n
 have hM:=rMix_tr (key ^^^ BitVec.ofInt 64 (256*b.page))
 change Tr Try.prog _ _ _ (fun v K=>v=.int .u64 ((canW key (256*b.page)).toNat:Int)∧K=[]) at hM
 have hG:Tr Try.prog 35 [.slice (some ⟨0,i*1,none⟩) (i+8-i) (bs.length-i)] [BL bs] (fun v K=>v=.int .u64 ((wordB bs i).toNat:Int)∧K=[BL bs]):=by
  rw [show i+8-i=8 by omega]; exact rGet_tr bs i (bs.length-i) (by omega) hb
 refine Tr.of row_tumbrelref08_Set_Stands_ok rfl ?_
 repeat' (first|refine qN ?_|refine dN ?_|refine dR ?_|refine d0 ?_|refine rT ?_|refine cP [] (hP) ?_|refine S_Q [] rfl rfl (QY.mul (c:=((i+8:Nat):Int)) rfl rfl (by omega) (by omega) (by omega)) ?_|refine S_Q [] rfl rfl (QY.sub (c:=(i:Int)) rfl rfl (by omega) (by omega) (by omega)) ?_|refine S_Q [] rfl rfl (QY.slc0 (b:=1) (lo':=i) (hi':=i+8) rfl rfl rfl (by omega) (by omega)) ?_|refine S_Q [] rfl rfl (QY.cvIW rfl) ?_|refine S_Q [] rfl rfl (QY.xorW rfl rfl) ?_|refine cP [1] (hG) ?_|refine cP [] (hM) ?_|refine aA ?_|refine aS ?_|refine aI (hn:=?_)|refine aM ?_|refine qR ?_|refine qS ?_|exact ⟨rfl,rfl⟩|fail)
 refine ⟨congrArg Value.bool ?_,rfl⟩
 rw [rStands,hi,Int.toNat_natCast,Bool.eq_iff_iff,beq_iff_eq,decide_eq_true_eq]
 exact ⟨fun h=>BitVec.eq_of_toNat_eq (by omega),fun h=>by rw [h]⟩
theorem rDrop_no (key:BitVec 64) (bs:Bytes) (l:List RB) (hl:l.length≤1000) (p:Int) (h:atR l p = -1):Tr Try.prog 10 [ptr 0,.int .i64 p] (RS key bs l) (fun v K=>v=.tuple ⟨[.bool false,.int .i64 6]⟩∧K=RS key bs l):=by
 have hA:=rAt_tr key bs l hl p
 rw [h] at hA
 refine Tr.of row_tumbrelref08_Set_Drop_ok rfl ?_
 repeat' (first|refine qN ?_|refine dN ?_|refine dR ?_|refine d0 ?_|refine rT ?_|refine qT ?_|refine qU ?_|refine qL ?_|refine qK ?_|refine iF (fun h=>?_) (fun h=>?_)|refine aX ?_|refine cP [0,1,2] (hA) ?_|refine aA ?_|refine aI (hn:=?_)|refine qR ?_|refine qS ?_|exact ⟨rfl,rfl⟩|fail)
set_option maxHeartbeats 2000000 in
theorem rDrop_ok (key:BitVec 64) (bs:Bytes) (hb:bs.length≤65536) (l:List RB) (hl:l.length≤1000) (i:Nat) (b:RB) (p M:Nat) (hp:b.page=p) (hi:l[i]?=some b) (h:atR l p=i) (hM:pagesC b.n=M) (hM1:1≤M) (hle:256*(p+M)≤bs.length) :
  TrK Try.prog [] [0] 10 [ptr 0,.int .i64 p] (RS key bs l) (fun v K=>v=.tuple ⟨[.bool (rStands key bs b),.int .i64 0]⟩∧K=RS key (overB bs (256*p) (List.replicate (256*M) 0xDD#8)) (l.take i++l.drop (i+1))):=by
 have hA:=rAt_tr key bs l hl p
 rw [h] at hA
 have hil:i<l.length:=(List.getElem?_eq_some_iff.1 hi).1
 have hS:=rStands_tr key bs hb l b (256*(p+M)-8) (by omega) (by omega) (by omega)
 have hP:=rPages_tr b.n
 rw [hM] at hP
 have hF:=rFill_tr key bs hb l p M hle 0xDD#8
 have hlb:(overB bs (256*p) (List.replicate (256*M) 0xDD#8)).length=bs.length:=overB_length (by rw [List.length_replicate]; omega)
 simp only [RS,hlb,← hp] at hF
 refine Tr.of row_tumbrelref08_Set_Drop_ok rfl ?_
 repeat' (first|refine qN ?_|refine dN ?_|refine d0 ?_|refine qT ?_|refine qU ?_|refine qL ?_|refine qK ?_|refine iF (fun h=>?_) (fun h=>?_)|refine aX ?_|refine cP [0,1,2] (hA) ?_|refine S_Q [] rfl rfl (QY.ldRow RB.ok rfl rfl hi (by decide)) ?_|refine cP [0,1,2] (hS) ?_|refine cP [] (hP) ?_|(refine cW [0,1,2] (hF) ?_; conv=>whnf)|refine S_Q [] rfl rfl (QY.slc0 (b:=2) (lo':=0) (hi':=i) rfl rfl rfl (by omega) (by omega)) ?_|refine S_Q [] rfl rfl (QY.slc0 (b:=2) (lo':=i+1) (hi':=l.length) rfl rfl rfl (by omega) (by omega)) ?_|refine aA ?_|refine aI (hn:=?_)|refine qR ?_|refine qS ?_|exact ⟨rfl,rfl⟩|fail)
 refine S_E [] rfl rfl (esafe_ok rfl) ?_
 rintro _ _ ⟨rfl,rfl⟩
 refine ⟨(by repeat' (first|exact trivial|refine ⟨⟨qsafe_ok (st:=[]) rfl,Sure.of rfl⟩,?_⟩|refine ⟨.inl rfl,?_⟩|refine ⟨.inr ⟨qsafe_ok (st:=[]) rfl,Sure.of rfl⟩,?_⟩|refine ⟨⟨qsafe_ok (st:=[]) rfl,Sure.slice (by omega)⟩,?_⟩|refine ⟨.inr ⟨qsafe_ok (st:=[]) rfl,Sure.slice (by omega)⟩,?_⟩|refine ⟨.inr ⟨QY.neqB rfl (by kernel_rfl) rfl rfl,Sure.of rfl⟩,?_⟩|refine ⟨.inr ⟨QY.eqlB rfl (by kernel_rfl) rfl rfl,Sure.of rfl⟩,?_⟩ | fail)),LSt.nf ?_⟩
 conv=>whnf
 refine S_wk [] rfl (wk_gro0 (b:=4) 2 rfl) ?_
 first|refine L_rs ?_|refine L_reg ?_ | skip
 refine eE rfl rfl (EW.appRS (bytes:=16) (xs:=[]) (ys:=l) (i:=0) RB.ok rfl (by kernel_rfl) rfl rfl rfl rfl (by omega) rfl (by omega) (by decide) (by omega)) ?_
 conv=>whnf
 first|refine L_rs ?_|refine L_reg ?_ | skip
 refine eE rfl rfl (EW.appRSe (bytes:=16) (t:=l.length-1) (ys:=l) (i:=i+1) (by omega) rfl RB.ok rfl (by kernel_rfl) rfl rfl rfl rfl rfl (by simp; omega) (by omega) (by decide) (by omega)) ?_
 conv=>whnf
 repeat' (first|refine qN ?_|refine dN ?_|refine d0 ?_|refine qT ?_|refine qU ?_|refine qL ?_|refine qK ?_|refine iF (fun h=>?_) (fun h=>?_)|refine aX ?_|refine aA ?_|refine aI (hn:=?_)|refine qR ?_|refine qS ?_|exact ⟨rfl,rfl⟩|fail)
 have hlen:(l.take i++l.drop (i+1)).length=l.length-1:=by simp; omega
 have e2:(l.drop (i+1)).take (l.length-(i+1))=l.drop (i+1):=by rw [List.take_of_length_le (by simp)]
 have hE:RS key (overB bs (256*p) (List.replicate (256*M) 0xDD#8)) (l.take i++l.drop (i+1))=[.cells 0 [slB 1 bs.length,.int .u64 (key.toNat:Int),slB 2 (l.length-1)],BL (overB bs (256*p) (List.replicate (256*M) 0xDD#8)),.gro 2 (rowsC RB.cells ([]++List.take (i-0) (List.drop 0 l)++List.take (l.length-(i+1)) (List.drop (i+1) l)))]:=by
  simp only [RS,hlen,hlb]; rw [e2]; rfl
 refine L_ret (RetQ.pick [0,1,6] rfl rfl rfl rfl ⟨rfl,?_⟩)
 rw [hE]; rfl
end Go.Proofs.Ytpnjahijpdfcgaa
end
section
namespace Go.Tum.Base
open Go Go.Tum
theorem sorted_extP {p q:List Int} (hp:p.Pairwise (· < ·)) (hq:q.Pairwise (· < ·)) (h:∀ a,a∈p↔a∈q):p=q:=by
 have n1:p.Nodup:=List.nodup_iff_pairwise_ne.2 (hp.imp fun h=>by omega)
 have n2:q.Nodup:=List.nodup_iff_pairwise_ne.2 (hq.imp fun h=>by omega)
 refine ((List.perm_ext_iff_of_nodup n1 n2).2 h).eq_of_pairwise (le:=fun a b:Int=>a<b) (fun a b _ _ h1 h2=>?_) hp hq
 omega
end Go.Tum.Base
namespace Go.Proofs.Ytpnjahijpdfcgaa
open Go Go.Tum Go.Tum.Base
structure LP (N:Nat) (bs:Bytes) (G:Great) (c:Nat) (l:List RB) (k:Nat):Prop where
 len:bs.length=256*N
 n12:N≤12
 sm:Small G N
 ok:GOk G c
 so:(l.map RB.page).Pairwise (· < ·)
 mem:∀ a n:Int,(∃ x∈G,x.1=a∧x.2.1=n)↔(⟨a,n⟩:RB)∈l
 ct:l.length≤k
theorem LP.nil {N:Nat} (h:N≤12):LP N (List.replicate (256*N) 0) [] 0 [] 0:=⟨List.length_replicate ..,h,(by intro x hx; cases hx),GOk.nil,by simp,by simp,by simp⟩
section
variable {N:Nat} {key:BitVec 64} {bs:Bytes} {G:Great} {c:Nat} {l:List RB} {k:Nat}
theorem LP.up (h:LP N bs G c l k) {k':Nat} (hk:k≤k'):LP N bs G c l k':=⟨h.len,h.n12,h.sm,h.ok,h.so,h.mem,by have:=h.ct; omega⟩
theorem LP.bytes (h:LP N bs G c l k) {bs':Bytes} (hb:bs'.length=bs.length):LP N bs' G c l k:=⟨by rw [hb,h.len],h.n12,h.sm,h.ok,h.so,h.mem,h.ct⟩
theorem LP.sm256 (h:LP N bs G c l k):Small G 256:=fun x hx=>by
 obtain ⟨h1,h2,h3⟩:=h.sm x hx
 have:=h.n12
 exact ⟨h1,h2,by omega⟩
theorem LP.at (h:LP N bs G c l k) {b:RB} (hb:b∈l):∃ x∈G,x.1=b.page∧x.2.1=b.n:=(h.mem b.page b.n).2 hb
theorem LP.bd (h:LP N bs G c l k) {b:RB} (hb:b∈l):0≤b.page∧greatC b.n=true∧b.page+pagesC b.n≤N:=by
 obtain ⟨x,hx,h1,h2⟩:=h.at hb
 have:=h.sm x hx
 rwa [h1,h2] at this
theorem LP.get (h:LP N bs G c l k) {b:RB} (hb:b∈l):gget G b.page=b.n∧ghas G b.page=true:=by
 obtain ⟨x,hx,h1,h2⟩:=h.at hb
 have:=h.ok.find hx
 rw [h1] at this
 exact ⟨by simp [gget,this,h2],by simp [ghas,this]⟩
theorem LP.all (h:LP N bs G c l k):sortZ (G.map (·.1))=l.map RB.page:=by
 have hp:=List.mergeSort_perm (G.map (·.1)) (fun x y=>decide (x≤y))
 have hs:(sortZ (G.map (·.1))).Pairwise (fun a b=>decide (a≤b)=true):=List.pairwise_mergeSort (fun a b c=>by simp only [decide_eq_true_eq]; omega) (fun a b=>by simp only [Bool.or_eq_true,decide_eq_true_eq]; omega) _
 have hnd:=List.nodup_iff_pairwise_ne.1 (hp.nodup_iff.2 h.ok.keys)
 refine sorted_extP ((hs.and hnd).imp fun {a b} h=>by have:=h.1; have:=h.2; simp only [decide_eq_true_eq] at *; omega) h.so fun a=>hp.mem_iff.trans ?_
 rw [List.mem_map,List.mem_map]
 constructor
 ·rintro ⟨x,hx,rfl⟩
  exact ⟨_,(h.mem x.1 x.2.1).1 ⟨x,hx,rfl,rfl⟩,rfl⟩
 ·rintro ⟨b,hb,rfl⟩
  obtain ⟨x,hx,h1,_⟩:=h.at hb
  exact ⟨x,hx,h1⟩
theorem LP.length (h:LP N bs G c l k):G.length=l.length:=by
 have:=congrArg List.length h.all
 rwa [sortZ_len,List.length_map,List.length_map] at this
theorem LP.whole (h:LP N bs G c l k):G.all (standsG key bs)=l.all (rStands key bs):=by
 rw [Bool.eq_iff_iff,List.all_eq_true,List.all_eq_true]
 constructor
 ·intro hq b hb
  obtain ⟨x,hx,h1,h2⟩:=h.at hb
  have:=hq x hx
  unfold standsG at this
  rw [h1,h2] at this
  exact this
 ·intro hq x hx
  exact hq _ ((h.mem x.1 x.2.1).1 ⟨x,hx,rfl,rfl⟩)
theorem LP.meet (h:LP N bs G c l k) {p M:Nat} (hM:1≤M):meetsG G p M=true↔∃ x∈l,∃ i:Nat,i<M∧x.page≤(p:Int)+i∧(p:Int)+i<x.page+pagesC x.n:=by
 rw [meetsG,List.any_eq_true]
 constructor
 ·rintro ⟨x,hx,hq⟩
  simp only [decide_eq_true_eq] at hq
  have hs:=h.sm x hx
  obtain ⟨Q,hQ,hQ1,_⟩:=greatC_pages hs.2.1
  refine ⟨⟨x.1,x.2.1⟩,(h.mem x.1 x.2.1).1 ⟨x,hx,rfl,rfl⟩,(max (p:Int) x.1-p).toNat,?_⟩
  simp only
  omega
 ·rintro ⟨b,hb,i,hi,h1,h2⟩
  obtain ⟨x,hx,h3,h4⟩:=h.at hb
  refine ⟨x,hx,?_⟩
  simp only [decide_eq_true_eq]
  rw [h3,h4]
  omega
theorem LP.no (h:LP N bs G c l k) {p M:Nat} {n:Int} (hn:greatC n=true) (hM:pagesC n=M) (hm:meetsG G p M=false):gfind G p=none:=no_find h.sm256 hn (by rw [hM]; exact hm)
theorem LP.gone (h:LP N bs G c l k) {p:Int} (hg:ghas G p=false):atR l p = -1:=by
 refine atR_miss fun j b hj hb he=>?_
 have:=(h.get (List.mem_of_getElem? hb)).2
 rw [he,hg] at this
 cases this
theorem LP.here (h:LP N bs G c l k) {p:Int} (hg:ghas G p=true):∃ (i:Nat) (b:RB),l[i]?=some b∧b.page=p∧atR l p=i∧b∈l:=by
 unfold ghas at hg
 obtain ⟨x,hx⟩:=Option.isSome_iff_exists.1 hg
 obtain ⟨h1,h2⟩:=gfind_some hx
 have hb:=(h.mem x.1 x.2.1).1 ⟨x,h1,rfl,rfl⟩
 obtain ⟨i,hi⟩:=List.mem_iff_getElem?.1 hb
 refine ⟨i,_,hi,h2,atR_hit (fun j d hj hd he=>?_) hi h2,hb⟩
 obtain ⟨hil,hie⟩:=List.getElem?_eq_some_iff.1 hi
 obtain ⟨hjl,hje⟩:=List.getElem?_eq_some_iff.1 hd
 have:=List.pairwise_iff_getElem.1 h.so j i (by simpa using hjl) (by simpa using hil) hj
 simp only [List.getElem_map,hie,hje] at this
 omega
theorem LP.make (h:LP N bs G c l k) {p M:Nat} {n:Int} (hn:greatC n=true) (hM:pagesC n=M) (hpM:p+M≤N) (hm:meetsG G p M=false):LP N (madeB key bs p M) (gput G p n c) (c+1) (rPutL l p n) (k+1):=by
 obtain ⟨M',hM',hM1,hM17⟩:=greatC_pages hn
 have hf:=h.no hn hM hm
 have hne:∀ b∈l,b.page≠p:=fun b hb he=>by
  obtain ⟨x,hx,h1,_⟩:=h.at hb
  exact gfind_none hf x hx (h1.trans he)
 have hl:=h.len
 refine ⟨by rw [madeB_length (by omega) (by omega),hl],h.n12,?_,h.ok.put hf,?_,?_,?_⟩
 ·intro x hx
  rcases List.mem_append.1 hx with hx | hx
  ·exact h.sm x hx
  ·rw [List.mem_singleton] at hx; subst hx
   exact ⟨by simp,hn,by simp only [hM]; omega⟩
 ·have hso:=h.so
  rw [List.pairwise_map] at hso ⊢
  unfold rPutL
  rw [List.pairwise_append]
  refine ⟨hso.filter _,?_,?_⟩
  ·rw [List.pairwise_cons]
   refine ⟨fun b hb=>?_,hso.filter _⟩
   have:=(List.mem_filter.1 hb).2
   simpa using this
  ·intro a ha b hb
   have h1:=(List.mem_filter.1 ha).2
   simp only [decide_eq_true_eq] at h1
   rcases List.mem_cons.1 hb with rfl | hb
   ·exact h1
   ·have h2:=(List.mem_filter.1 hb).2
    simp only [decide_eq_true_eq] at h2
    omega
 ·intro a m
  have:(⟨a,m⟩:RB)∈rPutL l p n↔(⟨a,m⟩:RB)∈l∨(a=p∧m=n):=by
   unfold rPutL
   rw [List.mem_append,List.mem_cons,List.mem_filter,List.mem_filter]
   simp only [decide_eq_true_eq,RB.mk.injEq]
   constructor
   ·rintro (⟨h1,_⟩ | h1 | ⟨h1,_⟩)
    ·exact .inl h1
    ·exact .inr h1
    ·exact .inl h1
   ·rintro (h1 | h1)
    ·have:=hne _ h1
     simp only at this
     by_cases h2:a<p
     ·exact .inl ⟨h1,h2⟩
     ·exact .inr (.inr ⟨h1,by omega⟩)
    ·exact .inr (.inl h1)
  rw [this,← h.mem]
  constructor
  ·rintro ⟨x,hx,h1,h2⟩
   rcases List.mem_append.1 hx with hx | hx
   ·exact .inl ⟨x,hx,h1,h2⟩
   ·rw [List.mem_singleton] at hx; subst hx
    exact .inr ⟨h1.symm,h2.symm⟩
  ·rintro (⟨x,hx,h1,h2⟩ | ⟨rfl,rfl⟩)
   ·exact ⟨x,List.mem_append_left _ hx,h1,h2⟩
   ·exact ⟨_,List.mem_append_right _ (List.mem_singleton.2 rfl),rfl,rfl⟩
 ·have h1:=h.ct
  have h2:(rPutL l p n).length≤l.length+1:=by
   unfold rPutL
   rw [List.length_append,List.length_cons]
   have h3:∀ l:List RB,(l.filter fun x=>decide (x.page<(p:Int))).length+(l.filter fun x=>decide ((p:Int)<x.page)).length≤l.length:=by
    intro l
    induction l with
    | nil=>simp
    | cons a r ih =>
     rw [List.filter_cons,List.filter_cons]
     split <;> split <;> simp_all <;> omega
   have:=h3 l
   omega
  omega
theorem LP.drop (h:LP N bs G c l k) {p:Int} {i:Nat} {b:RB} (hi:l[i]?=some b) (hp:b.page=p) {bs':Bytes} (hb:bs'.length=bs.length):LP N bs' (gdel G p) c (l.take i++l.drop (i+1)) k:=by
 have hil:=(List.getElem?_eq_some_iff.1 hi).1
 have hie:=(List.getElem?_eq_some_iff.1 hi).2
 refine ⟨by rw [hb,h.len],h.n12,fun x hx=>h.sm x (List.mem_filter.1 hx).1,h.ok.del p,?_,?_,?_⟩
 ·rw [← List.eraseIdx_eq_take_drop_succ]
  exact h.so.sublist ((List.eraseIdx_sublist l i).map _)
 ·intro a m
  have hl:l=l.take i++b::l.drop (i+1):=by rw [← hie,← List.drop_eq_getElem_cons hil,List.take_append_drop]
  have hso:=h.so
  rw [List.pairwise_map,hl,List.pairwise_append,List.pairwise_cons] at hso
  obtain ⟨_,⟨hs2,_⟩,hs3⟩:=hso
  have hm:(⟨a,m⟩:RB)∈l.take i++l.drop (i+1)↔(⟨a,m⟩:RB)∈l∧a≠p:=by
   have:(⟨a,m⟩:RB)∈l↔(⟨a,m⟩:RB)∈l.take i∨(⟨a,m⟩:RB)=b∨(⟨a,m⟩:RB)∈l.drop (i+1):=by
    conv=>lhs; rw [hl]
    rw [List.mem_append,List.mem_cons]
   rw [this,List.mem_append]
   constructor
   ·rintro (h1 | h1)
    ·have:=hs3 _ h1 b (List.mem_cons_self ..)
     simp only at this
     exact ⟨.inl h1,by omega⟩
    ·have:=hs2 _ h1
     simp only at this
     exact ⟨.inr (.inr h1),by omega⟩
   ·rintro ⟨h1 | h1 | h1,h2⟩
    ·exact .inl h1
    ·rw [← h1] at hp; exact absurd hp h2
    ·exact .inr h1
  rw [hm,← h.mem]
  constructor
  ·rintro ⟨x,hx,h1,h2⟩
   obtain ⟨h3,h4⟩:=List.mem_filter.1 hx
   exact ⟨⟨x,h3,h1,h2⟩,by rw [← h1]; simpa using h4⟩
  ·rintro ⟨⟨x,hx,h1,h2⟩,h3⟩
   exact ⟨x,List.mem_filter.2 ⟨hx,by rw [h1]; simpa using h3⟩,h1,h2⟩
 ·have:=h.ct
  rw [List.length_append,List.length_take,List.length_drop]; omega
end
end Go.Proofs.Ytpnjahijpdfcgaa
end
section
namespace Go.Tum
open Go
structure BN where
 b:Nat
 o:Nat
 n:Nat
 c:Nat
 xs:List (BitVec 8)
def BN.sym (d:BN):Value:=.slice (some ⟨d.b,d.o,some 0⟩) d.n d.c
def BN.Ok (P:Program) (n0:NA) (d:BN):Prop:=d.xs.length=d.n∧∃ n c F,d.n≤n∧n0.Has P (.s ⟨d.b,d.o,none⟩ n c (n*1) (rowF 1 F))∧∀ (j:Nat) (x:BitVec 8),d.xs[j]?=some x→F j=[.v (.int .u8 (x.toNat:Int))]
section
variable {P:Program} {n0:NA} {l:Env} {L:LH}
theorem one_byteC {ys:List (BitVec 8)}:∀ u∈rowsC byteC ys,one u=true:=fun u hu=>(SR.still (E:=[]) (List.all_eq_true.1 (rowsC_still byteC_ok ys) u hu)).one.1
theorem rowsB_len (ys:List (BitVec 8)):(rowsC byteC ys).length=ys.length*1:=rowsC_length byteC_ok ys
theorem rowsB_get {ys:List (BitVec 8)} {j:Nat} {x:BitVec 8} (h:ys[j]?=some x):(rowsC byteC ys)[j]?=some (.int .u8 (x.toNat:Int)):=by
 have:=rowsC_cell byteC_ok (j:=0) h (by decide)
 rw [Nat.mul_one,Nat.add_zero] at this
 exact this
theorem BN.rd {X:Nat→Prop} {w0 w:World} {E0 E:Emb} {d:BN} {v:Value} (hd:d.Ok P n0) (h0:n0.Ok P X w0 E0) (hR:Rep X w0 E L w) (hv:S0 E d.sym v):RdC w 1 v d.n (rowsC byteC d.xs):=by
 obtain ⟨h1,n,c,F,h2,h3,h4⟩:=hd
 refine ⟨by rw [rowsB_len,h1],one_byteC,?_⟩
 rcases hv with rfl | ⟨hn,hc,a',rfl⟩
 rotate_left
 ·exact .inl ⟨⟨_,_,rfl⟩,hn⟩
 ·refine .inr ⟨_,_,rfl,fun j hj=>?_⟩
  rw [Nat.mul_one] at hj
  obtain ⟨y,h5,h6⟩:=argR_cell h0 hR h3 (by omega:j<n*1)
  have ha:d.xs[j]?=some d.xs[j]:=List.getElem?_eq_getElem (by omega)
  rw [rowF_one (h4 j _ ha)] at h6
  have h6:y=_:=h6
  subst h6
  rw [add_none,rowsB_get ha]
  exact h5
theorem EW.copyBN {o:Oper} {x y:Operand} {dT sT:TypeId} {b i dn dc:Nat} {xs:List (BitVec 8)} {d:BN} (hd:d.Ok P n0) (ho:o.op=.call ⟨.builtin .copy,⟨[x,y]⟩,⟨[dT,sT]⟩⟩) (ht:cpyT P dT=some 1)
  (hx:lv l x=some (.slice (some ⟨b,i*1,none⟩) dn dc)) (hy:lv l y=some d.sym) (hb:L[b]?=some (.gro 1 (rowsC byteC xs))) (hdn:i+dn≤xs.length) :
  EW P n0 L l (.raw o) (fun v K=>v=.int .i64 (min d.n dn:Nat)∧K=L.set b (.gro 1 (rowsC byteC (xs.take i++d.xs.take (min d.n dn)++xs.drop (i+min d.n dn))))):=by
 intro X w0 E0 w E l' Kf h0 hE hR hl hK
 unfold cpyT at ht
 split at ht
 rotate_left
 ·cases ht
 rename_i e ie z he
 obtain ⟨hu,hi,_⟩:=elemOf_ok he
 have hsz:ie.size=1:=Option.some.inj ht
 obtain ⟨vd',h1,h2⟩:=lv_ev hl hx
 obtain ⟨vs',h3,h4⟩:=lv_ev hl hy
 obtain ⟨dd,opp,ty,pos,af,gg⟩:=o
 simp only at ho
 subst ho
 have hrd:=BN.rd hd h0 hR h4
 obtain ⟨base',dc',rfl⟩:=form_slice h2
 obtain ⟨sb',sc',rfl⟩:∃ sb' sc',vs'=.slice sb' d.n sc':=by
  rcases h4 with rfl | ⟨hn,_,a',rfl⟩
  ·exact ⟨_,_,rfl⟩
  ·exact ⟨_,_,by rw [hn]⟩
 refine copy_anyL (ty:=ty) hu hi h1 h3 (fun hm=>?_) (fun hp=>?_)
 ·refine hK w E _ _ _ ⟨rfl,rfl⟩ (Ext.refl E) ?_ (by rw [hm]; rfl)
  rw [hm]
  have e:xs.take i++d.xs.take 0++xs.drop (i+0)=xs:=by simp
  rw [e,set_self hb]
  exact hR
 ·have hdn0:dn≠0:=by omega
  have hsn:d.n≠0:=by omega
  obtain ⟨_,r,hr,⟨a1,c1,e1,hcase⟩ | ⟨hz0,_⟩⟩:=h2
  rotate_left
  ·exact absurd hz0 hdn0
  rcases hcase with ⟨rfl,rfl⟩ | ⟨hz0,_⟩
  rotate_left
  ·exact absurd hz0 hdn0
  cases e1
  obtain ⟨hr1,hr2,hr3⟩:=hrd
  rcases hr3 with ⟨_,h⟩ | ⟨sa,c2,e2,hcell⟩
  ·exact absurd h hsn
  cases e2
  have hlen:(d.xs.take (min d.n dn)).length=min d.n dn:=by rw [List.length_take,hd.1]; omega
  have hst:=rowsC_still byteC_ok (d.xs.take (min d.n dn))
  have hul:(rowsC byteC (d.xs.take (min d.n dn))).length=min d.n dn*ie.size:=by rw [rowsC_length byteC_ok,hlen,hsz]
  obtain ⟨cs,hB,hcl,hR'⟩:=hR.putg (o:=i*1) (us:=rowsC byteC (d.xs.take (min d.n dn))) hb hr hst (by rw [hul,hsz,rowsC_length byteC_ok]; omega) (by rw [hul,hsz]; omega)
  refine ⟨_,_,_,cs,rowsC byteC (d.xs.take (min d.n dn)),rfl,rfl,hB,by rw [← hul]; exact hcl,hul,fun j' hj'=>?_,fun u hu=>(SR.still (E:=E) (List.all_eq_true.1 hst u hu)).one.1,hK _ E _ _ _ ⟨rfl,rfl⟩ (Ext.refl E) ?_ rfl⟩
  ·rw [hsz,Nat.mul_one] at hj'
   have ha:d.xs[j']?=some (d.xs[j']'(by rw [hd.1]; omega)):=List.getElem?_eq_getElem _
   rw [hcell j' (by omega),rowsB_get ha,rowsB_get (by rw [List.getElem?_take,if_pos hj']; exact ha)]
  ·have e:=rowsC_splice byteC_ok (xs:=xs) (ys:=d.xs.take (min d.n dn)) (k:=i)
   rw [e] at hR'
   rw [hlen] at hR'
   exact hR'
end
end Go.Tum
end
section
namespace Go.Proofs.Ytpnjahijpdfcgaa
open Go Go.Tum Go.Tum.Base
set_option maxRecDepth 4000
structure ON where
 kind:Int
 page:Int
 n:Int
 at_:Int
 b:Nat
 o:Nat
 m:Nat
 c:Nat
 xs:Nat→BitVec 8
instance : Inhabited ON:=⟨⟨0,0,0,0,0,0,0,0,fun _=>0⟩⟩
def ON.bytes (r:ON) (m:Nat):BN:=⟨r.b,r.o,m,r.c,(List.range m).map r.xs⟩
def OIn (N:Nat) (F:Nat→List AV) (r:Nat→ON):Prop:=∀ i,i<N→∃ G:Nat→List AV,F i=[.v (.int .i64 (r i).kind),.v (.int .i64 (r i).page),.v (.int .i64 (r i).n),.v (.int .i64 (r i).at_),.s ⟨(r i).b,(r i).o,none⟩ (r i).m (r i).c ((r i).m*1) (rowF 1 G)]∧(r i).m≤(r i).c∧∀ j,j<(r i).m→G j=[.v (.int .u8 ((r i).xs j).toNat)]
abbrev AO (N:Nat) (F:Nat→List AV) (k:Nat):Args:=[(k,N*5,rowF 5 F)]
def BIn (N:Nat) (F:Nat→List AV) (d:BN):Prop:=∀ (n0:NA) (k:Nat),(k,N*5,rowF 5 F)∈n0.A→d.Ok Try.prog n0
theorem BIn.of {N:Nat} {F:Nat→List AV} {r:Nat→ON} (h:OIn N F r) {i:Nat} (hi:i<N) {m:Nat} (hm:m≤(r i).m):BIn N F ((r i).bytes m):=by
 obtain ⟨G,h1,h2,h3⟩:=h i hi
 intro n0 k hA
 refine ⟨by simp [ON.bytes],(r i).m,(r i).c,G,hm,NA.Has.row (j:=4) hA hi (by rw [h1]; rfl) (by rw [h1]; rfl),fun j x hx=>?_⟩
 have hj:=(List.getElem?_eq_some_iff.1 hx).1
 simp only [ON.bytes,List.length_map,List.length_range] at hj
 rw [h3 j (by omega)]
 simp only [ON.bytes,List.getElem?_map,List.getElem?_range hj,Option.map_some,Option.some.injEq] at hx
 rw [hx]
theorem ldON {n0:NA} {L:LH} {l:Env} {x:Operand} {i N k:Nat} {F:Nat→List AV} {r:ON} {G:Nat→List AV} (hx:lv l x=some (.pointer (some ⟨k,i*5,none⟩))) (hA:n0.A=AO N F k) (hi:i<N) (e:F i=[.v (.int .i64 r.kind),.v (.int .i64 r.page),.v (.int .i64 r.n),.v (.int .i64 r.at_),.s ⟨r.b,r.o,none⟩ r.m r.c (r.m*1) (rowF 1 G)]) :
  QY Try.prog n0 L l (.ldn x 5) (.agg ⟨[.int .i64 r.kind,.int .i64 r.page,.int .i64 r.n,.int .i64 r.at_,.slice (some ⟨r.b,r.o,some 0⟩) r.m r.c]⟩):=by
 have:=QY.rowF (P:=Try.prog) (n0:=n0) (L:=L) (l:=l) (sz:=5) (n:=N) (j:=0) (F:=F) i hx (by rw [hA]; rfl) rfl hi (by rw [e]; rfl) (by rw [e]; rfl)
 rw [e] at this; exact this
theorem arenaStoreN_ok (N:Nat) (F:Nat→List AV) (d:BN) (hd:BIn N F d) (bs:Bytes) (hb:bs.length≤65536) (i:Nat) (h:i+d.n≤bs.length) (hx:d.xs.length=d.n) :
  TrK Try.prog (AO N F 2) [0,1,2] 11 [ptr 0,.int .i64 i,.slice (some ⟨d.b,d.o,some 0⟩) d.n d.c] (AL bs++[.dead]) (fun v K=>v=.int .i64 0∧K=[.cells 0 [slB 1 bs.length],BL (overB bs i d.xs),.dead]):=by
 have hI:=arenaIn_tr bs hb i d.n
 rw [errIn_ok h] at hI
 refine Tr.of row_arena_Arena_Store_ok rfl ?_
 repeat' (first|refine qN ?_|refine dN ?_|refine dR ?_|refine d0 ?_|refine rT ?_|refine qT ?_|refine qU ?_|refine qL ?_|refine qK ?_|refine iF (fun h=>?_) (fun h=>?_)|refine aI (hn:=?_)|refine qR ?_|refine qS ?_|exact ⟨rfl,rfl⟩|fail)
 first|refine L_rs ?_|refine L_reg ?_ | skip
 refine cP [0,1] (hI) ?_
 repeat' (first|refine qN ?_|refine dN ?_|refine dR ?_|refine d0 ?_|refine rT ?_|refine qT ?_|refine qU ?_|refine qL ?_|refine qK ?_|refine iF (fun h=>?_) (fun h=>?_)|refine aI (hn:=?_)|refine qR ?_|refine qS ?_|exact ⟨rfl,rfl⟩|fail)
 first|refine L_rs ?_|refine L_reg ?_ | skip
 refine S_Q [] rfl rfl (QY.slc0 (b:=1) (lo':=i) (hi':=bs.length) rfl rfl rfl (by omega) (by omega)) ?_
 first|refine L_rs ?_|refine L_reg ?_ | skip
 refine eE rfl rfl (EW.copyBN (d:=d) (i:=i) (xs:=bs) (hd _ 2 (List.mem_singleton.2 rfl)) rfl (by kernel_rfl) rfl rfl rfl (by omega)) ?_
 conv=>whnf
 repeat' (first|refine qN ?_|refine dN ?_|refine dR ?_|refine d0 ?_|refine rT ?_|refine qT ?_|refine qU ?_|refine qL ?_|refine qK ?_|refine iF (fun h=>?_) (fun h=>?_)|refine aI (hn:=?_)|refine qR ?_|refine qS ?_|exact ⟨rfl,rfl⟩|fail)
 have e:bs.take i++d.xs.take (min d.n (bs.length-i))++bs.drop (i+min d.n (bs.length-i))=overB bs i d.xs:=by
  rw [Nat.min_eq_left (by omega),overB,← hx,List.take_length]
 rw [← e]
 exact ⟨rfl,rfl⟩
end Go.Proofs.Ytpnjahijpdfcgaa
end
section
namespace Go.Proofs.Ytpnjahijpdfcgaa
open Go Go.Tum Go.Tum.Base Go.Deep
set_option maxRecDepth 4000
theorem awake8_tr:Tr Try.prog 17 [] [] (fun v K=>v=.bool true∧K=[]) :=
 Tr.closed (by kernel_rfl) rfl rfl fun w=>closed_call (vs:=[]) (fuel:=5000) rows_ok (rawQ1_ok _) (rawE2_ok _) rfl rfl rfl (by kernel_rfl) w
end Go.Proofs.Ytpnjahijpdfcgaa
end
section
namespace Go.Proofs.Ytpnjahijpdfcgaa
open Go Go.Tum Go.Tum.Base Go.Deep
set_option maxRecDepth 4000
abbrev SX (W:Nat) (key:BitVec 64) (bs:Bytes) (G:Great) (c:Nat) (rl:List RB):LH:=[.dead,.cells 0 [slB 2 W],BL bs,.cells 0 [ptr 1,.int .u64 (key.toNat:Int),.map (some 4)],.imap G c,.cells 0 [slB 6 W,.int .u64 (key.toNat:Int),slB 7 rl.length],BL bs,.gro 2 (rowsC RB.cells rl)]
set_option maxHeartbeats 4000000 in
theorem LargePlays_tr (x:BitVec 64) (pg:Int) (hpg:0≤pg∧pg<256) (nb:Nat) (hnb:nb≤9223372036854775807) (F:Nat→List AV) (r:Nat→ON) (hr:OIn nb F r) :
  TrK Try.prog (AO nb F 0) [0] 3 [.int .u64 (x.toNat:Int),.int .u8 pg,slB 0 nb] [.dead] (fun v _=>v=.bool true):=by
 obtain ⟨N,hN⟩:∃ N:Nat,pg % 12=N:=⟨(pg % 12).toNat,by omega⟩
 have hN12:N≤11:=by omega
 obtain ⟨W,hW⟩:∃ W:Nat,256*N=W:=⟨_,rfl⟩
 have hNew:=arenaNew_tr N W (by omega)
 have hLn:=largeNew_tr (List.replicate W 0) (keyW x)
 simp only [AL,List.length_replicate] at hNew hLn
 refine Tr.of row_tumbrellaw08_LargePlays_ok rfl ?_
 repeat' (first|refine qN ?_|refine dN ?_|refine dR ?_|refine d0 ?_|refine qB ?_|refine rT ?_|refine qT ?_|refine qU ?_|refine qL ?_|refine qK ?_|refine qF ?_|refine qE ?_|refine iF (fun h=>?_) (fun h=>?_)|refine aX ?_|refine S_Q [] rfl rfl (QY.cvi (m:=pg) rfl (wrap64_id (by omega) (by omega))) ?_|refine S_Q [] rfl rfl (QY.remN rfl rfl hN (by omega) (by omega)) ?_|(refine cF [] (hNew) ?_; conv=>whnf)|refine cP [] (linkNew_tr x) ?_|refine aA ?_|refine aI (hn:=?_)|refine aR ?_|refine aM ?_|refine sP 98 (fun h=>?_) (fun h=>?_)|refine sP 150 (fun h=>?_) (fun h=>?_)|refine sP 162 (fun h=>?_) (fun h=>?_)|refine sP 181 (fun h=>?_) (fun h=>?_)|refine sP 191 (fun h=>?_) (fun h=>?_)|refine sP 198 (fun h=>?_) (fun h=>?_)|refine qR ?_|refine qS ?_|exact ⟨rfl,rfl⟩|fail)
 refine L_mid (fun l L=>l=[(2,slB 0 nb),(7,.int .i64 N),(8,ptr 1),(10,ptr 3),(11,ptr 5)]∧L=SX W (keyW x) (List.replicate W 0) [] 0 []) ?_ ?_
 ·repeat' (first|refine qN ?_|refine dN ?_|refine dR ?_|refine d0 ?_|refine qB ?_|refine rT ?_|refine qT ?_|refine qU ?_|refine qL ?_|refine qK ?_|refine qF ?_|refine qE ?_|refine iF (fun h=>?_) (fun h=>?_)|refine aX ?_|refine S_Q [] rfl rfl (QY.mul (c:=(W:Int)) rfl rfl (by omega) (by omega) (by omega)) ?_|(refine cF [1,2] (hLn) ?_; conv=>whnf)|(refine S_E [] rfl rfl (EW.mk (sz:=1) (bytes:=1) (k:=W) (zs:=byteC 0) rfl (by kernel_rfl) rfl rfl (by omega) (by omega)) ?_; rintro _ _ ⟨rfl,rfl⟩; refine ⟨(by repeat' (first|exact trivial|refine ⟨⟨qsafe_ok (st:=[]) rfl,Sure.of rfl⟩,?_⟩|refine ⟨.inl rfl,?_⟩|refine ⟨.inr ⟨qsafe_ok (st:=[]) rfl,Sure.of rfl⟩,?_⟩|refine ⟨⟨qsafe_ok (st:=[]) rfl,Sure.slice (by omega)⟩,?_⟩|refine ⟨.inr ⟨qsafe_ok (st:=[]) rfl,Sure.slice (by omega)⟩,?_⟩|refine ⟨.inr ⟨QY.neqB rfl (by kernel_rfl) rfl rfl,Sure.of rfl⟩,?_⟩|refine ⟨.inr ⟨QY.eqlB rfl (by kernel_rfl) rfl rfl,Sure.of rfl⟩,?_⟩ | fail)),LSt.nf ?_⟩; conv=>whnf)|(refine S_E [] rfl rfl (esafe_ok rfl) ?_; rintro _ _ ⟨rfl,rfl⟩; refine ⟨(by repeat' (first|exact trivial|refine ⟨⟨qsafe_ok (st:=[]) rfl,Sure.of rfl⟩,?_⟩|refine ⟨.inl rfl,?_⟩|refine ⟨.inr ⟨qsafe_ok (st:=[]) rfl,Sure.of rfl⟩,?_⟩|refine ⟨⟨qsafe_ok (st:=[]) rfl,Sure.slice (by omega)⟩,?_⟩|refine ⟨.inr ⟨qsafe_ok (st:=[]) rfl,Sure.slice (by omega)⟩,?_⟩|refine ⟨.inr ⟨QY.neqB rfl (by kernel_rfl) rfl rfl,Sure.of rfl⟩,?_⟩|refine ⟨.inr ⟨QY.eqlB rfl (by kernel_rfl) rfl rfl,Sure.of rfl⟩,?_⟩ | fail)),LSt.nf ?_⟩; conv=>whnf)|refine L_rT ?_|refine L_regT ?_|refine P_lin rfl ?_|refine P_A [] rfl ?_ ?_|refine P_Q [] rfl rfl (QY.mul (c:=(W:Int)) rfl rfl (by omega) (by omega) (by omega)) ?_|(refine P_E [] rfl rfl (EW.callF [1,2] (hLn) rfl rfl (by decide) (by repeat' (first|exact trivial|refine ⟨rfl,?_⟩ | fail)) rfl rfl) ?_; rintro _ _ ⟨rfl,rfl⟩; refine ⟨(by repeat' (first|exact trivial|refine ⟨⟨qsafe_ok (st:=[]) rfl,Sure.of rfl⟩,?_⟩|refine ⟨.inl rfl,?_⟩|refine ⟨.inr ⟨qsafe_ok (st:=[]) rfl,Sure.of rfl⟩,?_⟩|refine ⟨⟨qsafe_ok (st:=[]) rfl,Sure.slice (by omega)⟩,?_⟩|refine ⟨.inr ⟨qsafe_ok (st:=[]) rfl,Sure.slice (by omega)⟩,?_⟩|refine ⟨.inr ⟨QY.neqB rfl (by kernel_rfl) rfl rfl,Sure.of rfl⟩,?_⟩|refine ⟨.inr ⟨QY.eqlB rfl (by kernel_rfl) rfl rfl,Sure.of rfl⟩,?_⟩ | fail)),LPt.nf ?_⟩; conv=>whnf)|(refine P_E [] rfl rfl (EW.mk (sz:=1) (bytes:=1) (k:=W) (zs:=byteC 0) rfl (by kernel_rfl) rfl rfl (by omega) (by omega)) ?_; rintro _ _ ⟨rfl,rfl⟩; refine ⟨(by repeat' (first|exact trivial|refine ⟨⟨qsafe_ok (st:=[]) rfl,Sure.of rfl⟩,?_⟩|refine ⟨.inl rfl,?_⟩|refine ⟨.inr ⟨qsafe_ok (st:=[]) rfl,Sure.of rfl⟩,?_⟩|refine ⟨⟨qsafe_ok (st:=[]) rfl,Sure.slice (by omega)⟩,?_⟩|refine ⟨.inr ⟨qsafe_ok (st:=[]) rfl,Sure.slice (by omega)⟩,?_⟩|refine ⟨.inr ⟨QY.neqB rfl (by kernel_rfl) rfl rfl,Sure.of rfl⟩,?_⟩|refine ⟨.inr ⟨QY.eqlB rfl (by kernel_rfl) rfl rfl,Sure.of rfl⟩,?_⟩ | fail)),LPt.nf ?_⟩; conv=>whnf)|(refine P_E [] rfl rfl (esafe_ok rfl) ?_; rintro _ _ ⟨rfl,rfl⟩; refine ⟨(by repeat' (first|exact trivial|refine ⟨⟨qsafe_ok (st:=[]) rfl,Sure.of rfl⟩,?_⟩|refine ⟨.inl rfl,?_⟩|refine ⟨.inr ⟨qsafe_ok (st:=[]) rfl,Sure.of rfl⟩,?_⟩|refine ⟨⟨qsafe_ok (st:=[]) rfl,Sure.slice (by omega)⟩,?_⟩|refine ⟨.inr ⟨qsafe_ok (st:=[]) rfl,Sure.slice (by omega)⟩,?_⟩|refine ⟨.inr ⟨QY.neqB rfl (by kernel_rfl) rfl rfl,Sure.of rfl⟩,?_⟩|refine ⟨.inr ⟨QY.eqlB rfl (by kernel_rfl) rfl rfl,Sure.of rfl⟩,?_⟩ | fail)),LPt.nf ?_⟩; conv=>whnf)|refine aA ?_|refine aI (hn:=?_)|refine aR ?_|refine aM ?_|refine sP 98 (fun h=>?_) (fun h=>?_)|refine sP 150 (fun h=>?_) (fun h=>?_)|refine sP 162 (fun h=>?_) (fun h=>?_)|refine sP 181 (fun h=>?_) (fun h=>?_)|refine sP 191 (fun h=>?_) (fun h=>?_)|refine sP 198 (fun h=>?_) (fun h=>?_)|refine qR ?_|refine qS ?_|exact ⟨rfl,rfl⟩|fail)
  all_goals rw [repC_rows (0:BitVec 8)]
  all_goals show Nx _ _ _ _
  ·exact Nx.nilC 7 2 2 rfl rfl (Nx.pick [2,7,8,10,11] [0,1,2,4,5,7,6,8] rfl rfl rfl ⟨rfl,rfl⟩)
  ·exact Nx.nilC 7 2 2 rfl rfl (Nx.pick [2,7,8,10,11] [0,1,2,5,6,7,4,8] rfl rfl rfl ⟨rfl,rfl⟩)
  ·exact Nx.nilC 5 2 2 rfl rfl (Nx.pick [2,7,8,10,11] [0,1,2,6,7,5,4,8] rfl rfl rfl ⟨rfl,rfl⟩)
 clear hNew hLn
 rintro _ _ ⟨rfl,rfl⟩
 repeat' (first|refine qN ?_|refine dN ?_|refine d0 ?_|refine qB ?_|refine qT ?_|refine qU ?_|refine qL ?_|refine qK ?_|refine qF ?_|refine qE ?_|refine iF (fun h=>?_) (fun h=>?_)|refine aX ?_|refine aA ?_|refine aI (hn:=?_)|refine aR ?_|refine aM ?_|refine sP 98 (fun h=>?_) (fun h=>?_)|refine sP 150 (fun h=>?_) (fun h=>?_)|refine sP 162 (fun h=>?_) (fun h=>?_)|refine sP 181 (fun h=>?_) (fun h=>?_)|refine sP 191 (fun h=>?_) (fun h=>?_)|refine sP 198 (fun h=>?_) (fun h=>?_)|refine qR ?_|refine qS ?_|exact ⟨rfl,rfl⟩|fail)
 generalize hkey:keyW x=key
 have hP0:LP N (List.replicate W 0) [] 0 [] 0:=by rw [← hW]; exact LP.nil (by omega)
 refine LWp.pick [7,8,10,11,42,43,44] [0,1,2,3,4,5,6,7] rfl rfl rfl (L_loop (fun q l L=>∃ (i:Nat) (bs:Bytes) (G:Great) (c:Nat) (rl:List RB),q=nb-i∧i≤nb∧i≤25∧LP N bs G c rl i∧l=[(7,.int .i64 N),(8,ptr 1),(10,ptr 3),(11,ptr 5),(42,slB 0 nb),(43,.int .i64 nb),(44,.int .i64 i)]∧L=SX W key bs G c rl) nb ⟨0,_,[],0,[],rfl,by omega,by omega,hP0,rfl,rfl⟩ ?_)
 rintro q _ _ ⟨i,bs,G,c,rl,rfl,hi,hi25,hP,rfl,rfl⟩
 first|refine L_seq (L_rs (S_done [] rfl (Nx.goL (iF (fun h=>L_skip (Nx.goL ?_)) (fun h=>L_exit ?_)))))|refine L_rs (S_done [] rfl (Nx.goL (L_seq (iF (fun h=>L_skip (Nx.goL ?_)) (fun h=>L_exit ?_)))))
 ·refine L_seq (L_block ?_)
  have hin:i<nb:=by omega
  obtain ⟨g,e,hmc,hgx⟩:=hr i hin
  have hB:∀ m',m'≤(r i).m→BIn nb F ((r i).bytes m'):=fun m' h=>BIn.of hr hin h
  generalize r i=o at *
  clear hr
  refine L_cut (fun l L=>l=[(7,.int .i64 N),(8,ptr 1),(10,ptr 3),(11,ptr 5),(12,.int .i64 i),(13,ptr 8),(42,slB 0 nb),(43,.int .i64 nb),(44,.int .i64 i)]∧L=SX W key bs G c rl++[.cells 0 [.int .i64 o.kind,.int .i64 o.page,.int .i64 o.n,.int .i64 o.at_,.slice (some ⟨o.b,o.o,some 0⟩) o.m o.c]]) ?_ ?_
  ·repeat' (first|refine qN ?_|refine dN ?_|refine d0 ?_|refine qB ?_|refine qT ?_|refine qU ?_|refine qL ?_|refine qK ?_|refine qF ?_|refine qE ?_|refine iF (fun h=>?_) (fun h=>?_)|refine aX ?_|refine S_Q [] rfl rfl (ldON rfl rfl hin e) ?_|refine aA ?_|refine aI (hn:=?_)|refine aR ?_|refine aM ?_|refine sP 98 (fun h=>?_) (fun h=>?_)|refine sP 150 (fun h=>?_) (fun h=>?_)|refine sP 162 (fun h=>?_) (fun h=>?_)|refine sP 181 (fun h=>?_) (fun h=>?_)|refine sP 191 (fun h=>?_) (fun h=>?_)|refine sP 198 (fun h=>?_) (fun h=>?_)|refine qR ?_|refine qS ?_|exact ⟨rfl,rfl⟩|fail)
   show Nx _ _ _ _
   exact Nx.pick [7,8,10,11,12,13,42,43,44] [0,1,2,3,4,5,6,7,8] rfl rfl rfl ⟨rfl,rfl⟩
  clear e hgx
  rintro _ _ ⟨rfl,rfl⟩
  refine L_cut (fun l L=>i<25∧l=[(7,.int .i64 N),(8,ptr 1),(10,ptr 3),(11,ptr 5),(12,.int .i64 i),(13,ptr 8),(42,slB 0 nb),(43,.int .i64 nb),(44,.int .i64 i)]∧L=SX W key bs G c rl++[.cells 0 [.int .i64 o.kind,.int .i64 o.page,.int .i64 o.n,.int .i64 o.at_,.slice (some ⟨o.b,o.o,some 0⟩) o.m o.c]]) ?_ ?_
  ·repeat' (first|refine qN ?_|refine dN ?_|refine d0 ?_|refine qB ?_|refine qT ?_|refine qU ?_|refine qL ?_|refine qK ?_|refine qF ?_|refine qE ?_|refine iF (fun h=>?_) (fun h=>?_)|refine aX ?_|refine cP [] (awake8_tr) ?_|refine aA ?_|refine aI (hn:=?_)|refine aR ?_|refine aM ?_|refine sP 98 (fun h=>?_) (fun h=>?_)|refine sP 150 (fun h=>?_) (fun h=>?_)|refine sP 162 (fun h=>?_) (fun h=>?_)|refine sP 181 (fun h=>?_) (fun h=>?_)|refine sP 191 (fun h=>?_) (fun h=>?_)|refine sP 198 (fun h=>?_) (fun h=>?_)|refine qR ?_|refine qS ?_|exact ⟨rfl,rfl⟩|fail)
   ·exact L_ret (RetQ.pick [0] rfl rfl rfl rfl rfl)
   ·exact Nx.pick [7,8,10,11,12,13,42,43,44] [0,1,2,3,4,5,6,7,8] rfl rfl rfl ⟨by omega,rfl,rfl⟩
  rintro _ _ ⟨hi25',rfl,rfl⟩
  refine L_cut (fun l L=>∃ m:Nat,m≤60∧m≤o.m∧l=[(7,.int .i64 N),(8,ptr 1),(10,ptr 3),(11,ptr 5),(12,.int .i64 i),(13,ptr 8),(42,slB 0 nb),(43,.int .i64 nb),(44,.int .i64 i)]∧L=SX W key bs G c rl++[.cells 0 [.int .i64 o.kind,.int .i64 o.page,.int .i64 o.n,.int .i64 o.at_,.slice (some ⟨o.b,o.o,some 0⟩) m o.c]]) ?_ ?_
  ·by_cases h60:o.m > 60
   ·repeat' (first|refine qN ?_|refine dN ?_|refine d0 ?_|refine qB ?_|refine qT ?_|refine qU ?_|refine qL ?_|refine qK ?_|refine qF ?_|refine qE ?_|refine iF (fun h=>?_) (fun h=>?_)|refine aX ?_|refine S_Q [] rfl rfl (QY.slcR (hi':=60) rfl rfl (by omega)) ?_|refine aA ?_|refine aI (hn:=?_)|refine aR ?_|refine aM ?_|refine sP 98 (fun h=>?_) (fun h=>?_)|refine sP 150 (fun h=>?_) (fun h=>?_)|refine sP 162 (fun h=>?_) (fun h=>?_)|refine sP 181 (fun h=>?_) (fun h=>?_)|refine sP 191 (fun h=>?_) (fun h=>?_)|refine sP 198 (fun h=>?_) (fun h=>?_)|refine qR ?_|refine qS ?_|exact ⟨rfl,rfl⟩|fail)
    all_goals first | (exfalso; omega)|exact Nx.pick [7,8,10,11,12,13,42,43,44] [0,1,2,3,4,5,6,7,8] rfl rfl rfl ⟨60,by omega,by omega,rfl,rfl⟩
   ·repeat' (first|refine qN ?_|refine dN ?_|refine d0 ?_|refine qB ?_|refine qT ?_|refine qU ?_|refine qL ?_|refine qK ?_|refine qF ?_|refine qE ?_|refine iF (fun h=>?_) (fun h=>?_)|refine aX ?_|refine aA ?_|refine aI (hn:=?_)|refine aR ?_|refine aM ?_|refine sP 98 (fun h=>?_) (fun h=>?_)|refine sP 150 (fun h=>?_) (fun h=>?_)|refine sP 162 (fun h=>?_) (fun h=>?_)|refine sP 181 (fun h=>?_) (fun h=>?_)|refine sP 191 (fun h=>?_) (fun h=>?_)|refine sP 198 (fun h=>?_) (fun h=>?_)|refine qR ?_|refine qS ?_|exact ⟨rfl,rfl⟩|fail)
    all_goals first | (exfalso; omega)|exact Nx.pick [7,8,10,11,12,13,42,43,44] [0,1,2,3,4,5,6,7,8] rfl rfl rfl ⟨o.m,by omega,by omega,rfl,rfl⟩
  rintro _ _ ⟨m,hm60,hmo,rfl,rfl⟩
  refine L_cut (fun l L=>∃ (bs:Bytes) (G:Great) (c:Nat) (rl:List RB),LP N bs G c rl (i+1)∧l=[(7,.int .i64 N),(8,ptr 1),(10,ptr 3),(11,ptr 5),(42,slB 0 nb),(43,.int .i64 nb),(44,.int .i64 i)]∧L=SX W key bs G c rl) ?_ ?_
  ·repeat' (first|refine qN ?_|refine dN ?_|refine dR ?_|refine d0 ?_|refine rT ?_|refine qT ?_|refine qU ?_|refine qL ?_|refine qK ?_|refine qF ?_|refine qE ?_|refine iF (fun h=>?_) (fun h=>?_)|refine aX ?_|refine aA ?_|refine aI (hn:=?_)|refine aR ?_|refine aM ?_|refine sP 98 (fun h=>?_) (fun h=>?_)|refine sP 150 (fun h=>?_) (fun h=>?_)|refine sP 162 (fun h=>?_) (fun h=>?_)|refine sP 181 (fun h=>?_) (fun h=>?_)|refine sP 191 (fun h=>?_) (fun h=>?_)|refine sP 198 (fun h=>?_) (fun h=>?_)|refine qR ?_|refine qS ?_|exact ⟨rfl,rfl⟩|fail)
   refine L_block (L_cut (fun l L=>∃ b:Bool,(b=true↔o.kind=0∨o.kind=1∨o.kind=2)∧l=[(7,.int .i64 N),(8,ptr 1),(10,ptr 3),(11,ptr 5),(13,ptr 8),(42,slB 0 nb),(43,.int .i64 nb),(44,.int .i64 i),(60,.int .i64 o.kind),(61,.bool b)]∧L=SX W key bs G c rl++[.cells 0 [.int .i64 o.kind,.int .i64 o.page,.int .i64 o.n,.int .i64 o.at_,.slice (some ⟨o.b,o.o,some 0⟩) m o.c]]) ?_ ?_)
   ·repeat' (first|refine qN ?_|refine dN ?_|refine d0 ?_|refine qB ?_|refine qT ?_|refine qU ?_|refine qL ?_|refine qK ?_|refine qF ?_|refine qE ?_|refine iF (fun h=>?_) (fun h=>?_)|refine aX ?_|refine aA ?_|refine aI (hn:=?_)|refine aR ?_|refine aM ?_|refine sP 98 (fun h=>?_) (fun h=>?_)|refine sP 150 (fun h=>?_) (fun h=>?_)|refine sP 162 (fun h=>?_) (fun h=>?_)|refine sP 181 (fun h=>?_) (fun h=>?_)|refine sP 191 (fun h=>?_) (fun h=>?_)|refine sP 198 (fun h=>?_) (fun h=>?_)|refine qR ?_|refine qS ?_|exact ⟨rfl,rfl⟩|fail)
    all_goals first|exact Nx.pick [7,8,10,11,13,42,43,44,60,61] [0,1,2,3,4,5,6,7,8] rfl rfl rfl ⟨true,⟨fun _=>by omega,fun _=>rfl⟩,rfl,rfl⟩|exact Nx.pick [7,8,10,11,13,42,43,44,60,61] [0,1,2,3,4,5,6,7,8] rfl rfl rfl ⟨decide (o.kind=2),by rw [decide_eq_true_eq]; omega,rfl,rfl⟩
   rintro _ _ ⟨b,hb,rfl,rfl⟩
   have hbl:=hP.len
   cases b with
   | true =>
    refine L_true rfl ?_
    by_cases h1:greatC o.n=false∨o.page<0
    ·have hA:=largeMake_arg key bs G c o.page o.n h1
     have hR:=rMake8_arg key bs rl o.page o.n h1
     simp only [SetL,RS,hbl,hW] at hA hR
     repeat' (first|refine qN ?_|refine dN ?_|refine d0 ?_|refine qB ?_|refine qT ?_|refine qU ?_|refine qL ?_|refine qK ?_|refine qF ?_|refine qE ?_|refine iF (fun h=>?_) (fun h=>?_)|refine aX ?_|refine cP [3,1,2,4] (hA) ?_|refine cP [5,6,7] (hR) ?_|refine aA ?_|refine aI (hn:=?_)|refine aR ?_|refine aM ?_|refine sP 98 (fun h=>?_) (fun h=>?_)|refine sP 150 (fun h=>?_) (fun h=>?_)|refine sP 162 (fun h=>?_) (fun h=>?_)|refine sP 181 (fun h=>?_) (fun h=>?_)|refine sP 191 (fun h=>?_) (fun h=>?_)|refine sP 198 (fun h=>?_) (fun h=>?_)|refine qR ?_|refine qS ?_|exact ⟨rfl,rfl⟩|fail)
     all_goals first | (exfalso; omega)|exact Nx.pick [7,8,10,11,42,43,44] [0,1,2,3,4,5,6,7] rfl rfl rfl ⟨bs,G,c,rl,hP.up (by omega),rfl,rfl⟩
    have hn:greatC o.n=true:=by cases hq:greatC o.n with
     | true=>rfl
     | false=>exact absurd (.inl hq) h1
    obtain ⟨M,hM,hM1,hM17⟩:=greatC_pages hn
    obtain ⟨p,hp⟩:∃ p:Nat,o.page=p:=⟨o.page.toNat,by omega⟩
    by_cases h2:N<p+M
    ·have hA:=largeMake_range key bs N hbl (by omega) G c p M o.n hn hM (by omega) (by omega)
     have hR:=rMake8_range key bs N hbl (by omega) rl p M o.n hM (by omega) (by omega) (by omega)
     simp only [SetL,RS,hbl,hW,← hp] at hA hR
     repeat' (first|refine qN ?_|refine dN ?_|refine d0 ?_|refine qB ?_|refine qT ?_|refine qU ?_|refine qL ?_|refine qK ?_|refine qF ?_|refine qE ?_|refine iF (fun h=>?_) (fun h=>?_)|refine aX ?_|refine cP [3,1,2,4] (hA) ?_|refine cP [5,6,7] (hR) ?_|refine aA ?_|refine aI (hn:=?_)|refine aR ?_|refine aM ?_|refine sP 98 (fun h=>?_) (fun h=>?_)|refine sP 150 (fun h=>?_) (fun h=>?_)|refine sP 162 (fun h=>?_) (fun h=>?_)|refine sP 181 (fun h=>?_) (fun h=>?_)|refine sP 191 (fun h=>?_) (fun h=>?_)|refine sP 198 (fun h=>?_) (fun h=>?_)|refine qR ?_|refine qS ?_|exact ⟨rfl,rfl⟩|fail)
     all_goals first | (exfalso; omega)|exact Nx.pick [7,8,10,11,42,43,44] [0,1,2,3,4,5,6,7] rfl rfl rfl ⟨bs,G,c,rl,hP.up (by omega),rfl,rfl⟩
    have hgb:∀ x∈rl,0≤x.page∧x.page≤256:=fun x hx=>by
     have:=hP.bd hx
     have:=pagesC_bd x.n
     omega
    have hct:=hP.ct
    cases h3:meetsG G p M with
    | true =>
     have hA:=largeMake_there key bs N hbl (by omega) G c hP.sm256 hP.ok p M o.n hn hM (by omega) (by omega) h3
     have hR:=rMake8_there key bs N hbl (by omega) rl (by omega) hgb p M o.n hn hM (by omega) ((hP.meet hM1).1 h3)
     simp only [SetL,RS,hbl,hW,← hp] at hA hR
     repeat' (first|refine qN ?_|refine dN ?_|refine d0 ?_|refine qB ?_|refine qT ?_|refine qU ?_|refine qL ?_|refine qK ?_|refine qF ?_|refine qE ?_|refine iF (fun h=>?_) (fun h=>?_)|refine aX ?_|refine cP [3,1,2,4] (hA) ?_|refine cP [5,6,7] (hR) ?_|refine aA ?_|refine aI (hn:=?_)|refine aR ?_|refine aM ?_|refine sP 98 (fun h=>?_) (fun h=>?_)|refine sP 150 (fun h=>?_) (fun h=>?_)|refine sP 162 (fun h=>?_) (fun h=>?_)|refine sP 181 (fun h=>?_) (fun h=>?_)|refine sP 191 (fun h=>?_) (fun h=>?_)|refine sP 198 (fun h=>?_) (fun h=>?_)|refine qR ?_|refine qS ?_|exact ⟨rfl,rfl⟩|fail)
     all_goals first | (exfalso; omega)|exact Nx.pick [7,8,10,11,42,43,44] [0,1,2,3,4,5,6,7] rfl rfl rfl ⟨bs,G,c,rl,hP.up (by omega),rfl,rfl⟩
    | false =>
     have hP2:=hP.make (key:=key) hn hM (by omega) h3
     have hbl2:=hP2.len
     have hA:=largeMake_ok key bs N hbl (by omega) G c hP.sm256 hP.ok p M o.n hn hM (by omega) h3
     have hR:=rMake8_tr key bs N hbl (by omega) rl (by omega) hgb p M o.n hn hM (by omega) (fun y hy j hj=>by
      by_cases hq:(p:Int)+j<y.page∨y.page+pagesC y.n≤(p:Int)+j
      ·exact hq
      ·exfalso
       have:=(hP.meet (p:=p) hM1).2 ⟨y,hy,j,hj,by omega,by omega⟩
       rw [h3] at this; cases this)
     simp only [SetL,RS,hbl,hbl2,hW,← hp] at hA hR
     rw [← hp] at hP2
     repeat' (first|refine qN ?_|refine dN ?_|refine d0 ?_|refine qB ?_|refine qT ?_|refine qU ?_|refine qL ?_|refine qK ?_|refine qF ?_|refine qE ?_|refine iF (fun h=>?_) (fun h=>?_)|refine aX ?_|(refine cF [3,1,2,4] (hA) ?_; conv=>whnf)|(refine cW [5,6,7] (hR) ?_; conv=>whnf)|refine aA ?_|refine aI (hn:=?_)|refine aR ?_|refine aM ?_|refine sP 98 (fun h=>?_) (fun h=>?_)|refine sP 150 (fun h=>?_) (fun h=>?_)|refine sP 162 (fun h=>?_) (fun h=>?_)|refine sP 181 (fun h=>?_) (fun h=>?_)|refine sP 191 (fun h=>?_) (fun h=>?_)|refine sP 198 (fun h=>?_) (fun h=>?_)|refine qR ?_|refine qS ?_|exact ⟨rfl,rfl⟩|fail)
     all_goals first | (exfalso; omega)|exact Nx.pick [7,8,10,11,42,43,44] [0,1,2,3,4,5,6,7] rfl rfl rfl ⟨_,_,_,_,hP2,rfl,rfl⟩
   | false =>
    refine L_false rfl (L_cut (fun l L=>∃ b:Bool,(b=true↔o.kind=3∨o.kind=4)∧l=[(7,.int .i64 N),(8,ptr 1),(10,ptr 3),(11,ptr 5),(13,ptr 8),(42,slB 0 nb),(43,.int .i64 nb),(44,.int .i64 i),(60,.int .i64 o.kind),(78,.bool b)]∧L=SX W key bs G c rl++[.cells 0 [.int .i64 o.kind,.int .i64 o.page,.int .i64 o.n,.int .i64 o.at_,.slice (some ⟨o.b,o.o,some 0⟩) m o.c]]) ?_ ?_)
    ·repeat' (first|refine qN ?_|refine dN ?_|refine d0 ?_|refine qB ?_|refine qT ?_|refine qU ?_|refine qL ?_|refine qK ?_|refine qF ?_|refine qE ?_|refine iF (fun h=>?_) (fun h=>?_)|refine aX ?_|refine aA ?_|refine aI (hn:=?_)|refine aR ?_|refine aM ?_|refine sP 98 (fun h=>?_) (fun h=>?_)|refine sP 150 (fun h=>?_) (fun h=>?_)|refine sP 162 (fun h=>?_) (fun h=>?_)|refine sP 181 (fun h=>?_) (fun h=>?_)|refine sP 191 (fun h=>?_) (fun h=>?_)|refine sP 198 (fun h=>?_) (fun h=>?_)|refine qR ?_|refine qS ?_|exact ⟨rfl,rfl⟩|fail)
     all_goals first|exact Nx.pick [7,8,10,11,13,42,43,44,60,78] [0,1,2,3,4,5,6,7,8] rfl rfl rfl ⟨true,⟨fun _=>by omega,fun _=>rfl⟩,rfl,rfl⟩|exact Nx.pick [7,8,10,11,13,42,43,44,60,78] [0,1,2,3,4,5,6,7,8] rfl rfl rfl ⟨decide (o.kind=4),by rw [decide_eq_true_eq]; omega,rfl,rfl⟩
    clear hb
    rintro _ _ ⟨b,hb,rfl,rfl⟩
    cases b with
    | true =>
     refine L_true rfl ?_
     cases h1:ghas G o.page with
     | false =>
      have hA:=largeDrop_no key bs G c o.page h1
      have hR:=rDrop_no key bs rl (by have:=hP.ct; omega) o.page (hP.gone h1)
      simp only [SetL,RS,hbl,hW] at hA hR
      repeat' (first|refine qN ?_|refine dN ?_|refine d0 ?_|refine qB ?_|refine qT ?_|refine qU ?_|refine qL ?_|refine qK ?_|refine qF ?_|refine qE ?_|refine iF (fun h=>?_) (fun h=>?_)|refine aX ?_|refine cP [3,1,2,4] (hA) ?_|refine cP [5,6,7] (hR) ?_|refine S_Q [] rfl rfl (QY.neqB rfl (by kernel_rfl) rfl rfl) ?_|refine aA ?_|refine aI (hn:=?_)|refine aR ?_|refine aM ?_|refine sP 98 (fun h=>?_) (fun h=>?_)|refine sP 150 (fun h=>?_) (fun h=>?_)|refine sP 162 (fun h=>?_) (fun h=>?_)|refine sP 181 (fun h=>?_) (fun h=>?_)|refine sP 191 (fun h=>?_) (fun h=>?_)|refine sP 198 (fun h=>?_) (fun h=>?_)|refine qR ?_|refine qS ?_|exact ⟨rfl,rfl⟩|fail)
      all_goals first | (exfalso; exact h rfl)|exact Nx.pick [7,8,10,11,42,43,44] [0,1,2,3,4,5,6,7] rfl rfl rfl ⟨bs,G,c,rl,hP.up (by omega),rfl,rfl⟩
     | true =>
      obtain ⟨j,d,hj,hd,hat,hdm⟩:=hP.here h1
      obtain ⟨hd0,hdn,hdN⟩:=hP.bd hdm
      obtain ⟨hg,_⟩:=hP.get hdm
      obtain ⟨M,hM,hM1,hM17⟩:=greatC_pages hdn
      obtain ⟨p,hp⟩:∃ p:Nat,o.page=p:=⟨o.page.toNat,by omega⟩
      have hdp:d.page=p:=by omega
      rw [hdp] at hg
      have hlb:(overB bs (256*p) (List.replicate (256*M) 0xDD#8)).length=256*N:=by rw [overB_length (by rw [List.length_replicate]; omega),hbl]
      have hP2:=(hP.drop hj hd (bs':=overB bs (256*p) (List.replicate (256*M) 0xDD#8)) (by rw [hlb,hbl])).up (k':=i+1) (by omega)
      have hA:=largeDrop_ok key bs (by omega) G c p M d.n (by rw [← hp]; exact h1) hg hM hM1 (by omega)
      have hR:=rDrop_ok key bs (by omega) rl (by have:=hP.ct; omega) j d p M hdp hj (by rw [← hp]; exact hat) hM hM1 (by omega)
      have hst:rStands key bs d=decide (wordB bs (256*(p+M)-8)=canW key (256*p)):=by
       unfold rStands
       rw [hdp,hM,show (256*((p:Int)+M)-8).toNat=256*(p+M)-8 by omega]
      rw [← hst] at hA
      generalize rStands key bs d=bst at *
      simp only [SetL,RS,hbl,hlb,hW,← hp] at hA hR
      repeat' (first|refine qN ?_|refine dN ?_|refine d0 ?_|refine qB ?_|refine qT ?_|refine qU ?_|refine qL ?_|refine qK ?_|refine qF ?_|refine qE ?_|refine iF (fun h=>?_) (fun h=>?_)|refine aX ?_|(refine cF [3,1,2,4] (hA) ?_; conv=>whnf)|(refine cW [5,6,7] (hR) ?_; conv=>whnf)|refine S_Q [] rfl rfl (QY.neqB rfl (by kernel_rfl) rfl rfl) ?_|refine aA ?_|refine aI (hn:=?_)|refine aR ?_|refine aM ?_|refine sP 98 (fun h=>?_) (fun h=>?_)|refine sP 150 (fun h=>?_) (fun h=>?_)|refine sP 162 (fun h=>?_) (fun h=>?_)|refine sP 181 (fun h=>?_) (fun h=>?_)|refine sP 191 (fun h=>?_) (fun h=>?_)|refine sP 198 (fun h=>?_) (fun h=>?_)|refine qR ?_|refine qS ?_|exact ⟨rfl,rfl⟩|fail)
      all_goals first | (exfalso; exact h rfl)|exact Nx.pick [7,8,10,11,42,43,44] [0,1,2,3,4,5,6,7] rfl rfl rfl ⟨_,_,_,_,hP2,rfl,rfl⟩
    | false =>
     refine L_false rfl ?_
     by_cases h5:o.kind=5
     ·by_cases he:errIn bs.length o.at_ m=0
      ·obtain ⟨a,m',ha,hm',hle⟩:=errIn_nat he
       obtain rfl:m'=m:=by omega
       have hx:(o.bytes m').xs.length=m':=by simp [ON.bytes]
       have hlb:(overB bs a (o.bytes m').xs).length=256*N:=by rw [overB_length (by rw [hx]; exact hle),hbl]
       have hP2:=(hP.bytes (bs':=overB bs a (o.bytes m').xs) (by rw [hlb,hbl])).up (k':=i+1) (by omega)
       have hS:=arenaStoreN_ok nb F (o.bytes m') (hB m' hmo) bs (by omega) a hle hx
       have ecp:bs.take a++(o.bytes m').xs.take (min (o.bytes m').n (W-a))++bs.drop (a+min (o.bytes m').n (W-a))=overB bs a (o.bytes m').xs:=by
        have e1:(o.bytes m').xs.take m'=(o.bytes m').xs:=List.take_of_length_le (by rw [hx]; exact Nat.le_refl _)
        have e2:min (o.bytes m').n (W-a)=m':=Nat.min_eq_left (show m'≤W-a by omega)
        rw [e2,e1,overB,hx]
       simp only [AL,hbl,hW] at hS
       rw [ha]
       repeat' (first|refine qN ?_|refine dN ?_|refine d0 ?_|refine qB ?_|refine qT ?_|refine qU ?_|refine qL ?_|refine qK ?_|refine qF ?_|refine qE ?_|refine iF (fun h=>?_) (fun h=>?_)|refine aX ?_|(refine cAr [1,2,0] hS (fun y hy=>by cases List.mem_singleton.1 hy; exact ⟨rfl,0,rfl,List.mem_singleton.2 rfl⟩) ?_; conv=>whnf)|refine aA ?_|refine aI (hn:=?_)|refine aR ?_|refine aM ?_|refine sP 98 (fun h=>?_) (fun h=>?_)|refine sP 150 (fun h=>?_) (fun h=>?_)|refine sP 162 (fun h=>?_) (fun h=>?_)|refine sP 181 (fun h=>?_) (fun h=>?_)|refine sP 191 (fun h=>?_) (fun h=>?_)|refine sP 198 (fun h=>?_) (fun h=>?_)|refine qR ?_|refine qS ?_|exact ⟨rfl,rfl⟩|fail)
       all_goals try (exfalso; omega)
       repeat' (first|refine qN ?_|refine dN ?_|refine d0 ?_|refine qB ?_|refine qT ?_|refine qU ?_|refine qL ?_|refine qK ?_|refine qF ?_|refine qE ?_|refine iF (fun h=>?_) (fun h=>?_)|refine aX ?_|refine aA ?_|refine aI (hn:=?_)|refine aR ?_|refine aM ?_|refine sP 98 (fun h=>?_) (fun h=>?_)|refine sP 150 (fun h=>?_) (fun h=>?_)|refine sP 162 (fun h=>?_) (fun h=>?_)|refine sP 181 (fun h=>?_) (fun h=>?_)|refine sP 191 (fun h=>?_) (fun h=>?_)|refine sP 198 (fun h=>?_) (fun h=>?_)|refine qR ?_|refine qS ?_|exact ⟨rfl,rfl⟩|fail)
       refine S_wk [] rfl (wk_gro0 (b:=9) 1 rfl) ?_
       first|refine L_rs ?_|refine L_reg ?_ | skip
       refine eE rfl rfl (EW.appRR (bytes:=1) (xs:=[]) (ys:=bs) byteC_ok rfl (by kernel_rfl) rfl rfl rfl rfl rfl (by omega) (by decide) (by omega)) ?_
       conv=>whnf
       rw [Nat.zero_add W]
       repeat' (first|refine qN ?_|refine dN ?_|refine d0 ?_|refine qB ?_|refine qT ?_|refine qU ?_|refine qL ?_|refine qK ?_|refine qF ?_|refine qE ?_|refine iF (fun h=>?_) (fun h=>?_)|refine aX ?_|refine S_Q [] rfl rfl (QY.slc0 (b:=10) (lo':=a) (hi':=W) rfl rfl rfl (by omega) (by omega)) ?_|refine aA ?_|refine aI (hn:=?_)|refine aR ?_|refine aM ?_|refine sP 98 (fun h=>?_) (fun h=>?_)|refine sP 150 (fun h=>?_) (fun h=>?_)|refine sP 162 (fun h=>?_) (fun h=>?_)|refine sP 181 (fun h=>?_) (fun h=>?_)|refine sP 191 (fun h=>?_) (fun h=>?_)|refine sP 198 (fun h=>?_) (fun h=>?_)|refine qR ?_|refine qS ?_|exact ⟨rfl,rfl⟩|fail)
       first|refine L_rs ?_|refine L_reg ?_ | skip
       refine eE rfl rfl (EW.copyBN (d:=o.bytes m') (i:=a) (xs:=bs) (hB m' hmo _ 0 (List.mem_singleton.2 rfl)) rfl (by kernel_rfl) rfl rfl rfl (by omega)) ?_
       conv=>whnf
       rw [ecp]
       repeat' (first|refine qN ?_|refine dN ?_|refine d0 ?_|refine qB ?_|refine qT ?_|refine qU ?_|refine qL ?_|refine qK ?_|refine qF ?_|refine qE ?_|refine iF (fun h=>?_) (fun h=>?_)|refine aX ?_|refine aA ?_|refine aI (hn:=?_)|refine aR ?_|refine aM ?_|refine sP 98 (fun h=>?_) (fun h=>?_)|refine sP 150 (fun h=>?_) (fun h=>?_)|refine sP 162 (fun h=>?_) (fun h=>?_)|refine sP 181 (fun h=>?_) (fun h=>?_)|refine sP 191 (fun h=>?_) (fun h=>?_)|refine sP 198 (fun h=>?_) (fun h=>?_)|refine qR ?_|refine qS ?_|exact ⟨rfl,rfl⟩|fail)
       exact Nx.pick [7,8,10,11,42,43,44] [0,1,2,3,4,5,10,7] rfl rfl rfl ⟨_,_,_,_,hP2,rfl,rfl⟩
      ·have hS:=arenaStoreA_no bs (by omega) o.at_ (some ⟨o.b,o.o,some 0⟩) m o.c he
       simp only [AL,hbl,hW] at hS he
       repeat' (first|refine qN ?_|refine dN ?_|refine d0 ?_|refine qB ?_|refine qT ?_|refine qU ?_|refine qL ?_|refine qK ?_|refine qF ?_|refine qE ?_|refine iF (fun h=>?_) (fun h=>?_)|refine aX ?_|refine cP [1,2] (hS) ?_|refine aA ?_|refine aI (hn:=?_)|refine aR ?_|refine aM ?_|refine sP 98 (fun h=>?_) (fun h=>?_)|refine sP 150 (fun h=>?_) (fun h=>?_)|refine sP 162 (fun h=>?_) (fun h=>?_)|refine sP 181 (fun h=>?_) (fun h=>?_)|refine sP 191 (fun h=>?_) (fun h=>?_)|refine sP 198 (fun h=>?_) (fun h=>?_)|refine qR ?_|refine qS ?_|exact ⟨rfl,rfl⟩|fail)
       all_goals first | (exfalso; omega)|exact Nx.pick [7,8,10,11,42,43,44] [0,1,2,3,4,5,6,7] rfl rfl rfl ⟨bs,G,c,rl,hP.up (by omega),rfl,rfl⟩
     ·repeat' (first|refine qN ?_|refine dN ?_|refine d0 ?_|refine qB ?_|refine qT ?_|refine qU ?_|refine qL ?_|refine qK ?_|refine qF ?_|refine qE ?_|refine iF (fun h=>?_) (fun h=>?_)|refine aX ?_|refine aA ?_|refine aI (hn:=?_)|refine aR ?_|refine aM ?_|refine sP 98 (fun h=>?_) (fun h=>?_)|refine sP 150 (fun h=>?_) (fun h=>?_)|refine sP 162 (fun h=>?_) (fun h=>?_)|refine sP 181 (fun h=>?_) (fun h=>?_)|refine sP 191 (fun h=>?_) (fun h=>?_)|refine sP 198 (fun h=>?_) (fun h=>?_)|refine qR ?_|refine qS ?_|exact ⟨rfl,rfl⟩|fail)
      all_goals first | (exfalso; omega)|exact Nx.pick [7,8,10,11,42,43,44] [0,1,2,3,4,5,6,7] rfl rfl rfl ⟨bs,G,c,rl,hP.up (by omega),rfl,rfl⟩
  clear hB hmc hP
  rintro _ _ ⟨bs,G,c,rl,hP,rfl,rfl⟩
  have hbl:=hP.len
  have hct:=hP.ct
  have hAll:=all_tr key bs G c (fun y hy=>by
   have h1:=hP.sm y hy
   have h2:=pagesC_bd y.2.1
   simp only [Lit.wf,Bool.and_eq_true,decide_eq_true_eq]
   exact ⟨by show (-9223372036854775808:Int)≤y.1; omega,by show y.1≤(9223372036854775807:Int); omega⟩) (by have:=hP.length; omega)
  rw [hP.all,hP.length] at hAll
  simp only [SetL,hbl,hW] at hAll
  repeat' (first|refine qN ?_|refine dN ?_|refine d0 ?_|refine qB ?_|refine qT ?_|refine qU ?_|refine qL ?_|refine qK ?_|refine qF ?_|refine qE ?_|refine iF (fun h=>?_) (fun h=>?_)|refine aX ?_|(refine cF [3,1,2,4] (hAll) ?_; conv=>whnf)|refine aA ?_|refine aI (hn:=?_)|refine aR ?_|refine aM ?_|refine sP 98 (fun h=>?_) (fun h=>?_)|refine sP 150 (fun h=>?_) (fun h=>?_)|refine sP 162 (fun h=>?_) (fun h=>?_)|refine sP 181 (fun h=>?_) (fun h=>?_)|refine sP 191 (fun h=>?_) (fun h=>?_)|refine sP 198 (fun h=>?_) (fun h=>?_)|refine qR ?_|refine qS ?_|exact ⟨rfl,rfl⟩|fail)
  all_goals try (exfalso; omega)
  refine LWp.pick [7,8,10,11,19,20,42,43,44,142,143,144] [0,1,2,3,4,5,6,7,8] rfl rfl rfl (L_loop (fun q l L=>∃ k:Nat,q=rl.length-k∧k≤rl.length∧l=[(7,.int .i64 N),(8,ptr 1),(10,ptr 3),(11,ptr 5),(19,.bool ((rl.take k).all (rStands key bs))),(20,slB 8 rl.length),(42,slB 0 nb),(43,.int .i64 nb),(44,.int .i64 i),(142,slB 7 rl.length),(143,.int .i64 rl.length),(144,.int .i64 k)]∧L=SX W key bs G c rl++[.gro 1 (rowsC intC (rl.map RB.page))]) rl.length ⟨0,rfl,by omega,rfl,rfl⟩ ?_)
  clear hAll
  rintro q _ _ ⟨k,rfl,hk,rfl,rfl⟩
  first|refine L_seq (L_rs (S_done [] rfl (Nx.goL (iF (fun h=>L_skip (Nx.goL ?_)) (fun h=>L_exit ?_)))))|refine L_rs (S_done [] rfl (Nx.goL (L_seq (iF (fun h=>L_skip (Nx.goL ?_)) (fun h=>L_exit ?_)))))
  ·have hkn:k<rl.length:=by omega
   have hg:rl[k]?=some rl[k]:=List.getElem?_eq_getElem hkn
   have hall:(rl.take (k+1)).all (rStands key bs)=((rl.take k).all (rStands key bs) && rStands key bs rl[k]):=by
    rw [List.take_succ_eq_append_getElem hkn,List.all_append,List.all_cons,List.all_nil,Bool.and_true]
   obtain ⟨hb0,hbn,hbN⟩:=hP.bd (List.getElem_mem hkn)
   obtain ⟨hget,_⟩:=hP.get (List.getElem_mem hkn)
   have hpk:(rl.map RB.page)[k]?=some rl[k].page:=by rw [List.getElem?_map,hg]; rfl
   obtain ⟨M,hM,hM1,hM17⟩:=greatC_pages hbn
   obtain ⟨z,hz⟩:∃ z:Nat,256*(rl[k].page+pagesC rl[k].n)-8=z:=⟨(256*(rl[k].page+pagesC rl[k].n)-8).toNat,by omega⟩
   have hSt:=rStands_tr key bs (by omega) rl rl[k] z hb0 hz (by omega)
   have hSz:=size_tr key bs G c rl[k].page
   rw [hget] at hSz
   simp only [SetL,RS,hbl,hW] at hSt hSz
   generalize rl[k]=d at *
   generalize (rl.take k).all (rStands key bs)=w0 at *
   generalize rStands key bs d=w1 at *
   refine L_seq (L_block ?_)
   cases w0 with
   | true =>
    repeat' (first|refine qN ?_|refine dN ?_|refine d0 ?_|refine qB ?_|refine qT ?_|refine qU ?_|refine qL ?_|refine qK ?_|refine qF ?_|refine qE ?_|refine iF (fun h=>?_) (fun h=>?_)|refine aX ?_|refine S_Q [] rfl rfl (QY.ldRow RB.ok rfl rfl hg (by decide)) ?_|refine cP [5,6,7] (hSt) ?_|refine S_Q [] rfl rfl (QY.idxN (k:=k) rfl rfl hkn) ?_|refine S_Q [] rfl rfl (QY.ldI rfl rfl hpk) ?_|refine cP [3,1,2,4] (hSz) ?_ (hc:=(by repeat' (first|exact trivial|refine ⟨⟨qsafe_ok (st:=[]) rfl,Sure.of rfl⟩,?_⟩|refine ⟨.inl rfl,?_⟩|refine ⟨.inr ⟨qsafe_ok (st:=[]) rfl,Sure.of rfl⟩,?_⟩|refine ⟨⟨qsafe_ok (st:=[]) rfl,Sure.slice (by omega)⟩,?_⟩|refine ⟨.inr ⟨qsafe_ok (st:=[]) rfl,Sure.slice (by omega)⟩,?_⟩|refine ⟨.inr ⟨QY.neqB rfl (by kernel_rfl) rfl rfl,Sure.of rfl⟩,?_⟩|refine ⟨.inr ⟨QY.eqlB rfl (by kernel_rfl) rfl rfl,Sure.of rfl⟩,?_⟩|refine ⟨.inr ⟨QY.ldI rfl rfl hpk,Sure.of rfl⟩,?_⟩ | fail)))|refine aA ?_|refine aI (hn:=?_)|refine aR ?_|refine aM ?_|refine sP 98 (fun h=>?_) (fun h=>?_)|refine sP 150 (fun h=>?_) (fun h=>?_)|refine sP 162 (fun h=>?_) (fun h=>?_)|refine sP 181 (fun h=>?_) (fun h=>?_)|refine sP 191 (fun h=>?_) (fun h=>?_)|refine sP 198 (fun h=>?_) (fun h=>?_)|refine qR ?_|refine qS ?_|exact ⟨rfl,rfl⟩|fail)
    all_goals first | (exfalso; exact h rfl)|exact Nx.pick [7,8,10,11,19,20,42,43,44,142,143,144] [0,1,2,3,4,5,6,7,8] rfl rfl rfl ⟨rl.length-(k+1),by omega,k+1,rfl,by omega,by rw [hall]; rfl,rfl⟩
   | false =>
    repeat' (first|refine qN ?_|refine dN ?_|refine d0 ?_|refine qB ?_|refine qT ?_|refine qU ?_|refine qL ?_|refine qK ?_|refine qF ?_|refine qE ?_|refine iF (fun h=>?_) (fun h=>?_)|refine aX ?_|refine S_Q [] rfl rfl (QY.ldRow RB.ok rfl rfl hg (by decide)) ?_|refine S_Q [] rfl rfl (QY.idxN (k:=k) rfl rfl hkn) ?_|refine S_Q [] rfl rfl (QY.ldI rfl rfl hpk) ?_|refine cP [3,1,2,4] (hSz) ?_ (hc:=(by repeat' (first|exact trivial|refine ⟨⟨qsafe_ok (st:=[]) rfl,Sure.of rfl⟩,?_⟩|refine ⟨.inl rfl,?_⟩|refine ⟨.inr ⟨qsafe_ok (st:=[]) rfl,Sure.of rfl⟩,?_⟩|refine ⟨⟨qsafe_ok (st:=[]) rfl,Sure.slice (by omega)⟩,?_⟩|refine ⟨.inr ⟨qsafe_ok (st:=[]) rfl,Sure.slice (by omega)⟩,?_⟩|refine ⟨.inr ⟨QY.neqB rfl (by kernel_rfl) rfl rfl,Sure.of rfl⟩,?_⟩|refine ⟨.inr ⟨QY.eqlB rfl (by kernel_rfl) rfl rfl,Sure.of rfl⟩,?_⟩|refine ⟨.inr ⟨QY.ldI rfl rfl hpk,Sure.of rfl⟩,?_⟩ | fail)))|refine aA ?_|refine aI (hn:=?_)|refine aR ?_|refine aM ?_|refine sP 98 (fun h=>?_) (fun h=>?_)|refine sP 150 (fun h=>?_) (fun h=>?_)|refine sP 162 (fun h=>?_) (fun h=>?_)|refine sP 181 (fun h=>?_) (fun h=>?_)|refine sP 191 (fun h=>?_) (fun h=>?_)|refine sP 198 (fun h=>?_) (fun h=>?_)|refine qR ?_|refine qS ?_|exact ⟨rfl,rfl⟩|fail)
    all_goals first | (exfalso; exact h rfl)|exact Nx.pick [7,8,10,11,19,20,42,43,44,142,143,144] [0,1,2,3,4,5,6,7,8] rfl rfl rfl ⟨rl.length-(k+1),by omega,k+1,rfl,by omega,by rw [hall]; rfl,rfl⟩
  ·refine Nx.goL ?_
   obtain rfl:k=rl.length:=by omega
   rw [List.take_length]
   have hLd:=arenaLoad_ok bs (by omega) 0 W (by omega)
   rw [show partB bs 0 W=bs by unfold partB; rw [List.drop_zero,List.take_of_length_le (by omega)]] at hLd
   have hCk:=largeCheck_tr key bs N hbl (by omega) G c hP.sm hP.ok
   rw [hP.whole] at hCk
   have hSz:=size_tr key bs G c (-1)
   rw [show gget G (-1)=0 by
    unfold gget
    cases hq:gfind G (-1) with
    | none=>rfl
    | some y =>
     obtain ⟨h1,h2⟩:=gfind_some hq
     have:=(hP.sm y h1).1
     omega] at hSz
   simp only [SetL,AL,hbl,hW] at hLd hCk hSz
   generalize rl.all (rStands key bs)=w0 at *
   repeat' (first|refine qN ?_|refine dN ?_|refine d0 ?_|refine qB ?_|refine qT ?_|refine qU ?_|refine qL ?_|refine qK ?_|refine qF ?_|refine qE ?_|refine iF (fun h=>?_) (fun h=>?_)|refine aX ?_|refine S_Q [] rfl rfl (QY.mul (c:=(W:Int)) rfl rfl (by omega) (by omega) (by omega)) ?_|(refine cF [1,2] (hLd) ?_; conv=>whnf)|refine aA ?_|refine aI (hn:=?_)|refine aR ?_|refine aM ?_|refine sP 98 (fun h=>?_) (fun h=>?_)|refine sP 150 (fun h=>?_) (fun h=>?_)|refine sP 162 (fun h=>?_) (fun h=>?_)|refine sP 181 (fun h=>?_) (fun h=>?_)|refine sP 191 (fun h=>?_) (fun h=>?_)|refine sP 198 (fun h=>?_) (fun h=>?_)|refine qR ?_|refine qS ?_|exact ⟨rfl,rfl⟩|fail)
   all_goals try (exfalso; exact h rfl)
   first|refine L_rs ?_|refine L_reg ?_ | skip
   refine S_Q [] rfl rfl (QY.str (i:=0) (ys:=bs) rfl (by kernel_rfl) rfl rfl (by omega)) ?_
   first|refine L_rs ?_|refine L_reg ?_ | skip
   refine S_Q [] rfl rfl (QY.str (i:=0) (ys:=bs) rfl (by kernel_rfl) rfl rfl (by omega)) ?_
   first|refine L_rs ?_|refine L_reg ?_ | skip
   refine S_Q [] rfl rfl (QY.tt (u:=false) (QY.neqStr rfl rfl rfl) (by simp)) ?_
   cases w0 with
   | true =>
    rw [if_pos rfl] at hCk
    repeat' (first|refine qN ?_|refine dN ?_|refine d0 ?_|refine qB ?_|refine qT ?_|refine qU ?_|refine qL ?_|refine qK ?_|refine qF ?_|refine qE ?_|refine iF (fun h=>?_) (fun h=>?_)|refine aX ?_|refine cP [3,1,2,4] (hCk) ?_ (hc:=(by repeat' (first|exact trivial|refine ⟨⟨qsafe_ok (st:=[]) rfl,Sure.of rfl⟩,?_⟩|refine ⟨.inl rfl,?_⟩|refine ⟨.inr ⟨qsafe_ok (st:=[]) rfl,Sure.of rfl⟩,?_⟩|refine ⟨⟨qsafe_ok (st:=[]) rfl,Sure.slice (by omega)⟩,?_⟩|refine ⟨.inr ⟨qsafe_ok (st:=[]) rfl,Sure.slice (by omega)⟩,?_⟩|refine ⟨.inr ⟨QY.neqB rfl (by kernel_rfl) rfl rfl,Sure.of rfl⟩,?_⟩|refine ⟨.inr ⟨QY.eqlB rfl (by kernel_rfl) rfl rfl,Sure.of rfl⟩,?_⟩|refine ⟨.inr ⟨QY.str (i:=0) (ys:=bs) rfl (by kernel_rfl) rfl rfl (by omega),Sure.of rfl⟩,?_⟩|refine ⟨.inr ⟨QY.tt (u:=false) (QY.neqStr rfl rfl rfl) (by simp),Sure.of rfl⟩,?_⟩ | fail)))|refine S_Q [] rfl rfl (QY.neqB rfl (by kernel_rfl) rfl rfl) ?_|refine cP [3,1,2,4] (hSz) ?_ (hc:=(by repeat' (first|exact trivial|refine ⟨⟨qsafe_ok (st:=[]) rfl,Sure.of rfl⟩,?_⟩|refine ⟨.inl rfl,?_⟩|refine ⟨.inr ⟨qsafe_ok (st:=[]) rfl,Sure.of rfl⟩,?_⟩|refine ⟨⟨qsafe_ok (st:=[]) rfl,Sure.slice (by omega)⟩,?_⟩|refine ⟨.inr ⟨qsafe_ok (st:=[]) rfl,Sure.slice (by omega)⟩,?_⟩|refine ⟨.inr ⟨QY.neqB rfl (by kernel_rfl) rfl rfl,Sure.of rfl⟩,?_⟩|refine ⟨.inr ⟨QY.eqlB rfl (by kernel_rfl) rfl rfl,Sure.of rfl⟩,?_⟩|refine ⟨.inr ⟨QY.str (i:=0) (ys:=bs) rfl (by kernel_rfl) rfl rfl (by omega),Sure.of rfl⟩,?_⟩|refine ⟨.inr ⟨QY.tt (u:=false) (QY.neqStr rfl rfl rfl) (by simp),Sure.of rfl⟩,?_⟩ | fail)))|refine aA ?_|refine aI (hn:=?_)|refine aR ?_|refine aM ?_|refine sP 98 (fun h=>?_) (fun h=>?_)|refine sP 150 (fun h=>?_) (fun h=>?_)|refine sP 162 (fun h=>?_) (fun h=>?_)|refine sP 181 (fun h=>?_) (fun h=>?_)|refine sP 191 (fun h=>?_) (fun h=>?_)|refine sP 198 (fun h=>?_) (fun h=>?_)|refine qR ?_|refine qS ?_|exact ⟨rfl,rfl⟩|fail)
    all_goals first | (exfalso; exact h rfl)|exact Nx.pick [7,8,10,11,42,43,44] [0,1,2,3,4,5,6,7] rfl rfl rfl ⟨nb-(i+1),by omega,i+1,bs,G,c,rl,rfl,by omega,by omega,hP,rfl,rfl⟩
   | false =>
    rw [if_neg (by decide)] at hCk
    repeat' (first|refine qN ?_|refine dN ?_|refine d0 ?_|refine qB ?_|refine qT ?_|refine qU ?_|refine qL ?_|refine qK ?_|refine qF ?_|refine qE ?_|refine iF (fun h=>?_) (fun h=>?_)|refine aX ?_|refine cP [3,1,2,4] (hCk) ?_ (hc:=(by repeat' (first|exact trivial|refine ⟨⟨qsafe_ok (st:=[]) rfl,Sure.of rfl⟩,?_⟩|refine ⟨.inl rfl,?_⟩|refine ⟨.inr ⟨qsafe_ok (st:=[]) rfl,Sure.of rfl⟩,?_⟩|refine ⟨⟨qsafe_ok (st:=[]) rfl,Sure.slice (by omega)⟩,?_⟩|refine ⟨.inr ⟨qsafe_ok (st:=[]) rfl,Sure.slice (by omega)⟩,?_⟩|refine ⟨.inr ⟨QY.neqB rfl (by kernel_rfl) rfl rfl,Sure.of rfl⟩,?_⟩|refine ⟨.inr ⟨QY.eqlB rfl (by kernel_rfl) rfl rfl,Sure.of rfl⟩,?_⟩|refine ⟨.inr ⟨QY.str (i:=0) (ys:=bs) rfl (by kernel_rfl) rfl rfl (by omega),Sure.of rfl⟩,?_⟩|refine ⟨.inr ⟨QY.tt (u:=false) (QY.neqStr rfl rfl rfl) (by simp),Sure.of rfl⟩,?_⟩ | fail)))|refine S_Q [] rfl rfl (QY.neqB rfl (by kernel_rfl) rfl rfl) ?_|refine cP [3,1,2,4] (hSz) ?_ (hc:=(by repeat' (first|exact trivial|refine ⟨⟨qsafe_ok (st:=[]) rfl,Sure.of rfl⟩,?_⟩|refine ⟨.inl rfl,?_⟩|refine ⟨.inr ⟨qsafe_ok (st:=[]) rfl,Sure.of rfl⟩,?_⟩|refine ⟨⟨qsafe_ok (st:=[]) rfl,Sure.slice (by omega)⟩,?_⟩|refine ⟨.inr ⟨qsafe_ok (st:=[]) rfl,Sure.slice (by omega)⟩,?_⟩|refine ⟨.inr ⟨QY.neqB rfl (by kernel_rfl) rfl rfl,Sure.of rfl⟩,?_⟩|refine ⟨.inr ⟨QY.eqlB rfl (by kernel_rfl) rfl rfl,Sure.of rfl⟩,?_⟩|refine ⟨.inr ⟨QY.str (i:=0) (ys:=bs) rfl (by kernel_rfl) rfl rfl (by omega),Sure.of rfl⟩,?_⟩|refine ⟨.inr ⟨QY.tt (u:=false) (QY.neqStr rfl rfl rfl) (by simp),Sure.of rfl⟩,?_⟩ | fail)))|refine aA ?_|refine aI (hn:=?_)|refine aR ?_|refine aM ?_|refine sP 98 (fun h=>?_) (fun h=>?_)|refine sP 150 (fun h=>?_) (fun h=>?_)|refine sP 162 (fun h=>?_) (fun h=>?_)|refine sP 181 (fun h=>?_) (fun h=>?_)|refine sP 191 (fun h=>?_) (fun h=>?_)|refine sP 198 (fun h=>?_) (fun h=>?_)|refine qR ?_|refine qS ?_|exact ⟨rfl,rfl⟩|fail)
    all_goals first | (exfalso; exact h rfl)|exact Nx.pick [7,8,10,11,42,43,44] [0,1,2,3,4,5,6,7] rfl rfl rfl ⟨nb-(i+1),by omega,i+1,bs,G,c,rl,rfl,by omega,by omega,hP,rfl,rfl⟩
 ·refine Nx.goL ?_
  repeat' (first|refine qN ?_|refine dN ?_|refine dR ?_|refine d0 ?_|refine qB ?_|refine rT ?_|refine qT ?_|refine qU ?_|refine qL ?_|refine qK ?_|refine qF ?_|refine qE ?_|refine iF (fun h=>?_) (fun h=>?_)|refine aX ?_|refine cP [] (awake8_tr) ?_|refine aA ?_|refine aI (hn:=?_)|refine aR ?_|refine aM ?_|refine sP 98 (fun h=>?_) (fun h=>?_)|refine sP 150 (fun h=>?_) (fun h=>?_)|refine sP 162 (fun h=>?_) (fun h=>?_)|refine sP 181 (fun h=>?_) (fun h=>?_)|refine sP 191 (fun h=>?_) (fun h=>?_)|refine sP 198 (fun h=>?_) (fun h=>?_)|refine qR ?_|refine qS ?_|exact ⟨rfl,rfl⟩|fail)
  rfl
abbrev opK:List CN:=[.c (some .i64),.c (some .i64),.c (some .i64),.c (some .i64),.s [.c (some .u8)]]
theorem op_in {L:List AV} (hl:L.length=5) (h:∀ (j:Nat) (k:CN),opK[j]?=some k→∃ a,L[j]?=some a∧CnOk 6 k a):∃ r:ON,∃ G:Nat→List AV,L=[.v (.int .i64 r.kind),.v (.int .i64 r.page),.v (.int .i64 r.n),.v (.int .i64 r.at_),.s ⟨r.b,r.o,none⟩ r.m r.c (r.m*1) (rowF 1 G)]∧r.m≤r.c∧∀ j,j<r.m→G j=[.v (.int .u8 (r.xs j).toNat)]:=by
 obtain ⟨a0,h0,v0,rfl,x0,rfl,_⟩:=h 0 _ rfl
 obtain ⟨a1,h1,v1,rfl,x1,rfl,_⟩:=h 1 _ rfl
 obtain ⟨a2,h2,v2,rfl,x2,rfl,_⟩:=h 2 _ rfl
 obtain ⟨a3,h3,v3,rfl,x3,rfl,_⟩:=h 3 _ rfl
 obtain ⟨a4,h4,b,o,n,c,F,rfl,hnc,_,hF⟩:=h 4 _ rfl
 have hx:∀ i,i<n→∃ x:BitVec 8,F i=[.v (.int .u8 x.toNat)]:=fun i hi=>by
  obtain ⟨g1,g2⟩:=hF i hi
  obtain ⟨a',g3,v',rfl,x,rfl,hw⟩:=g2 0 _ rfl
  obtain ⟨z,rfl⟩:∃ z:BitVec 8,x=(z.toNat:Int):=⟨BitVec.ofNat 8 x.toNat,by have:=Go.bounds_u8 hw; rw [BitVec.toNat_ofNat,Nat.mod_eq_of_lt (by omega)]; omega⟩
  refine ⟨z,?_⟩
  match hq:F i,g1,g3 with
  | [y],_,g3 =>
   simp at g3; rw [g3]
 obtain ⟨xs,hxs⟩:=choose_lt hx
 refine ⟨⟨x0,x1,x2,x3,b,o,n,c,xs⟩,F,?_,hnc,hxs⟩
 match hq:L,hl,h0,h1,h2,h3,h4 with
 | [y0,y1,y2,y3,y4],_,h0,h1,h2,h3,h4 =>
  simp at h0 h1 h2 h3 h4
  simp only [h0,h1,h2,h3,h4,Nat.mul_one]
theorem LargePlays_does (w:World) (x pg:Int) (hx:0≤x∧x<18446744073709551616) (hpg:0≤pg∧pg<256) {v:Value} {n:Nat} {F:Nat→List AV} (hr:SlInN w 5 v n F) (hf:∀ i,i<n→(F i).length=5∧∀ (j:Nat) (k:CN),opK[j]?=some k→∃ a,(F i)[j]?=some a∧CnOk 6 k a) :
  Does Try.prog 3 #[.int .u64 x,.int .u8 pg,v] w fun v w'=>v=.bool true∧Fr (fun _=>False) w w':=by
 obtain ⟨y,rfl⟩:∃ y:BitVec 64,x=(y.toNat:Int):=⟨BitVec.ofNat 64 x.toNat,by rw [BitVec.toNat_ofNat,Nat.mod_eq_of_lt (by omega)]; omega⟩
 obtain ⟨r,hR⟩:=choose_lt (n:=n) (p:=fun i (r:ON)=>∃ G:Nat→List AV,F i=[.v (.int .i64 r.kind),.v (.int .i64 r.page),.v (.int .i64 r.n),.v (.int .i64 r.at_),.s ⟨r.b,r.o,none⟩ r.m r.c (r.m*1) (rowF 1 G)]∧r.m≤r.c∧∀ j,j<r.m→G j=[.v (.int .u8 (r.xs j).toNat)]) fun i hi=>op_in (hf i hi).1 (hf i hi).2
 obtain ⟨hn,q,hq⟩:=hr
 obtain ⟨h1,h2⟩:=hq [q] 0 rfl
 exact (LargePlays_tr y pg hpg n hn F r hR).law (vs':=[.int .u64 (y.toNat:Int),.int .u8 pg,v]) [q] w rfl (by
  intro z hz
  cases List.mem_singleton.1 hz; exact ⟨rfl,h2⟩) ⟨rfl,rfl,h1,trivial⟩
end Go.Proofs.Ytpnjahijpdfcgaa
end
