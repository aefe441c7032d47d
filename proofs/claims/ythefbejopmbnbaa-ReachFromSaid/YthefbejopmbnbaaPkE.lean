/-
  What the proof leans on, part 5: of the texts Lw26, Lw29, ReaA, ReaP, ReaB, ReaG, Lw24, Lw30, ReaS, ReaH, ReaI, ReaC, ReaD, ReaE, ReaF, ReaQ, ReaR, ReaJ, ReaIn, ReaK, ReaL, ReachFrom.
-/
import Derived.Test.YthefbejopmbnbaaPkD
import Derived.Ground.GgzProg
import Derived.Ground.SlgmProg
import Derived.Lib.AppendZerosOnto
import Derived.Lib.Overlaps
import Derived.Lib.SlKeysI
import Derived.Shelf.SlIterI.Keys
import Derived.Shelf.SlIterI.Sorted
import Derived.Shelf.SortM.Plain
import Derived.Shelf.SortM.SortNone
import Derived.Sort.OwnSortedInts
import Derived.Test.YthefbejopmbnbaaProg
set_option linter.unusedVariables false
set_option linter.unusedSimpArgs false
set_option linter.unusedSectionVars false
section
namespace Go.Tum
open Go
section
variable {P:Program} {n0:NA} {l l1:Env} {L L1 Lc:LH} {T T1:Taken} {K:Env→LH→Prop} {ss r:List Step} {d:Option Nat} {g:Option (Nat × Bool)} {pend:List Nat}
theorem cX {ι:Type} {V V2:ι→Value} {B K2:ι→LH} {C:ι→Prop} {keep:List Nat} {f:FuncId} {args:List Operand} {vs us:List Value} (φ:List Nat) (ht:TrK P [] keep f us Lc (fun v K=>∃ i,C i∧v=V i∧K=B i)) (hn:∀ i,C i→nE (dpush d (V2 i) l1) fun l=>nL (K2 i) fun L=>LSt P n0 r K l T1 L) (h:arun [] ss l T L=(.e d g (.call f args) pend::r,l1,T1,L1):=by exact rfl) (hg:gw g l1=some true:=by exact rfl)
  (hv:lvs l1 args=some vs:=by exact rfl) (he:us.map (rnV L1.length φ)=vs:=by exact rfl) (h1:φ.Nodup:=by decide) (h2:partL L1 φ φ Lc:=by repeat' (first|exact trivial|refine ⟨rfl,?_⟩ | fail)) (hm:nmL (dropped keep 0 φ) φ 0 L1=true:=by kernel_rfl) (h3:∀ i,rnV (L1.length+(B i).length) (phi2 φ L1.length (B i)) (V i)=V2 i:=by exact fun _=>rfl) (h4:∀ i,joinQ φ L1 (B i)=K2 i:=by exact fun _=>rfl)
  (h5:disj (dropped keep 0 φ) n0.keep=true:=by kernel_rfl) (h6:nmE (dropped keep 0 φ) l1=true:=by kernel_rfl) (h7:nmT (dropped keep 0 φ) T1=true:=by kernel_rfl)
  (hc:∀ i,chkG P n0 φ T1 L1 (K2 i) pend:=by intro _; repeat' (first|exact trivial|refine ⟨.inl rfl,?_⟩|refine ⟨.inr ⟨qsafe_ok (st:=[]) rfl,Sure.of rfl⟩,?_⟩|refine ⟨.inr ⟨qsafe_ok (st:=[]) rfl,Sure.slice (by omega)⟩,?_⟩ | fail)):LSt P n0 ss K l T L :=
 S_Ed [] h hg ((EWd.call φ ht hv he (Part.of h1 h2) handed_nil hm).mono fun v K ⟨_,_,⟨i,hi,e1,e2⟩,e3,e4⟩=>(by subst e1; subst e2; exact ⟨i,hi,e3.trans (h3 i),e4.trans ((joinQ_eq h1).trans (h4 i))⟩:∃ i,C i∧v=V2 i∧K=K2 i)) h5 h6 h7 (by rintro _ _ ⟨i,hi,rfl,rfl⟩; exact ⟨hc i,LSt.nf (hn i hi)⟩)
theorem EW.into {l:Env} {L K1 K2:LH} {e:EOp} {a:Value} (h:EW P n0 L l e (fun v K=>v=a∧K=K1)) (hw:∀ X w0 E w,Rep X w0 E K1 w→Rep X w0 E K2 w):EW P n0 L l e (fun v K=>v=a∧K=K2):=fun X w0 E0 w E l' Kf h0 hE hR hl hK =>
 h X w0 E0 w E l' Kf h0 hE hR hl fun w' E' v' v L' ⟨e1,e2⟩ h1 h2 h3=>hK w' E' v' v K2 ⟨e1,rfl⟩ h1 (hw _ _ _ _ (e2 ▸ h2)) h3
theorem cAr {A:Args} {v1 v2:Value} {L2 K2:LH} {f:FuncId} {args:List Operand} {vs us:List Value} (φ:List Nat) (ht:TrK P A (seqN 0 Lc.length) f us Lc (fun v K=>v=v1∧K=L2)) (hd:handed φ (seqN 0 Lc.length) n0.A A) (hn:nE (dpush d v2 l1) fun l=>nL K2 fun L=>LSt P n0 r K l T1 L) (h:arun [] ss l T L=(.e d g (.call f args) pend::r,l1,T1,L1):=by exact rfl) (hg:gw g l1=some true:=by exact rfl)
  (hv:lvs l1 args=some vs:=by exact rfl) (he:us.map (rnV L1.length φ)=vs:=by exact rfl) (h1:φ.Nodup:=by decide) (h2:partL L1 φ φ Lc:=by repeat' (first|exact trivial|refine ⟨rfl,?_⟩ | fail)) (h3:rnV (L1.length+L2.length) (phi2 φ L1.length L2) v1=v2:=by exact rfl) (h4:joinQ φ L1 L2=K2:=by exact rfl)
  (hc:chkP P n0 T1 K2 pend:=by repeat' (first|exact trivial|refine ⟨⟨qsafe_ok (st:=[]) rfl,Sure.of rfl⟩,?_⟩ | fail)):LSt P n0 ss K l T L :=
 S_E [] h hg ((EW.callA φ ht hv he (Part.of h1 h2) hd).mono fun v K ⟨v',L',⟨h3',h4'⟩,h5',h6'⟩=>(by subst h3'; subst h4'; exact ⟨h5'.trans h3,h6'.trans ((joinQ_eq h1).trans h4)⟩:v=v2∧K=K2)) (by rintro _ _ ⟨rfl,rfl⟩; exact ⟨hc,LSt.nf hn⟩)
def bsParts (l:Env):List (Nat × Operand)→Option (List (Nat × Value))
 | []=>some []
 | (i,x)::r=>match lv l x,bsParts l r with
  | some u,some us=>bif sure u && still u then some ((i,u)::us) else none
  | _,_=>none
theorem bsParts_ok {E:Emb} {l l':Env} {ρ:Operand→Value} (hl:ER E l l') (ha:Agr l' ρ):∀ (ps:List (Nat × Operand)) (us:List (Nat × Value)),bsParts l ps=some us→ps.map (fun y=>(y.1,ρ y.2))=us
 | [],us,h=>by cases h; rfl
 | (i,x)::r,us,h=>by
  simp only [bsParts] at h
  cases hx:lv l x with
  | none=>rw [hx] at h; cases h
  | some u =>
   cases hr:bsParts l r with
   | none=>rw [hx,hr] at h; cases h
   | some vs =>
    rw [hx,hr] at h
    simp only at h
    cases hs:sure u && still u
    ·rw [hs] at h; cases h
    ·rw [hs] at h; cases h
     simp only [Bool.and_eq_true] at hs
     obtain ⟨v',h1,h2⟩:=lv_ev hl hx
     have h3:=VR.fn hs.1 h2 (VR.still hs.2)
     subst h3
     rw [List.map_cons,bsParts_ok hl ha r vs hr,ha x _ h1]
theorem EW.bsL {l:Env} {L:LH} {o:Oper} {t e:TypeId} {n sz:Nat} {ps:List (Nat × Operand)} {us:List (Nat × Value)} {ie:TypeInfo} {z:Value} {cs:List Value} (ho:o.op=.buildSlice t n ⟨ps⟩) (ht:P.underlying t=some (.slice e)) (he:P.info? e=some ie) (hz:ie.zero=some z) (hsz:ie.size=sz) (hn:0<n*sz∧n*sz≤16777216) (hu:bsParts l ps=some us)
  (hc:Instr.fill (fun i=>some (i*sz,sz)) ((Array.range (n*sz)).map (z.cells[· % z.cells.size]!)) us=some ⟨cs⟩) (hs:cs.all stillS=true) :
  EW P n0 L l (.raw o) (fun v K=>v=.slice (some ⟨L.length,0,none⟩) n n∧K=L++[.cells 0 cs]):=by
 subst hsz
 intro X w0 E0 w E l' Kf h0 hE hR hl hK ρ wr ha hsim
 obtain ⟨d,op,ty,pos,af,g⟩:=o
 simp only at ho
 subst ho
 have hps:=bsParts_ok hl ha ps us hu
 refine Eff.value (w':=wr.alloc (.cells ⟨cs⟩ e)) (v:=.slice (some ⟨wr.heap.size,0,none⟩) n n) ?_ ?_
 ·have hzv:(zeroValue e).run P wr=.ok z wr:=by simp [zeroValue,typeInfo_run he,hz,go_sem]
  have hb:(Instr.buildSlice t n ⟨us⟩).run P wr=.ok (.slice (some ⟨wr.heap.size,0,none⟩) n n) (wr.alloc (.cells ⟨cs⟩ e)):=by
   unfold Instr.buildSlice
   simp only [Sem.run_bind,run_underlying ht,Result.andThen_ok,sizeOf_run he,if_neg (show ¬ (n*ie.size > 2 ^ 24) by omega),Sem.run_pure,if_neg (show ¬ n*ie.size=0 by omega),hzv]
   rw [hc]
   rfl
  have hm:(⟨ps⟩:Array (Nat × Operand)).map (fun (y:Nat × Operand)=>(y.1,ρ y.2))=⟨us⟩:=by rw [← hps]; simp
  show Sem.run P (do let r ← Instr.buildSlice t n ((⟨ps⟩:Array (Nat × Operand)).map (fun (y:Nat × Operand)=>(y.1,ρ y.2))); pure (Next.value r)) wr=_
  rw [hm,Sem.run_bind,hb]
  rfl
 ·refine ⟨_,hsim.push _,?_⟩
  rw [hsim.heap]
  exact hK _ _ _ _ _ ⟨rfl,rfl⟩ (Ext.push E _) (new_rep hR (cs:=⟨cs⟩) (L2.self fun a ha=>SR.still (List.all_eq_true.1 hs a ha))) ⟨rfl,_,hR.last _,.inl ⟨_,_,rfl,.inl ⟨by simp,rfl⟩⟩⟩
theorem EW.wk {L L1:LH} {l:Env} {e:EOp} {R:Value→LH→Prop} (hw:∀ X w0 E w,Rep X w0 E L w→Rep X w0 E L1 w) (h:EW P n0 L1 l e R):EW P n0 L l e R:=fun X w0 E0 w E l' Kf h0 hE hR hl hK=>h X w0 E0 w E l' Kf h0 hE (hw _ _ _ _ hR) hl hK
theorem EW.cpy0 {α:Type} {g:α→List Value} {sz:Nat} {o:Oper} {s x:Operand} {sT xT:TypeId} {bytes b bx ox i m cx:Nat} {ys:List α} (zs:List α) (h:RowOk g sz) (ho:o.op=.call ⟨.builtin .append,⟨[s,x]⟩,⟨[sT,xT]⟩⟩) (ht:appT P sT xT=some (sz,bytes)) (hs:lv l s=some (.slice (some ⟨b,0,none⟩) 0 0)) (hx:lv l x=some (.slice (some ⟨bx,ox,none⟩) m cx))
  (hb:L[b]?=some (.cells 0 [])) (hbx:L[bx]?=some (.gro sz (rowsC g ys))) (hox:ox=i*sz) (hm:i+m≤ys.length) (hzs:(ys.drop i).take m=zs) (hz:0<sz) (hbd:(2*m+2048)*bytes≤281474976710656) :
  EW P n0 L l (.raw o) (fun v K=>v=.slice (some ⟨L.length,0,none⟩) m m∧K=L.set b .dead++[.gro sz (rowsC g zs)]):=by
 have hne:b≠bx:=by
  rintro rfl
  rw [hb] at hbx; cases hbx
 have hlt:=(List.getElem?_eq_some_iff.1 hb).1
 have:=EW.cpy (P:=P) (n0:=n0) (L:=L.set b (.gro sz [])) zs h ho ht hs hx (List.getElem?_set_self hlt) (by rw [List.getElem?_set_ne hne]; exact hbx) hox hm hzs hz hbd
 rw [List.set_set,List.length_set] at this
 exact EW.wk (wk_gro0 sz hb) this
end
end Go.Tum
end
section
namespace Go.Tum
open Go
section
variable {P:Program} {n0:NA} {l l1:Env} {L L1 Lc:LH} {T T1:Taken} {K:Env→LH→Prop} {ss r:List Step} {d:Option Nat} {g:Option (Nat × Bool)} {pend:List Nat}
theorem cXA {ι:Type} {A:Args} {V V2:ι→Value} {B K2:ι→LH} {C:ι→Prop} {f:FuncId} {args:List Operand} {vs us:List Value} (φ:List Nat) (ht:TrK P A (seqN 0 Lc.length) f us Lc (fun v K=>∃ i,C i∧v=V i∧K=B i)) (hd:handed φ (seqN 0 Lc.length) n0.A A) (hn:∀ i,C i→nE (dpush d (V2 i) l1) fun l=>nL (K2 i) fun L=>LSt P n0 r K l T1 L) (h:arun [] ss l T L=(.e d g (.call f args) pend::r,l1,T1,L1):=by exact rfl) (hg:gw g l1=some true:=by exact rfl)
  (hv:lvs l1 args=some vs:=by exact rfl) (he:us.map (rnV L1.length φ)=vs:=by exact rfl) (h1:φ.Nodup:=by decide) (h2:partL L1 φ φ Lc:=by repeat' (first|exact trivial|refine ⟨rfl,?_⟩ | fail)) (h3:∀ i,rnV (L1.length+(B i).length) (phi2 φ L1.length (B i)) (V i)=V2 i:=by exact fun _=>rfl) (h4:∀ i,joinQ φ L1 (B i)=K2 i:=by exact fun _=>rfl)
  (hc:∀ i,chkP P n0 T1 (K2 i) pend:=by intro _; repeat' (first|exact trivial|refine ⟨⟨qsafe_ok (st:=[]) rfl,Sure.of rfl⟩,?_⟩ | fail)):LSt P n0 ss K l T L :=
 S_E [] h hg ((EW.callA φ ht hv he (Part.of h1 h2) hd).mono fun v K ⟨v',L',⟨i,hi,h3',h4'⟩,h5',h6'⟩=>(by subst h3'; subst h4'; exact ⟨i,hi,h5'.trans (h3 i),h6'.trans ((joinQ_eq h1).trans (h4 i))⟩:∃ i,C i∧v=V2 i∧K=K2 i)) (by rintro _ _ ⟨i,hi,rfl,rfl⟩; exact ⟨hc i,LSt.nf (hn i hi)⟩)
end
structure IN where
 id:Int
 b:Nat
 o:Nat
 n:Nat
 c:Nat
 xs:List Int
instance : Inhabited IN:=⟨⟨0,0,0,0,0,[]⟩⟩
def IN.sym (d:IN):Value:=.slice (some ⟨d.b,d.o,some 0⟩) d.n d.c
def IN.cells (d:IN):List Value:=[.int .i64 d.id,d.sym]
def IN.Ok (P:Program) (n0:NA) (d:IN):Prop:=d.xs.length=d.n∧∃ n c F,d.n≤n∧n0.Has P (.s ⟨d.b,d.o,none⟩ n c (n*1) (rowF 1 F))∧∀ (j:Nat) (x:Int),d.xs[j]?=some x→F j=[.v (.int .i64 x)]
abbrev ND:=IN × Value
def ND.sv (d:ND):Value:=if d.1.n=0∧d.1.c=0 then d.2 else .slice (some ⟨d.1.b,d.1.o,none⟩) d.1.n d.1.c
def ND.ok (d:ND):Prop:=∃ a,d.2=.slice a 0 0
def ndC (d:ND):List Value:=[.int .i64 d.1.id,ND.sv d]
theorem ND.sv_ok {E:Emb} {d:ND} (h:ND.ok d):S0 E d.1.sym (ND.sv d):=by
 unfold ND.sv
 obtain ⟨a,h⟩:=h
 split
 ·rename_i h0; exact .inr ⟨h0.1,h0.2,a,h⟩
 ·exact .inl rfl
theorem ND.of {E:Emb} {d:IN} {v:Value} (h:S0 E d.sym v):∃ e:ND,e.1=d∧ND.ok e∧ND.sv e=v:=by
 by_cases h0:d.n=0∧d.c=0
 ·rcases h with rfl | ⟨_,_,a',rfl⟩
  ·exact ⟨(d,.slice (some ⟨d.b,d.o,none⟩) d.n d.c),rfl,⟨_,by rw [h0.1,h0.2]⟩,by unfold ND.sv; exact if_pos h0⟩
  ·exact ⟨(d,.slice a' 0 0),rfl,⟨_,rfl⟩,by unfold ND.sv; exact if_pos h0⟩
 ·rcases h with rfl | ⟨h1,h2,_⟩
  ·exact ⟨(d,.slice none 0 0),rfl,⟨_,rfl⟩,by unfold ND.sv; exact if_neg h0⟩
  ·exact absurd ⟨h1,h2⟩ h0
theorem rowsN_len:∀ ws:List ND,(rowsC ndC ws).length=ws.length*2
 | []=>rfl
 | a::r=>by simp only [rowsC,List.length_append,rowsN_len r,List.length_cons,ndC,List.length_nil]; omega
theorem rowsN_get:∀ {ws:List ND} {i:Nat} {d:ND} (j:Nat),ws[i]?=some d→j<2→(rowsC ndC ws)[i*2+j]?=(ndC d)[j]?
 | a::r,0,d,j,h,hj=>by
  cases h
  simp only [rowsC]
  rw [List.getElem?_append_left (by simp only [ndC,List.length_cons,List.length_nil]; omega),Nat.zero_mul,Nat.zero_add]
 | a::r,i+1,d,j,h,hj=>by
  simp only [rowsC]
  rw [List.getElem?_append_right (by simp only [ndC,List.length_cons,List.length_nil]; omega),← rowsN_get (ws:=r) (i:=i) j h hj]
  congr 1
  simp only [ndC,List.length_cons,List.length_nil]; omega
theorem one_ndC {ws:List ND} (h:∀ d∈ws,ND.ok d):∀ u∈rowsC ndC ws,one u=true:=by
 induction ws with
 | nil=>intro u hu; cases hu
 | cons a r ih =>
  intro u hu
  simp only [rowsC,List.mem_append] at hu
  rcases hu with hu | hu
  ·simp only [ndC,List.mem_cons,List.not_mem_nil,or_false] at hu
   rcases hu with rfl | rfl
   ·rfl
   ·have:=ND.sv_ok (E:=[]) (h a (List.mem_cons_self ..))
    exact (SR.one (E:=[]) (v:=a.1.sym) this).2
  ·exact ih (fun d hd=>h d (List.mem_cons_of_mem _ hd)) u hu
section
variable {P:Program} {n0:NA} {l:Env} {L:LH}
theorem QY.slcR {x:Operand} {hi:Option Operand} {size b o s n c hi':Nat} (hx:lv l x=some (.slice (some ⟨b,o,some s⟩) n c)) (h2:lbound l hi n=some hi') (h4:hi'≤c) :
  QY P n0 L l (.slc x none hi size) (.slice (some ⟨b,o,some s⟩) hi' c):=by
 refine QY.of ?_
 have h1:lbound l none 0=some 0:=rfl
 have e1:Nat.ble 0 hi'=true:=Nat.ble_eq_true_of_le (Nat.zero_le _)
 have e2:Nat.ble hi' c=true:=Nat.ble_eq_true_of_le h4
 simp only [lq,hx,h1,h2,e1,e2,Bool.and_self,cond_true]
 rfl
theorem IN.Ok.of {k j N i n:Nat} {c:Nat} {F:Nat→List AV} {Fi:Nat→List AV} {d:IN} (hA:n0.A[j]?=some (k,N*2,rowF 2 F)) (hi:i<N) (hl:(F i).length=2) (hF:(F i)[1]?=some (.s ⟨d.b,d.o,none⟩ n c (n*1) (rowF 1 Fi))) (hn:d.n≤n) (hx:d.xs.length=d.n) (hg:∀ (j:Nat) (x:Int),d.xs[j]?=some x→Fi j=[.v (.int .i64 x)]):d.Ok P n0 :=
 ⟨hx,n,c,Fi,hn,NA.Has.row (j:=1) (List.mem_of_getElem? hA) hi hl hF,hg⟩
theorem QY.nilSR {o:Oper} {t ty:TypeId} {x:Operand} {b off s n c:Nat} (ho:o.op=.binOp .eql t x (.const (.slice none 0 0)) ty) (ht:sliceT P t=true) (hx:lv l x=some (.slice (some ⟨b,off,some s⟩) n c)) (hn:0<n):QY P n0 L l (.raw o) (.bool false):=by
 intro X w0 E0 w E l' _ hE hR hl
 obtain ⟨vx,h1,h2⟩:=lv_ev hl hx
 rcases h2 with rfl | ⟨h0,_⟩
 rotate_left
 ·omega
 obtain ⟨d,op,ty',pos,af,g⟩:=o
 simp only at ho
 subst ho
 refine ⟨_,fun ρ w1 ha hs1=>?_,rfl⟩
 have hc:ρ (.const (.slice none 0 0))=.slice none 0 0:=ha _ _ rfl
 simp [execOp,ha x _ h1,hc,eqGuard,binOp,nil_run ht]
theorem QY.nilS2R {o:Oper} {t ty:TypeId} {x:Operand} {b off s n c:Nat} (ho:o.op=.binOp .eql t x (.const (.slice none 0 0)) ty) (ht:sliceT P t=true) (hx:lv l x=some (.slice (some ⟨b,off,some s⟩) n c)):QY2 P n0 L l (.raw o) (.bool true) (.bool false):=by
 intro X w0 E0 w E l' _ hE hR hl
 obtain ⟨vx,h1,h2⟩:=lv_ev hl hx
 obtain ⟨a',c',rfl⟩:=form_slice h2
 obtain ⟨d,op,ty',pos,af,g⟩:=o
 simp only at ho
 subst ho
 refine ⟨.bool a'.isNone,fun ρ w1 ha hs1=>?_,?_⟩
 ·have hc:ρ (.const (.slice none 0 0))=.slice none 0 0:=ha _ _ rfl
  simp [execOp,ha x _ h1,hc,eqGuard,binOp,nil_run ht]
 ·cases a'
  ·exact .inl rfl
  ·exact .inr rfl
theorem QY.ldIN {x:Operand} {d:IN} {j o:Nat} {a:Int} (hd:d.Ok P n0) (hx:lv l x=some (.pointer (some ⟨d.b,o,some 0⟩))) (ho:o=d.o+j*1) (ha:d.xs[j]?=some a):QY P n0 L l (.ld x) (.int .i64 a):=by
 obtain ⟨h1,n,c,F,h2,h3,h4⟩:=hd
 have hj:=(List.getElem?_eq_some_iff.1 ha).1
 have:=QY.ldR (P:=P) (n0:=n0) (L:=L) (u:=.v (.int .i64 a)) hx h3 j (by omega) (by omega) (rowF_one (h4 j a ha)) rfl
 exact this
theorem IN.rd {X:Nat→Prop} {w0 w:World} {E0 E:Emb} {d:IN} {v:Value} (hd:d.Ok P n0) (h0:n0.Ok P X w0 E0) (hR:Rep X w0 E L w) (hv:S0 E d.sym v):RdC w 1 v d.n (rowsC intC d.xs):=by
 obtain ⟨h1,n,c,F,h2,h3,h4⟩:=hd
 refine ⟨by rw [rowsI_len,h1],one_intC,?_⟩
 rcases hv with rfl | ⟨hn,hc,a',rfl⟩
 rotate_left
 ·exact .inl ⟨⟨_,_,rfl⟩,hn⟩
 ·refine .inr ⟨_,_,rfl,fun j hj=>?_⟩
  rw [Nat.mul_one] at hj
  obtain ⟨y,h5,h6⟩:=argR_cell h0 hR h3 (by omega:j<n*1)
  have ha:d.xs[j]?=some d.xs[j]:=List.getElem?_eq_getElem (by omega)
  rw [rowF_one (h4 j _ ha)] at h6
  have h6:y=_:=h6
  subst h6
  rw [add_none,rowsI_get,ha]
  exact h5
theorem EW.appIN {o:Oper} {s x:Operand} {sT xT:TypeId} {bytes b n:Nat} {xs:List Int} {d:IN} (hd:d.Ok P n0) (ho:o.op=.call ⟨.builtin .append,⟨[s,x]⟩,⟨[sT,xT]⟩⟩) (ht:appT P sT xT=some (1,bytes))
  (hs:lv l s=some (.slice (some ⟨b,0,none⟩) n n)) (hx:lv l x=some d.sym) (hb:L[b]?=some (.gro 1 (rowsC intC xs))) (hn:xs.length=n) (hbd:(2*(n+d.n)+2048)*bytes≤281474976710656) :
  EW P n0 L l (.raw o) (fun v K=>v=.slice (some ⟨L.length,0,none⟩) (n+d.n) (n+d.n)∧K=L.set b .dead++[.gro 1 (rowsC intC (xs++d.xs))]):=by
 refine EW.mono (EW.appX (Q:=fun us=>us=rowsC intC d.xs) (m:=d.n) ho ht hs hb (by rw [rowsI_len,hn]) one_intC hbd fun X w0 E0 w E l' h0 hE hR hl=>?_) ?_
 ·obtain ⟨vx',h3,hxr⟩:=lv_ev hl hx
  exact ⟨vx',_,h3,IN.rd hd h0 hR hxr,rfl⟩
 ·rintro v K ⟨us,rfl,rfl,rfl⟩
  exact ⟨rfl,by rw [rowsC_append]⟩
theorem QY.ldnN {x:Operand} {k i:Nat} {ws:List ND} {d:ND} (hx:lv l x=some (.pointer (some ⟨k,i*2,none⟩))) (hb:L[k]?=some (.gro 2 (rowsC ndC ws))) (hi:ws[i]?=some d) (hok:ND.ok d):QY P n0 L l (.ldn x 2) (.agg ⟨d.1.cells⟩):=by
 intro X w0 E0 w E l' h0 hE hR hl
 obtain ⟨_,h1,a',rfl,_,r,hr,rfl⟩:=lv_ev hl hx
 have hlt:=(List.getElem?_eq_some_iff.1 hi).1
 have hlen:=rowsN_len ws
 rcases hR.blk k _ r hb hr with ⟨h2,_⟩ | ⟨_,_,cs,⟨t,hB⟩,h3,h4⟩
 ·rw [h2] at hlen; simp at hlen; omega
 have hg:∀ j,j<2→w.cell? ⟨r.1,i*2+r.2.1+j,none⟩=(ndC d)[j]?:=fun j hj=>by
  rw [← rowsN_get j hi hj]
  simp only [World.cell?,hB]
  have:=congrArg (·[i*2+j]?) h3
  simp only [List.getElem?_take_of_lt (by omega:i*2+j<(rowsC ndC ws).length),List.getElem?_drop] at this
  rw [← this,List.getElem?_toArray,show i*2+r.2.1+j=r.2.1+(i*2+j) by omega]
  rfl
 refine ⟨.agg ⟨ndC d⟩,⟨_,⟨ndC d⟩,h1,rfl,fun j hj=>?_,rfl⟩,⟨ndC d,rfl,?_⟩⟩
 ·rw [add_none,List.getElem?_toArray]; exact hg j hj
 ·exact ⟨rfl,ND.sv_ok (E:=E) hok,trivial⟩
theorem EW.appN {o:Oper} {s x:Operand} {sT xT:TypeId} {bytes b n bx:Nat} {ws:List ND} {d:IN} (hw:∀ e∈ws,ND.ok e) (ho:o.op=.call ⟨.builtin .append,⟨[s,x]⟩,⟨[sT,xT]⟩⟩) (ht:appT P sT xT=some (2,bytes))
  (hs:lv l s=some (.slice (some ⟨b,0,none⟩) n n)) (hx:lv l x=some (.slice (some ⟨bx,0,none⟩) 1 1)) (hb:L[b]?=some (.gro 2 (rowsC ndC ws))) (hk:L[bx]?=some (.cells 0 d.cells)) (hn:ws.length=n) (hbd:(2*(n+1)+2048)*bytes≤281474976710656) :
  EW P n0 L l (.raw o) (fun v K=>∃ e:ND,(e.1=d∧ND.ok e)∧v=.slice (some ⟨L.length,0,none⟩) (n+1) (n+1)∧K=L.set b .dead++[.gro 2 (rowsC ndC (ws++[e]))]):=by
 refine EW.mono (EW.appX (Q:=fun us=>∃ e:ND,(e.1=d∧ND.ok e)∧us=ndC e) (m:=1) ho ht hs hb (by rw [rowsN_len,hn]) (one_ndC hw) hbd fun X w0 E0 w E l' h0 hE hR hl=>?_) ?_
 ·obtain ⟨vx',h3,_,r,hr,hcase⟩:=lv_ev hl hx
  have hr:E[bx]?=some r:=hr
  obtain ⟨c',rfl⟩:∃ c',vx'=.slice (some ⟨r.1,0+r.2.1,none⟩) 1 c':=by
   rcases hcase with ⟨a',c',h1,⟨h2,_⟩ | ⟨h2,_⟩⟩ | ⟨h1,_⟩
   ·exact ⟨c',by rw [h1,h2]⟩
   ·cases h2
   ·cases h1
  obtain ⟨cs,⟨t,hB⟩,h4,h5,_⟩:=hR.blk bx _ r hk hr
  have hl2:d.cells.length=2:=rfl
  rw [hl2] at h4 h5
  obtain ⟨c0,c1,h6⟩:∃ c0 c1,(cs.drop r.2.1).take 2=[c0,c1]:=by
   have:((cs.drop r.2.1).take 2).length=2:=by rw [List.length_take,List.length_drop]; omega
   match hq:(cs.drop r.2.1).take 2,this with
   | [a,b],_=>exact ⟨a,b,rfl⟩
  rw [h6] at h4
  obtain ⟨h7,h8,_⟩:=h4
  obtain rfl:c0=.int .i64 d.id:=h7
  obtain ⟨e,he1,he2,rfl⟩:=ND.of (E:=E) h8
  refine ⟨_,ndC e,h3,⟨rfl,fun u hu=>?_,.inr ⟨_,_,rfl,fun j hj=>?_⟩⟩,e,⟨he1,he2⟩,rfl⟩
  ·have:=one_ndC (ws:=[e]) (fun d hd=>by rw [List.mem_singleton.1 hd]; exact he2) u
   exact this (by simpa [rowsC] using hu)
  ·rw [add_none]
   simp only [World.cell?,hB]
   have hx:=congrArg (·[j]?) h6
   simp only [List.getElem?_take_of_lt (by omega:j<2),List.getElem?_drop] at hx
   rw [show ndC e=[.int .i64 d.id,ND.sv e] by unfold ndC; rw [he1],← hx,List.getElem?_toArray,Nat.zero_add]
   rfl
 ·rintro v K ⟨us,⟨e,he,rfl⟩,rfl,rfl⟩
  exact ⟨e,he,rfl,by rw [rowsC_append]; simp [rowsC]⟩
end
end Go.Tum
end
section
namespace Go.Proofs.Ythefbejopmbnbaa
open Go Go.Tum
set_option maxRecDepth 4000
abbrev pp (k:Nat):Value:=.pointer (some ⟨k,0,none⟩)
abbrev slB (k n:Nat):Value:=.slice (some ⟨k,0,none⟩) n n
abbrev slC (k n c:Nat):Value:=.slice (some ⟨k,0,none⟩) n c
abbrev rI (xs:List Int):LB:=.gro 1 (rowsC intC xs)
theorem cloneI_tr (xs:List Int) (k c:Nat) (h:k≤xs.length) (hb:xs.length≤65536):Tr Try.prog 25 [slC 0 k c] [rI xs] (fun v K=>v=slB 1 k∧K=[rI xs,rI (xs.take k)]):=by
 refine Tr.of row_slices_Clone_int_int__ok rfl ?_
 repeat' (first|refine qN ?_|refine dN ?_|refine dR ?_|refine d0 ?_|refine rT ?_|refine qT ?_|refine qU ?_|refine qL ?_|refine qK ?_|refine iF (fun h=>?_) (fun h=>?_)|refine aI (hn:=?_)|refine qR ?_|refine qS ?_|exact ⟨rfl,rfl⟩|fail)
 rcases Nat.eq_zero_or_pos k with rfl | hm
 ·refine S_Q2 [] rfl rfl (QY.nilS2 rfl (by kernel_rfl) rfl) ?_ ?_
  ·refine S_done [] rfl (Nx.goL (L_true rfl (L_rs (S_done [] rfl (Nx.goL ?_)))))
   refine LWp.nilE 2 1 rfl ?_
   exact L_ret (RetQ.pick [0,1] rfl rfl rfl rfl ⟨rfl,rfl⟩)
  ·repeat' (first|refine qN ?_|refine dN ?_|refine dR ?_|refine d0 ?_|refine rT ?_|refine qT ?_|refine qU ?_|refine qL ?_|refine qK ?_|refine iF (fun h=>?_) (fun h=>?_)|refine aI (hn:=?_)|refine qR ?_|refine qS ?_|exact ⟨rfl,rfl⟩|fail)
   refine S_wk [] rfl (wk_gro0 (b:=1) 1 rfl) ?_
   first|refine L_rs ?_|refine L_reg ?_ | skip
   refine eE rfl rfl (EW.appRS (bytes:=8) (xs:=[]) (i:=0) intC_ok rfl (by kernel_rfl) rfl rfl rfl rfl rfl rfl (by omega) (by decide) (by simp)) ?_
   conv=>whnf
   repeat' (first|refine qN ?_|refine dN ?_|refine dR ?_|refine d0 ?_|refine rT ?_|refine qT ?_|refine qU ?_|refine qL ?_|refine qK ?_|refine iF (fun h=>?_) (fun h=>?_)|refine aI (hn:=?_)|refine qR ?_|refine qS ?_|exact ⟨rfl,rfl⟩|fail)
   exact L_ret (RetQ.pick [0,2] rfl rfl rfl rfl ⟨rfl,rfl⟩)
 ·refine S_Q [] rfl rfl (QY.nilS rfl (by kernel_rfl) rfl hm) ?_
  repeat' (first|refine qN ?_|refine dN ?_|refine dR ?_|refine d0 ?_|refine rT ?_|refine qT ?_|refine qU ?_|refine qL ?_|refine qK ?_|refine iF (fun h=>?_) (fun h=>?_)|refine aI (hn:=?_)|refine qR ?_|refine qS ?_|exact ⟨rfl,rfl⟩|fail)
  refine S_wk [] rfl (wk_gro0 (b:=1) 1 rfl) ?_
  first|refine L_rs ?_|refine L_reg ?_ | skip
  refine eE rfl rfl (EW.appRS (bytes:=8) (xs:=[]) (i:=0) intC_ok rfl (by kernel_rfl) rfl rfl rfl rfl rfl rfl (by omega) (by decide) (by simp; omega)) ?_
  conv=>whnf
  repeat' (first|refine qN ?_|refine dN ?_|refine dR ?_|refine d0 ?_|refine rT ?_|refine qT ?_|refine qU ?_|refine qL ?_|refine qK ?_|refine iF (fun h=>?_) (fun h=>?_)|refine aI (hn:=?_)|refine qR ?_|refine qS ?_|exact ⟨rfl,rfl⟩|fail)
  exact L_ret (RetQ.pick [0,2] rfl rfl rfl rfl ⟨by show Value.slice _ (0+k) (0+k)=_; rw [Nat.zero_add]; rfl,rfl⟩)
abbrev AF (N:Nat) (F:Nat→List AV):Args:=[(0,N*2,rowF 2 F)]
def InD (N:Nat) (F:Nat→List AV) (d:IN):Prop:=∀ n0:NA,n0.A[0]?=some (0,N*2,rowF 2 F)→d.Ok Try.prog n0
theorem cloneN_tr (N:Nat) (F:Nat→List AV) (d:IN) (hd:InD N F d) (hb:d.n≤1000):TrK Try.prog (AF N F) [0] 25 [d.sym] [.dead] (fun v K=>v=slB 1 d.n∧K=[.dead,rI d.xs]):=by
 refine Tr.of row_slices_Clone_int_int__ok rfl ?_
 repeat' (first|refine qN ?_|refine dN ?_|refine dR ?_|refine d0 ?_|refine rT ?_|refine qT ?_|refine qU ?_|refine qL ?_|refine qK ?_|refine iF (fun h=>?_) (fun h=>?_)|refine aI (hn:=?_)|refine qR ?_|refine qS ?_|exact ⟨rfl,rfl⟩|fail)
 rcases Nat.eq_zero_or_pos d.n with h0 | hm
 ·have hx0:d.xs=[]:=by
   have:=(hd ⟨1,AF N F,[0]⟩ rfl).1
   exact List.length_eq_zero_iff.1 (by omega)
  refine S_Q2 [] rfl rfl (QY.nilS2R rfl (by kernel_rfl) rfl) ?_ ?_
  ·refine S_done [] rfl (Nx.goL (L_true rfl (L_rs (S_done [] rfl (Nx.goL ?_)))))
   refine LWp.nilE 2 1 rfl ?_
   exact L_ret (RetQ.pick [0,1] rfl rfl rfl rfl ⟨by rw [h0]; rfl,by rw [hx0]; rfl⟩)
  ·repeat' (first|refine qN ?_|refine dN ?_|refine dR ?_|refine d0 ?_|refine rT ?_|refine qT ?_|refine qU ?_|refine qL ?_|refine qK ?_|refine iF (fun h=>?_) (fun h=>?_)|refine aI (hn:=?_)|refine qR ?_|refine qS ?_|exact ⟨rfl,rfl⟩|fail)
   refine S_wk [] rfl (wk_gro0 (b:=1) 1 rfl) ?_
   first|refine L_rs ?_|refine L_reg ?_ | skip
   refine eE rfl rfl (EW.appIN (bytes:=8) (xs:=[]) (hd _ rfl) rfl (by kernel_rfl) rfl rfl rfl rfl (by omega)) ?_
   conv=>whnf
   repeat' (first|refine qN ?_|refine dN ?_|refine d0 ?_|refine qT ?_|refine qU ?_|refine qL ?_|refine qK ?_|refine iF (fun h=>?_) (fun h=>?_)|refine aI (hn:=?_)|refine qR ?_|refine qS ?_|exact ⟨rfl,rfl⟩|fail)
   exact L_ret (RetQ.pick [0,2] rfl rfl rfl rfl ⟨by show Value.slice _ (0+d.n) (0+d.n)=_; rw [Nat.zero_add]; rfl,rfl⟩)
 ·refine S_Q [] rfl rfl (QY.nilSR rfl (by kernel_rfl) rfl hm) ?_
  repeat' (first|refine qN ?_|refine dN ?_|refine dR ?_|refine d0 ?_|refine rT ?_|refine qT ?_|refine qU ?_|refine qL ?_|refine qK ?_|refine iF (fun h=>?_) (fun h=>?_)|refine aI (hn:=?_)|refine qR ?_|refine qS ?_|exact ⟨rfl,rfl⟩|fail)
  refine S_wk [] rfl (wk_gro0 (b:=1) 1 rfl) ?_
  first|refine L_rs ?_|refine L_reg ?_ | skip
  refine eE rfl rfl (EW.appIN (bytes:=8) (xs:=[]) (hd _ rfl) rfl (by kernel_rfl) rfl rfl rfl rfl (by omega)) ?_
  conv=>whnf
  repeat' (first|refine qN ?_|refine dN ?_|refine d0 ?_|refine qT ?_|refine qU ?_|refine qL ?_|refine qK ?_|refine iF (fun h=>?_) (fun h=>?_)|refine aI (hn:=?_)|refine qR ?_|refine qS ?_|exact ⟨rfl,rfl⟩|fail)
  exact L_ret (RetQ.pick [0,2] rfl rfl rfl rfl ⟨by show Value.slice _ (0+d.n) (0+d.n)=_; rw [Nat.zero_add]; rfl,rfl⟩)
theorem mT_g:Try.prog.underlying 54=some (.map 3 31):=Try.underlying54
theorem kT_g:Try.prog.underlying 3=some (.int .i64):=Try.underlying3
theorem zT_g:zeroOf Try.prog 31=some (.slice none 0 0):=by kernel_rfl
abbrev gM (k:Nat):LB:=.cells 0 [.map (some k)]
theorem gNew_tr:Tr Try.prog 18 [] [] (fun v K=>∃ b0:Nat,True∧v=pp 0∧K=[gM 1,gB b0 [] 0]):=by
 refine Tr.of row_reach_New_ok rfl ?_
 repeat' (first|refine qN ?_|refine dN ?_|refine d0 ?_|(refine S_E [] rfl rfl (EW.gmake rfl) ?_; rintro _ _ ⟨b0,rfl,rfl⟩; refine ⟨(by repeat' (first|exact trivial|refine ⟨⟨qsafe_ok (st:=[]) rfl,Sure.of rfl⟩,?_⟩|refine ⟨.inl rfl,?_⟩|refine ⟨.inr ⟨qsafe_ok (st:=[]) rfl,Sure.of rfl⟩,?_⟩|refine ⟨⟨qsafe_ok (st:=[]) rfl,Sure.slice (by omega)⟩,?_⟩|refine ⟨.inr ⟨qsafe_ok (st:=[]) rfl,Sure.slice (by omega)⟩,?_⟩|refine ⟨.inr ⟨QY.neqB rfl (by kernel_rfl) rfl rfl,Sure.of rfl⟩,?_⟩|refine ⟨.inr ⟨QY.eqlB rfl (by kernel_rfl) rfl rfl,Sure.of rfl⟩,?_⟩ | fail)),LSt.nf ?_⟩; conv=>whnf)|refine aI (hn:=?_)|refine qR ?_|refine qS ?_|exact ⟨rfl,rfl⟩|fail)
 exact L_ret (RetQ.pick [1,0] rfl rfl rfl rfl ⟨b0,trivial,rfl,rfl⟩)
theorem gAddN_tr (N:Nat) (F:Nat→List AV) (d:IN) (hd:InD N F d) (hb:d.n≤1000) (b0 c:Nat) (es:List GE):TrK Try.prog (AF N F) [0,1,2] 19 [pp 1,.int .i64 d.id,d.sym] [.dead,gM 2,gB b0 es c] (fun v K=>∃ e:GE,(e.id=d.id∧e.xs=d.xs)∧v=.tuple ⟨[]⟩∧K=[.dead,gM 2,gB b0 (gputE es e c).1 (gputE es e c).2]):=by
 have hC:=cloneN_tr N F d hd hb
 have hx:=(hd ⟨1,AF N F,[0]⟩ rfl).1
 refine Tr.of row_reach_Graph_Add_ok rfl ?_
 repeat' (first|refine qN ?_|refine dN ?_|refine dR ?_|refine d0 ?_|refine rT ?_|refine qT ?_|refine qU ?_|refine qL ?_|refine qK ?_|refine iF (fun h=>?_) (fun h=>?_)|(refine cAr [0] hC (fun y hy=>by cases List.mem_singleton.1 hy; exact ⟨rfl,0,rfl,List.mem_singleton.2 rfl⟩) ?_; conv=>whnf)|(refine S_E [] rfl rfl (EW.gput rfl mT_g kT_g rfl rfl rfl rfl rfl hx) ?_; rintro _ _ ⟨e,he,rfl,rfl⟩; refine ⟨(by repeat' (first|exact trivial|refine ⟨⟨qsafe_ok (st:=[]) rfl,Sure.of rfl⟩,?_⟩|refine ⟨.inl rfl,?_⟩|refine ⟨.inr ⟨qsafe_ok (st:=[]) rfl,Sure.of rfl⟩,?_⟩|refine ⟨⟨qsafe_ok (st:=[]) rfl,Sure.slice (by omega)⟩,?_⟩|refine ⟨.inr ⟨qsafe_ok (st:=[]) rfl,Sure.slice (by omega)⟩,?_⟩|refine ⟨.inr ⟨QY.neqB rfl (by kernel_rfl) rfl rfl,Sure.of rfl⟩,?_⟩|refine ⟨.inr ⟨QY.eqlB rfl (by kernel_rfl) rfl rfl,Sure.of rfl⟩,?_⟩ | fail)),LSt.nf ?_⟩; conv=>whnf)|refine aI (hn:=?_)|refine qR ?_|refine qS ?_|exact ⟨rfl,rfl⟩|fail)
 exact ⟨e,he,rfl,rfl⟩
theorem gAddO_tr (id:Int) (xs:List Int) (n:Nat) (hx:xs.length=n) (hb:n≤1000) (b0 c:Nat) (es:List GE):Tr Try.prog 19 [pp 0,.int .i64 id,slB 2 n] [gM 1,gB b0 es c,rI xs] (fun v K=>∃ e:GE,(e.id=id∧e.xs=xs)∧v=.tuple ⟨[]⟩∧K=[gM 1,gB b0 (gputE es e c).1 (gputE es e c).2,rI xs]):=by
 have hC:=cloneI_tr xs n n (by omega) (by omega)
 rw [List.take_of_length_le (by omega)] at hC
 refine Tr.of row_reach_Graph_Add_ok rfl ?_
 repeat' (first|refine qN ?_|refine dN ?_|refine dR ?_|refine d0 ?_|refine rT ?_|refine qT ?_|refine qU ?_|refine qL ?_|refine qK ?_|refine iF (fun h=>?_) (fun h=>?_)|(refine cF [2] (hC) ?_; conv=>whnf)|(refine S_E [] rfl rfl (EW.gput rfl mT_g kT_g rfl rfl rfl rfl rfl hx) ?_; rintro _ _ ⟨e,he,rfl,rfl⟩; refine ⟨(by repeat' (first|exact trivial|refine ⟨⟨qsafe_ok (st:=[]) rfl,Sure.of rfl⟩,?_⟩|refine ⟨.inl rfl,?_⟩|refine ⟨.inr ⟨qsafe_ok (st:=[]) rfl,Sure.of rfl⟩,?_⟩|refine ⟨⟨qsafe_ok (st:=[]) rfl,Sure.slice (by omega)⟩,?_⟩|refine ⟨.inr ⟨qsafe_ok (st:=[]) rfl,Sure.slice (by omega)⟩,?_⟩|refine ⟨.inr ⟨QY.neqB rfl (by kernel_rfl) rfl rfl,Sure.of rfl⟩,?_⟩|refine ⟨.inr ⟨QY.eqlB rfl (by kernel_rfl) rfl rfl,Sure.of rfl⟩,?_⟩ | fail)),LSt.nf ?_⟩; conv=>whnf)|refine aI (hn:=?_)|refine qR ?_|refine qS ?_|exact ⟨rfl,rfl⟩|fail)
 exact ⟨e,he,rfl,rfl⟩
end Go.Proofs.Ythefbejopmbnbaa
end
section
namespace Go.Proofs.Ythefbejopmbnbaa
open Go Go.Tum
def stp (es:List GE) (k:Nat) (s:IMap × List Int) (id:Int):IMap × List Int:=match gfe es id with
 | none=>s
 | some e=>if ghas s.1 id then s else (gput s.1 id k s.1.length,s.2++e.xs)
def rnd (es:List GE) (k:Nat) (out:IMap) (now:List Int):IMap × List Int:=now.foldl (stp es k) (out,[])
def st (es:List GE) (roots:List Int):Nat→IMap × List Int
 | 0=>([],roots)
 | k+1=>rnd es k (st es roots k).1 (st es roots k).2
theorem gput_len (G:IMap) (a n:Int) (c:Nat):(gput G a n c).length=G.length+1:=by simp [gput]
theorem ghas_put {G:IMap} {a n:Int} {c:Nat} (b:Int):ghas (gput G a n c) b=(ghas G b || decide (b=a)):=by
 unfold ghas
 rw [gfind_put]
 cases gfind G b with
 | some x=>rfl
 | none =>
  by_cases h:a=b
  ·subst h; simp
  ·have:¬ b=a:=fun e=>h e.symm
   simp [h,this]
theorem gfe_some {es:List GE} {a:Int} {e:GE} (h:gfe es a=some e):e∈es∧e.id=a:=⟨List.mem_of_find?_eq_some h,by simpa using List.find?_some h⟩
theorem gfe_none {es:List GE} {a:Int} (h:gfe es a=none):∀ e∈es,e.id≠a:=fun e he=>by
 have:=List.find?_eq_none.1 h e he
 simpa using this
def unm (es:List GE) (out:IMap):Nat:=(es.filter fun e => !ghas out e.id).length
theorem unm_le (es:List GE) (out:IMap):unm es out≤es.length:=List.length_filter_le ..
theorem unm_put {es:List GE} {out:IMap} {e:GE} {k:Int} {c:Nat} (he:e∈es) (h:ghas out e.id=false):unm es (gput out e.id k c)<unm es out:=by
 unfold unm
 induction es with
 | nil=>cases he
 | cons a r ih =>
  have hle:(r.filter fun x => !ghas (gput out e.id k c) x.id).length≤(r.filter fun x => !ghas out x.id).length:=by
   rw [← List.countP_eq_length_filter,← List.countP_eq_length_filter]
   apply List.countP_mono_left
   intro y _ hy
   rw [ghas_put] at hy
   cases hq:ghas out y.id
   ·rfl
   ·rw [hq] at hy; simp at hy
  simp only [List.filter_cons]
  rcases List.mem_cons.1 he with rfl | he
  ·rw [if_neg (by rw [ghas_put]; simp),if_pos (by rw [h]; rfl),List.length_cons]; omega
  ·have:=ih he
   by_cases h2:ghas out a.id=true
   ·rw [if_neg (by rw [ghas_put,h2]; simp),if_neg (by rw [h2]; simp)]; exact this
   ·simp only [Bool.not_eq_true] at h2
    rw [if_pos (by rw [h2]; rfl:(!ghas out a.id)=true),List.length_cons]
    split
    ·rw [List.length_cons]; omega
    ·omega
structure SB (es:List GE) (s:IMap × List Int):Prop where
 b:s.2.length+8*unm es s.1≤8*es.length
theorem SB.step {es:List GE} (hx:∀ e∈es,e.xs.length≤8) {k:Nat} {s:IMap × List Int} (h:SB es s) (id:Int):SB es (stp es k s id):=by
 unfold stp
 cases hq:gfe es id with
 | none=>exact h
 | some e =>
  obtain ⟨he,rfl⟩:=gfe_some hq
  simp only
  split
  ·exact h
  ·rename_i hg
   have h1:=unm_put (k:=(k:Int)) (c:=s.1.length) he (by simpa using hg)
   have h2:=h.b
   have h3:=hx e he
   exact ⟨by simp only [List.length_append]; omega⟩
theorem SB.start (es:List GE) (out:IMap):SB es (out,[]):=⟨by have:=unm_le es out; simp only [List.length_nil]; omega⟩
theorem SB.fold {es:List GE} (hx:∀ e∈es,e.xs.length≤8) {k:Nat}:∀ (now:List Int) {s:IMap × List Int},SB es s→SB es (now.foldl (stp es k) s)
 | [],_,h=>h
 | a::r,_,h=>SB.fold hx r (h.step hx a)
def mu (es:List GE) (s:IMap × List Int):Nat:=2*unm es s.1+if s.2=[] then 0 else 1
theorem fold_un {es:List GE} {k:Nat}:∀ (now:List Int) (s:IMap × List Int),now.foldl (stp es k) s=s∨unm es (now.foldl (stp es k) s).1<unm es s.1
 | [],s=>.inl rfl
 | a::r,s=>by
  rw [List.foldl_cons]
  have h1:stp es k s a=s∨unm es (stp es k s a).1<unm es s.1:=by
   unfold stp
   cases hq:gfe es a with
   | none=>exact .inl rfl
   | some e =>
    obtain ⟨he,rfl⟩:=gfe_some hq
    simp only
    split
    ·exact .inl rfl
    ·rename_i hg
     exact .inr (unm_put he (by simpa using hg))
  rcases fold_un (k:=k) r (stp es k s a) with h2 | h2
  ·rw [h2]; exact h1
  ·rcases h1 with h1 | h1
   ·rw [h1] at h2 ⊢; exact .inr h2
   ·exact .inr (Nat.lt_trans h2 h1)
theorem mu_rnd {es:List GE} {k:Nat} {out:IMap} {now:List Int} (h:now≠[]):mu es (rnd es k out now)<mu es (out,now):=by
 unfold mu rnd
 rw [if_neg h]
 rcases fold_un (es:=es) (k:=k) now (out,[]) with h1 | h1
 ·rw [h1,if_pos rfl]; exact Nat.lt_succ_self _
 ·simp only at h1 ⊢
  split <;> omega
theorem rnd_take {es:List GE} {k i:Nat} {now:List Int} {a:Int} {s:IMap × List Int} (h:now[i]?=some a):(now.take (i+1)).foldl (stp es k) s=stp es k ((now.take i).foldl (stp es k) s) a:=by
 rw [List.take_add_one,h,List.foldl_append]; rfl
theorem st_stay {es:List GE} {roots:List Int} {k:Nat} (h:(st es roots k).2=[]):∀ j,st es roots (k+j)=((st es roots k).1,[])
 | 0=>by rw [← h]; rfl
 | j+1=>by
  show rnd es (k+j) (st es roots (k+j)).1 (st es roots (k+j)).2=_
  rw [st_stay h j]; rfl
theorem st_mu {es:List GE} {roots:List Int}:∀ k,mu es (st es roots k)+k≤mu es (st es roots 0)∨(st es roots k).2=[]
 | 0=>.inl (Nat.le_refl _)
 | k+1=>by
  by_cases h:(st es roots k).2=[]
  ·right; have:=st_stay h 1; rw [this]
  ·rcases st_mu (es:=es) (roots:=roots) k with h1 | h1
   ·left
    have:mu es (st es roots (k+1))<mu es (st es roots k):=mu_rnd h
    omega
   ·exact absurd h1 h
def stN (es:List GE):Nat:=2*es.length+1
def farO (es:List GE) (roots:List Int):IMap:=(st es roots (stN es)).1
theorem st_end {es:List GE} {roots:List Int}:(st es roots (stN es)).2=[]:=by
 rcases st_mu (es:=es) (roots:=roots) (stN es) with h | h
 ·have h0:mu es (st es roots 0)≤stN es:=by
   unfold mu stN
   have:=unm_le es (st es roots 0).1
   split <;> omega
  have h1:mu es (st es roots (stN es))=0:=by omega
  unfold mu at h1
  split at h1
  ·assumption
  ·omega
 ·exact h
theorem farO_of {es:List GE} {roots:List Int} {k:Nat} (h:(st es roots k).2=[]):farO es roots=(st es roots k).1:=by
 rcases Nat.le_total k (stN es) with h1 | h1
 ·have:=st_stay h (stN es-k)
  rw [show k+(stN es-k)=stN es by omega] at this
  unfold farO; rw [this]
 ·have:=st_stay (st_end (es:=es) (roots:=roots)) (k-stN es)
  rw [show stN es+(k-stN es)=k by omega] at this
  unfold farO; rw [this]
end Go.Proofs.Ythefbejopmbnbaa
end
section
namespace Go.Proofs.Ythefbejopmbnbaa
open Go Go.Tum
set_option maxRecDepth 4000
abbrev getI (xs:List Int):Nat→List Value:=fun i=>[.int .i64 (xs.getD i 0)]
abbrev rowI (xs:List Int):Nat→AV:=rowG 1 (getI xs)
theorem rowI_at {xs:List Int} {i:Nat} {x:Int} (h:xs[i]?=some x):rowI xs (i*1)=.v (.int .i64 x) :=
 rowG_at (sz:=1) (j:=0) rfl (by simp [getI,List.getD_eq_getElem?_getD,h])
theorem ldAI {n0:NA} {L:LH} {l:Env} {x:Operand} {k i j c:Nat} {xs:List Int} {a:Int} (hx:lv l x=some (.pointer (some ⟨k,i*1,none⟩))) (hA:n0.A[j]?=some (k,c,rowI xs)) (hc:xs.length≤c) (h:xs[i]?=some a):QY Try.prog n0 L l (.ld x) (.int .i64 a) :=
 QY.ldA hx hA (by have:=(List.getElem?_eq_some_iff.1 h).1; omega) (rowI_at h) rfl
theorem ghas_none {G:IMap} {a:Int} (h:ghas G a=false):gfind G a=none:=by
 unfold ghas at h
 cases hq:gfind G a with
 | none=>rfl
 | some x=>rw [hq] at h; cases h
set_option maxHeartbeats 4000000 in
theorem farG_tr (b0 c:Nat) (es:List GE) (hes:es.length≤20) (hx8:∀ e∈es,e.xs.length≤8) (roots:List Int) (n:Nat) (hn:n≤1000) (hr:roots.length=n) :
  TrK Try.prog [] [0,1,2] 21 [pp 0,slB 2 n] [gM 1,gB b0 es c,rI roots] (fun v K=>v=.map (some 3)∧K=[gM 1,gB b0 es c,rI roots,.imap (farO es roots) (farO es roots).length]):=by
 refine Tr.of row_reach_Graph_far_ok rfl ?_
 repeat' (first|refine qN ?_|refine dN ?_|refine dR ?_|refine d0 ?_|refine qB ?_|refine rT ?_|refine qT ?_|refine qU ?_|refine qL ?_|refine qK ?_|refine qF ?_|refine qE ?_|refine iF (fun h=>?_) (fun h=>?_)|refine aX ?_|(refine eE rfl rfl (EW.imake rfl) ?_; conv=>whnf)|refine aA ?_|refine aI (hn:=?_)|refine sP 49 (fun h=>?_) (fun h=>?_)|refine qR ?_|refine qS ?_|exact ⟨rfl,rfl⟩|fail)
 refine LWp.pick [0,5,6,7] [0,1,2,3] rfl rfl rfl (L_loop (fun q l L=>∃ k:Nat,q=mu es (st es roots k)∧((k=0∧l=[(0,pp 0),(5,.map (some 3)),(6,slB 2 n),(7,.int .i64 0)]∧L=[gM 1,gB b0 es c,rI roots,.imap [] 0])∨(0<k∧∃ (out:IMap) (next:List Int),st es roots k=(out,next)∧l=[(0,pp 0),(5,.map (some 3)),(6,slB 4 next.length),(7,.int .i64 k)]∧L=[gM 1,gB b0 es c,rI roots,.imap out out.length,rI next]))) (mu es (st es roots 0)) ⟨0,rfl,.inl ⟨rfl,rfl,rfl⟩⟩ ?_)
 rintro q _ _ ⟨k,rfl,⟨rfl,rfl,rfl⟩ | ⟨hk,out,next,hst0,rfl,rfl⟩⟩
 ·have hst0:st es roots 0=([],roots):=rfl
  rw [hst0]
  have hlen:=hr
  first|refine L_seq (L_rs (S_done [] rfl (Nx.goL (iF (fun h=>L_skip (Nx.goL ?_)) (fun h=>L_exit ?_)))))|refine L_rs (S_done [] rfl (Nx.goL (L_seq (iF (fun h=>L_skip (Nx.goL ?_)) (fun h=>L_exit ?_)))))
  ·repeat' (first|refine qN ?_|refine dN ?_|refine dR ?_|refine d0 ?_|refine qB ?_|refine rT ?_|refine qT ?_|refine qU ?_|refine qL ?_|refine qK ?_|refine qF ?_|refine qE ?_|refine iF (fun h=>?_) (fun h=>?_)|refine aX ?_|refine aA ?_|refine aI (hn:=?_)|refine sP 49 (fun h=>?_) (fun h=>?_)|refine qR ?_|refine qS ?_|exact ⟨rfl,rfl⟩|fail)
   refine LWp.nilE 6 1 rfl ?_
   refine LWp.pick [0,5,6,7,26,27,28] [0,1,2,3,4] rfl rfl rfl (L_loop (fun q l L=>∃ (i:Nat) (o:IMap) (nx:List Int),q=n-i∧i≤n∧(o,nx)=(roots.take i).foldl (stp es 0) (([]:IMap),[])∧l=[(0,pp 0),(5,.map (some 3)),(6,slB 4 nx.length),(7,.int .i64 ((0:Nat):Int)),(26,slB 2 n),(27,.int .i64 n),(28,.int .i64 i)]∧L=[gM 1,gB b0 es c,rI roots,.imap o o.length,rI nx]) n ⟨0,_,_,rfl,by omega,rfl,rfl,rfl⟩ ?_)
   rintro q _ _ ⟨i,o,nx,rfl,hi,hs,rfl,rfl⟩
   first|refine L_seq (L_rs (S_done [] rfl (Nx.goL (iF (fun h=>L_skip (Nx.goL ?_)) (fun h=>L_exit ?_)))))|refine L_rs (S_done [] rfl (Nx.goL (L_seq (iF (fun h=>L_skip (Nx.goL ?_)) (fun h=>L_exit ?_)))))
   ·have him:i<n:=by omega
    obtain ⟨id,hid⟩:∃ id,roots[i]?=some id:=⟨_,List.getElem?_eq_getElem (by omega)⟩
    have hS:SB es (o,nx):=by rw [hs]; exact SB.fold hx8 _ (SB.start es _)
    have hsu:=rnd_take (es:=es) (k:=0) (s:=(([]:IMap),[])) hid
    rw [← hs] at hsu
    have hb:nx.length+8*unm es o≤8*es.length:=hS.b
    clear hs hS
    cases hg:ghas o id
    ·cases hq:gfe es id with
     | none =>
      have hst:stp es 0 (o,nx) id=(o,nx):=by unfold stp; rw [hq]
      rw [hst] at hsu
      repeat' (first|refine qN ?_|refine dN ?_|refine dR ?_|refine d0 ?_|refine qB ?_|refine rT ?_|refine qT ?_|refine qU ?_|refine qL ?_|refine qK ?_|refine qF ?_|refine qE ?_|refine iF (fun h=>?_) (fun h=>?_)|refine aX ?_|refine S_Q [] rfl rfl (QY.ldI rfl rfl hid) ?_|refine S_Q [] rfl rfl (QY.glook rfl mT_g kT_g zT_g rfl rfl rfl hq) ?_|refine S_Q [] rfl rfl (QY.igetok rfl (by kernel_rfl) rfl rfl rfl rfl hg) ?_|refine aA ?_|refine aI (hn:=?_)|refine sP 49 (fun h=>?_) (fun h=>?_)|refine qR ?_|refine qS ?_|exact ⟨rfl,rfl⟩|fail)
      exact Nx.pick [0,5,6,7,26,27,28] [0,1,2,3,4] rfl rfl rfl ⟨n-(i+1),by omega,i+1,o,nx,rfl,by omega,hsu.symm,rfl,rfl⟩
     | some e =>
      obtain ⟨he,rfl⟩:=gfe_some hq
      have hst:stp es 0 (o,nx) e.id=(gput o e.id ((0:Nat):Int) o.length,nx++e.xs):=by unfold stp; rw [hq]; simp [hg]
      rw [hst] at hsu
      have hn:=ghas_none hg
      have hx:=hx8 e he
      have hbd:(2*(nx.length+e.xs.length)+2048)*8≤281474976710656:=by omega
      have hgl:=gput_len o e.id ((0:Nat):Int) o.length
      repeat' (first|refine qN ?_|refine dN ?_|refine dR ?_|refine d0 ?_|refine qB ?_|refine rT ?_|refine qT ?_|refine qU ?_|refine qL ?_|refine qK ?_|refine qF ?_|refine qE ?_|refine iF (fun h=>?_) (fun h=>?_)|refine aX ?_|refine S_Q [] rfl rfl (QY.ldI rfl rfl hid) ?_|refine S_Q [] rfl rfl (QY.glook rfl mT_g kT_g zT_g rfl rfl rfl hq) ?_|refine S_Q [] rfl rfl (QY.igetok rfl (by kernel_rfl) rfl rfl rfl rfl hg) ?_|(refine eE rfl rfl (EW.iputN rfl (by kernel_rfl) rfl rfl rfl rfl hn) ?_; conv=>whnf)|(refine eE rfl rfl (EW.appH (bytes:=8) (k:=1) he rfl (by kernel_rfl) rfl rfl rfl rfl rfl hbd) ?_; conv=>whnf)|refine aA ?_|refine aI (hn:=?_)|refine sP 49 (fun h=>?_) (fun h=>?_)|refine qR ?_|refine qS ?_|exact ⟨rfl,rfl⟩|fail)
      exact Nx.pick [0,5,6,7,26,27,28] [0,1,2,3,5] rfl rfl rfl ⟨n-(i+1),by omega,i+1,_,_,rfl,by omega,hsu.symm,by simp only [List.length_append]; rfl,by simp only [hgl]; rfl⟩
    ·have hst:stp es 0 (o,nx) id=(o,nx):=by
      unfold stp
      cases hq:gfe es id with
      | none=>rfl
      | some e=>simp [hg]
     rw [hst] at hsu
     cases hq:gfe es id with
     | none =>
      repeat' (first|refine qN ?_|refine dN ?_|refine dR ?_|refine d0 ?_|refine qB ?_|refine rT ?_|refine qT ?_|refine qU ?_|refine qL ?_|refine qK ?_|refine qF ?_|refine qE ?_|refine iF (fun h=>?_) (fun h=>?_)|refine aX ?_|refine S_Q [] rfl rfl (QY.ldI rfl rfl hid) ?_|refine S_Q [] rfl rfl (QY.glook rfl mT_g kT_g zT_g rfl rfl rfl hq) ?_|refine S_Q [] rfl rfl (QY.igetok rfl (by kernel_rfl) rfl rfl rfl rfl hg) ?_|refine aA ?_|refine aI (hn:=?_)|refine sP 49 (fun h=>?_) (fun h=>?_)|refine qR ?_|refine qS ?_|exact ⟨rfl,rfl⟩|fail)
      exact Nx.pick [0,5,6,7,26,27,28] [0,1,2,3,4] rfl rfl rfl ⟨n-(i+1),by omega,i+1,o,nx,rfl,by omega,hsu.symm,rfl,rfl⟩
     | some e =>
      repeat' (first|refine qN ?_|refine dN ?_|refine dR ?_|refine d0 ?_|refine qB ?_|refine rT ?_|refine qT ?_|refine qU ?_|refine qL ?_|refine qK ?_|refine qF ?_|refine qE ?_|refine iF (fun h=>?_) (fun h=>?_)|refine aX ?_|refine S_Q [] rfl rfl (QY.ldI rfl rfl hid) ?_|refine S_Q [] rfl rfl (QY.glook rfl mT_g kT_g zT_g rfl rfl rfl hq) ?_|refine S_Q [] rfl rfl (QY.igetok rfl (by kernel_rfl) rfl rfl rfl rfl hg) ?_|refine aA ?_|refine aI (hn:=?_)|refine sP 49 (fun h=>?_) (fun h=>?_)|refine qR ?_|refine qS ?_|exact ⟨rfl,rfl⟩|fail)
      exact Nx.pick [0,5,6,7,26,27,28] [0,1,2,3,4] rfl rfl rfl ⟨n-(i+1),by omega,i+1,o,nx,rfl,by omega,hsu.symm,rfl,rfl⟩
   ·refine Nx.goL ?_
    obtain rfl:i=n:=by omega
    rw [List.take_of_length_le (by omega)] at hs
    have hmu:mu es (o,nx)<mu es (([]:IMap),roots):=by rw [hs]; exact mu_rnd (fun e=>by have:=congrArg List.length e; simp only [List.length_nil] at this; omega)
    have hsS:st es roots (0+1)=(o,nx):=by rw [hs]; show rnd es 0 (st es roots 0).1 (st es roots 0).2=_; rw [hst0]; rfl
    repeat' (first|refine qN ?_|refine dN ?_|refine dR ?_|refine d0 ?_|refine qB ?_|refine rT ?_|refine qT ?_|refine qU ?_|refine qL ?_|refine qK ?_|refine qF ?_|refine qE ?_|refine iF (fun h=>?_) (fun h=>?_)|refine aX ?_|refine aA ?_|refine aI (hn:=?_)|refine sP 49 (fun h=>?_) (fun h=>?_)|refine qR ?_|refine qS ?_|exact ⟨rfl,rfl⟩|fail)
    exact Nx.pick [0,5,6,7] [0,1,2,3,4] rfl rfl rfl ⟨mu es (o,nx),hmu,0+1,hsS ▸ rfl,.inr ⟨Nat.succ_pos _,o,nx,hsS,rfl,rfl⟩⟩
  ·refine Nx.goL ?_
   have e:farO es roots=[]:=farO_of (k:=0) (List.length_eq_zero_iff.1 (by show roots.length=0; omega))
   rw [e]
   repeat' (first|refine qN ?_|refine dN ?_|refine d0 ?_|refine qB ?_|refine qT ?_|refine qU ?_|refine qL ?_|refine qK ?_|refine qF ?_|refine qE ?_|refine iF (fun h=>?_) (fun h=>?_)|refine aX ?_|refine aA ?_|refine aI (hn:=?_)|refine sP 49 (fun h=>?_) (fun h=>?_)|refine qR ?_|refine qS ?_|exact ⟨rfl,rfl⟩|fail)
   exact L_ret (RetQ.pick [0,1,2,3] rfl rfl rfl rfl ⟨rfl,rfl⟩)
 ·rw [hst0]
  have hsb:next.length≤160:=by
   obtain ⟨k,rfl⟩:∃ j,k=j+1:=⟨k-1,by omega⟩
   have:SB es (out,next):=by rw [← hst0]; exact SB.fold hx8 _ (SB.start es _)
   have:next.length+8*unm es out≤8*es.length:=this.b
   omega
  have hlen:next.length=next.length:=rfl
  have hk41:next.length=0∨k≤41:=by
   rcases st_mu (es:=es) (roots:=roots) k with h1 | h1
   ·right
    have h0:mu es (st es roots 0)≤2*es.length+1:=by
     unfold mu
     have:=unm_le es (st es roots 0).1
     split <;> omega
    omega
   ·left; rw [hst0] at h1; rw [show next=[] from h1]; rfl
  first|refine L_seq (L_rs (S_done [] rfl (Nx.goL (iF (fun h=>L_skip (Nx.goL ?_)) (fun h=>L_exit ?_)))))|refine L_rs (S_done [] rfl (Nx.goL (L_seq (iF (fun h=>L_skip (Nx.goL ?_)) (fun h=>L_exit ?_)))))
  ·repeat' (first|refine qN ?_|refine dN ?_|refine dR ?_|refine d0 ?_|refine qB ?_|refine rT ?_|refine qT ?_|refine qU ?_|refine qL ?_|refine qK ?_|refine qF ?_|refine qE ?_|refine iF (fun h=>?_) (fun h=>?_)|refine aX ?_|refine aA ?_|refine aI (hn:=?_)|refine sP 49 (fun h=>?_) (fun h=>?_)|refine qR ?_|refine qS ?_|exact ⟨rfl,rfl⟩|fail)
   refine LWp.nilE 6 1 rfl ?_
   refine LWp.pick [0,5,6,7,26,27,28] [0,1,2,3,4,5] rfl rfl rfl (L_loop (fun q l L=>∃ (i:Nat) (o:IMap) (nx:List Int),q=next.length-i∧i≤next.length∧(o,nx)=(next.take i).foldl (stp es k) (out,[])∧l=[(0,pp 0),(5,.map (some 3)),(6,slB 5 nx.length),(7,.int .i64 (k:Int)),(26,slB 4 next.length),(27,.int .i64 next.length),(28,.int .i64 i)]∧L=[gM 1,gB b0 es c,rI roots,.imap o o.length,rI next,rI nx]) next.length ⟨0,_,_,rfl,by omega,rfl,rfl,rfl⟩ ?_)
   rintro q _ _ ⟨i,o,nx,rfl,hi,hs,rfl,rfl⟩
   first|refine L_seq (L_rs (S_done [] rfl (Nx.goL (iF (fun h=>L_skip (Nx.goL ?_)) (fun h=>L_exit ?_)))))|refine L_rs (S_done [] rfl (Nx.goL (L_seq (iF (fun h=>L_skip (Nx.goL ?_)) (fun h=>L_exit ?_)))))
   ·have him:i<next.length:=by omega
    obtain ⟨id,hid⟩:∃ id,next[i]?=some id:=⟨_,List.getElem?_eq_getElem (by omega)⟩
    have hS:SB es (o,nx):=by rw [hs]; exact SB.fold hx8 _ (SB.start es _)
    have hsu:=rnd_take (es:=es) (k:=k) (s:=(out,[])) hid
    rw [← hs] at hsu
    have hb:nx.length+8*unm es o≤8*es.length:=hS.b
    clear hs hS
    cases hg:ghas o id
    ·cases hq:gfe es id with
     | none =>
      have hst:stp es k (o,nx) id=(o,nx):=by unfold stp; rw [hq]
      rw [hst] at hsu
      repeat' (first|refine qN ?_|refine dN ?_|refine dR ?_|refine d0 ?_|refine qB ?_|refine rT ?_|refine qT ?_|refine qU ?_|refine qL ?_|refine qK ?_|refine qF ?_|refine qE ?_|refine iF (fun h=>?_) (fun h=>?_)|refine aX ?_|refine S_Q [] rfl rfl (QY.ldI rfl rfl hid) ?_|refine S_Q [] rfl rfl (QY.glook rfl mT_g kT_g zT_g rfl rfl rfl hq) ?_|refine S_Q [] rfl rfl (QY.igetok rfl (by kernel_rfl) rfl rfl rfl rfl hg) ?_|refine aA ?_|refine aI (hn:=?_)|refine sP 49 (fun h=>?_) (fun h=>?_)|refine qR ?_|refine qS ?_|exact ⟨rfl,rfl⟩|fail)
      exact Nx.pick [0,5,6,7,26,27,28] [0,1,2,3,4,5] rfl rfl rfl ⟨next.length-(i+1),by omega,i+1,o,nx,rfl,by omega,hsu.symm,rfl,rfl⟩
     | some e =>
      obtain ⟨he,rfl⟩:=gfe_some hq
      have hst:stp es k (o,nx) e.id=(gput o e.id (k:Int) o.length,nx++e.xs):=by unfold stp; rw [hq]; simp [hg]
      rw [hst] at hsu
      have hn:=ghas_none hg
      have hx:=hx8 e he
      have hbd:(2*(nx.length+e.xs.length)+2048)*8≤281474976710656:=by omega
      have hgl:=gput_len o e.id (k:Int) o.length
      repeat' (first|refine qN ?_|refine dN ?_|refine dR ?_|refine d0 ?_|refine qB ?_|refine rT ?_|refine qT ?_|refine qU ?_|refine qL ?_|refine qK ?_|refine qF ?_|refine qE ?_|refine iF (fun h=>?_) (fun h=>?_)|refine aX ?_|refine S_Q [] rfl rfl (QY.ldI rfl rfl hid) ?_|refine S_Q [] rfl rfl (QY.glook rfl mT_g kT_g zT_g rfl rfl rfl hq) ?_|refine S_Q [] rfl rfl (QY.igetok rfl (by kernel_rfl) rfl rfl rfl rfl hg) ?_|(refine eE rfl rfl (EW.iputN rfl (by kernel_rfl) rfl rfl rfl rfl hn) ?_; conv=>whnf)|(refine eE rfl rfl (EW.appH (bytes:=8) (k:=1) he rfl (by kernel_rfl) rfl rfl rfl rfl rfl hbd) ?_; conv=>whnf)|refine aA ?_|refine aI (hn:=?_)|refine sP 49 (fun h=>?_) (fun h=>?_)|refine qR ?_|refine qS ?_|exact ⟨rfl,rfl⟩|fail)
      exact Nx.pick [0,5,6,7,26,27,28] [0,1,2,3,4,6] rfl rfl rfl ⟨next.length-(i+1),by omega,i+1,_,_,rfl,by omega,hsu.symm,by simp only [List.length_append]; rfl,by simp only [hgl]; rfl⟩
    ·have hst:stp es k (o,nx) id=(o,nx):=by
      unfold stp
      cases hq:gfe es id with
      | none=>rfl
      | some e=>simp [hg]
     rw [hst] at hsu
     cases hq:gfe es id with
     | none =>
      repeat' (first|refine qN ?_|refine dN ?_|refine dR ?_|refine d0 ?_|refine qB ?_|refine rT ?_|refine qT ?_|refine qU ?_|refine qL ?_|refine qK ?_|refine qF ?_|refine qE ?_|refine iF (fun h=>?_) (fun h=>?_)|refine aX ?_|refine S_Q [] rfl rfl (QY.ldI rfl rfl hid) ?_|refine S_Q [] rfl rfl (QY.glook rfl mT_g kT_g zT_g rfl rfl rfl hq) ?_|refine S_Q [] rfl rfl (QY.igetok rfl (by kernel_rfl) rfl rfl rfl rfl hg) ?_|refine aA ?_|refine aI (hn:=?_)|refine sP 49 (fun h=>?_) (fun h=>?_)|refine qR ?_|refine qS ?_|exact ⟨rfl,rfl⟩|fail)
      exact Nx.pick [0,5,6,7,26,27,28] [0,1,2,3,4,5] rfl rfl rfl ⟨next.length-(i+1),by omega,i+1,o,nx,rfl,by omega,hsu.symm,rfl,rfl⟩
     | some e =>
      repeat' (first|refine qN ?_|refine dN ?_|refine dR ?_|refine d0 ?_|refine qB ?_|refine rT ?_|refine qT ?_|refine qU ?_|refine qL ?_|refine qK ?_|refine qF ?_|refine qE ?_|refine iF (fun h=>?_) (fun h=>?_)|refine aX ?_|refine S_Q [] rfl rfl (QY.ldI rfl rfl hid) ?_|refine S_Q [] rfl rfl (QY.glook rfl mT_g kT_g zT_g rfl rfl rfl hq) ?_|refine S_Q [] rfl rfl (QY.igetok rfl (by kernel_rfl) rfl rfl rfl rfl hg) ?_|refine aA ?_|refine aI (hn:=?_)|refine sP 49 (fun h=>?_) (fun h=>?_)|refine qR ?_|refine qS ?_|exact ⟨rfl,rfl⟩|fail)
      exact Nx.pick [0,5,6,7,26,27,28] [0,1,2,3,4,5] rfl rfl rfl ⟨next.length-(i+1),by omega,i+1,o,nx,rfl,by omega,hsu.symm,rfl,rfl⟩
   ·refine Nx.goL ?_
    obtain rfl:i=next.length:=by omega
    rw [List.take_of_length_le (by omega)] at hs
    have hmu:mu es (o,nx)<mu es (out,next):=by rw [hs]; exact mu_rnd (fun e=>by have:=congrArg List.length e; simp only [List.length_nil] at this; omega)
    have hsS:st es roots (k+1)=(o,nx):=by rw [hs]; show rnd es k (st es roots k).1 (st es roots k).2=_; rw [hst0]; rfl
    repeat' (first|refine qN ?_|refine dN ?_|refine dR ?_|refine d0 ?_|refine qB ?_|refine rT ?_|refine qT ?_|refine qU ?_|refine qL ?_|refine qK ?_|refine qF ?_|refine qE ?_|refine iF (fun h=>?_) (fun h=>?_)|refine aX ?_|refine aA ?_|refine aI (hn:=?_)|refine sP 49 (fun h=>?_) (fun h=>?_)|refine qR ?_|refine qS ?_|exact ⟨rfl,rfl⟩|fail)
    exact Nx.pick [0,5,6,7] [0,1,2,3,5] rfl rfl rfl ⟨mu es (o,nx),hmu,k+1,hsS ▸ rfl,.inr ⟨Nat.succ_pos _,o,nx,hsS,rfl,rfl⟩⟩
  ·refine Nx.goL ?_
   have e:farO es roots=out:=by
    have hn0:next=[]:=List.length_eq_zero_iff.1 (by omega)
    have:=farO_of (es:=es) (roots:=roots) (k:=k) (by rw [hst0]; exact hn0)
    rw [this,hst0]
   rw [e]
   repeat' (first|refine qN ?_|refine dN ?_|refine d0 ?_|refine qB ?_|refine qT ?_|refine qU ?_|refine qL ?_|refine qK ?_|refine qF ?_|refine qE ?_|refine iF (fun h=>?_) (fun h=>?_)|refine aX ?_|refine aA ?_|refine aI (hn:=?_)|refine sP 49 (fun h=>?_) (fun h=>?_)|refine qR ?_|refine qS ?_|exact ⟨rfl,rfl⟩|fail)
   exact L_ret (RetQ.pick [0,1,2,3] rfl rfl rfl rfl ⟨rfl,rfl⟩)
set_option maxHeartbeats 4000000 in
theorem farA_tr (b0 c:Nat) (es:List GE) (hes:es.length≤20) (hx8:∀ e∈es,e.xs.length≤8) (roots:List Int) (n:Nat) (hn:n≤1000) (cc m:Nat) (xs:List Int) (hxm:xs.length≤m) (hsub:∀ (i:Nat) (x:Int),roots[i]?=some x→xs[i]?=some x) (hr:roots.length=n) :
  TrK Try.prog [(2,m,rowI xs)] [0,1,2] 21 [pp 0,slC 2 n cc] [gM 1,gB b0 es c,.dead] (fun v K=>v=.map (some 3)∧K=[gM 1,gB b0 es c,.dead,.imap (farO es roots) (farO es roots).length]):=by
 refine Tr.of row_reach_Graph_far_ok rfl ?_
 repeat' (first|refine qN ?_|refine dN ?_|refine dR ?_|refine d0 ?_|refine qB ?_|refine rT ?_|refine qT ?_|refine qU ?_|refine qL ?_|refine qK ?_|refine qF ?_|refine qE ?_|refine iF (fun h=>?_) (fun h=>?_)|refine aX ?_|(refine eE rfl rfl (EW.imake rfl) ?_; conv=>whnf)|refine aA ?_|refine aI (hn:=?_)|refine sP 49 (fun h=>?_) (fun h=>?_)|refine qR ?_|refine qS ?_|exact ⟨rfl,rfl⟩|fail)
 refine LWp.pick [0,5,6,7] [0,1,2,3] rfl rfl rfl (L_loop (fun q l L=>∃ k:Nat,q=mu es (st es roots k)∧((k=0∧l=[(0,pp 0),(5,.map (some 3)),(6,slC 2 n cc),(7,.int .i64 0)]∧L=[gM 1,gB b0 es c,.dead,.imap [] 0])∨(0<k∧∃ (out:IMap) (next:List Int),st es roots k=(out,next)∧l=[(0,pp 0),(5,.map (some 3)),(6,slB 4 next.length),(7,.int .i64 k)]∧L=[gM 1,gB b0 es c,.dead,.imap out out.length,rI next]))) (mu es (st es roots 0)) ⟨0,rfl,.inl ⟨rfl,rfl,rfl⟩⟩ ?_)
 rintro q _ _ ⟨k,rfl,⟨rfl,rfl,rfl⟩ | ⟨hk,out,next,hst0,rfl,rfl⟩⟩
 ·have hst0:st es roots 0=([],roots):=rfl
  rw [hst0]
  have hlen:=hr
  first|refine L_seq (L_rs (S_done [] rfl (Nx.goL (iF (fun h=>L_skip (Nx.goL ?_)) (fun h=>L_exit ?_)))))|refine L_rs (S_done [] rfl (Nx.goL (L_seq (iF (fun h=>L_skip (Nx.goL ?_)) (fun h=>L_exit ?_)))))
  ·repeat' (first|refine qN ?_|refine dN ?_|refine dR ?_|refine d0 ?_|refine qB ?_|refine rT ?_|refine qT ?_|refine qU ?_|refine qL ?_|refine qK ?_|refine qF ?_|refine qE ?_|refine iF (fun h=>?_) (fun h=>?_)|refine aX ?_|refine aA ?_|refine aI (hn:=?_)|refine sP 49 (fun h=>?_) (fun h=>?_)|refine qR ?_|refine qS ?_|exact ⟨rfl,rfl⟩|fail)
   refine LWp.nilE 6 1 rfl ?_
   refine LWp.pick [0,5,6,7,26,27,28] [0,1,2,3,4] rfl rfl rfl (L_loop (fun q l L=>∃ (i:Nat) (o:IMap) (nx:List Int),q=n-i∧i≤n∧(o,nx)=(roots.take i).foldl (stp es 0) (([]:IMap),[])∧l=[(0,pp 0),(5,.map (some 3)),(6,slB 4 nx.length),(7,.int .i64 ((0:Nat):Int)),(26,slC 2 n cc),(27,.int .i64 n),(28,.int .i64 i)]∧L=[gM 1,gB b0 es c,.dead,.imap o o.length,rI nx]) n ⟨0,_,_,rfl,by omega,rfl,rfl,rfl⟩ ?_)
   rintro q _ _ ⟨i,o,nx,rfl,hi,hs,rfl,rfl⟩
   first|refine L_seq (L_rs (S_done [] rfl (Nx.goL (iF (fun h=>L_skip (Nx.goL ?_)) (fun h=>L_exit ?_)))))|refine L_rs (S_done [] rfl (Nx.goL (L_seq (iF (fun h=>L_skip (Nx.goL ?_)) (fun h=>L_exit ?_)))))
   ·have him:i<n:=by omega
    obtain ⟨id,hid⟩:∃ id,roots[i]?=some id:=⟨_,List.getElem?_eq_getElem (by omega)⟩
    have hS:SB es (o,nx):=by rw [hs]; exact SB.fold hx8 _ (SB.start es _)
    have hsu:=rnd_take (es:=es) (k:=0) (s:=(([]:IMap),[])) hid
    rw [← hs] at hsu
    have hb:nx.length+8*unm es o≤8*es.length:=hS.b
    clear hs hS
    cases hg:ghas o id
    ·cases hq:gfe es id with
     | none =>
      have hst:stp es 0 (o,nx) id=(o,nx):=by unfold stp; rw [hq]
      rw [hst] at hsu
      repeat' (first|refine qN ?_|refine dN ?_|refine dR ?_|refine d0 ?_|refine qB ?_|refine rT ?_|refine qT ?_|refine qU ?_|refine qL ?_|refine qK ?_|refine qF ?_|refine qE ?_|refine iF (fun h=>?_) (fun h=>?_)|refine aX ?_|refine S_Q [] rfl rfl (ldAI rfl (j:=0) rfl hxm (hsub _ _ hid)) ?_|refine S_Q [] rfl rfl (QY.glook rfl mT_g kT_g zT_g rfl rfl rfl hq) ?_|refine S_Q [] rfl rfl (QY.igetok rfl (by kernel_rfl) rfl rfl rfl rfl hg) ?_|refine aA ?_|refine aI (hn:=?_)|refine sP 49 (fun h=>?_) (fun h=>?_)|refine qR ?_|refine qS ?_|exact ⟨rfl,rfl⟩|fail)
      exact Nx.pick [0,5,6,7,26,27,28] [0,1,2,3,4] rfl rfl rfl ⟨n-(i+1),by omega,i+1,o,nx,rfl,by omega,hsu.symm,rfl,rfl⟩
     | some e =>
      obtain ⟨he,rfl⟩:=gfe_some hq
      have hst:stp es 0 (o,nx) e.id=(gput o e.id ((0:Nat):Int) o.length,nx++e.xs):=by unfold stp; rw [hq]; simp [hg]
      rw [hst] at hsu
      have hn:=ghas_none hg
      have hx:=hx8 e he
      have hbd:(2*(nx.length+e.xs.length)+2048)*8≤281474976710656:=by omega
      have hgl:=gput_len o e.id ((0:Nat):Int) o.length
      repeat' (first|refine qN ?_|refine dN ?_|refine dR ?_|refine d0 ?_|refine qB ?_|refine rT ?_|refine qT ?_|refine qU ?_|refine qL ?_|refine qK ?_|refine qF ?_|refine qE ?_|refine iF (fun h=>?_) (fun h=>?_)|refine aX ?_|refine S_Q [] rfl rfl (ldAI rfl (j:=0) rfl hxm (hsub _ _ hid)) ?_|refine S_Q [] rfl rfl (QY.glook rfl mT_g kT_g zT_g rfl rfl rfl hq) ?_|refine S_Q [] rfl rfl (QY.igetok rfl (by kernel_rfl) rfl rfl rfl rfl hg) ?_|(refine eE rfl rfl (EW.iputN rfl (by kernel_rfl) rfl rfl rfl rfl hn) ?_; conv=>whnf)|(refine eE rfl rfl (EW.appH (bytes:=8) (k:=1) he rfl (by kernel_rfl) rfl rfl rfl rfl rfl hbd) ?_; conv=>whnf)|refine aA ?_|refine aI (hn:=?_)|refine sP 49 (fun h=>?_) (fun h=>?_)|refine qR ?_|refine qS ?_|exact ⟨rfl,rfl⟩|fail)
      exact Nx.pick [0,5,6,7,26,27,28] [0,1,2,3,5] rfl rfl rfl ⟨n-(i+1),by omega,i+1,_,_,rfl,by omega,hsu.symm,by simp only [List.length_append]; rfl,by simp only [hgl]; rfl⟩
    ·have hst:stp es 0 (o,nx) id=(o,nx):=by
      unfold stp
      cases hq:gfe es id with
      | none=>rfl
      | some e=>simp [hg]
     rw [hst] at hsu
     cases hq:gfe es id with
     | none =>
      repeat' (first|refine qN ?_|refine dN ?_|refine dR ?_|refine d0 ?_|refine qB ?_|refine rT ?_|refine qT ?_|refine qU ?_|refine qL ?_|refine qK ?_|refine qF ?_|refine qE ?_|refine iF (fun h=>?_) (fun h=>?_)|refine aX ?_|refine S_Q [] rfl rfl (ldAI rfl (j:=0) rfl hxm (hsub _ _ hid)) ?_|refine S_Q [] rfl rfl (QY.glook rfl mT_g kT_g zT_g rfl rfl rfl hq) ?_|refine S_Q [] rfl rfl (QY.igetok rfl (by kernel_rfl) rfl rfl rfl rfl hg) ?_|refine aA ?_|refine aI (hn:=?_)|refine sP 49 (fun h=>?_) (fun h=>?_)|refine qR ?_|refine qS ?_|exact ⟨rfl,rfl⟩|fail)
      exact Nx.pick [0,5,6,7,26,27,28] [0,1,2,3,4] rfl rfl rfl ⟨n-(i+1),by omega,i+1,o,nx,rfl,by omega,hsu.symm,rfl,rfl⟩
     | some e =>
      repeat' (first|refine qN ?_|refine dN ?_|refine dR ?_|refine d0 ?_|refine qB ?_|refine rT ?_|refine qT ?_|refine qU ?_|refine qL ?_|refine qK ?_|refine qF ?_|refine qE ?_|refine iF (fun h=>?_) (fun h=>?_)|refine aX ?_|refine S_Q [] rfl rfl (ldAI rfl (j:=0) rfl hxm (hsub _ _ hid)) ?_|refine S_Q [] rfl rfl (QY.glook rfl mT_g kT_g zT_g rfl rfl rfl hq) ?_|refine S_Q [] rfl rfl (QY.igetok rfl (by kernel_rfl) rfl rfl rfl rfl hg) ?_|refine aA ?_|refine aI (hn:=?_)|refine sP 49 (fun h=>?_) (fun h=>?_)|refine qR ?_|refine qS ?_|exact ⟨rfl,rfl⟩|fail)
      exact Nx.pick [0,5,6,7,26,27,28] [0,1,2,3,4] rfl rfl rfl ⟨n-(i+1),by omega,i+1,o,nx,rfl,by omega,hsu.symm,rfl,rfl⟩
   ·refine Nx.goL ?_
    obtain rfl:i=n:=by omega
    rw [List.take_of_length_le (by omega)] at hs
    have hmu:mu es (o,nx)<mu es (([]:IMap),roots):=by rw [hs]; exact mu_rnd (fun e=>by have:=congrArg List.length e; simp only [List.length_nil] at this; omega)
    have hsS:st es roots (0+1)=(o,nx):=by rw [hs]; show rnd es 0 (st es roots 0).1 (st es roots 0).2=_; rw [hst0]; rfl
    repeat' (first|refine qN ?_|refine dN ?_|refine dR ?_|refine d0 ?_|refine qB ?_|refine rT ?_|refine qT ?_|refine qU ?_|refine qL ?_|refine qK ?_|refine qF ?_|refine qE ?_|refine iF (fun h=>?_) (fun h=>?_)|refine aX ?_|refine aA ?_|refine aI (hn:=?_)|refine sP 49 (fun h=>?_) (fun h=>?_)|refine qR ?_|refine qS ?_|exact ⟨rfl,rfl⟩|fail)
    exact Nx.pick [0,5,6,7] [0,1,2,3,4] rfl rfl rfl ⟨mu es (o,nx),hmu,0+1,hsS ▸ rfl,.inr ⟨Nat.succ_pos _,o,nx,hsS,rfl,rfl⟩⟩
  ·refine Nx.goL ?_
   have e:farO es roots=[]:=farO_of (k:=0) (List.length_eq_zero_iff.1 (by show roots.length=0; omega))
   rw [e]
   repeat' (first|refine qN ?_|refine dN ?_|refine d0 ?_|refine qB ?_|refine qT ?_|refine qU ?_|refine qL ?_|refine qK ?_|refine qF ?_|refine qE ?_|refine iF (fun h=>?_) (fun h=>?_)|refine aX ?_|refine aA ?_|refine aI (hn:=?_)|refine sP 49 (fun h=>?_) (fun h=>?_)|refine qR ?_|refine qS ?_|exact ⟨rfl,rfl⟩|fail)
   exact L_ret (RetQ.pick [0,1,2,3] rfl rfl rfl rfl ⟨rfl,rfl⟩)
 ·rw [hst0]
  have hsb:next.length≤160:=by
   obtain ⟨k,rfl⟩:∃ j,k=j+1:=⟨k-1,by omega⟩
   have:SB es (out,next):=by rw [← hst0]; exact SB.fold hx8 _ (SB.start es _)
   have:next.length+8*unm es out≤8*es.length:=this.b
   omega
  have hlen:next.length=next.length:=rfl
  have hk41:next.length=0∨k≤41:=by
   rcases st_mu (es:=es) (roots:=roots) k with h1 | h1
   ·right
    have h0:mu es (st es roots 0)≤2*es.length+1:=by
     unfold mu
     have:=unm_le es (st es roots 0).1
     split <;> omega
    omega
   ·left; rw [hst0] at h1; rw [show next=[] from h1]; rfl
  first|refine L_seq (L_rs (S_done [] rfl (Nx.goL (iF (fun h=>L_skip (Nx.goL ?_)) (fun h=>L_exit ?_)))))|refine L_rs (S_done [] rfl (Nx.goL (L_seq (iF (fun h=>L_skip (Nx.goL ?_)) (fun h=>L_exit ?_)))))
  ·repeat' (first|refine qN ?_|refine dN ?_|refine dR ?_|refine d0 ?_|refine qB ?_|refine rT ?_|refine qT ?_|refine qU ?_|refine qL ?_|refine qK ?_|refine qF ?_|refine qE ?_|refine iF (fun h=>?_) (fun h=>?_)|refine aX ?_|refine aA ?_|refine aI (hn:=?_)|refine sP 49 (fun h=>?_) (fun h=>?_)|refine qR ?_|refine qS ?_|exact ⟨rfl,rfl⟩|fail)
   refine LWp.nilE 6 1 rfl ?_
   refine LWp.pick [0,5,6,7,26,27,28] [0,1,2,3,4,5] rfl rfl rfl (L_loop (fun q l L=>∃ (i:Nat) (o:IMap) (nx:List Int),q=next.length-i∧i≤next.length∧(o,nx)=(next.take i).foldl (stp es k) (out,[])∧l=[(0,pp 0),(5,.map (some 3)),(6,slB 5 nx.length),(7,.int .i64 (k:Int)),(26,slB 4 next.length),(27,.int .i64 next.length),(28,.int .i64 i)]∧L=[gM 1,gB b0 es c,.dead,.imap o o.length,rI next,rI nx]) next.length ⟨0,_,_,rfl,by omega,rfl,rfl,rfl⟩ ?_)
   rintro q _ _ ⟨i,o,nx,rfl,hi,hs,rfl,rfl⟩
   first|refine L_seq (L_rs (S_done [] rfl (Nx.goL (iF (fun h=>L_skip (Nx.goL ?_)) (fun h=>L_exit ?_)))))|refine L_rs (S_done [] rfl (Nx.goL (L_seq (iF (fun h=>L_skip (Nx.goL ?_)) (fun h=>L_exit ?_)))))
   ·have him:i<next.length:=by omega
    obtain ⟨id,hid⟩:∃ id,next[i]?=some id:=⟨_,List.getElem?_eq_getElem (by omega)⟩
    have hS:SB es (o,nx):=by rw [hs]; exact SB.fold hx8 _ (SB.start es _)
    have hsu:=rnd_take (es:=es) (k:=k) (s:=(out,[])) hid
    rw [← hs] at hsu
    have hb:nx.length+8*unm es o≤8*es.length:=hS.b
    clear hs hS
    cases hg:ghas o id
    ·cases hq:gfe es id with
     | none =>
      have hst:stp es k (o,nx) id=(o,nx):=by unfold stp; rw [hq]
      rw [hst] at hsu
      repeat' (first|refine qN ?_|refine dN ?_|refine dR ?_|refine d0 ?_|refine qB ?_|refine rT ?_|refine qT ?_|refine qU ?_|refine qL ?_|refine qK ?_|refine qF ?_|refine qE ?_|refine iF (fun h=>?_) (fun h=>?_)|refine aX ?_|refine S_Q [] rfl rfl (QY.ldI rfl rfl hid) ?_|refine S_Q [] rfl rfl (QY.glook rfl mT_g kT_g zT_g rfl rfl rfl hq) ?_|refine S_Q [] rfl rfl (QY.igetok rfl (by kernel_rfl) rfl rfl rfl rfl hg) ?_|refine aA ?_|refine aI (hn:=?_)|refine sP 49 (fun h=>?_) (fun h=>?_)|refine qR ?_|refine qS ?_|exact ⟨rfl,rfl⟩|fail)
      exact Nx.pick [0,5,6,7,26,27,28] [0,1,2,3,4,5] rfl rfl rfl ⟨next.length-(i+1),by omega,i+1,o,nx,rfl,by omega,hsu.symm,rfl,rfl⟩
     | some e =>
      obtain ⟨he,rfl⟩:=gfe_some hq
      have hst:stp es k (o,nx) e.id=(gput o e.id (k:Int) o.length,nx++e.xs):=by unfold stp; rw [hq]; simp [hg]
      rw [hst] at hsu
      have hn:=ghas_none hg
      have hx:=hx8 e he
      have hbd:(2*(nx.length+e.xs.length)+2048)*8≤281474976710656:=by omega
      have hgl:=gput_len o e.id (k:Int) o.length
      repeat' (first|refine qN ?_|refine dN ?_|refine dR ?_|refine d0 ?_|refine qB ?_|refine rT ?_|refine qT ?_|refine qU ?_|refine qL ?_|refine qK ?_|refine qF ?_|refine qE ?_|refine iF (fun h=>?_) (fun h=>?_)|refine aX ?_|refine S_Q [] rfl rfl (QY.ldI rfl rfl hid) ?_|refine S_Q [] rfl rfl (QY.glook rfl mT_g kT_g zT_g rfl rfl rfl hq) ?_|refine S_Q [] rfl rfl (QY.igetok rfl (by kernel_rfl) rfl rfl rfl rfl hg) ?_|(refine eE rfl rfl (EW.iputN rfl (by kernel_rfl) rfl rfl rfl rfl hn) ?_; conv=>whnf)|(refine eE rfl rfl (EW.appH (bytes:=8) (k:=1) he rfl (by kernel_rfl) rfl rfl rfl rfl rfl hbd) ?_; conv=>whnf)|refine aA ?_|refine aI (hn:=?_)|refine sP 49 (fun h=>?_) (fun h=>?_)|refine qR ?_|refine qS ?_|exact ⟨rfl,rfl⟩|fail)
      exact Nx.pick [0,5,6,7,26,27,28] [0,1,2,3,4,6] rfl rfl rfl ⟨next.length-(i+1),by omega,i+1,_,_,rfl,by omega,hsu.symm,by simp only [List.length_append]; rfl,by simp only [hgl]; rfl⟩
    ·have hst:stp es k (o,nx) id=(o,nx):=by
      unfold stp
      cases hq:gfe es id with
      | none=>rfl
      | some e=>simp [hg]
     rw [hst] at hsu
     cases hq:gfe es id with
     | none =>
      repeat' (first|refine qN ?_|refine dN ?_|refine dR ?_|refine d0 ?_|refine qB ?_|refine rT ?_|refine qT ?_|refine qU ?_|refine qL ?_|refine qK ?_|refine qF ?_|refine qE ?_|refine iF (fun h=>?_) (fun h=>?_)|refine aX ?_|refine S_Q [] rfl rfl (QY.ldI rfl rfl hid) ?_|refine S_Q [] rfl rfl (QY.glook rfl mT_g kT_g zT_g rfl rfl rfl hq) ?_|refine S_Q [] rfl rfl (QY.igetok rfl (by kernel_rfl) rfl rfl rfl rfl hg) ?_|refine aA ?_|refine aI (hn:=?_)|refine sP 49 (fun h=>?_) (fun h=>?_)|refine qR ?_|refine qS ?_|exact ⟨rfl,rfl⟩|fail)
      exact Nx.pick [0,5,6,7,26,27,28] [0,1,2,3,4,5] rfl rfl rfl ⟨next.length-(i+1),by omega,i+1,o,nx,rfl,by omega,hsu.symm,rfl,rfl⟩
     | some e =>
      repeat' (first|refine qN ?_|refine dN ?_|refine dR ?_|refine d0 ?_|refine qB ?_|refine rT ?_|refine qT ?_|refine qU ?_|refine qL ?_|refine qK ?_|refine qF ?_|refine qE ?_|refine iF (fun h=>?_) (fun h=>?_)|refine aX ?_|refine S_Q [] rfl rfl (QY.ldI rfl rfl hid) ?_|refine S_Q [] rfl rfl (QY.glook rfl mT_g kT_g zT_g rfl rfl rfl hq) ?_|refine S_Q [] rfl rfl (QY.igetok rfl (by kernel_rfl) rfl rfl rfl rfl hg) ?_|refine aA ?_|refine aI (hn:=?_)|refine sP 49 (fun h=>?_) (fun h=>?_)|refine qR ?_|refine qS ?_|exact ⟨rfl,rfl⟩|fail)
      exact Nx.pick [0,5,6,7,26,27,28] [0,1,2,3,4,5] rfl rfl rfl ⟨next.length-(i+1),by omega,i+1,o,nx,rfl,by omega,hsu.symm,rfl,rfl⟩
   ·refine Nx.goL ?_
    obtain rfl:i=next.length:=by omega
    rw [List.take_of_length_le (by omega)] at hs
    have hmu:mu es (o,nx)<mu es (out,next):=by rw [hs]; exact mu_rnd (fun e=>by have:=congrArg List.length e; simp only [List.length_nil] at this; omega)
    have hsS:st es roots (k+1)=(o,nx):=by rw [hs]; show rnd es k (st es roots k).1 (st es roots k).2=_; rw [hst0]; rfl
    repeat' (first|refine qN ?_|refine dN ?_|refine dR ?_|refine d0 ?_|refine qB ?_|refine rT ?_|refine qT ?_|refine qU ?_|refine qL ?_|refine qK ?_|refine qF ?_|refine qE ?_|refine iF (fun h=>?_) (fun h=>?_)|refine aX ?_|refine aA ?_|refine aI (hn:=?_)|refine sP 49 (fun h=>?_) (fun h=>?_)|refine qR ?_|refine qS ?_|exact ⟨rfl,rfl⟩|fail)
    exact Nx.pick [0,5,6,7] [0,1,2,3,5] rfl rfl rfl ⟨mu es (o,nx),hmu,k+1,hsS ▸ rfl,.inr ⟨Nat.succ_pos _,o,nx,hsS,rfl,rfl⟩⟩
  ·refine Nx.goL ?_
   have e:farO es roots=out:=by
    have hn0:next=[]:=List.length_eq_zero_iff.1 (by omega)
    have:=farO_of (es:=es) (roots:=roots) (k:=k) (by rw [hst0]; exact hn0)
    rw [this,hst0]
   rw [e]
   repeat' (first|refine qN ?_|refine dN ?_|refine d0 ?_|refine qB ?_|refine qT ?_|refine qU ?_|refine qL ?_|refine qK ?_|refine qF ?_|refine qE ?_|refine iF (fun h=>?_) (fun h=>?_)|refine aX ?_|refine aA ?_|refine aI (hn:=?_)|refine sP 49 (fun h=>?_) (fun h=>?_)|refine qR ?_|refine qS ?_|exact ⟨rfl,rfl⟩|fail)
   exact L_ret (RetQ.pick [0,1,2,3] rfl rfl rfl rfl ⟨rfl,rfl⟩)
end Go.Proofs.Ythefbejopmbnbaa
end
section
namespace Go.Proofs.Ythefbejopmbnbaa
open Go Go.Tum
set_option maxRecDepth 4000
theorem steps_tr (b0 c:Nat) (es:List GE) (hes:es.length≤20) (hx8:∀ e∈es,e.xs.length≤8) (a b:Int) :
  Tr Try.prog 8 [pp 0,.int .i64 a,.int .i64 b] [gM 1,gB b0 es c] (fun v K=>v=.tuple ⟨[.int .i64 (gget (farO es [a]) b),.bool (ghas (farO es [a]) b)]⟩∧K=[gM 1,gB b0 es c]):=by
 have hF:=farG_tr b0 c es hes hx8 [a] 1 (by omega) rfl
 refine Tr.of row_reach_Graph_Steps_ok rfl ?_
 generalize farO es [a]=out at *
 repeat' (first|refine qN ?_|refine dN ?_|refine d0 ?_|refine S_wk [] rfl (wk_new (b:=2) 1 rfl (List.cons_ne_nil _ _) (by decide) rfl) ?_|(refine cF [0,1,2] (hF) ?_; conv=>whnf)|refine S_Q [] rfl rfl (QY.igetok rfl (by kernel_rfl) rfl rfl rfl rfl rfl) ?_|refine aI (hn:=?_)|refine qR ?_|refine qS ?_|exact ⟨rfl,rfl⟩|fail)
 exact L_ret (RetQ.pick [0,1] rfl rfl rfl rfl ⟨rfl,rfl⟩)
end Go.Proofs.Ythefbejopmbnbaa
end
section
namespace Go.Tum
open Go Go.RowKit Go.Sort
theorem rowsC_int:∀ xs:List Int,rowsC intC xs=xs.map (Value.int .i64)
 | []=>rfl
 | x::r=>by simp [rowsC,intC,rowsC_int r]
theorem rowsC_nil_iff {xs:List Int}:rowsC intC xs=[]↔xs=[]:=by rw [rowsC_int]; simp
section
variable {P:Program} {L:LH} {f:FuncId} {vs:List Value}
def GivesRow (P:Program) (f:FuncId) (args:Array Value) (t:TypeId) (zs:List Int) (w:World):Prop :=
 Calls P f args w fun e w'=>∃ v,e=.returned v∧w'.ownsRow w.heap.size t 1 v zs.length (zs.map (Value.int .i64))∧(v=.slice none 0 0↔zs=[])∧Below w.heap.size w w'
theorem Rep.rowNew {X:Nat→Prop} {w0 w wr:World} {E:Emb} {args:Array Value} {t:TypeId} {zs:List Int} (hR:Rep X w0 E L w) (hs:Sim wr w) (h:GivesRow P f args t zs wr) :
  Calls P f args wr fun e w'=>∃ w1,Sim w' w1∧∃ v',e=.returned v'∧∃ E',Tum.Ext E E'∧VR E' (.slice (some ⟨L.length,0,none⟩) zs.length zs.length) v'∧Rep X w0 E' (L++[.gro 1 (rowsC intC zs)]) w1:=by
 refine Calls.mono h ?_
 rintro e w' ⟨v,rfl,hrow,hnil,hb⟩
 have hf:Fr (fun _=>False) w w':=⟨by rw [← hs.heap]; exact hb.size,fun b hb' _=>by rw [← hs.heap]; exact hb.block b (by rw [hs.heap]; exact hb'),hb.os.trans hs.os,hb.tape.trans hs.tape,hb.output.trans hs.output⟩
 refine ⟨w',Sim.refl w',v,rfl,?_⟩
 by_cases hz:zs=[]
 ·subst hz
  obtain rfl:=hnil.2 rfl
  exact ⟨E++[(0,0,0)],Ext.push E _,⟨rfl,_,hR.last _,.inr ⟨rfl,rfl,none,rfl⟩⟩,hR.push hf (fun _ h=>h.elim) (.inl ⟨rfl,rfl⟩)⟩
 ·rcases hrow.2 with ⟨rfl,h0⟩ | ⟨g,cap,cur,rfl,hbase,hgb,h1,h2,h3,h4⟩
  ·exact absurd (hnil.1 rfl) hz
  ·have hg:=(Array.getElem?_eq_some_iff.1 hgb).1
   rw [hs.heap] at hbase
   refine ⟨E++[(g,0,cap-zs.length)],Ext.push E _,⟨rfl,_,hR.last _,.inl ⟨_,_,rfl,.inl ⟨by simp,by show cap=zs.length+(cap-zs.length); omega⟩⟩⟩,hR.push hf (fun b hb=>?_) (.inr ⟨fun e=>hz (rowsC_nil_iff.1 e),by decide,cur.toList,⟨_,hgb⟩,?_,?_⟩)⟩
   ·have:b=g:=by
     revert hb
     cases hq:rowsC intC zs with
     | nil=>exact absurd (rowsC_nil_iff.1 hq) hz
     | cons x r=>exact fun h=>h
    subst this
    exact ⟨hbase,hg⟩
   ·rw [rowsC_int,List.length_map]
    simpa using h4
   ·rw [rowsC_int,List.length_map]
    simp only [Array.length_toList,h3]
    omega
theorem Tr.rowNew {t:TypeId} {zs:List Int} (hc:callable P f=true) (h:∀ (X:Nat→Prop) (w0 w:World) (E:Emb) (vs':List Value),Rep X w0 E L w→L2 (VR E) vs vs'→∀ wr,Sim wr w→GivesRow P f vs'.toArray t zs wr) :
  Tr P f vs L (fun v K=>v=.slice (some ⟨L.length,0,none⟩) zs.length zs.length∧K=L++[.gro 1 (rowsC intC zs)]):=by
 intro X w0 w E vs' hA hR hv
 refine ⟨hc,fun wr hs=>(hR.rowNew hs (h X w0 w E vs' hR hv wr hs)).mono ?_⟩
 rintro e w' ⟨w1,h1,v',rfl,E',h2,h3,h4⟩
 exact ⟨w1,h1,v',rfl,E',_,_,fun k r _ hk=>h2 k r hk,by simp,h3,h4,rfl,rfl⟩
def sortZ (xs:List Int):List Int:=xs.mergeSort fun x y=>decide (x≤y)
theorem sortZ_len (xs:List Int):(sortZ xs).length=xs.length:=List.length_mergeSort ..
end
end Go.Tum
end
section
namespace Go.Tum
open Go Go.RowKit Go.Sort Go.Maps Go.WideShapes
section
variable {P:Program}
theorem ownsMap_of {k:TypeId} (hk:P.underlying k=some (.int .i64)) {w:World} {b c:Nat} {m:List (Int × Value × Nat)} (hM:Mp (Value.int .i64) w b m c) (hw:Wf m c) (hb:∀ x∈m,(Lit.int .i64 x.1).wf=true) (hl:m.length≤maxLen) :
  ∃ D0:DataW Unit,w.ownsMap P k (fun _=>some (.lit (.bool true),[])) b m.length D0∧(intKeys D0).Perm (m.map (·.1))∧Maps.size D0=m.length:=by
 have hrd:∀ x∈m,WideElems.rd (H:=Unit) P k (fun _=>some (.lit (.bool true),[])) (mkE (Value.int .i64) x)=some (.int .i64 x.1,.lit (.bool true)):=fun x hx=>by
  unfold WideElems.rd
  rw [show (mkE (Value.int .i64) x).key=.int .i64 x.1 from rfl,keyOf_int_mk hk (hb x hx)]
  rfl
 have hrg:m.map (fun x=>WideElems.rg (H:=Unit) P k (fun _=>some (.lit (.bool true),[])) (mkE (Value.int .i64) x))=m.map fun x=>(Lit.int .i64 x.1,DataW.lit (.bool true)):=by
  apply List.map_congr_left
  intro x hx
  unfold WideElems.rg
  rw [hrd x hx]; rfl
 have hrg':((m.map (mkE (Value.int .i64))).toArray.toList.map (WideElems.rg (H:=Unit) P k (fun _=>some (.lit (.bool true),[]))))=m.map fun x=>(Lit.int .i64 x.1,DataW.lit (.bool true)):=by
  rw [← hrg]; simp [Function.comp]
 refine ⟨_,⟨_,_,hM,⟨by simpa using hl,⟨fun x hx=>?_,?_,?_⟩,fun x hx=>?_⟩,by simp,rfl⟩,?_,?_⟩
 ·simp only [List.mem_map] at hx
  obtain ⟨y,hy,rfl⟩:=hx
  exact hw.past y hy
 ·have:=hw.borns
  simp only [List.map_map]
  exact this
 ·have:=hw.keys
  simp only [List.map_map]
  rw [show ((fun x:MapEntry=>x.key) ∘ mkE (Value.int .i64))=(Value.int .i64) ∘ fun x:Int × Value × Nat=>x.1 from rfl,← List.map_map]
  rw [List.nodup_iff_pairwise_ne,List.pairwise_map]
  exact (List.nodup_iff_pairwise_ne.1 this).imp fun h e=>h (by cases e; rfl)
 ·simp only [List.mem_map] at hx
  obtain ⟨y,hy,rfl⟩:=hx
  exact ⟨_,hrd y hy⟩
 ·rw [hrg']
  unfold intKeys
  refine ((sorted_perm _).map _).trans ?_
  rw [List.map_map]
  exact .refl _
 ·rw [hrg']
  show List.length _=_
  rw [(sorted_perm _).length_eq]
  simp
theorem Fr.cellK {G:Nat→Prop} {w1 w2:World} {b o:Nat} {v:Value} (hf:Fr G w1 w2) (h:w1.cell? ⟨b,o,none⟩=some v) (hn:¬ G b):w2.cell? ⟨b,o,none⟩=some v:=by
 have hlt:b<w1.heap.size:=by
  simp only [World.cell?] at h
  cases hq:w1.heap[b]? with
  | none=>rw [hq] at h; cases h
  | some x=>exact (Array.getElem?_eq_some_iff.1 hq).1
 simp only [World.cell?,hf.keep b hlt hn] at h ⊢
 exact h
abbrev clo (g k:Nat):Value:=.func (.func g) ⟨[]⟩ ⟨[.pointer (some ⟨k,0,none⟩)]⟩
def boxB (A:Nat→World→Prop) (F:Nat→Prop) (b0 b1:Nat):LB:=.abs (fun r w=>r=b1∧w.cell? ⟨b1,0,none⟩=some (.map (some b0))∧A b0 w) (fun b=>b=b1∨F b)
def adB (b0:Nat):LB:=.abs (fun r _=>r=b0) (fun _=>False)
def imA (G:IMap) (c:Nat) (r:Nat) (w:World):Prop:=Mp (Value.int .i64) w r (mI G) c∧Wf (mI G) c
def gA (es:List GE) (c:Nat) (r:Nat) (w:World):Prop:=Mp (Value.int .i64) w r (es.map ge) c∧Wf (es.map ge) c∧∀ e∈es,e.ok w
theorem boxB_is {E:Emb} {w:World} {r:Nat × Nat × Nat} {A:Nat→World→Prop} {F:Nat→Prop} {b0 b1:Nat} (h1:r=(b1,0,0)) (h2:w.cell? ⟨b1,0,none⟩=some (.map (some b0))) (h3:A b0 w) (hst:∀ w1 w2 G,A b0 w1→Fr G w1 w2→(∀ b,F b→¬ G b)→A b0 w2):LBis E w r (boxB A F b0 b1):=by
 subst h1
 exact ⟨⟨rfl,h2,h3⟩,rfl,fun w1 w2 G ⟨g1,g2,g3⟩ hf hn=>⟨g1,hf.cellK g2 (hn _ (.inl rfl)),hst w1 w2 G g3 hf fun b hb=>hn b (.inr hb)⟩⟩
theorem imA_st {G:IMap} {c b0:Nat} (w1 w2:World) (H:Nat→Prop) (h:imA G c b0 w1) (hf:Fr H w1 w2) (hn:∀ b,b=b0→¬ H b):imA G c b0 w2:=⟨h.1.fr hf (hn _ rfl),h.2⟩
theorem gA_st {es:List GE} {c b0:Nat} (w1 w2:World) (H:Nat→Prop) (h:gA es c b0 w1) (hf:Fr H w1 w2) (hn:∀ b,gF b0 es b→¬ H b):gA es c b0 w2 :=
 ⟨h.1.fr hf (hn _ (.inl rfl)),h.2.1,fun e he=>GE.ok_fr (h.2.2 e he) hf fun hx=>hn _ (.inr ⟨e,he,hx,rfl⟩)⟩
def KeysC (P:Program) (f:FuncId) (g:Nat) (t:TypeId):Prop:=∀ (mb:Option Nat) (w:World),Calls P f #[.map mb] w fun e w'=>e=.returned (.func (.func g) #[] #[.pointer (some ⟨w.heap.size,0,none⟩)])∧w'=w.alloc (.cells #[.map mb] t)
section
variable {f:FuncId} {g:Nat} {t:TypeId}
theorem keys_box {X:Nat→Prop} {w0 w:World} {E:Emb} {vs':List Value} {y:LB} {A:Nat→World→Prop} {F:Nat→Prop} {r:Nat × Nat × Nat} (h:KeysC P f g t) (hR:Rep X w0 E [y] w) (hv:L2 (VR E) [.map (some 0)] vs') (hr:E[0]?=some r) (hA:A r.1 w) (hF:∀ b,F b→foot r y b) (hst:∀ w1 w2 G,A r.1 w1→Fr G w1 w2→(∀ b,F b→¬ G b)→A r.1 w2) :
  Does P f vs'.toArray w fun v' w'=>∃ b1,(b1,0,0)=(w.heap.size,0,0)∧VR (E++[(w.heap.size,0,0)]) (clo g 1) v'∧Rep X w0 (E++[(w.heap.size,0,0)]) [.dead,boxB A F r.1 w.heap.size] w':=by
 obtain ⟨v',rfl,hv'⟩:∃ v',vs'=[v']∧VR E (.map (some 0)) v':=by
  cases vs' with
  | nil=>exact hv.elim
  | cons a q=>cases q with
   | nil=>exact ⟨a,rfl,hv.1⟩
   | cons _ _=>exact hv.2.elim
 obtain ⟨r',hr',rfl⟩:=hv'
 have hr':E[0]?=some r':=hr'
 rw [hr] at hr'; cases hr'
 intro wr hs
 refine (h (some r.1) wr).mono ?_
 rintro e w' ⟨rfl,rfl⟩
 refine ⟨w.alloc (.cells #[.map (some r.1)] t),hs.push _,_,rfl,w.heap.size,rfl,?_,?_⟩
 ·refine ⟨[],_,rfl,trivial,⟨⟨_,rfl,rfl,(w.heap.size,0,0),?_,by rw [hs.heap]; rfl⟩,trivial⟩⟩
  have:=hR.last (w.heap.size,0,0)
  exact this
 ·have hfr:Fr (fun _=>False) w (w.alloc (.cells #[.map (some r.1)] t)):=Fr.alloc _ w _
  have:=hR.again (b:=0) (r':=(w.heap.size,0,0)) (x:=boxB A F r.1 w.heap.size) rfl hr (hfr.mono fun _ _ h=>h.elim) (fun c hc=>?_) (boxB_is rfl ?_ (hst _ _ _ hA hfr fun _ _ h=>h) hst)
  ·exact this
  ·rcases hc with hc | hc
   ·right
    rw [hc]
    exact ⟨Nat.le_refl _,by show _<(w.heap.push _).size; simp⟩
   ·exact .inl (hF c hc)
  ·have hb:(w.alloc (.cells #[.map (some r.1)] t)).heap[w.heap.size]?=some (.cells #[.map (some r.1)] t):=by
    show (w.heap.push _)[w.heap.size]?=_
    simp
   simp only [World.cell?,hb]
   rfl
theorem Tr.keysI {G:IMap} {c:Nat} (hc:callable P f=true) (h:KeysC P f g t):Tr P f [.map (some 0)] [.imap G c] (fun v K=>∃ i:Nat × Nat,True∧v=clo g 1∧K=[.dead,boxB (imA G c) (·=i.1) i.1 i.2]):=by
 intro X w0 w E vs' hA hR hv
 obtain ⟨r,hr⟩:=hR.ent (b:=0) rfl
 obtain ⟨h1,h2⟩:=hR.blk 0 _ r rfl hr
 refine ⟨hc,(keys_box (A:=imA G c) (F:=(·=r.1)) h hR hv hr ⟨h1,h2⟩ (fun b hb=>hb) imA_st).mono ?_⟩
 rintro v' w' ⟨b1,_,h3,h4⟩
 exact ⟨_,_,[.dead,boxB (imA G c) (·=r.1) r.1 w.heap.size],fun k q _ hk=>Ext.push E _ k q hk,Nat.le_succ 1,h3,h4,(r.1,w.heap.size),trivial,rfl,rfl⟩
theorem Tr.keysG {es:List GE} {b0 c:Nat} (hc:callable P f=true) (h:KeysC P f g t):Tr P f [.map (some 0)] [gB b0 es c] (fun v K=>∃ b1:Nat,True∧v=clo g 1∧K=[adB b0,boxB (gA es c) (gF b0 es) b0 b1]):=by
 intro X w0 w E vs' hA hR hv
 obtain ⟨r,hr⟩:=hR.ent (b:=0) rfl
 obtain ⟨⟨rfl,h1⟩,h2,_⟩:=hR.blk 0 _ r rfl hr
 refine ⟨hc,(keys_box (A:=gA es c) (F:=gF r.1 es) h hR hv hr h1 (fun b hb=>hb) gA_st).mono ?_⟩
 rintro v' w' ⟨b1,_,h3,h4⟩
 refine ⟨_,_,[adB r.1,boxB (gA es c) (gF r.1 es) r.1 w.heap.size],fun k q _ hk=>Ext.push E _ k q hk,Nat.le_succ 1,h3,?_,w.heap.size,trivial,rfl,rfl⟩
 have:=h4.upd (b:=0) (x:=adB r.1) (y:=.dead) rfl (Ext.push E _ 0 r hr) (Fr.refl _ _) ⟨rfl,h2,fun _ _ _ h _ _=>h⟩ (fun c hc=>hc.elim)
 exact this
def SortedC (P:Program) (f:FuncId) (g:Nat) (t:TypeId):Prop:=∀ (b0 b1 c:Nat) (m:List (Int × Value × Nat)) (w:World),Mp (Value.int .i64) w b0 m c→Wf m c→(∀ x∈m,(Lit.int .i64 x.1).wf=true)→m.length≤1000→w.cell? ⟨b1,0,none⟩=some (.map (some b0))→b1<w.heap.size →
 GivesRow P f #[.func (.func g) #[] #[.pointer (some ⟨b1,0,none⟩)]] t (sortZ (m.map (·.1))) w
theorem Tr.sortedK {A:Nat→World→Prop} {F:Nat→Prop} {x:LB} {b0 b1 c:Nat} {m:List (Int × Value × Nat)} (hc:callable P f=true) (h:SortedC P f g t) (hAm:∀ w,A b0 w→Mp (Value.int .i64) w b0 m c∧Wf m c) (hb:∀ x∈m,(Lit.int .i64 x.1).wf=true) (hl:m.length≤1000) :
  Tr P f [clo g 1] [x,boxB A F b0 b1] (fun v K=>v=.slice (some ⟨2,0,none⟩) m.length m.length∧K=[x,boxB A F b0 b1,.gro 1 (rowsC intC (sortZ (m.map (·.1))))]):=by
 have hln:(sortZ (m.map (·.1))).length=m.length:=by rw [sortZ_len,List.length_map]
 have:=Tr.rowNew (P:=P) (L:=[x,boxB A F b0 b1]) (f:=f) (vs:=[clo g 1]) (t:=t) (zs:=sortZ (m.map (·.1))) hc ?_
 ·rw [hln] at this; exact this
 intro X w0 w E vs' hR hv wr hs
 obtain ⟨v',rfl,hv'⟩:∃ v',vs'=[v']∧VR E (clo g 1) v':=by
  cases vs' with
  | nil=>exact hv.elim
  | cons a q=>cases q with
   | nil=>exact ⟨a,rfl,hv.1⟩
   | cons _ _=>exact hv.2.elim
 obtain ⟨a',c',rfl,ha,hcc⟩:=hv'
 obtain rfl:a'=[]:=by cases a' with
  | nil=>rfl
  | cons _ _=>exact ha.elim
 obtain ⟨p,rfl,hp⟩:∃ p,c'=[p]∧S0 E (.pointer (some ⟨1,0,none⟩)) p:=by
  cases c' with
  | nil=>exact hcc.elim
  | cons a q=>cases q with
   | nil=>exact ⟨a,rfl,hcc.1⟩
   | cons _ _=>exact hcc.2.elim
 obtain ⟨_,rfl,_,r,hr,rfl⟩:=hp
 have hr:E[1]?=some r:=hr
 obtain ⟨⟨h1,h2,h3⟩,h4,_⟩:=hR.blk 1 _ r rfl hr
 obtain ⟨r1,r2⟩:=r
 simp only at h1 h4
 subst h1 h4
 obtain ⟨g1,g2⟩:=hAm w h3
 have hlt:=(hR.rng 1 _ _ rfl hr r1 (.inl rfl)).2
 have h5:=h b0 r1 c m wr (g1.sim hs) g2 hb hl (by rw [hs.cell]; exact h2) (by rw [hs.heap]; exact hlt)
 exact h5
end
section
variable {L:LH}
theorem wk_unbox {i j b0 b1 c:Nat} {es:List GE} (hne:i≠j) (hi:L[i]?=some (adB b0)) (hj:L[j]?=some (boxB (gA es c) (gF b0 es) b0 b1)):∀ X w0 E w,Rep X w0 E L w→Rep X w0 E ((L.set i (gB b0 es c)).set j .dead) w:=by
 intro X w0 E w hR
 obtain ⟨r,hr⟩:=hR.ent hi
 obtain ⟨q,hq⟩:=hR.ent hj
 obtain ⟨h1,h2,_⟩:=hR.blk i _ r hi hr
 obtain ⟨⟨_,_,h3⟩,_⟩:=hR.blk j _ q hj hq
 have h1:r.1=b0:=h1
 refine hR.merge hne hi hr hj hq (Fr.refl _ _) ?_ (fun c hc=>.inr (.inl (.inr hc)))
 obtain ⟨g1,g2,g3⟩:=h3
 exact gB_is (by rw [h1]; exact g1) g2 g3 h1 h2
end
end
end Go.Tum
end
section
namespace Go.Proofs.Ythefbejopmbnbaa
open Go Go.Proofs Go.Shelf Go.Tum Go.RowKit Go.Maps Go.Sort
def keysA_ren:Ren:=⟨fun | 7=>23 | 10=>28 | n=>n,fun | 23=>47 | 26=>3 | 3=>3 | 28=>51 | 0=>0 | 27=>50 | 33=>59 | 4=>4 | n=>n,fun | n=>n⟩
theorem keysA:SlLaysZI.n7 Try.prog keysA_ren:={
 mixed:=by kernel_rfl
 f7:=⟨Try.f23.name,by decide,Try.func23.trans (congrArg some (by kernel_rfl))⟩
 f10:=⟨Try.f28.name,by decide,Try.func28.trans (congrArg some (by kernel_rfl))⟩
 t0:=Try.underlying0
 a0:=Try.isAgg0
 z0:=Try.sizeOf0
 v0:=Try.zeroValue0
 t4:=Try.underlying4
 a4:=Try.isAgg4
 z4:=Try.sizeOf4
 v4:=Try.zeroValue4
 t23:=Try.underlying47
 a23:=Try.isAgg47
 z23:=Try.sizeOf47
 v23:=Try.zeroValue47
 t26:=Try.underlying3
 a26:=Try.isAgg3
 z26:=Try.sizeOf3
 v26:=Try.zeroValue3
 t27:=Try.underlying50
 a27:=Try.isAgg50
 z27:=Try.sizeOf50
 v27:=Try.zeroValue50
 t28:=Try.underlying51
 a28:=Try.isAgg51
 z28:=Try.sizeOf51
 v28:=Try.zeroValue51
 t33:=Try.underlying59
 a33:=Try.isAgg59
 z33:=Try.sizeOf59
 v33:=Try.zeroValue59 }
def keysB_ren:Ren:=⟨fun | 7=>24 | 10=>29 | n=>n,fun | 23=>54 | 26=>3 | 3=>31 | 28=>51 | 0=>0 | 27=>50 | 33=>59 | 4=>4 | n=>n,fun | n=>n⟩
theorem keysB:SlLaysZI.n7 Try.prog keysB_ren:={
 mixed:=by kernel_rfl
 f7:=⟨Try.f24.name,by decide,Try.func24.trans (congrArg some (by kernel_rfl))⟩
 f10:=⟨Try.f29.name,by decide,Try.func29.trans (congrArg some (by kernel_rfl))⟩
 t0:=Try.underlying0
 a0:=Try.isAgg0
 z0:=Try.sizeOf0
 v0:=Try.zeroValue0
 t4:=Try.underlying4
 a4:=Try.isAgg4
 z4:=Try.sizeOf4
 v4:=Try.zeroValue4
 t23:=Try.underlying54
 a23:=Try.isAgg54
 z23:=Try.sizeOf54
 v23:=Try.zeroValue54
 t26:=Try.underlying3
 a26:=Try.isAgg3
 z26:=Try.sizeOf3
 v26:=Try.zeroValue3
 t27:=Try.underlying50
 a27:=Try.isAgg50
 z27:=Try.sizeOf50
 v27:=Try.zeroValue50
 t28:=Try.underlying51
 a28:=Try.isAgg51
 z28:=Try.sizeOf51
 v28:=Try.zeroValue51
 t33:=Try.underlying59
 a33:=Try.isAgg59
 z33:=Try.sizeOf59
 v33:=Try.zeroValue59 }
def sortedA_ren:Ren:=⟨fun | 6=>22 | 8=>26 | 9=>27 | 11=>30 | 13=>32 | 12=>31 | 23=>42 | 24=>43 | 14=>33 | 15=>34 | 16=>35 | 17=>36 | 18=>37 | 19=>38 | 20=>39 | 21=>40 | 22=>41 | 25=>44 | 26=>45 | 27=>46 | 28=>47 | 29=>48 | 30=>49 | 31=>50 | n=>n,fun | 26=>3 | 28=>51 | 24=>31 | 0=>0 | 3=>3 | 37=>63 | 48=>73 | 50=>75 | 4=>4 | 40=>66 | 39=>65 | 45=>26 | 5=>5 | 9=>9 | 51=>76 | 55=>80 | 57=>82 | 58=>83 | 33=>59 | n=>n,fun | n=>n⟩
theorem sortedA:SlLaysZI.n6 Try.prog sortedA_ren:={
 mixed:=by kernel_rfl
 f6:=⟨Try.f22.name,by decide,Try.func22.trans (congrArg some (by kernel_rfl))⟩
 f8:=⟨Try.f26.name,by decide,Try.func26.trans (congrArg some (by kernel_rfl))⟩
 f11:=⟨Try.f30.name,by decide,Try.func30.trans (congrArg some (by kernel_rfl))⟩
 t0:=Try.underlying0
 a0:=Try.isAgg0
 z0:=Try.sizeOf0
 v0:=Try.zeroValue0
 t24:=Try.underlying31
 a24:=Try.isAgg31
 z24:=Try.sizeOf31
 v24:=Try.zeroValue31
 t26:=Try.underlying3
 a26:=Try.isAgg3
 z26:=Try.sizeOf3
 v26:=Try.zeroValue3
 t28:=Try.underlying51
 a28:=Try.isAgg51
 z28:=Try.sizeOf51
 v28:=Try.zeroValue51
 i26:=by kernel_rfl }
def sortA_ren:Ren:=⟨fun | 5=>27 | 8=>32 | 7=>31 | 19=>42 | 20=>43 | 10=>33 | 11=>34 | 12=>35 | 13=>36 | 14=>37 | 15=>38 | 16=>39 | 17=>40 | 18=>41 | 30=>44 | 31=>45 | 32=>46 | 33=>47 | 34=>48 | 35=>49 | 40=>50 | n=>n,fun | 23=>31 | 25=>3 | 3=>3 | 32=>63 | 22=>31 | 0=>0 | 44=>73 | 46=>75 | 4=>4 | 36=>66 | 35=>65 | 41=>26 | 5=>5 | 9=>9 | 53=>76 | 57=>80 | 63=>82 | 64=>83 | n=>n,fun | n=>n⟩
theorem sortA:SlLaysM.n5 Try.prog sortA_ren:={
 mixed:=by kernel_rfl
 f5:=⟨Try.f27.name,by decide,Try.func27.trans (congrArg some (by kernel_rfl))⟩
 f7:=⟨Try.f31.name,by decide,Try.func31.trans (congrArg some (by kernel_rfl))⟩
 f8:=Try.func32.trans (congrArg some (by kernel_rfl))
 f10:=⟨Try.f33.name,by decide,Try.func33.trans (congrArg some (by kernel_rfl))⟩
 f11:=⟨Try.f34.name,by decide,Try.func34.trans (congrArg some (by kernel_rfl))⟩
 f12:=⟨Try.f35.name,by decide,Try.func35.trans (congrArg some (by kernel_rfl))⟩
 f13:=⟨Try.f36.name,by decide,Try.func36.trans (congrArg some (by kernel_rfl))⟩
 f14:=⟨Try.f37.name,by decide,Try.func37.trans (congrArg some (by kernel_rfl))⟩
 f15:=⟨Try.f38.name,by decide,Try.func38.trans (congrArg some (by kernel_rfl))⟩
 f16:=⟨Try.f39.name,by decide,Try.func39.trans (congrArg some (by kernel_rfl))⟩
 f17:=⟨Try.f40.name,by decide,Try.func40.trans (congrArg some (by kernel_rfl))⟩
 f18:=⟨Try.f41.name,by decide,Try.func41.trans (congrArg some (by kernel_rfl))⟩
 f19:=Try.func42.trans (congrArg some (by kernel_rfl))
 f20:=Try.func43.trans (congrArg some (by kernel_rfl))
 f30:=⟨Try.f44.name,by decide,Try.func44.trans (congrArg some (by kernel_rfl))⟩
 f31:=Try.func45.trans (congrArg some (by kernel_rfl))
 f32:=Try.func46.trans (congrArg some (by kernel_rfl))
 f33:=⟨Try.f47.name,by decide,Try.func47.trans (congrArg some (by kernel_rfl))⟩
 f34:=⟨Try.f48.name,by decide,Try.func48.trans (congrArg some (by kernel_rfl))⟩
 f35:=⟨Try.f49.name,by decide,Try.func49.trans (congrArg some (by kernel_rfl))⟩
 f40:=⟨Try.f50.name,by decide,Try.func50.trans (congrArg some (by kernel_rfl))⟩
 t0:=Try.underlying0
 a0:=Try.isAgg0
 z0:=Try.sizeOf0
 v0:=Try.zeroValue0
 t3:=Try.underlying3
 a3:=Try.isAgg3
 z3:=Try.sizeOf3
 v3:=Try.zeroValue3
 t4:=Try.underlying4
 a4:=Try.isAgg4
 z4:=Try.sizeOf4
 v4:=Try.zeroValue4
 t5:=Try.underlying5
 a5:=Try.isAgg5
 z5:=Try.sizeOf5
 v5:=Try.zeroValue5
 t9:=Try.underlying9
 a9:=Try.isAgg9
 z9:=Try.sizeOf9
 v9:=Try.zeroValue9
 t22:=Try.underlying31
 a22:=Try.isAgg31
 z22:=Try.sizeOf31
 v22:=Try.zeroValue31
 t23:=Try.underlying31
 a23:=Try.isAgg31
 z23:=Try.sizeOf31
 v23:=Try.zeroValue31
 t25:=Try.underlying3
 a25:=Try.isAgg3
 z25:=Try.sizeOf3
 v25:=Try.zeroValue3
 t32:=Try.underlying63
 a32:=Try.isAgg63
 z32:=Try.sizeOf63
 v32:=Try.zeroValue63
 t35:=Try.underlying65
 a35:=Try.isAgg65
 z35:=Try.sizeOf65
 v35:=Try.zeroValue65
 t36:=Try.underlying66
 a36:=Try.isAgg66
 z36:=Try.sizeOf66
 v36:=Try.zeroValue66
 t41:=Try.underlying26
 a41:=Try.isAgg26
 z41:=Try.sizeOf26
 v41:=Try.zeroValue26
 t44:=Try.underlying73
 a44:=Try.isAgg73
 z44:=Try.sizeOf73
 v44:=Try.zeroValue73
 t46:=Try.underlying75
 a46:=Try.isAgg75
 z46:=Try.sizeOf75
 v46:=Try.zeroValue75
 t53:=Try.underlying76
 a53:=Try.isAgg76
 z53:=Try.sizeOf76
 v53:=Try.zeroValue76
 t57:=Try.underlying80
 a57:=Try.isAgg80
 z57:=Try.sizeOf80
 v57:=Try.zeroValue80
 t63:=Try.underlying82
 a63:=Try.isAgg82
 z63:=Try.sizeOf82
 v63:=Try.zeroValue82
 t64:=Try.underlying83
 a64:=Try.isAgg83
 z64:=Try.sizeOf83
 v64:=Try.zeroValue83 }
theorem sortsA (m:Nat):AnyZI.SortsIn Try.prog sortedA_ren Fence.wide m :=
 ⟨fun blk off cap ss W hH hblk hsz=>callsIn_wide.2 (AnyM.slices_Sort_int sortA blk off cap ss W hH hblk hsz),fun p cap W=>callsIn_wide.2 (AnyM.slices_Sort_int_none sortA p cap W)⟩
theorem keysA_c:KeysC Try.prog 23 28 47:=fun mb w=>callsIn_wide.1 (AnyZI.keys_in keysA Fence.wide 5 trivial rfl mb w)
theorem keysA_s:SortedC Try.prog 22 28 3:=by
 intro b0 b1 c m w hM hW hb hl hcell hlt
 obtain ⟨D0,hown,hperm,hsz⟩:=ownsMap_of Try.underlying3 hM hW hb (Nat.le_trans hl (by decide))
 have hseq:SeqGives Fence.wide 2 Try.prog 28 #[.pointer (some ⟨b1,0,none⟩)] encZ (fun ss=>ss.Perm (intKeys D0)) (Maps.size D0) w :=
  AnyZI.keys_gives (ρ:=keysA_ren) { keysA with } Fence.wide _ trivial rfl (by omega) b1 b0 m.length D0 w hlt hcell hown
 have cS:=AnyZI.sorted_in sortedA Fence.wide 5 trivial trivial trivial trivial rfl (by omega) (sortsA _) (enters_of Try.func27 (by kernel_rfl) rfl) 28 #[.pointer (some ⟨b1,0,none⟩)] trivial (enters_of Try.func28 (by kernel_rfl) rfl) _ _ (by rw [hsz]; exact Nat.le_trans hl (by decide)) (by rw [hsz]; omega) _ hseq
 change CallsIn _ _ Try.prog 22 _ _ _ at cS
 refine Calls.mono (callsIn_wide.1 cS) ?_
 rintro e w' ⟨v,ss,rfl,hS,hrow,hnil,hbl⟩
 have hp:ss.Perm (m.map (·.1)):=hS.trans hperm
 have hz:sortZ (m.map (·.1))=ss.mergeSort (fun x y=>decide (x≤y)):=(mergeSort_of_perm_i hp).symm
 refine ⟨v,rfl,?_,?_,hbl⟩
 ·rw [hz,List.length_mergeSort]; exact hrow
 ·rw [hnil]
  constructor
  ·rintro rfl; rw [hz]; exact List.mergeSort_nil
  ·intro h
   rw [hz] at h
   have:=congrArg List.length h
   rw [List.length_mergeSort] at this
   exact List.length_eq_zero_iff.1 this
theorem keysB_c:KeysC Try.prog 24 29 54:=fun mb w=>callsIn_wide.1 (AnyZI.keys_in keysB Fence.wide 5 trivial rfl mb w)
theorem keysB_s:SortedC Try.prog 22 29 3:=by
 intro b0 b1 c m w hM hW hb hl hcell hlt
 obtain ⟨D0,hown,hperm,hsz⟩:=ownsMap_of Try.underlying3 hM hW hb (Nat.le_trans hl (by decide))
 have hseq:SeqGives Fence.wide 2 Try.prog 29 #[.pointer (some ⟨b1,0,none⟩)] encZ (fun ss=>ss.Perm (intKeys D0)) (Maps.size D0) w :=
  AnyZI.keys_gives (ρ:=keysB_ren) { keysB with } Fence.wide _ trivial rfl (by omega) b1 b0 m.length D0 w hlt hcell hown
 have cS:=AnyZI.sorted_in sortedA Fence.wide 5 trivial trivial trivial trivial rfl (by omega) (sortsA _) (enters_of Try.func27 (by kernel_rfl) rfl) 29 #[.pointer (some ⟨b1,0,none⟩)] trivial (enters_of Try.func29 (by kernel_rfl) rfl) _ _ (by rw [hsz]; exact Nat.le_trans hl (by decide)) (by rw [hsz]; omega) _ hseq
 change CallsIn _ _ Try.prog 22 _ _ _ at cS
 refine Calls.mono (callsIn_wide.1 cS) ?_
 rintro e w' ⟨v,ss,rfl,hS,hrow,hnil,hbl⟩
 have hp:ss.Perm (m.map (·.1)):=hS.trans hperm
 have hz:sortZ (m.map (·.1))=ss.mergeSort (fun x y=>decide (x≤y)):=(mergeSort_of_perm_i hp).symm
 refine ⟨v,rfl,?_,?_,hbl⟩
 ·rw [hz,List.length_mergeSort]; exact hrow
 ·rw [hnil]
  constructor
  ·rintro rfl; rw [hz]; exact List.mergeSort_nil
  ·intro h
   rw [hz] at h
   have:=congrArg List.length h
   rw [List.length_mergeSort] at this
   exact List.length_eq_zero_iff.1 this
end Go.Proofs.Ythefbejopmbnbaa
end
section
namespace Go.Proofs.Ythefbejopmbnbaa
open Go Go.Tum
set_option maxRecDepth 4000
theorem keysI_tr (G:IMap) (c:Nat):Tr Try.prog 23 [.map (some 0)] [.imap G c] (fun v K=>∃ i:Nat × Nat,True∧v=clo 28 1∧K=[.dead,boxB (imA G c) (·=i.1) i.1 i.2]):=Tr.keysI (by kernel_rfl) keysA_c
abbrev keysO (G:IMap):List Int:=sortZ (G.map (·.1))
theorem sortedI_tr (G:IMap) (c:Nat) (hb:∀ x∈G,(Lit.int .i64 x.1).wf=true) (hl:G.length≤1000) (i:Nat × Nat):Tr Try.prog 22 [clo 28 1] [.dead,boxB (imA G c) (·=i.1) i.1 i.2] (fun v K=>v=slB 2 G.length∧K=[.dead,boxB (imA G c) (·=i.1) i.1 i.2,rI (keysO G)]):=by
 have:=Tr.sortedK (P:=Try.prog) (f:=22) (A:=imA G c) (F:=(·=i.1)) (x:=.dead) (b0:=i.1) (b1:=i.2) (c:=c) (m:=mI G) (by kernel_rfl) keysA_s (fun w h=>h) (fun x hx=>by
  obtain ⟨y,hy,rfl⟩:=List.mem_map.1 hx
  exact hb y hy) (by simpa [mI] using hl)
 have e1:(mI G).length=G.length:=by simp [mI]
 have e2:(mI G).map (·.1)=G.map (·.1):=by simp [mI]
 rw [e1,e2] at this
 exact this
def wfE (es:List GE):Prop:=∀ e∈es,(Lit.int .i64 e.id).wf=true
structure SK1 (es:List GE) (o:IMap):Prop where
 len:o.length+unm es o≤es.length
 key:∀ x∈o,∃ e∈es,e.id=x.1
theorem SK1.step {es:List GE} {k:Nat} {s:IMap × List Int} (h:SK1 es s.1) (id:Int):SK1 es (stp es k s id).1:=by
 unfold stp
 cases hq:gfe es id with
 | none=>exact h
 | some e =>
  obtain ⟨he,rfl⟩:=gfe_some hq
  simp only
  split
  ·exact h
  ·rename_i hg
   have h1:=unm_put (k:=(k:Int)) (c:=s.1.length) he (by simpa using hg)
   have h2:=h.len
   refine ⟨by show (gput s.1 e.id (k:Int) s.1.length).length+unm es (gput s.1 e.id (k:Int) s.1.length)≤es.length; rw [gput_len]; omega,fun x hx=>?_⟩
   rcases List.mem_append.1 hx with hx | hx
   ·exact h.key x hx
   ·rw [List.mem_singleton] at hx; subst hx; exact ⟨e,he,rfl⟩
theorem SK1.fold {es:List GE} {k:Nat}:∀ (now:List Int) {s:IMap × List Int},SK1 es s.1→SK1 es (now.foldl (stp es k) s).1
 | [],_,h=>h
 | a::r,_,h=>SK1.fold r (h.step a)
theorem SK1.st (es:List GE) (roots:List Int):∀ k,SK1 es (st es roots k).1
 | 0=>⟨by show 0+_≤_; have:=unm_le es ([]:IMap); rw [Nat.zero_add]; exact this,fun x hx=>by cases hx⟩
 | k+1=>by
  have:=SK1.st es roots k
  exact SK1.fold _ (s:=((Go.Proofs.Ythefbejopmbnbaa.st es roots k).1,[])) this
theorem farO_len (es:List GE) (roots:List Int):(farO es roots).length≤es.length:=by
 have:=(SK1.st es roots (stN es)).len
 unfold farO; omega
theorem farO_wf {es:List GE} (h:wfE es) (roots:List Int):∀ x∈farO es roots,(Lit.int .i64 x.1).wf=true:=fun x hx=>by
 obtain ⟨e,he,h1⟩:=(SK1.st es roots (stN es)).key x hx
 rw [← h1]; exact h e he
theorem fromG_tr (b0 c:Nat) (es:List GE) (hes:es.length≤20) (hx8:∀ e∈es,e.xs.length≤8) (hw:wfE es) (roots:List Int) (n:Nat) (hn:n≤1000) (hr:roots.length=n) :
  Tr Try.prog 12 [pp 0,slB 2 n] [gM 1,gB b0 es c,rI roots] (fun v K=>v=slB 3 (farO es roots).length∧K=[gM 1,gB b0 es c,rI roots,rI (keysO (farO es roots))]):=by
 have hF:=farG_tr b0 c es hes hx8 roots n hn hr
 have h1:=farO_len es roots
 have h2:=farO_wf hw roots
 generalize farO es roots=out at *
 have hK:=keysI_tr out out.length
 refine Tr.of row_reach_Graph_From_ok rfl ?_
 repeat' (first|refine qN ?_|refine dN ?_|refine d0 ?_|(refine cF [0,1,2] (hF) ?_; conv=>whnf)|refine aI (hn:=?_)|refine qR ?_|refine qS ?_|exact ⟨rfl,rfl⟩|fail)
 refine cX [3] hK (fun i _=>?_)
 conv=>whnf
 have hS:=sortedI_tr out out.length h2 (by omega) i
 repeat' (first|refine qN ?_|refine dN ?_|refine d0 ?_|(refine cF [3,4] (hS) ?_; conv=>whnf)|refine aI (hn:=?_)|refine qR ?_|refine qS ?_|exact ⟨rfl,rfl⟩|fail)
 exact L_ret (RetQ.pick [0,1,2,5] rfl rfl rfl rfl ⟨rfl,rfl⟩)
end Go.Proofs.Ythefbejopmbnbaa
end
section
namespace Go.Proofs.Ythefbejopmbnbaa
open Go Go.Tum
set_option maxRecDepth 4000
set_option maxHeartbeats 1000000 in
theorem same_tr (xs ys:List Int) (n m:Nat) (hx:xs.length=n) (hy:ys.length=m) (hn:n≤1000) (hm:m≤1000):Tr Try.prog 14 [slB 0 n,slB 1 m] [rI xs,rI ys] (fun v K=>v=.bool (decide (xs=ys))∧K=[rI xs,rI ys]):=by
 refine Tr.of row_tumbrelref21_Same_ok rfl ?_
 by_cases hnm:n=m
 ·subst hnm
  repeat' (first|refine qN ?_|refine dN ?_|refine dR ?_|refine d0 ?_|refine qB ?_|refine rT ?_|refine qT ?_|refine qU ?_|refine qL ?_|refine qK ?_|refine qF ?_|refine qE ?_|refine iF (fun h=>?_) (fun h=>?_)|refine aX ?_|refine aA ?_|refine aI (hn:=?_)|refine qR ?_|refine qS ?_|exact ⟨rfl,rfl⟩|fail)
  all_goals first | (exfalso; omega) | skip
  refine LWp.pick [0,1,11,12,13] [0,1] rfl rfl rfl (L_loop (fun q l L=>∃ i:Nat,q=n-i∧i≤n∧xs.take i=ys.take i∧l=[(0,slB 0 n),(1,slB 1 n),(11,slB 0 n),(12,.int .i64 n),(13,.int .i64 i)]∧L=[rI xs,rI ys]) n ⟨0,rfl,by omega,rfl,rfl,rfl⟩ ?_)
  rintro q _ _ ⟨i,rfl,hi,hall,rfl,rfl⟩
  first|refine L_seq (L_rs (S_done [] rfl (Nx.goL (iF (fun h=>L_skip (Nx.goL ?_)) (fun h=>L_exit ?_)))))|refine L_rs (S_done [] rfl (Nx.goL (L_seq (iF (fun h=>L_skip (Nx.goL ?_)) (fun h=>L_exit ?_)))))
  ·have hik:i<n:=by omega
   obtain ⟨x,hx1⟩:∃ x,xs[i]?=some x:=⟨_,List.getElem?_eq_getElem (by omega)⟩
   obtain ⟨y,hy1⟩:∃ y,ys[i]?=some y:=⟨_,List.getElem?_eq_getElem (by omega)⟩
   repeat' (first|refine qN ?_|refine dN ?_|refine d0 ?_|refine qB ?_|refine qT ?_|refine qU ?_|refine qL ?_|refine qK ?_|refine qF ?_|refine qE ?_|refine iF (fun h=>?_) (fun h=>?_)|refine aX ?_|refine S_Q [] rfl rfl (QY.ldI rfl rfl hx1) ?_|refine S_Q [] rfl rfl (QY.ldI rfl rfl hy1) ?_|refine aA ?_|refine aI (hn:=?_)|refine qR ?_|refine qS ?_|exact ⟨rfl,rfl⟩|fail)
   ·have hne:xs≠ys:=fun e=>by rw [e,hy1] at hx1; cases hx1; exact h rfl
    rw [decide_eq_false hne]
    exact L_ret (RetQ.pick [0,1] rfl rfl rfl rfl ⟨rfl,rfl⟩)
   ·obtain rfl:x=y:=by omega
    exact Nx.pick [0,1,11,12,13] [0,1] rfl rfl rfl ⟨n-(i+1),by omega,i+1,rfl,by omega,by rw [List.take_add_one,List.take_add_one,hx1,hy1,hall],rfl,rfl⟩
  ·refine Nx.goL ?_
   obtain rfl:i=n:=by omega
   rw [List.take_of_length_le (by omega),List.take_of_length_le (by omega)] at hall
   rw [decide_eq_true hall]
   repeat' (first|refine qN ?_|refine dN ?_|refine d0 ?_|refine qB ?_|refine qT ?_|refine qU ?_|refine qL ?_|refine qK ?_|refine qF ?_|refine qE ?_|refine iF (fun h=>?_) (fun h=>?_)|refine aX ?_|refine aA ?_|refine aI (hn:=?_)|refine qR ?_|refine qS ?_|exact ⟨rfl,rfl⟩|fail)
   exact L_ret (RetQ.pick [0,1] rfl rfl rfl rfl ⟨rfl,rfl⟩)
 ·have hne:xs≠ys:=fun e=>hnm (by rw [← hx,← hy,e])
  rw [decide_eq_false hne]
  repeat' (first|refine qN ?_|refine dN ?_|refine d0 ?_|refine qB ?_|refine qT ?_|refine qU ?_|refine qL ?_|refine qK ?_|refine qF ?_|refine qE ?_|refine iF (fun h=>?_) (fun h=>?_)|refine aX ?_|refine aA ?_|refine aI (hn:=?_)|refine qR ?_|refine qS ?_|exact ⟨rfl,rfl⟩|fail)
  all_goals first | (exfalso; omega)|exact L_ret (RetQ.pick [0,1] rfl rfl rfl rfl ⟨rfl,rfl⟩)
theorem info_int:(Try.prog.info? 3).map (fun i=>(i.zero,i.size,i.bytes))=some (some (.int .i64 0),1,8):=by kernel_rfl
theorem sort21:sortZ [2,1]=[1,2]:=by
 have hp:(sortZ [2,1]).Perm [1,2]:=(List.mergeSort_perm ..).trans (List.Perm.swap ..)
 have hs:(sortZ [2,1]).Pairwise (fun a b=>decide (a≤b)=true):=List.pairwise_mergeSort (fun a b c=>by simp only [decide_eq_true_eq]; omega) (fun a b=>by simp only [Bool.or_eq_true,decide_eq_true_eq]; omega) _
 refine hp.eq_of_pairwise (le:=fun a b:Int=>decide (a≤b)=true) (fun a b _ _ h1 h2=>?_) hs (by simp)
 simp only [decide_eq_true_eq] at h1 h2; omega
abbrev aE1 (p o c b:Nat) (z:Value):GE:=⟨1,[2,9],p,o,c,z,b⟩
abbrev aE2 (p o c b:Nat) (z:Value):GE:=⟨2,[1],p,o,c,z,b⟩
set_option maxHeartbeats 2000000 in
theorem awake_tr:Tr Try.prog 11 [] [] (fun v K=>v=.bool true∧K=[]):=by
 have hG:=gNew_tr
 obtain ⟨ii,hj,hy0,hy1,_⟩:=info_parts info_int
 have hU:=Try.underlying31
 refine Tr.of row_tumbrellaw21_awake_ok rfl ?_
 repeat' (first|refine qN ?_|refine dN ?_|refine d0 ?_|refine aI (hn:=?_)|refine sP 21 (fun h=>?_) (fun h=>?_)|refine sP 25 (fun h=>?_) (fun h=>?_)|refine qR ?_|refine qS ?_|exact ⟨rfl,rfl⟩|fail)
 refine cX [] hG (fun b0 _=>?_)
 conv=>whnf
 have hA1:=gAddO_tr 1 [2,9] 2 rfl (by decide) b0 0 []
 repeat' (first|refine qN ?_|refine dN ?_|refine d0 ?_|(refine eE rfl rfl (EW.into (EW.bsL (cs:=rowsC intC [2,9]) rfl hU hj hy0 hy1 (by decide) rfl (by kernel_rfl) rfl) (wk_new (b:=2) 1 rfl (by decide) (by decide) rfl)) ?_; conv=>whnf)|refine aI (hn:=?_)|refine sP 21 (fun h=>?_) (fun h=>?_)|refine sP 25 (fun h=>?_) (fun h=>?_)|refine qR ?_|refine qS ?_|exact ⟨rfl,rfl⟩|fail)
 refine cX [0,1,2] hA1 (fun e1 he1=>?_)
 conv=>whnf
 obtain ⟨id1,xs1,p1,o1,c1,z1,b1⟩:=e1
 obtain ⟨rfl,rfl⟩:=he1
 have hA2:=gAddO_tr 2 [1] 1 rfl (by decide) b0 1 [aE1 p1 o1 c1 0 z1]
 repeat' (first|refine qN ?_|refine dN ?_|refine d0 ?_|refine S_wk [] rfl (wk_new (b:=3) 1 rfl (List.cons_ne_nil _ _) (by decide) rfl) ?_|refine aI (hn:=?_)|refine sP 21 (fun h=>?_) (fun h=>?_)|refine sP 25 (fun h=>?_) (fun h=>?_)|refine qR ?_|refine qS ?_|exact ⟨rfl,rfl⟩|fail)
 refine cX [0,1,3] hA2 (fun e2 he2=>?_)
 conv=>whnf
 obtain ⟨id2,xs2,p2,o2,c2,z2,b2⟩:=e2
 obtain ⟨rfl,rfl⟩:=he2
 have h8:∀ e∈[aE1 p1 o1 c1 0 z1,aE2 p2 o2 c2 1 z2],e.xs.length≤8:=by
  intro e he
  rcases List.mem_cons.1 he with rfl | he
  ·show 2≤8; decide
  ·rw [List.mem_singleton.1 he]; show 1≤8; decide
 have hw:wfE [aE1 p1 o1 c1 0 z1,aE2 p2 o2 c2 1 z2]:=by
  intro e he
  rcases List.mem_cons.1 he with rfl | he
  ·rfl
  ·rw [List.mem_singleton.1 he]; rfl
 have hSt:=steps_tr b0 2 [aE1 p1 o1 c1 0 z1,aE2 p2 o2 c2 1 z2] (by show 2≤20; decide) h8 1 2
 have hFr:=fromG_tr b0 2 [aE1 p1 o1 c1 0 z1,aE2 p2 o2 c2 1 z2] (by show 2≤20; decide) h8 hw [2] 1 (by decide) rfl
 rw [show farO [aE1 p1 o1 c1 0 z1,aE2 p2 o2 c2 1 z2] [1]=[(1,0,0),(2,1,1)] from rfl,show gget [(1,0,0),(2,1,1)] 2=1 from rfl,show ghas [(1,0,0),(2,1,1)] 2=true from rfl] at hSt
 rw [show farO [aE1 p1 o1 c1 0 z1,aE2 p2 o2 c2 1 z2] [2]=[(2,0,0),(1,1,1)] from rfl,show keysO [(2,0,0),(1,1,1)]=[1,2] from sort21] at hFr
 have hSm:=same_tr [1,2] [1,2] 2 2 rfl rfl (by decide) (by decide)
 rw [decide_eq_true rfl] at hSm
 repeat' (first|refine qN ?_|refine dN ?_|refine d0 ?_|(refine cF [0,1] (hSt) ?_; conv=>whnf)|refine S_wk [] rfl (wk_new (b:=4) 1 rfl (List.cons_ne_nil _ _) (by decide) rfl) ?_|(refine cF [0,1,4] (hFr) ?_; conv=>whnf)|(refine eE rfl rfl (EW.into (EW.bsL (cs:=rowsC intC [1,2]) rfl hU hj hy0 hy1 (by decide) rfl (by kernel_rfl) rfl) (wk_new (b:=6) 1 rfl (by decide) (by decide) rfl)) ?_; conv=>whnf)|(refine cF [5,6] (hSm) ?_; conv=>whnf)|refine aI (hn:=?_)|refine sP 21 (fun h=>?_) (fun h=>?_)|refine sP 25 (fun h=>?_) (fun h=>?_)|refine qR ?_|refine qS ?_|exact ⟨rfl,rfl⟩|fail)
 exact L_ret (RetQ.pick [] rfl rfl rfl rfl ⟨rfl,rfl⟩)
end Go.Proofs.Ythefbejopmbnbaa
end
section
namespace Go.Proofs.Ythefbejopmbnbaa
open Go Go.Tum
set_option maxRecDepth 4000
abbrev NB (ws:List ND):LB:=.gro 2 (rowsC ndC ws)
def fndI (l:List Int) (a:Int):Int:=match l.findIdx? fun x=>decide (x=a) with
 | some i=>i
 | none => -1
theorem fnd_hit {l:List Int} {a:Int} {i:Nat} (h:∀ j:Nat,j<i→l[j]?≠some a) (hi:l[i]?=some a):fndI l a=i:=by
 have:l.findIdx? (fun x=>decide (x=a))=some i:=by
  rw [List.findIdx?_eq_some_iff_getElem]
  obtain ⟨hlt,e⟩:=List.getElem?_eq_some_iff.1 hi
  refine ⟨hlt,by simp [e],fun j hj=>?_⟩
  have:=h j hj
  rw [List.getElem?_eq_getElem (by omega)] at this
  simpa using this
 unfold fndI; rw [this]
theorem fnd_miss {l:List Int} {a:Int} (h:∀ j:Nat,j<l.length→l[j]?≠some a):fndI l a = -1:=by
 have:l.findIdx? (fun x=>decide (x=a))=none:=by
  rw [List.findIdx?_eq_none_iff]
  intro x hx
  obtain ⟨j,hj⟩:=List.mem_iff_getElem?.1 hx
  have:=h j (List.getElem?_eq_some_iff.1 hj).1
  rw [hj] at this
  simpa using this
 unfold fndI; rw [this]
abbrev idsN (ws:List ND):List Int:=ws.map (·.1.id)
def okN (ws:List ND):Prop:=∀ d∈ws,ND.ok d
theorem idsN_get {ws:List ND} {i:Nat} {d:ND} (h:ws[i]?=some d):(idsN ws)[i]?=some d.1.id:=by simp [idsN,h]
set_option maxHeartbeats 1000000 in
theorem find_tr (ws:List ND) (n:Nat) (hn:ws.length=n) (hb:n≤1000) (hk:okN ws) (a:Int):Tr Try.prog 9 [slB 0 n,.int .i64 a] [NB ws] (fun v K=>v=.int .i64 (fndI (idsN ws) a)∧K=[NB ws]):=by
 refine Tr.of row_tumbrelref21_Find_ok rfl ?_
 repeat' (first|refine qN ?_|refine dN ?_|refine dR ?_|refine d0 ?_|refine qB ?_|refine rT ?_|refine qT ?_|refine qU ?_|refine qL ?_|refine qK ?_|refine qF ?_|refine qE ?_|refine iF (fun h=>?_) (fun h=>?_)|refine aX ?_|refine aA ?_|refine aI (hn:=?_)|refine qR ?_|refine qS ?_|exact ⟨rfl,rfl⟩|fail)
 refine LWp.pick [1,7,8,9] [0] rfl rfl rfl (L_loop (fun q l L=>∃ i:Nat,q=n-i∧i≤n∧(∀ j:Nat,j<i→(idsN ws)[j]?≠some a)∧l=[(1,.int .i64 a),(7,slB 0 n),(8,.int .i64 n),(9,.int .i64 i)]∧L=[NB ws]) n ⟨0,rfl,by omega,fun j h=>by omega,rfl,rfl⟩ ?_)
 rintro q _ _ ⟨i,rfl,hi,hall,rfl,rfl⟩
 first|refine L_seq (L_rs (S_done [] rfl (Nx.goL (iF (fun h=>L_skip (Nx.goL ?_)) (fun h=>L_exit ?_)))))|refine L_rs (S_done [] rfl (Nx.goL (L_seq (iF (fun h=>L_skip (Nx.goL ?_)) (fun h=>L_exit ?_)))))
 ·have hin:i<n:=by omega
  obtain ⟨d,hd⟩:∃ d,ws[i]?=some d:=⟨_,List.getElem?_eq_getElem (by omega)⟩
  have hok:=hk d (List.mem_of_getElem? hd)
  have hg:=idsN_get hd
  by_cases he:d.1.id=a
  ·have e:=fnd_hit hall (by rw [hg,he])
   rw [e]
   repeat' (first|refine qN ?_|refine dN ?_|refine d0 ?_|refine qB ?_|refine qT ?_|refine qU ?_|refine qL ?_|refine qK ?_|refine qF ?_|refine qE ?_|refine iF (fun h=>?_) (fun h=>?_)|refine aX ?_|refine S_Q [] rfl rfl (QY.ldnN rfl rfl hd hok) ?_|refine aA ?_|refine aI (hn:=?_)|refine qR ?_|refine qS ?_|exact ⟨rfl,rfl⟩|fail)
   all_goals first | (exfalso; omega)|exact L_ret (RetQ.pick [0] rfl rfl rfl rfl ⟨rfl,rfl⟩)
  ·repeat' (first|refine qN ?_|refine dN ?_|refine dR ?_|refine d0 ?_|refine qB ?_|refine rT ?_|refine qT ?_|refine qU ?_|refine qL ?_|refine qK ?_|refine qF ?_|refine qE ?_|refine iF (fun h=>?_) (fun h=>?_)|refine aX ?_|refine S_Q [] rfl rfl (QY.ldnN rfl rfl hd hok) ?_|refine aA ?_|refine aI (hn:=?_)|refine qR ?_|refine qS ?_|exact ⟨rfl,rfl⟩|fail)
   all_goals first | (exfalso; omega)|exact Nx.pick [1,7,8,9] [0] rfl rfl rfl ⟨n-(i+1),by omega,i+1,rfl,by omega,(fun j hj=>by
    by_cases h2:j<i
    ·exact hall j h2
    ·obtain rfl:j=i:=by omega
     rw [hg]; simpa using he),rfl,rfl⟩
 ·refine Nx.goL ?_
  obtain rfl:i=n:=by omega
  have e:=fnd_miss (l:=idsN ws) (a:=a) (fun j hj=>hall j (by rw [List.length_map] at hj; omega))
  rw [e]
  repeat' (first|refine qN ?_|refine dN ?_|refine d0 ?_|refine qB ?_|refine qT ?_|refine qU ?_|refine qL ?_|refine qK ?_|refine qF ?_|refine qE ?_|refine iF (fun h=>?_) (fun h=>?_)|refine aX ?_|refine aA ?_|refine aI (hn:=?_)|refine qR ?_|refine qS ?_|exact ⟨rfl,rfl⟩|fail)
  exact L_ret (RetQ.pick [0] rfl rfl rfl rfl ⟨rfl,rfl⟩)
def insN (l:List IN) (d:IN):List IN:=l.filter (fun x=>decide (x.id<d.id))++d::l.filter fun x=>decide (d.id<x.id)
abbrev coN (ws:List ND):List IN:=ws.map (·.1)
theorem filt_take {l:List IN} {p:IN→Bool} {i:Nat} {x:IN} (h:l[i]?=some x):(l.take (i+1)).filter p=(l.take i).filter p++(if p x then [x] else []):=by
 rw [List.take_add_one,h,List.filter_append]
 congr 1
 simp only [Option.toList_some,List.filter_cons,List.filter_nil]
theorem filt_len {l:List IN} {p:IN→Bool} (i:Nat):((l.take i).filter p).length≤l.length:=by
 have h1:=List.length_filter_le p (l.take i)
 have h2:(l.take i).length≤l.length:=by rw [List.length_take]; omega
 omega
theorem okN_snoc {ws:List ND} {e:ND} (h:okN ws) (he:ND.ok e):okN (ws++[e]):=fun d hd=>by
 rcases List.mem_append.1 hd with hd | hd
 ·exact h d hd
 ·rw [List.mem_singleton.1 hd]; exact he
set_option maxHeartbeats 4000000 in
theorem radd_tr (ws:List ND) (n:Nat) (hn:ws.length=n) (hb:n≤1000) (hk:okN ws) (d:IN):Tr Try.prog 20 [slB 0 n,.agg ⟨d.cells⟩] [NB ws] (fun v K=>∃ os:List ND,(coN os=insN (coN ws) d∧okN os)∧v=slB 1 os.length∧K=[NB ws,NB os]):=by
 refine Tr.of row_tumbrelref21_Add_ok rfl ?_
 have hcl:(coN ws).length=n:=by rw [List.length_map,hn]
 repeat' (first|refine qN ?_|refine dN ?_|refine dR ?_|refine d0 ?_|refine qB ?_|refine rT ?_|refine qT ?_|refine qU ?_|refine qL ?_|refine qK ?_|refine qF ?_|refine qE ?_|refine iF (fun h=>?_) (fun h=>?_)|refine aX ?_|refine aA ?_|refine aI (hn:=?_)|refine qR ?_|refine qS ?_|exact ⟨rfl,rfl⟩|fail)
 refine LWp.nilE 5 2 rfl ?_
 refine LWp.pick [0,3,5,10,11,12] [0,1,2] rfl rfl rfl (L_loop (fun q l L=>∃ (i:Nat) (os:List ND),q=n-i∧i≤n∧coN os=((coN ws).take i).filter (fun x=>decide (x.id<d.id))∧okN os∧l=[(0,slB 0 n),(3,pp 1),(5,slB 2 os.length),(10,slB 0 n),(11,.int .i64 n),(12,.int .i64 i)]∧L=[NB ws,.cells 0 d.cells,NB os]) n ⟨0,[],rfl,by omega,rfl,fun _ h=>(by cases h),rfl,rfl⟩ ?_)
 rintro q _ _ ⟨i,os,rfl,hi,hco,hko,rfl,rfl⟩
 first|refine L_seq (L_rs (S_done [] rfl (Nx.goL (iF (fun h=>L_skip (Nx.goL ?_)) (fun h=>L_exit ?_)))))|refine L_rs (S_done [] rfl (Nx.goL (L_seq (iF (fun h=>L_skip (Nx.goL ?_)) (fun h=>L_exit ?_)))))
 ·have hin:i<n:=by omega
  obtain ⟨x,hx⟩:∃ x,ws[i]?=some x:=⟨_,List.getElem?_eq_getElem (by omega)⟩
  have hok:=hk x (List.mem_of_getElem? hx)
  have hfs:=filt_take (l:=coN ws) (p:=fun y=>decide (y.id<d.id)) (i:=i) (x:=x.1) (by simp [coN,hx])
  have hol:os.length≤n:=by
   have:=filt_len (l:=coN ws) (p:=fun y=>decide (y.id<d.id)) i
   rw [← hco,List.length_map,hcl] at this; exact this
  rw [← hco] at hfs
  by_cases hlt:x.1.id<d.id
  ·rw [if_pos (by simpa using hlt)] at hfs
   have hbd:(2*(os.length+1)+2048)*32≤281474976710656:=by omega
   repeat' (first|refine qN ?_|refine dN ?_|refine dR ?_|refine d0 ?_|refine qB ?_|refine rT ?_|refine qT ?_|refine qU ?_|refine qL ?_|refine qK ?_|refine qF ?_|refine qE ?_|refine iF (fun h=>?_) (fun h=>?_)|refine aX ?_|refine S_Q [] rfl rfl (QY.ldnN rfl rfl hx hok) ?_|(refine S_E [] rfl rfl (EW.appN (bytes:=32) (d:=x.1) hko rfl (by kernel_rfl) rfl rfl rfl rfl rfl hbd) ?_; rintro _ _ ⟨e,he,rfl,rfl⟩; refine ⟨(by repeat' (first|exact trivial|refine ⟨⟨qsafe_ok (st:=[]) rfl,Sure.of rfl⟩,?_⟩|refine ⟨.inl rfl,?_⟩|refine ⟨.inr ⟨qsafe_ok (st:=[]) rfl,Sure.of rfl⟩,?_⟩|refine ⟨⟨qsafe_ok (st:=[]) rfl,Sure.slice (by omega)⟩,?_⟩|refine ⟨.inr ⟨qsafe_ok (st:=[]) rfl,Sure.slice (by omega)⟩,?_⟩|refine ⟨.inr ⟨QY.neqB rfl (by kernel_rfl) rfl rfl,Sure.of rfl⟩,?_⟩|refine ⟨.inr ⟨QY.eqlB rfl (by kernel_rfl) rfl rfl,Sure.of rfl⟩,?_⟩ | fail)),LSt.nf ?_⟩; conv=>whnf)|refine aA ?_|refine aI (hn:=?_)|refine qR ?_|refine qS ?_|exact ⟨rfl,rfl⟩|fail)
   all_goals first | (exfalso; omega) | skip
   exact Nx.pick [0,3,5,10,11,12] [0,1,5] rfl rfl rfl ⟨n-(i+1),by omega,i+1,os++[e],rfl,by omega,by rw [hfs]; simp [coN,he.1],okN_snoc hko he.2,by simp only [List.length_append]; rfl,rfl⟩
  ·rw [if_neg (by simpa using hlt),List.append_nil] at hfs
   repeat' (first|refine qN ?_|refine dN ?_|refine dR ?_|refine d0 ?_|refine qB ?_|refine rT ?_|refine qT ?_|refine qU ?_|refine qL ?_|refine qK ?_|refine qF ?_|refine qE ?_|refine iF (fun h=>?_) (fun h=>?_)|refine aX ?_|refine S_Q [] rfl rfl (QY.ldnN rfl rfl hx hok) ?_|refine aA ?_|refine aI (hn:=?_)|refine qR ?_|refine qS ?_|exact ⟨rfl,rfl⟩|fail)
   all_goals first | (exfalso; omega) | skip
   exact Nx.pick [0,3,5,10,11,12] [0,1,2] rfl rfl rfl ⟨n-(i+1),by omega,i+1,os,rfl,by omega,hfs.symm,hko,rfl,rfl⟩
 ·refine Nx.goL ?_
  obtain rfl:i=n:=by omega
  rw [List.take_of_length_le (by omega)] at hco
  have hol:os.length≤i:=by
   have:=filt_len (l:=coN ws) (p:=fun y=>decide (y.id<d.id)) i
   rw [List.take_of_length_le (by omega),← hco,List.length_map,hcl] at this; exact this
  have hbd:(2*(os.length+1)+2048)*32≤281474976710656:=by omega
  repeat' (first|refine qN ?_|refine dN ?_|refine dR ?_|refine d0 ?_|refine qB ?_|refine rT ?_|refine qT ?_|refine qU ?_|refine qL ?_|refine qK ?_|refine qF ?_|refine qE ?_|refine iF (fun h=>?_) (fun h=>?_)|refine aX ?_|(refine S_E [] rfl rfl (EW.appN (bytes:=32) (d:=d) hko rfl (by kernel_rfl) rfl rfl rfl rfl rfl hbd) ?_; rintro _ _ ⟨e,he,rfl,rfl⟩; refine ⟨(by repeat' (first|exact trivial|refine ⟨⟨qsafe_ok (st:=[]) rfl,Sure.of rfl⟩,?_⟩|refine ⟨.inl rfl,?_⟩|refine ⟨.inr ⟨qsafe_ok (st:=[]) rfl,Sure.of rfl⟩,?_⟩|refine ⟨⟨qsafe_ok (st:=[]) rfl,Sure.slice (by omega)⟩,?_⟩|refine ⟨.inr ⟨qsafe_ok (st:=[]) rfl,Sure.slice (by omega)⟩,?_⟩|refine ⟨.inr ⟨QY.neqB rfl (by kernel_rfl) rfl rfl,Sure.of rfl⟩,?_⟩|refine ⟨.inr ⟨QY.eqlB rfl (by kernel_rfl) rfl rfl,Sure.of rfl⟩,?_⟩ | fail)),LSt.nf ?_⟩; conv=>whnf)|refine aA ?_|refine aI (hn:=?_)|refine qR ?_|refine qS ?_|exact ⟨rfl,rfl⟩|fail)
  refine LWp.pick [0,3,5,30,31,32] [0,1,4] rfl rfl rfl (L_loop (fun q l L=>∃ (j:Nat) (os:List ND),q=i-j∧j≤i∧coN os=(coN ws).filter (fun x=>decide (x.id<d.id))++d::((coN ws).take j).filter (fun x=>decide (d.id<x.id))∧okN os∧l=[(0,slB 0 i),(3,pp 1),(5,slB 2 os.length),(30,slB 0 i),(31,.int .i64 i),(32,.int .i64 j)]∧L=[NB ws,.cells 0 d.cells,NB os]) i ⟨0,os++[e],rfl,by omega,by simp [coN,he.1,hco],okN_snoc hko he.2,by simp only [List.length_append]; rfl,rfl⟩ ?_)
  clear hco hko hol hbd he e os
  rintro q _ _ ⟨j,os,rfl,hj,hco,hko,rfl,rfl⟩
  first|refine L_seq (L_rs (S_done [] rfl (Nx.goL (iF (fun h=>L_skip (Nx.goL ?_)) (fun h=>L_exit ?_)))))|refine L_rs (S_done [] rfl (Nx.goL (L_seq (iF (fun h=>L_skip (Nx.goL ?_)) (fun h=>L_exit ?_)))))
  ·have hin:j<i:=by omega
   obtain ⟨x,hx⟩:∃ x,ws[j]?=some x:=⟨_,List.getElem?_eq_getElem (by omega)⟩
   have hok:=hk x (List.mem_of_getElem? hx)
   have hfs:=filt_take (l:=coN ws) (p:=fun y=>decide (d.id<y.id)) (i:=j) (x:=x.1) (by simp [coN,hx])
   have hol:os.length≤i+1+i:=by
    have h1:=filt_len (l:=coN ws) (p:=fun y=>decide (d.id<y.id)) j
    have h2:=List.length_filter_le (fun y=>decide (y.id<d.id)) (coN ws)
    have h3:=congrArg List.length hco
    rw [List.length_append,List.length_cons,List.length_map] at h3
    rw [hcl] at h1 h2
    omega
   by_cases hlt:d.id<x.1.id
   ·rw [if_pos (by simpa using hlt)] at hfs
    have hgt:x.1.id > d.id:=hlt
    have hbd:(2*(os.length+1)+2048)*32≤281474976710656:=by omega
    repeat' (first|refine qN ?_|refine dN ?_|refine dR ?_|refine d0 ?_|refine qB ?_|refine rT ?_|refine qT ?_|refine qU ?_|refine qL ?_|refine qK ?_|refine qF ?_|refine qE ?_|refine iF (fun h=>?_) (fun h=>?_)|refine aX ?_|refine S_Q [] rfl rfl (QY.ldnN rfl rfl hx hok) ?_|(refine S_E [] rfl rfl (EW.appN (bytes:=32) (d:=x.1) hko rfl (by kernel_rfl) rfl rfl rfl rfl rfl hbd) ?_; rintro _ _ ⟨e,he,rfl,rfl⟩; refine ⟨(by repeat' (first|exact trivial|refine ⟨⟨qsafe_ok (st:=[]) rfl,Sure.of rfl⟩,?_⟩|refine ⟨.inl rfl,?_⟩|refine ⟨.inr ⟨qsafe_ok (st:=[]) rfl,Sure.of rfl⟩,?_⟩|refine ⟨⟨qsafe_ok (st:=[]) rfl,Sure.slice (by omega)⟩,?_⟩|refine ⟨.inr ⟨qsafe_ok (st:=[]) rfl,Sure.slice (by omega)⟩,?_⟩|refine ⟨.inr ⟨QY.neqB rfl (by kernel_rfl) rfl rfl,Sure.of rfl⟩,?_⟩|refine ⟨.inr ⟨QY.eqlB rfl (by kernel_rfl) rfl rfl,Sure.of rfl⟩,?_⟩ | fail)),LSt.nf ?_⟩; conv=>whnf)|refine aA ?_|refine aI (hn:=?_)|refine qR ?_|refine qS ?_|exact ⟨rfl,rfl⟩|fail)
    all_goals first | (exfalso; omega) | skip
    exact Nx.pick [0,3,5,30,31,32] [0,1,5] rfl rfl rfl ⟨i-(j+1),by omega,j+1,os++[e],rfl,by omega,by rw [hfs]; simp [coN,he.1,hco],okN_snoc hko he.2,by simp only [List.length_append]; rfl,rfl⟩
   ·rw [if_neg (by simpa using hlt),List.append_nil] at hfs
    repeat' (first|refine qN ?_|refine dN ?_|refine dR ?_|refine d0 ?_|refine qB ?_|refine rT ?_|refine qT ?_|refine qU ?_|refine qL ?_|refine qK ?_|refine qF ?_|refine qE ?_|refine iF (fun h=>?_) (fun h=>?_)|refine aX ?_|refine S_Q [] rfl rfl (QY.ldnN rfl rfl hx hok) ?_|refine aA ?_|refine aI (hn:=?_)|refine qR ?_|refine qS ?_|exact ⟨rfl,rfl⟩|fail)
    all_goals first | (exfalso; omega) | skip
    exact Nx.pick [0,3,5,30,31,32] [0,1,2] rfl rfl rfl ⟨i-(j+1),by omega,j+1,os,rfl,by omega,by rw [hfs]; exact hco,hko,rfl,rfl⟩
  ·refine Nx.goL ?_
   obtain rfl:j=i:=by omega
   rw [List.take_of_length_le (by omega)] at hco
   repeat' (first|refine qN ?_|refine dN ?_|refine d0 ?_|refine qB ?_|refine qT ?_|refine qU ?_|refine qL ?_|refine qK ?_|refine qF ?_|refine qE ?_|refine iF (fun h=>?_) (fun h=>?_)|refine aX ?_|refine aA ?_|refine aI (hn:=?_)|refine qR ?_|refine qS ?_|exact ⟨rfl,rfl⟩|fail)
   exact L_ret (RetQ.pick [0,2] rfl rfl rfl rfl ⟨os,⟨hco,hko⟩,rfl,rfl⟩)
end Go.Proofs.Ythefbejopmbnbaa
end
section
namespace Go.Proofs.Ythefbejopmbnbaa
open Go Go.Tum
set_option maxRecDepth 4000
structure RN where
 id:Int
 b:Nat
 o:Nat
 n:Nat
 c:Nat
 xs:Nat→Int
def RN.cut (r:RN):IN:=⟨r.id,r.b,r.o,min r.n 8,r.c,(List.range (min r.n 8)).map r.xs⟩
def RIn (N:Nat) (F:Nat→List AV) (r:Nat→RN):Prop:=∀ i,i<N→∃ G:Nat→List AV,F i=[.v (.int .i64 (r i).id),.s ⟨(r i).b,(r i).o,none⟩ (r i).n (r i).c ((r i).n*1) (rowF 1 G)]∧(r i).n≤(r i).c∧∀ j,j<(r i).n→G j=[.v (.int .i64 ((r i).xs j))]
theorem InD_cut {N:Nat} {F:Nat→List AV} {r:Nat→RN} (h:RIn N F r) {i:Nat} (hi:i<N):InD N F (r i).cut:=by
 obtain ⟨G,h1,h2,h3⟩:=h i hi
 intro n0 hA
 refine IN.Ok.of (P:=Try.prog) (n0:=n0) (j:=0) (k:=0) (N:=N) (F:=F) (Fi:=G) (i:=i) (n:=(r i).n) (c:=(r i).c) hA hi (by rw [h1]; rfl) (by rw [h1]; rfl) (Nat.min_le_left ..) (by simp [RN.cut]) (fun j x hx=>?_)
 have hj:=(List.getElem?_eq_some_iff.1 hx).1
 simp only [RN.cut,List.length_map,List.length_range] at hj
 rw [h3 j (by omega)]
 simp only [RN.cut,List.getElem?_map,List.getElem?_range hj,Option.map_some,Option.some.injEq] at hx
 rw [hx]
def ndL (r:Nat→RN):Nat→List IN
 | 0=>[]
 | m+1=>insN (ndL r m) (r m).cut
structure MD (es:List GE) (l:List IN) (m:Nat):Prop where
 el:es.length≤m
 ll:l.length≤m
 e8:∀ e∈es,e.xs.length≤8
 l8:∀ d∈l,d.n≤8∧d.xs.length=d.n
 so:l.Pairwise (fun a b=>a.id<b.id)
 nd:(es.map (·.id)).Nodup
 eq:∀ id:Int,(gfe es id).map (·.xs)=(l.find? fun d=>decide (d.id=id)).map (·.xs)
theorem gfe_put (es:List GE) (e:GE) (c:Nat) (a:Int):(gfe (gputE es e c).1 a).map (·.xs)=if a=e.id then some e.xs else (gfe es a).map (·.xs):=by
 unfold gputE
 cases hq:gfe es e.id with
 | none =>
  simp only [gfe,List.find?_append,List.find?_singleton]
  by_cases h:a=e.id
  ·subst h
   have:es.find? (fun x=>decide (x.id=e.id))=none:=hq
   simp [this]
  ·have h':¬ e.id=a:=fun q=>h q.symm
   simp [h,h']
 | some x =>
  simp only [gfe,List.find?_map]
  have e1:((fun y:GE=>decide (y.id=a)) ∘ fun y:GE=>if y.id=e.id then { e with born:=y.born } else y)=fun y:GE=>decide (y.id=a):=by
   funext y
   simp only [Function.comp]
   split
   ·rename_i h; rw [← h]
   ·rfl
  rw [e1]
  by_cases h:a=e.id
  ·subst h
   have:es.find? (fun y=>decide (y.id=e.id))=some x:=hq
   rw [this]
   have hx:=(gfe_some hq).2
   simp [hx]
  ·rw [if_neg h]
   cases hq2:es.find? (fun y=>decide (y.id=a)) with
   | none=>rfl
   | some y =>
    have hy:y.id=a:=by simpa using List.find?_some hq2
    simp [hy,h]
theorem insN_find (l:List IN) (d:IN) (a:Int):(insN l d).find? (fun x=>decide (x.id=a))=if a=d.id then some d else l.find? fun x=>decide (x.id=a):=by
 unfold insN
 rw [List.find?_append,List.find?_filter,List.find?_cons,List.find?_filter]
 by_cases h:a=d.id
 ·subst h
  have:l.find? (fun x=>decide (decide (x.id<d.id)=true∧decide (x.id=d.id)=true))=none:=by
   rw [List.find?_eq_none]; intro x _; simp; omega
  rw [this]; simp
 ·have h':¬ d.id=a:=fun q=>h q.symm
  rw [if_neg h]
  simp only [h',decide_false]
  by_cases hlt:a<d.id
  ·have e1:(fun x:IN=>decide (decide (x.id<d.id)=true∧decide (x.id=a)=true))=fun x=>decide (x.id=a):=by
    funext x; simp only [decide_eq_true_eq,decide_eq_decide]; omega
   have e2:l.find? (fun x=>decide (decide (d.id<x.id)=true∧decide (x.id=a)=true))=none:=by
    rw [List.find?_eq_none]; intro x _; simp; omega
   rw [e1,e2,Option.or_none]
  ·have e1:(fun x:IN=>decide (decide (d.id<x.id)=true∧decide (x.id=a)=true))=fun x=>decide (x.id=a):=by
    funext x; simp only [decide_eq_true_eq,decide_eq_decide]; omega
   have e2:l.find? (fun x=>decide (decide (x.id<d.id)=true∧decide (x.id=a)=true))=none:=by
    rw [List.find?_eq_none]; intro x _; simp; omega
   rw [e1,e2,Option.none_or]
theorem insN_len (l:List IN) (d:IN):(insN l d).length≤l.length+1:=by
 unfold insN
 rw [List.length_append,List.length_cons]
 have:∀ l:List IN,(l.filter fun x=>decide (x.id<d.id)).length+(l.filter fun x=>decide (d.id<x.id)).length≤l.length:=by
  intro l
  induction l with
  | nil=>exact Nat.le_refl _
  | cons a r ih =>
   simp only [List.filter_cons,decide_eq_true_eq]
   by_cases h1:a.id<d.id
   ·rw [if_pos h1,if_neg (by omega)]; simp only [List.length_cons]; omega
   ·rw [if_neg h1]
    split
    ·simp only [List.length_cons]; omega
    ·simp only [List.length_cons]; omega
 have:=this l
 omega
theorem insN_so {l:List IN} {d:IN} (h:l.Pairwise (fun a b=>a.id<b.id)):(insN l d).Pairwise (fun a b=>a.id<b.id):=by
 unfold insN
 rw [List.pairwise_append,List.pairwise_cons]
 refine ⟨h.sublist List.filter_sublist,⟨fun x hx=>?_,h.sublist List.filter_sublist⟩,fun x hx y hy=>?_⟩
 ·simpa using (List.mem_filter.1 hx).2
 ·have h1:x.id<d.id:=by simpa using (List.mem_filter.1 hx).2
  rcases List.mem_cons.1 hy with rfl | hy
  ·exact h1
  ·have h2:d.id<y.id:=by simpa using (List.mem_filter.1 hy).2
   omega
theorem insN_mem {l:List IN} {d x:IN} (h:x∈insN l d):x∈l∨x=d:=by
 unfold insN at h
 rcases List.mem_append.1 h with h | h
 ·exact .inl (List.mem_filter.1 h).1
 ·rcases List.mem_cons.1 h with h | h
  ·exact .inr h
  ·exact .inl (List.mem_filter.1 h).1
theorem gputE_len (es:List GE) (e:GE) (c:Nat):(gputE es e c).1.length≤es.length+1:=by
 unfold gputE
 split
 ·rw [List.length_map]; omega
 ·rw [List.length_append]; exact Nat.le_refl _
theorem gputE_nd {es:List GE} {e:GE} {c:Nat} (h:(es.map (·.id)).Nodup):((gputE es e c).1.map (·.id)).Nodup:=by
 unfold gputE
 cases hq:gfe es e.id with
 | some x =>
  simp only [List.map_map]
  have:(List.map ((fun y:GE=>y.id) ∘ fun y:GE=>if y.id=e.id then { e with born:=y.born } else y) es)=es.map (·.id):=by
   apply List.map_congr_left
   intro y _
   simp only [Function.comp]
   split
   ·rename_i h1; exact h1.symm
   ·rfl
  rw [this]; exact h
 | none =>
  simp only [List.map_append,List.map_cons,List.map_nil]
  rw [List.nodup_append]
  refine ⟨h,by simp,fun a ha b hb=>?_⟩
  simp at hb
  subst hb
  rintro rfl
  obtain ⟨y,hy,e1⟩:=List.mem_map.1 ha
  exact gfe_none hq y hy e1
theorem MD.zero:MD [] [] 0:=⟨Nat.le_refl _,Nat.le_refl _,fun _ h=>(by cases h),fun _ h=>(by cases h),List.Pairwise.nil,List.nodup_nil,fun _=>rfl⟩
theorem MD.step {es:List GE} {l:List IN} {m:Nat} (h:MD es l m) {e:GE} {d:IN} (c:Nat) (h1:e.id=d.id) (h2:e.xs=d.xs) (h3:d.n≤8∧d.xs.length=d.n):MD (gputE es e c).1 (insN l d) (m+1):=by
 refine ⟨?_,?_,fun x hx=>?_,fun x hx=>?_,insN_so h.so,gputE_nd h.nd,fun a=>?_⟩
 ·have:=gputE_len es e c; have:=h.el; omega
 ·have:=insN_len l d; have:=h.ll; omega
 ·rcases gputE_mem hx with hx | ⟨b,rfl⟩
  ·exact h.e8 x hx
  ·show e.xs.length≤8; rw [h2]; omega
 ·rcases insN_mem hx with hx | rfl
  ·exact h.l8 x hx
  ·exact h3
 ·rw [gfe_put,insN_find,h1,h2]
  by_cases ha:a=d.id
  ·rw [if_pos ha,if_pos ha]; rfl
  ·rw [if_neg ha,if_neg ha]; exact h.eq a
theorem ndL_mem {N:Nat} {F:Nat→List AV} {r:Nat→RN} (h:RIn N F r):∀ (m:Nat),m≤N→∀ d∈ndL r m,InD N F d
 | 0,_,d,hd=>by cases hd
 | m+1,hm,d,hd=>by
  rcases insN_mem hd with hd | rfl
  ·exact ndL_mem h m (by omega) d hd
  ·exact InD_cut h (by omega)
end Go.Proofs.Ythefbejopmbnbaa
end
section
namespace Go.Proofs.Ythefbejopmbnbaa
open Go Go.Tum
set_option maxRecDepth 4000
structure MX where
 b0:Nat
 es:List GE
 c:Nat
 ws:List ND
structure MO (r:Nat→RN) (m:Nat) (x:MX):Prop where
 md:MD x.es (ndL r m) m
 co:coN x.ws=ndL r m
 ok:okN x.ws
abbrev MB (x:MX):LH:=[.dead,gM 2,gB x.b0 x.es x.c,NB x.ws]
theorem RN.cut_le {r:RN} (h:¬ r.n > 8):r.cut=⟨r.id,r.b,r.o,r.n,r.c,(List.range r.n).map r.xs⟩:=by
 unfold RN.cut; rw [show min r.n 8=r.n by omega]
theorem RN.cut_gt {r:RN} (h:r.n > 8):r.cut=⟨r.id,r.b,r.o,8,r.c,(List.range 8).map r.xs⟩:=by
 unfold RN.cut; rw [show min r.n 8=8 by omega]
theorem RN.cut_ok (r:RN):r.cut.n≤8∧r.cut.xs.length=r.cut.n:=⟨Nat.min_le_right ..,by simp [RN.cut]⟩
theorem hd00 {N:Nat} {F:Nat→List AV} {φ keep:List Nat} (h:φ[0]?=some 0) (hk:inL 0 keep=true):handed φ keep (AF N F) (AF N F):=by
 intro y hy
 cases List.mem_singleton.1 hy
 exact ⟨hk,0,h,List.mem_singleton.2 rfl⟩
theorem ldRN {n0:NA} {L:LH} {l:Env} {x:Operand} {i N b o n c m:Nat} {F:Nat→List AV} {a:Int} {g:Nat→AV} (hx:lv l x=some (.pointer (some ⟨0,i*2,none⟩))) (hA:n0.A=AF N F) (hi:i<N) (e:F i=[.v (.int .i64 a),.s ⟨b,o,none⟩ n c m g]):QY Try.prog n0 L l (.ldn x 2) (.agg ⟨[.int .i64 a,.slice (some ⟨b,o,some 0⟩) n c]⟩):=by
 have:=QY.rowF (P:=Try.prog) (n0:=n0) (L:=L) (l:=l) (sz:=2) (n:=N) (j:=0) (F:=F) i hx (by rw [hA]; rfl) rfl hi (by rw [e]; rfl) (by rw [e]; rfl)
 rw [e] at this; exact this
set_option maxHeartbeats 4000000 in
theorem made_tr (N:Nat) (hN:N≤9223372036854775807) (F:Nat→List AV) (r:Nat→RN) (hr:RIn N F r) :
  TrK Try.prog (AF N F) [0] 7 [slB 0 N] [.dead] (fun v K=>∃ x:MX,MO r (min N 14) x∧v=.tuple ⟨[pp 1,slB 3 x.ws.length]⟩∧K=MB x):=by
 have hG:=gNew_tr
 refine Tr.of row_tumbrellaw21_made_ok rfl ?_
 repeat' (first|refine qN ?_|refine dN ?_|refine dR ?_|refine d0 ?_|refine qB ?_|refine rT ?_|refine qT ?_|refine qU ?_|refine qL ?_|refine qK ?_|refine qF ?_|refine qE ?_|refine iF (fun h=>?_) (fun h=>?_)|refine aX ?_|(refine cX [] hG (fun b0 _=>?_); conv=>whnf)|refine aA ?_|refine aI (hn:=?_)|refine qR ?_|refine qS ?_|exact ⟨rfl,rfl⟩|fail)
 refine LWp.nilE 5 2 rfl ?_
 refine LWp.pick [4,5,9,10,11] [0,1,2,3] rfl rfl rfl (L_loop (fun q l L=>∃ (i:Nat) (x:MX),q=N-i∧i≤N∧i≤14∧MO r i x∧l=[(4,pp 1),(5,slB 3 x.ws.length),(9,slB 0 N),(10,.int .i64 N),(11,.int .i64 i)]∧L=MB x) N ⟨0,⟨b0,[],0,[]⟩,rfl,by omega,by omega,⟨MD.zero,rfl,fun _ h=>(by cases h)⟩,rfl,rfl⟩ ?_)
 clear hG
 rintro q _ _ ⟨i,⟨b0,es,c,ws⟩,rfl,hi,hi14,hM,rfl,rfl⟩
 have hD:=hM.md
 have hwl:ws.length≤14:=by
  have h1:=hD.ll
  rw [← hM.co,List.length_map] at h1
  simp only at h1
  omega
 first|refine L_seq (L_rs (S_done [] rfl (Nx.goL (iF (fun h=>L_skip (Nx.goL ?_)) (fun h=>L_exit ?_)))))|refine L_rs (S_done [] rfl (Nx.goL (L_seq (iF (fun h=>L_skip (Nx.goL ?_)) (fun h=>L_exit ?_)))))
 ·have hin:i<N:=by omega
  by_cases h14:i=14
  ·subst h14
   rw [show min N 14=14 by omega]
   obtain ⟨G,e,hnc,hGx⟩:=hr 14 hin
   repeat' (first|refine qN ?_|refine dN ?_|refine d0 ?_|refine qB ?_|refine qT ?_|refine qU ?_|refine qL ?_|refine qK ?_|refine qF ?_|refine qE ?_|refine iF (fun h=>?_) (fun h=>?_)|refine aX ?_|refine S_Q [] rfl rfl (ldRN rfl rfl hin e) ?_|refine aA ?_|refine aI (hn:=?_)|refine qR ?_|refine qS ?_|exact ⟨rfl,rfl⟩|fail)
   all_goals first | (exfalso; omega)|exact L_ret (RetQ.pick [0,1,2,3] rfl rfl rfl rfl ⟨⟨b0,es,c,ws⟩,hM,rfl,rfl⟩)
  ·obtain ⟨G,e,hnc,hGx⟩:=hr i hin
   have hA:=gAddN_tr N F (r i).cut (InD_cut hr hin) (by have:=(r i).cut_ok.1; omega) b0 c es
   have hR:=radd_tr ws ws.length rfl (by omega) hM.ok (r i).cut
   have hk:=(r i).cut_ok
   by_cases h8:(r i).n > 8
   ·have hst:ndL r (i+1)=insN (ndL r i) ⟨(r i).id,(r i).b,(r i).o,8,(r i).c,(List.range 8).map (r i).xs⟩:=by rw [ndL,RN.cut_gt h8]
    rw [RN.cut_gt h8] at hk
    rw [RN.cut_gt h8] at hA hR
    repeat' (first|refine qN ?_|refine dN ?_|refine dR ?_|refine d0 ?_|refine qB ?_|refine rT ?_|refine qT ?_|refine qU ?_|refine qL ?_|refine qK ?_|refine qF ?_|refine qE ?_|refine iF (fun h=>?_) (fun h=>?_)|refine aX ?_|refine S_Q [] rfl rfl (ldRN rfl rfl hin e) ?_|refine S_Q [] rfl rfl (QY.slcR (hi':=8) rfl rfl (by omega)) ?_|(refine cXA [0,1,2] hA (hd00 rfl rfl) (fun ge he=>?_); conv=>whnf)|(refine cX [3] hR (fun os hos=>?_); conv=>whnf)|refine aA ?_|refine aI (hn:=?_)|refine qR ?_|refine qS ?_|exact ⟨rfl,rfl⟩|fail)
    all_goals first | (exfalso; omega) | skip
    have hco:coN os=ndL r (i+1):=by rw [hst,hos.1]; exact congrArg (insN · _) hM.co
    exact Nx.pick [4,5,9,10,11] [0,1,2,5] rfl rfl rfl ⟨N-(i+1),by omega,i+1,⟨b0,(gputE es ge c).1,(gputE es ge c).2,os⟩,rfl,by omega,by omega,⟨by rw [hst]; exact hD.step c he.1 he.2 hk,hco,hos.2⟩,rfl,rfl⟩
   ·have hst:ndL r (i+1)=insN (ndL r i) ⟨(r i).id,(r i).b,(r i).o,(r i).n,(r i).c,(List.range (r i).n).map (r i).xs⟩:=by rw [ndL,RN.cut_le h8]
    rw [RN.cut_le h8] at hk
    rw [RN.cut_le h8] at hA hR
    repeat' (first|refine qN ?_|refine dN ?_|refine dR ?_|refine d0 ?_|refine qB ?_|refine rT ?_|refine qT ?_|refine qU ?_|refine qL ?_|refine qK ?_|refine qF ?_|refine qE ?_|refine iF (fun h=>?_) (fun h=>?_)|refine aX ?_|refine S_Q [] rfl rfl (ldRN rfl rfl hin e) ?_|(refine cXA [0,1,2] hA (hd00 rfl rfl) (fun ge he=>?_); conv=>whnf)|(refine cX [3] hR (fun os hos=>?_); conv=>whnf)|refine aA ?_|refine aI (hn:=?_)|refine qR ?_|refine qS ?_|exact ⟨rfl,rfl⟩|fail)
    all_goals first | (exfalso; omega) | skip
    have hco:coN os=ndL r (i+1):=by rw [hst,hos.1]; exact congrArg (insN · _) hM.co
    exact Nx.pick [4,5,9,10,11] [0,1,2,5] rfl rfl rfl ⟨N-(i+1),by omega,i+1,⟨b0,(gputE es ge c).1,(gputE es ge c).2,os⟩,rfl,by omega,by omega,⟨by rw [hst]; exact hD.step c he.1 he.2 hk,hco,hos.2⟩,rfl,rfl⟩
 ·refine Nx.goL ?_
  rw [show min N 14=i by omega]
  repeat' (first|refine qN ?_|refine dN ?_|refine d0 ?_|refine qB ?_|refine qT ?_|refine qU ?_|refine qL ?_|refine qK ?_|refine qF ?_|refine qE ?_|refine iF (fun h=>?_) (fun h=>?_)|refine aX ?_|refine aA ?_|refine aI (hn:=?_)|refine qR ?_|refine qS ?_|exact ⟨rfl,rfl⟩|fail)
  exact L_ret (RetQ.pick [0,1,2,3] rfl rfl rfl rfl ⟨⟨b0,es,c,ws⟩,hM,rfl,rfl⟩)
end Go.Proofs.Ythefbejopmbnbaa
end
section
namespace Go.Proofs.Ythefbejopmbnbaa
open Go Go.Tum
set_option maxRecDepth 4000
abbrev BB (o:List Bool):LB:=.gro 1 (rowsC boolC o)
theorem fnd_cases (l:List Int) (a:Int):fndI l a = -1∨∃ i:Nat,i<l.length∧fndI l a=i∧l[i]?=some a:=by
 unfold fndI
 cases h:l.findIdx? (fun x=>decide (x=a)) with
 | none=>exact .inl rfl
 | some i =>
  right
  rw [List.findIdx?_eq_some_iff_getElem] at h
  obtain ⟨h1,h2,_⟩:=h
  exact ⟨i,h1,rfl,by rw [List.getElem?_eq_getElem h1]; simpa using h2⟩
def setB (ids:List Int) (o:List Bool) (a:Int):List Bool:=if 0≤fndI ids a then o.set (fndI ids a).toNat true else o
theorem setB_len (ids:List Int) (o:List Bool) (a:Int):(setB ids o a).length=o.length:=by unfold setB; split <;> simp
def w0B (ids roots:List Int):List Bool:=roots.foldl (setB ids) (List.replicate ids.length false)
def stepB (ids:List Int) (b:Bool) (p:List Bool) (a:Int):List Bool:=if b then setB ids p a else p
def nodeB (l:List IN) (o:List Bool) (p:List Bool) (i:Nat):List Bool:=((l.getD i default).xs).foldl (stepB (l.map (·.id)) (o.getD i false)) p
def w1B (l:List IN) (o:List Bool):List Bool:=(List.range l.length).foldl (nodeB l o) o
def wB (l:List IN) (roots:List Int):Nat→List Bool
 | 0=>w0B (l.map (·.id)) roots
 | k+1=>w1B l (wB l roots k)
theorem foldB_len (ids:List Int):∀ (r:List Int) (o:List Bool),(r.foldl (setB ids) o).length=o.length
 | [],_=>rfl
 | a::r,o=>by rw [List.foldl_cons,foldB_len ids r,setB_len]
theorem stepB_len (ids:List Int) (b:Bool):∀ (r:List Int) (o:List Bool),(r.foldl (stepB ids b) o).length=o.length
 | [],_=>rfl
 | a::r,o=>by
  rw [List.foldl_cons,stepB_len ids b r]
  unfold stepB; split
  ·exact setB_len ..
  ·rfl
theorem nodesB_len (l:List IN) (o:List Bool):∀ (r:List Nat) (p:List Bool),(r.foldl (nodeB l o) p).length=p.length
 | [],_=>rfl
 | a::r,p=>by
  rw [List.foldl_cons,nodesB_len l o r]
  exact stepB_len ..
theorem wB_len (l:List IN) (roots:List Int):∀ k,(wB l roots k).length=l.length
 | 0=>by rw [wB,w0B,foldB_len]; simp
 | k+1=>by rw [wB,w1B,nodesB_len,wB_len l roots k]
theorem fold_take {α β:Type} {f:β→α→β} {b:β} {l:List α} {i:Nat} {a:α} (h:l[i]?=some a):(l.take (i+1)).foldl f b=f ((l.take i).foldl f b) a:=by
 rw [List.take_add_one,h,List.foldl_append]; rfl
theorem range_take_fold {β:Type} {f:β→Nat→β} {b:β} (i:Nat):(List.range (i+1)).foldl f b=f ((List.range i).foldl f b) i:=by
 rw [List.range_succ,List.foldl_append]; rfl
set_option maxHeartbeats 4000000 in
theorem withinA_tr (N:Nat) (F:Nat→List AV) (ws:List ND) (nw:Nat) (hnw:ws.length=nw) (hb:nw≤20) (hk:okN ws) (hin:∀ d∈ws,InD N F d.1) (hl8:∀ d∈ws,d.1.n≤8) (roots:List Int) (m:Nat) (hm:m≤1000) (cc m2:Nat) (xs:List Int) (hxm:xs.length≤m2) (hsub:∀ (i:Nat) (x:Int),roots[i]?=some x→xs[i]?=some x) (hr:roots.length=m) (n:Nat) (hn:n≤1000) :
  TrK Try.prog (AF N F++[(2,m2,rowI xs)]) [0,1,2] 10 [slB 1 nw,slC 2 m cc,.int .i64 n] [.dead,NB ws,.dead] (fun v K=>v=slB 3 nw∧K=[.dead,NB ws,.dead,BB (wB (coN ws) roots n)]):=by
 have hids:(coN ws).map (·.id)=idsN ws:=by simp [coN]
 have hil:(idsN ws).length=nw:=by rw [List.length_map,hnw]
 have hcl:(coN ws).length=nw:=by rw [List.length_map,hnw]
 have hw0:wB (coN ws) roots 0=roots.foldl (setB (idsN ws)) (List.replicate nw false):=by show w0B _ _=_; rw [hids,w0B,hil]
 refine Tr.of row_tumbrelref21_Within_ok rfl ?_
 repeat' (first|refine qN ?_|refine dN ?_|refine dR ?_|refine d0 ?_|refine qB ?_|refine rT ?_|refine qT ?_|refine qU ?_|refine qL ?_|refine qK ?_|refine qF ?_|refine qE ?_|refine iF (fun h=>?_) (fun h=>?_)|refine aX ?_|refine aA ?_|refine aI (hn:=?_)|refine sP 65 (fun h=>?_) (fun h=>?_)|refine qR ?_|refine qS ?_|exact ⟨rfl,rfl⟩|fail)
 first|refine L_rs ?_|refine L_reg ?_ | skip
 refine eE rfl rfl (EW.mk (sz:=1) (bytes:=1) (k:=nw) (zs:=boolC false) rfl (by kernel_rfl) rfl rfl (by omega) (by omega)) ?_
 conv=>whnf
 rw [repC_rows false]
 repeat' (first|refine qN ?_|refine dN ?_|refine dR ?_|refine d0 ?_|refine qB ?_|refine rT ?_|refine qT ?_|refine qU ?_|refine qL ?_|refine qK ?_|refine qF ?_|refine qE ?_|refine iF (fun h=>?_) (fun h=>?_)|refine aX ?_|refine aA ?_|refine aI (hn:=?_)|refine sP 65 (fun h=>?_) (fun h=>?_)|refine qR ?_|refine qS ?_|exact ⟨rfl,rfl⟩|fail)
 refine LWp.pick [0,2,7,21,22,23] [0,1,2,3] rfl rfl rfl (L_loop (fun q l L=>∃ (i:Nat) (o:List Bool),q=m-i∧i≤m∧o=(roots.take i).foldl (setB (idsN ws)) (List.replicate nw false)∧l=[(0,slB 1 nw),(2,.int .i64 n),(7,slB 3 nw),(21,slC 2 m cc),(22,.int .i64 m),(23,.int .i64 i)]∧L=[.dead,NB ws,.dead,BB o]) m ⟨0,_,rfl,by omega,rfl,rfl,rfl⟩ ?_)
 rintro q _ _ ⟨i,o,rfl,hi,ho,rfl,rfl⟩
 have hol:o.length=nw:=by rw [ho,foldB_len,List.length_replicate]
 first|refine L_seq (L_rs (S_done [] rfl (Nx.goL (iF (fun h=>L_skip (Nx.goL ?_)) (fun h=>L_exit ?_)))))|refine L_rs (S_done [] rfl (Nx.goL (L_seq (iF (fun h=>L_skip (Nx.goL ?_)) (fun h=>L_exit ?_)))))
 ·have him:i<m:=by omega
  obtain ⟨id,hid⟩:∃ id,roots[i]?=some id:=⟨_,List.getElem?_eq_getElem (by omega)⟩
  
  have hs:=fold_take (f:=setB (idsN ws)) (b:=List.replicate nw false) hid
  rw [← ho] at hs
  have hF:=find_tr ws nw hnw (by omega) hk id
  rcases fnd_cases (idsN ws) id with h1 | ⟨j,hj,h1,_⟩
  ·have e:setB (idsN ws) o id=o:=by unfold setB; rw [h1]; rfl
   rw [e] at hs
   rw [h1] at hF
   repeat' (first|refine qN ?_|refine dN ?_|refine dR ?_|refine d0 ?_|refine qB ?_|refine rT ?_|refine qT ?_|refine qU ?_|refine qL ?_|refine qK ?_|refine qF ?_|refine qE ?_|refine iF (fun h=>?_) (fun h=>?_)|refine aX ?_|refine S_Q [] rfl rfl (ldAI rfl (j:=1) rfl hxm (hsub _ _ hid)) ?_|refine cP [1] (hF) ?_|refine aA ?_|refine aI (hn:=?_)|refine sP 65 (fun h=>?_) (fun h=>?_)|refine qR ?_|refine qS ?_|exact ⟨rfl,rfl⟩|fail)
   all_goals first | (exfalso; omega) | skip
   exact Nx.pick [0,2,7,21,22,23] [0,1,2,3] rfl rfl rfl ⟨m-(i+1),by omega,i+1,o,rfl,by omega,hs.symm,rfl,rfl⟩
  ·rw [hil] at hj
   have e:setB (idsN ws) o id=o.set j true:=by unfold setB; rw [h1,if_pos (by omega)]; rfl
   rw [e] at hs
   rw [h1] at hF
   repeat' (first|refine qN ?_|refine dN ?_|refine dR ?_|refine d0 ?_|refine qB ?_|refine rT ?_|refine qT ?_|refine qU ?_|refine qL ?_|refine qK ?_|refine qF ?_|refine qE ?_|refine iF (fun h=>?_) (fun h=>?_)|refine aX ?_|refine S_Q [] rfl rfl (ldAI rfl (j:=1) rfl hxm (hsub _ _ hid)) ?_|refine cP [1] (hF) ?_|refine S_Q [] rfl rfl (QY.idxN (k:=j) rfl rfl (by omega)) ?_|(refine eE rfl rfl (EW.stB (k:=j) rfl rfl rfl (by omega)) ?_; conv=>whnf)|refine aA ?_|refine aI (hn:=?_)|refine sP 65 (fun h=>?_) (fun h=>?_)|refine qR ?_|refine qS ?_|exact ⟨rfl,rfl⟩|fail)
   all_goals first | (exfalso; omega) | skip
   exact Nx.pick [0,2,7,21,22,23] [0,1,2,3] rfl rfl rfl ⟨m-(i+1),by omega,i+1,o.set j true,rfl,by omega,hs.symm,rfl,rfl⟩
 ·refine Nx.goL ?_
  obtain rfl:i=m:=by omega
  rw [List.take_of_length_le (by omega),← hw0] at ho
  repeat' (first|refine qN ?_|refine dN ?_|refine dR ?_|refine d0 ?_|refine qB ?_|refine rT ?_|refine qT ?_|refine qU ?_|refine qL ?_|refine qK ?_|refine qF ?_|refine qE ?_|refine iF (fun h=>?_) (fun h=>?_)|refine aX ?_|refine aA ?_|refine aI (hn:=?_)|refine sP 65 (fun h=>?_) (fun h=>?_)|refine qR ?_|refine qS ?_|exact ⟨rfl,rfl⟩|fail)
  refine LWp.pick [0,2,7,11] [0,1,2,3] rfl rfl rfl (L_loop (fun q l L=>∃ k:Nat,q=n-k∧k≤n∧l=[(0,slB 1 nw),(2,.int .i64 n),(7,slB 3 nw),(11,.int .i64 k)]∧L=[.dead,NB ws,.dead,BB (wB (coN ws) roots k)]) n ⟨0,rfl,by omega,rfl,by rw [← ho]; rfl⟩ ?_)
  clear ho hol o
  rintro q _ _ ⟨k,rfl,hkn,rfl,rfl⟩
  have hol:(wB (coN ws) roots k).length=nw:=by rw [wB_len,hcl]
  have hws:wB (coN ws) roots (k+1)=w1B (coN ws) (wB (coN ws) roots k):=rfl
  generalize hoe:wB (coN ws) roots k=o at *
  have htk:o.take nw=o:=List.take_of_length_le (by omega)
  first|refine L_seq (L_rs (S_done [] rfl (Nx.goL (iF (fun h=>L_skip (Nx.goL ?_)) (fun h=>L_exit ?_)))))|refine L_rs (S_done [] rfl (Nx.goL (L_seq (iF (fun h=>L_skip (Nx.goL ?_)) (fun h=>L_exit ?_)))))
  ·have hkn2:k<n:=by omega
   repeat' (first|refine qN ?_|refine dN ?_|refine dR ?_|refine d0 ?_|refine qB ?_|refine rT ?_|refine qT ?_|refine qU ?_|refine qL ?_|refine qK ?_|refine qF ?_|refine qE ?_|refine iF (fun h=>?_) (fun h=>?_)|refine aX ?_|(refine eE rfl rfl (EW.cpy0 (bytes:=1) (i:=0) o boolC_ok rfl (by kernel_rfl) rfl rfl rfl rfl rfl (by omega) htk (by decide) (by omega)) ?_; conv=>whnf)|refine aA ?_|refine aI (hn:=?_)|refine sP 65 (fun h=>?_) (fun h=>?_)|refine qR ?_|refine qS ?_|exact ⟨rfl,rfl⟩|fail)
   refine LWp.pick [0,2,7,11,12,44,45,46] [0,1,2,3,5] rfl rfl rfl (L_loop (fun q l L=>∃ (i:Nat) (p:List Bool),q=nw-i∧i≤nw∧p=(List.range i).foldl (nodeB (coN ws) o) o∧l=[(0,slB 1 nw),(2,.int .i64 n),(7,slB 3 nw),(11,.int .i64 k),(12,slB 4 nw),(44,slB 1 nw),(45,.int .i64 nw),(46,.int .i64 i)]∧L=[.dead,NB ws,.dead,BB o,BB p]) nw ⟨0,_,rfl,by omega,rfl,rfl,rfl⟩ ?_)
   rintro q _ _ ⟨i,p,rfl,hi,hp,rfl,rfl⟩
   have hpl:p.length=nw:=by rw [hp,nodesB_len,hol]
   first|refine L_seq (L_rs (S_done [] rfl (Nx.goL (iF (fun h=>L_skip (Nx.goL ?_)) (fun h=>L_exit ?_)))))|refine L_rs (S_done [] rfl (Nx.goL (L_seq (iF (fun h=>L_skip (Nx.goL ?_)) (fun h=>L_exit ?_)))))
   ·have hin2:i<nw:=by omega
    obtain ⟨x,hx⟩:∃ x,ws[i]?=some x:=⟨_,List.getElem?_eq_getElem (by omega)⟩
    have hxm:=List.mem_of_getElem? hx
    have hok:=hk x hxm
    have hD:=hin x hxm
    have hx8:=hl8 x hxm
    have hxl:=(hD ⟨0,AF N F,[]⟩ rfl).1
    obtain ⟨b,hob⟩:∃ b,o[i]?=some b:=⟨_,List.getElem?_eq_getElem (by omega)⟩
    have hrs:=range_take_fold (f:=nodeB (coN ws) o) (b:=o) i
    rw [← hp] at hrs
    have hnd:nodeB (coN ws) o p i=x.1.xs.foldl (stepB (idsN ws) b) p:=by
     unfold nodeB
     rw [hids]
     congr 1
     ·congr 1; rw [List.getD_eq_getElem?_getD,hob]; rfl
     ·rw [List.getD_eq_getElem?_getD]; simp [coN,hx]
    rw [hnd] at hrs
    repeat' (first|refine qN ?_|refine dN ?_|refine dR ?_|refine d0 ?_|refine qB ?_|refine rT ?_|refine qT ?_|refine qU ?_|refine qL ?_|refine qK ?_|refine qF ?_|refine qE ?_|refine iF (fun h=>?_) (fun h=>?_)|refine aX ?_|refine S_Q [] rfl rfl (QY.ldnN rfl rfl hx hok) ?_|refine aA ?_|refine aI (hn:=?_)|refine sP 65 (fun h=>?_) (fun h=>?_)|refine qR ?_|refine qS ?_|exact ⟨rfl,rfl⟩|fail)
    refine LWp.pick [0,2,7,11,12,13,44,45,46,52,53,54] [0,1,2,3,4] rfl rfl rfl (L_loop (fun q l L=>∃ (j:Nat) (p':List Bool),q=x.1.n-j∧j≤x.1.n∧p'=(x.1.xs.take j).foldl (stepB (idsN ws) b) p∧l=[(0,slB 1 nw),(2,.int .i64 n),(7,slB 3 nw),(11,.int .i64 k),(12,slB 4 nw),(13,.int .i64 i),(44,slB 1 nw),(45,.int .i64 nw),(46,.int .i64 i),(52,.slice (some ⟨x.1.b,x.1.o,some 0⟩) x.1.n x.1.c),(53,.int .i64 x.1.n),(54,.int .i64 j)]∧L=[.dead,NB ws,.dead,BB o,BB p']) x.1.n ⟨0,_,rfl,by omega,rfl,rfl,rfl⟩ ?_)
    rintro q _ _ ⟨j,p',rfl,hj,hp',rfl,rfl⟩
    have hpl':p'.length=nw:=by rw [hp',stepB_len,hpl]
    first|refine L_seq (L_rs (S_done [] rfl (Nx.goL (iF (fun h=>L_skip (Nx.goL ?_)) (fun h=>L_exit ?_)))))|refine L_rs (S_done [] rfl (Nx.goL (L_seq (iF (fun h=>L_skip (Nx.goL ?_)) (fun h=>L_exit ?_)))))
    ·have hjn:j<x.1.n:=by omega
     obtain ⟨id,hid⟩:∃ id,x.1.xs[j]?=some id:=⟨_,List.getElem?_eq_getElem (by omega)⟩
     have hs:=fold_take (f:=stepB (idsN ws) b) (b:=p) hid
     rw [← hp'] at hs
     have hF:=find_tr ws nw hnw (by omega) hk id
     rcases fnd_cases (idsN ws) id with h1 | ⟨t,ht,h1,_⟩
     ·have e:stepB (idsN ws) b p' id=p':=by unfold stepB setB; rw [h1]; simp
      rw [e] at hs
      rw [h1] at hF
      cases b
      all_goals
       repeat' (first|refine qN ?_|refine dN ?_|refine dR ?_|refine d0 ?_|refine qB ?_|refine rT ?_|refine qT ?_|refine qU ?_|refine qL ?_|refine qK ?_|refine qF ?_|refine qE ?_|refine iF (fun h=>?_) (fun h=>?_)|refine aX ?_|refine S_Q [] rfl rfl (QY.idxR (k:=j) rfl rfl (by omega)) ?_|refine S_Q [] rfl rfl (QY.ldIN (hD _ rfl) rfl rfl hid) ?_|refine cP [1] (hF) ?_|refine S_Q [] rfl rfl (QY.ldB rfl rfl hob) ?_|refine aA ?_|refine aI (hn:=?_)|refine sP 65 (fun h=>?_) (fun h=>?_)|refine qR ?_|refine qS ?_|exact ⟨rfl,rfl⟩|fail)
       all_goals first | (exfalso; omega) | skip
       exact Nx.pick [0,2,7,11,12,13,44,45,46,52,53,54] [0,1,2,3,4] rfl rfl rfl ⟨x.1.n-(j+1),by omega,j+1,p',rfl,by omega,hs.symm,rfl,rfl⟩
     ·rw [hil] at ht
      rw [h1] at hF
      cases b
      ·have e:stepB (idsN ws) false p' id=p':=rfl
       rw [e] at hs
       repeat' (first|refine qN ?_|refine dN ?_|refine dR ?_|refine d0 ?_|refine qB ?_|refine rT ?_|refine qT ?_|refine qU ?_|refine qL ?_|refine qK ?_|refine qF ?_|refine qE ?_|refine iF (fun h=>?_) (fun h=>?_)|refine aX ?_|refine S_Q [] rfl rfl (QY.idxR (k:=j) rfl rfl (by omega)) ?_|refine S_Q [] rfl rfl (QY.ldIN (hD _ rfl) rfl rfl hid) ?_|refine cP [1] (hF) ?_|refine S_Q [] rfl rfl (QY.ldB rfl rfl hob) ?_|refine aA ?_|refine aI (hn:=?_)|refine sP 65 (fun h=>?_) (fun h=>?_)|refine qR ?_|refine qS ?_|exact ⟨rfl,rfl⟩|fail)
       all_goals first | (exfalso; omega) | skip
       exact Nx.pick [0,2,7,11,12,13,44,45,46,52,53,54] [0,1,2,3,4] rfl rfl rfl ⟨x.1.n-(j+1),by omega,j+1,p',rfl,by omega,hs.symm,rfl,rfl⟩
      ·have e:stepB (idsN ws) true p' id=p'.set t true:=by unfold stepB setB; rw [h1,if_pos rfl,if_pos (by omega)]; rfl
       rw [e] at hs
       repeat' (first|refine qN ?_|refine dN ?_|refine dR ?_|refine d0 ?_|refine qB ?_|refine rT ?_|refine qT ?_|refine qU ?_|refine qL ?_|refine qK ?_|refine qF ?_|refine qE ?_|refine iF (fun h=>?_) (fun h=>?_)|refine aX ?_|refine S_Q [] rfl rfl (QY.idxR (k:=j) rfl rfl (by omega)) ?_|refine S_Q [] rfl rfl (QY.ldIN (hD _ rfl) rfl rfl hid) ?_|refine cP [1] (hF) ?_|refine S_Q [] rfl rfl (QY.ldB rfl rfl hob) ?_|refine S_Q [] rfl rfl (QY.idxN (k:=t) rfl rfl (by omega)) ?_|(refine eE rfl rfl (EW.stB (k:=t) rfl rfl rfl (by omega)) ?_; conv=>whnf)|refine aA ?_|refine aI (hn:=?_)|refine sP 65 (fun h=>?_) (fun h=>?_)|refine qR ?_|refine qS ?_|exact ⟨rfl,rfl⟩|fail)
       all_goals first | (exfalso; omega) | skip
       exact Nx.pick [0,2,7,11,12,13,44,45,46,52,53,54] [0,1,2,3,4] rfl rfl rfl ⟨x.1.n-(j+1),by omega,j+1,p'.set t true,rfl,by omega,hs.symm,rfl,rfl⟩
    ·refine Nx.goL ?_
     obtain rfl:j=x.1.n:=by omega
     rw [List.take_of_length_le (by omega)] at hp'
     repeat' (first|refine qN ?_|refine dN ?_|refine dR ?_|refine d0 ?_|refine qB ?_|refine rT ?_|refine qT ?_|refine qU ?_|refine qL ?_|refine qK ?_|refine qF ?_|refine qE ?_|refine iF (fun h=>?_) (fun h=>?_)|refine aX ?_|refine aA ?_|refine aI (hn:=?_)|refine sP 65 (fun h=>?_) (fun h=>?_)|refine qR ?_|refine qS ?_|exact ⟨rfl,rfl⟩|fail)
     exact Nx.pick [0,2,7,11,12,44,45,46] [0,1,2,3,4] rfl rfl rfl ⟨nw-(i+1),by omega,i+1,p',rfl,by omega,by rw [hrs,hp'],rfl,rfl⟩
   ·refine Nx.goL ?_
    obtain rfl:i=nw:=by omega
    have hfin:p=wB (coN ws) roots (k+1):=by rw [hws,w1B,hcl,hp]
    repeat' (first|refine qN ?_|refine dN ?_|refine dR ?_|refine d0 ?_|refine qB ?_|refine rT ?_|refine qT ?_|refine qU ?_|refine qL ?_|refine qK ?_|refine qF ?_|refine qE ?_|refine iF (fun h=>?_) (fun h=>?_)|refine aX ?_|refine aA ?_|refine aI (hn:=?_)|refine sP 65 (fun h=>?_) (fun h=>?_)|refine qR ?_|refine qS ?_|exact ⟨rfl,rfl⟩|fail)
    exact Nx.pick [0,2,7,11] [0,1,2,4] rfl rfl rfl ⟨n-(k+1),by omega,k+1,rfl,by omega,rfl,by rw [← hfin]; rfl⟩
  ·refine Nx.goL ?_
   obtain rfl:k=n:=by omega
   repeat' (first|refine qN ?_|refine dN ?_|refine d0 ?_|refine qB ?_|refine qT ?_|refine qU ?_|refine qL ?_|refine qK ?_|refine qF ?_|refine qE ?_|refine iF (fun h=>?_) (fun h=>?_)|refine aX ?_|refine aA ?_|refine aI (hn:=?_)|refine sP 65 (fun h=>?_) (fun h=>?_)|refine qR ?_|refine qS ?_|exact ⟨rfl,rfl⟩|fail)
   exact L_ret (RetQ.pick [0,1,2,3] rfl rfl rfl rfl ⟨rfl,by rw [hoe]; rfl⟩)
end Go.Proofs.Ythefbejopmbnbaa
end
section
namespace Go.Proofs.Ythefbejopmbnbaa
open Go Go.Tum
abbrev Gr:=Int→Option (List Int)
def RW (G:Gr) (roots:List Int):Nat→Int→Prop
 | 0,a=>a∈roots∧(G a).isSome
 | k+1,a=>RW G roots k a∨∃ x xs,RW G roots k x∧G x=some xs∧a∈xs∧(G a).isSome
theorem RW.some {G:Gr} {roots:List Int}:∀ {k:Nat} {a:Int},RW G roots k a→(G a).isSome
 | 0,_,h=>h.2
 | k+1,_,h=>by
  rcases h with h | ⟨_,_,_,_,_,h⟩
  ·exact h.some
  ·exact h
theorem RW.le {G:Gr} {roots:List Int} {k:Nat} {a:Int} (h:RW G roots k a):∀ {j:Nat},k≤j→RW G roots j a:=by
 intro j hj
 induction hj with
 | refl=>exact h
 | step _ ih=>exact .inl ih
abbrev gOf (es:List GE):Gr:=fun a=>(gfe es a).map (·.xs)
theorem ghas_iff {G:IMap} {a:Int}:ghas G a=true↔∃ x,gfind G a=Option.some x:=by
 unfold ghas
 cases gfind G a <;> simp
theorem fold_has {es:List GE} {k:Nat} {a:Int}:∀ (r:List Int) (s:IMap × List Int),ghas (r.foldl (stp es k) s).1 a=true↔ghas s.1 a=true∨(a∈r∧(gOf es a).isSome)
 | [],s=>by simp
 | y::r,s=>by
  rw [List.foldl_cons,fold_has r]
  have h1:ghas (stp es k s y).1 a=true↔ghas s.1 a=true∨(a=y∧(gOf es a).isSome):=by
   unfold stp
   cases hq:gfe es y with
   | none =>
    simp only
    constructor
    ·exact .inl
    ·rintro (h | ⟨rfl,h⟩)
     ·exact h
     ·simp [gOf,hq] at h
   | some e =>
    obtain ⟨_,hid⟩:=gfe_some hq
    simp only
    split
    ·rename_i hg
     constructor
     ·exact .inl
     ·rintro (h | ⟨rfl,_⟩)
      ·exact h
      ·exact hg
    ·rw [ghas_put]
     simp only [Bool.or_eq_true,decide_eq_true_eq]
     constructor
     ·rintro (h | h)
      ·exact .inl h
      ·exact .inr ⟨h,by subst h; simp [gOf,hq]⟩
     ·rintro (h | ⟨h,_⟩)
      ·exact .inl h
      ·exact .inr h
  rw [h1,List.mem_cons]
  constructor
  ·rintro ((h | ⟨h,h2⟩) | ⟨h,h2⟩)
   ·exact .inl h
   ·exact .inr ⟨.inl h,h2⟩
   ·exact .inr ⟨.inr h,h2⟩
  ·rintro (h | ⟨h | h,h2⟩)
   ·exact .inl (.inl h)
   ·exact .inl (.inr ⟨h,h2⟩)
   ·exact .inr ⟨h,h2⟩
theorem stp_old {es:List GE} {k:Nat} {a y:Int} {s:IMap × List Int} {v:Int × Int × Nat} (h:gfind s.1 a=some v):gfind (stp es k s y).1 a=some v:=by
 unfold stp
 cases hq:gfe es y with
 | none=>exact h
 | some e =>
  simp only
  split
  ·exact h
  ·simp only [gfind_put,h,Option.some_or]
theorem fold_old {es:List GE} {k:Nat} {a:Int} {v:Int × Int × Nat}:∀ (r:List Int) {s:IMap × List Int},gfind s.1 a=some v→gfind (r.foldl (stp es k) s).1 a=some v
 | [],_,h=>h
 | y::r,_,h=>fold_old r (stp_old h)
theorem fold_new {es:List GE} {k:Nat} {a:Int} {v:Int × Int × Nat}:∀ (r:List Int) {s:IMap × List Int},gfind s.1 a=none→gfind (r.foldl (stp es k) s).1 a=some v→v.2.1=k
 | [],s,h,h2=>by rw [List.foldl_nil,h] at h2; cases h2
 | y::r,s,h,h2=>by
  rw [List.foldl_cons] at h2
  by_cases hn:gfind (stp es k s y).1 a=none
  ·exact fold_new r hn h2
  ·obtain ⟨u,hu⟩:=Option.ne_none_iff_exists'.1 hn
   rw [fold_old r hu] at h2
   cases h2
   unfold stp at hu
   cases hq:gfe es y with
   | none=>rw [hq] at hu; simp only at hu; rw [h] at hu; cases hu
   | some e =>
    rw [hq] at hu
    simp only at hu
    split at hu
    ·rw [h] at hu; cases hu
    ·rw [gfind_put,h,Option.none_or] at hu
     split at hu
     ·cases hu; rfl
     ·cases hu
theorem fold_next {es:List GE} {k:Nat} {a:Int}:∀ (r:List Int) (s:IMap × List Int),a∈(r.foldl (stp es k) s).2↔a∈s.2∨∃ x∈r,∃ e,gfe es x=some e∧ghas s.1 x=false∧a∈e.xs
 | [],s=>by simp
 | y::r,s=>by
  rw [List.foldl_cons,fold_next r]
  cases hq:gfe es y with
  | none =>
   have e1:stp es k s y=s:=by unfold stp; rw [hq]
   rw [e1]
   constructor
   ·rintro (h | ⟨x,hx,h⟩)
    ·exact .inl h
    ·exact .inr ⟨x,List.mem_cons_of_mem _ hx,h⟩
   ·rintro (h | ⟨x,hx,e,h1,h2⟩)
    ·exact .inl h
    ·rcases List.mem_cons.1 hx with rfl | hx
     ·rw [hq] at h1; cases h1
     ·exact .inr ⟨x,hx,e,h1,h2⟩
  | some e =>
   obtain ⟨_,rfl⟩:=gfe_some hq
   cases hg:ghas s.1 e.id
   ·have e1:stp es k s e.id=(gput s.1 e.id k s.1.length,s.2++e.xs):=by unfold stp; rw [hq]; simp [hg]
    rw [e1]
    simp only [List.mem_append]
    constructor
    ·rintro ((h | h) | ⟨x,hx,e',h1,h2,h3⟩)
     ·exact .inl h
     ·exact .inr ⟨e.id,List.mem_cons_self ..,e,hq,hg,h⟩
     ·rw [ghas_put,Bool.or_eq_false_iff] at h2
      exact .inr ⟨x,List.mem_cons_of_mem _ hx,e',h1,h2.1,h3⟩
    ·rintro (h | ⟨x,hx,e',h1,h2,h3⟩)
     ·exact .inl (.inl h)
     ·by_cases hxe:x=e.id
      ·subst hxe
       rw [hq] at h1; cases h1
       exact .inl (.inr h3)
      ·rcases List.mem_cons.1 hx with h | hx
       ·exact absurd h hxe
       ·exact .inr ⟨x,hx,e',h1,by rw [ghas_put,h2]; simp [hxe],h3⟩
   ·have e1:stp es k s e.id=s:=by unfold stp; rw [hq]; simp [hg]
    rw [e1]
    constructor
    ·rintro (h | ⟨x,hx,h⟩)
     ·exact .inl h
     ·exact .inr ⟨x,List.mem_cons_of_mem _ hx,h⟩
    ·rintro (h | ⟨x,hx,e',h1,h2,h3⟩)
     ·exact .inl h
     ·rcases List.mem_cons.1 hx with rfl | hx
      ·rw [hg] at h2; cases h2
      ·exact .inr ⟨x,hx,e',h1,h2,h3⟩
structure PR (es:List GE) (roots:List Int) (k:Nat) (s:IMap × List Int):Prop where
 val:∀ a v,gfind s.1 a=some v→∃ j:Nat,j<k∧v.2.1=(j:Int)∧RW (gOf es) roots j a∧∀ i,i<j→¬ RW (gOf es) roots i a
 has:∀ a,ghas s.1 a=true↔∃ j,j<k∧RW (gOf es) roots j a
 nxt:∀ a∈s.2,(gOf es a).isSome→RW (gOf es) roots k a
 all:∀ a,RW (gOf es) roots k a→ghas s.1 a=true∨a∈s.2
theorem PR.zero (es:List GE) (roots:List Int):PR es roots 0 ([],roots) :=
 ⟨fun a v h=>(by cases h),fun a=>⟨fun h=>(by cases h),fun ⟨_,h,_⟩=>absurd h (Nat.not_lt_zero _)⟩,fun a ha h=>⟨ha,h⟩,fun a h=>.inr h.1⟩
theorem PR.step {es:List GE} {roots:List Int} {k:Nat} {out:IMap} {now:List Int} (h:PR es roots k (out,now)):PR es roots (k+1) (rnd es k out now):=by
 have hh:∀ a,ghas (rnd es k out now).1 a=true↔∃ j,j<k+1∧RW (gOf es) roots j a:=fun a=>by
  unfold rnd
  rw [fold_has]
  constructor
  ·rintro (h1 | ⟨h1,h2⟩)
   ·obtain ⟨j,hj,h3⟩:=(h.has a).1 h1
    exact ⟨j,by omega,h3⟩
   ·exact ⟨k,Nat.lt_succ_self _,h.nxt a h1 h2⟩
  ·rintro ⟨j,hj,h3⟩
   by_cases hjk:j<k
   ·exact .inl ((h.has a).2 ⟨j,hjk,h3⟩)
   ·obtain rfl:j=k:=by omega
    rcases h.all a h3 with h4 | h4
    ·exact .inl h4
    ·exact .inr ⟨h4,h3.some⟩
 refine ⟨fun a v hv=>?_,hh,fun a ha hs=>?_,fun a ha=>?_⟩
 ·by_cases ho:gfind out a=none
  ·have hk:=fold_new now (s:=(out,[])) ho hv
   have hn:¬ ghas out a=true:=by rw [ghas_iff,ho]; simp
   have h1:ghas (rnd es k out now).1 a=true:=ghas_iff.2 ⟨v,hv⟩
   obtain ⟨j,hj,h3⟩:=(hh a).1 h1
   have hjk:¬ j<k:=fun hjk=>hn ((h.has a).2 ⟨j,hjk,h3⟩)
   obtain rfl:j=k:=by omega
   exact ⟨j,by omega,hk,h3,fun i hi hw=>hn ((h.has a).2 ⟨i,hi,hw⟩)⟩
  ·obtain ⟨u,hu⟩:=Option.ne_none_iff_exists'.1 ho
   have:gfind (rnd es k out now).1 a=some u:=fold_old now hu
   rw [this] at hv; cases hv
   obtain ⟨j,hj,h1⟩:=h.val a _ hu
   exact ⟨j,by omega,h1⟩
 ·unfold rnd at ha
  rw [fold_next] at ha
  rcases ha with ha | ⟨x,hx,e,h1,h2,h3⟩
  ·cases ha
  ·exact .inr ⟨x,e.xs,h.nxt x hx (by simp [gOf,h1]),by simp [gOf,h1],h3,hs⟩
 ·rcases ha with ha | ⟨x,xs,hx,h1,h2,h3⟩
  ·exact .inl ((hh a).2 ⟨k,Nat.lt_succ_self _,ha⟩)
  ·rcases h.all x hx with h4 | h4
   ·obtain ⟨j,hj,h5⟩:=(h.has x).1 h4
    have h6:RW (gOf es) roots (j+1) a:=.inr ⟨x,xs,h5,h1,h2,h3⟩
    exact .inl ((hh a).2 ⟨j+1,by omega,h6⟩)
   ·cases hg:ghas out x
    ·right
     unfold rnd
     rw [fold_next]
     cases hq:gfe es x with
     | none=>simp [gOf,hq] at h1
     | some e =>
      simp [gOf,hq] at h1
      subst h1
      exact .inr ⟨x,h4,e,hq,hg,h2⟩
    ·obtain ⟨j,hj,h5⟩:=(h.has x).1 hg
     have h6:RW (gOf es) roots (j+1) a:=.inr ⟨x,xs,h5,h1,h2,h3⟩
     exact .inl ((hh a).2 ⟨j+1,by omega,h6⟩)
theorem PR.st (es:List GE) (roots:List Int):∀ k,PR es roots k (st es roots k)
 | 0=>PR.zero es roots
 | k+1=>(PR.st es roots k).step
theorem far_has {es:List GE} {roots:List Int} {a:Int}:ghas (farO es roots) a=true↔∃ j,RW (gOf es) roots j a:=by
 have hP:=PR.st es roots (stN es)
 have hE:=st_end (es:=es) (roots:=roots)
 unfold farO
 rw [hP.has]
 constructor
 ·rintro ⟨j,_,h⟩; exact ⟨j,h⟩
 ·have key:∀ j a,RW (gOf es) roots j a→∃ i,i<stN es∧RW (gOf es) roots i a:=by
   intro j
   induction j with
   | zero=>intro a h; exact ⟨0,by unfold stN; omega,h⟩
   | succ j ih =>
    intro a h
    rcases h with h | ⟨x,xs,h1,h2,h3,h4⟩
    ·exact ih a h
    ·obtain ⟨i,hi,h5⟩:=ih x h1
     have h6:RW (gOf es) roots (stN es) a:=RW.le (k:=i+1) (.inr ⟨x,xs,h5,h2,h3,h4⟩) (by omega)
     rcases hP.all a h6 with h7 | h7
     ·exact (hP.has a).1 h7
     ·rw [hE] at h7; cases h7
  rintro ⟨j,h⟩
  exact key j a h
end Go.Proofs.Ythefbejopmbnbaa
end
section
namespace Go.Proofs.Ythefbejopmbnbaa
open Go Go.Tum
abbrev TB (o:List Bool) (i:Nat):Prop:=o[i]?=some true
abbrev gLi (l:List IN):Gr:=fun a=>(l.find? fun d=>decide (d.id=a)).map (·.xs)
theorem fnd_iff {l:List Int} (hl:l.Nodup) {a:Int} {i:Nat}:fndI l a=(i:Int)↔l[i]?=some a:=by
 constructor
 ·intro h
  rcases fnd_cases l a with h1 | ⟨j,_,h1,h2⟩
  ·omega
  ·obtain rfl:j=i:=by omega
   exact h2
 ·intro h
  refine fnd_hit (fun j hj e=>?_) h
  rw [List.nodup_iff_pairwise_ne,List.pairwise_iff_getElem] at hl
  obtain ⟨h1,e1⟩:=List.getElem?_eq_some_iff.1 e
  obtain ⟨h2,e2⟩:=List.getElem?_eq_some_iff.1 h
  exact hl j i h1 h2 hj (e1.trans e2.symm)
theorem fnd_none {l:List Int} (hl:l.Nodup) {a:Int} (h:fndI l a = -1):a∉l:=fun hm=>by
 obtain ⟨i,hi⟩:=List.mem_iff_getElem?.1 hm
 have:=(fnd_iff hl).2 hi
 omega
theorem setB_T {ids:List Int} (hn:ids.Nodup) {o:List Bool} (ho:o.length=ids.length) {a:Int} {j:Nat}:TB (setB ids o a) j↔TB o j∨ids[j]?=some a:=by
 unfold setB TB
 rcases fnd_cases ids a with h1 | ⟨i,hi,h1,h2⟩
 ·rw [h1,if_neg (by decide)]
  constructor
  ·exact .inl
  ·rintro (h | h)
   ·exact h
   ·exact absurd (List.mem_of_getElem? h) (fnd_none hn h1)
 ·rw [h1,if_pos (by omega),show (i:Int).toNat=i from rfl,List.getElem?_set]
  by_cases hij:i=j
  ·subst hij
   rw [if_pos rfl,if_pos (by omega)]
   exact ⟨fun _=>.inr h2,fun _=>rfl⟩
  ·rw [if_neg hij]
   constructor
   ·exact .inl
   ·rintro (h | h)
    ·exact h
    ·have:=(fnd_iff hn).2 h
     omega
theorem foldB_T {ids:List Int} (hn:ids.Nodup) {j:Nat}:∀ (r:List Int) {o:List Bool},o.length=ids.length→(TB (r.foldl (setB ids) o) j↔TB o j∨∃ a∈r,ids[j]?=some a)
 | [],o,_=>by simp
 | x::r,o,ho=>by
  rw [List.foldl_cons,foldB_T hn r (by rw [setB_len]; exact ho),setB_T hn ho]
  simp only [List.mem_cons,exists_eq_or_imp,or_assoc]
theorem stepB_T {ids:List Int} (hn:ids.Nodup) {b:Bool} {j:Nat}:∀ (r:List Int) {p:List Bool},p.length=ids.length→(TB (r.foldl (stepB ids b) p) j↔TB p j∨(b=true∧∃ a∈r,ids[j]?=some a))
 | [],p,_=>by simp
 | x::r,p,hp=>by
  rw [List.foldl_cons]
  cases b
  ·have:=stepB_T hn (b:=false) (j:=j) r (p:=stepB ids false p x) hp
   rw [this]
   show TB p j∨_↔_
   simp
  ·have:=stepB_T hn (b:=true) (j:=j) r (p:=stepB ids true p x) (by show (setB ids p x).length=_; rw [setB_len]; exact hp)
   rw [this]
   show TB (setB ids p x) j∨_↔_
   rw [setB_T hn hp]
   simp only [true_and,List.mem_cons,exists_eq_or_imp,or_assoc]
theorem nodesB_T {l:List IN} (hn:(l.map (·.id)).Nodup) {o:List Bool} {j:Nat}:∀ (r:List Nat) {p:List Bool},p.length=l.length→(TB (r.foldl (nodeB l o) p) j↔TB p j∨∃ i∈r,o.getD i false=true∧∃ a∈(l.getD i default).xs,(l.map (·.id))[j]?=some a)
 | [],p,_=>by simp
 | x::r,p,hp=>by
  rw [List.foldl_cons,nodesB_T hn r (by unfold nodeB; rw [stepB_len]; exact hp)]
  unfold nodeB
  rw [stepB_T hn _ (by rw [List.length_map]; exact hp)]
  simp only [List.mem_cons,exists_eq_or_imp,or_assoc]
theorem find_at {l:List IN} (hn:(l.map (·.id)).Nodup) {i:Nat} {d:IN} (h:l[i]?=some d):gLi l d.id=some d.xs:=by
 have:l.find? (fun x=>decide (x.id=d.id))=some d:=by
  have hm:=List.mem_of_getElem? h
  cases hq:l.find? (fun x=>decide (x.id=d.id)) with
  | none =>
   have:=List.find?_eq_none.1 hq d hm
   simp at this
  | some y =>
   have h1:y.id=d.id:=by simpa using List.find?_some hq
   obtain ⟨k,hk⟩:=List.mem_iff_getElem?.1 (List.mem_of_find?_eq_some hq)
   have e1:(l.map (·.id))[k]?=some d.id:=by simp [hk,h1]
   have e2:(l.map (·.id))[i]?=some d.id:=by simp [h]
   have:=(fnd_iff hn).2 e1
   have:=(fnd_iff hn).2 e2
   obtain rfl:k=i:=by omega
   rw [h] at hk; cases hk; rfl
 simp [gLi,this]
theorem find_of {l:List IN} {x:Int} {xs:List Int} (h:gLi l x=some xs):∃ (i:Nat) (d:IN),l[i]?=some d∧d.id=x∧d.xs=xs:=by
 unfold gLi at h
 cases hq:l.find? (fun d=>decide (d.id=x)) with
 | none=>rw [hq] at h; cases h
 | some d =>
  rw [hq] at h; cases h
  obtain ⟨i,hi⟩:=List.mem_iff_getElem?.1 (List.mem_of_find?_eq_some hq)
  exact ⟨i,d,hi,by simpa using List.find?_some hq,rfl⟩
theorem wB_T {l:List IN} (hn:(l.map (·.id)).Nodup) (roots:List Int):∀ (k:Nat) {j:Nat} {d:IN},l[j]?=some d→(TB (wB l roots k) j↔RW (gLi l) roots k d.id)
 | 0,j,d,hj=>by
  have e:(l.map (·.id))[j]?=some d.id:=by simp [hj]
  show TB (w0B _ _) j↔_
  unfold w0B
  rw [foldB_T hn roots (by simp),e]
  constructor
  ·rintro (h | ⟨a,ha,h⟩)
   ·unfold TB at h
    rw [List.getElem?_replicate] at h
    split at h <;> cases h
   ·cases h
    exact ⟨ha,by rw [find_at hn hj]; rfl⟩
  ·rintro ⟨h,_⟩
   exact .inr ⟨d.id,h,rfl⟩
 | k+1,j,d,hj=>by
  have e:(l.map (·.id))[j]?=some d.id:=by simp [hj]
  have hl:=wB_len l roots k
  show TB (w1B l (wB l roots k)) j↔_
  unfold w1B
  rw [nodesB_T hn _ hl,e,wB_T hn roots k hj]
  constructor
  ·rintro (h | ⟨i,hi,h1,a,ha,h2⟩)
   ·exact .inl h
   ·cases h2
    have hi:i<l.length:=List.mem_range.1 hi
    have hd:l[i]?=some l[i]:=List.getElem?_eq_getElem hi
    have h3:TB (wB l roots k) i:=by
     unfold TB
     rw [List.getD_eq_getElem?_getD] at h1
     cases hq:(wB l roots k)[i]? with
     | none=>rw [hq] at h1; cases h1
     | some b=>rw [hq] at h1; simp at h1; rw [h1]
    rw [List.getD_eq_getElem?_getD,hd] at ha
    exact .inr ⟨l[i].id,l[i].xs,(wB_T hn roots k hd).1 h3,find_at hn hd,ha,by rw [find_at hn hj]; rfl⟩
  ·rintro (h | ⟨x,xs,h1,h2,h3,_⟩)
   ·exact .inl h
   ·obtain ⟨i,d',hi,rfl,rfl⟩:=find_of h2
    have h4:=(wB_T hn roots k hi).2 h1
    refine .inr ⟨i,List.mem_range.2 (List.getElem?_eq_some_iff.1 hi).1,?_,d.id,?_,rfl⟩
    ·rw [List.getD_eq_getElem?_getD]; unfold TB at h4; rw [h4]; rfl
    ·rw [List.getD_eq_getElem?_getD,hi]; exact h3
theorem wB_up {l:List IN} (hn:(l.map (·.id)).Nodup) (roots:List Int) (k:Nat) {j:Nat} (h:TB (wB l roots k) j):TB (wB l roots (k+1)) j:=by
 have hj:j<l.length:=by rw [← wB_len l roots k]; exact (List.getElem?_eq_some_iff.1 h).1
 have hd:l[j]?=some l[j]:=List.getElem?_eq_getElem hj
 exact (wB_T hn roots (k+1) hd).2 (.inl ((wB_T hn roots k hd).1 h))
abbrev cnt (o:List Bool):Nat:=o.count true
theorem cnt_lt:∀ {o p:List Bool},o.length=p.length→(∀ j,TB o j→TB p j)→o=p∨cnt o<cnt p
 | [],[],_,_=>.inl rfl
 | [],_::_,h,_=>by cases h
 | _::_,[],h,_=>by cases h
 | a::o,b::p,hl,h=>by
  have h0:=h 0
  have hr:=cnt_lt (o:=o) (p:=p) (by simpa using hl) fun j hj=>by
   have:=h (j+1)
   simpa [TB] using this (by simpa [TB] using hj)
  have hle:cnt o≤cnt p:=by
   rcases hr with rfl | h1
   ·exact Nat.le_refl _
   ·omega
  unfold cnt at *
  simp only [List.count_cons]
  cases a <;> cases b
  ·rcases hr with rfl | h1
   ·exact .inl rfl
   ·right; simpa using h1
  ·right
   simp
   omega
  ·simp [TB] at h0
  ·rcases hr with rfl | h1
   ·exact .inl rfl
   ·right; simpa using h1
theorem cnt_all {o:List Bool} (h:o.length≤cnt o) {j:Nat} (hj:j<o.length):TB o j:=by
 have h1:cnt o=o.length:=Nat.le_antisymm List.count_le_length h
 have h2:=List.count_eq_length.1 h1
 unfold TB
 rw [List.getElem?_eq_getElem hj,← h2 _ (List.getElem_mem hj)]
theorem wB_stay {l:List IN} {roots:List Int} {k:Nat} (h:wB l roots (k+1)=wB l roots k):∀ j,wB l roots (k+j)=wB l roots k
 | 0=>rfl
 | j+1=>by
  show w1B l (wB l roots (k+j))=_
  rw [wB_stay h j]; exact h
theorem wB_all {l:List IN} (hn:(l.map (·.id)).Nodup) (roots:List Int) (j:Nat) {i:Nat} (h:TB (wB l roots j) i):TB (wB l roots l.length) i:=by
 have hi:i<l.length:=by rw [← wB_len l roots j]; exact (List.getElem?_eq_some_iff.1 h).1
 have hup:∀ (b a:Nat),TB (wB l roots a) i→TB (wB l roots (a+b)) i:=fun b=>by
  induction b with
  | zero=>exact fun _ h=>h
  | succ b ih=>exact fun a h=>wB_up hn roots _ (ih a h)
 have key:∀ k,(∃ s,s<k∧wB l roots (s+1)=wB l roots s)∨k≤cnt (wB l roots k):=by
  intro k
  induction k with
  | zero=>exact .inr (Nat.zero_le _)
  | succ k ih =>
   rcases ih with ⟨s,hs,e⟩ | hk
   ·exact .inl ⟨s,by omega,e⟩
   ·rcases cnt_lt (o:=wB l roots k) (p:=wB l roots (k+1)) (by rw [wB_len,wB_len]) (fun _ h=>wB_up hn roots k h) with e | h1
    ·exact .inl ⟨k,Nat.lt_succ_self _,e.symm⟩
    ·exact .inr (by omega)
 rcases key l.length with ⟨s,hs,e⟩ | hc
 ·rcases Nat.le_total j s with hjs | hjs
  ·have:=hup (l.length-j) j h
   rwa [show j+(l.length-j)=l.length by omega] at this
  ·have e1:=wB_stay e (j-s)
   have e2:=wB_stay e (l.length-s)
   rw [show s+(j-s)=j by omega] at e1
   rw [show s+(l.length-s)=l.length by omega] at e2
   rw [e2,← e1]; exact h
 ·exact cnt_all (by rw [wB_len]; exact hc) (by rw [wB_len]; exact hi)
theorem so_nodup {l:List IN} (h:l.Pairwise (fun a b=>a.id<b.id)):(l.map (·.id)).Nodup:=by
 rw [List.nodup_iff_pairwise_ne,List.pairwise_map]
 exact h.imp fun h=>by omega
end Go.Proofs.Ythefbejopmbnbaa
end
section
namespace Go.Proofs.Ythefbejopmbnbaa
open Go Go.Tum
set_option maxRecDepth 4000
theorem cut_tr (m:Nat) (hm:m≤9223372036854775807):Tr Try.prog 13 [slB 0 m] [.dead] (fun v K=>v=slC 0 (min m 6) m∧K=[.dead]):=by
 refine Tr.of row_tumbrellaw21_cut_ok rfl ?_
 by_cases h6:m > 6
 ·rw [show min m 6=6 by omega]
  repeat' (first|refine qN ?_|refine dN ?_|refine d0 ?_|refine qT ?_|refine qU ?_|refine qL ?_|refine qK ?_|refine iF (fun h=>?_) (fun h=>?_)|refine S_Q [] rfl rfl (QY.slc0 (lo':=0) (hi':=6) rfl rfl rfl (by omega) (by omega)) ?_|refine aI (hn:=?_)|refine qR ?_|refine qS ?_|exact ⟨rfl,rfl⟩|fail)
  all_goals first | (exfalso; omega)|exact L_ret (RetQ.pick [0] rfl rfl rfl rfl ⟨rfl,rfl⟩)
 ·rw [show min m 6=m by omega]
  repeat' (first|refine qN ?_|refine dN ?_|refine d0 ?_|refine qT ?_|refine qU ?_|refine qL ?_|refine qK ?_|refine iF (fun h=>?_) (fun h=>?_)|refine aI (hn:=?_)|refine qR ?_|refine qS ?_|exact ⟨rfl,rfl⟩|fail)
  all_goals first | (exfalso; omega)|exact L_ret (RetQ.pick [0] rfl rfl rfl rfl ⟨rfl,rfl⟩)
theorem fromA_tr (b0 c:Nat) (es:List GE) (hes:es.length≤20) (hx8:∀ e∈es,e.xs.length≤8) (hw:wfE es) (roots:List Int) (n:Nat) (hn:n≤1000) (cc m:Nat) (xs:List Int) (hxm:xs.length≤m) (hsub:∀ (i:Nat) (x:Int),roots[i]?=some x→xs[i]?=some x) (hr:roots.length=n) :
  TrK Try.prog [(2,m,rowI xs)] [0,1,2] 12 [pp 0,slC 2 n cc] [gM 1,gB b0 es c,.dead] (fun v K=>v=slB 3 (farO es roots).length∧K=[gM 1,gB b0 es c,.dead,rI (keysO (farO es roots))]):=by
 have hF:=farA_tr b0 c es hes hx8 roots n hn cc m xs hxm hsub hr
 have h1:=farO_len es roots
 have h2:=farO_wf hw roots
 generalize farO es roots=out at *
 have hK:=keysI_tr out out.length
 refine Tr.of row_reach_Graph_From_ok rfl ?_
 repeat' (first|refine qN ?_|refine dN ?_|refine d0 ?_|(refine cAr [0,1,2] hF (fun y hy=>by cases List.mem_singleton.1 hy; exact ⟨rfl,2,rfl,List.mem_singleton.2 rfl⟩) ?_; conv=>whnf)|refine aI (hn:=?_)|refine qR ?_|refine qS ?_|exact ⟨rfl,rfl⟩|fail)
 refine cX [3] hK (fun i _=>?_)
 conv=>whnf
 have hS:=sortedI_tr out out.length h2 (by omega) i
 repeat' (first|refine qN ?_|refine dN ?_|refine d0 ?_|(refine cF [3,4] (hS) ?_; conv=>whnf)|refine aI (hn:=?_)|refine qR ?_|refine qS ?_|exact ⟨rfl,rfl⟩|fail)
 exact L_ret (RetQ.pick [0,1,2,5] rfl rfl rfl rfl ⟨rfl,rfl⟩)
def pickN (ids:List Int) (o:List Bool):Nat→List Int
 | 0=>[]
 | i+1=>pickN ids o i++(if o.getD i false then [ids.getD i 0] else [])
theorem pickN_len (ids:List Int) (o:List Bool):∀ i,(pickN ids o i).length≤i
 | 0=>Nat.le_refl _
 | i+1=>by
  have:=pickN_len ids o i
  rw [pickN,List.length_append]
  split
  ·simp only [List.length_singleton]; omega
  ·simp only [List.length_nil]; omega
theorem pickN_sub (ids:List Int) (o:List Bool):∀ i,i≤ids.length→(pickN ids o i).Sublist (ids.take i)
 | 0,_=>by simp [pickN]
 | i+1,h=>by
  rw [pickN,List.take_add_one]
  refine (pickN_sub ids o i (by omega)).append ?_
  rw [List.getElem?_eq_getElem (by omega:i<ids.length),List.getD_eq_getElem?_getD,List.getD_eq_getElem?_getD,List.getElem?_eq_getElem (by omega:i<ids.length)]
  split
  ·exact List.Sublist.refl _
  ·exact List.nil_sublist _
theorem pickN_mem {ids:List Int} {o:List Bool} {a:Int}:∀ i,i≤ids.length→(a∈pickN ids o i↔∃ j,j<i∧TB o j∧ids[j]?=some a)
 | 0,_=>by simp [pickN]
 | i+1,h=>by
  rw [pickN,List.mem_append,pickN_mem i (by omega)]
  have hd:ids[i]?=some (ids.getD i 0):=by rw [List.getD_eq_getElem?_getD,List.getElem?_eq_getElem (by omega:i<ids.length)]; rfl
  constructor
  ·rintro (⟨j,h1,h2⟩ | h1)
   ·exact ⟨j,by omega,h2⟩
   ·split at h1
    ·rename_i hb
     rw [List.mem_singleton] at h1
     refine ⟨i,Nat.lt_succ_self _,?_,by rw [hd,h1]⟩
     unfold TB
     rw [List.getD_eq_getElem?_getD] at hb
     cases hq:o[i]? with
     | none=>rw [hq] at hb; cases hb
     | some b=>rw [hq] at hb; simp at hb; rw [hb]
    ·cases h1
  ·rintro ⟨j,h1,h2,h3⟩
   by_cases hj:j<i
   ·exact .inl ⟨j,hj,h2,h3⟩
   ·obtain rfl:j=i:=by omega
    right
    rw [if_pos (by rw [List.getD_eq_getElem?_getD]; unfold TB at h2; rw [h2]; rfl)]
    rw [hd] at h3; cases h3
    exact List.mem_singleton.2 rfl
set_option maxHeartbeats 1000000 in
theorem picked_tr (ws:List ND) (n:Nat) (hn:ws.length=n) (hb:n≤1000) (hk:okN ws) (o:List Bool) (ho:o.length=n):Tr Try.prog 15 [slB 0 n,slB 1 n] [NB ws,BB o] (fun v K=>v=slB 2 (pickN (idsN ws) o n).length∧K=[NB ws,BB o,rI (pickN (idsN ws) o n)]):=by
 refine Tr.of row_tumbrellaw21_picked_ok rfl ?_
 repeat' (first|refine qN ?_|refine dN ?_|refine dR ?_|refine d0 ?_|refine qB ?_|refine rT ?_|refine qT ?_|refine qU ?_|refine qL ?_|refine qK ?_|refine qF ?_|refine qE ?_|refine iF (fun h=>?_) (fun h=>?_)|refine aX ?_|refine aA ?_|refine aI (hn:=?_)|refine qR ?_|refine qS ?_|exact ⟨rfl,rfl⟩|fail)
 refine LWp.nilE 5 1 rfl ?_
 refine LWp.pick [1,5,8,9,10] [0,1,2] rfl rfl rfl (L_loop (fun q l L=>∃ i:Nat,q=n-i∧i≤n∧l=[(1,slB 1 n),(5,slB 2 (pickN (idsN ws) o i).length),(8,slB 0 n),(9,.int .i64 n),(10,.int .i64 i)]∧L=[NB ws,BB o,rI (pickN (idsN ws) o i)]) n ⟨0,rfl,by omega,rfl,rfl⟩ ?_)
 rintro q _ _ ⟨i,rfl,hi,rfl,rfl⟩
 have hpl:=pickN_len (idsN ws) o i
 first|refine L_seq (L_rs (S_done [] rfl (Nx.goL (iF (fun h=>L_skip (Nx.goL ?_)) (fun h=>L_exit ?_)))))|refine L_rs (S_done [] rfl (Nx.goL (L_seq (iF (fun h=>L_skip (Nx.goL ?_)) (fun h=>L_exit ?_)))))
 ·have hin:i<n:=by omega
  obtain ⟨d,hd⟩:∃ d,ws[i]?=some d:=⟨_,List.getElem?_eq_getElem (by omega)⟩
  obtain ⟨b,hob⟩:∃ b,o[i]?=some b:=⟨_,List.getElem?_eq_getElem (by omega)⟩
  have hok:=hk d (List.mem_of_getElem? hd)
  have hs:pickN (idsN ws) o (i+1)=pickN (idsN ws) o i++(if b then [d.1.id] else []):=by
   rw [pickN,List.getD_eq_getElem?_getD,hob,List.getD_eq_getElem?_getD,idsN_get hd]; rfl
  generalize pickN (idsN ws) o i=p at *
  cases b
  ·rw [if_neg (by decide),List.append_nil] at hs
   repeat' (first|refine qN ?_|refine dN ?_|refine dR ?_|refine d0 ?_|refine qB ?_|refine rT ?_|refine qT ?_|refine qU ?_|refine qL ?_|refine qK ?_|refine qF ?_|refine qE ?_|refine iF (fun h=>?_) (fun h=>?_)|refine aX ?_|refine S_Q [] rfl rfl (QY.ldnN rfl rfl hd hok) ?_|refine S_Q [] rfl rfl (QY.ldB rfl rfl hob) ?_|refine aA ?_|refine aI (hn:=?_)|refine qR ?_|refine qS ?_|exact ⟨rfl,rfl⟩|fail)
   all_goals first | (exfalso; omega)|exact Nx.pick [1,5,8,9,10] [0,1,2] rfl rfl rfl ⟨n-(i+1),by omega,i+1,rfl,by omega,by rw [hs]; rfl,by rw [hs]; rfl⟩
  ·rw [if_pos rfl] at hs
   repeat' (first|refine qN ?_|refine dN ?_|refine dR ?_|refine d0 ?_|refine qB ?_|refine rT ?_|refine qT ?_|refine qU ?_|refine qL ?_|refine qK ?_|refine qF ?_|refine qE ?_|refine iF (fun h=>?_) (fun h=>?_)|refine aX ?_|refine S_Q [] rfl rfl (QY.ldnN rfl rfl hd hok) ?_|refine S_Q [] rfl rfl (QY.ldB rfl rfl hob) ?_|(refine eE rfl rfl (EW.appR1 (bytes:=8) (xs:=p) (a:=d.1.id) intC_ok rfl (by kernel_rfl) rfl rfl rfl rfl rfl (by omega)) ?_; conv=>whnf)|refine aA ?_|refine aI (hn:=?_)|refine qR ?_|refine qS ?_|exact ⟨rfl,rfl⟩|fail)
   all_goals first | (exfalso; omega)|exact Nx.pick [1,5,8,9,10] [0,1,5] rfl rfl rfl ⟨n-(i+1),by omega,i+1,rfl,by omega,by rw [hs,List.length_append]; rfl,by rw [hs]; rfl⟩
 ·refine Nx.goL ?_
  obtain rfl:i=n:=by omega
  repeat' (first|refine qN ?_|refine dN ?_|refine d0 ?_|refine qB ?_|refine qT ?_|refine qU ?_|refine qL ?_|refine qK ?_|refine qF ?_|refine qE ?_|refine iF (fun h=>?_) (fun h=>?_)|refine aX ?_|refine aA ?_|refine aI (hn:=?_)|refine qR ?_|refine qS ?_|exact ⟨rfl,rfl⟩|fail)
  exact L_ret (RetQ.pick [0,1,2] rfl rfl rfl rfl ⟨rfl,rfl⟩)
theorem sorted_ext {p q:List Int} (hp:p.Pairwise (· < ·)) (hq:q.Pairwise (· < ·)) (h:∀ a,a∈p↔a∈q):p=q:=by
 have n1:p.Nodup:=List.nodup_iff_pairwise_ne.2 (hp.imp fun h=>by omega)
 have n2:q.Nodup:=List.nodup_iff_pairwise_ne.2 (hq.imp fun h=>by omega)
 refine ((List.perm_ext_iff_of_nodup n1 n2).2 h).eq_of_pairwise (le:=fun a b:Int=>a<b) (fun a b _ _ h1 h2=>?_) hp hq
 omega
structure NK (o:IMap):Prop where
 nd:(o.map (·.1)).Nodup
theorem NK.step {es:List GE} {k:Nat} {s:IMap × List Int} (h:NK s.1) (id:Int):NK (stp es k s id).1:=by
 unfold stp
 cases hq:gfe es id with
 | none=>exact h
 | some e =>
  obtain ⟨_,rfl⟩:=gfe_some hq
  simp only
  split
  ·exact h
  ·rename_i hg
   refine ⟨?_⟩
   show ((s.1++[(e.id,(k:Int),s.1.length)]).map (·.1)).Nodup
   rw [List.map_append,List.nodup_append]
   refine ⟨h.nd,by simp,fun a ha b hb=>?_⟩
   simp at hb
   subst hb
   rintro rfl
   obtain ⟨x,hx,e1⟩:=List.mem_map.1 ha
   exact gfind_none (ghas_none (by simpa using hg)) x hx e1
theorem NK.fold {es:List GE} {k:Nat}:∀ (now:List Int) {s:IMap × List Int},NK s.1→NK (now.foldl (stp es k) s).1
 | [],_,h=>h
 | a::r,_,h=>NK.fold r (h.step a)
theorem NK.st (es:List GE) (roots:List Int):∀ k,NK (st es roots k).1
 | 0=>⟨List.nodup_nil⟩
 | k+1=>NK.fold _ (s:=((Go.Proofs.Ythefbejopmbnbaa.st es roots k).1,[])) (NK.st es roots k)
theorem ghas_mem {G:IMap} {a:Int}:ghas G a=true↔a∈G.map (·.1):=by
 rw [ghas_iff]
 constructor
 ·rintro ⟨x,hx⟩
  obtain ⟨h1,rfl⟩:=gfind_some hx
  exact List.mem_map_of_mem h1
 ·intro h
  obtain ⟨x,hx,rfl⟩:=List.mem_map.1 h
  cases hq:gfind G x.1 with
  | none=>exact absurd rfl (gfind_none hq x hx)
  | some y=>exact ⟨y,rfl⟩
theorem keysO_so {es:List GE} {roots:List Int}:(keysO (farO es roots)).Pairwise (· < ·):=by
 have hs:(keysO (farO es roots)).Pairwise (fun a b=>decide (a≤b)=true):=List.pairwise_mergeSort (fun a b c=>by simp only [decide_eq_true_eq]; omega) (fun a b=>by simp only [Bool.or_eq_true,decide_eq_true_eq]; omega) _
 have hn:(keysO (farO es roots)).Nodup:=(List.mergeSort_perm ..).nodup_iff.2 (NK.st es roots (stN es)).nd
 have hn':=List.nodup_iff_pairwise_ne.1 hn
 exact (hs.and hn').imp fun {a b} h=>by have:=h.1; have:=h.2; simp only [decide_eq_true_eq] at *; omega
theorem keysO_mem {es:List GE} {roots:List Int} {a:Int}:a∈keysO (farO es roots)↔∃ j,RW (gOf es) roots j a:=by
 rw [← far_has,ghas_mem]
 exact (List.mergeSort_perm ..).mem_iff
theorem keysO_len (es:List GE) (roots:List Int):(keysO (farO es roots)).length=(farO es roots).length:=by
 rw [sortZ_len,List.length_map]
theorem pick_mem {ws:List ND} {a:Int} (hn:((coN ws).map (·.id)).Nodup) (roots:List Int) (P:Nat→Prop) (o:List Bool) (ho:∀ i,TB o i↔P i):a∈pickN (idsN ws) o ws.length↔∃ i d,(coN ws)[i]?=some d∧d.id=a∧P i:=by
 rw [pickN_mem _ (by rw [List.length_map]; exact Nat.le_refl _)]
 constructor
 ·rintro ⟨j,h1,h2,h3⟩
  have hd:(coN ws)[j]?=some ((coN ws)[j]'(by rw [List.length_map]; exact h1)):=List.getElem?_eq_getElem _
  refine ⟨j,_,hd,?_,(ho j).1 h2⟩
  have:((coN ws).map (·.id))[j]?=some a:=by rw [show (coN ws).map (·.id)=idsN ws by simp [coN]]; exact h3
  rw [List.getElem?_map,hd] at this
  simpa using this
 ·rintro ⟨i,d,h1,rfl,h2⟩
  have hi:=(List.getElem?_eq_some_iff.1 h1).1
  rw [List.length_map] at hi
  refine ⟨i,hi,(ho i).2 h2,?_⟩
  rw [show idsN ws=(coN ws).map (·.id) by simp [coN],List.getElem?_map,h1]; rfl
theorem pick_so {ws:List ND} (h:(coN ws).Pairwise (fun a b=>a.id<b.id)) (o:List Bool):(pickN (idsN ws) o ws.length).Pairwise (· < ·):=by
 have h1:(idsN ws).Pairwise (· < ·):=by
  rw [show idsN ws=(coN ws).map (·.id) by simp [coN],List.pairwise_map]; exact h
 have h2:=pickN_sub (idsN ws) o ws.length (by rw [List.length_map]; exact Nat.le_refl _)
 exact h1.sublist (h2.trans (List.take_sublist ..))
end Go.Proofs.Ythefbejopmbnbaa
end
section
namespace Go.Proofs.Ythefbejopmbnbaa
open Go Go.Tum Go.Deep
abbrev nodeK:List CN:=[.c (some .i64),.s [.c (some .i64)]]
structure NodeIn (L:List AV) (r:RN):Prop where
 wf:(Lit.int .i64 r.id).wf=true
 is:∃ G:Nat→List AV,L=[.v (.int .i64 r.id),.s ⟨r.b,r.o,none⟩ r.n r.c (r.n*1) (rowF 1 G)]∧r.n≤r.c∧∀ j,j<r.n→G j=[.v (.int .i64 (r.xs j))]
instance : Inhabited RN:=⟨⟨0,0,0,0,0,fun _=>0⟩⟩
theorem node_in {L:List AV} (hl:L.length=2) (h:∀ (j:Nat) (k:CN),nodeK[j]?=some k→∃ a,L[j]?=some a∧CnOk 6 k a):∃ r,NodeIn L r:=by
 obtain ⟨a0,h0,v0,rfl,id,rfl,hw⟩:=h 0 _ rfl
 obtain ⟨a1,h1,b,o,n,c,F,rfl,hnc,_,hF⟩:=h 1 _ rfl
 have hx:∀ i,i<n→∃ x:Int,F i=[.v (.int .i64 x)]:=fun i hi=>by
  obtain ⟨g1,g2⟩:=hF i hi
  obtain ⟨a',g3,v',rfl,x,rfl,_⟩:=g2 0 _ rfl
  refine ⟨x,?_⟩
  match hq:F i,g1,g3 with
  | [y],_,g3 =>
   simp at g3; rw [g3]
 obtain ⟨xs,hxs⟩:=choose_lt hx
 refine ⟨⟨id,b,o,n,c,xs⟩,hw,F,?_,hnc,hxs⟩
 match hq:L,hl,h0,h1 with
 | [y,z],_,h0,h1 =>
  simp at h0 h1
  simp only [h0,h1,Nat.mul_one]
theorem nodes_in {n:Nat} {F:Nat→List AV} (h:∀ i,i<n→(F i).length=2∧∀ (j:Nat) (k:CN),nodeK[j]?=some k→∃ a,(F i)[j]?=some a∧CnOk 6 k a):∃ r:Nat→RN,RIn n F r∧∀ i,i<n→(Lit.int .i64 (r i).id).wf=true:=by
 obtain ⟨r,hr⟩:=choose_lt (n:=n) (p:=fun i (r:RN)=>NodeIn (F i) r) fun i hi=>node_in (h i hi).1 (h i hi).2
 exact ⟨r,fun i hi=>(hr i hi).is,fun i hi=>(hr i hi).wf⟩
theorem argAt_congr {X:Nat→Prop} {w0:World} {E0:Emb} {k m:Nat} {g g':Nat→AV} (h:∀ i,i<m→g i=g' i) (hA:ArgAt X w0 E0 k m g):ArgAt X w0 E0 k m g':=fun h0=>by
 obtain ⟨r,h1,h2,h3,h4⟩:=hA h0
 refine ⟨r,h1,h2,h3,fun i hi=>?_⟩
 obtain ⟨y,h5,h6⟩:=h4 i hi
 exact ⟨y,h5,by rw [← h i hi]; exact h6⟩
theorem ints_in {w:World} {v:Value} {m:Nat} {get:Nat→List Value} (hr:SlIn w 1 v m get) (hf:∀ i,i<m→Fits [some .i64] (get i)):∃ xs:List Int,xs.length=m∧m≤9223372036854775807∧∃ r:Nat × Nat × Nat,∀ (E:Emb) (k:Nat),E[k]?=some r→VR E (.slice (some ⟨k,0,none⟩) m m) v∧ArgAt (fun _=>False) w E k (m*1) (rowI xs):=by
 obtain ⟨x,hx⟩:=choose_lt (n:=m) (p:=fun i (o:Int)=>get i=[.int .i64 o]) fun i hi=>(by
  obtain ⟨a,r0,e0,_,h0⟩:=(hf i hi).int
  have e1:=h0.nil
  subst e1
  exact ⟨a,e0⟩)
 obtain ⟨hm,r,hr⟩:=hr
 refine ⟨(List.range m).map x,by simp,hm,r,fun E k hk=>?_⟩
 obtain ⟨h1,h2⟩:=hr E k hk
 refine ⟨h1,argAt_congr (g:=rowG 1 get) (fun i hi=>?_) h2⟩
 rw [Nat.mul_one] at hi
 unfold rowI rowG
 rw [Nat.div_one,Nat.mod_one,hx i hi]
 simp [hi]
end Go.Proofs.Ythefbejopmbnbaa
end
section
namespace Go.Proofs.Ythefbejopmbnbaa
open Go Go.Tum
set_option maxRecDepth 4000
structure MV (N:Nat) (F:Nat→List AV) (es:List GE) (ws:List ND):Prop where
 es20:es.length≤20
 e8:∀ e∈es,e.xs.length≤8
 w20:ws.length≤20
 ok:okN ws
 inD:∀ d∈ws,InD N F d.1
 w8:∀ d∈ws,d.1.n≤8
 so:(coN ws).Pairwise (fun a b=>a.id<b.id)
 eq:gOf es=gLi (coN ws)
 wf:wfE es
 nd:(es.map (·.id)).Nodup
theorem ndL_wf {r:Nat→RN} {N:Nat} (h:∀ i,i<N→(Lit.int .i64 (r i).id).wf=true):∀ m,m≤N→∀ d∈ndL r m,(Lit.int .i64 d.id).wf=true
 | 0,_,d,hd=>by cases hd
 | m+1,hm,d,hd=>by
  rcases insN_mem hd with hd | rfl
  ·exact ndL_wf h m (by omega) d hd
  ·exact h m (by omega)
theorem MV.of {N:Nat} {F:Nat→List AV} {r:Nat→RN} (hr:RIn N F r) (hwf:∀ i,i<N→(Lit.int .i64 (r i).id).wf=true) {x:MX} (h:MO r (min N 14) x):MV N F x.es x.ws:=by
 have hD:=h.md
 have hm:min N 14≤N:=Nat.min_le_left ..
 have h14:min N 14≤14:=Nat.min_le_right ..
 have hmem:∀ d∈x.ws,d.1∈ndL r (min N 14):=fun d hd=>by rw [← h.co]; exact List.mem_map_of_mem hd
 have hl:x.ws.length=(ndL r (min N 14)).length:=by rw [← h.co,List.length_map]
 have heq:gOf x.es=gLi (coN x.ws):=by
  funext a
  rw [h.co]
  exact hD.eq a
 refine ⟨by have:=hD.el; omega,hD.e8,by have:=hD.ll; omega,h.ok,fun d hd=>ndL_mem hr _ hm _ (hmem d hd),fun d hd=>(hD.l8 _ (hmem d hd)).1,by rw [h.co]; exact hD.so,heq,fun e he=>?_,hD.nd⟩
 have hs:(gOf x.es e.id).isSome:=by
  cases hq:gfe x.es e.id with
  | none=>exact absurd rfl (gfe_none hq e he)
  | some y=>simp [gOf,hq]
 rw [heq] at hs
 obtain ⟨xs,hxs⟩:=Option.isSome_iff_exists.1 hs
 obtain ⟨i,d,hi,hd,_⟩:=find_of hxs
 rw [← hd]
 refine ndL_wf hwf _ hm d ?_
 rw [← h.co]; exact List.mem_of_getElem? hi
theorem MV.keys {N:Nat} {F:Nat→List AV} {es:List GE} {ws:List ND} (h:MV N F es ws) (R:List Int) (a:Int):a∈keysO (farO es R)↔∃ i d,(coN ws)[i]?=some d∧d.id=a∧TB (wB (coN ws) R ws.length) i:=by
 have hn:=so_nodup h.so
 have hcl:(coN ws).length=ws.length:=by rw [List.length_map]
 rw [keysO_mem,h.eq]
 constructor
 ·rintro ⟨j,hj⟩
  obtain ⟨xs,hxs⟩:=Option.isSome_iff_exists.1 hj.some
  obtain ⟨i,d,hi,rfl,_⟩:=find_of hxs
  refine ⟨i,d,hi,rfl,?_⟩
  have:=wB_all hn R j ((wB_T hn R j hi).2 hj)
  rwa [hcl] at this
 ·rintro ⟨i,d,hi,rfl,hT⟩
  exact ⟨_,(wB_T hn R _ hi).1 hT⟩
theorem MV.same {N:Nat} {F:Nat→List AV} {es:List GE} {ws:List ND} (h:MV N F es ws) (R:List Int) (o:List Bool) (ho:∀ i,TB o i↔TB (wB (coN ws) R ws.length) i):keysO (farO es R)=pickN (idsN ws) o ws.length:=by
 refine sorted_ext keysO_so (pick_so h.so o) fun a=>?_
 rw [h.keys R a,pick_mem (so_nodup h.so) R _ o ho]
theorem take_get {xs:List Int} {n:Nat} (i:Nat) (x:Int) (h:(xs.take n)[i]?=some x):xs[i]?=some x:=by
 have hi:=(List.getElem?_eq_some_iff.1 h).1
 rw [List.length_take] at hi
 rwa [List.getElem?_take_of_lt (by omega)] at h
end Go.Proofs.Ythefbejopmbnbaa
end
section
namespace Go.Proofs.Ythefbejopmbnbaa
open Go Go.Tum
set_option maxRecDepth 4000
theorem keysG_tr (b0 c:Nat) (es:List GE):Tr Try.prog 24 [.map (some 0)] [gB b0 es c] (fun v K=>∃ b1:Nat,True∧v=clo 29 1∧K=[adB b0,boxB (gA es c) (gF b0 es) b0 b1]):=Tr.keysG (by kernel_rfl) keysB_c
abbrev idsE (es:List GE):List Int:=sortZ (es.map (·.id))
theorem sortedG_tr (b0 b1 c:Nat) (es:List GE) (hb:wfE es) (hl:es.length≤1000):Tr Try.prog 22 [clo 29 1] [adB b0,boxB (gA es c) (gF b0 es) b0 b1] (fun v K=>v=slB 2 es.length∧K=[adB b0,boxB (gA es c) (gF b0 es) b0 b1,rI (idsE es)]):=by
 have:=Tr.sortedK (P:=Try.prog) (f:=22) (A:=gA es c) (F:=gF b0 es) (x:=adB b0) (b0:=b0) (b1:=b1) (c:=c) (m:=es.map ge) (by kernel_rfl) keysB_s (fun w h=>⟨h.1,h.2.1⟩) (fun x hx=>by
  obtain ⟨y,hy,rfl⟩:=List.mem_map.1 hx
  exact hb y hy) (by rw [List.length_map]; exact hl)
 have e1:(es.map ge).length=es.length:=List.length_map ..
 have e2:(es.map ge).map (·.1)=es.map (·.id):=by rw [List.map_map]; rfl
 rw [e1,e2] at this
 exact this
theorem nodes_tr (b0 c:Nat) (es:List GE) (hb:wfE es) (hl:es.length≤1000):Tr Try.prog 16 [pp 0] [gM 1,gB b0 es c] (fun v K=>v=slB 2 es.length∧K=[gM 1,gB b0 es c,rI (idsE es)]):=by
 have hK:=keysG_tr b0 c es
 refine Tr.of row_reach_Graph_Nodes_ok rfl ?_
 repeat' (first|refine qN ?_|refine dN ?_|refine d0 ?_|refine qT ?_|refine qU ?_|refine qL ?_|refine qK ?_|refine iF (fun h=>?_) (fun h=>?_)|refine aI (hn:=?_)|refine qR ?_|refine qS ?_|exact ⟨rfl,rfl⟩|fail)
 refine cX [1] hK (fun b1 _=>?_)
 conv=>whnf
 have hS:=sortedG_tr b0 b1 c es hb hl
 repeat' (first|refine qN ?_|refine dN ?_|refine d0 ?_|refine qT ?_|refine qU ?_|refine qL ?_|refine qK ?_|refine iF (fun h=>?_) (fun h=>?_)|(refine cF [1,2] (hS) ?_; conv=>whnf)|refine aI (hn:=?_)|refine qR ?_|refine qS ?_|exact ⟨rfl,rfl⟩|fail)
 refine LWp.wk (wk_unbox (i:=1) (j:=2) (by decide) rfl rfl) ?_
 exact L_ret (RetQ.pick [0,1,3] rfl rfl rfl rfl ⟨rfl,rfl⟩)
theorem cloneG_tr (b0 c:Nat) (es:List GE) (e:GE) (he:e∈es) (hb:e.xs.length≤1000):Tr Try.prog 25 [e.sym] [gB b0 es c] (fun v K=>v=slB 1 e.xs.length∧K=[gB b0 es c,rI e.xs]):=by
 refine Tr.of row_slices_Clone_int_int__ok rfl ?_
 repeat' (first|refine qN ?_|refine dN ?_|refine dR ?_|refine d0 ?_|refine rT ?_|refine qT ?_|refine qU ?_|refine qL ?_|refine qK ?_|refine iF (fun h=>?_) (fun h=>?_)|refine aI (hn:=?_)|refine qR ?_|refine qS ?_|exact ⟨rfl,rfl⟩|fail)
 rcases Nat.eq_zero_or_pos e.xs.length with h0 | hm
 ·have hx0:e.xs=[]:=List.length_eq_zero_iff.1 h0
  refine S_Q2 [] rfl rfl (QY.nilS2R rfl (by kernel_rfl) rfl) ?_ ?_
  ·refine S_done [] rfl (Nx.goL (L_true rfl (L_rs (S_done [] rfl (Nx.goL ?_)))))
   refine LWp.nilE 2 1 rfl ?_
   exact L_ret (RetQ.pick [0,1] rfl rfl rfl rfl ⟨by rw [h0]; rfl,by rw [hx0]; rfl⟩)
  ·repeat' (first|refine qN ?_|refine dN ?_|refine dR ?_|refine d0 ?_|refine rT ?_|refine qT ?_|refine qU ?_|refine qL ?_|refine qK ?_|refine iF (fun h=>?_) (fun h=>?_)|refine aI (hn:=?_)|refine qR ?_|refine qS ?_|exact ⟨rfl,rfl⟩|fail)
   refine S_wk [] rfl (wk_gro0 (b:=1) 1 rfl) ?_
   first|refine L_rs ?_|refine L_reg ?_ | skip
   refine eE rfl rfl (EW.appH (bytes:=8) (xs:=[]) (k:=0) he rfl (by kernel_rfl) rfl rfl rfl rfl rfl (by omega)) ?_
   conv=>whnf
   repeat' (first|refine qN ?_|refine dN ?_|refine d0 ?_|refine qT ?_|refine qU ?_|refine qL ?_|refine qK ?_|refine iF (fun h=>?_) (fun h=>?_)|refine aI (hn:=?_)|refine qR ?_|refine qS ?_|exact ⟨rfl,rfl⟩|fail)
   exact L_ret (RetQ.pick [0,2] rfl rfl rfl rfl ⟨by show Value.slice _ (0+e.xs.length) (0+e.xs.length)=_; rw [Nat.zero_add]; rfl,rfl⟩)
 ·refine S_Q [] rfl rfl (QY.nilSR rfl (by kernel_rfl) rfl hm) ?_
  repeat' (first|refine qN ?_|refine dN ?_|refine dR ?_|refine d0 ?_|refine rT ?_|refine qT ?_|refine qU ?_|refine qL ?_|refine qK ?_|refine iF (fun h=>?_) (fun h=>?_)|refine aI (hn:=?_)|refine qR ?_|refine qS ?_|exact ⟨rfl,rfl⟩|fail)
  refine S_wk [] rfl (wk_gro0 (b:=1) 1 rfl) ?_
  first|refine L_rs ?_|refine L_reg ?_ | skip
  refine eE rfl rfl (EW.appH (bytes:=8) (xs:=[]) (k:=0) he rfl (by kernel_rfl) rfl rfl rfl rfl rfl (by omega)) ?_
  conv=>whnf
  repeat' (first|refine qN ?_|refine dN ?_|refine d0 ?_|refine qT ?_|refine qU ?_|refine qL ?_|refine qK ?_|refine iF (fun h=>?_) (fun h=>?_)|refine aI (hn:=?_)|refine qR ?_|refine qS ?_|exact ⟨rfl,rfl⟩|fail)
  exact L_ret (RetQ.pick [0,2] rfl rfl rfl rfl ⟨by show Value.slice _ (0+e.xs.length) (0+e.xs.length)=_; rw [Nat.zero_add]; rfl,rfl⟩)
theorem names_tr (b0 c:Nat) (es:List GE) (id:Int) (e:GE) (hq:gfe es id=some e) (hb:e.xs.length≤1000):Tr Try.prog 17 [pp 0,.int .i64 id] [gM 1,gB b0 es c] (fun v K=>v=slB 2 e.xs.length∧K=[gM 1,gB b0 es c,rI e.xs]):=by
 have hC:=cloneG_tr b0 c es e (gfe_some hq).1 hb
 refine Tr.of row_reach_Graph_Names_ok rfl ?_
 repeat' (first|refine qN ?_|refine dN ?_|refine d0 ?_|refine qT ?_|refine qU ?_|refine qL ?_|refine qK ?_|refine iF (fun h=>?_) (fun h=>?_)|refine S_Q [] rfl rfl (QY.glook1 rfl mT_g kT_g zT_g rfl rfl rfl hq) ?_|(refine cF [1] (hC) ?_; conv=>whnf)|refine aI (hn:=?_)|refine qR ?_|refine qS ?_|exact ⟨rfl,rfl⟩|fail)
 exact L_ret (RetQ.pick [0,1,2] rfl rfl rfl rfl ⟨rfl,rfl⟩)
set_option maxHeartbeats 1000000 in
theorem sameN_tr (N:Nat) (F:Nat→List AV) (d:IN) (hd:InD N F d) (hm:d.n≤1000) (xs:List Int) (n:Nat) (hx:xs.length=n) (he:xs=d.xs):TrK Try.prog (AF N F) [0,1] 14 [slB 1 n,d.sym] [.dead,rI xs] (fun v K=>v=.bool true∧K=[.dead,rI xs]):=by
 have hdl:=(hd ⟨1,AF N F,[0]⟩ rfl).1
 have hnd:n=d.n:=by rw [← hx,he]; exact hdl
 subst hnd
 refine Tr.of row_tumbrelref21_Same_ok rfl ?_
 repeat' (first|refine qN ?_|refine dN ?_|refine dR ?_|refine d0 ?_|refine qB ?_|refine rT ?_|refine qT ?_|refine qU ?_|refine qL ?_|refine qK ?_|refine qF ?_|refine qE ?_|refine iF (fun h=>?_) (fun h=>?_)|refine aX ?_|refine aA ?_|refine aI (hn:=?_)|refine qR ?_|refine qS ?_|exact ⟨rfl,rfl⟩|fail)
 all_goals first | (exfalso; omega) | skip
 refine LWp.pick [0,1,11,12,13] [0,1] rfl rfl rfl (L_loop (fun q l L=>∃ i:Nat,q=d.n-i∧i≤d.n∧l=[(0,slB 1 d.n),(1,.slice (some ⟨d.b,d.o,some 0⟩) d.n d.c),(11,slB 1 d.n),(12,.int .i64 d.n),(13,.int .i64 i)]∧L=[.dead,rI xs]) d.n ⟨0,rfl,by omega,rfl,rfl⟩ ?_)
 rintro q _ _ ⟨i,rfl,hi,rfl,rfl⟩
 first|refine L_seq (L_rs (S_done [] rfl (Nx.goL (iF (fun h=>L_skip (Nx.goL ?_)) (fun h=>L_exit ?_)))))|refine L_rs (S_done [] rfl (Nx.goL (L_seq (iF (fun h=>L_skip (Nx.goL ?_)) (fun h=>L_exit ?_)))))
 ·have hik:i<d.n:=by omega
  obtain ⟨x,hx1⟩:∃ x,xs[i]?=some x:=⟨_,List.getElem?_eq_getElem (by omega)⟩
  have hy1:d.xs[i]?=some x:=by rw [← he]; exact hx1
  repeat' (first|refine qN ?_|refine dN ?_|refine d0 ?_|refine qB ?_|refine qT ?_|refine qU ?_|refine qL ?_|refine qK ?_|refine qF ?_|refine qE ?_|refine iF (fun h=>?_) (fun h=>?_)|refine aX ?_|refine S_Q [] rfl rfl (QY.ldI rfl rfl hx1) ?_|refine S_Q [] rfl rfl (QY.idxR (k:=i) rfl rfl (by omega)) ?_|refine S_Q [] rfl rfl (QY.ldIN (hd _ rfl) rfl rfl hy1) ?_|refine aA ?_|refine aI (hn:=?_)|refine qR ?_|refine qS ?_|exact ⟨rfl,rfl⟩|fail)
  all_goals first | (exfalso; omega)|exact absurd rfl ‹_› | skip
  exact Nx.pick [0,1,11,12,13] [0,1] rfl rfl rfl ⟨d.n-(i+1),by omega,i+1,rfl,by omega,rfl,rfl⟩
 ·refine Nx.goL ?_
  repeat' (first|refine qN ?_|refine dN ?_|refine d0 ?_|refine qB ?_|refine qT ?_|refine qU ?_|refine qL ?_|refine qK ?_|refine qF ?_|refine qE ?_|refine iF (fun h=>?_) (fun h=>?_)|refine aX ?_|refine aA ?_|refine aI (hn:=?_)|refine qR ?_|refine qS ?_|exact ⟨rfl,rfl⟩|fail)
  exact L_ret (RetQ.pick [0,1] rfl rfl rfl rfl ⟨rfl,rfl⟩)
end Go.Proofs.Ythefbejopmbnbaa
end
section
namespace Go.Proofs.Ythefbejopmbnbaa
open Go Go.Tum
set_option maxRecDepth 4000
theorem gOf_mem {es:List GE} {a:Int}:(gOf es a).isSome↔a∈es.map (·.id):=by
 constructor
 ·intro h
  cases hq:gfe es a with
  | none=>simp [gOf,hq] at h
  | some e =>
   obtain ⟨he,rfl⟩:=gfe_some hq
   exact List.mem_map_of_mem he
 ·intro h
  obtain ⟨e,he,rfl⟩:=List.mem_map.1 h
  cases hq:gfe es e.id with
  | none=>exact absurd rfl (gfe_none hq e he)
  | some y=>simp [gOf,hq]
theorem gLi_mem {l:List IN} (hn:(l.map (·.id)).Nodup) {a:Int}:(gLi l a).isSome↔a∈l.map (·.id):=by
 constructor
 ·intro h
  obtain ⟨xs,hxs⟩:=Option.isSome_iff_exists.1 h
  obtain ⟨i,d,hi,rfl,_⟩:=find_of hxs
  exact List.mem_map_of_mem (List.mem_of_getElem? hi)
 ·intro h
  obtain ⟨d,hd,rfl⟩:=List.mem_map.1 h
  obtain ⟨i,hi⟩:=List.mem_iff_getElem?.1 hd
  rw [find_at hn hi]; rfl
theorem MV.ids {N:Nat} {F:Nat→List AV} {es:List GE} {ws:List ND} (h:MV N F es ws):idsE es=idsN ws:=by
 have hn:=so_nodup h.so
 have hids:(coN ws).map (·.id)=idsN ws:=by simp [coN]
 have hs:(idsE es).Pairwise (fun a b=>decide (a≤b)=true):=List.pairwise_mergeSort (fun a b c=>by simp only [decide_eq_true_eq]; omega) (fun a b=>by simp only [Bool.or_eq_true,decide_eq_true_eq]; omega) _
 have hnd:=List.nodup_iff_pairwise_ne.1 ((List.mergeSort_perm (es.map (·.id)) (fun x y=>decide (x≤y))).nodup_iff.2 h.nd)
 refine sorted_ext ((hs.and hnd).imp fun {a b} h=>by have:=h.1; have:=h.2; simp only [decide_eq_true_eq] at *; omega) (by rw [← hids,List.pairwise_map]; exact h.so) fun a=>?_
 refine (List.mergeSort_perm (es.map (·.id)) (fun x y=>decide (x≤y))).mem_iff.trans ?_
 rw [← gOf_mem,h.eq,gLi_mem hn,hids]
theorem MV.node {N:Nat} {F:Nat→List AV} {es:List GE} {ws:List ND} (h:MV N F es ws) {i:Nat} {d:ND} (hd:ws[i]?=some d):∃ e,gfe es d.1.id=some e∧e.xs=d.1.xs:=by
 have h1:gOf es d.1.id=some d.1.xs:=by rw [h.eq]; exact find_at (i:=i) (so_nodup h.so) (by simp [coN,hd])
 cases hq:gfe es d.1.id with
 | none=>simp [gOf,hq] at h1
 | some e=>simp [gOf,hq] at h1; exact ⟨e,rfl,h1⟩
abbrev A2 (N:Nat) (F:Nat→List AV) (na:Nat) (xa:List Int):Args:=[(0,N*2,rowF 2 F),(1,na*1,rowI xa)]
set_option maxHeartbeats 4000000 in
theorem ReachFrom_tr (N:Nat) (hN:N≤9223372036854775807) (F:Nat→List AV) (r:Nat→RN) (hr:RIn N F r) (hwf:∀ i,i<N→(Lit.int .i64 (r i).id).wf=true) (na:Nat) (hna:na≤9223372036854775807) (xa:List Int) (hxa:xa.length=na) :
  TrK Try.prog (A2 N F na xa) [0,1] 6 [slB 0 N,slB 1 na] [.dead,.dead] (fun v _=>v=.bool true):=by
 have hM:=made_tr N hN F r hr
 have hAw:=awake_tr
 have hCa:=cut_tr na hna
 have hma:min na 6≤na∧min na 6≤6:=⟨Nat.min_le_left ..,Nat.min_le_right ..⟩
 generalize min na 6=ma at *
 refine Tr.of row_tumbrellaw21_ReachFrom_ok rfl ?_
 repeat' (first|refine qN ?_|refine dN ?_|refine d0 ?_|refine qB ?_|refine qT ?_|refine qU ?_|refine qL ?_|refine qK ?_|refine qF ?_|refine qE ?_|refine iF (fun h=>?_) (fun h=>?_)|refine aX ?_|refine aA ?_|refine aI (hn:=?_)|refine sP 36 (fun h=>?_) (fun h=>?_)|refine sP 60 (fun h=>?_) (fun h=>?_)|refine qR ?_|refine qS ?_|exact ⟨rfl,rfl⟩|fail)
 refine cXA [0] hM (fun y hy=>by cases List.mem_singleton.1 hy; exact ⟨rfl,0,rfl,List.mem_cons_self ..⟩) (fun x hx=>?_)
 obtain ⟨b0,es,c,ws⟩:=x
 have hV:=MV.of hr hwf hx
 simp only at hV
 clear hM hx
 conv=>whnf
 have he20:=hV.es20
 have hw20:=hV.w20
 have hids:=hV.ids
 have hel:es.length=ws.length:=by
  have:=congrArg List.length hids
  rwa [sortZ_len,List.length_map,List.length_map] at this
 have hNd:=nodes_tr b0 c es hV.wf (by omega)
 rw [hids,hel] at hNd
 have hIl:(idsN ws).length=ws.length:=List.length_map ..
 repeat' (first|refine qN ?_|refine dN ?_|refine dR ?_|refine d0 ?_|refine qB ?_|refine rT ?_|refine qT ?_|refine qU ?_|refine qL ?_|refine qK ?_|refine qF ?_|refine qE ?_|refine iF (fun h=>?_) (fun h=>?_)|refine aX ?_|(refine cF [2,3] (hNd) ?_; conv=>whnf)|refine aA ?_|refine aI (hn:=?_)|refine sP 36 (fun h=>?_) (fun h=>?_)|refine sP 60 (fun h=>?_) (fun h=>?_)|refine qR ?_|refine qS ?_|exact ⟨rfl,rfl⟩|fail)
 all_goals first | (exfalso; exact h rfl) | skip
 refine LWp.pick [1,5,6,7,22,23,24] [0,1,2,3,4,5] rfl rfl rfl (L_loop (fun q l L=>∃ i:Nat,q=ws.length-i∧i≤ws.length∧l=[(1,slB 1 na),(5,pp 2),(6,slB 4 ws.length),(7,slB 5 ws.length),(22,slB 4 ws.length),(23,.int .i64 ws.length),(24,.int .i64 i)]∧L=[.dead,.dead,gM 3,gB b0 es c,NB ws,rI (idsN ws)]) ws.length ⟨0,rfl,by omega,rfl,rfl⟩ ?_)
 clear hNd
 rintro q _ _ ⟨i,rfl,hi,rfl,rfl⟩
 first|refine L_seq (L_rs (S_done [] rfl (Nx.goL (iF (fun h=>L_skip (Nx.goL ?_)) (fun h=>L_exit ?_)))))|refine L_rs (S_done [] rfl (Nx.goL (L_seq (iF (fun h=>L_skip (Nx.goL ?_)) (fun h=>L_exit ?_)))))
 ·have hin:i<ws.length:=by omega
  obtain ⟨d,hd⟩:∃ d,ws[i]?=some d:=⟨_,List.getElem?_eq_getElem (by omega)⟩
  have hdm:=List.mem_of_getElem? hd
  have hok:=hV.ok d hdm
  have hni:=idsN_get hd
  obtain ⟨e,hq,hxs⟩:=hV.node hd
  have he8:=hV.e8 e (gfe_some hq).1
  have hNm:=names_tr b0 c es d.1.id e hq (by omega)
  have hSm:=sameN_tr N F d.1 (hV.inD d hdm) (by have:=hV.w8 d hdm; omega) e.xs e.xs.length rfl hxs
  repeat' (first|refine qN ?_|refine dN ?_|refine dR ?_|refine d0 ?_|refine qB ?_|refine rT ?_|refine qT ?_|refine qU ?_|refine qL ?_|refine qK ?_|refine qF ?_|refine qE ?_|refine iF (fun h=>?_) (fun h=>?_)|refine aX ?_|refine S_Q [] rfl rfl (QY.ldnN rfl rfl hd hok) ?_|refine S_Q [] rfl rfl (QY.idxN (k:=i) rfl rfl hin) ?_|refine S_Q [] rfl rfl (QY.ldI rfl rfl hni) ?_|(refine cW [2,3] hNm ?_ (hc:=?_); rotate_left; refine ⟨.inl rfl,?_⟩; refine ⟨.inl rfl,?_⟩; refine ⟨.inr ?_,trivial⟩; exact ⟨QY.ldI rfl rfl hni,Sure.of rfl⟩; conv=>whnf)|(refine cAr [0,7] hSm (fun y hy=>by cases List.mem_singleton.1 hy; exact ⟨rfl,0,rfl,List.mem_cons_self ..⟩) ?_ (hc:=?_); rotate_left; refine ⟨⟨qsafe_ok (st:=[]) rfl,Sure.of rfl⟩,?_⟩; refine ⟨?_,trivial⟩; exact ⟨QY.ldI rfl rfl hni,Sure.of rfl⟩; conv=>whnf)|refine aA ?_|refine aI (hn:=?_)|refine sP 36 (fun h=>?_) (fun h=>?_)|refine sP 60 (fun h=>?_) (fun h=>?_)|refine qR ?_|refine qS ?_|exact ⟨rfl,rfl⟩|fail)
  all_goals first | (exfalso; omega) | skip
  exact Nx.pick [1,5,6,7,22,23,24] [0,1,2,3,4,5] rfl rfl rfl ⟨ws.length-(i+1),by omega,i+1,rfl,by omega,rfl,rfl⟩
 ·refine Nx.goL ?_
  have hcl:(coN ws).length=ws.length:=by rw [List.length_map]
  have hF:=fromA_tr b0 c es hV.es20 hV.e8 hV.wf (xa.take ma) ma (by omega) na (na*1) xa (by omega) take_get (by rw [List.length_take]; omega)
  have hW:=withinA_tr N F ws ws.length rfl hV.w20 hV.ok hV.inD hV.w8 (xa.take ma) ma (by omega) na (na*1) xa (by omega) take_get (by rw [List.length_take]; omega) ws.length (by omega)
  have hP:=picked_tr ws ws.length rfl (by omega) hV.ok (wB (coN ws) (xa.take ma) ws.length) (by rw [wB_len,hcl])
  have hsame:=hV.same (xa.take ma) (wB (coN ws) (xa.take ma) ws.length) (fun _=>Iff.rfl)
  have hkl:=keysO_len es (xa.take ma)
  have hfl:=farO_len es (xa.take ma)
  rw [hsame] at hF hkl
  generalize farO es (xa.take ma)=out at *
  generalize pickN (idsN ws) (wB (coN ws) (xa.take ma) ws.length) ws.length=pk at *
  generalize wB (coN ws) (xa.take ma) ws.length=o at *
  have hS:=same_tr pk pk out.length pk.length hkl rfl (by omega) (by omega)
  rw [decide_eq_true rfl] at hS
  have hh:∀ (z:Nat × Nat × (Nat→AV)),z∈[(2,na*1,rowI xa)]→inL z.1 [0,1,2]=true∧∃ k,[2,3,1][z.1]?=some k∧(k,z.2)∈A2 N F na xa:=fun z hz=>by
   cases List.mem_singleton.1 hz
   exact ⟨rfl,1,rfl,List.mem_cons_of_mem _ (List.mem_cons_self ..)⟩
  have hold:∀ (y:Nat × Nat × (Nat→AV)),y∈AF N F++[(2,na*1,rowI xa)]→inL y.1 [0,1,2]=true∧∃ k,[0,4,1][y.1]?=some k∧(k,y.2)∈A2 N F na xa:=fun y hy=>by
   rcases List.mem_cons.1 hy with rfl | hy
   ·exact ⟨rfl,0,rfl,List.mem_cons_self ..⟩
   ·cases List.mem_singleton.1 (show y∈[_] from hy)
    exact ⟨rfl,1,rfl,List.mem_cons_of_mem _ (List.mem_cons_self ..)⟩
  repeat' (first|refine qN ?_|refine dN ?_|refine d0 ?_|refine qB ?_|refine qT ?_|refine qU ?_|refine qL ?_|refine qK ?_|refine qF ?_|refine qE ?_|refine iF (fun h=>?_) (fun h=>?_)|refine aX ?_|(refine cF [1] (hCa) ?_; conv=>whnf)|(refine cAr [2,3,1] hF hh ?_; conv=>whnf)|(refine cAr [0,4,1] hW hold ?_; conv=>whnf)|(refine cF [4,7] (hP) ?_; conv=>whnf)|(refine cF [6,8] (hS) ?_; conv=>whnf)|(refine cF [] (hAw) ?_; conv=>whnf)|refine aA ?_|refine aI (hn:=?_)|refine sP 36 (fun h=>?_) (fun h=>?_)|refine sP 60 (fun h=>?_) (fun h=>?_)|refine qR ?_|refine qS ?_|exact ⟨rfl,rfl⟩|fail)
  all_goals first | (exfalso; omega)|exact L_ret (RetQ.pick [0,1] rfl rfl rfl rfl rfl)
theorem ReachFrom_does (w:World) {v va:Value} {n ma:Nat} {F:Nat→List AV} {ga:Nat→List Value} (hr:SlInN w 2 v n F) (hf:∀ i,i<n→(F i).length=2∧∀ (j:Nat) (k:CN),nodeK[j]?=some k→∃ a,(F i)[j]?=some a∧CnOk 6 k a) (ha:SlIn w 1 va ma ga) (hfa:∀ i,i<ma→Fits [some .i64] (ga i)) :
  Does Try.prog 6 #[v,va] w fun v w'=>v=.bool true∧Fr (fun _=>False) w w':=by
 obtain ⟨r,hR,hwf⟩:=nodes_in hf
 obtain ⟨xa,hxa,hma,ra,ha⟩:=ints_in ha hfa
 obtain ⟨hn,q,hq⟩:=hr
 obtain ⟨h1,h2⟩:=hq [q,ra] 0 rfl
 obtain ⟨h3,h4⟩:=ha [q,ra] 1 rfl
 exact (ReachFrom_tr n hn F r hR hwf ma hma xa hxa).law (vs':=[v,va]) [q,ra] w rfl (by
  intro y hy
  rcases List.mem_cons.1 hy with rfl | hy
  ·exact ⟨rfl,h2⟩
  ·cases List.mem_singleton.1 hy; exact ⟨rfl,h4⟩) ⟨h1,h3,trivial⟩
end Go.Proofs.Ythefbejopmbnbaa
end
