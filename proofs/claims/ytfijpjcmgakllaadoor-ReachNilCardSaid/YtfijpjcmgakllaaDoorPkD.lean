/-
  What the proof leans on, part 4: of the texts Join2, Lw, Lw2, Lw3, Lw4, Lw5, Lw6, Lw9, Lw11, Lw13, Lw23, Lw17, Lw28, Lw26, ReaA, ReaP, ReaB, ReaG, Lw24, Lw30, ReaS, ReaH, ReaI, ReaM, ReachNil.
-/
import Derived.Test.YtfijpjcmgakllaaDoorPkC
import Derived.Deep.Slices
import Derived.Ground.GgzProg
import Derived.Ground.SlgmProg
import Derived.Lib.AppendZerosOnto
import Derived.Lib.Overlaps
import Derived.Lib.SlKeysI
import Derived.Shelf.SlIterI.Keys
import Derived.Shelf.SlIterI.Sorted
import Derived.Shelf.SortM.Plain
import Derived.Shelf.SortM.SortNone
import Derived.Sort.OwnSortedInts
import Derived.Test.YtfijpjcmgakllaaDoorProg
set_option linter.unusedVariables false
set_option linter.unusedSimpArgs false
set_option linter.unusedSectionVars false
section
namespace Go.Tum
open Go
def inL (t:Nat):List Nat→Bool
 | []=>false
 | a::r=>bif Nat.beq a t then true else inL t r
def ExtD (dr:List Nat) (E E':Emb):Prop:=∀ (k:Nat) (r:Nat × Nat × Nat),inL k dr=false→E[k]?=some r→E'[k]?=some r
def nm0 (dr:List Nat):Value→Bool
 | .pointer (some a)=>(match a.spot with
  | none => !inL a.block dr
  | some _=>true)
 | .slice (some a) _ _=>(match a.spot with
  | none => !inL a.block dr
  | some _=>true)
 | .map (some b) => !inL b dr
 | _=>true
def nmS (dr:List Nat):Value→Bool
 | .func _ ⟨a⟩ ⟨c⟩=>a.all (nm0 dr) && c.all (nm0 dr)
 | v=>nm0 dr v
def nm1 (dr:List Nat):Value→Bool
 | .agg ⟨cs⟩=>cs.all (nmS dr)
 | v=>nmS dr v
def nmV (dr:List Nat):Value→Bool
 | .tuple ⟨vs⟩=>vs.all (nm1 dr)
 | v=>nm1 dr v
def nmB (dr:List Nat):LB→Bool
 | .cells _ vs=>vs.all (nmS dr)
 | .map m _=>m.all fun x=>nm1 dr x.1 && nm1 dr x.2.1
 | .iter (some b) _ _ _ => !inL b dr
 | _=>true
def nmE (dr:List Nat):Env→Bool
 | []=>true
 | (_,v)::r=>nmV dr v && nmE dr r
def nmT (dr:List Nat):Taken→Bool
 | []=>true
 | (_,_,l,v)::r=>nmE dr l && nmV dr v && nmT dr r
section
variable {E E':Emb} {dr:List Nat}
theorem S0.extD (h:ExtD dr E E') {v v':Value} (hn:nm0 dr v=true) (k:S0 E v v'):S0 E' v v':=by
 cases v <;> first|exact k | skip
 case pointer a =>
  cases a with
  | none=>exact k
  | some a=>rcases a with ⟨b,o,_ | s⟩ <;> first|exact k | (simp only [nm0,Bool.not_eq_true'] at hn; obtain ⟨a',h1,h2,r,h3,h4⟩:=k; exact ⟨a',h1,h2,r,h _ _ hn h3,h4⟩)
 case slice a n c =>
  cases a with
  | none=>exact k
  | some a=>rcases a with ⟨b,o,_ | s⟩ <;> first|exact k | (simp only [nm0,Bool.not_eq_true'] at hn; obtain ⟨h0,r,h1,h2⟩:=k; exact ⟨h0,r,h _ _ hn h1,h2⟩)
 case map a =>
  cases a with
  | none=>exact k
  | some a=>simp only [nm0,Bool.not_eq_true'] at hn; obtain ⟨r,h1,h2⟩:=k; exact ⟨r,h _ _ hn h1,h2⟩
theorem L2.monoM {R S:Value→Value→Prop} {p:Value→Bool} (h:∀ a b,p a=true→R a b→S a b):∀ {x y:List Value},x.all p=true→L2 R x y→L2 S x y
 | [],[],_,_=>trivial
 | a::r,b::s,hp,k=>by
  simp only [List.all_cons,Bool.and_eq_true] at hp
  exact ⟨h _ _ hp.1 k.1,L2.monoM h hp.2 k.2⟩
 | [],_::_,_,k=>k.elim
 | _::_,[],_,k=>k.elim
theorem SR.extD (h:ExtD dr E E') {v v':Value} (hn:nmS dr v=true) (k:SR E v v'):SR E' v v':=by
 cases v <;> first|exact k | skip
 case pointer a=>exact S0.extD h (v:=.pointer a) hn k
 case slice a n c=>exact S0.extD h (v:=.slice a n c) hn k
 case map a=>exact S0.extD h (v:=.map a) hn k
 case func f a c =>
  obtain ⟨a⟩:=a; obtain ⟨c⟩:=c; obtain ⟨a',c',h1,h2,h3⟩:=k
  simp only [nmS,Bool.and_eq_true] at hn
  exact ⟨a',c',h1,L2.monoM (p:=nm0 dr) (fun _ _ hp k=>S0.extD h hp k) hn.1 h2,L2.monoM (p:=nm0 dr) (fun _ _ hp k=>S0.extD h hp k) hn.2 h3⟩
theorem V1.extD (h:ExtD dr E E') {v v':Value} (hn:nm1 dr v=true) (k:V1 E v v'):V1 E' v v':=by
 cases v <;> first|exact k | skip
 case pointer a=>exact SR.extD h (v:=.pointer a) hn k
 case slice a n c=>exact SR.extD h (v:=.slice a n c) hn k
 case map a=>exact SR.extD h (v:=.map a) hn k
 case func f a c=>exact SR.extD h (v:=.func f a c) hn k
 case agg cs=>obtain ⟨cs⟩:=cs; obtain ⟨cs',h1,h2⟩:=k; exact ⟨cs',h1,L2.monoM (p:=nmS dr) (fun _ _ hp k=>SR.extD h hp k) hn h2⟩
theorem VR.extD (h:ExtD dr E E') {v v':Value} (hn:nmV dr v=true) (k:VR E v v'):VR E' v v':=by
 cases v <;> first|exact k | skip
 case pointer a=>exact V1.extD h (v:=.pointer a) hn k
 case slice a n c=>exact V1.extD h (v:=.slice a n c) hn k
 case map a=>exact V1.extD h (v:=.map a) hn k
 case func f a c=>exact V1.extD h (v:=.func f a c) hn k
 case agg cs=>exact V1.extD h (v:=.agg cs) hn k
 case tuple cs=>obtain ⟨cs⟩:=cs; obtain ⟨cs',h1,h2⟩:=k; exact ⟨cs',h1,L2.monoM (p:=nm1 dr) (fun _ _ hp k=>V1.extD h hp k) hn h2⟩
theorem nmE_get {dr:List Nat}:∀ {l:Env} {t:Nat} {v:Value},nmE dr l=true→eget l t=some v→nmV dr v=true
 | [],t,v,_,h=>by cases h
 | (k,u)::r,t,v,hn,h=>by
  simp only [nmE,Bool.and_eq_true] at hn
  rw [eget_cons] at h
  by_cases e:k=t
  ·rw [if_pos e] at h; cases h; exact hn.1
  ·rw [if_neg e] at h; exact nmE_get hn.2 h
theorem ER.extD (h:ExtD dr E E') {l l':Env} (hn:nmE dr l=true) (k:ER E l l'):ER E' l l':=fun t v ht=>let ⟨v',h1,h2⟩:=k t v ht; ⟨v',h1,h2.extD h (nmE_get hn ht)⟩
theorem M2.extD (h:ExtD dr E E'):∀ {m:List (Value × Value × Nat)} {es:List MapEntry},(m.all fun x=>nm1 dr x.1 && nm1 dr x.2.1)=true→M2 E m es→M2 E' m es
 | [],[],_,_=>trivial
 | _::_,_::_,hn,k=>by
  simp only [List.all_cons,Bool.and_eq_true] at hn
  exact ⟨⟨k.1.1.extD h hn.1.1,k.1.2.1.extD h hn.1.2,k.1.2.2⟩,k.2.extD h hn.2⟩
 | [],_::_,_,k=>k.elim
 | _::_,[],_,k=>k.elim
theorem LBis.extD {w:World} {r:Nat × Nat × Nat} {x:LB} (h:LBis E w r x) (hn:nmB dr x=true) (he:ExtD dr E E'):LBis E' w r x:=by
 cases x with
 | cells sz vs=>obtain ⟨cs,h1,h2,h3⟩:=h; exact ⟨cs,h1,L2.monoM (p:=nmS dr) (fun _ _ hp k=>SR.extD he hp k) hn h2,h3⟩
 | data vs=>exact h
 | bytes n x=>exact h
 | gro sz vs=>exact h
 | map m c=>obtain ⟨es,h1,h2⟩:=h; exact ⟨es,h1,h2.extD he hn⟩
 | iter m a b c =>
  obtain ⟨h0,es,h1,h2⟩:=h
  refine ⟨h0,es,h1,?_⟩
  cases m with
  | none=>exact h2
  | some b=>simp only [nmB,Bool.not_eq_true'] at hn; obtain ⟨q,h3,h4⟩:=h2; exact ⟨q,he _ _ hn h3,h4⟩
 | dead=>trivial
 | abs A F=>exact h
 | imap G c=>exact h
theorem TR.extD {P:Program} (h:ExtD dr E E'):∀ {T:Taken} {F:Facts},nmT dr T=true→TR P E T F→TR P E' T F
 | [],[],_,_=>trivial
 | (_,_,_,_)::_,(_,_)::_,hn,k=>by
  simp only [nmT,Bool.and_eq_true] at hn
  obtain ⟨h1,⟨l',v',h2,h3,h4⟩,h5⟩:=k
  exact ⟨h1,⟨l',v',h2,h3.extD h hn.1.1,h4.extD h hn.1.2⟩,h5.extD h hn.2⟩
 | [],_::_,_,k=>k.elim
 | _::_,[],_,k=>k.elim
end
def eset:Emb→List Nat→Emb→Emb
 | E,k::φ,x::r=>eset (E.set k x) φ r
 | E,_,_=>E
theorem eset_length:∀ (φ:List Nat) (E r:Emb),(eset E φ r).length=E.length
 | [],E,r=>by simp [eset]
 | k::φ,E,[]=>by simp [eset]
 | k::φ,E,x::r=>by simp only [eset]; rw [eset_length φ]; simp
theorem eset_other:∀ (φ:List Nat) (E r:Emb) (k:Nat),k∉φ→(eset E φ r)[k]?=E[k]?
 | [],E,r,k,_=>by simp [eset]
 | j::φ,E,[],k,_=>by simp [eset]
 | j::φ,E,x::r,k,h=>by
  simp only [List.mem_cons,not_or] at h
  simp only [eset]
  rw [eset_other φ _ r k h.2,List.getElem?_set,if_neg (fun e=>h.1 e.symm)]
theorem eset_at:∀ (φ:List Nat) (E r:Emb) (j k:Nat) (x:Nat × Nat × Nat),φ.Nodup→φ[j]?=some k→r[j]?=some x→k<E.length→(eset E φ r)[k]?=some x
 | [],E,r,j,k,x,_,h,_,_=>by simp at h
 | i::φ,E,[],j,k,x,_,_,h,_=>by simp at h
 | i::φ,E,y::r,0,k,x,hn,h1,h2,hk=>by
  simp at h1 h2; subst h1; subst h2
  simp only [eset]
  rw [eset_other φ _ r i (List.nodup_cons.1 hn).1,List.getElem?_set,if_pos rfl,if_pos hk]
 | i::φ,E,y::r,j+1,k,x,hn,h1,h2,hk=>by
  simp at h1 h2
  simp only [eset]
  exact eset_at φ _ r j k x (List.nodup_cons.1 hn).2 h1 h2 (by simpa using hk)
def dropped (keep:List Nat):Nat→List Nat→List Nat
 | _,[]=>[]
 | i,k::φ=>bif inL i keep then dropped keep (i+1) φ else k::dropped keep (i+1) φ
theorem inL_mem:∀ {t:Nat} {l:List Nat},inL t l=true↔t∈l
 | t,[]=>by simp [inL]
 | t,a::r=>by
  simp only [inL,List.mem_cons]
  cases h:Nat.beq a t
  ·have:¬ t=a:=by intro e; subst e; simp at h
   simp [this,inL_mem (l:=r)]
  ·have:=Nat.eq_of_beq_eq_true h
   simp [this]
theorem dropped_no {keep:List Nat}:∀ {φ:List Nat} {i j k:Nat},φ[j]?=some k→inL k (dropped keep i φ)=false→inL (i+j) keep=true
 | [],i,j,k,h,_=>by simp at h
 | a::φ,i,0,k,h,hd=>by
  simp at h; subst h
  simp only [dropped] at hd
  cases hk:inL i keep
  ·rw [hk] at hd; simp [inL] at hd
  ·rfl
 | a::φ,i,j+1,k,h,hd=>by
  simp at h
  simp only [dropped] at hd
  have hd':inL k (dropped keep (i+1) φ)=false:=by
   cases hk:inL i keep
   ·rw [hk] at hd
    simp only [cond_false,inL] at hd
    cases hq:Nat.beq a k
    ·rw [hq] at hd; exact hd
    ·rw [hq] at hd; cases hd
   ·rw [hk] at hd; exact hd
  have:=dropped_no h hd'
  rwa [show i+1+j=i+(j+1) by omega] at this
def nmL (dr φ:List Nat):Nat→LH→Bool
 | _,[]=>true
 | i,x::r=>(inL i φ || nmB dr x) && nmL dr φ (i+1) r
theorem nmL_ok {dr φ:List Nat}:∀ {L:LH} {i k:Nat} {x:LB},nmL dr φ i L=true→L[k]?=some x→i+k∉φ→nmB dr x=true
 | [],i,k,x,_,h,_=>by simp at h
 | y::r,i,0,x,h,hx,hn=>by
  simp at hx; subst hx
  simp only [nmL,Bool.and_eq_true,Bool.or_eq_true] at h
  rcases h.1 with h1 | h1
  ·exact absurd (inL_mem.1 h1) hn
  ·exact h1
 | y::r,i,k+1,x,h,hx,hn=>by
  simp at hx
  simp only [nmL,Bool.and_eq_true] at h
  exact nmL_ok h.2 hx (by rwa [show i+1+k=i+(k+1) by omega])
theorem Rep.joinW {X:Nat→Prop} {w0 w w':World} {E E1:Emb} {M L L1:LH} {φ keep:List Nat} (hp:Part φ M L) (h:Rep X w0 E M w) (hx:∀ k r,inL k keep=true→(subE E φ)[k]?=some r→E1[k]?=some r) (hlen1:L.length≤L1.length) (hm:nmL (dropped keep 0 φ) φ 0 M=true)
  (h1:Rep (footL (subE E φ) L) w E1 L1 w') :
  ∃ E',ExtD (dropped keep 0 φ) E E'∧Into E1 E' (M.length+L1.length) (phi2 φ M.length L1)∧Rep X w0 E' (joinL φ M L1) w':=by
 have hL1:φ.length≤L1.length:=by rw [hp.len]; exact hlen1
 have hE1:φ.length≤E1.length:=by rw [h1.len]; exact hL1
 have atφ:∀ (j k:Nat),φ[j]?=some k→∃ r,E[k]?=some r∧(subE E φ)[j]?=some r∧k<M.length:=by
  intro j k hj
  have hjl:j<L.length:=by rw [← hp.len]; exact (List.getElem?_eq_some_iff.1 hj).1
  obtain ⟨k',hk',hM⟩:=hp.blk j _ (List.getElem?_eq_getElem hjl)
  rw [hj] at hk'; cases hk'
  obtain ⟨r,hr⟩:=h.ent hM
  exact ⟨r,hr,by simp [subE,hj,hr],(List.getElem?_eq_some_iff.1 hM).1⟩
 let E':=eset E φ E1++E1.drop φ.length
 have hlenE:(eset E φ E1).length=M.length:=by rw [eset_length,h.len]
 have old:∀ k,k<M.length→E'[k]?=(eset E φ E1)[k]?:=fun k hk=>by
  show (eset E φ E1++E1.drop φ.length)[k]?=_
  rw [List.getElem?_append_left (by rw [hlenE]; exact hk)]
 have atφ':∀ (j k:Nat) (r:Nat × Nat × Nat),φ[j]?=some k→E1[j]?=some r→E'[k]?=some r:=by
  intro j k r hj hr
  obtain ⟨_,_,_,hk⟩:=atφ j k hj
  rw [old k hk]
  exact eset_at φ E E1 j k r hp.nodup hj hr (by rw [h.len]; exact hk)
 have hEE:ExtD (dropped keep 0 φ) E E':=by
  intro k r hn hk
  have hkl:k<M.length:=by rw [← h.len]; exact (List.getElem?_eq_some_iff.1 hk).1
  by_cases hmem:k∈φ
  ·obtain ⟨j,hj⟩:=List.getElem?_of_mem hmem
   obtain ⟨r',e1,e2,_⟩:=atφ j k hj
   rw [hk] at e1; cases e1
   have:=dropped_no hj hn
   rw [Nat.zero_add] at this
   exact atφ' j k r hj (hx j r this e2)
  ·rw [old k hkl,eset_other φ E E1 k hmem]; exact hk
 have hnew:∀ (i:Nat),E'[M.length+i]?=E1[φ.length+i]?:=by
  intro i
  show (eset E φ E1++E1.drop φ.length)[M.length+i]?=_
  rw [List.getElem?_append_right (by rw [hlenE]; omega),hlenE,List.getElem?_drop]
  congr 1; omega
 have rnv:∀ (b:Nat),b<L1.length→(b<φ.length∧φ[b]?=some (rn (M.length+L1.length) (phi2 φ M.length L1) b))∨(φ.length≤b∧rn (M.length+L1.length) (phi2 φ M.length L1) b=M.length+(b-φ.length)):=by
  intro b hb
  unfold rn phi2
  rcases Nat.lt_or_ge b φ.length with hlt | hge
  ·left
   refine ⟨hlt,?_⟩
   rw [List.getElem?_append_left hlt,List.getElem?_eq_getElem hlt]
   rfl
  ·right
   refine ⟨hge,?_⟩
   rw [List.getElem?_append_right hge,seqN_get _ _ _ (by omega)]
   rfl
 have hinto:Into E1 E' (M.length+L1.length) (phi2 φ M.length L1):=by
  intro b r hb
  have hbl:b<L1.length:=by rw [← h1.len]; exact (List.getElem?_eq_some_iff.1 hb).1
  rcases rnv b hbl with ⟨hlt,hφ⟩ | ⟨hge,hφ⟩
  ·exact atφ' b _ r hφ hb
  ·rw [hφ,hnew]
   rw [show φ.length+(b-φ.length)=b by omega]; exact hb
 have hlenJ:(joinL φ M L1).length=M.length+(L1.length-φ.length):=by
  unfold joinL
  simp only [List.length_append,jset_length,List.length_map,List.length_drop]
 have cut:∀ (k:Nat) (z:LB) (r:Nat × Nat × Nat),(joinL φ M L1)[k]?=some z→E'[k]?=some r →
   (∃ j x,L1[j]?=some x∧E1[j]?=some r∧z=rnB (M.length+L1.length) (phi2 φ M.length L1) x∧k=rn (M.length+L1.length) (phi2 φ M.length L1) j)∨(k∉φ∧M[k]?=some z∧E[k]?=some r):=by
  intro k z r hz hr
  unfold joinL at hz
  rcases Nat.lt_or_ge k M.length with hlt | hge
  ·rw [List.getElem?_append_left (by rw [jset_length]; exact hlt)] at hz
   rw [old k hlt] at hr
   by_cases hmm:k∈φ
   ·left
    obtain ⟨j,hj⟩:=List.getElem?_of_mem hmm
    have hjφ:=(List.getElem?_eq_some_iff.1 hj).1
    have hjl:j<L1.length:=by omega
    have hje:j<E1.length:=by omega
    refine ⟨j,L1[j],List.getElem?_eq_getElem hjl,?_,?_,?_⟩
    ·have:=eset_at φ E E1 j k E1[j] hp.nodup hj (List.getElem?_eq_getElem hje) (by rw [h.len]; exact hlt)
     rw [this] at hr; cases hr
     exact List.getElem?_eq_getElem hje
    ·have:=jset_at φ M ((L1.take φ.length).map (rnB (M.length+L1.length) (phi2 φ M.length L1))) j k (rnB (M.length+L1.length) (phi2 φ M.length L1) L1[j]) hp.nodup hj (by simp [hjφ,hjl]) hlt
     rw [this] at hz; cases hz; rfl
    ·rcases rnv j hjl with ⟨_,e⟩ | ⟨e,_⟩
     ·rw [hj] at e; cases e; rfl
     ·omega
   ·right
    rw [jset_other φ M _ k hmm] at hz
    rw [eset_other φ E E1 k hmm] at hr
    exact ⟨hmm,hz,hr⟩
  ·left
   rw [List.getElem?_append_right (by rw [jset_length]; exact hge),jset_length] at hz
   simp only [List.getElem?_map,List.getElem?_drop] at hz
   cases hq:L1[φ.length+(k-M.length)]? with
   | none=>rw [hq] at hz; cases hz
   | some x =>
    rw [hq] at hz; cases hz
    have hjl:=(List.getElem?_eq_some_iff.1 hq).1
    refine ⟨φ.length+(k-M.length),x,hq,?_,rfl,?_⟩
    ·have:=hnew (k-M.length)
     rw [show M.length+(k-M.length)=k by omega] at this
     rw [← this]; exact hr
    ·rcases rnv _ hjl with ⟨e,_⟩ | ⟨_,e⟩
     ·omega
     ·rw [e]; omega
 have own:∀ b,footL (subE E φ) L b→∃ k x r,k∈φ∧M[k]?=some x∧E[k]?=some r∧foot r x b:=by
  rintro b ⟨k,x,r,hx,hr,hf⟩
  obtain ⟨j,hj,hM⟩:=hp.blk k x hx
  obtain ⟨r',e1,e2,_⟩:=atφ k j hj
  rw [hr] at e2; cases e2
  exact ⟨j,_,r,List.mem_of_getElem? hj,hM,e1,by rw [foot_rn]; exact hf⟩
 have hbsize:w.heap.size≤w'.heap.size:=h1.fr.size
 refine ⟨E',hEE,hinto,⟨h.fr.trans h1.fr fun b hb hf=>?_,?_,fun k z r hz hr b hf=>?_,fun k z r hz hr=>?_,fun k k' z z' r r' b hz hz' hr hr' hf hf'=>?_⟩⟩
 ·obtain ⟨k,x,r,_,hM,hE,hf⟩:=own b hf
  rcases (h.rng k x r hM hE b hf).1 with h2 | h2
  ·omega
  ·exact h2
 ·show (eset E φ E1++E1.drop φ.length).length=_
  rw [hlenJ,List.length_append,List.length_drop,hlenE,h1.len]
 ·rcases cut k z r hz hr with ⟨j,x,hx',hr1,rfl,_⟩ | ⟨_,hM,hE⟩
  ·rw [foot_rn] at hf
   have:=h1.rng j x r hx' hr1 b hf
   refine ⟨?_,this.2⟩
   rcases this.1 with h2 | h2
   ·have:=h.fr.size; exact .inl (by omega)
   ·obtain ⟨k2,x2,r2,_,hM2,hE2,hf2⟩:=own b h2
    exact (h.rng k2 x2 r2 hM2 hE2 b hf2).1
  ·have:=h.rng k z r hM hE b hf
   exact ⟨this.1,by omega⟩
 ·rcases cut k z r hz hr with ⟨j,x,hx',hr1,rfl,_⟩ | ⟨hmm,hM,hE⟩
  ·exact (h1.blk j x r hx' hr1).into hinto
  ·refine LBis.extD ((h.blk k z r hM hE).fr h1.fr (fun b hb=>(h.rng k z r hM hE b hb).2) fun b hb hf=>?_) (nmL_ok hm hM (by rw [Nat.zero_add]; exact hmm)) hEE
   obtain ⟨k2,x2,r2,hm2,hM2,hE2,hf2⟩:=own b hf
   have:=h.inj k k2 z x2 r r2 b hM hM2 hE hE2 hb hf2
   subst this; exact hmm hm2
 ·have mixed:∀ (j:Nat) (x:LB) (r1:Nat × Nat × Nat) (k:Nat) (z:LB) (r2:Nat × Nat × Nat),L1[j]?=some x→E1[j]?=some r1→foot r1 x b→k∉φ→M[k]?=some z→E[k]?=some r2→foot r2 z b→False:=by
   intro j x r1 k z r2 hx' hr1 hf1 hmm hM hE hf2
   rcases (h1.rng j x r1 hx' hr1 b hf1).1 with h2 | h2
   ·have:=(h.rng k z r2 hM hE b hf2).2; omega
   ·obtain ⟨k2,x2,r3,hm2,hM2,hE2,hf3⟩:=own b h2
    have:=h.inj k k2 z x2 r2 r3 b hM hM2 hE hE2 hf2 hf3
    subst this; exact hmm hm2
  rcases cut k z r hz hr with ⟨j,x,hx',hr1,rfl,hk⟩ | ⟨hmm,hM,hE⟩
  ·rw [foot_rn] at hf
   rcases cut k' z' r' hz' hr' with ⟨j',x',hx2,hr2,rfl,hk'⟩ | ⟨hm',hM',hE'⟩
   ·rw [foot_rn] at hf'
    have:=h1.inj j j' x x' r r' b hx' hx2 hr1 hr2 hf hf'
    subst this; rw [hk,hk']
   ·exact (mixed j x r k' z' r' hx' hr1 hf hm' hM' hE' hf').elim
  ·rcases cut k' z' r' hz' hr' with ⟨j',x',hx2,hr2,rfl,hk'⟩ | ⟨hm',hM',hE'⟩
   ·rw [foot_rn] at hf'
    exact (mixed j' x' r' k z r hx2 hr2 hf' hmm hM hE hf).elim
   ·exact h.inj k k' z z' r r' b hM hM' hE hE' hf hf'
end Go.Tum
end
section
namespace Go.Tum
open Go
inductive AV where
 | v (u:Value)
 | s (a:Addr) (n c m:Nat) (get:Nat→AV)
def AV.is (X:Nat→Prop) (w0:World):AV→Value→Prop
 | .v u,x=>x=u
 | .s a n c m get,x=>(x=.slice (some ⟨a.block,a.off,none⟩) n c∨(n=0∧c=0∧∃ a',x=.slice a' 0 0))∧(0<m→a.block<w0.heap.size∧¬ X a.block∧∀ i,i<m→∃ y,w0.cell? ⟨a.block,a.off+i,none⟩=some y∧(get i).is X w0 y)
abbrev Args:=List (Nat × Nat × (Nat→AV))
def ArgAt (X:Nat→Prop) (w0:World) (E0:Emb) (k m:Nat) (get:Nat→AV):Prop :=
 0<m→∃ r,E0[k]?=some r∧r.1<w0.heap.size∧¬ X r.1∧∀ i,i<m→∃ y,w0.cell? ⟨r.1,r.2.1+i,none⟩=some y∧(get i).is X w0 y
structure NA where
 n:Nat
 A:Args
 /-- the names that must stay what they are -/
 keep:List Nat
def tabTz:List Int:=[0,1,56,2,57,49,28,3,61,58,42,50,38,29,17,4,62,47,59,36,45,43,51,22,53,39,33,30,24,18,12,5,63,55,48,27,60,41,37,16,46,35,44,21,52,32,23,11,54,26,40,15,34,20,31,10,25,14,19,9,13,8,7,6]
def tabG (P:Program):Option Nat:=P.globalNamed "math/bits.deBruijn64tab"
def TabOk (P:Program) (X:Nat→Prop) (w:World):Prop:=∀ g,tabG P=some g→(∀ (i:Nat) (x:Int),tabTz[i]?=some x→w.cell? ⟨g,i,none⟩=some (.int .u8 x))∧¬ X g∧g<w.heap.size
def NA.Ok (n0:NA) (P:Program) (X:Nat→Prop) (w0:World) (E0:Emb):Prop:=E0.length=n0.n∧(∀ x∈n0.A,inL x.1 n0.keep=true∧ArgAt X w0 E0 x.1 x.2.1 x.2.2)∧TabOk P X w0
def NA.Ext (n0:NA) (E0 E:Emb):Prop:=∀ (k:Nat) (r:Nat × Nat × Nat),inL k n0.keep=true→E0[k]?=some r→E[k]?=some r
theorem NA.Ext.trans {n0:NA} {E0 E E1:Emb} (h:n0.Ext E0 E) (k:Tum.Ext E E1):n0.Ext E0 E1:=fun i r hi hr=>k i r (h i r hi hr)
theorem NA.Ext.refl (n0:NA) (E:Emb):n0.Ext E E:=fun _ _ _ h=>h
def keepOk (sel:List Nat):List Nat→Bool
 | []=>true
 | k::ks=>(match sel[k]? with
  | some j=>Nat.beq j k
  | none=>false) && keepOk sel ks
theorem keepOk_ok {sel:List Nat}:∀ {ks:List Nat} {k:Nat},keepOk sel ks=true→inL k ks=true→sel[k]?=some k
 | [],k,_,h=>by cases h
 | a::ks,k,h,hk=>by
  simp only [keepOk,Bool.and_eq_true] at h
  simp only [inL] at hk
  cases hq:Nat.beq a k
  ·rw [hq] at hk; exact keepOk_ok h.2 hk
  ·have:=Nat.eq_of_beq_eq_true hq
   subst this
   have h1:=h.1
   split at h1
   ·rename_i j hj; rw [hj,Nat.eq_of_beq_eq_true h1]
   ·cases h1
theorem NA.Ext.sub {n0:NA} {E0 E:Emb} {sel:List Nat} (h:n0.Ext E0 E) (hs:keepOk sel n0.keep=true):n0.Ext E0 (subE E sel):=by
 intro k r hk hr
 have h1:=keepOk_ok hs hk
 have h2:=h k r hk hr
 simp [subE,h1,h2]
def Fin (n0:NA) (X:Nat→Prop) (w0:World) (E0:Emb) (Q:Env→LH→Prop) (l':Env) (w:World):Prop:=∃ E l L,n0.Ext E0 E∧Rep X w0 E L w∧ER E l l'∧Q l L
structure LWp (P:Program) (n0:NA) (m:MC) (Q:Exit→Env→LH→Prop) (l:Env) (L:LH):Prop where
 go:∀ (X:Nat→Prop) (w0:World) (E0:Emb) (w:World) (E:Emb) (l':Env),n0.Ok P X w0 E0→n0.Ext E0 E→Rep X w0 E L w→ER E l l'→MWp P m (fun e=>Fin n0 X w0 E0 (Q e)) l' w
structure LSt (P:Program) (n0:NA) (ss:List Step) (K:Env→LH→Prop) (l:Env) (T:Taken) (L:LH):Prop where
 go:∀ (X:Nat→Prop) (w0:World) (E0:Emb) (w:World) (E:Emb) (l':Env) (F:Facts),n0.Ok P X w0 E0→n0.Ext E0 E→Rep X w0 E L w→ER E l l'→TR P E T F→stepsWp P ss (Fin n0 X w0 E0 K) l' F w
def Nx (n0:NA) (k:Env→LH→Prop) (l:Env) (L:LH):Prop :=
 ∀ (X:Nat→Prop) (w0:World) (E0:Emb) (w:World) (E:Emb) (l':Env),n0.Ext E0 E→Rep X w0 E L w→ER E l l'→∃ l'',Sub l'' l'∧Fin n0 X w0 E0 k l'' w
abbrev thenL (next:Env→LH→Prop) (Q:Exit→Env→LH→Prop):Exit→Env→LH→Prop
 | .normal,l,L=>next l L
 | e,l,L=>Q e l L
abbrev blkL (id:Nat) (Q:Exit→Env→LH→Prop):Exit→Env→LH→Prop
 | .exit id',l,L=>if id'=id then Q .normal l L else Q (.exit id') l L
 | e,l,L=>Q e l L
section
variable {P:Program} {n0:NA} {Q:Exit→Env→LH→Prop} {K:Env→LH→Prop} {l:Env} {L:LH} {T:Taken}
theorem Nx.go {k:Env→LH→Prop} (h:k l L):Nx n0 k l L:=fun _ _ _ _ E l' hE hR hl=>⟨l',Sub.refl _,E,l,L,hE,hR,hl,h⟩
theorem Nx.pickN {k:Env→LH→Prop} {l1:Env} {L1:LH} (ks sel:List Nat) (g0:keepOk sel n0.keep=true) (g1:letGoE sel L (repick l ks)=some l1) (g2:letGo sel L=some L1) (h:Nx n0 k l1 L1):Nx n0 k l L:=by
 intro X w0 E0 w E l' hE hR hl
 obtain ⟨l2,h5,h6⟩:=repick_ok hl ks
 obtain ⟨l3,h7,h8⟩:=h X w0 E0 w (subE E sel) l2 (hE.sub g0) (letGo_ok g2 hR) (letGoE_ok g1 hR h6)
 exact ⟨l3,fun t v ht=>h5 t v (h7 t v ht),h8⟩
theorem Nx.pick {k:Env→LH→Prop} {l1:Env} {L1:LH} (ks sel:List Nat) (h0:keepOk sel n0.keep=true) (h1:letGoE sel L (repick l ks)=some l1) (h2:letGo sel L=some L1) (h:k l1 L1):Nx n0 k l L:=Nx.pickN ks sel h0 h1 h2 (Nx.go h)
theorem Nx.fin {k:Env→LH→Prop} {X:Nat→Prop} {w0 w:World} {E0 E:Emb} {l':Env} (h:Nx n0 k l L) (hE:n0.Ext E0 E) (hR:Rep X w0 E L w) (hl:ER E l l'):∃ l'',Sub l'' l'∧Fin n0 X w0 E0 k l'' w:=h X w0 E0 w E l' hE hR hl
theorem LWp.pick {m:MC} {l1:Env} {L1:LH} (ks sel:List Nat) (g0:keepOk sel n0.keep=true) (g1:letGoE sel L (repick l ks)=some l1) (g2:letGo sel L=some L1) (h:LWp P n0 m Q l1 L1):LWp P n0 m Q l L :=
 ⟨fun X w0 E0 w E l' h0 hE hR hl=>h.go X w0 E0 w (subE E sel) l' h0 (hE.sub g0) (letGo_ok g2 hR) (letGoE_ok g1 hR (hl.repick ks))⟩
theorem L_skip (h:Q .normal l L):LWp P n0 .skip Q l L:=⟨fun _ _ _ _ E _ _ hE hR hl=>⟨E,l,L,hE,hR,hl,h⟩⟩
theorem L_ret (h:Q .ret l L):LWp P n0 .ret Q l L:=⟨fun _ _ _ _ E _ _ hE hR hl=>⟨E,l,L,hE,hR,hl,h⟩⟩
theorem L_exit {id:Nat} (h:Q (.exit id) l L):LWp P n0 (.exit id) Q l L:=⟨fun _ _ _ _ E _ _ hE hR hl=>⟨E,l,L,hE,hR,hl,h⟩⟩
theorem L_reg {ss:List Step} (h:LSt P n0 ss (Q .normal) l [] L):LWp P n0 (.reg ss) Q l L:=⟨fun X w0 E0 w E l' h0 hE hR hl=>h.go X w0 E0 w E l' [] h0 hE hR hl trivial⟩
theorem L_seq {a b:MC} (h:LWp P n0 a (thenL (Nx n0 (LWp P n0 b Q)) Q) l L):LWp P n0 (.seq a b) Q l L:=by
 refine ⟨fun X w0 E0 w E l' h0 hE hR hl=>?_⟩
 refine MWp.mono a (fun e l1 w1 hf=>?_) (h.go X w0 E0 w E l' h0 hE hR hl)
 obtain ⟨E1,l2,L2,k1,k2,k3,k4⟩:=hf
 cases e with
 | normal =>
  obtain ⟨l3,h3,E3,l4,L4,g1,g2,g3,g4⟩:=Nx.fin k4 k1 k2 k3
  exact ⟨l3,h3,g4.go X w0 E0 w1 E3 l3 h0 g1 g2 g3⟩
 | ret=>exact ⟨E1,l2,L2,k1,k2,k3,k4⟩
 | exit i=>exact ⟨E1,l2,L2,k1,k2,k3,k4⟩
 | goto i=>exact ⟨E1,l2,L2,k1,k2,k3,k4⟩
 | panic c=>exact ⟨E1,l2,L2,k1,k2,k3,k4⟩
 | outgrown=>exact ⟨E1,l2,L2,k1,k2,k3,k4⟩
theorem L_rs {ss:List Step} {b:MC} (h:LSt P n0 ss (Nx n0 (LWp P n0 b Q)) l [] L):LWp P n0 (.seq (.reg ss) b) Q l L:=L_seq (L_reg h)
theorem L_if {c:Operand} {x y:MC} {t:Bool} (hc:lv l c=some (.bool t)) (ht:t=true→LWp P n0 x Q (knows c true l) L) (hf:t=false→LWp P n0 y Q (knows c false l) L):LWp P n0 (.cond c x y) Q l L:=by
 refine ⟨fun X w0 E0 w E l' h0 hE hR hl=>?_⟩
 obtain ⟨_,h1,rfl⟩:=lv_ev hl hc
 exact ⟨t,h1,fun e=>(ht e).go X w0 E0 w E _ h0 hE hR (hl.knows c true),fun e=>(hf e).go X w0 E0 w E _ h0 hE hR (hl.knows c false)⟩
theorem L_true {c:Operand} {x y:MC} (hc:lv l c=some (.bool true)) (h:LWp P n0 x Q (knows c true l) L):LWp P n0 (.cond c x y) Q l L:=L_if hc (fun _=>h) (fun e=>by cases e)
theorem L_false {c:Operand} {x y:MC} (hc:lv l c=some (.bool false)) (h:LWp P n0 y Q (knows c false l) L):LWp P n0 (.cond c x y) Q l L:=L_if hc (fun e=>by cases e) (fun _=>h)
theorem L_block {id:Nat} {b:MC} (h:LWp P n0 b (blkL id Q) l L):LWp P n0 (.block id b) Q l L:=by
 refine ⟨fun X w0 E0 w E l' h0 hE hR hl=>?_⟩
 refine MWp.mono b (fun e l1 w1 hf=>?_) (h.go X w0 E0 w E l' h0 hE hR hl)
 obtain ⟨E1,l2,L2,k1,k2,k3,k4⟩:=hf
 cases e with
 | exit i =>
  simp only [blkQ]
  simp only [blkL] at k4
  by_cases e:i=id
  ·rw [if_pos e] at k4 ⊢; exact ⟨E1,l2,L2,k1,k2,k3,k4⟩
  ·rw [if_neg e] at k4 ⊢; exact ⟨E1,l2,L2,k1,k2,k3,k4⟩
 | normal=>exact ⟨E1,l2,L2,k1,k2,k3,k4⟩
 | ret=>exact ⟨E1,l2,L2,k1,k2,k3,k4⟩
 | goto i=>exact ⟨E1,l2,L2,k1,k2,k3,k4⟩
 | panic c=>exact ⟨E1,l2,L2,k1,k2,k3,k4⟩
 | outgrown=>exact ⟨E1,l2,L2,k1,k2,k3,k4⟩
theorem L_loop {b:MC} (I:Nat→Env→LH→Prop) (n:Nat) (h0:I n l L) (h:∀ n l L,I n l L→LWp P n0 b (thenL (Nx n0 (fun l L=>∃ m,m<n∧I m l L)) Q) l L):LWp P n0 (.loop b) Q l L:=by
 refine ⟨fun X w0 E0 w E l' hn hE hR hl=>?_⟩
 refine ⟨fun n l' w=>Fin n0 X w0 E0 (I n) l' w,n,⟨E,l,L,hE,hR,hl,h0⟩,?_⟩
 rintro n l' w ⟨E,l,L,hE,hR,hl,hI⟩
 refine MWp.mono b (fun e l1 w1 hf=>?_) ((h n l L hI).go X w0 E0 w E l' hn hE hR hl)
 obtain ⟨E1,l2,L2,k1,k2,k3,k4⟩:=hf
 cases e with
 | normal =>
  obtain ⟨l3,h3,E3,l4,L4,g1,g2,g3,m,g4,g5⟩:=Nx.fin k4 k1 k2 k3
  exact ⟨m,g4,l3,h3,E3,l4,L4,g1,g2,g3,g5⟩
 | ret=>exact ⟨E1,l2,L2,k1,k2,k3,k4⟩
 | exit i=>exact ⟨E1,l2,L2,k1,k2,k3,k4⟩
 | goto i=>exact ⟨E1,l2,L2,k1,k2,k3,k4⟩
 | panic c=>exact ⟨E1,l2,L2,k1,k2,k3,k4⟩
 | outgrown=>exact ⟨E1,l2,L2,k1,k2,k3,k4⟩
def QY (P:Program) (n0:NA) (L:LH) (l:Env) (q:QOp) (v:Value):Prop :=
 ∀ (X:Nat→Prop) (w0:World) (E0:Emb) (w:World) (E:Emb) (l':Env),n0.Ok P X w0 E0→n0.Ext E0 E→Rep X w0 E L w→ER E l l'→∃ v',q.Y P l' v' w∧VR E v v'
theorem QY.of {q:QOp} {v:Value} (h:lq (rawQ1 P) L l q=some v):QY P n0 L l q v:=fun _ _ _ _ _ _ _ _ hR hl=>lq_ok (rawQ1_ok P) h hR hl
def Sure (v:Value):Prop:=∀ (E:Emb) (a b:Value),VR E v a→VR E v b→a=b
theorem Sure.of {v:Value} (h:sure v=true):Sure v:=fun _ _ _ h1 h2=>VR.fn h h1 h2
def chkP (P:Program) (n0:NA) (T:Taken) (L:LH):List Nat→Prop
 | []=>True
 | k::ks=>(match tfind T k with
  | some (q,l,v)=>QY P n0 L l q v∧Sure v
  | none=>True)∧chkP P n0 T L ks
theorem chkP_ok {X:Nat→Prop} {w0 w w':World} {E0 E:Emb} {F:Facts} (h0:n0.Ok P X w0 E0) (hE:n0.Ext E0 E) (hR:Rep X w0 E L w') (hT:TR P E T F):∀ (ks:List Nat),chkP P n0 T L ks→pendOk F w w' ks
 | [],_=>trivial
 | k::ks,h=>by
  refine ⟨?_,chkP_ok h0 hE hR hT ks h.2⟩
  rcases hT.find k with ⟨h1,h2⟩ | ⟨q,l,v,l',v',h1,h2,h3,h4⟩
  ·rw [h2]; trivial
  ·rw [h2]
   have h5:=h.1
   rw [h1] at h5
   intro _
   obtain ⟨v'',h6,h7⟩:=h5.1 X w0 E0 w' E l' h0 hE hR h3
   rw [h5.2 E _ _ h4 h7]
   exact h6
def EW (P:Program) (n0:NA) (L:LH) (l:Env) (e:EOp) (R:Value→LH→Prop):Prop :=
 ∀ (X:Nat→Prop) (w0:World) (E0:Emb) (w:World) (E:Emb) (l':Env) (Kf:Value→World→Prop),n0.Ok P X w0 E0→n0.Ext E0 E→Rep X w0 E L w→ER E l l'→(∀ w' E' v' v L',R v L'→Ext E E'→Rep X w0 E' L' w'→VR E' v v'→Kf v' w')→e.W P Kf l' w
theorem EW.of {e:EOp} {v:Value} {L':LH} (h:le (fun _ _ _=>none) (rawE2 P) L l e=some (v,L')):EW P n0 L l e (fun u K=>u=v∧K=L'):=by
 intro X w0 E0 w E l' Kf h0 hE hR hl hK
 refine le_ok (P:=P) (X:=X) (w0:=w0) (fun _ _ _ _ _ _ _ _ h=>by cases h) (rawE2_ok P) h hR hl fun w' E' v' h1 h2 h3=>hK w' E' v' v L' ⟨rfl,rfl⟩ h1 h2 h3
theorem EW.mono {e:EOp} {R R':Value→LH→Prop} (h:EW P n0 L l e R) (hr:∀ v L',R v L'→R' v L'):EW P n0 L l e R' :=
 fun X w0 E0 w E l' Kf h0 hE hR hl hK=>h X w0 E0 w E l' Kf h0 hE hR hl fun w' E' v' v L' h1=>hK w' E' v' v L' (hr v L' h1)
variable {k:Nat} {d:Option Nat} {g:Option (Nat × Bool)} {op:QOp} {eo:EOp} {rd:Bool} {r:List Step} {pend:List Nat} {v:Value}
theorem S_end (h:K l L):LSt P n0 [] K l T L:=⟨fun _ _ _ _ E _ _ _ hE hR hl _=>⟨E,l,L,hE,hR,hl,h⟩⟩
theorem S_q (hg:gw g l=some true) (hy:QY P n0 L l op v) (h:LSt P n0 r K (dpush d v l) (bif rd then (k,op,l,v)::T else T) L):LSt P n0 (.q k d g op rd::r) K l T L:=by
 refine ⟨fun X w0 E0 w E l' F h0 hE hR hl hT=>?_⟩
 simp only [stepsWp]
 refine gw_ok hl hg (fun _=>?_) (fun e=>by cases e)
 obtain ⟨v',h1,h2⟩:=hy X w0 E0 w E l' h0 hE hR hl
 refine ⟨v',h1,?_⟩
 cases rd
 ·exact h.go X w0 E0 w E _ _ h0 hE hR (hl.dpush h2 d) hT
 ·exact h.go X w0 E0 w E _ _ h0 hE hR (hl.dpush h2 d) ⟨rfl,⟨l',v',rfl,hl,h2⟩,hT⟩
theorem S_e {R:Value→LH→Prop} (hg:gw g l=some true) (hw:EW P n0 L l eo R) (h:∀ v L',R v L'→chkP P n0 T L' pend∧LSt P n0 r K (dpush d v l) T L'):LSt P n0 (.e d g eo pend::r) K l T L:=by
 refine ⟨fun X w0 E0 w E l' F h0 hE hR hl hT=>?_⟩
 simp only [stepsWp]
 refine gw_ok hl hg (fun _=>?_) (fun e=>by cases e)
 refine hw X w0 E0 w E l' _ h0 hE hR hl fun w' E' v' v L' hr h1 h2 h3=>?_
 obtain ⟨hc,hn⟩:=h v L' hr
 exact ⟨chkP_ok h0 (hE.trans h1) h2 (hT.ext h1) _ hc,hn.go X w0 E0 w' E' _ _ h0 (hE.trans h1) h2 ((hl.ext h1).dpush h3 d) (hT.ext h1)⟩
theorem S_qno (hg:gw g l=some false) (h:LSt P n0 r K (dpush d undef l) T L):LSt P n0 (.q k d g op rd::r) K l T L:=by
 refine ⟨fun X w0 E0 w E l' F h0 hE hR hl hT=>?_⟩
 simp only [stepsWp]
 exact gw_ok hl hg (fun e=>by cases e) (fun _=>h.go X w0 E0 w E _ _ h0 hE hR (hl.dpush VR.undef d) hT)
theorem S_eno (hg:gw g l=some false) (h:LSt P n0 r K (dpush d undef l) T L):LSt P n0 (.e d g eo pend::r) K l T L:=by
 refine ⟨fun X w0 E0 w E l' F h0 hE hR hl hT=>?_⟩
 simp only [stepsWp]
 exact gw_ok hl hg (fun e=>by cases e) (fun _=>h.go X w0 E0 w E _ _ h0 hE hR (hl.dpush VR.undef d) hT)
def noRaw:RawQ:=fun _ _ _=>none
theorem noRaw_ok (P:Program):RawOk P noRaw:=fun _ _ _ _ _ _ _ _ _ h=>by cases h
def qsafe (st:List Nat) (L:LH) (l:Env):QOp→Option Value
 | .mov x=>lv l x
 | .pick c a b=>match c with
  | .tmp t=>match inL t st with
   | true=>none
   | false=>match lv l (.tmp t) with
    | some (.bool true)=>lv l a
    | some (.bool false)=>lv l b
    | _=>none
  | _=>none
 | .nilc x=>lq noRaw L l (.nilc x)
 | .fld x off=>match lptr l x with
  | some ⟨b,o,none⟩=>some (.pointer (some ⟨b,o+off,none⟩))
  | _=>none
 | .fldv x off=>lq noRaw L l (.fldv x off)
 | .fldn x off n=>lq noRaw L l (.fldn x off n)
 | .ext x k=>lq noRaw L l (.ext x k)
 | .bin op x y=>match op with
  | .quo=>none
  | .rem=>none
  | .add=>none
  | .sub=>none
  | .mul=>none
  | .and=>none
  | .or=>none
  | .xor=>none
  | .andNot=>none
  | op=>lq noRaw L l (.bin op x y)
 | .nilp neg x=>match lv l x with
  | some (.pointer (some _))=>match neg with
   | true=>some (.bool true)
   | false=>some (.bool false)
  | some (.pointer none)=>match neg with
   | true=>some (.bool false)
   | false=>some (.bool true)
  | _=>none
 | .un op x=>lq noRaw L l (.un op x)
 | .len x=>lq noRaw L l (.len x)
 | .bld z ps=>lq noRaw L l (.bld z ps)
 | .mm mx x y=>lq noRaw L l (.mm mx x y)
 | .xorn x=>lq noRaw L l (.xorn x)
 | .mkf f a c=>lq noRaw L l (.mkf f a c)
 | .ld x=>match lptr l x with
  | some ⟨b,o,none⟩=>match L[b]? with
   | some (.cells _ vs)=>vs[o]?
   | _=>none
  | _=>none
 | .ldn x n=>match lptr l x with
  | some ⟨b,o,none⟩=>match L[b]? with
   | some (.cells _ vs)=>bif Nat.ble (o+n) vs.length then some (.agg ⟨(vs.drop o).take n⟩) else none
   | _=>none
  | _=>none
 | _=>none
theorem qsafe_ok {st:List Nat} (h:qsafe st L l op=some v):QY P n0 L l op v:=by
 intro X w0 E0 w E l' h0 hE hR hl
 have via:lq noRaw L l op=some v→∃ v',op.Y P l' v' w∧VR E v v':=fun h=>lq_ok (noRaw_ok P) h hR hl
 cases op <;> simp only [qsafe] at h <;> first|exact via h | (cases h; done) | skip
 case pick c a b =>
  cases c <;> first | (cases h; done) | skip
  case tmp t =>
  simp only at h
  split at h <;> first | (cases h; done) | skip
  split at h <;> first | (cases h; done) | skip
  ·rename_i hc; exact via (by simp only [lq,hc]; exact h)
  ·rename_i hc; exact via (by simp only [lq,hc]; exact h)
 case fld x off =>
  split at h <;> first | (cases h; done) | skip
  rename_i b o hp
  cases h
  exact via (by simp only [lq,hp,add_none])
 case bin op x y=>cases op <;> first|exact via h | cases h
 case nilp neg x =>
  split at h <;> first | (cases h; done) | skip
  ·rename_i p hp; cases neg <;> cases h <;> exact via (by simp [lq,hp])
  ·rename_i hp; cases neg <;> cases h <;> exact via (by simp [lq,hp])
 case ld x =>
  split at h <;> first | (cases h; done) | skip
  rename_i b o hp
  split at h <;> first | (cases h; done) | skip
  rename_i sz vs hb
  exact via (by simp only [lq,hp,lcell,hb]; exact h)
 case ldn x n =>
  split at h <;> first | (cases h; done) | skip
  rename_i b o hp
  split at h <;> first | (cases h; done) | skip
  rename_i sz vs hb
  cases hc:Nat.ble (o+n) vs.length
  ·rw [hc] at h; cases h
  rw [hc] at h; cases h
  exact via (by simp only [lq,hp,lcells,hb,hc,cond_true])
def esafe (L:LH) (l:Env):EOp→Option (Value × LH)
 | .st x v=>match lptr l x,lv l v with
  | some ⟨b,o,none⟩,some u=>match one u with
   | true=>match L[b]? with
    | some (.cells sz vs)=>bif Nat.blt o vs.length then some (undef,L.set b (.cells sz (vs.set o u))) else none
    | _=>none
   | false=>none
  | _,_=>none
 | .stn x v n=>match lptr l x,lv l v with
  | some ⟨b,o,none⟩,some (.agg ⟨us⟩)=>bif Nat.beq us.length n then (match L[b]? with
   | some (.cells sz vs)=>bif Nat.ble (o+n) vs.length then some (undef,L.set b (.cells sz (lspl vs o us))) else none
   | _=>none) else none
  | _,_=>none
 | .new _ zero=>bif zero.all stillS then some (.pointer (some ⟨L.length,0,none⟩),L++[.cells 0 zero]) else none
 | .box _ x=>match lv l x with
  | some u=>bif notTup u then some (.pointer (some ⟨L.length,0,none⟩),L++[.cells 0 u.cells.toList]) else none
  | none=>none
 | .bs0 _=>some (.slice (some ⟨L.length,0,none⟩) 0 0,L++[.cells 0 []])
 | .bs1 _ n x=>match lv l x with
  | some u=>bif notTup u && Nat.beq u.cells.toList.length n then some (.slice (some ⟨L.length,0,none⟩) 1 1,L++[.cells 0 u.cells.toList]) else none
  | none=>none
 | _=>none
theorem esafe_ok {L':LH} (h:esafe L l eo=some (v,L')):EW P n0 L l eo (fun u K=>u=v∧K=L'):=by
 refine EW.of ?_
 cases eo <;> simp only [esafe] at h <;> first | (cases h; done) | skip
 case st x y =>
  simp only [le,fL_eq]
  split at h <;> first | (cases h; done) | skip
  rename_i b o u hx hy
  rw [hx,hy]
  simp only
  split at h <;> first | (cases h; done) | skip
  rename_i h1
  rw [h1]
  simp only [cond_true]
  split at h <;> first | (cases h; done) | skip
  rename_i sz vs hb
  rw [hb]
  exact h
 case stn x y n=>simp only [le,fL_eq]; exact h
 case new t z=>simp only [le,fL_eq,fV_eq]; exact h
 case box t x=>simp only [le,fL_eq,fV_eq]; exact h
 case bs0 t=>exact h
 case bs1 t n x=>exact h
def gsafe (st:List Nat) (g:Option (Nat × Bool)) (l:Env):Option Bool :=
 match g with
 | none=>some true
 | some (s,want)=>match inL s st with
  | true=>none
  | false=>match eget l s with
   | some (.bool true)=>some want
   | some (.bool false)=>some (!want)
   | some (.tuple _)=>some false
   | _=>none
theorem gsafe_ok {st:List Nat} {b:Bool} (h:gsafe st g l=some b):gw g l=some b:=by
 cases g with
 | none=>exact h
 | some sw =>
  obtain ⟨s,want⟩:=sw
  simp only [gsafe] at h
  split at h <;> first | (cases h; done) | skip
  split at h <;> first | (cases h; done) | skip
  ·rename_i hs; cases h; simp only [gw,hs]; cases b <;> rfl
  ·rename_i hs; cases h; simp only [gw,hs]; cases want <;> rfl
  ·rename_i hs; cases h; simp only [gw,hs]
def arun (st:List Nat):List Step→Env→Taken→LH→List Step × Env × Taken × LH
 | [],l,T,L=>([],l,T,L)
 | .q k d g op rd::r,l,T,L=>match gsafe st g l with
  | some true=>match qsafe st L l op with
   | some v=>match rd with
    | true=>arun st r (dpush d v l) ((k,op,l,v)::T) L
    | false=>arun st r (dpush d v l) T L
   | none=>(.q k d g op rd::r,l,T,L)
  | some false=>arun st r (dpush d undef l) T L
  | none=>(.q k d g op rd::r,l,T,L)
 | .e d g op pend::r,l,T,L=>match gsafe st g l with
  | some true=>match pend with
   | []=>match esafe L l op with
    | some (v,L')=>arun st r (dpush d v l) T L'
    | none=>(.e d g op pend::r,l,T,L)
   | _::_=>(.e d g op pend::r,l,T,L)
  | some false=>arun st r (dpush d undef l) T L
  | none=>(.e d g op pend::r,l,T,L)
theorem arun_ok (st:List Nat):∀ (ss:List Step) (l:Env) (T:Taken) (L:LH) {ss1:List Step} {l1:Env} {T1:Taken} {L1:LH},arun st ss l T L=(ss1,l1,T1,L1)→LSt P n0 ss1 K l1 T1 L1→LSt P n0 ss K l T L
 | [],l,T,L,_,_,_,_,h,k=>by cases h; exact k
 | .q k d g op rd::r,l,T,L,_,_,_,_,h,hk=>by
  simp only [arun] at h
  split at h
  ·rename_i hg
   split at h
   ·rename_i v hv
    split at h
    ·exact S_q (gsafe_ok hg) (qsafe_ok hv) (arun_ok st r _ _ L h hk)
    ·exact S_q (gsafe_ok hg) (qsafe_ok hv) (arun_ok st r _ _ L h hk)
   ·cases h; exact hk
  ·rename_i hg; exact S_qno (gsafe_ok hg) (arun_ok st r _ _ L h hk)
  ·cases h; exact hk
 | .e d g op pend::r,l,T,L,_,_,_,_,h,hk=>by
  simp only [arun] at h
  split at h
  ·rename_i hg
   split at h
   ·split at h
    ·rename_i v L' hv
     exact S_e (gsafe_ok hg) (esafe_ok hv) fun v L' ⟨e1,e2⟩=>by subst e1; subst e2; exact ⟨trivial,arun_ok st r _ _ _ h hk⟩
    ·cases h; exact hk
   ·cases h; exact hk
  ·rename_i hg; exact S_eno (gsafe_ok hg) (arun_ok st r _ _ L h hk)
  ·cases h; exact hk
variable {ss ss1:List Step} {l1:Env} {T1:Taken} {L1:LH}
theorem S_done (st:List Nat) (h:arun st ss l T L=([],l1,T1,L1)) (hk:K l1 L1):LSt P n0 ss K l T L:=arun_ok st ss l T L h (S_end hk)
theorem S_Q (st:List Nat) (h:arun st ss l T L=(.q k d g op rd::r,l1,T1,L1)) (hg:gw g l1=some true) (hy:QY P n0 L1 l1 op v) (hn:LSt P n0 r K (dpush d v l1) (bif rd then (k,op,l1,v)::T1 else T1) L1):LSt P n0 ss K l T L :=
 arun_ok st ss l T L h (S_q hg hy hn)
theorem S_E (st:List Nat) {R:Value→LH→Prop} (h:arun st ss l T L=(.e d g eo pend::r,l1,T1,L1)) (hg:gw g l1=some true) (hw:EW P n0 L1 l1 eo R) (hn:∀ v L',R v L'→chkP P n0 T1 L' pend∧LSt P n0 r K (dpush d v l1) T1 L'):LSt P n0 ss K l T L :=
 arun_ok st ss l T L h (S_e hg hw hn)
theorem S_split (s:Nat) {b:Bool} (h0:arun [s] ss l T L=(ss1,l1,T1,L1)) (hh:headGuard ss1=some s) (hb:eget l1 s=some (.bool b))
  (ht:b=true→LSt P n0 ss1 K ((s,.bool true)::l1) T1 L1) (hf:b=false→LSt P n0 ss1 K ((s,.bool false)::l1) T1 L1):LSt P n0 ss K l T L:=by
 refine arun_ok [s] ss l T L h0 ?_
 refine ⟨fun X w0 E0 w E l' F hn hE hR hl hT=>?_⟩
 obtain ⟨_,hb',rfl⟩:=hl.get hb
 have key:stepsWp P ss1 (Fin n0 X w0 E0 K) ((s,.bool b)::l') F w:=by
  cases b
  ·exact (hf rfl).go X w0 E0 w E _ F hn hE hR (ER.cons _ rfl hl) hT
  ·exact (ht rfl).go X w0 E0 w E _ F hn hE hR (ER.cons _ rfl hl) hT
 cases ss1 with
 | nil=>cases hh
 | cons st r =>
  cases st with
  | q k d g op rd =>
   cases g with
   | none=>cases hh
   | some sw=>obtain ⟨s',want⟩:=sw; cases hh; simp only [stepsWp] at *; exact gcase_sub hb' key
  | e d g op pend =>
   cases g with
   | none=>cases hh
   | some sw=>obtain ⟨s',want⟩:=sw; cases hh; simp only [stepsWp] at *; exact gcase_sub hb' key
theorem QY.idx {x i:Operand} {size b o n c:Nat} {kd:IntKind} {j:Int} (hx:lv l x=some (.slice (some ⟨b,o,none⟩) n c)) (hi:lv l i=some (.int kd j)) (hj:0≤j) (h1:j<(n:Int)):QY P n0 L l (.idx x i size) (.pointer (some ⟨b,o+j.toNat*size,none⟩)):=by
 intro X w0 E0 w E l' h0 hE hR hl
 obtain ⟨_,g1,g2,r,g3,⟨a',c',rfl,g4⟩ | ⟨g4,_⟩⟩:=lv_ev hl hx
 ·obtain ⟨_,g5,rfl⟩:=lv_ev hl hi
  rcases g4 with ⟨g4,_⟩ | ⟨g4,_⟩
  ·refine ⟨_,⟨_,n,_,kd,j,g1,g5,hj,h1,rfl⟩,_,rfl,?_⟩
   have:=AR.add (a:=⟨b,o,none⟩) (a':=a') ⟨rfl,r,g3,g4⟩ (j.toNat*size)
   rwa [add_none] at this
  ·omega
 ·omega
theorem QY.ldg {x:Operand} {b o sz:Nat} {vs:List Value} (hx:lv l x=some (.pointer (some ⟨b,o,none⟩))) (hb:L[b]?=some (.gro sz vs)) (hv:vs[o]?=some v) (hs:stillS v=true):QY P n0 L l (.ld x) v :=
 QY.of (by simp [lq,lptr,hx,lcell,hb,hv,hs])
theorem QY.arith {x y:Operand} {bop:BinOp} {kd:IntKind} {a b:Int} {c:Value} (hx:lv l x=some (.int kd a)) (hy:lv l y=some (.int kd b)) (hc:ibin bop kd a b=some c) (hs:still c=true):QY P n0 L l (.bin bop x y) c:=by
 refine QY.of ?_
 have:ikEq kd kd=true:=by simp [ikEq]
 simp only [lq,hx,hy,this,cond_true,hc,hs]
theorem QY.add {x y:Operand} {a b c:Int} (hx:lv l x=some (.int .i64 a)) (hy:lv l y=some (.int .i64 b)) (hc:a+b=c) (h0 : -9223372036854775808≤c) (h1:c≤9223372036854775807):QY P n0 L l (.bin .add x y) (.int .i64 c) :=
 QY.arith hx hy (by simp only [ibin]; rw [hc,wrap64_id h0 h1]) rfl
theorem QY.quo {x y:Operand} {a b c:Int} (hx:lv l x=some (.int .i64 a)) (hy:lv l y=some (.int .i64 b)) (hb:b≠0) (hc:a.tdiv b=c) (h0 : -9223372036854775808≤c) (h1:c≤9223372036854775807):QY P n0 L l (.bin .quo x y) (.int .i64 c) :=
 QY.arith hx hy (by simp only [ibin]; rw [if_neg hb,hc,wrap64_id h0 h1]) rfl
def TrK (P:Program) (A:Args) (keep:List Nat) (f:FuncId) (vs:List Value) (L:LH) (R:Value→LH→Prop):Prop :=
 ∀ (X:Nat→Prop) (w0 w:World) (E:Emb) (vs':List Value),(NA.mk L.length A keep).Ok P X w0 E→Rep X w0 E L w→L2 (VR E) vs vs'→callable P f=true∧Does P f vs'.toArray w fun v' w'=>∃ E' v L',(NA.mk L.length A keep).Ext E E'∧L.length≤L'.length∧VR E' v v'∧Rep X w0 E' L' w'∧R v L'
abbrev Tr (P:Program) (f:FuncId) (vs:List Value) (L:LH) (R:Value→LH→Prop):Prop:=TrK P [] (seqN 0 L.length) f vs L R
def RetQ (n0:NA) (res:List RV) (R:Value→LH→Prop) (e:Exit) (l:Env) (L:LH):Prop :=
 (e=.ret∨e=.normal)∧∃ us,lres l L res=some us∧((Nat.ble n0.n L.length=true∧R (lret us) L)∨∃ sel v L1,Nat.ble n0.n sel.length=true∧keepOk sel n0.keep=true∧letGoV sel L (lret us)=some v∧letGo sel L=some L1∧R v L1)
theorem RetQ.pick {res:List RV} {R:Value→LH→Prop} {us:List Value} (sel:List Nat) (h:lres l L res=some us) (h0:keepOk sel n0.keep=true) (h1:letGoV sel L (lret us)=some v) (h2:letGo sel L=some L1) (hr:R v L1) (hn:Nat.ble n0.n sel.length=true:=by rfl):RetQ n0 res R .ret l L:=⟨.inl rfl,us,h,.inr ⟨sel,v,L1,hn,h0,h1,h2,hr⟩⟩
theorem RetQ.end {res:List RV} {R:Value→LH→Prop} {us:List Value} (sel:List Nat) (h:lres l L res=some us) (h0:keepOk sel n0.keep=true) (h1:letGoV sel L (lret us)=some v) (h2:letGo sel L=some L1) (hr:R v L1) (hn:Nat.ble n0.n sel.length=true:=by rfl):RetQ n0 res R .normal l L:=⟨.inr rfl,us,h,.inr ⟨sel,v,L1,hn,h0,h1,h2,hr⟩⟩
theorem letGo_length {sel:List Nat} {L K:LH} (h:letGo sel L=some K):K.length=sel.length:=by
 unfold letGo at h
 split at h <;> first | (cases h; done) | skip
 rename_i t ht
 cases hc:(t.all (okB (invN sel sel.length 0 L.length) sel.length) && ndup sel)
 ·rw [hc] at h; cases h
 rw [hc] at h; cases h
 simp [(pickG_ok ht).1]
theorem Tr.of {A:Args} {keep:List Nat} {x:FnRow} {vs:List Value} {R:Value→LH→Prop} (hx:x.Ok P) (hn:Nat.ble vs.length x.np=true) (h:LWp P ⟨L.length,A,keep⟩ x.m (RetQ ⟨L.length,A,keep⟩ x.res R) (initEnv 0 vs) L):TrK P A keep x.f vs L R:=by
 intro X w0 w E vs' hA hR hvs
 obtain ⟨hcl,fn,hl,hr,hrk,hd⟩:=hx
 refine ⟨hcl,hd _ w _ (by rw [hvs.length]; exact hn) ?_⟩
 refine MWp.mono x.m (fun e l' w' hf=>?_) (h.go X w0 E w E _ hA (NA.Ext.refl _ E) hR (ER.init 0 hvs))
 obtain ⟨E1,l1,L1,k1,k2,k3,he,us,hus,hcase⟩:=hf
 rcases hcase with ⟨hn1,hr1⟩ | ⟨sel,v,L2,hn1,g0,g1,g2,g3⟩
 ·exact lret_ok hl hr hrk k2 k3 he hus fun v' hv'=>⟨E1,_,L1,k1,Nat.le_of_ble_eq_true hn1,hv',k2,hr1⟩
 ·exact lret_ok hl hr hrk k2 k3 he hus fun v' hv'=>⟨subE E1 sel,v,L2,k1.sub g0,by rw [letGo_length g2]; exact Nat.le_of_ble_eq_true hn1,letGoV_ok g1 k2 hv',letGo_ok g2 k2,g3⟩
def handed (φ keep:List Nat) (A A':Args):Prop:=∀ x∈A',inL x.1 keep=true∧∃ k,φ[x.1]?=some k∧(k,x.2)∈A
theorem AV.keep {X X':Nat→Prop} {w0 w:World} (hf:Fr X w0 w) (hX:∀ b,b<w0.heap.size→¬ X b→¬ X' b):∀ (a:AV) (y:Value),a.is X w0 y→a.is X' w y:=by
 intro a
 induction a with
 | v u=>intro y h; exact h
 | s a n c m get ih =>
  rintro y ⟨e,h⟩
  refine ⟨e,fun hm=>?_⟩
  obtain ⟨h2,h3,h4⟩:=h hm
  refine ⟨Nat.lt_of_lt_of_le h2 hf.size,hX _ h2 h3,fun i hi=>?_⟩
  obtain ⟨y,h5,h6⟩:=h4 i hi
  exact ⟨y,by rw [← h5]; simp only [World.cell?,hf.keep _ h2 h3],ih i y h6⟩
theorem handed_ok {P:Program} {n0:NA} {A':Args} {φ keep:List Nat} {X:Nat→Prop} {w0 w:World} {E0 E:Emb} {M Lc:LH} (hd:handed φ keep n0.A A') (hp:Part φ M Lc) (h0:n0.Ok P X w0 E0) (hE:n0.Ext E0 E) (hR:Rep X w0 E M w):(NA.mk Lc.length A' keep).Ok P (footL (subE E φ) Lc) w (subE E φ):=by
 have hX:∀ b,b<w0.heap.size→¬ X b→¬ footL (subE E φ) Lc b:=by
  rintro b hb hx ⟨k,x,r,h7,h8,h9⟩
  rcases ((hp.sub hR).rng k x r h7 h8 b h9).1 with h | h
  ·omega
  ·exact hx h
 refine ⟨by rw [(hp.sub hR).len],fun x hx=>⟨(hd x hx).1,fun hm=>?_⟩,fun g hg=>?_⟩
 ·obtain ⟨_,k,h1,h2⟩:=hd x hx
  obtain ⟨hk0,hA0⟩:=h0.2.1 _ h2
  obtain ⟨r,h3,h4,h5,h6⟩:=hA0 hm
  refine ⟨r,?_,Nat.lt_of_lt_of_le h4 hR.fr.size,hX _ h4 h5,fun i hi=>?_⟩
  ·simp [subE,h1,hE _ _ hk0 h3]
  ·obtain ⟨y,h7,h8⟩:=h6 i hi
   exact ⟨y,by rw [← h7]; simp only [World.cell?,hR.fr.keep _ h4 h5],AV.keep hR.fr hX _ _ h8⟩
 ·obtain ⟨h1,h2,h3⟩:=h0.2.2 g hg
  exact ⟨fun i x hx=>by rw [← h1 i x hx]; simp only [World.cell?,hR.fr.keep _ h3 h2],hX g h3 h2,Nat.lt_of_lt_of_le h3 hR.fr.size⟩
theorem handed_nil {φ keep:List Nat} {A:Args}:handed φ keep A []:=fun x hx=>by cases hx
def Left (fr:List Nat) (E:Emb) (L:LH) (w w':World):Prop:=∀ (k:Nat) (x:LB) (r:Nat × Nat × Nat) (b:Nat),inL k fr=false→L[k]?=some x→E[k]?=some r→foot r x b→w'.heap[b]?=w.heap[b]?
def EWd (P:Program) (n0:NA) (fr dr:List Nat) (L:LH) (l:Env) (e:EOp) (R:Value→LH→Prop):Prop :=
 ∀ (X:Nat→Prop) (w0:World) (E0:Emb) (w:World) (E:Emb) (l':Env) (Kf:Value→World→Prop),n0.Ok P X w0 E0→n0.Ext E0 E→Rep X w0 E L w→ER E l l'→(∀ w' E' v' v L',R v L'→ExtD dr E E'→Left fr E L w w'→Rep X w0 E' L' w'→VR E' v v'→Kf v' w')→e.W P Kf l' w
theorem EWd.mono {fr dr:List Nat} {e:EOp} {R R':Value→LH→Prop} (h:EWd P n0 fr dr L l e R) (hr:∀ v L',R v L'→R' v L'):EWd P n0 fr dr L l e R' :=
 fun X w0 E0 w E l' Kf h0 hE hR hl hK=>h X w0 E0 w E l' Kf h0 hE hR hl fun w' E' v' v L' h1=>hK w' E' v' v L' (hr v L' h1)
def frOk (fr:List Nat) (T:Taken) (L:LH) (k:Nat):Bool:=match tfind T k with
 | some (.ld x,l,_)=>(match lptr l x with
  | some ⟨b,_,none⟩ => !inL b fr && (match L[b]? with
   | some (.cells _ _)=>true
   | _=>false)
  | _=>false)
 | some (.ldn x _,l,_)=>(match lptr l x with
  | some ⟨b,_,none⟩ => !inL b fr && (match L[b]? with
   | some (.cells _ _)=>true
   | _=>false)
  | _=>false)
 | some _=>false
 | none=>true
def chkG (P:Program) (n0:NA) (fr:List Nat) (T:Taken) (L L':LH):List Nat→Prop
 | []=>True
 | k::ks=>(frOk fr T L k=true∨(match tfind T k with
  | some (q,l,v)=>QY P n0 L' l q v∧Sure v
  | none=>True))∧chkG P n0 fr T L L' ks
theorem left_ld {fr:List Nat} {w w':World} {E:Emb} {l l':Env} {x:Operand} {b o:Nat} {sz:Nat} {vs:List Value} (hL:Left fr E L w w') (hl:ER E l l') (hx:lptr l x=some ⟨b,o,none⟩) (hb:inL b fr=false) (hc:L[b]?=some (.cells sz vs)) :
  ∃ p,ev l' x=some (.pointer (some p))∧w'.heap[p.block]?=w.heap[p.block]?:=by
 obtain ⟨p',h1,_,r,h3,rfl⟩:=lptr_ok hl hx
 exact ⟨_,h1,hL b _ r r.1 hb hc h3 rfl⟩
theorem chkG_ok {fr:List Nat} {X:Nat→Prop} {w0 w w':World} {E0 E E':Emb} {L':LH} {F:Facts} (h0:n0.Ok P X w0 E0) (hE':n0.Ext E0 E') (hL:Left fr E L w w') (hR':Rep X w0 E' L' w') (hT:TR P E T F) (hT':TR P E' T F):∀ (ks:List Nat),chkG P n0 fr T L L' ks→pendOk F w w' ks
 | [],_=>trivial
 | k::ks,h=>by
  refine ⟨?_,chkG_ok h0 hE' hL hR' hT hT' ks h.2⟩
  rcases h.1 with h5 | h5
  ·rcases hT.find k with ⟨h1,h2⟩ | ⟨q,l,v,l',v',h1,h2,h3,h4⟩
   ·rw [h2]; trivial
   ·rw [h2]
    intro hF
    unfold frOk at h5
    rw [h1] at h5
    cases q <;> simp only [reduceCtorEq] at h5 <;> first | (cases h5; done) | skip
    case ld x =>
     split at h5 <;> first | (cases h5; done) | skip
     rename_i b o hp
     simp only [Bool.and_eq_true,Bool.not_eq_true'] at h5
     split at h5
     ·rename_i sz vs hb
      obtain ⟨p,g1,g2⟩:=left_ld hL h3 hp h5.1 hb
      obtain ⟨p2,g3,g4⟩:=hF
      rw [g1] at g3; cases g3
      exact ⟨p,g1,by rw [← g4]; simp only [World.cell?,g2]⟩
     ·cases h5.2
    case ldn x n =>
     split at h5 <;> first | (cases h5; done) | skip
     rename_i b o hp
     simp only [Bool.and_eq_true,Bool.not_eq_true'] at h5
     split at h5
     ·rename_i sz vs hb
      obtain ⟨p,g1,g2⟩:=left_ld hL h3 hp h5.1 hb
      obtain ⟨p2,us,g3,g4,g5,g6⟩:=hF
      rw [g1] at g3; cases g3
      have hpb:∀ i,(p.add i).block=p.block:=fun i=>by unfold Addr.add; split <;> rfl
      exact ⟨p,us,g1,g4,fun i hi=>by rw [← g5 i hi]; simp only [World.cell?,hpb,g2],g6⟩
     ·cases h5.2
  ·rcases hT'.find k with ⟨h1,h2⟩ | ⟨q,l,v,l',v',h1,h2,h3,h4⟩
   ·rw [h2]; trivial
   ·rw [h2]
    rw [h1] at h5
    intro _
    obtain ⟨v'',h6,h7⟩:=h5.1 X w0 E0 w' E' l' h0 hE' hR' h3
    rw [h5.2 E' _ _ h4 h7]
    exact h6
def disj (dr:List Nat):List Nat→Bool
 | []=>true
 | k::ks => !inL k dr && disj dr ks
theorem disj_ok {dr:List Nat}:∀ {ks:List Nat} {k:Nat},disj dr ks=true→inL k ks=true→inL k dr=false
 | [],k,_,h=>by cases h
 | a::ks,k,h,hk=>by
  simp only [disj,Bool.and_eq_true,Bool.not_eq_true'] at h
  simp only [inL] at hk
  cases hq:Nat.beq a k
  ·rw [hq] at hk; exact disj_ok h.2 hk
  ·have:=Nat.eq_of_beq_eq_true hq; subst this; exact h.1
theorem S_ed {fr dr:List Nat} {R:Value→LH→Prop} (hg:gw g l=some true) (hw:EWd P n0 fr dr L l eo R) (hd:disj dr n0.keep=true) (hn:nmE dr l=true) (ht:nmT dr T=true) (h:∀ v L',R v L'→chkG P n0 fr T L L' pend∧LSt P n0 r K (dpush d v l) T L'):LSt P n0 (.e d g eo pend::r) K l T L:=by
 refine ⟨fun X w0 E0 w E l' F h0 hE hR hl hT=>?_⟩
 simp only [stepsWp]
 refine gw_ok hl hg (fun _=>?_) (fun e=>by cases e)
 refine hw X w0 E0 w E l' _ h0 hE hR hl fun w' E' v' v L' hr h1 hL h2 h3=>?_
 obtain ⟨hc,hn'⟩:=h v L' hr
 have hE':n0.Ext E0 E':=fun k r hk hr=>h1 k r (disj_ok hd hk) (hE k r hk hr)
 exact ⟨chkG_ok h0 hE' hL h2 hT (hT.extD h1 ht) _ hc,hn'.go X w0 E0 w' E' _ _ h0 hE' h2 ((hl.extD h1 hn).dpush h3 d) (hT.extD h1 ht)⟩
theorem S_Ed (st:List Nat) {fr dr:List Nat} {R:Value→LH→Prop} (h:arun st ss l T L=(.e d g eo pend::r,l1,T1,L1)) (hg:gw g l1=some true) (hw:EWd P n0 fr dr L1 l1 eo R) (hd:disj dr n0.keep=true) (hn:nmE dr l1=true) (ht:nmT dr T1=true) (hk:∀ v L',R v L'→chkG P n0 fr T1 L1 L' pend∧LSt P n0 r K (dpush d v l1) T1 L'):LSt P n0 ss K l T L :=
 arun_ok st ss l T L h (S_ed hg hw hd hn ht hk)
theorem call_core {A:Args} {keep:List Nat} {f:FuncId} {vs' us:List Value} {Lc:LH} {R:Value→LH→Prop} {φ:List Nat} (ht:TrK P A keep f us Lc R) (hp:Part φ L Lc) (hd:handed φ keep n0.A A) (hm:nmL (dropped keep 0 φ) φ 0 L=true)
  {X:Nat→Prop} {w0 w:World} {E0 E:Emb} {Kf:Value→World→Prop} (h0:n0.Ok P X w0 E0) (hE:n0.Ext E0 E) (hR:Rep X w0 E L w) (h3:L2 (VR (subE E φ)) us vs')
  (hK:∀ w' E' v' v L',(∃ v1 L1,R v1 L1∧v=rnV (L.length+L1.length) (phi2 φ L.length L1) v1∧L'=joinL φ L L1)→ExtD (dropped keep 0 φ) E E'→Left φ E L w w'→Rep X w0 E' L' w'→VR E' v v'→Kf v' w'):callable P f=true∧Does P f vs'.toArray w Kf:=by
 have hsub:=(hp.sub hR).base
 have hc:=ht _ _ _ _ _ (handed_ok hd hp h0 hE hR) hsub h3
 refine ⟨hc.1,hc.2.mono ?_⟩
 rintro v' w' ⟨E1,v1,L1,g1,g0,g2,g3,g4⟩
 obtain ⟨E',k1,k2,k3⟩:=Rep.joinW (keep:=keep) hp hR (fun k r hk hr=>g1 k r hk hr) g0 hm g3
 refine hK w' E' v' _ _ ⟨v1,L1,g4,rfl,rfl⟩ k1 (fun k x r b hk hx hr hb=>?_) k3 (g2.into k2)
 refine g3.fr.keep b (hR.rng k x r hx hr b hb).2 ?_
 rintro ⟨k2,x2,r2,e1,e2,e3⟩
 obtain ⟨j,e4,e5⟩:=hp.blk k2 x2 e1
 obtain ⟨rj,e6⟩:=hR.ent e5
 have e7:(subE E φ)[k2]?=some rj:=by simp [subE,e4,e6]
 rw [e2] at e7; cases e7
 have e8:=hR.inj k j x _ r r2 b hx e5 hr e6 hb (by rw [foot_rn]; exact e3)
 subst e8
 have:=inL_mem.2 (List.mem_of_getElem? e4)
 rw [hk] at this; cases this
theorem EWd.call {A:Args} {keep:List Nat} {f:FuncId} {args:List Operand} {vs us:List Value} {Lc:LH} {R:Value→LH→Prop} (φ:List Nat) (ht:TrK P A keep f us Lc R) (hv:lvs l args=some vs) (he:us.map (rnV L.length φ)=vs) (hp:Part φ L Lc) (hd:handed φ keep n0.A A) (hm:nmL (dropped keep 0 φ) φ 0 L=true) :
  EWd P n0 φ (dropped keep 0 φ) L l (.call f args) (fun v K=>∃ v1 L1,R v1 L1∧v=rnV (L.length+L1.length) (phi2 φ L.length L1) v1∧K=joinL φ L L1):=by
 intro X w0 E0 w E l' Kf h0 hE hR hl hK
 obtain ⟨vs',h1,h2⟩:=lvs_evs hl hv
 have h3:L2 (VR (subE E φ)) us vs':=by
  subst he
  rw [← hR.len] at h2
  exact L2.sub (f:=rnV E.length φ) (fun _ _ h=>VR.sub h) h2
 exact ⟨vs',h1,(call_core ht hp hd hm h0 hE hR h3 hK).2⟩
theorem dropped_seq:∀ (φ:List Nat) (i n:Nat),i+φ.length≤n→dropped (seqN 0 n) i φ=[]
 | [],_,_,_=>rfl
 | k::φ,i,n,h=>by
  simp only [List.length_cons] at h
  have hi:inL i (seqN 0 n)=true:=by
   rw [inL_mem]
   have:=seqN_get n 0 i (by omega)
   rw [Nat.zero_add] at this
   exact List.mem_of_getElem? this
  simp only [dropped,hi,cond_true]
  exact dropped_seq φ (i+1) n (by omega)
theorem nm_nil0 (v:Value):nm0 [] v=true:=by
 cases v <;> first | rfl | skip
 case pointer a=>rcases a with _ | ⟨b,o,_ | s⟩ <;> rfl
 case slice a _ _=>rcases a with _ | ⟨b,o,_ | s⟩ <;> rfl
 case map a=>cases a <;> rfl
theorem nm_nilS (v:Value):nmS [] v=true:=by
 unfold nmS
 split
 ·simp [nm_nil0]
 ·exact nm_nil0 _
theorem nm_nil1 (v:Value):nm1 [] v=true:=by
 unfold nm1
 split
 ·simp [nm_nilS]
 ·exact nm_nilS _
theorem nm_nilB (x:LB):nmB [] x=true:=by
 cases x <;> first | rfl | skip
 case cells sz vs=>simp [nmB,nm_nilS]
 case map m c=>simp [nmB,nm_nil1]
 case iter m a b c=>cases m <;> rfl
theorem nm_nilL (φ:List Nat):∀ (i:Nat) (L:LH),nmL [] φ i L=true
 | _,[]=>rfl
 | i,x::r=>by simp [nmL,nm_nilB,nm_nilL φ]
theorem EW.callA {A:Args} {f:FuncId} {args:List Operand} {vs us:List Value} {Lc:LH} {R:Value→LH→Prop} (φ:List Nat) (ht:TrK P A (seqN 0 Lc.length) f us Lc R) (hv:lvs l args=some vs) (he:us.map (rnV L.length φ)=vs) (hp:Part φ L Lc) (hd:handed φ (seqN 0 Lc.length) n0.A A) :
  EW P n0 L l (.call f args) (fun v K=>∃ v1 L1,R v1 L1∧v=rnV (L.length+L1.length) (phi2 φ L.length L1) v1∧K=joinL φ L L1):=by
 have e:=dropped_seq φ 0 Lc.length (by rw [hp.len]; omega)
 have h:=EWd.call φ ht hv he hp hd (by rw [e]; exact nm_nilL φ 0 L)
 rw [e] at h
 exact fun X w0 E0 w E l' Kf h0 hE hR hl hK=>h X w0 E0 w E l' Kf h0 hE hR hl fun w' E' v' v L' hr hx _=>hK w' E' v' v L' hr fun k r hk=>hx k r rfl hk
end
end Go.Tum
end
section
namespace Go.Tum
open Go
section
variable {P:Program} {n0:NA} {Q:Exit→Env→LH→Prop} {l:Env} {L:LH}
theorem QY.ldng {x:Operand} {b o n sz:Nat} {vs us:List Value} (hx:lv l x=some (.pointer (some ⟨b,o,none⟩))) (hb:L[b]?=some (.gro sz vs)) (hle:o+n≤vs.length) (hn:0<n) (hv:(vs.drop o).take n=us) (hs:us.all stillS=true):QY P n0 L l (.ldn x n) (.agg ⟨us⟩):=by
 refine QY.of ?_
 have h1:Nat.ble (o+n) vs.length=true:=Nat.ble_eq_true_of_le hle
 have h2:vs.isEmpty=false:=by cases vs with
  | nil=>simp at hle; omega
  | cons=>rfl
 simp only [lq,lptr,hx,lcells,hb,hv,h1,hs,h2,Bool.and_self,Bool.not_false,cond_true]
theorem gro_foot {r:Nat × Nat × Nat} {sz:Nat} {vs:List Value} (h:vs≠[]):foot r (.gro sz vs)=(·=r.1):=by
 cases vs with
 | nil=>exact absurd rfl h
 | cons=>rfl
def appT (P:Program) (sT xT:TypeId):Option (Nat × Nat) :=
 match elemOf P sT with
 | some (_,i,z)=>bif isSl P xT && Nat.beq z.cells.toList.length i.size && z.cells.toList.all one && Nat.blt 0 i.bytes && Nat.blt 0 i.size then some (i.size,i.bytes) else none
 | none=>none
theorem appT_raw {o:Oper} {s x:Operand} {sT xT:TypeId} {sz bytes:Nat} {vs vx:Value} (ho:o.op=.call ⟨.builtin .append,⟨[s,x]⟩,⟨[sT,xT]⟩⟩) (ht:appT P sT xT=some (sz,bytes)) (hs:lv l s=some vs) (hx:lv l x=some vx):rawE2 P L l o=lapp L sz bytes vs vx:=by
 unfold appT at ht
 have h1:rawE2 P L l o=rawE0 P L l o:=by unfold rawE2 rawE1; rw [ho]
 rw [h1]
 unfold rawE0
 rw [ho]
 simp only [hs,hx]
 split at ht
 ·rename_i e i z he
  rw [he]
  simp only
  cases hc:(isSl P xT && Nat.beq z.cells.toList.length i.size && z.cells.toList.all one && Nat.blt 0 i.bytes && Nat.blt 0 i.size)
  ·rw [hc] at ht; cases ht
  ·rw [hc] at ht; cases ht; rfl
 ·cases ht
theorem EW.appg {o:Oper} {s x:Operand} {sT xT:TypeId} {sz bytes b n m cx:Nat} {bx:Option Addr} {vs us:List Value} (ho:o.op=.call ⟨.builtin .append,⟨[s,x]⟩,⟨[sT,xT]⟩⟩) (ht:appT P sT xT=some (sz,bytes)) (hs:lv l s=some (.slice (some ⟨b,0,none⟩) n n)) (hx:lv l x=some (.slice bx m cx))
  (hb:L[b]?=some (.gro sz vs)) (hn:vs.length=n*sz) (hv:vs.all stillS=true) (hsrc:lslc L sz (.slice bx m cx)=some us) (hus:us.all stillS=true) (hbd:(2*(n+m)+2048)*bytes≤281474976710656) :
  EW P n0 L l (.raw o) (fun v K=>v=.slice (some ⟨L.length,0,none⟩) (n+m) (n+m)∧K=L.set b .dead++[.gro sz (vs++us)]):=by
 refine EW.of ?_
 have hc:∃ cells,lslc L sz (.slice (some ⟨b,0,none⟩) n n)=some cells:=by
  cases n with
  | zero=>exact ⟨[],rfl⟩
  | succ n =>
   have h1:Nat.ble (0+(n+1)*sz) vs.length=true:=Nat.ble_eq_true_of_le (by omega)
   by_cases h0:vs=[]
   ·subst h0
    have hz:sz=0:=by
     rcases Nat.eq_zero_or_pos sz with h | h
     ·exact h
     ·have:0<(n+1)*sz:=Nat.mul_pos (by omega) h
      simp at hn; omega
    -- an element has a size
    unfold appT at ht
    split at ht
    ·rename_i e i z he
     cases hc:(isSl P xT && Nat.beq z.cells.toList.length i.size && z.cells.toList.all one && Nat.blt 0 i.bytes && Nat.blt 0 i.size)
     ·rw [hc] at ht; cases ht
     ·rw [hc] at ht; cases ht
      simp only [Bool.and_eq_true] at hc
      have:0<i.size:=Nat.le_of_ble_eq_true hc.2
      omega
    ·cases ht
   ·have h2:vs.isEmpty=false:=by cases vs with
     | nil=>exact absurd rfl h0
     | cons=>rfl
    have h3:((vs.drop 0).take ((n+1)*sz)).all stillS=true:=List.all_eq_true.2 fun a ha=>List.all_eq_true.1 hv a (List.mem_of_mem_drop (List.mem_of_mem_take ha))
    exact ⟨(vs.drop 0).take ((n+1)*sz),by simp only [lslc,lcells,hb,h1,h2,h3,Bool.and_self,Bool.not_false,cond_true]⟩
 obtain ⟨cells,hc⟩:=hc
 have e1:Nat.ble ((2*(n+m)+2048)*bytes) 281474976710656=true:=Nat.ble_eq_true_of_le hbd
 have e2:Nat.beq vs.length (n*sz)=true:=by rw [hn]; exact Nat.beq_refl _
 show rawE2 P L l o=_
 rw [appT_raw ho ht hs hx]
 unfold lapp
 simp only [hc,hsrc,e1,hb,Nat.beq_refl,e2,hv,hus,Bool.and_self,cond_true]
theorem LWp.wk {m:MC} {L':LH} (hw:∀ X w0 E w,Rep X w0 E L w→Rep X w0 E L' w) (h:LWp P n0 m Q l L'):LWp P n0 m Q l L :=
 ⟨fun X w0 E0 w E l' h0 hE hR hl=>h.go X w0 E0 w E l' h0 hE (hw _ _ _ _ hR) hl⟩
def partL (M:LH) (Φ:List Nat):List Nat→LH→Prop
 | [],[]=>True
 | j::φ,x::L=>M[j]?=some (rnB M.length Φ x)∧partL M Φ φ L
 | _,_=>False
theorem partL_get {M:LH} {Φ:List Nat}:∀ {φ:List Nat} {L:LH},partL M Φ φ L→φ.length=L.length∧∀ (k:Nat) (x:LB),L[k]?=some x→∃ j,φ[k]?=some j∧M[j]?=some (rnB M.length Φ x)
 | [],[],_=>⟨rfl,fun k x h=>by simp at h⟩
 | j::φ,y::L,h=>by
  obtain ⟨h1,h2⟩:=h
  obtain ⟨h3,h4⟩:=partL_get h2
  refine ⟨by simp [h3],fun k x hk=>?_⟩
  cases k with
  | zero=>simp at hk; subst hk; exact ⟨j,rfl,h1⟩
  | succ k=>simp only [List.getElem?_cons_succ] at hk ⊢; exact h4 k x hk
 | [],_::_,h=>h.elim
 | _::_,[],h=>h.elim
theorem Part.of {φ:List Nat} {M L:LH} (hn:φ.Nodup) (h:partL M φ φ L):Part φ M L:=⟨(partL_get h).1,hn,(partL_get h).2⟩
theorem EW.callF {f:FuncId} {args:List Operand} {vs us:List Value} {Lc L1 K2:LH} {v1 v2:Value} (φ:List Nat) (ht:Tr P f us Lc (fun v K=>v=v1∧K=L1)) (hv:lvs l args=some vs) (he:us.map (rnV L.length φ)=vs) (hn:φ.Nodup) (hp:partL L φ φ Lc)
  (h2:rnV (L.length+L1.length) (phi2 φ L.length L1) v1=v2) (hK:joinL φ L L1=K2):EW P n0 L l (.call f args) (fun v K=>v=v2∧K=K2) :=
 (EW.callA φ ht hv he (Part.of hn hp) handed_nil).mono fun v K ⟨v',L',⟨h3,h4⟩,h5,h6⟩=>by subst h3; subst h4; exact ⟨h5.trans h2,h6.trans hK⟩
end
end Go.Tum
end
section
namespace Go.Tum
open Go
section
variable {P:Program} {n0:NA} {Q:Exit→Env→LH→Prop} {l:Env} {L:LH} {K:Env→LH→Prop}
theorem LWp.nilE {m:MC} (t sz:Nat) (ht:eget l t=some (.slice none 0 0)) (h:LWp P n0 m Q ((t,.slice (some ⟨L.length,0,none⟩) 0 0)::l) (L++[.gro sz []])):LWp P n0 m Q l L:=by
 refine ⟨fun X w0 E0 w E l' h0 hE hR hl=>?_⟩
 have h1:Rep X w0 (E++[(0,0,0)]) (L++[.gro sz []]) w:=hR.push (Fr.refl _ w) (fun _ h=>h.elim) (.inl ⟨rfl,rfl⟩)
 obtain ⟨_,h2,h3⟩:=hl.get ht
 have h3:_=Value.slice none 0 0:=h3
 subst h3
 have hlast:(E++[(0,0,0)])[L.length]?=some (0,0,0):=by rw [← hR.len]; simp
 exact h.go X w0 E0 w (E++[(0,0,0)]) l' h0 (hE.trans (Ext.push E _)) h1 (ER.more ⟨rfl,_,hlast,.inr ⟨rfl,rfl,_,rfl⟩⟩ h2 (hl.ext (Ext.push E _)))
theorem wk_gro0 {b:Nat} (sz:Nat) (hb:L[b]?=some (.cells 0 [])):∀ X w0 E w,Rep X w0 E L w→Rep X w0 E (L.set b (.gro sz [])) w:=by
 intro X w0 E w hR
 obtain ⟨r,hr⟩:=hR.ent hb
 obtain ⟨cs,hB,hl2,hroom,hz⟩:=hR.blk b _ r hb hr
 exact hR.upd hb hr (Fr.refl _ w) (.inl ⟨rfl,hz rfl⟩) (fun _ h=>h.elim)
end
end Go.Tum
end
section
namespace Go.Tum
open Go
section
variable {α:Type} {g:α→List Value} {sz:Nat}
def rowsC (g:α→List Value):List α→List Value
 | []=>[]
 | x::r=>g x++rowsC g r
structure RowOk (g:α→List Value) (sz:Nat):Prop where
 len:∀ x,(g x).length=sz
 still:∀ x,(g x).all stillS=true
theorem rowsC_length (h:RowOk g sz):∀ l,(rowsC g l).length=l.length*sz
 | []=>by simp [rowsC]
 | x::r=>by simp only [rowsC,List.length_append,h.len,rowsC_length h r,List.length_cons,Nat.add_mul]; omega
theorem rowsC_still (h:RowOk g sz):∀ l,(rowsC g l).all stillS=true
 | []=>rfl
 | x::r=>by simp only [rowsC,List.all_append,h.still,rowsC_still h r,Bool.and_self]
theorem rowsC_append:∀ a b,rowsC g (a++b)=rowsC g a++rowsC g b
 | [],b=>rfl
 | x::r,b=>by simp only [List.cons_append,rowsC,rowsC_append r b,List.append_assoc]
theorem rowsC_drop (h:RowOk g sz):∀ (l:List α) (k:Nat),(rowsC g l).drop (k*sz)=rowsC g (l.drop k)
 | l,0=>by simp
 | [],k+1=>by simp [rowsC]
 | x::r,k+1=>by
  have e:(k+1)*sz=(g x).length+k*sz:=by rw [h.len,Nat.add_mul]; omega
  rw [rowsC,e,List.drop_append,List.drop_of_length_le (by omega),Nat.add_sub_cancel_left,List.nil_append,List.drop_succ_cons,rowsC_drop h r k]
theorem rowsC_take (h:RowOk g sz):∀ (l:List α) (k:Nat),(rowsC g l).take (k*sz)=rowsC g (l.take k)
 | l,0=>by simp [rowsC]
 | [],k+1=>by simp [rowsC]
 | x::r,k+1=>by
  have e:(k+1)*sz=(g x).length+k*sz:=by rw [h.len,Nat.add_mul]; omega
  rw [rowsC,e,List.take_append,List.take_of_length_le (by omega),Nat.add_sub_cancel_left,List.take_succ_cons,rowsC,rowsC_take h r k]
theorem rowsC_get (h:RowOk g sz) {l:List α} {k:Nat} {x:α} (hx:l[k]?=some x):((rowsC g l).drop (k*sz)).take sz=g x:=by
 have hk:=(List.getElem?_eq_some_iff.1 hx).1
 have e:l[k]=x:=by rw [List.getElem?_eq_getElem hk] at hx; exact Option.some.inj hx
 rw [rowsC_drop h,List.drop_eq_getElem_cons hk,rowsC,e,← h.len x,List.take_left]
theorem rowsC_cell (h:RowOk g sz) {l:List α} {k j:Nat} {x:α} (hx:l[k]?=some x) (hj:j<sz):(rowsC g l)[k*sz+j]?=(g x)[j]?:=by
 have:=congrArg (fun l=>l[j]?) (rowsC_get h hx)
 simpa [hj] using this
theorem rowsC_set (h:RowOk g sz) {l:List α} {k:Nat} (x:α) (hk:k<l.length):splice (rowsC g l) (k*sz) (g x)=rowsC g (l.set k x):=by
 have e:k*sz+(g x).length=(k+1)*sz:=by rw [h.len,Nat.add_mul]; omega
 rw [splice,e,rowsC_take h,rowsC_drop h]
 have e2:l.set k x=l.take k++x::l.drop (k+1):=List.set_eq_take_append_cons_drop .. |>.trans (by rw [if_pos hk])
 rw [e2,rowsC_append]
 simp [rowsC]
end
def intC (x:Int):List Value:=[.int .i64 x]
theorem intC_ok:RowOk intC 1:=⟨fun _=>rfl,fun _=>rfl⟩
section
variable {P:Program} {n0:NA} {Q:Exit→Env→LH→Prop} {l:Env} {L:LH} {K:Env→LH→Prop}
variable {α:Type} {g:α→List Value} {sz:Nat}
theorem QY.idxN {x i:Operand} {b n c k:Nat} {kd:IntKind} (hx:lv l x=some (.slice (some ⟨b,0,none⟩) n c)) (hi:lv l i=some (.int kd (k:Int))) (h1:k<n):QY P n0 L l (.idx x i sz) (.pointer (some ⟨b,k*sz,none⟩)):=by
 have:=QY.idx (P:=P) (n0:=n0) (L:=L) (size:=sz) hx hi (by omega) (by omega)
 simpa using this
theorem QY.ldF {x:Operand} {b k j:Nat} {xs:List α} {a:α} {u:Value} (h:RowOk g sz) (hx:lv l x=some (.pointer (some ⟨b,k*sz+j,none⟩))) (hb:L[b]?=some (.gro sz (rowsC g xs))) (hk:xs[k]?=some a) (hu:(g a)[j]?=some u) (hs:stillS u=true):QY P n0 L l (.ld x) u:=by
 have hj:j<sz:=by rw [← h.len a]; exact (List.getElem?_eq_some_iff.1 hu).1
 exact QY.ldg hx hb (by rw [rowsC_cell h hk hj]; exact hu) hs
theorem QY.ldI {x:Operand} {b k:Nat} {xs:List Int} {a:Int} (hx:lv l x=some (.pointer (some ⟨b,k*1,none⟩))) (hb:L[b]?=some (.gro 1 (rowsC intC xs))) (hk:xs[k]?=some a):QY P n0 L l (.ld x) (.int .i64 a) :=
 QY.ldF (j:=0) intC_ok hx hb hk rfl rfl
theorem bD {p:Prop} [Decidable p]:decide p=true↔p:=decide_eq_true_iff
theorem bN {a b:Int}:(a != b)=true↔a≠b:=bne_iff_ne
theorem L_ifp {c:Operand} {x y:MC} {t:Bool} {p:Prop} (hc:lv l c=some (.bool t)) (hp:t=true↔p) (ht:p→LWp P n0 x Q (knows c true l) L) (hf:¬ p→LWp P n0 y Q (knows c false l) L):LWp P n0 (.cond c x y) Q l L :=
 L_if hc (fun e=>ht (hp.1 e)) (fun e=>hf fun h=>by rw [hp.2 h] at e; cases e)
theorem S_splitp (s:Nat) {b:Bool} {p:Prop} {ss ss1:List Step} {l1:Env} {T T1:Taken} {L1:LH} (h0:arun [s] ss l T L=(ss1,l1,T1,L1)) (hh:headGuard ss1=some s) (hb:eget l1 s=some (.bool b)) (hp:b=true↔p)
  (ht:p→LSt P n0 ss1 K ((s,.bool true)::l1) T1 L1) (hf:¬ p→LSt P n0 ss1 K ((s,.bool false)::l1) T1 L1):LSt P n0 ss K l T L :=
 S_split s h0 hh hb (fun e=>ht (hp.1 e)) (fun e=>hf fun h=>by rw [hp.2 h] at e; cases e)
def boolT (P:Program) (t:TypeId):Bool:=match P.underlying t with
 | some .bool => !P.eqGuardType P.depth t
 | _=>false
theorem S_wk {ss ss1:List Step} {l1:Env} {T T1:Taken} {L1 L2:LH} (st:List Nat) (h:arun st ss l T L=(ss1,l1,T1,L1)) (hw:∀ X w0 E w,Rep X w0 E L1 w→Rep X w0 E L2 w) (hn:LSt P n0 ss1 K l1 T1 L2):LSt P n0 ss K l T L :=
 arun_ok st ss l T L h ⟨fun X w0 E0 w E l' F h0 hE hR hl hT=>hn.go X w0 E0 w E l' F h0 hE (hw _ _ _ _ hR) hl hT⟩
theorem Nx.goL {b:MC} (h:LWp P n0 b Q l L):Nx n0 (LWp P n0 b Q) l L:=Nx.go h
theorem seqN_keep:∀ (ks:List Nat) (n:Nat),(ks.all fun k=>Nat.blt k n)=true→keepOk (seqN 0 n) ks=true
 | [],_,_=>rfl
 | k::ks,n,h=>by
  simp only [List.all_cons,Bool.and_eq_true] at h
  have hk:k<n:=Nat.le_of_ble_eq_true h.1
  simp only [keepOk,seqN_get n 0 k hk,Nat.zero_add,Nat.beq_refl,seqN_keep ks n h.2,Bool.and_self]
theorem RetQ.keep {res:List RV} {R:Value→LH→Prop} {us:List Value} {v:Value} {L1:LH} (h:lres l L res=some us) (h0:(n0.keep.all fun k=>Nat.blt k n0.n)=true) (h1:letGoV (seqN 0 n0.n) L (lret us)=some v) (h2:letGo (seqN 0 n0.n) L=some L1) (hr:R v L1):RetQ n0 res R .ret l L :=
 RetQ.pick (seqN 0 n0.n) h (seqN_keep _ _ h0) h1 h2 hr (by rw [seqN_length]; exact Nat.ble_eq_true_of_le (Nat.le_refl _))
theorem RetQ.keepN {res:List RV} {R:Value→LH→Prop} {us:List Value} {v:Value} {L1:LH} (h:lres l L res=some us) (h0:(n0.keep.all fun k=>Nat.blt k n0.n)=true) (h1:letGoV (seqN 0 n0.n) L (lret us)=some v) (h2:letGo (seqN 0 n0.n) L=some L1) (hr:R v L1):RetQ n0 res R .normal l L :=
 RetQ.end (seqN 0 n0.n) h (seqN_keep _ _ h0) h1 h2 hr (by rw [seqN_length]; exact Nat.ble_eq_true_of_le (Nat.le_refl _))
end
def fNp {β:Sort _}:Nat→(Nat→β)→β
 | 0,k=>k 0
 | n+1,k=>k (n+1)
theorem fNp_eq {β:Sort _} (n:Nat) (k:Nat→β):fNp n k=k n:=by cases n <;> rfl
section
variable {P:Program} {n0:NA} {Q:Exit→Env→LH→Prop} {l:Env} {L:LH} {K:Env→LH→Prop}
def nV {β:Sort _}:Value→(Value→β)→β
 | .pointer (some ⟨b,o,none⟩),k=>fNp b fun b=>k (.pointer (some ⟨b,o,none⟩))
 | .slice (some ⟨b,o,none⟩) n c,k=>fNp b fun b=>k (.slice (some ⟨b,o,none⟩) n c)
 | .map (some b),k=>fNp b fun b=>k (.map (some b))
 | .int i n,k=>k (.int i n)
 | .bool b,k=>k (.bool b)
 | .agg ⟨cs⟩,k=>k (.agg ⟨cs⟩)
 | .tuple ⟨cs⟩,k=>k (.tuple ⟨cs⟩)
 | v,k=>k v
theorem nV_eq {β:Sort _} (v:Value) (k:Value→β):nV v k=k v:=by
 unfold nV; split <;> first | rfl | simp only [fNp_eq]
def nVs {β:Sort _}:List Value→(List Value→β)→β
 | [],k=>k []
 | v::r,k=>nV v fun v=>nVs r fun r=>k (v::r)
theorem nVs_eq {β:Sort _}:∀ (l:List Value) (k:List Value→β),nVs l k=k l
 | [],k=>rfl
 | v::r,k=>by simp only [nVs,nV_eq,nVs_eq r]
def nB {β:Sort _}:LB→(LB→β)→β
 | .cells sz vs,k=>nVs vs fun vs=>k (.cells sz vs)
 | .gro sz vs,k=>k (.gro sz vs)
 | .dead,k=>k .dead
 | .map m c,k=>k (.map m c)
 | .abs A F,k=>k (.abs A F)
 | x,k=>k x
theorem nB_eq {β:Sort _} (x:LB) (k:LB→β):nB x k=k x:=by
 unfold nB; split <;> first | rfl | simp only [nVs_eq]
def nL {β:Sort _}:LH→(LH→β)→β
 | [],k=>k []
 | x::r,k=>nB x fun x=>nL r fun r=>k (x::r)
theorem nL_eq {β:Sort _}:∀ (l:LH) (k:LH→β),nL l k=k l
 | [],k=>rfl
 | v::r,k=>by simp only [nL,nB_eq,nL_eq r]
def nE {β:Sort _}:Env→(Env→β)→β
 | [],k=>k []
 | (t,v)::r,k=>nV v fun v=>nE r fun r=>k ((t,v)::r)
theorem nE_eq {β:Sort _}:∀ (l:Env) (k:Env→β),nE l k=k l
 | [],k=>rfl
 | (t,v)::r,k=>by simp only [nE,nV_eq,nE_eq r]
theorem LSt.nf {ss:List Step} {T:Taken} (h:nE l fun l=>nL L fun L=>LSt P n0 ss K l T L):LSt P n0 ss K l T L:=by rw [nE_eq,nL_eq] at h; exact h
end
end Go.Tum
end
section
namespace Go.Tum
open Go Go.RowKit Go.WideShapes Go.ChangeShapes Go.Deep
section
variable {P:Program}
theorem Rep.deads (X:Nat→Prop) (w:World) (E:Emb):Rep X w E (List.replicate E.length .dead) w :=
 ⟨Fr.refl _ w,by simp,fun k x r hx hr b hf=>by
   have:=List.mem_of_getElem? hx
   rw [List.eq_of_mem_replicate this] at hf; exact hf.elim,fun k x r hx hr=>by
   have:=List.mem_of_getElem? hx
   rw [List.eq_of_mem_replicate this]; trivial,fun k k' x x' r r' b hx _ _ _ hf _=>by
   have:=List.mem_of_getElem? hx
   rw [List.eq_of_mem_replicate this] at hf; exact hf.elim⟩
theorem TrK.does {A:Args} {keep:List Nat} {f:FuncId} {vs vs':List Value} {L:LH} {R:Value→LH→Prop} (h:TrK P A keep f vs L R) (E:Emb) (w:World) (hL:L=List.replicate E.length .dead) (hA:∀ x∈A,inL x.1 keep=true∧ArgAt (fun _=>False) w E x.1 x.2.1 x.2.2) (hv:L2 (VR E) vs vs') (hT:TabOk P (fun _=>False) w:=by exact TabOk.none (by kernel_rfl)) :
  Does P f vs'.toArray w fun v' w'=>∃ E' v L',VR E' v v'∧R v L'∧Fr (fun _=>False) w w':=by
 subst hL
 refine (h (fun _=>False) w w E vs' ⟨by simp,hA,hT⟩ (Rep.deads _ w E) hv).2.mono ?_
 rintro v' w' ⟨E',v,L',_,_,h3,h4,h5⟩
 exact ⟨E',v,L',h3,h5,h4.fr⟩
theorem TrK.law {A:Args} {keep:List Nat} {f:FuncId} {vs vs':List Value} {L:LH} (h:TrK P A keep f vs L (fun v _=>v=.bool true)) (E:Emb) (w:World) (hL:L=List.replicate E.length .dead) (hA:∀ x∈A,inL x.1 keep=true∧ArgAt (fun _=>False) w E x.1 x.2.1 x.2.2) (hv:L2 (VR E) vs vs') (hT:TabOk P (fun _=>False) w:=by exact TabOk.none (by kernel_rfl)) :
  Does P f vs'.toArray w fun v' w'=>v'=.bool true∧Fr (fun _=>False) w w' :=
 (h.does E w hL hA hv hT).mono fun v' w' ⟨E',v,L',h1,h2,h3⟩=>by
  subst h2
  exact ⟨h1,h3⟩
end
end Go.Tum
end
section
namespace Go.Tum
open Go
section
variable {P:Program} {n0:NA} {l:Env} {L:LH}
theorem wk_new {b:Nat} {vs:List Value} (sz:Nat) (hb:L[b]?=some (.cells 0 vs)) (hne:vs≠[]) (hsz:0<sz) (hs:vs.all stillS=true):∀ X w0 E w,Rep X w0 E L w→Rep X w0 E (L.set b (.gro sz vs)) w:=by
 intro X w0 E w hR
 obtain ⟨r,hr⟩:=hR.ent hb
 obtain ⟨cs,hB,hl2,hroom,hz⟩:=hR.blk b _ r hb hr
 have h0:=hz rfl
 refine hR.upd hb hr (Fr.refl _ w) (.inr ⟨hne,hsz,cs,hB,L2.eq_still hs hl2,?_⟩) (by rw [gro_foot hne]; exact fun _ h=>.inl h)
 rw [h0] at hroom ⊢
 simpa using hroom
theorem lslc_rows {α:Type} {g:α→List Value} {sz:Nat} {b o i m c:Nat} {ys:List α} (h:RowOk g sz) (hb:L[b]?=some (.gro sz (rowsC g ys))) (ho:o=i*sz) (hm:i+m≤ys.length) (hz:0<sz):lslc L sz (.slice (some ⟨b,o,none⟩) m c)=some (rowsC g ((ys.drop i).take m)):=by
 subst ho
 cases m with
 | zero=>simp [lslc,rowsC]
 | succ m =>
  have hle:(i+(m+1))*sz≤ys.length*sz:=Nat.mul_le_mul_right _ hm
  have hpos:0<(m+1)*sz:=Nat.mul_pos (by omega) hz
  rw [Nat.add_mul] at hle
  have hlen:=rowsC_length h ys
  have h1:Nat.ble (i*sz+(m+1)*sz) (rowsC g ys).length=true:=Nat.ble_eq_true_of_le (by omega)
  have h2:(rowsC g ys).isEmpty=false:=by
   cases hq:rowsC g ys with
   | nil=>rw [hq] at hlen; simp at hlen; omega
   | cons=>rfl
  have h3:((rowsC g ys).drop (i*sz)).take ((m+1)*sz)=rowsC g ((ys.drop i).take (m+1)):=by rw [rowsC_drop h,rowsC_take h]
  have h4:=rowsC_still h ((ys.drop i).take (m+1))
  simp only [lslc,lcells,hb,h1,h2,h3,h4,Bool.and_self,Bool.not_false,cond_true]
theorem EW.appRS {α:Type} {g:α→List Value} {sz:Nat} {o:Oper} {s x:Operand} {sT xT:TypeId} {bytes b n bx ox i m cx:Nat} {xs ys:List α} (h:RowOk g sz) (ho:o.op=.call ⟨.builtin .append,⟨[s,x]⟩,⟨[sT,xT]⟩⟩) (ht:appT P sT xT=some (sz,bytes)) (hs:lv l s=some (.slice (some ⟨b,0,none⟩) n n)) (hx:lv l x=some (.slice (some ⟨bx,ox,none⟩) m cx))
  (hb:L[b]?=some (.gro sz (rowsC g xs))) (hbx:L[bx]?=some (.gro sz (rowsC g ys))) (hox:ox=i*sz) (hn:xs.length=n) (hm:i+m≤ys.length) (hz:0<sz) (hbd:(2*(n+m)+2048)*bytes≤281474976710656) :
  EW P n0 L l (.raw o) (fun v K=>v=.slice (some ⟨L.length,0,none⟩) (n+m) (n+m)∧K=L.set b .dead++[.gro sz (rowsC g (xs++(ys.drop i).take m))]):=by
 rw [rowsC_append]
 exact EW.appg ho ht hs hx hb (by rw [rowsC_length h,hn]) (rowsC_still h xs) (lslc_rows h hbx hox hm hz) (rowsC_still h _) hbd
end
end Go.Tum
end
section
namespace Go.Tum
open Go
section
variable {P:Program} {n0:NA} {l:Env} {L:LH}
variable {α:Type} {g:α→List Value} {sz:Nat}
theorem form_slice {E:Emb} {a:Option Addr} {n c:Nat} {v:Value} (hv:VR E (.slice a n c) v):∃ a' c',v=.slice a' n c':=by
 cases a with
 | none=>cases hv; exact ⟨_,_,rfl⟩
 | some a=>rcases a with ⟨b,o,_ | s⟩ <;> first | (rcases hv with hv | ⟨rfl,rfl,_,hv⟩ <;> exact ⟨_,_,hv⟩) | (obtain ⟨_,r,_,⟨a',c',rfl,_⟩ | ⟨rfl,_,_,rfl⟩⟩:=hv <;> exact ⟨_,_,rfl⟩)
end
end Go.Tum
end
section
namespace Go.Tum
open Go
section
variable {P:Program} {n0:NA} {l:Env} {L:LH}
def strT (P:Program) (src dst:TypeId):Bool:=match P.underlying src,P.underlying dst with
 | some (.slice e),some .string=>match P.underlying e with
  | some (.int .u8)=>true
  | _=>false
 | _,_=>false
variable {K:Env→LH→Prop} {T T1:Taken} {ss r:List Step} {l1:Env} {L1:LH} {k:Nat} {d:Option Nat} {g:Option (Nat × Bool)} {op:QOp} {rd:Bool}
def QY2 (P:Program) (n0:NA) (L:LH) (l:Env) (q:QOp) (v u:Value):Prop :=
 ∀ (X:Nat→Prop) (w0:World) (E0:Emb) (w:World) (E:Emb) (l':Env),n0.Ok P X w0 E0→n0.Ext E0 E→Rep X w0 E L w→ER E l l'→∃ v',q.Y P l' v' w∧(VR E v v'∨VR E u v')
theorem S_Q2 {v u:Value} (st:List Nat) (h:arun st ss l T L=(.q k d g op rd::r,l1,T1,L1)) (hg:gw g l1=some true) (hy:QY2 P n0 L1 l1 op v u) (h1:LSt P n0 r K (dpush d v l1) (bif rd then (k,op,l1,v)::T1 else T1) L1) (h2:LSt P n0 r K (dpush d u l1) (bif rd then (k,op,l1,u)::T1 else T1) L1):LSt P n0 ss K l T L:=by
 refine arun_ok st ss l T L h ?_
 refine ⟨fun X w0 E0 w E l' F h0 hE hR hl hT=>?_⟩
 simp only [stepsWp]
 refine gw_ok hl hg (fun _=>?_) (fun e=>by cases e)
 obtain ⟨v',e1,e2⟩:=hy X w0 E0 w E l' h0 hE hR hl
 refine ⟨v',e1,?_⟩
 rcases e2 with e2 | e2
 ·cases rd
  ·exact h1.go X w0 E0 w E _ _ h0 hE hR (hl.dpush e2 d) hT
  ·exact h1.go X w0 E0 w E _ _ h0 hE hR (hl.dpush e2 d) ⟨rfl,⟨l',v',rfl,hl,e2⟩,hT⟩
 ·cases rd
  ·exact h2.go X w0 E0 w E _ _ h0 hE hR (hl.dpush e2 d) hT
  ·exact h2.go X w0 E0 w E _ _ h0 hE hR (hl.dpush e2 d) ⟨rfl,⟨l',v',rfl,hl,e2⟩,hT⟩
def sliceT (P:Program) (t:TypeId):Bool:=match P.underlying t with
 | some (.slice _)=>true
 | _=>false
theorem nil_run {t:TypeId} {a:Option Addr} {n c:Nat} {w:World} (ht:sliceT P t=true):(Op.equal t (.slice a n c) (.slice none 0 0)).run P w=.ok a.isNone w:=by
 unfold sliceT at ht
 split at ht
 ·rename_i e hu
  unfold Op.equal Op.maxDepth
  unfold Op.equalIn
  simp only [Sem.run_bind,run_underlying hu,Result.andThen_ok]
  cases a <;> rfl
 ·cases ht
theorem QY.nilS {o:Oper} {t ty:TypeId} {x:Operand} {b off n c:Nat} (ho:o.op=.binOp .eql t x (.const (.slice none 0 0)) ty) (ht:sliceT P t=true) (hx:lv l x=some (.slice (some ⟨b,off,none⟩) n c)) (hn:0<n):QY P n0 L l (.raw o) (.bool false):=by
 intro X w0 E0 w E l' _ hE hR hl
 obtain ⟨vx,h1,h2⟩:=lv_ev hl hx
 obtain ⟨_,r,hr,⟨a',c',rfl,_⟩ | ⟨h0,_⟩⟩:=h2
 rotate_left
 ·omega
 obtain ⟨d,op,ty',pos,af,g⟩:=o
 simp only at ho
 subst ho
 refine ⟨_,fun ρ w1 ha hs1=>?_,rfl⟩
 have hc:ρ (.const (.slice none 0 0))=.slice none 0 0:=ha _ _ rfl
 simp [execOp,ha x _ h1,hc,eqGuard,binOp,nil_run ht]
theorem QY.nilS2 {o:Oper} {t ty:TypeId} {x:Operand} {b off n c:Nat} (ho:o.op=.binOp .eql t x (.const (.slice none 0 0)) ty) (ht:sliceT P t=true) (hx:lv l x=some (.slice (some ⟨b,off,none⟩) n c)):QY2 P n0 L l (.raw o) (.bool true) (.bool false):=by
 intro X w0 E0 w E l' _ hE hR hl
 obtain ⟨vx,h1,h2⟩:=lv_ev hl hx
 obtain ⟨a',c',rfl⟩:=form_slice h2
 obtain ⟨d,op,ty',pos,af,g⟩:=o
 simp only at ho
 subst ho
 refine ⟨.bool a'.isNone,fun ρ w1 ha hs1=>?_,?_⟩
 ·have hc:ρ (.const (.slice none 0 0))=.slice none 0 0:=ha _ _ rfl
  simp [execOp,ha x _ h1,hc,eqGuard,binOp,nil_run ht]
 ·cases a'
  ·exact .inl rfl
  ·exact .inr rfl
end
end Go.Tum
end
section
namespace Go.Tum
open Go
abbrev IMap:=List (Int × Int × Nat)
def gfind (G:IMap) (a:Int):Option (Int × Int × Nat):=G.find? fun x=>decide (x.1=a)
def gget (G:IMap) (a:Int):Int:=((gfind G a).map (·.2.1)).getD 0
def ghas (G:IMap) (a:Int):Bool:=(gfind G a).isSome
def gput (G:IMap) (a n:Int) (c:Nat):IMap:=G++[(a,n,c)]
theorem mfind_mI (G:IMap) (a:Int):mfind (mI G) a=(gfind G a).map fun x=>(x.1,.int .i64 x.2.1,x.2.2):=by
 simp only [mfind,mI,gfind,List.find?_map]
 rfl
theorem mset_none {G:IMap} {a n:Int} {c:Nat} (h:gfind G a=none):mset (mI G) a (.int .i64 n) c=(mI (gput G a n c),c+1):=by
 unfold mset
 rw [mfind_mI,h]
 simp [mI,gput]
theorem gfind_put (G:IMap) (a n:Int) (c:Nat) (b:Int):gfind (gput G a n c) b=(gfind G b).or (if a=b then some (a,n,c) else none):=by
 simp only [gfind,gput,List.find?_append,List.find?_singleton,decide_eq_true_eq]
section
variable {P:Program} {n0:NA} {l:Env} {L:LH}
def imT (P:Program) (mT:TypeId):Bool:=match P.underlying mT with
 | some (.map kt et)=>match P.underlying kt,zeroOf P et with
  | some (.int .i64),some (.int .i64 (.ofNat 0))=>true
  | _,_=>false
 | _=>false
theorem imT_ok {mT:TypeId} (h:imT P mT=true):∃ kt et,P.underlying mT=some (.map kt et)∧P.underlying kt=some (.int .i64)∧zeroOf P et=some (.int .i64 0):=by
 unfold imT at h
 split at h
 rotate_left
 ·cases h
 rename_i kt et hu
 split at h
 ·rename_i h1 h2; exact ⟨kt,et,hu,h1,h2⟩
 ·cases h
theorem imap_at {X:Nat→Prop} {w0 w:World} {E:Emb} {l':Env} {x:Operand} {b c:Nat} {G:IMap} (hR:Rep X w0 E L w) (hl:ER E l l') (hx:lv l x=some (.map (some b))) (hb:L[b]?=some (.imap G c)) :
  ∃ r,E[b]?=some r∧ev l' x=some (.map (some r.1))∧Mp (Value.int .i64) w r.1 (mI G) c∧Wf (mI G) c:=by
 obtain ⟨_,h1,r,h2,rfl⟩:=lv_ev hl hx
 obtain ⟨h3,h4⟩:=hR.blk b _ r hb h2
 exact ⟨r,h2,h1,h3,h4⟩
theorem QY.igetok {o:Oper} {mT:TypeId} {x y:Operand} {b c:Nat} {G:IMap} {a n:Int} {t:Bool} (ho:o.op=.lookup mT x y true) (ht:imT P mT=true) (hx:lv l x=some (.map (some b))) (hy:lv l y=some (.int .i64 a)) (hb:L[b]?=some (.imap G c)) (hn:gget G a=n) (hh:ghas G a=t):QY P n0 L l (.raw o) (.tuple ⟨[.int .i64 n,.bool t]⟩):=by
 intro X w0 E0 w E l' _ hE hR hl
 obtain ⟨kt,et,hT,hkt,hz⟩:=imT_ok ht
 obtain ⟨r,h2,h3,h4,_⟩:=imap_at hR hl hx hb
 obtain ⟨_,h6,rfl⟩:=lv_ev hl hy
 obtain ⟨d,op,ty,pos,af,g⟩:=o
 simp only at ho
 subst ho
 refine ⟨_,lookupOk_Y (ty:=ty) hT (keyLaw_int hkt) (zeroOf_ok hz) h3 h6 h4 rfl,?_⟩
 rw [mfind_mI]
 subst hn; subst hh
 refine ⟨_,rfl,?_,?_,trivial⟩
 ·show _=_
  unfold gget
  cases gfind G a <;> rfl
 ·show _=_
  unfold ghas
  cases gfind G a <;> rfl
theorem EW.iputN {o:Oper} {mT:TypeId} {x y u:Operand} {b c:Nat} {G:IMap} {a n:Int} (ho:o.op=.mapUpdate mT x y u) (ht:imT P mT=true) (hx:lv l x=some (.map (some b))) (hy:lv l y=some (.int .i64 a)) (hu:lv l u=some (.int .i64 n)) (hb:L[b]?=some (.imap G c)) (hn:gfind G a=none) :
  EW P n0 L l (.raw o) (fun w K=>w=undef∧K=L.set b (.imap (gput G a n c) (c+1))):=by
 intro X w0 E0 w E l' Kf h0 hE hR hl hK
 obtain ⟨kt,et,hT,hkt,hz⟩:=imT_ok ht
 obtain ⟨r,h2,h3,h4,h5⟩:=imap_at hR hl hx hb
 obtain ⟨_,h6,rfl⟩:=lv_ev hl hy
 obtain ⟨_,h7,rfl⟩:=lv_ev hl hu
 obtain ⟨d,op,ty,pos,af,g⟩:=o
 simp only at ho
 subst ho
 have hs:=mset_none (n:=n) (c:=c) hn
 have hw:=h5.mset (k:=a) (.int .i64 n)
 rw [hs] at hw
 refine mapUpdate_W (ty:=ty) (k:=a) hT (keyLaw_int hkt) h3 h6 h7 h4 h5 (fun w' hM hf hsz=>hK w' E _ _ _ ⟨rfl,rfl⟩ (Ext.refl E) (hR.upd hb h2 hf ⟨?_,hw⟩ (fun _ h=>.inl h)) VR.undef)
 rw [hs] at hM; exact hM
theorem EW.imake {o:Oper} {mT:TypeId} (ho:o.op=.makeMap mT none):EW P n0 L l (.raw o) (fun w K=>w=.map (some L.length)∧K=L++[.imap [] 0]):=by
 intro X w0 E0 w E l' Kf h0 hE hR hl hK
 obtain ⟨d,op,ty,pos,af,g⟩:=o
 simp only at ho
 subst ho
 exact makeMap_W (ty:=ty) (mT:=mT) (Value.int .i64) (fun w' hM hf hsz=>hK w' (E++[(w.heap.size,0,0)]) _ _ _ ⟨rfl,rfl⟩ (Ext.push E _) (hR.push1 hf rfl hsz (fun _ h=>h) ⟨hM,by simp [mI],by simp [mI],by simp [mI]⟩) ⟨_,hR.last _,rfl⟩)
end
end Go.Tum
end
section
namespace Go.Tum
open Go
def RdC (w:World) (sz:Nat) (v:Value) (n:Nat) (cells:List Value):Prop :=
 cells.length=n*sz∧(∀ u∈cells,one u=true) ∧
 (((∃ a c,v=.slice a 0 c)∧n=0)∨∃ sa c,v=.slice (some sa) n c∧∀ j,j<n*sz→w.cell? (sa.add j)=cells[j]?)
theorem RdC.sim {w w0:World} {sz:Nat} {v:Value} {n:Nat} {cells:List Value} (h:RdC w sz v n cells) (hs:Sim w0 w):RdC w0 sz v n cells:=by
 obtain ⟨h1,h2,h3⟩:=h
 refine ⟨h1,h2,?_⟩
 rcases h3 with h4 | ⟨sa,c,h4,h5⟩
 ·exact .inl h4
 ·exact .inr ⟨sa,c,h4,fun j hj=>by rw [hs.cell]; exact h5 j hj⟩
section
variable {P:Program} {w:World} {l:Env} {K:Value→World→Prop}
theorem firstCells_rdC {sz n:Nat} {v:Value} {cells:List Value} (h:RdC w sz v n cells):(Builtin.firstCells sz n v).run P w=.ok cells.toArray w:=by
 obtain ⟨h1,_,h3⟩:=h
 rcases h3 with ⟨⟨a,c,rfl⟩,rfl⟩ | ⟨sa,c,rfl,h5⟩
 ·have:cells=[]:=by simpa using h1
  subst this
  cases a with
  | none=>simp [Builtin.firstCells]
  | some a =>
   simp only [Builtin.firstCells,Nat.zero_mul]
   exact loadCells_run 0 0 #[] #[] rfl (fun j _ hj=>by omega) (by simp)
 ·simp only [Builtin.firstCells]
  exact loadCells_run _ 0 #[] cells.toArray (by simpa using h1) (fun j _ hj=>by rw [h5 j (by omega)]; simp) (by simp)
theorem append_runC {sT xT e:TypeId} {sz bytes n m c:Nat} {base:Option Addr} {vx:Value} {cells cells2:List Value} {ty:TypeId} (he:ElemT P sT e sz bytes) (hx:∃ e',P.underlying xT=some (.slice e'))
  (hs:Rd w sz (.slice base n c) n cells) (hr:RdC w sz vx m cells2) (hb:(2*(n+m)+2048)*bytes≤281474976710656) (hby:0<bytes) :
  ((n+m≤c∧(∀ a,base=some a→(Builtin.append_ #[sT,xT] ty #[.slice base n c,vx]).run P w=(do storeCells (a.add (n*sz)) cells2; pure (.slice base (n+m) c):Sem Value).run P w) ∧
    (base=none→(Builtin.append_ #[sT,xT] ty #[.slice base n c,vx]).run P w=.ok (.slice base (n+m) c) w)) ∨
   (c<n+m∧∃ c' zs w',n+m≤c'∧(cells++cells2++zs).length=c'*sz∧Sim w' (w.alloc (.cells (cells++cells2++zs).toArray e)) ∧
    (Builtin.append_ #[sT,xT] ty #[.slice base n c,vx]).run P w=.ok (.slice (some ⟨w.heap.size,0,none⟩) (n+m) c') w')):=by
 obtain ⟨hu,i,z,hi,h1,h2,hz,hzs,_⟩:=he
 obtain ⟨e',hx⟩:=hx
 have hl:(Builtin.lenOf vx).run P w=.ok m w:=by
  obtain ⟨_,_,h3⟩:=hr
  rcases h3 with ⟨⟨a,c,rfl⟩,rfl⟩ | ⟨sa,c,rfl,_⟩ <;> simp [Builtin.lenOf]
 have hzv:(zeroValue e).run P w=.ok z w:=by simp [zeroValue,typeInfo_run hi,hz]
 by_cases hc:n+m≤c
 ·refine .inl ⟨hc,fun a ha=>?_,fun ha=>?_⟩
  ·subst ha
   unfold Builtin.append_
   simp [run_underlying hu,run_underlying hx,sizeOf_run hi,h1,hl,hc,firstCells_rdC hr]
  ·subst ha
   unfold Builtin.append_
   simp [run_underlying hu,run_underlying hx,sizeOf_run hi,h1,hl,hc,firstCells_rdC hr]
 ·refine .inr ⟨by omega,?_⟩
  have hcap:=nextslicecap_le (n+m) c (by omega)
  have hle:Builtin.nextslicecap (n+m) c*bytes≤281474976710656:=Nat.le_trans (Nat.mul_le_mul_right _ hcap) hb
  have hnm:(2*(n+m)+2048)*1≤(2*(n+m)+2048)*bytes:=Nat.mul_le_mul_left _ hby
  have hq:(Question.appendCap (n+m) c e).forced=false:=rfl
  have hbig:¬ (IntKind.i64.max<((n:Int)+(m:Int))):=by
   have:IntKind.i64.max=9223372036854775807:=rfl
   rw [this]; omega
  let t:=w.tape w.drawn (Question.appendCap (n+m) c e)
  let c':=(n+m)+t % (2 ^ 63-(n+m))
  have hsim:Sim w.drew w:=⟨rfl,rfl,rfl,rfl⟩
  have f1:(Builtin.firstCells sz n (.slice base n c)).run P w.drew=.ok cells.toArray w.drew:=firstCells_rd (hs.sim hsim)
  have f2:(Builtin.firstCells sz m vx).run P w.drew=.ok cells2.toArray w.drew:=firstCells_rdC (hr.sim hsim)
  have hzv1:(zeroValue e).run P w.drew=.ok z w.drew:=by simp [zeroValue,typeInfo_run hi,hz]
  refine ⟨c',(Builtin.zeroCells z.cells (c'-(n+m))).toList,w.drew.alloc (.cells (cells.toArray++cells2.toArray++Builtin.zeroCells z.cells (c'-(n+m))) e),Nat.le_add_right _ _,?_,?_,?_⟩
  ·obtain ⟨k1,_,_⟩:=hs
   obtain ⟨k2,_,_⟩:=hr
   simp only [List.length_append,k1,k2,Builtin.zeroCells]
   simp only [Array.length_toList,Array.size_map,Array.size_range,hzs]
   have e1:c'-(n+m)+(n+m)=c':=Nat.sub_add_cancel (Nat.le_add_right _ _)
   rw [← Nat.add_mul,← Nat.add_mul]
   congr 1
   omega
  ·refine ⟨?_,rfl,rfl,rfl⟩
   show w.heap.push _=w.heap.push _
   congr 2
   simp
  ·unfold Builtin.append_
   have hle':¬ (281474976710656<Builtin.nextslicecap (n+m) c*bytes):=by omega
   have hne:bytes≠0:=by omega
   simp [run_underlying hu,run_underlying hx,sizeOf_run hi,h1,hl,hc,typeInfo_run hi,h2,hne,hle',newRow]
   rw [if_neg (by rw [hq]; simp),f1]
   simp only [Result.andThen_ok]
   rw [f2]
   simp only [Result.andThen_ok]
   rw [hzv1]
   simp only [Result.andThen_ok,Result.ok.injEq]
   refine ⟨rfl,?_⟩
   congr 2
   show cells.toArray++(cells2.toArray++Builtin.zeroCells z.cells (c'-(n+m)))=_
   generalize Builtin.zeroCells z.cells (c'-(n+m))=Z
   rw [← Array.append_assoc]
   simp
theorem append_anyC {d:Option Tmp} {pos:String} {af:Array Edge} {g:Option (Nat × Bool)} {s x:Operand} {sT xT ty e:TypeId} {sz bytes n m c:Nat} {base:Option Addr} {vx:Value} {cells cells2:List Value} (he:ElemT P sT e sz bytes) (hxT:∃ e',P.underlying xT=some (.slice e'))
  (hs:ev l s=some (.slice base n c)) (hx:ev l x=some vx) (hS:Rd w sz (.slice base n c) n cells) (hR:RdC w sz vx m cells2) (hb:(2*(n+m)+2048)*bytes≤281474976710656) (hby:0<bytes)
  (h1:n+m≤c→∀ a,base=some a→(cells2=[]∧K (.slice base (n+m) c) w)∨∃ b o cs,a=⟨b,o,none⟩∧Blk w b cs∧o+n*sz+cells2.length≤cs.length∧K (.slice base (n+m) c) (putCells w ⟨b,o+n*sz,none⟩ 0 cells2))
  (h0:n+m≤c→base=none→K (.slice base (n+m) c) w)
  (h2:c<n+m→∀ c' zs,n+m≤c'→(cells++cells2++zs).length=c'*sz→K (.slice (some ⟨w.heap.size,0,none⟩) (n+m) c') (w.alloc (.cells (cells++cells2++zs).toArray e))) :
  (EOp.raw ⟨d,.call ⟨.builtin .append,#[s,x],#[sT,xT]⟩,ty,pos,af,g⟩).W P K l w:=by
 intro ρ w0 ha hsim
 have hexec:execOp ρ ⟨d,.call ⟨.builtin .append,#[s,x],#[sT,xT]⟩,ty,pos,af,g⟩=(do let r ← Builtin.append_ #[sT,xT] ty #[.slice base n c,vx]; pure (Next.value r)):=by
  simp [execOp,resolve,invoke,builtin,ha s _ hs,ha x _ hx]
 have hrun:=append_runC (P:=P) (w:=w0) (ty:=ty) he hxT (hS.sim hsim) (hR.sim hsim) hb hby
 rcases hrun with ⟨hle,k1,k2⟩ | ⟨hlt,c',zs,w',hc',hlz,hsw,hr⟩
 ·cases base with
  | none =>
   refine Eff.value (v:=.slice none (n+m) c) (w':=w0) ?_ ⟨w,hsim,h0 hle rfl⟩
   rw [hexec]
   simp [k2 rfl]
  | some a =>
   rcases h1 hle a rfl with ⟨rfl,hK⟩ | ⟨b,o,cs,rfl,hB,hcl,hK⟩
   ·refine Eff.value (v:=.slice (some a) (n+m) c) (w':=w0) ?_ ⟨w,hsim,hK⟩
    rw [hexec]
    simp [k1 _ rfl,storeCells]
   have hst:=storeCells_blk (P:=P) (w:=w0) (hB.sim hsim) hcl hR.2.1
   refine Eff.value (v:=.slice (some ⟨b,o,none⟩) (n+m) c) (w':=putCells w0 ⟨b,o+n*sz,none⟩ 0 cells2) ?_ ⟨_,putCells_sim hsim _ _ _,hK⟩
   rw [hexec]
   simp only [Sem.run_bind,k1 _ rfl,add_none,hst]
   simp
 ·refine Eff.value (v:=.slice (some ⟨w0.heap.size,0,none⟩) (n+m) c') (w':=w') ?_ ⟨_,hsw.trans (hsim.push _),?_⟩
  ·rw [hexec]
   simp [hr]
  ·rw [hsim.heap]
   exact h2 hlt c' zs hc' hlz
end
section
variable {X:Nat→Prop} {w0 w w':World} {E:Emb} {L:LH}
theorem appG_ok {P:Program} {l:Env} {K:Value→World→Prop} {d:Option Tmp} {pos:String} {af:Array Edge} {g:Option (Nat × Bool)} {s x:Operand} {sT xT ty e:TypeId} {sz bytes b n m:Nat} {vs' vx':Value} {gs us us2:List Value} (he:ElemT P sT e sz bytes) (hxT:∃ e',P.underlying xT=some (.slice e')) (hby:0<bytes)
  (hsz:0<sz) (hR:Rep X w0 E L w) (hs:ev l s=some vs') (hx:ev l x=some vx') (hsr:VR E (.slice (some ⟨b,0,none⟩) n n) vs') (hb:L[b]?=some (.gro sz gs)) (e4:gs.length=n*sz) (hrd1:Rd w sz vs' n us) (hrd2:RdC w sz vx' m us2) (hbd:(2*(n+m)+2048)*bytes≤281474976710656)
  (hK:∀ w' E' v',Ext E E'→Rep X w0 E' (L.set b .dead++[.gro sz (gs++us2)]) w'→VR E' (.slice (some ⟨L.length,0,none⟩) (n+m) (n+m)) v'→K v' w'):(EOp.raw ⟨d,.call ⟨.builtin .append,#[s,x],#[sT,xT]⟩,ty,pos,af,g⟩).W P K l w:=by
 have hlen1:us.length=n*sz:=hrd1.1
 have hlen2:us2.length=m*sz:=hrd2.1
 have freshG:∀ (Lb:LH) (xs:List Value),Rep X w0 E Lb w→us++us2=xs→xs≠[]→∀ (c':Nat) (zs:List Value),n+m≤c'→(us++us2++zs).length=c'*sz →
   Rep X w0 (E++[(w.heap.size,0,c'-(n+m))]) (Lb++[.gro sz xs]) (w.alloc (.cells (us++us2++zs).toArray e)):=by
  intro Lb xs hRb hxs hne c' zs hc' hlz
  subst hxs
  refine hRb.push1 (Fr.alloc _ _ _) rfl (alloc_size _ _) (fun b hb=>?_) (.inr ⟨hne,hsz,_,Blk.new w _ e,?_,?_⟩)
  ·cases hq:us++us2 with
   | nil=>exact absurd hq hne
   | cons y ys=>rw [hq] at hb; exact hb
  ·simp only [List.drop_zero]
   rw [List.take_append_of_le_length (Nat.le_refl _),List.take_length]
  ·rw [hlz]
   simp only [List.length_append,hlen1,hlen2]
   rw [Nat.zero_add,← Nat.add_mul,← Nat.add_mul]
   exact Nat.mul_le_mul_right _ (by omega)
 have slcNew:∀ (Lb:LH),Rep X w0 E Lb w→∀ c',n+m≤c'→VR (E++[(w.heap.size,0,c'-(n+m))]) (.slice (some ⟨Lb.length,0,none⟩) (n+m) (n+m)) (.slice (some ⟨w.heap.size,0,none⟩) (n+m) c'):=by
  intro Lb hRb c' hc'
  exact ⟨rfl,_,hRb.last _,.inl ⟨_,_,rfl,.inl ⟨by simp,by simp; omega⟩⟩⟩
 obtain ⟨hsp,r,hr,⟨a',c',rfl,hcase⟩ | ⟨hn0,hc0,hnil⟩⟩:=hsr.sr rfl
 rotate_left
 ·obtain ⟨ax,rfl⟩:=hnil
  subst hn0
  have hr:E[b]?=some r:=hr
  have hgs:gs=[]:=List.length_eq_zero_iff.1 (by simpa using e4)
  subst hgs
  have hu1:us=[]:=List.length_eq_zero_iff.1 (by rw [hlen1]; simp)
  subst hu1
  have none0:0+m≤0→us2=[]∧K (.slice ax (0+m) 0) w:=fun hle=>by
   have:m=0:=by omega
   subst this
   have hc2e:us2=[]:=List.length_eq_zero_iff.1 (by rw [hlen2]; simp)
   subst hc2e
   exact ⟨rfl,hK _ (E++[(0,0,0)]) _ (Ext.push E _) (hR.again hb hr (Fr.refl _ w) (fun c hc=>hc.elim) (.inl ⟨rfl,rfl⟩)) ⟨rfl,_,hR.last _,.inr ⟨rfl,rfl,ax,rfl⟩⟩⟩
  refine append_anyC he hxT hs hx hrd1 hrd2 hbd hby (fun hle _ _=>.inl (none0 hle)) (fun hle _=>(none0 hle).2) (fun hlt c' zs hc' hlz=>?_)
  have hne:us2≠[]:=by
   intro e
   rw [e] at hlen2
   have:0<m*sz:=Nat.mul_pos (by omega) hsz
   simp at hlen2
   omega
  have k1:=freshG _ ([]++us2) (hR.kill b) rfl hne c' zs hc' hlz
  have k2:=slcNew _ (hR.kill b) c' hc'
  simp only [List.length_set] at k2
  exact hK _ _ _ (Ext.push E _) k1 k2
 have hr:E[b]?=some r:=hr
 rcases hR.blk b _ r hb hr with ⟨rfl,hr2⟩ | ⟨hne,_,cs,hB,hcs,hroom⟩
 ·have hn0:n=0:=by
   rcases Nat.eq_zero_or_pos n with h0 | h0
   ·exact h0
   ·have:0<n*sz:=Nat.mul_pos h0 hsz
    simp at e4; omega
  subst hn0
  have hc0:c'=0:=by rcases hcase with ⟨_,rfl⟩ | ⟨_,_,rfl,_⟩ <;> omega
  subst hc0
  have hu1:us=[]:=List.length_eq_zero_iff.1 (by rw [hlen1]; simp)
  subst hu1
  have hblk:a'.spot=none:=by rcases hcase with ⟨rfl,_⟩ | ⟨_,_,_,o',rfl,_⟩ <;> rfl
  have hab:∃ o',a'=⟨r.1,o',none⟩∧o'≤0+r.2.1:=by 
   rcases hcase with ⟨rfl,_⟩ | ⟨_,_,_,o',rfl,ho⟩
   ·exact ⟨_,rfl,Nat.le_refl _⟩
   ·exact ⟨_,rfl,ho⟩
  refine append_anyC he hxT hs hx hrd1 hrd2 hbd hby (fun hle a ha=>.inl ?_) (fun _ ha=>by cases ha) (fun hlt c'' zs hc'' hlz=>?_)
  ·have:m=0:=by omega
   subst this
   have hc2e:us2=[]:=List.length_eq_zero_iff.1 (by rw [hlen2]; simp)
   subst hc2e
   refine ⟨rfl,hK _ (E++[r]) _ (Ext.push E _) (hR.again hb hr (Fr.refl _ w) (fun c hc=>hc.elim) (.inl ⟨rfl,hr2⟩)) ?_⟩
   obtain ⟨o',rfl,ho'⟩:=hab
   exact ⟨rfl,r,hR.last _,.inl ⟨_,_,rfl,.inr ⟨rfl,rfl,rfl,o',rfl,by simpa using ho'⟩⟩⟩
  ·have hne:us2≠[]:=by
    intro e
    rw [e] at hlen2
    have:0<m*sz:=Nat.mul_pos (by omega) hsz
    simp at hlen2
    omega
   have k1:=freshG _ ([]++us2) (hR.kill b) rfl hne c'' zs hc'' hlz
   have k2:=slcNew _ (hR.kill b) c'' hc''
   simp only [List.length_set] at k2
   exact hK _ _ _ (Ext.push E _) k1 k2
 ·have hn0:0<n:=by
   rcases Nat.eq_zero_or_pos n with h0 | h0
   ·subst h0; simp at e4; exact absurd e4 hne
   ·exact h0
  rcases hcase with ⟨rfl,rfl⟩ | ⟨h0,_⟩
  rotate_left
  ·omega
  have hus:us=gs:=by
   rcases hrd1.2.2 with ⟨⟨_,_,e⟩,h0⟩ | ⟨b1,o1,c1,cs1,e,hB1,_,h5⟩
   ·omega
   ·cases e
    rw [← h5,← hB.eq hB1,← e4]
    simpa using hcs
  subst hus
  have hne2:us++us2≠[]:=by
   intro e
   rw [List.append_eq_nil_iff] at e
   exact hne e.1
  refine append_anyC he hxT hs hx hrd1 hrd2 hbd hby (fun hle' a ha=>.inr ?_) (fun _ ha=>by cases ha) (fun hlt' c'' zs hc'' hlz=>?_)
  ·cases ha
   have hsp:n*sz+m*sz≤n*sz+r.2.2*sz:=by
    rw [← Nat.add_mul,← Nat.add_mul]; exact Nat.mul_le_mul_right _ hle'
   have hcl:0+r.2.1+n*sz+us2.length≤cs.length:=by omega
   refine ⟨_,_,cs,rfl,hB,hcl,hK _ (E++[(r.1,0+r.2.1,n+r.2.2-(n+m))]) _ (Ext.push E _) ?_ ?_⟩
   ·refine hR.again hb hr ((putCells_fr (p:=⟨r.1,0+r.2.1+n*sz,none⟩) us2 0 w).mono fun c _ hc=>?_) (fun c hc=>.inl ?_) (.inr ⟨hne2,hsz,_,putCells_blk us2 0 w cs hB (by omega),?_,?_⟩)
    ·cases us with
     | nil=>exact absurd rfl hne
     | cons=>exact hc
    ·cases us with
     | nil=>exact absurd rfl hne
     | cons=>exact hc
    ·have:=take_splice (cs:=cs) (o:=0+r.2.1) (k:=n*sz) (b:=us2) (a:=us) hcl (by rw [← e4]; simpa using hcs)
     rw [List.length_append,hlen1,Nat.add_zero]
     exact this
    ·rw [List.length_append,hlen1,hlen2,Nat.add_zero,splice_length hcl]
     have e5:n*sz+m*sz+(n+r.2.2-(n+m))*sz=n*sz+r.2.2*sz:=by
      rw [← Nat.add_mul,← Nat.add_mul,← Nat.add_mul]; congr 1; omega
     show 0+r.2.1+(n*sz+m*sz)+(n+r.2.2-(n+m))*sz≤cs.length
     omega
   ·exact ⟨rfl,(r.1,0+r.2.1,n+r.2.2-(n+m)),hR.last _,.inl ⟨_,_,rfl,.inl ⟨by simp,by simp; omega⟩⟩⟩
  ·have k1:=freshG _ (us++us2) (hR.kill b) rfl hne2 c'' zs hc'' hlz
   have k2:=slcNew _ (hR.kill b) c'' hc''
   simp only [List.length_set] at k2
   exact hK _ _ _ (Ext.push E _) k1 k2
end
end Go.Tum
end
section
namespace Go.Tum
open Go
def jfind:List Nat→LH→Nat→LB→LB
 | j::φ,x::xs,k,d=>match Nat.beq j k with
  | true=>x
  | false=>jfind φ xs k d
 | _,_,_,d=>d
def jgo (φ:List Nat) (xs:LH):Nat→LH→LH
 | _,[]=>[]
 | i,y::r=>jfind φ xs i y::jgo φ xs (i+1) r
theorem jgo_get (φ:List Nat) (xs:LH):∀ (M:LH) (i k:Nat),(jgo φ xs i M)[k]?=(M[k]?).map (jfind φ xs (i+k))
 | [],i,k=>by simp [jgo]
 | y::r,i,0=>by simp [jgo]
 | y::r,i,k+1=>by
  rw [jgo,List.getElem?_cons_succ,List.getElem?_cons_succ,jgo_get φ xs r (i+1) k,show i+1+k=i+(k+1) by omega]
theorem jfind_no:∀ (φ:List Nat) (xs:LH) (k:Nat) (d:LB),k∉φ→jfind φ xs k d=d
 | [],_,_,_,_=>rfl
 | _::_,[],_,_,_=>rfl
 | j::φ,x::xs,k,d,h=>by
  simp only [List.mem_cons,not_or] at h
  have:Nat.beq j k=false:=by
   cases hb:Nat.beq j k
   ·rfl
   ·exact absurd (Nat.eq_of_beq_eq_true hb).symm h.1
  rw [jfind,this]
  exact jfind_no φ xs k d h.2
theorem jset_get:∀ (φ:List Nat) (M xs:LH) (k:Nat),φ.Nodup→(jset M φ xs)[k]?=(M[k]?).map (jfind φ xs k)
 | [],M,xs,k,_=>by simp only [jset]; cases M[k]? <;> rfl
 | j::φ,M,[],k,_=>by simp only [jset]; cases M[k]? <;> rfl
 | j::φ,M,x::xs,k,hn=>by
  have hn:=List.nodup_cons.1 hn
  rw [jset,jset_get φ (M.set j x) xs k hn.2,List.getElem?_set]
  by_cases e:j=k
  ·subst e
   rw [if_pos rfl]
   have h1:∀ d,jfind (j::φ) (x::xs) j d=x:=fun d=>by rw [jfind,Nat.beq_refl]
   by_cases hl:j<M.length
   ·rw [if_pos hl,List.getElem?_eq_getElem hl,Option.map_some,Option.map_some,h1,jfind_no φ xs j x hn.1]
   ·rw [if_neg hl,List.getElem?_eq_none (by omega)]; rfl
  ·rw [if_neg e]
   have:Nat.beq j k=false:=by
    cases hb:Nat.beq j k
    ·rfl
    ·exact absurd (Nat.eq_of_beq_eq_true hb) e
   have h1:jfind (j::φ) (x::xs) k=jfind φ xs k:=by funext d; rw [jfind,this]
   rw [h1]
def joinQ (φ:List Nat) (M L1:LH):LH :=
 jgo φ ((L1.take φ.length).map (rnB (M.length+L1.length) (phi2 φ M.length L1))) 0 M++(L1.drop φ.length).map (rnB (M.length+L1.length) (phi2 φ M.length L1))
theorem joinQ_eq {φ:List Nat} {M L1:LH} (h:φ.Nodup):joinL φ M L1=joinQ φ M L1:=by
 unfold joinL joinQ
 congr 1
 apply List.ext_getElem?
 intro k
 rw [jset_get _ _ _ _ h,jgo_get,Nat.zero_add]
section
variable {P:Program} {n0:NA} {Q:Exit→Env→LH→Prop} {K:Env→LH→Prop} {l l1:Env} {L L1 L2 K2 Lc:LH} {T T1:Taken} {k:Nat} {d:Option Nat} {g:Option (Nat × Bool)} {rd:Bool} {r ss ss1:List Step} {x y:Operand} {b:MC} {op:QOp} {eo:EOp} {pend:List Nat} {v v1 v2:Value}
theorem dN (hn:LWp P n0 b Q l1 L1) (h:arun [] ss l T L=([],l1,T1,L1):=by exact rfl) (hQ:Nx n0 (LWp P n0 b Q) l1 L1→K l1 L1:=by exact fun h=>h):LSt P n0 ss K l T L:=S_done [] h (hQ (Nx.goL hn))
theorem dR {res:List RV} {R:Value→LH→Prop} {us:List Value} (hr:R v L2) (h:arun [] ss l T L=([],l1,T1,L1):=by exact rfl) (hQ:RetQ n0 res R .normal l1 L1→K l1 L1:=by exact fun h=>h) (h1:lres l1 L1 res=some us:=by exact rfl) (h2:(n0.keep.all fun k=>Nat.blt k n0.n)=true:=by exact rfl) (h3:letGoV (seqN 0 n0.n) L1 (lret us)=some v:=by exact rfl) (h4:letGo (seqN 0 n0.n) L1=some L2:=by exact rfl):LSt P n0 ss K l T L:=S_done [] h (hQ (RetQ.keepN h1 h2 h3 h4 hr))
theorem d0 (hn:K l1 L1) (h:arun [] ss l T L=([],l1,T1,L1):=by exact rfl):LSt P n0 ss K l T L:=S_done [] h hn
theorem rT {res:List RV} {R:Value→LH→Prop} {us:List Value} (hr:R v L2) (hQ:RetQ n0 res R .ret l L→Q .ret l L:=by exact fun h=>h) (h1:lres l L res=some us:=by exact rfl) (h2:(n0.keep.all fun k=>Nat.blt k n0.n)=true:=by exact rfl) (h3:letGoV (seqN 0 n0.n) L (lret us)=some v:=by exact rfl) (h4:letGo (seqN 0 n0.n) L=some L2:=by exact rfl):LWp P n0 .ret Q l L:=L_ret (hQ (RetQ.keep h1 h2 h3 h4 hr))
theorem iF {c:Operand} {x y:MC} {t:Bool} {p:Prop} (ht:p→LWp P n0 x Q (knows c true l) L) (hf:¬ p→LWp P n0 y Q (knows c false l) L) (hc:lv l c=some (.bool t):=by exact rfl)
  (hp:t=true↔p:=by first|exact bD|exact bE|exact bN|exact bNB|exact bEB|exact bNot bD|exact bNot bE|exact bNot bN):LWp P n0 (.cond c x y) Q l L:=L_ifp hc hp ht hf
theorem sP (s:Nat) {t:Bool} {p:Prop} (ht:p→LSt P n0 ss1 K ((s,.bool true)::l1) T1 L1) (hf:¬ p→LSt P n0 ss1 K ((s,.bool false)::l1) T1 L1) (h0:arun [s] ss l T L=(ss1,l1,T1,L1):=by exact rfl) (hh:headGuard ss1=some s:=by exact rfl) (hb:eget l1 s=some (.bool t):=by exact rfl)
  (hp:t=true↔p:=by first|exact bD|exact bE|exact bN|exact bNB|exact bEB|exact bNot bD|exact bNot bE|exact bNot bN):LSt P n0 ss K l T L:=S_splitp s h0 hh hb hp ht hf
theorem aX {i:Operand} {b n c j sz:Nat} {kd:IntKind} (hn:LSt P n0 r K (dpush d (.pointer (some ⟨b,j*sz,none⟩)) l1) (bif rd then (k,.idx x i sz,l1,.pointer (some ⟨b,j*sz,none⟩))::T1 else T1) L1) (h:arun [] ss l T L=(.q k d g (.idx x i sz) rd::r,l1,T1,L1):=by exact rfl) (hg:gw g l1=some true:=by exact rfl)
  (hx:lv l1 x=some (.slice (some ⟨b,0,none⟩) n c):=by exact rfl) (hi:lv l1 i=some (.int kd (j:Int)):=by exact rfl) (h1:j<n:=by omega):LSt P n0 ss K l T L:=S_Q [] h hg (QY.idxN hx hi h1) hn
theorem aA {a b:Int} (hn:LSt P n0 r K (dpush d (.int .i64 (a+b)) l1) (bif rd then (k,.bin .add x y,l1,.int .i64 (a+b))::T1 else T1) L1) (h:arun [] ss l T L=(.q k d g (.bin .add x y) rd::r,l1,T1,L1):=by exact rfl) (hg:gw g l1=some true:=by exact rfl)
  (hx:lv l1 x=some (.int .i64 a):=by exact rfl) (hy:lv l1 y=some (.int .i64 b):=by exact rfl) (h0 : -9223372036854775808≤a+b:=by omega) (h1:a+b≤9223372036854775807:=by omega):LSt P n0 ss K l T L:=S_Q [] h hg (QY.add hx hy rfl h0 h1) hn
theorem cF {f:FuncId} {args:List Operand} {vs us:List Value} (φ:List Nat) (ht:Tr P f us Lc (fun v K=>v=v1∧K=L2)) (hn:nE (dpush d v2 l1) fun l=>nL K2 fun L=>LSt P n0 r K l T1 L) (h:arun [] ss l T L=(.e d g (.call f args) pend::r,l1,T1,L1):=by exact rfl) (hg:gw g l1=some true:=by exact rfl)
  (hv:lvs l1 args=some vs:=by exact rfl) (he:us.map (rnV L1.length φ)=vs:=by exact rfl) (h1:φ.Nodup:=by decide) (h2:partL L1 φ φ Lc:=by repeat' (first|exact trivial|refine ⟨rfl,?_⟩ | fail)) (h3:rnV (L1.length+L2.length) (phi2 φ L1.length L2) v1=v2:=by exact rfl) (h4:joinQ φ L1 L2=K2:=by exact rfl)
  (hc:chkP P n0 T1 K2 pend:=by repeat' (first|exact trivial|refine ⟨⟨qsafe_ok (st:=[]) rfl,Sure.of rfl⟩,?_⟩|refine ⟨⟨qsafe_ok (st:=[]) rfl,Sure.slice (by omega)⟩,?_⟩|refine ⟨⟨QY.neqB rfl (by kernel_rfl) rfl rfl,Sure.of rfl⟩,?_⟩|refine ⟨⟨QY.eqlB rfl (by kernel_rfl) rfl rfl,Sure.of rfl⟩,?_⟩ | fail)):LSt P n0 ss K l T L :=
 S_E [] h hg (EW.callF φ ht hv he h1 h2 h3 ((joinQ_eq h1).trans h4)) (by rintro _ _ ⟨rfl,rfl⟩; exact ⟨hc,LSt.nf hn⟩)
theorem eE (h:arun [] ss l T L=(.e d g eo pend::r,l1,T1,L1)) (hg:gw g l1=some true) (hw:EW P n0 L1 l1 eo (fun u K=>u=v1∧K=L2)) (hn:nE (dpush d v1 l1) fun l=>nL L2 fun L=>LSt P n0 r K l T1 L)
  (hc:chkP P n0 T1 L2 pend:=by repeat' (first|exact trivial|refine ⟨⟨qsafe_ok (st:=[]) rfl,Sure.of rfl⟩,?_⟩|refine ⟨⟨qsafe_ok (st:=[]) rfl,Sure.slice (by omega)⟩,?_⟩|refine ⟨⟨QY.neqB rfl (by kernel_rfl) rfl rfl,Sure.of rfl⟩,?_⟩|refine ⟨⟨QY.eqlB rfl (by kernel_rfl) rfl rfl,Sure.of rfl⟩,?_⟩ | fail)):LSt P n0 ss K l T L :=
 S_E [] h hg hw (by rintro _ _ ⟨rfl,rfl⟩; exact ⟨hc,LSt.nf hn⟩)
theorem qS {a b:MC} (h:LWp P n0 a (thenL (Nx n0 (LWp P n0 b Q)) Q) l L):LWp P n0 (.seq a b) Q l L:=L_seq h
theorem qR {ss:List Step} (h:LSt P n0 ss (Q .normal) l [] L):LWp P n0 (.reg ss) Q l L:=L_reg h
theorem qB {id:Nat} {b:MC} (h:LWp P n0 b (blkL id Q) l L):LWp P n0 (.block id b) Q l L:=L_block h
theorem qN {ss:List Step} {b:MC} (h:LSt P n0 ss (Nx n0 (LWp P n0 b Q)) l [] L):LWp P n0 (.seq (.reg ss) b) Q l L:=L_rs h
theorem qK (h:Q .normal l L):LWp P n0 .skip Q l L:=L_skip h
theorem qE {id:Nat} (h:Q (.exit id) l L):LWp P n0 (.exit id) Q l L:=L_exit h
theorem qL {b:MC} {Q2:Exit→Env→LH→Prop} (h:LWp P n0 b Q2 l L) (e:Nx n0 (LWp P n0 b Q2) l L→Q .normal l L:=by exact fun h=>h):LWp P n0 .skip Q l L:=L_skip (e (Nx.goL h))
theorem qF {id:Nat} {b:MC} {Q2:Exit→Env→LH→Prop} (h:LWp P n0 b Q2 l L) (e:Nx n0 (LWp P n0 b Q2) l L→Q (.exit id) l L:=by exact fun h=>h):LWp P n0 (.exit id) Q l L:=L_exit (e (Nx.goL h))
theorem qT {c:Operand} {x y:MC} (h:LWp P n0 x Q (knows c true l) L) (hc:lv l c=some (.bool true):=by exact rfl):LWp P n0 (.cond c x y) Q l L:=L_true hc h
theorem qU {c:Operand} {x y:MC} (h:LWp P n0 y Q (knows c false l) L) (hc:lv l c=some (.bool false):=by exact rfl):LWp P n0 (.cond c x y) Q l L:=L_false hc h
end
end Go.Tum
end
section
namespace Go.Tum
open Go
section
variable {P:Program} {n0:NA} {l:Env} {L:LH} {X:Nat→Prop} {w0 w w':World} {E:Emb}
theorem rd_gro {b n sz:Nat} {gs:List Value} {v':Value} (hR:Rep X w0 E L w) (hb:L[b]?=some (.gro sz gs)) (hl:gs.length=n*sz) (ho:∀ u∈gs,one u=true) (hz:0<sz) (hv:VR E (.slice (some ⟨b,0,none⟩) n n) v'):Rd w sz v' n gs:=by
 refine ⟨hl,ho,?_⟩
 obtain ⟨_,r,hr,hcase⟩:=hv
 by_cases h0:n=0
 ·subst h0
  left
  rcases hcase with ⟨a',c',rfl,_⟩ | ⟨_,_,a',rfl⟩
  ·exact ⟨⟨_,_,rfl⟩,rfl⟩
  ·exact ⟨⟨_,_,rfl⟩,rfl⟩
 ·right
  obtain ⟨c',rfl⟩:∃ c',v'=.slice (some ⟨r.1,0+r.2.1,none⟩) n c':=by
   rcases hcase with ⟨a',c',h1,⟨h2,_⟩ | ⟨h2,_⟩⟩ | ⟨h1,_⟩
   ·exact ⟨c',by rw [h1,h2]⟩
   ·exact absurd h2 h0
   ·exact absurd h1 h0
  rcases hR.blk b _ r hb hr with ⟨h1,_⟩ | ⟨_,_,cs,hB,h3,h4⟩
  ·subst h1
   have:=Nat.mul_pos (Nat.pos_of_ne_zero h0) hz
   simp at hl; omega
  ·exact ⟨_,_,c',cs,rfl,hB,by rw [← hl]; omega,by rw [← hl,Nat.zero_add]; exact h3⟩
theorem EW.appX {Q:List Value→Prop} {o:Oper} {s x:Operand} {sT xT:TypeId} {sz bytes b n m:Nat} {gs:List Value} (ho:o.op=.call ⟨.builtin .append,⟨[s,x]⟩,⟨[sT,xT]⟩⟩) (ht:appT P sT xT=some (sz,bytes))
  (hs:lv l s=some (.slice (some ⟨b,0,none⟩) n n)) (hb:L[b]?=some (.gro sz gs)) (hgl:gs.length=n*sz) (hone:∀ u∈gs,one u=true) (hbd:(2*(n+m)+2048)*bytes≤281474976710656)
  (hrd:∀ (X:Nat→Prop) (w0:World) (E0:Emb) (w:World) (E:Emb) (l':Env),n0.Ok P X w0 E0→n0.Ext E0 E→Rep X w0 E L w→ER E l l'→∃ vx' us2,ev l' x=some vx'∧RdC w sz vx' m us2∧Q us2) :
  EW P n0 L l (.raw o) (fun v K=>∃ us2,Q us2∧v=.slice (some ⟨L.length,0,none⟩) (n+m) (n+m)∧K=L.set b .dead++[.gro sz (gs++us2)]):=by
 intro X w0 E0 w E l' Kf h0 hE hR hl hK
 unfold appT at ht
 split at ht
 rotate_left
 ·cases ht
 rename_i e i z he
 cases hc:(isSl P xT && Nat.beq z.cells.toList.length i.size && z.cells.toList.all one && Nat.blt 0 i.bytes && Nat.blt 0 i.size)
 ·rw [hc] at ht; cases ht
 rw [hc] at ht
 cases ht
 simp only [Bool.and_eq_true] at hc
 obtain ⟨hu,hi,hz'⟩:=elemOf_ok he
 have he':ElemT P sT e i.size i.bytes:=⟨hu,i,z,hi,rfl,rfl,hz',by simpa using Nat.eq_of_beq_eq_true hc.1.1.1.2,fun u hu=>List.all_eq_true.1 hc.1.1.2 u hu⟩
 have hz:0<i.size:=Nat.le_of_ble_eq_true hc.2
 obtain ⟨d,opp,ty,pos,af,g'⟩:=o
 simp only at ho
 subst ho
 obtain ⟨vs',h1,hsr⟩:=lv_ev hl hs
 obtain ⟨vx',us2,h3,hrd2,hq⟩:=hrd X w0 E0 w E l' h0 hE hR hl
 exact appG_ok he' (isSl_ok hc.1.1.1.1) (Nat.le_of_ble_eq_true hc.1.2) hz hR h1 h3 hsr hb hgl (rd_gro hR hb hgl hone hz hsr) hrd2 hbd (fun w' E' v' hX hR' hv=>hK w' E' v' _ _ ⟨us2,hq,rfl,rfl⟩ hX hR' hv)
theorem one_intC {ys:List Int}:∀ u∈rowsC intC ys,one u=true:=fun u hu=>(SR.still (E:=[]) (List.all_eq_true.1 (rowsC_still intC_ok ys) u hu)).one.1
theorem rowsI_len (ys:List Int):(rowsC intC ys).length=ys.length*1:=rowsC_length intC_ok ys
theorem rowsI_get {ys:List Int} {j:Nat}:(rowsC intC ys)[j]?=ys[j]?.map (Value.int .i64):=by
 induction ys generalizing j with
 | nil=>simp [rowsC]
 | cons a r ih =>
  cases j with
  | zero=>simp [rowsC,intC]
  | succ j=>simp only [rowsC,intC,List.cons_append,List.nil_append,List.getElem?_cons_succ]; exact ih
theorem Rep.merge {b k:Nat} {x y z:LB} {r q:Nat × Nat × Nat} (h:Rep X w0 E L w) (hne:b≠k) (hy:L[b]?=some y) (hr:E[b]?=some r) (hz:L[k]?=some z) (hq:E[k]?=some q) (hf:Fr (foot r y) w w') (hx:LBis E w' r x)
  (hft:∀ c,foot r x c→foot r y c∨foot q z c∨(w.heap.size≤c∧c<w'.heap.size)):Rep X w0 E ((L.set b x).set k .dead) w':=by
 have hltb:=(List.getElem?_eq_some_iff.1 hy).1
 have hltk:=(List.getElem?_eq_some_iff.1 hz).1
 have cut:∀ (i:Nat) (u:LB),((L.set b x).set k .dead)[i]?=some u→(i=k∧u=.dead)∨(i=b∧u=x)∨(i≠b∧i≠k∧L[i]?=some u):=by
  intro i u hu
  rw [List.getElem?_set] at hu
  by_cases e:k=i
  ·subst e
   rw [if_pos rfl,if_pos (by rw [List.length_set]; exact hltk)] at hu; cases hu
   exact .inl ⟨rfl,rfl⟩
  ·rw [if_neg e,List.getElem?_set] at hu
   by_cases e':b=i
   ·subst e'
    rw [if_pos rfl,if_pos hltb] at hu; cases hu
    exact .inr (.inl ⟨rfl,rfl⟩)
   ·rw [if_neg e'] at hu
    exact .inr (.inr ⟨fun q=>e' q.symm,fun q=>e q.symm,hu⟩)
 have frs:=h.fr.size
 have key:∀ (i:Nat) (u:LB) (r':Nat × Nat × Nat) (c:Nat),i≠b→i≠k→L[i]?=some u→E[i]?=some r'→foot r' u c→foot r x c→False:=by
  intro i u r' c hib hik hu hr' hc hcx
  rcases hft c hcx with h1 | h1 | h1
  ·exact hib (h.inj i b u y r' r c hu hy hr' hr hc h1)
  ·exact hik (h.inj i k u z r' q c hu hz hr' hq hc h1)
  ·have:=(h.rng i u r' hu hr' c hc).2; omega
 refine ⟨h.frT hy hr hf,by rw [h.len,List.length_set,List.length_set],fun i u r' hu hr' c hc=>?_,fun i u r' hu hr'=>?_,fun i i' u u' r1 r2 c hu hu' h1 h2 e1 e2=>?_⟩
 ·rcases cut i u hu with ⟨rfl,rfl⟩ | ⟨rfl,rfl⟩ | ⟨hib,hik,hu⟩
  ·exact hc.elim
  ·rw [hr] at hr'; cases hr'
   rcases hft c hc with h1 | h1 | h1
   ·have:=h.rng i y _ hy hr c h1; exact ⟨this.1,Nat.lt_of_lt_of_le this.2 hf.size⟩
   ·have:=h.rng k z _ hz hq c h1; exact ⟨this.1,Nat.lt_of_lt_of_le this.2 hf.size⟩
   ·exact ⟨.inl (by omega),h1.2⟩
  ·have:=h.rng i u r' hu hr' c hc; exact ⟨this.1,Nat.lt_of_lt_of_le this.2 hf.size⟩
 ·rcases cut i u hu with ⟨rfl,rfl⟩ | ⟨rfl,rfl⟩ | ⟨hib,hik,hu⟩
  ·trivial
  ·rw [hr] at hr'; cases hr'; exact hx
  ·exact (h.blk i u r' hu hr').fr hf (fun c hc=>(h.rng i u r' hu hr' c hc).2) fun c hc hc'=>hib (h.inj i b u y r' r c hu hy hr' hr hc hc')
 ·rcases cut i u hu with ⟨rfl,rfl⟩ | ⟨rfl,rfl⟩ | ⟨hib,hik,hu⟩
  ·exact e1.elim
  ·rcases cut i' u' hu' with ⟨rfl,rfl⟩ | ⟨rfl,rfl⟩ | ⟨hib',hik',hu'⟩
   ·exact e2.elim
   ·rfl
   ·rw [hr] at h1; cases h1
    exact (key i' u' r2 c hib' hik' hu' h2 e2 e1).elim
  ·rcases cut i' u' hu' with ⟨rfl,rfl⟩ | ⟨rfl,rfl⟩ | ⟨hib',hik',hu2⟩
   ·exact e2.elim
   ·rw [hr] at h2; cases h2
    exact (key i u r1 c hib hik ‹L[i]?=some u› h1 e1 e2).elim
   ·exact h.inj i i' u u' r1 r2 c ‹L[i]?=some u› hu2 h1 h2 e1 e2
end
structure GE where
 id:Int
 xs:List Int
 p:Nat
 o:Nat
 c:Nat
 z:Value
 born:Nat
def GE.sv (e:GE):Value:=match e.xs with
 | []=>e.z
 | _=>.slice (some ⟨e.p,e.o,none⟩) e.xs.length e.c
def GE.ok (w:World) (e:GE):Prop:=match e.xs with
 | []=>∃ a,e.z=.slice a 0 0
 | _=>∃ cs,Blk w e.p cs∧(cs.drop e.o).take e.xs.length=e.xs.map (Value.int .i64)
def GE.sym (e:GE):Value:=.slice (some ⟨e.p,e.o,some 0⟩) e.xs.length (if e.xs=[] then 0 else e.c)
def ge (e:GE):Int × Value × Nat:=(e.id,e.sv,e.born)
def gF (b0:Nat) (es:List GE) (b:Nat):Prop:=b=b0∨∃ e∈es,e.xs≠[]∧e.p=b
def gB (b0:Nat) (es:List GE) (c:Nat):LB:=.abs (fun r w=>r=b0∧Mp (Value.int .i64) w r (es.map ge) c∧Wf (es.map ge) c∧∀ e∈es,e.ok w) (gF b0 es)
def gfe (es:List GE) (a:Int):Option GE:=es.find? fun e=>decide (e.id=a)
def gputE (es:List GE) (e:GE) (c:Nat):List GE × Nat:=match gfe es e.id with
 | some _=>(es.map fun x=>if x.id=e.id then { e with born:=x.born } else x,c)
 | none=>(es++[{ e with born:=c }],c+1)
theorem gputE_mem {es:List GE} {e e':GE} {c:Nat} (h:e'∈(gputE es e c).1):e'∈es∨∃ b,e'={ e with born:=b }:=by
 unfold gputE at h
 split at h
 ·obtain ⟨y,hy,rfl⟩:=List.mem_map.1 h
  split
  ·exact .inr ⟨_,rfl⟩
  ·exact .inl hy
 ·rcases List.mem_append.1 h with h | h
  ·exact .inl h
  ·exact .inr ⟨c,List.mem_singleton.1 h⟩
theorem mfind_ge (es:List GE) (a:Int):mfind (es.map ge) a=(gfe es a).map ge:=by
 simp only [mfind,gfe,List.find?_map]
 rfl
theorem ge_born (e:GE) (b:Nat):ge { e with born:=b }=(e.id,e.sv,b):=rfl
theorem mset_ge (es:List GE) (e:GE) (c:Nat):mset (es.map ge) e.id e.sv c=((gputE es e c).1.map ge,(gputE es e c).2):=by
 unfold mset gputE
 rw [mfind_ge]
 cases h:gfe es e.id with
 | none=>simp [ge_born]
 | some x =>
  simp only [Option.map_some,mput,List.map_map]
  congr 1
  apply List.map_congr_left
  intro y _
  simp only [Function.comp]
  by_cases hy:y.id=e.id
  ·have hy':(ge y).1=e.id:=hy
   rw [if_pos hy',if_pos hy,hy']; rfl
  ·have hy':¬ (ge y).1=e.id:=hy
   rw [if_neg hy',if_neg hy]
theorem GE.ok_fr {w w':World} {F:Nat→Prop} {e:GE} (h:e.ok w) (hf:Fr F w w') (hn:e.xs≠[]→¬ F e.p):e.ok w':=by
 unfold GE.ok at h ⊢
 split
 ·rename_i hx; rw [hx] at h; exact h
 ·rename_i hx
  split at h
  ·rename_i hx'; exact absurd hx' (by assumption)
  ·obtain ⟨cs,h1,h2⟩:=h
   exact ⟨cs,hf.blk h1 (hn (by assumption)),h2⟩
theorem GE.ok_born {w:World} {e:GE} {b:Nat}:({ e with born:=b }:GE).ok w↔e.ok w:=Iff.rfl
section
variable {P:Program} {n0:NA} {l:Env} {L:LH} {X:Nat→Prop} {w0 w w':World} {E:Emb}
theorem gB_is {r:Nat × Nat × Nat} {b0 c:Nat} {es:List GE} (h:Mp (Value.int .i64) w r.1 (es.map ge) c) (hw:Wf (es.map ge) c) (he:∀ e∈es,e.ok w) (h1:r.1=b0) (h2:r.2=(0,0)):LBis E w r (gB b0 es c) :=
 ⟨⟨h1,h,hw,he⟩,h2,fun _ _ _ ⟨g1,g2,g3,g4⟩ hf hn=>⟨g1,g2.fr hf (hn _ (.inl g1)),g3,fun e hm=>GE.ok_fr (g4 e hm) hf fun hx=>hn _ (.inr ⟨e,hm,hx,rfl⟩)⟩⟩
theorem gB_at {l':Env} {x:Operand} {b b0 c:Nat} {es:List GE} (hR:Rep X w0 E L w) (hl:ER E l l') (hx:lv l x=some (.map (some b))) (hb:L[b]?=some (gB b0 es c)) :
  ∃ r,E[b]?=some r∧ev l' x=some (.map (some r.1))∧(Mp (Value.int .i64) w r.1 (es.map ge) c∧Wf (es.map ge) c∧∀ e∈es,e.ok w)∧r.1=b0∧r.2=(0,0):=by
 obtain ⟨_,h1,r,h2,rfl⟩:=lv_ev hl hx
 obtain ⟨⟨h3,h4⟩,h5,_⟩:=hR.blk b _ r hb h2
 exact ⟨r,h2,h1,h4,h3,h5⟩
theorem GE.sv_nil {e:GE} (h:e.xs=[]):e.sv=e.z:=by unfold GE.sv; rw [h]
theorem GE.sv_ne {e:GE} (h:e.xs≠[]):e.sv=.slice (some ⟨e.p,e.o,none⟩) e.xs.length e.c:=by
 unfold GE.sv
 split
 ·rename_i h0; exact absurd h0 h
 ·rfl
theorem GE.sym_ok {e:GE} (h:e.ok w):S0 E e.sym e.sv:=by
 unfold GE.sym
 by_cases hx:e.xs=[]
 ·unfold GE.ok at h
  rw [hx] at h
  obtain ⟨a,h⟩:=h
  rw [GE.sv_nil hx]
  exact .inr ⟨by rw [hx]; rfl,if_pos hx,a,h⟩
 ·rw [GE.sv_ne hx,if_neg hx]
  exact .inl rfl
def gsym:Option GE→Value
 | none=>.slice (some ⟨0,0,some 0⟩) 0 0
 | some e=>e.sym
theorem QY.glook {o:Oper} {mT kt et:TypeId} {x y:Operand} {b b0 c:Nat} {es:List GE} {a:Int} {q:Option GE} (ho:o.op=.lookup mT x y true) (hT:P.underlying mT=some (.map kt et)) (hkt:P.underlying kt=some (.int .i64)) (hz:zeroOf P et=some (.slice none 0 0))
  (hx:lv l x=some (.map (some b))) (hy:lv l y=some (.int .i64 a)) (hb:L[b]?=some (gB b0 es c)) (hq:gfe es a=q):QY P n0 L l (.raw o) (.tuple ⟨[gsym q,.bool q.isSome]⟩):=by
 intro X w0 E0 w E l' _ hE hR hl
 obtain ⟨r,h2,h3,⟨h4,h5,h6⟩,_⟩:=gB_at hR hl hx hb
 obtain ⟨_,h7,rfl⟩:=lv_ev hl hy
 obtain ⟨d,op,ty,pos,af,g⟩:=o
 simp only at ho
 subst ho
 refine ⟨_,lookupOk_Y (ty:=ty) (k:=a) hT (keyLaw_int hkt) (zeroOf_ok hz) h3 h7 h4 rfl,?_⟩
 rw [mfind_ge]
 subst hq
 cases hq:gfe es a with
 | none=>exact ⟨_,rfl,.inr ⟨rfl,rfl,none,rfl⟩,rfl,trivial⟩
 | some e =>
  have:=GE.sym_ok (E:=E) (h6 e (List.mem_of_find?_eq_some hq))
  exact ⟨_,rfl,this,rfl,trivial⟩
theorem EW.gmake {o:Oper} {mT:TypeId} (ho:o.op=.makeMap mT none):EW P n0 L l (.raw o) (fun w K=>∃ b0,w=.map (some L.length)∧K=L++[gB b0 [] 0]):=by
 intro X w0 E0 w E l' Kf h0 hE hR hl hK
 obtain ⟨d,op,ty,pos,af,g⟩:=o
 simp only at ho
 subst ho
 refine makeMap_W (ty:=ty) (Value.int .i64) fun w' hM hf hsz=>hK w' (E++[(w.heap.size,0,0)]) _ _ _ ⟨w.heap.size,rfl,rfl⟩ (Ext.push E _) (hR.push hf (fun b hb=>?_) (gB_is hM ⟨by simp,by simp,by simp⟩ (by simp) rfl rfl)) ?_
 ·rcases hb with hb | ⟨e,he,_⟩
  ·rw [hb]; omega
  ·cases he
 ·exact ⟨_,hR.last _,rfl⟩
theorem EW.gput {o:Oper} {mT kt et:TypeId} {x y u:Operand} {b k b0 c n:Nat} {es:List GE} {a:Int} {ys:List Int} (ho:o.op=.mapUpdate mT x y u) (hT:P.underlying mT=some (.map kt et)) (hkt:P.underlying kt=some (.int .i64))
  (hx:lv l x=some (.map (some b))) (hy:lv l y=some (.int .i64 a)) (hu:lv l u=some (.slice (some ⟨k,0,none⟩) n n)) (hb:L[b]?=some (gB b0 es c)) (hk:L[k]?=some (.gro 1 (rowsC intC ys))) (hn:ys.length=n) :
  EW P n0 L l (.raw o) (fun w K=>∃ e:GE,(e.id=a∧e.xs=ys)∧w=undef∧K=(L.set b (gB b0 (gputE es e c).1 (gputE es e c).2)).set k .dead):=by
 intro X w0 E0 w E l' Kf h0 hE hR hl hK
 obtain ⟨r,h2,h3,⟨h4,h5,h6⟩,h7,h8⟩:=gB_at hR hl hx hb
 obtain ⟨_,h9,rfl⟩:=lv_ev hl hy
 obtain ⟨v',h10,_,q,hq,hcase⟩:=lv_ev hl hu
 obtain ⟨d,op,ty,pos,af,g⟩:=o
 simp only at ho
 subst ho
 have hq:E[k]?=some q:=hq
 have hne:b≠k:=by rintro rfl; rw [hb] at hk; cases hk
 obtain ⟨e,he1,he2,he3,he4,he5⟩:∃ e:GE,e.id=a∧e.xs=ys∧e.sv=v'∧e.ok w∧(e.xs≠[]→foot q (.gro 1 (rowsC intC ys)) e.p):=by
  by_cases h0:ys=[]
  ·subst h0
   have:n=0:=by rw [← hn]; rfl
   subst this
   have:∃ a',v'=.slice a' 0 0:=by
    rcases hR.blk k _ q hk hq with ⟨_,h1⟩ | ⟨h1,_⟩
    rotate_left
    ·exact absurd rfl h1
    rcases hcase with ⟨a',c',rfl,⟨_,rfl⟩ | ⟨_,_,rfl,_⟩⟩ | ⟨_,_,a',rfl⟩
    ·exact ⟨some a',by rw [h1]⟩
    ·exact ⟨_,rfl⟩
    ·exact ⟨_,rfl⟩
   exact ⟨⟨a,[],0,0,0,v',0⟩,rfl,rfl,rfl,this,fun h=>absurd rfl h⟩
  ·have hn0:n≠0:=by rw [← hn]; exact fun h=>h0 (List.length_eq_zero_iff.1 h)
   obtain ⟨c',rfl⟩:∃ c',v'=.slice (some ⟨q.1,0+q.2.1,none⟩) n c':=by
    rcases hcase with ⟨a',c',h1,⟨h2,_⟩ | ⟨h2,_⟩⟩ | ⟨h1,_⟩
    ·exact ⟨c',by rw [h1,h2]⟩
    ·exact absurd h2 hn0
    ·exact absurd h1 hn0
   rcases hR.blk k _ q hk hq with ⟨h1,_⟩ | ⟨h1,_,cs,hB,h3,_⟩
   ·cases ys with
    | nil=>exact absurd rfl h0
    | cons=>simp [rowsC,intC] at h1
   ·refine ⟨⟨a,ys,q.1,0+q.2.1,c',undef,0⟩,rfl,rfl,?_,?_,fun _=>?_⟩
    ·unfold GE.sv
     split
     ·rename_i h; exact absurd h h0
     ·simp only [hn]
    ·unfold GE.ok
     split
     ·rename_i h; exact absurd h h0
     ·refine ⟨cs,hB,?_⟩
      rw [rowsI_len,Nat.mul_one] at h3
      simp only [Nat.zero_add]
      rw [h3]
      apply List.ext_getElem?
      intro j
      rw [rowsI_get,List.getElem?_map]
    ·revert h1
     cases rowsC intC ys with
     | nil=>intro h1; exact absurd rfl h1
     | cons=>intro _; rfl
 subst he1 he3
 have hs:=mset_ge es e c
 have hwf:=h5.mset (k:=e.id) e.sv
 rw [hs] at hwf
 refine mapUpdate_W (ty:=ty) (k:=e.id) hT (keyLaw_int hkt) h3 h9 h10 h4 h5 (fun w' hM hf hsz=>?_)
 rw [hs] at hM
 have hlt:r.1<w.heap.size:=h4.lt
 refine hK w' E _ _ _ ⟨e,⟨rfl,he2⟩,rfl,rfl⟩ (Ext.refl E) (hR.merge hne hb h2 hk hq (hf.mono fun c' _ e'=>.inl (e'.trans h7)) (gB_is hM hwf (fun e' he'=>?_) h7 h8) (fun c' hc'=>?_)) VR.undef
 ·have hst:∀ e'':GE,e''.ok w→(e''.xs≠[]→e''.p≠r.1)→e''.ok w':=fun e'' h h'=>GE.ok_fr h hf fun hx he=>h' hx he
  have hold:∀ e''∈es,e''.xs≠[]→e''.p≠r.1:=fun e'' hm hx' hp=>by
   obtain ⟨cs,hB,_⟩:∃ cs,Blk w e''.p cs∧True:=by
    have:=h6 e'' hm
    unfold GE.ok at this
    split at this
    ·rename_i hx''; exact absurd hx'' hx'
    ·obtain ⟨cs,hB,_⟩:=this; exact ⟨cs,hB,trivial⟩
   obtain ⟨t,hB⟩:=hB
   rw [hp,show w.heap[r.1]?=_ from h4] at hB
   cases hB
  have hnew:e.xs≠[]→e.p≠r.1:=fun hx' hp=>by
   have:=he5 hx'
   rw [hp] at this
   exact hne (hR.inj b k _ _ _ _ r.1 hb hk h2 hq (.inl h7) this)
  rcases gputE_mem he' with h1 | ⟨b',rfl⟩
  ·exact hst e' (h6 e' h1) (hold e' h1)
  ·exact GE.ok_born.2 (hst e he4 hnew)
 ·rcases hc' with h1 | ⟨e',he',hx',hp⟩
  ·exact .inl (.inl h1)
  ·rcases gputE_mem he' with h1 | ⟨b',rfl⟩
   ·exact .inl (.inr ⟨e',h1,hx',hp⟩)
   ·exact .inr (.inl (by rw [← hp]; exact he5 hx'))
theorem EW.appH {o:Oper} {s x:Operand} {sT xT:TypeId} {bytes b n k b0 c:Nat} {xs:List Int} {es:List GE} {e:GE} (he:e∈es) (ho:o.op=.call ⟨.builtin .append,⟨[s,x]⟩,⟨[sT,xT]⟩⟩) (ht:appT P sT xT=some (1,bytes))
  (hs:lv l s=some (.slice (some ⟨b,0,none⟩) n n)) (hx:lv l x=some e.sym) (hb:L[b]?=some (.gro 1 (rowsC intC xs))) (hk:L[k]?=some (gB b0 es c)) (hn:xs.length=n) (hbd:(2*(n+e.xs.length)+2048)*bytes≤281474976710656) :
  EW P n0 L l (.raw o) (fun v K=>v=.slice (some ⟨L.length,0,none⟩) (n+e.xs.length) (n+e.xs.length)∧K=L.set b .dead++[.gro 1 (rowsC intC (xs++e.xs))]):=by
 refine EW.mono (EW.appX (Q:=fun us=>us=rowsC intC e.xs) (m:=e.xs.length) ho ht hs hb (by rw [rowsI_len,hn]) one_intC hbd fun X w0 E0 w E l' h0 hE hR hl=>?_) ?_
 ·obtain ⟨vx',h3,hxr⟩:=lv_ev hl hx
  refine ⟨vx',_,h3,⟨rowsI_len _,one_intC,?_⟩,rfl⟩
  have hek:e.ok w:=by
   obtain ⟨r,hr⟩:=hR.ent hk
   exact (hR.blk k _ r hk hr).1.2.2.2 e he
  unfold GE.ok at hek
  unfold GE.sym at hxr
  split at hek
  ·rename_i h0'
   rw [h0'] at hxr ⊢
   rcases hxr with rfl | ⟨_,_,a',rfl⟩
   ·exact .inl ⟨⟨_,_,rfl⟩,rfl⟩
   ·exact .inl ⟨⟨_,_,rfl⟩,rfl⟩
  ·rename_i h0'
   obtain ⟨cs,⟨t,hB⟩,hcs⟩:=hek
   have hx2:=hxr
   have hln:e.xs.length≠0:=fun h=>h0' (List.length_eq_zero_iff.1 h)
   rcases hx2 with rfl | ⟨h1,_⟩
   rotate_left
   ·exact absurd h1 hln
   refine .inr ⟨_,_,rfl,fun j hj=>?_⟩
   rw [Nat.mul_one] at hj
   rw [add_none,rowsI_get]
   simp only [World.cell?,hB]
   have:=congrArg (·[j]?) hcs
   simp only [List.getElem?_take_of_lt hj,List.getElem?_drop,List.getElem?_map] at this
   rw [← this]
   simp [Nat.add_comm]
 ·rintro v K ⟨us,rfl,rfl,rfl⟩
  exact ⟨rfl,by rw [rowsC_append]⟩
end
end Go.Tum
end
section
namespace Go.Tum
open Go
section
variable {P:Program} {n0:NA} {l l1:Env} {L L1 Lc:LH} {T T1:Taken} {K:Env→LH→Prop} {ss r:List Step} {d:Option Nat} {g:Option (Nat × Bool)} {pend:List Nat}
theorem cX {ι:Type} {V V2:ι→Value} {B K2:ι→LH} {C:ι→Prop} {keep:List Nat} {f:FuncId} {args:List Operand} {vs us:List Value} (φ:List Nat) (ht:TrK P [] keep f us Lc (fun v K=>∃ i,C i∧v=V i∧K=B i)) (hn:∀ i,C i→nE (dpush d (V2 i) l1) fun l=>nL (K2 i) fun L=>LSt P n0 r K l T1 L) (h:arun [] ss l T L=(.e d g (.call f args) pend::r,l1,T1,L1):=by exact rfl) (hg:gw g l1=some true:=by exact rfl)
  (hv:lvs l1 args=some vs:=by exact rfl) (he:us.map (rnV L1.length φ)=vs:=by exact rfl) (h1:φ.Nodup:=by decide) (h2:partL L1 φ φ Lc:=by repeat' (first|exact trivial|refine ⟨rfl,?_⟩ | fail)) (hm:nmL (dropped keep 0 φ) φ 0 L1=true:=by kernel_rfl) (h3:∀ i,rnV (L1.length+(B i).length) (phi2 φ L1.length (B i)) (V i)=V2 i:=by exact fun _=>rfl) (h4:∀ i,joinQ φ L1 (B i)=K2 i:=by exact fun _=>rfl)
  (h5:disj (dropped keep 0 φ) n0.keep=true:=by kernel_rfl) (h6:nmE (dropped keep 0 φ) l1=true:=by kernel_rfl) (h7:nmT (dropped keep 0 φ) T1=true:=by kernel_rfl)
  (hc:∀ i,chkG P n0 φ T1 L1 (K2 i) pend:=by intro _; repeat' (first|exact trivial|refine ⟨.inl rfl,?_⟩|refine ⟨.inr ⟨qsafe_ok (st:=[]) rfl,Sure.of rfl⟩,?_⟩|refine ⟨.inr ⟨qsafe_ok (st:=[]) rfl,Sure.slice (by omega)⟩,?_⟩ | fail)):LSt P n0 ss K l T L :=
 S_Ed [] h hg ((EWd.call φ ht hv he (Part.of h1 h2) handed_nil hm).mono fun v K ⟨_,_,⟨i,hi,e1,e2⟩,e3,e4⟩=>(by subst e1; subst e2; exact ⟨i,hi,e3.trans (h3 i),e4.trans ((joinQ_eq h1).trans (h4 i))⟩:∃ i,C i∧v=V2 i∧K=K2 i)) h5 h6 h7 (by rintro _ _ ⟨i,hi,rfl,rfl⟩; exact ⟨hc i,LSt.nf (hn i hi)⟩)
theorem EW.into {l:Env} {L K1 K2:LH} {e:EOp} {a:Value} (h:EW P n0 L l e (fun v K=>v=a∧K=K1)) (hw:∀ X w0 E w,Rep X w0 E K1 w→Rep X w0 E K2 w):EW P n0 L l e (fun v K=>v=a∧K=K2):=fun X w0 E0 w E l' Kf h0 hE hR hl hK =>
 h X w0 E0 w E l' Kf h0 hE hR hl fun w' E' v' v L' ⟨e1,e2⟩ h1 h2 h3=>hK w' E' v' v K2 ⟨e1,rfl⟩ h1 (hw _ _ _ _ (e2 ▸ h2)) h3
def bsParts (l:Env):List (Nat × Operand)→Option (List (Nat × Value))
 | []=>some []
 | (i,x)::r=>match lv l x,bsParts l r with
  | some u,some us=>bif sure u && still u then some ((i,u)::us) else none
  | _,_=>none
theorem bsParts_ok {E:Emb} {l l':Env} {ρ:Operand→Value} (hl:ER E l l') (ha:Agr l' ρ):∀ (ps:List (Nat × Operand)) (us:List (Nat × Value)),bsParts l ps=some us→ps.map (fun y=>(y.1,ρ y.2))=us
 | [],us,h=>by cases h; rfl
 | (i,x)::r,us,h=>by
  simp only [bsParts] at h
  cases hx:lv l x with
  | none=>rw [hx] at h; cases h
  | some u =>
   cases hr:bsParts l r with
   | none=>rw [hx,hr] at h; cases h
   | some vs =>
    rw [hx,hr] at h
    simp only at h
    cases hs:sure u && still u
    ·rw [hs] at h; cases h
    ·rw [hs] at h; cases h
     simp only [Bool.and_eq_true] at hs
     obtain ⟨v',h1,h2⟩:=lv_ev hl hx
     have h3:=VR.fn hs.1 h2 (VR.still hs.2)
     subst h3
     rw [List.map_cons,bsParts_ok hl ha r vs hr,ha x _ h1]
theorem EW.bsL {l:Env} {L:LH} {o:Oper} {t e:TypeId} {n sz:Nat} {ps:List (Nat × Operand)} {us:List (Nat × Value)} {ie:TypeInfo} {z:Value} {cs:List Value} (ho:o.op=.buildSlice t n ⟨ps⟩) (ht:P.underlying t=some (.slice e)) (he:P.info? e=some ie) (hz:ie.zero=some z) (hsz:ie.size=sz) (hn:0<n*sz∧n*sz≤16777216) (hu:bsParts l ps=some us)
  (hc:Instr.fill (fun i=>some (i*sz,sz)) ((Array.range (n*sz)).map (z.cells[· % z.cells.size]!)) us=some ⟨cs⟩) (hs:cs.all stillS=true) :
  EW P n0 L l (.raw o) (fun v K=>v=.slice (some ⟨L.length,0,none⟩) n n∧K=L++[.cells 0 cs]):=by
 subst hsz
 intro X w0 E0 w E l' Kf h0 hE hR hl hK ρ wr ha hsim
 obtain ⟨d,op,ty,pos,af,g⟩:=o
 simp only at ho
 subst ho
 have hps:=bsParts_ok hl ha ps us hu
 refine Eff.value (w':=wr.alloc (.cells ⟨cs⟩ e)) (v:=.slice (some ⟨wr.heap.size,0,none⟩) n n) ?_ ?_
 ·have hzv:(zeroValue e).run P wr=.ok z wr:=by simp [zeroValue,typeInfo_run he,hz,go_sem]
  have hb:(Instr.buildSlice t n ⟨us⟩).run P wr=.ok (.slice (some ⟨wr.heap.size,0,none⟩) n n) (wr.alloc (.cells ⟨cs⟩ e)):=by
   unfold Instr.buildSlice
   simp only [Sem.run_bind,run_underlying ht,Result.andThen_ok,sizeOf_run he,if_neg (show ¬ (n*ie.size > 2 ^ 24) by omega),Sem.run_pure,if_neg (show ¬ n*ie.size=0 by omega),hzv]
   rw [hc]
   rfl
  have hm:(⟨ps⟩:Array (Nat × Operand)).map (fun (y:Nat × Operand)=>(y.1,ρ y.2))=⟨us⟩:=by rw [← hps]; simp
  show Sem.run P (do let r ← Instr.buildSlice t n ((⟨ps⟩:Array (Nat × Operand)).map (fun (y:Nat × Operand)=>(y.1,ρ y.2))); pure (Next.value r)) wr=_
  rw [hm,Sem.run_bind,hb]
  rfl
 ·refine ⟨_,hsim.push _,?_⟩
  rw [hsim.heap]
  exact hK _ _ _ _ _ ⟨rfl,rfl⟩ (Ext.push E _) (new_rep hR (cs:=⟨cs⟩) (L2.self fun a ha=>SR.still (List.all_eq_true.1 hs a ha))) ⟨rfl,_,hR.last _,.inl ⟨_,_,rfl,.inl ⟨by simp,rfl⟩⟩⟩
end
end Go.Tum
end
section
namespace Go.Proofs.YtfijpjcmgakllaaDoor
open Go Go.Tum
set_option maxRecDepth 4000
abbrev pp (k:Nat):Value:=.pointer (some ⟨k,0,none⟩)
abbrev slB (k n:Nat):Value:=.slice (some ⟨k,0,none⟩) n n
abbrev slC (k n c:Nat):Value:=.slice (some ⟨k,0,none⟩) n c
abbrev rI (xs:List Int):LB:=.gro 1 (rowsC intC xs)
theorem cloneI_tr (xs:List Int) (k c:Nat) (h:k≤xs.length) (hb:xs.length≤65536):Tr Tryd.prog 13 [slC 0 k c] [rI xs] (fun v K=>v=slB 1 k∧K=[rI xs,rI (xs.take k)]):=by
 refine Tr.of row_slices_Clone_int_int__ok rfl ?_
 repeat' (first|refine qN ?_|refine dN ?_|refine dR ?_|refine d0 ?_|refine rT ?_|refine qT ?_|refine qU ?_|refine qL ?_|refine qK ?_|refine iF (fun h=>?_) (fun h=>?_)|refine aI (hn:=?_)|refine qR ?_|refine qS ?_|exact ⟨rfl,rfl⟩|fail)
 rcases Nat.eq_zero_or_pos k with rfl | hm
 ·refine S_Q2 [] rfl rfl (QY.nilS2 rfl (by kernel_rfl) rfl) ?_ ?_
  ·refine S_done [] rfl (Nx.goL (L_true rfl (L_rs (S_done [] rfl (Nx.goL ?_)))))
   refine LWp.nilE 2 1 rfl ?_
   exact L_ret (RetQ.pick [0,1] rfl rfl rfl rfl ⟨rfl,rfl⟩)
  ·repeat' (first|refine qN ?_|refine dN ?_|refine dR ?_|refine d0 ?_|refine rT ?_|refine qT ?_|refine qU ?_|refine qL ?_|refine qK ?_|refine iF (fun h=>?_) (fun h=>?_)|refine aI (hn:=?_)|refine qR ?_|refine qS ?_|exact ⟨rfl,rfl⟩|fail)
   refine S_wk [] rfl (wk_gro0 (b:=1) 1 rfl) ?_
   first|refine L_rs ?_|refine L_reg ?_ | skip
   refine eE rfl rfl (EW.appRS (bytes:=8) (xs:=[]) (i:=0) intC_ok rfl (by kernel_rfl) rfl rfl rfl rfl rfl rfl (by omega) (by decide) (by simp)) ?_
   conv=>whnf
   repeat' (first|refine qN ?_|refine dN ?_|refine dR ?_|refine d0 ?_|refine rT ?_|refine qT ?_|refine qU ?_|refine qL ?_|refine qK ?_|refine iF (fun h=>?_) (fun h=>?_)|refine aI (hn:=?_)|refine qR ?_|refine qS ?_|exact ⟨rfl,rfl⟩|fail)
   exact L_ret (RetQ.pick [0,2] rfl rfl rfl rfl ⟨rfl,rfl⟩)
 ·refine S_Q [] rfl rfl (QY.nilS rfl (by kernel_rfl) rfl hm) ?_
  repeat' (first|refine qN ?_|refine dN ?_|refine dR ?_|refine d0 ?_|refine rT ?_|refine qT ?_|refine qU ?_|refine qL ?_|refine qK ?_|refine iF (fun h=>?_) (fun h=>?_)|refine aI (hn:=?_)|refine qR ?_|refine qS ?_|exact ⟨rfl,rfl⟩|fail)
  refine S_wk [] rfl (wk_gro0 (b:=1) 1 rfl) ?_
  first|refine L_rs ?_|refine L_reg ?_ | skip
  refine eE rfl rfl (EW.appRS (bytes:=8) (xs:=[]) (i:=0) intC_ok rfl (by kernel_rfl) rfl rfl rfl rfl rfl rfl (by omega) (by decide) (by simp; omega)) ?_
  conv=>whnf
  repeat' (first|refine qN ?_|refine dN ?_|refine dR ?_|refine d0 ?_|refine rT ?_|refine qT ?_|refine qU ?_|refine qL ?_|refine qK ?_|refine iF (fun h=>?_) (fun h=>?_)|refine aI (hn:=?_)|refine qR ?_|refine qS ?_|exact ⟨rfl,rfl⟩|fail)
  exact L_ret (RetQ.pick [0,2] rfl rfl rfl rfl ⟨by show Value.slice _ (0+k) (0+k)=_; rw [Nat.zero_add]; rfl,rfl⟩)
theorem mT_g:Tryd.prog.underlying 36=some (.map 3 26):=Tryd.underlying36
theorem kT_g:Tryd.prog.underlying 3=some (.int .i64):=Tryd.underlying3
theorem zT_g:zeroOf Tryd.prog 26=some (.slice none 0 0):=by kernel_rfl
abbrev gM (k:Nat):LB:=.cells 0 [.map (some k)]
theorem gNew_tr:Tr Tryd.prog 10 [] [] (fun v K=>∃ b0:Nat,True∧v=pp 0∧K=[gM 1,gB b0 [] 0]):=by
 refine Tr.of row_reach_New_ok rfl ?_
 repeat' (first|refine qN ?_|refine dN ?_|refine d0 ?_|(refine S_E [] rfl rfl (EW.gmake rfl) ?_; rintro _ _ ⟨b0,rfl,rfl⟩; refine ⟨(by repeat' (first|exact trivial|refine ⟨⟨qsafe_ok (st:=[]) rfl,Sure.of rfl⟩,?_⟩|refine ⟨.inl rfl,?_⟩|refine ⟨.inr ⟨qsafe_ok (st:=[]) rfl,Sure.of rfl⟩,?_⟩|refine ⟨⟨qsafe_ok (st:=[]) rfl,Sure.slice (by omega)⟩,?_⟩|refine ⟨.inr ⟨qsafe_ok (st:=[]) rfl,Sure.slice (by omega)⟩,?_⟩|refine ⟨.inr ⟨QY.neqB rfl (by kernel_rfl) rfl rfl,Sure.of rfl⟩,?_⟩|refine ⟨.inr ⟨QY.eqlB rfl (by kernel_rfl) rfl rfl,Sure.of rfl⟩,?_⟩ | fail)),LSt.nf ?_⟩; conv=>whnf)|refine aI (hn:=?_)|refine qR ?_|refine qS ?_|exact ⟨rfl,rfl⟩|fail)
 exact L_ret (RetQ.pick [1,0] rfl rfl rfl rfl ⟨b0,trivial,rfl,rfl⟩)
theorem gAddO_tr (id:Int) (xs:List Int) (n:Nat) (hx:xs.length=n) (hb:n≤1000) (b0 c:Nat) (es:List GE):Tr Tryd.prog 4 [pp 0,.int .i64 id,slB 2 n] [gM 1,gB b0 es c,rI xs] (fun v K=>∃ e:GE,(e.id=id∧e.xs=xs)∧v=.tuple ⟨[]⟩∧K=[gM 1,gB b0 (gputE es e c).1 (gputE es e c).2,rI xs]):=by
 have hC:=cloneI_tr xs n n (by omega) (by omega)
 rw [List.take_of_length_le (by omega)] at hC
 refine Tr.of row_reach_Graph_Add_ok rfl ?_
 repeat' (first|refine qN ?_|refine dN ?_|refine dR ?_|refine d0 ?_|refine rT ?_|refine qT ?_|refine qU ?_|refine qL ?_|refine qK ?_|refine iF (fun h=>?_) (fun h=>?_)|(refine cF [2] (hC) ?_; conv=>whnf)|(refine S_E [] rfl rfl (EW.gput rfl mT_g kT_g rfl rfl rfl rfl rfl hx) ?_; rintro _ _ ⟨e,he,rfl,rfl⟩; refine ⟨(by repeat' (first|exact trivial|refine ⟨⟨qsafe_ok (st:=[]) rfl,Sure.of rfl⟩,?_⟩|refine ⟨.inl rfl,?_⟩|refine ⟨.inr ⟨qsafe_ok (st:=[]) rfl,Sure.of rfl⟩,?_⟩|refine ⟨⟨qsafe_ok (st:=[]) rfl,Sure.slice (by omega)⟩,?_⟩|refine ⟨.inr ⟨qsafe_ok (st:=[]) rfl,Sure.slice (by omega)⟩,?_⟩|refine ⟨.inr ⟨QY.neqB rfl (by kernel_rfl) rfl rfl,Sure.of rfl⟩,?_⟩|refine ⟨.inr ⟨QY.eqlB rfl (by kernel_rfl) rfl rfl,Sure.of rfl⟩,?_⟩ | fail)),LSt.nf ?_⟩; conv=>whnf)|refine aI (hn:=?_)|refine qR ?_|refine qS ?_|exact ⟨rfl,rfl⟩|fail)
 exact ⟨e,he,rfl,rfl⟩
end Go.Proofs.YtfijpjcmgakllaaDoor
end
section
namespace Go.Proofs.YtfijpjcmgakllaaDoor
open Go Go.Tum
def stp (es:List GE) (k:Nat) (s:IMap × List Int) (id:Int):IMap × List Int:=match gfe es id with
 | none=>s
 | some e=>if ghas s.1 id then s else (gput s.1 id k s.1.length,s.2++e.xs)
def rnd (es:List GE) (k:Nat) (out:IMap) (now:List Int):IMap × List Int:=now.foldl (stp es k) (out,[])
def st (es:List GE) (roots:List Int):Nat→IMap × List Int
 | 0=>([],roots)
 | k+1=>rnd es k (st es roots k).1 (st es roots k).2
theorem gput_len (G:IMap) (a n:Int) (c:Nat):(gput G a n c).length=G.length+1:=by simp [gput]
theorem ghas_put {G:IMap} {a n:Int} {c:Nat} (b:Int):ghas (gput G a n c) b=(ghas G b || decide (b=a)):=by
 unfold ghas
 rw [gfind_put]
 cases gfind G b with
 | some x=>rfl
 | none =>
  by_cases h:a=b
  ·subst h; simp
  ·have:¬ b=a:=fun e=>h e.symm
   simp [h,this]
theorem gfe_some {es:List GE} {a:Int} {e:GE} (h:gfe es a=some e):e∈es∧e.id=a:=⟨List.mem_of_find?_eq_some h,by simpa using List.find?_some h⟩
def unm (es:List GE) (out:IMap):Nat:=(es.filter fun e => !ghas out e.id).length
theorem unm_le (es:List GE) (out:IMap):unm es out≤es.length:=List.length_filter_le ..
theorem unm_put {es:List GE} {out:IMap} {e:GE} {k:Int} {c:Nat} (he:e∈es) (h:ghas out e.id=false):unm es (gput out e.id k c)<unm es out:=by
 unfold unm
 induction es with
 | nil=>cases he
 | cons a r ih =>
  have hle:(r.filter fun x => !ghas (gput out e.id k c) x.id).length≤(r.filter fun x => !ghas out x.id).length:=by
   rw [← List.countP_eq_length_filter,← List.countP_eq_length_filter]
   apply List.countP_mono_left
   intro y _ hy
   rw [ghas_put] at hy
   cases hq:ghas out y.id
   ·rfl
   ·rw [hq] at hy; simp at hy
  simp only [List.filter_cons]
  rcases List.mem_cons.1 he with rfl | he
  ·rw [if_neg (by rw [ghas_put]; simp),if_pos (by rw [h]; rfl),List.length_cons]; omega
  ·have:=ih he
   by_cases h2:ghas out a.id=true
   ·rw [if_neg (by rw [ghas_put,h2]; simp),if_neg (by rw [h2]; simp)]; exact this
   ·simp only [Bool.not_eq_true] at h2
    rw [if_pos (by rw [h2]; rfl:(!ghas out a.id)=true),List.length_cons]
    split
    ·rw [List.length_cons]; omega
    ·omega
structure SB (es:List GE) (s:IMap × List Int):Prop where
 b:s.2.length+8*unm es s.1≤8*es.length
theorem SB.step {es:List GE} (hx:∀ e∈es,e.xs.length≤8) {k:Nat} {s:IMap × List Int} (h:SB es s) (id:Int):SB es (stp es k s id):=by
 unfold stp
 cases hq:gfe es id with
 | none=>exact h
 | some e =>
  obtain ⟨he,rfl⟩:=gfe_some hq
  simp only
  split
  ·exact h
  ·rename_i hg
   have h1:=unm_put (k:=(k:Int)) (c:=s.1.length) he (by simpa using hg)
   have h2:=h.b
   have h3:=hx e he
   exact ⟨by simp only [List.length_append]; omega⟩
theorem SB.start (es:List GE) (out:IMap):SB es (out,[]):=⟨by have:=unm_le es out; simp only [List.length_nil]; omega⟩
theorem SB.fold {es:List GE} (hx:∀ e∈es,e.xs.length≤8) {k:Nat}:∀ (now:List Int) {s:IMap × List Int},SB es s→SB es (now.foldl (stp es k) s)
 | [],_,h=>h
 | a::r,_,h=>SB.fold hx r (h.step hx a)
def mu (es:List GE) (s:IMap × List Int):Nat:=2*unm es s.1+if s.2=[] then 0 else 1
theorem fold_un {es:List GE} {k:Nat}:∀ (now:List Int) (s:IMap × List Int),now.foldl (stp es k) s=s∨unm es (now.foldl (stp es k) s).1<unm es s.1
 | [],s=>.inl rfl
 | a::r,s=>by
  rw [List.foldl_cons]
  have h1:stp es k s a=s∨unm es (stp es k s a).1<unm es s.1:=by
   unfold stp
   cases hq:gfe es a with
   | none=>exact .inl rfl
   | some e =>
    obtain ⟨he,rfl⟩:=gfe_some hq
    simp only
    split
    ·exact .inl rfl
    ·rename_i hg
     exact .inr (unm_put he (by simpa using hg))
  rcases fold_un (k:=k) r (stp es k s a) with h2 | h2
  ·rw [h2]; exact h1
  ·rcases h1 with h1 | h1
   ·rw [h1] at h2 ⊢; exact .inr h2
   ·exact .inr (Nat.lt_trans h2 h1)
theorem mu_rnd {es:List GE} {k:Nat} {out:IMap} {now:List Int} (h:now≠[]):mu es (rnd es k out now)<mu es (out,now):=by
 unfold mu rnd
 rw [if_neg h]
 rcases fold_un (es:=es) (k:=k) now (out,[]) with h1 | h1
 ·rw [h1,if_pos rfl]; exact Nat.lt_succ_self _
 ·simp only at h1 ⊢
  split <;> omega
theorem rnd_take {es:List GE} {k i:Nat} {now:List Int} {a:Int} {s:IMap × List Int} (h:now[i]?=some a):(now.take (i+1)).foldl (stp es k) s=stp es k ((now.take i).foldl (stp es k) s) a:=by
 rw [List.take_add_one,h,List.foldl_append]; rfl
theorem st_stay {es:List GE} {roots:List Int} {k:Nat} (h:(st es roots k).2=[]):∀ j,st es roots (k+j)=((st es roots k).1,[])
 | 0=>by rw [← h]; rfl
 | j+1=>by
  show rnd es (k+j) (st es roots (k+j)).1 (st es roots (k+j)).2=_
  rw [st_stay h j]; rfl
theorem st_mu {es:List GE} {roots:List Int}:∀ k,mu es (st es roots k)+k≤mu es (st es roots 0)∨(st es roots k).2=[]
 | 0=>.inl (Nat.le_refl _)
 | k+1=>by
  by_cases h:(st es roots k).2=[]
  ·right; have:=st_stay h 1; rw [this]
  ·rcases st_mu (es:=es) (roots:=roots) k with h1 | h1
   ·left
    have:mu es (st es roots (k+1))<mu es (st es roots k):=mu_rnd h
    omega
   ·exact absurd h1 h
def stN (es:List GE):Nat:=2*es.length+1
def farO (es:List GE) (roots:List Int):IMap:=(st es roots (stN es)).1
theorem st_end {es:List GE} {roots:List Int}:(st es roots (stN es)).2=[]:=by
 rcases st_mu (es:=es) (roots:=roots) (stN es) with h | h
 ·have h0:mu es (st es roots 0)≤stN es:=by
   unfold mu stN
   have:=unm_le es (st es roots 0).1
   split <;> omega
  have h1:mu es (st es roots (stN es))=0:=by omega
  unfold mu at h1
  split at h1
  ·assumption
  ·omega
 ·exact h
theorem farO_of {es:List GE} {roots:List Int} {k:Nat} (h:(st es roots k).2=[]):farO es roots=(st es roots k).1:=by
 rcases Nat.le_total k (stN es) with h1 | h1
 ·have:=st_stay h (stN es-k)
  rw [show k+(stN es-k)=stN es by omega] at this
  unfold farO; rw [this]
 ·have:=st_stay (st_end (es:=es) (roots:=roots)) (k-stN es)
  rw [show stN es+(k-stN es)=k by omega] at this
  unfold farO; rw [this]
end Go.Proofs.YtfijpjcmgakllaaDoor
end
section
namespace Go.Proofs.YtfijpjcmgakllaaDoor
open Go Go.Tum
set_option maxRecDepth 4000
theorem ghas_none {G:IMap} {a:Int} (h:ghas G a=false):gfind G a=none:=by
 unfold ghas at h
 cases hq:gfind G a with
 | none=>rfl
 | some x=>rw [hq] at h; cases h
set_option maxHeartbeats 4000000 in
theorem farG_tr (b0 c:Nat) (es:List GE) (hes:es.length≤20) (hx8:∀ e∈es,e.xs.length≤8) (roots:List Int) (n:Nat) (hn:n≤1000) (hr:roots.length=n) :
  TrK Tryd.prog [] [0,1,2] 14 [pp 0,slB 2 n] [gM 1,gB b0 es c,rI roots] (fun v K=>v=.map (some 3)∧K=[gM 1,gB b0 es c,rI roots,.imap (farO es roots) (farO es roots).length]):=by
 refine Tr.of row_reach_Graph_far_ok rfl ?_
 repeat' (first|refine qN ?_|refine dN ?_|refine dR ?_|refine d0 ?_|refine qB ?_|refine rT ?_|refine qT ?_|refine qU ?_|refine qL ?_|refine qK ?_|refine qF ?_|refine qE ?_|refine iF (fun h=>?_) (fun h=>?_)|refine aX ?_|(refine eE rfl rfl (EW.imake rfl) ?_; conv=>whnf)|refine aA ?_|refine aI (hn:=?_)|refine sP 49 (fun h=>?_) (fun h=>?_)|refine qR ?_|refine qS ?_|exact ⟨rfl,rfl⟩|fail)
 refine LWp.pick [0,5,6,7] [0,1,2,3] rfl rfl rfl (L_loop (fun q l L=>∃ k:Nat,q=mu es (st es roots k)∧((k=0∧l=[(0,pp 0),(5,.map (some 3)),(6,slB 2 n),(7,.int .i64 0)]∧L=[gM 1,gB b0 es c,rI roots,.imap [] 0])∨(0<k∧∃ (out:IMap) (next:List Int),st es roots k=(out,next)∧l=[(0,pp 0),(5,.map (some 3)),(6,slB 4 next.length),(7,.int .i64 k)]∧L=[gM 1,gB b0 es c,rI roots,.imap out out.length,rI next]))) (mu es (st es roots 0)) ⟨0,rfl,.inl ⟨rfl,rfl,rfl⟩⟩ ?_)
 rintro q _ _ ⟨k,rfl,⟨rfl,rfl,rfl⟩ | ⟨hk,out,next,hst0,rfl,rfl⟩⟩
 ·have hst0:st es roots 0=([],roots):=rfl
  rw [hst0]
  have hlen:=hr
  first|refine L_seq (L_rs (S_done [] rfl (Nx.goL (iF (fun h=>L_skip (Nx.goL ?_)) (fun h=>L_exit ?_)))))|refine L_rs (S_done [] rfl (Nx.goL (L_seq (iF (fun h=>L_skip (Nx.goL ?_)) (fun h=>L_exit ?_)))))
  ·repeat' (first|refine qN ?_|refine dN ?_|refine dR ?_|refine d0 ?_|refine qB ?_|refine rT ?_|refine qT ?_|refine qU ?_|refine qL ?_|refine qK ?_|refine qF ?_|refine qE ?_|refine iF (fun h=>?_) (fun h=>?_)|refine aX ?_|refine aA ?_|refine aI (hn:=?_)|refine sP 49 (fun h=>?_) (fun h=>?_)|refine qR ?_|refine qS ?_|exact ⟨rfl,rfl⟩|fail)
   refine LWp.nilE 6 1 rfl ?_
   refine LWp.pick [0,5,6,7,26,27,28] [0,1,2,3,4] rfl rfl rfl (L_loop (fun q l L=>∃ (i:Nat) (o:IMap) (nx:List Int),q=n-i∧i≤n∧(o,nx)=(roots.take i).foldl (stp es 0) (([]:IMap),[])∧l=[(0,pp 0),(5,.map (some 3)),(6,slB 4 nx.length),(7,.int .i64 ((0:Nat):Int)),(26,slB 2 n),(27,.int .i64 n),(28,.int .i64 i)]∧L=[gM 1,gB b0 es c,rI roots,.imap o o.length,rI nx]) n ⟨0,_,_,rfl,by omega,rfl,rfl,rfl⟩ ?_)
   rintro q _ _ ⟨i,o,nx,rfl,hi,hs,rfl,rfl⟩
   first|refine L_seq (L_rs (S_done [] rfl (Nx.goL (iF (fun h=>L_skip (Nx.goL ?_)) (fun h=>L_exit ?_)))))|refine L_rs (S_done [] rfl (Nx.goL (L_seq (iF (fun h=>L_skip (Nx.goL ?_)) (fun h=>L_exit ?_)))))
   ·have him:i<n:=by omega
    obtain ⟨id,hid⟩:∃ id,roots[i]?=some id:=⟨_,List.getElem?_eq_getElem (by omega)⟩
    have hS:SB es (o,nx):=by rw [hs]; exact SB.fold hx8 _ (SB.start es _)
    have hsu:=rnd_take (es:=es) (k:=0) (s:=(([]:IMap),[])) hid
    rw [← hs] at hsu
    have hb:nx.length+8*unm es o≤8*es.length:=hS.b
    clear hs hS
    cases hg:ghas o id
    ·cases hq:gfe es id with
     | none =>
      have hst:stp es 0 (o,nx) id=(o,nx):=by unfold stp; rw [hq]
      rw [hst] at hsu
      repeat' (first|refine qN ?_|refine dN ?_|refine dR ?_|refine d0 ?_|refine qB ?_|refine rT ?_|refine qT ?_|refine qU ?_|refine qL ?_|refine qK ?_|refine qF ?_|refine qE ?_|refine iF (fun h=>?_) (fun h=>?_)|refine aX ?_|refine S_Q [] rfl rfl (QY.ldI rfl rfl hid) ?_|refine S_Q [] rfl rfl (QY.glook rfl mT_g kT_g zT_g rfl rfl rfl hq) ?_|refine S_Q [] rfl rfl (QY.igetok rfl (by kernel_rfl) rfl rfl rfl rfl hg) ?_|refine aA ?_|refine aI (hn:=?_)|refine sP 49 (fun h=>?_) (fun h=>?_)|refine qR ?_|refine qS ?_|exact ⟨rfl,rfl⟩|fail)
      exact Nx.pick [0,5,6,7,26,27,28] [0,1,2,3,4] rfl rfl rfl ⟨n-(i+1),by omega,i+1,o,nx,rfl,by omega,hsu.symm,rfl,rfl⟩
     | some e =>
      obtain ⟨he,rfl⟩:=gfe_some hq
      have hst:stp es 0 (o,nx) e.id=(gput o e.id ((0:Nat):Int) o.length,nx++e.xs):=by unfold stp; rw [hq]; simp [hg]
      rw [hst] at hsu
      have hn:=ghas_none hg
      have hx:=hx8 e he
      have hbd:(2*(nx.length+e.xs.length)+2048)*8≤281474976710656:=by omega
      have hgl:=gput_len o e.id ((0:Nat):Int) o.length
      repeat' (first|refine qN ?_|refine dN ?_|refine dR ?_|refine d0 ?_|refine qB ?_|refine rT ?_|refine qT ?_|refine qU ?_|refine qL ?_|refine qK ?_|refine qF ?_|refine qE ?_|refine iF (fun h=>?_) (fun h=>?_)|refine aX ?_|refine S_Q [] rfl rfl (QY.ldI rfl rfl hid) ?_|refine S_Q [] rfl rfl (QY.glook rfl mT_g kT_g zT_g rfl rfl rfl hq) ?_|refine S_Q [] rfl rfl (QY.igetok rfl (by kernel_rfl) rfl rfl rfl rfl hg) ?_|(refine eE rfl rfl (EW.iputN rfl (by kernel_rfl) rfl rfl rfl rfl hn) ?_; conv=>whnf)|(refine eE rfl rfl (EW.appH (bytes:=8) (k:=1) he rfl (by kernel_rfl) rfl rfl rfl rfl rfl hbd) ?_; conv=>whnf)|refine aA ?_|refine aI (hn:=?_)|refine sP 49 (fun h=>?_) (fun h=>?_)|refine qR ?_|refine qS ?_|exact ⟨rfl,rfl⟩|fail)
      exact Nx.pick [0,5,6,7,26,27,28] [0,1,2,3,5] rfl rfl rfl ⟨n-(i+1),by omega,i+1,_,_,rfl,by omega,hsu.symm,by simp only [List.length_append]; rfl,by simp only [hgl]; rfl⟩
    ·have hst:stp es 0 (o,nx) id=(o,nx):=by
      unfold stp
      cases hq:gfe es id with
      | none=>rfl
      | some e=>simp [hg]
     rw [hst] at hsu
     cases hq:gfe es id with
     | none =>
      repeat' (first|refine qN ?_|refine dN ?_|refine dR ?_|refine d0 ?_|refine qB ?_|refine rT ?_|refine qT ?_|refine qU ?_|refine qL ?_|refine qK ?_|refine qF ?_|refine qE ?_|refine iF (fun h=>?_) (fun h=>?_)|refine aX ?_|refine S_Q [] rfl rfl (QY.ldI rfl rfl hid) ?_|refine S_Q [] rfl rfl (QY.glook rfl mT_g kT_g zT_g rfl rfl rfl hq) ?_|refine S_Q [] rfl rfl (QY.igetok rfl (by kernel_rfl) rfl rfl rfl rfl hg) ?_|refine aA ?_|refine aI (hn:=?_)|refine sP 49 (fun h=>?_) (fun h=>?_)|refine qR ?_|refine qS ?_|exact ⟨rfl,rfl⟩|fail)
      exact Nx.pick [0,5,6,7,26,27,28] [0,1,2,3,4] rfl rfl rfl ⟨n-(i+1),by omega,i+1,o,nx,rfl,by omega,hsu.symm,rfl,rfl⟩
     | some e =>
      repeat' (first|refine qN ?_|refine dN ?_|refine dR ?_|refine d0 ?_|refine qB ?_|refine rT ?_|refine qT ?_|refine qU ?_|refine qL ?_|refine qK ?_|refine qF ?_|refine qE ?_|refine iF (fun h=>?_) (fun h=>?_)|refine aX ?_|refine S_Q [] rfl rfl (QY.ldI rfl rfl hid) ?_|refine S_Q [] rfl rfl (QY.glook rfl mT_g kT_g zT_g rfl rfl rfl hq) ?_|refine S_Q [] rfl rfl (QY.igetok rfl (by kernel_rfl) rfl rfl rfl rfl hg) ?_|refine aA ?_|refine aI (hn:=?_)|refine sP 49 (fun h=>?_) (fun h=>?_)|refine qR ?_|refine qS ?_|exact ⟨rfl,rfl⟩|fail)
      exact Nx.pick [0,5,6,7,26,27,28] [0,1,2,3,4] rfl rfl rfl ⟨n-(i+1),by omega,i+1,o,nx,rfl,by omega,hsu.symm,rfl,rfl⟩
   ·refine Nx.goL ?_
    obtain rfl:i=n:=by omega
    rw [List.take_of_length_le (by omega)] at hs
    have hmu:mu es (o,nx)<mu es (([]:IMap),roots):=by rw [hs]; exact mu_rnd (fun e=>by have:=congrArg List.length e; simp only [List.length_nil] at this; omega)
    have hsS:st es roots (0+1)=(o,nx):=by rw [hs]; show rnd es 0 (st es roots 0).1 (st es roots 0).2=_; rw [hst0]; rfl
    repeat' (first|refine qN ?_|refine dN ?_|refine dR ?_|refine d0 ?_|refine qB ?_|refine rT ?_|refine qT ?_|refine qU ?_|refine qL ?_|refine qK ?_|refine qF ?_|refine qE ?_|refine iF (fun h=>?_) (fun h=>?_)|refine aX ?_|refine aA ?_|refine aI (hn:=?_)|refine sP 49 (fun h=>?_) (fun h=>?_)|refine qR ?_|refine qS ?_|exact ⟨rfl,rfl⟩|fail)
    exact Nx.pick [0,5,6,7] [0,1,2,3,4] rfl rfl rfl ⟨mu es (o,nx),hmu,0+1,hsS ▸ rfl,.inr ⟨Nat.succ_pos _,o,nx,hsS,rfl,rfl⟩⟩
  ·refine Nx.goL ?_
   have e:farO es roots=[]:=farO_of (k:=0) (List.length_eq_zero_iff.1 (by show roots.length=0; omega))
   rw [e]
   repeat' (first|refine qN ?_|refine dN ?_|refine d0 ?_|refine qB ?_|refine qT ?_|refine qU ?_|refine qL ?_|refine qK ?_|refine qF ?_|refine qE ?_|refine iF (fun h=>?_) (fun h=>?_)|refine aX ?_|refine aA ?_|refine aI (hn:=?_)|refine sP 49 (fun h=>?_) (fun h=>?_)|refine qR ?_|refine qS ?_|exact ⟨rfl,rfl⟩|fail)
   exact L_ret (RetQ.pick [0,1,2,3] rfl rfl rfl rfl ⟨rfl,rfl⟩)
 ·rw [hst0]
  have hsb:next.length≤160:=by
   obtain ⟨k,rfl⟩:∃ j,k=j+1:=⟨k-1,by omega⟩
   have:SB es (out,next):=by rw [← hst0]; exact SB.fold hx8 _ (SB.start es _)
   have:next.length+8*unm es out≤8*es.length:=this.b
   omega
  have hlen:next.length=next.length:=rfl
  have hk41:next.length=0∨k≤41:=by
   rcases st_mu (es:=es) (roots:=roots) k with h1 | h1
   ·right
    have h0:mu es (st es roots 0)≤2*es.length+1:=by
     unfold mu
     have:=unm_le es (st es roots 0).1
     split <;> omega
    omega
   ·left; rw [hst0] at h1; rw [show next=[] from h1]; rfl
  first|refine L_seq (L_rs (S_done [] rfl (Nx.goL (iF (fun h=>L_skip (Nx.goL ?_)) (fun h=>L_exit ?_)))))|refine L_rs (S_done [] rfl (Nx.goL (L_seq (iF (fun h=>L_skip (Nx.goL ?_)) (fun h=>L_exit ?_)))))
  ·repeat' (first|refine qN ?_|refine dN ?_|refine dR ?_|refine d0 ?_|refine qB ?_|refine rT ?_|refine qT ?_|refine qU ?_|refine qL ?_|refine qK ?_|refine qF ?_|refine qE ?_|refine iF (fun h=>?_) (fun h=>?_)|refine aX ?_|refine aA ?_|refine aI (hn:=?_)|refine sP 49 (fun h=>?_) (fun h=>?_)|refine qR ?_|refine qS ?_|exact ⟨rfl,rfl⟩|fail)
   refine LWp.nilE 6 1 rfl ?_
   refine LWp.pick [0,5,6,7,26,27,28] [0,1,2,3,4,5] rfl rfl rfl (L_loop (fun q l L=>∃ (i:Nat) (o:IMap) (nx:List Int),q=next.length-i∧i≤next.length∧(o,nx)=(next.take i).foldl (stp es k) (out,[])∧l=[(0,pp 0),(5,.map (some 3)),(6,slB 5 nx.length),(7,.int .i64 (k:Int)),(26,slB 4 next.length),(27,.int .i64 next.length),(28,.int .i64 i)]∧L=[gM 1,gB b0 es c,rI roots,.imap o o.length,rI next,rI nx]) next.length ⟨0,_,_,rfl,by omega,rfl,rfl,rfl⟩ ?_)
   rintro q _ _ ⟨i,o,nx,rfl,hi,hs,rfl,rfl⟩
   first|refine L_seq (L_rs (S_done [] rfl (Nx.goL (iF (fun h=>L_skip (Nx.goL ?_)) (fun h=>L_exit ?_)))))|refine L_rs (S_done [] rfl (Nx.goL (L_seq (iF (fun h=>L_skip (Nx.goL ?_)) (fun h=>L_exit ?_)))))
   ·have him:i<next.length:=by omega
    obtain ⟨id,hid⟩:∃ id,next[i]?=some id:=⟨_,List.getElem?_eq_getElem (by omega)⟩
    have hS:SB es (o,nx):=by rw [hs]; exact SB.fold hx8 _ (SB.start es _)
    have hsu:=rnd_take (es:=es) (k:=k) (s:=(out,[])) hid
    rw [← hs] at hsu
    have hb:nx.length+8*unm es o≤8*es.length:=hS.b
    clear hs hS
    cases hg:ghas o id
    ·cases hq:gfe es id with
     | none =>
      have hst:stp es k (o,nx) id=(o,nx):=by unfold stp; rw [hq]
      rw [hst] at hsu
      repeat' (first|refine qN ?_|refine dN ?_|refine dR ?_|refine d0 ?_|refine qB ?_|refine rT ?_|refine qT ?_|refine qU ?_|refine qL ?_|refine qK ?_|refine qF ?_|refine qE ?_|refine iF (fun h=>?_) (fun h=>?_)|refine aX ?_|refine S_Q [] rfl rfl (QY.ldI rfl rfl hid) ?_|refine S_Q [] rfl rfl (QY.glook rfl mT_g kT_g zT_g rfl rfl rfl hq) ?_|refine S_Q [] rfl rfl (QY.igetok rfl (by kernel_rfl) rfl rfl rfl rfl hg) ?_|refine aA ?_|refine aI (hn:=?_)|refine sP 49 (fun h=>?_) (fun h=>?_)|refine qR ?_|refine qS ?_|exact ⟨rfl,rfl⟩|fail)
      exact Nx.pick [0,5,6,7,26,27,28] [0,1,2,3,4,5] rfl rfl rfl ⟨next.length-(i+1),by omega,i+1,o,nx,rfl,by omega,hsu.symm,rfl,rfl⟩
     | some e =>
      obtain ⟨he,rfl⟩:=gfe_some hq
      have hst:stp es k (o,nx) e.id=(gput o e.id (k:Int) o.length,nx++e.xs):=by unfold stp; rw [hq]; simp [hg]
      rw [hst] at hsu
      have hn:=ghas_none hg
      have hx:=hx8 e he
      have hbd:(2*(nx.length+e.xs.length)+2048)*8≤281474976710656:=by omega
      have hgl:=gput_len o e.id (k:Int) o.length
      repeat' (first|refine qN ?_|refine dN ?_|refine dR ?_|refine d0 ?_|refine qB ?_|refine rT ?_|refine qT ?_|refine qU ?_|refine qL ?_|refine qK ?_|refine qF ?_|refine qE ?_|refine iF (fun h=>?_) (fun h=>?_)|refine aX ?_|refine S_Q [] rfl rfl (QY.ldI rfl rfl hid) ?_|refine S_Q [] rfl rfl (QY.glook rfl mT_g kT_g zT_g rfl rfl rfl hq) ?_|refine S_Q [] rfl rfl (QY.igetok rfl (by kernel_rfl) rfl rfl rfl rfl hg) ?_|(refine eE rfl rfl (EW.iputN rfl (by kernel_rfl) rfl rfl rfl rfl hn) ?_; conv=>whnf)|(refine eE rfl rfl (EW.appH (bytes:=8) (k:=1) he rfl (by kernel_rfl) rfl rfl rfl rfl rfl hbd) ?_; conv=>whnf)|refine aA ?_|refine aI (hn:=?_)|refine sP 49 (fun h=>?_) (fun h=>?_)|refine qR ?_|refine qS ?_|exact ⟨rfl,rfl⟩|fail)
      exact Nx.pick [0,5,6,7,26,27,28] [0,1,2,3,4,6] rfl rfl rfl ⟨next.length-(i+1),by omega,i+1,_,_,rfl,by omega,hsu.symm,by simp only [List.length_append]; rfl,by simp only [hgl]; rfl⟩
    ·have hst:stp es k (o,nx) id=(o,nx):=by
      unfold stp
      cases hq:gfe es id with
      | none=>rfl
      | some e=>simp [hg]
     rw [hst] at hsu
     cases hq:gfe es id with
     | none =>
      repeat' (first|refine qN ?_|refine dN ?_|refine dR ?_|refine d0 ?_|refine qB ?_|refine rT ?_|refine qT ?_|refine qU ?_|refine qL ?_|refine qK ?_|refine qF ?_|refine qE ?_|refine iF (fun h=>?_) (fun h=>?_)|refine aX ?_|refine S_Q [] rfl rfl (QY.ldI rfl rfl hid) ?_|refine S_Q [] rfl rfl (QY.glook rfl mT_g kT_g zT_g rfl rfl rfl hq) ?_|refine S_Q [] rfl rfl (QY.igetok rfl (by kernel_rfl) rfl rfl rfl rfl hg) ?_|refine aA ?_|refine aI (hn:=?_)|refine sP 49 (fun h=>?_) (fun h=>?_)|refine qR ?_|refine qS ?_|exact ⟨rfl,rfl⟩|fail)
      exact Nx.pick [0,5,6,7,26,27,28] [0,1,2,3,4,5] rfl rfl rfl ⟨next.length-(i+1),by omega,i+1,o,nx,rfl,by omega,hsu.symm,rfl,rfl⟩
     | some e =>
      repeat' (first|refine qN ?_|refine dN ?_|refine dR ?_|refine d0 ?_|refine qB ?_|refine rT ?_|refine qT ?_|refine qU ?_|refine qL ?_|refine qK ?_|refine qF ?_|refine qE ?_|refine iF (fun h=>?_) (fun h=>?_)|refine aX ?_|refine S_Q [] rfl rfl (QY.ldI rfl rfl hid) ?_|refine S_Q [] rfl rfl (QY.glook rfl mT_g kT_g zT_g rfl rfl rfl hq) ?_|refine S_Q [] rfl rfl (QY.igetok rfl (by kernel_rfl) rfl rfl rfl rfl hg) ?_|refine aA ?_|refine aI (hn:=?_)|refine sP 49 (fun h=>?_) (fun h=>?_)|refine qR ?_|refine qS ?_|exact ⟨rfl,rfl⟩|fail)
      exact Nx.pick [0,5,6,7,26,27,28] [0,1,2,3,4,5] rfl rfl rfl ⟨next.length-(i+1),by omega,i+1,o,nx,rfl,by omega,hsu.symm,rfl,rfl⟩
   ·refine Nx.goL ?_
    obtain rfl:i=next.length:=by omega
    rw [List.take_of_length_le (by omega)] at hs
    have hmu:mu es (o,nx)<mu es (out,next):=by rw [hs]; exact mu_rnd (fun e=>by have:=congrArg List.length e; simp only [List.length_nil] at this; omega)
    have hsS:st es roots (k+1)=(o,nx):=by rw [hs]; show rnd es k (st es roots k).1 (st es roots k).2=_; rw [hst0]; rfl
    repeat' (first|refine qN ?_|refine dN ?_|refine dR ?_|refine d0 ?_|refine qB ?_|refine rT ?_|refine qT ?_|refine qU ?_|refine qL ?_|refine qK ?_|refine qF ?_|refine qE ?_|refine iF (fun h=>?_) (fun h=>?_)|refine aX ?_|refine aA ?_|refine aI (hn:=?_)|refine sP 49 (fun h=>?_) (fun h=>?_)|refine qR ?_|refine qS ?_|exact ⟨rfl,rfl⟩|fail)
    exact Nx.pick [0,5,6,7] [0,1,2,3,5] rfl rfl rfl ⟨mu es (o,nx),hmu,k+1,hsS ▸ rfl,.inr ⟨Nat.succ_pos _,o,nx,hsS,rfl,rfl⟩⟩
  ·refine Nx.goL ?_
   have e:farO es roots=out:=by
    have hn0:next=[]:=List.length_eq_zero_iff.1 (by omega)
    have:=farO_of (es:=es) (roots:=roots) (k:=k) (by rw [hst0]; exact hn0)
    rw [this,hst0]
   rw [e]
   repeat' (first|refine qN ?_|refine dN ?_|refine d0 ?_|refine qB ?_|refine qT ?_|refine qU ?_|refine qL ?_|refine qK ?_|refine qF ?_|refine qE ?_|refine iF (fun h=>?_) (fun h=>?_)|refine aX ?_|refine aA ?_|refine aI (hn:=?_)|refine sP 49 (fun h=>?_) (fun h=>?_)|refine qR ?_|refine qS ?_|exact ⟨rfl,rfl⟩|fail)
   exact L_ret (RetQ.pick [0,1,2,3] rfl rfl rfl rfl ⟨rfl,rfl⟩)
end Go.Proofs.YtfijpjcmgakllaaDoor
end
section
namespace Go.Proofs.YtfijpjcmgakllaaDoor
open Go Go.Tum
set_option maxRecDepth 4000
theorem steps_tr (b0 c:Nat) (es:List GE) (hes:es.length≤20) (hx8:∀ e∈es,e.xs.length≤8) (a b:Int) :
  Tr Tryd.prog 5 [pp 0,.int .i64 a,.int .i64 b] [gM 1,gB b0 es c] (fun v K=>v=.tuple ⟨[.int .i64 (gget (farO es [a]) b),.bool (ghas (farO es [a]) b)]⟩∧K=[gM 1,gB b0 es c]):=by
 have hF:=farG_tr b0 c es hes hx8 [a] 1 (by omega) rfl
 refine Tr.of row_reach_Graph_Steps_ok rfl ?_
 generalize farO es [a]=out at *
 repeat' (first|refine qN ?_|refine dN ?_|refine d0 ?_|refine S_wk [] rfl (wk_new (b:=2) 1 rfl (List.cons_ne_nil _ _) (by decide) rfl) ?_|(refine cF [0,1,2] (hF) ?_; conv=>whnf)|refine S_Q [] rfl rfl (QY.igetok rfl (by kernel_rfl) rfl rfl rfl rfl rfl) ?_|refine aI (hn:=?_)|refine qR ?_|refine qS ?_|exact ⟨rfl,rfl⟩|fail)
 exact L_ret (RetQ.pick [0,1] rfl rfl rfl rfl ⟨rfl,rfl⟩)
end Go.Proofs.YtfijpjcmgakllaaDoor
end
section
namespace Go.Tum
open Go Go.RowKit Go.Sort
theorem rowsC_int:∀ xs:List Int,rowsC intC xs=xs.map (Value.int .i64)
 | []=>rfl
 | x::r=>by simp [rowsC,intC,rowsC_int r]
theorem rowsC_nil_iff {xs:List Int}:rowsC intC xs=[]↔xs=[]:=by rw [rowsC_int]; simp
section
variable {P:Program} {L:LH} {f:FuncId} {vs:List Value}
def GivesRow (P:Program) (f:FuncId) (args:Array Value) (t:TypeId) (zs:List Int) (w:World):Prop :=
 Calls P f args w fun e w'=>∃ v,e=.returned v∧w'.ownsRow w.heap.size t 1 v zs.length (zs.map (Value.int .i64))∧(v=.slice none 0 0↔zs=[])∧Below w.heap.size w w'
theorem Rep.rowNew {X:Nat→Prop} {w0 w wr:World} {E:Emb} {args:Array Value} {t:TypeId} {zs:List Int} (hR:Rep X w0 E L w) (hs:Sim wr w) (h:GivesRow P f args t zs wr) :
  Calls P f args wr fun e w'=>∃ w1,Sim w' w1∧∃ v',e=.returned v'∧∃ E',Tum.Ext E E'∧VR E' (.slice (some ⟨L.length,0,none⟩) zs.length zs.length) v'∧Rep X w0 E' (L++[.gro 1 (rowsC intC zs)]) w1:=by
 refine Calls.mono h ?_
 rintro e w' ⟨v,rfl,hrow,hnil,hb⟩
 have hf:Fr (fun _=>False) w w':=⟨by rw [← hs.heap]; exact hb.size,fun b hb' _=>by rw [← hs.heap]; exact hb.block b (by rw [hs.heap]; exact hb'),hb.os.trans hs.os,hb.tape.trans hs.tape,hb.output.trans hs.output⟩
 refine ⟨w',Sim.refl w',v,rfl,?_⟩
 by_cases hz:zs=[]
 ·subst hz
  obtain rfl:=hnil.2 rfl
  exact ⟨E++[(0,0,0)],Ext.push E _,⟨rfl,_,hR.last _,.inr ⟨rfl,rfl,none,rfl⟩⟩,hR.push hf (fun _ h=>h.elim) (.inl ⟨rfl,rfl⟩)⟩
 ·rcases hrow.2 with ⟨rfl,h0⟩ | ⟨g,cap,cur,rfl,hbase,hgb,h1,h2,h3,h4⟩
  ·exact absurd (hnil.1 rfl) hz
  ·have hg:=(Array.getElem?_eq_some_iff.1 hgb).1
   rw [hs.heap] at hbase
   refine ⟨E++[(g,0,cap-zs.length)],Ext.push E _,⟨rfl,_,hR.last _,.inl ⟨_,_,rfl,.inl ⟨by simp,by show cap=zs.length+(cap-zs.length); omega⟩⟩⟩,hR.push hf (fun b hb=>?_) (.inr ⟨fun e=>hz (rowsC_nil_iff.1 e),by decide,cur.toList,⟨_,hgb⟩,?_,?_⟩)⟩
   ·have:b=g:=by
     revert hb
     cases hq:rowsC intC zs with
     | nil=>exact absurd (rowsC_nil_iff.1 hq) hz
     | cons x r=>exact fun h=>h
    subst this
    exact ⟨hbase,hg⟩
   ·rw [rowsC_int,List.length_map]
    simpa using h4
   ·rw [rowsC_int,List.length_map]
    simp only [Array.length_toList,h3]
    omega
theorem Tr.rowNew {t:TypeId} {zs:List Int} (hc:callable P f=true) (h:∀ (X:Nat→Prop) (w0 w:World) (E:Emb) (vs':List Value),Rep X w0 E L w→L2 (VR E) vs vs'→∀ wr,Sim wr w→GivesRow P f vs'.toArray t zs wr) :
  Tr P f vs L (fun v K=>v=.slice (some ⟨L.length,0,none⟩) zs.length zs.length∧K=L++[.gro 1 (rowsC intC zs)]):=by
 intro X w0 w E vs' hA hR hv
 refine ⟨hc,fun wr hs=>(hR.rowNew hs (h X w0 w E vs' hR hv wr hs)).mono ?_⟩
 rintro e w' ⟨w1,h1,v',rfl,E',h2,h3,h4⟩
 exact ⟨w1,h1,v',rfl,E',_,_,fun k r _ hk=>h2 k r hk,by simp,h3,h4,rfl,rfl⟩
def sortZ (xs:List Int):List Int:=xs.mergeSort fun x y=>decide (x≤y)
theorem sortZ_len (xs:List Int):(sortZ xs).length=xs.length:=List.length_mergeSort ..
end
end Go.Tum
end
section
namespace Go.Tum
open Go Go.RowKit Go.Sort Go.Maps Go.WideShapes
section
variable {P:Program}
theorem ownsMap_of {k:TypeId} (hk:P.underlying k=some (.int .i64)) {w:World} {b c:Nat} {m:List (Int × Value × Nat)} (hM:Mp (Value.int .i64) w b m c) (hw:Wf m c) (hb:∀ x∈m,(Lit.int .i64 x.1).wf=true) (hl:m.length≤maxLen) :
  ∃ D0:DataW Unit,w.ownsMap P k (fun _=>some (.lit (.bool true),[])) b m.length D0∧(intKeys D0).Perm (m.map (·.1))∧Maps.size D0=m.length:=by
 have hrd:∀ x∈m,WideElems.rd (H:=Unit) P k (fun _=>some (.lit (.bool true),[])) (mkE (Value.int .i64) x)=some (.int .i64 x.1,.lit (.bool true)):=fun x hx=>by
  unfold WideElems.rd
  rw [show (mkE (Value.int .i64) x).key=.int .i64 x.1 from rfl,keyOf_int_mk hk (hb x hx)]
  rfl
 have hrg:m.map (fun x=>WideElems.rg (H:=Unit) P k (fun _=>some (.lit (.bool true),[])) (mkE (Value.int .i64) x))=m.map fun x=>(Lit.int .i64 x.1,DataW.lit (.bool true)):=by
  apply List.map_congr_left
  intro x hx
  unfold WideElems.rg
  rw [hrd x hx]; rfl
 have hrg':((m.map (mkE (Value.int .i64))).toArray.toList.map (WideElems.rg (H:=Unit) P k (fun _=>some (.lit (.bool true),[]))))=m.map fun x=>(Lit.int .i64 x.1,DataW.lit (.bool true)):=by
  rw [← hrg]; simp [Function.comp]
 refine ⟨_,⟨_,_,hM,⟨by simpa using hl,⟨fun x hx=>?_,?_,?_⟩,fun x hx=>?_⟩,by simp,rfl⟩,?_,?_⟩
 ·simp only [List.mem_map] at hx
  obtain ⟨y,hy,rfl⟩:=hx
  exact hw.past y hy
 ·have:=hw.borns
  simp only [List.map_map]
  exact this
 ·have:=hw.keys
  simp only [List.map_map]
  rw [show ((fun x:MapEntry=>x.key) ∘ mkE (Value.int .i64))=(Value.int .i64) ∘ fun x:Int × Value × Nat=>x.1 from rfl,← List.map_map]
  rw [List.nodup_iff_pairwise_ne,List.pairwise_map]
  exact (List.nodup_iff_pairwise_ne.1 this).imp fun h e=>h (by cases e; rfl)
 ·simp only [List.mem_map] at hx
  obtain ⟨y,hy,rfl⟩:=hx
  exact ⟨_,hrd y hy⟩
 ·rw [hrg']
  unfold intKeys
  refine ((sorted_perm _).map _).trans ?_
  rw [List.map_map]
  exact .refl _
 ·rw [hrg']
  show List.length _=_
  rw [(sorted_perm _).length_eq]
  simp
theorem Fr.cellK {G:Nat→Prop} {w1 w2:World} {b o:Nat} {v:Value} (hf:Fr G w1 w2) (h:w1.cell? ⟨b,o,none⟩=some v) (hn:¬ G b):w2.cell? ⟨b,o,none⟩=some v:=by
 have hlt:b<w1.heap.size:=by
  simp only [World.cell?] at h
  cases hq:w1.heap[b]? with
  | none=>rw [hq] at h; cases h
  | some x=>exact (Array.getElem?_eq_some_iff.1 hq).1
 simp only [World.cell?,hf.keep b hlt hn] at h ⊢
 exact h
abbrev clo (g k:Nat):Value:=.func (.func g) ⟨[]⟩ ⟨[.pointer (some ⟨k,0,none⟩)]⟩
def boxB (A:Nat→World→Prop) (F:Nat→Prop) (b0 b1:Nat):LB:=.abs (fun r w=>r=b1∧w.cell? ⟨b1,0,none⟩=some (.map (some b0))∧A b0 w) (fun b=>b=b1∨F b)
def adB (b0:Nat):LB:=.abs (fun r _=>r=b0) (fun _=>False)
def imA (G:IMap) (c:Nat) (r:Nat) (w:World):Prop:=Mp (Value.int .i64) w r (mI G) c∧Wf (mI G) c
def gA (es:List GE) (c:Nat) (r:Nat) (w:World):Prop:=Mp (Value.int .i64) w r (es.map ge) c∧Wf (es.map ge) c∧∀ e∈es,e.ok w
theorem boxB_is {E:Emb} {w:World} {r:Nat × Nat × Nat} {A:Nat→World→Prop} {F:Nat→Prop} {b0 b1:Nat} (h1:r=(b1,0,0)) (h2:w.cell? ⟨b1,0,none⟩=some (.map (some b0))) (h3:A b0 w) (hst:∀ w1 w2 G,A b0 w1→Fr G w1 w2→(∀ b,F b→¬ G b)→A b0 w2):LBis E w r (boxB A F b0 b1):=by
 subst h1
 exact ⟨⟨rfl,h2,h3⟩,rfl,fun w1 w2 G ⟨g1,g2,g3⟩ hf hn=>⟨g1,hf.cellK g2 (hn _ (.inl rfl)),hst w1 w2 G g3 hf fun b hb=>hn b (.inr hb)⟩⟩
theorem imA_st {G:IMap} {c b0:Nat} (w1 w2:World) (H:Nat→Prop) (h:imA G c b0 w1) (hf:Fr H w1 w2) (hn:∀ b,b=b0→¬ H b):imA G c b0 w2:=⟨h.1.fr hf (hn _ rfl),h.2⟩
theorem gA_st {es:List GE} {c b0:Nat} (w1 w2:World) (H:Nat→Prop) (h:gA es c b0 w1) (hf:Fr H w1 w2) (hn:∀ b,gF b0 es b→¬ H b):gA es c b0 w2 :=
 ⟨h.1.fr hf (hn _ (.inl rfl)),h.2.1,fun e he=>GE.ok_fr (h.2.2 e he) hf fun hx=>hn _ (.inr ⟨e,he,hx,rfl⟩)⟩
def KeysC (P:Program) (f:FuncId) (g:Nat) (t:TypeId):Prop:=∀ (mb:Option Nat) (w:World),Calls P f #[.map mb] w fun e w'=>e=.returned (.func (.func g) #[] #[.pointer (some ⟨w.heap.size,0,none⟩)])∧w'=w.alloc (.cells #[.map mb] t)
section
variable {f:FuncId} {g:Nat} {t:TypeId}
theorem keys_box {X:Nat→Prop} {w0 w:World} {E:Emb} {vs':List Value} {y:LB} {A:Nat→World→Prop} {F:Nat→Prop} {r:Nat × Nat × Nat} (h:KeysC P f g t) (hR:Rep X w0 E [y] w) (hv:L2 (VR E) [.map (some 0)] vs') (hr:E[0]?=some r) (hA:A r.1 w) (hF:∀ b,F b→foot r y b) (hst:∀ w1 w2 G,A r.1 w1→Fr G w1 w2→(∀ b,F b→¬ G b)→A r.1 w2) :
  Does P f vs'.toArray w fun v' w'=>∃ b1,(b1,0,0)=(w.heap.size,0,0)∧VR (E++[(w.heap.size,0,0)]) (clo g 1) v'∧Rep X w0 (E++[(w.heap.size,0,0)]) [.dead,boxB A F r.1 w.heap.size] w':=by
 obtain ⟨v',rfl,hv'⟩:∃ v',vs'=[v']∧VR E (.map (some 0)) v':=by
  cases vs' with
  | nil=>exact hv.elim
  | cons a q=>cases q with
   | nil=>exact ⟨a,rfl,hv.1⟩
   | cons _ _=>exact hv.2.elim
 obtain ⟨r',hr',rfl⟩:=hv'
 have hr':E[0]?=some r':=hr'
 rw [hr] at hr'; cases hr'
 intro wr hs
 refine (h (some r.1) wr).mono ?_
 rintro e w' ⟨rfl,rfl⟩
 refine ⟨w.alloc (.cells #[.map (some r.1)] t),hs.push _,_,rfl,w.heap.size,rfl,?_,?_⟩
 ·refine ⟨[],_,rfl,trivial,⟨⟨_,rfl,rfl,(w.heap.size,0,0),?_,by rw [hs.heap]; rfl⟩,trivial⟩⟩
  have:=hR.last (w.heap.size,0,0)
  exact this
 ·have hfr:Fr (fun _=>False) w (w.alloc (.cells #[.map (some r.1)] t)):=Fr.alloc _ w _
  have:=hR.again (b:=0) (r':=(w.heap.size,0,0)) (x:=boxB A F r.1 w.heap.size) rfl hr (hfr.mono fun _ _ h=>h.elim) (fun c hc=>?_) (boxB_is rfl ?_ (hst _ _ _ hA hfr fun _ _ h=>h) hst)
  ·exact this
  ·rcases hc with hc | hc
   ·right
    rw [hc]
    exact ⟨Nat.le_refl _,by show _<(w.heap.push _).size; simp⟩
   ·exact .inl (hF c hc)
  ·have hb:(w.alloc (.cells #[.map (some r.1)] t)).heap[w.heap.size]?=some (.cells #[.map (some r.1)] t):=by
    show (w.heap.push _)[w.heap.size]?=_
    simp
   simp only [World.cell?,hb]
   rfl
theorem Tr.keysI {G:IMap} {c:Nat} (hc:callable P f=true) (h:KeysC P f g t):Tr P f [.map (some 0)] [.imap G c] (fun v K=>∃ i:Nat × Nat,True∧v=clo g 1∧K=[.dead,boxB (imA G c) (·=i.1) i.1 i.2]):=by
 intro X w0 w E vs' hA hR hv
 obtain ⟨r,hr⟩:=hR.ent (b:=0) rfl
 obtain ⟨h1,h2⟩:=hR.blk 0 _ r rfl hr
 refine ⟨hc,(keys_box (A:=imA G c) (F:=(·=r.1)) h hR hv hr ⟨h1,h2⟩ (fun b hb=>hb) imA_st).mono ?_⟩
 rintro v' w' ⟨b1,_,h3,h4⟩
 exact ⟨_,_,[.dead,boxB (imA G c) (·=r.1) r.1 w.heap.size],fun k q _ hk=>Ext.push E _ k q hk,Nat.le_succ 1,h3,h4,(r.1,w.heap.size),trivial,rfl,rfl⟩
theorem Tr.keysG {es:List GE} {b0 c:Nat} (hc:callable P f=true) (h:KeysC P f g t):Tr P f [.map (some 0)] [gB b0 es c] (fun v K=>∃ b1:Nat,True∧v=clo g 1∧K=[adB b0,boxB (gA es c) (gF b0 es) b0 b1]):=by
 intro X w0 w E vs' hA hR hv
 obtain ⟨r,hr⟩:=hR.ent (b:=0) rfl
 obtain ⟨⟨rfl,h1⟩,h2,_⟩:=hR.blk 0 _ r rfl hr
 refine ⟨hc,(keys_box (A:=gA es c) (F:=gF r.1 es) h hR hv hr h1 (fun b hb=>hb) gA_st).mono ?_⟩
 rintro v' w' ⟨b1,_,h3,h4⟩
 refine ⟨_,_,[adB r.1,boxB (gA es c) (gF r.1 es) r.1 w.heap.size],fun k q _ hk=>Ext.push E _ k q hk,Nat.le_succ 1,h3,?_,w.heap.size,trivial,rfl,rfl⟩
 have:=h4.upd (b:=0) (x:=adB r.1) (y:=.dead) rfl (Ext.push E _ 0 r hr) (Fr.refl _ _) ⟨rfl,h2,fun _ _ _ h _ _=>h⟩ (fun c hc=>hc.elim)
 exact this
def SortedC (P:Program) (f:FuncId) (g:Nat) (t:TypeId):Prop:=∀ (b0 b1 c:Nat) (m:List (Int × Value × Nat)) (w:World),Mp (Value.int .i64) w b0 m c→Wf m c→(∀ x∈m,(Lit.int .i64 x.1).wf=true)→m.length≤1000→w.cell? ⟨b1,0,none⟩=some (.map (some b0))→b1<w.heap.size →
 GivesRow P f #[.func (.func g) #[] #[.pointer (some ⟨b1,0,none⟩)]] t (sortZ (m.map (·.1))) w
theorem Tr.sortedK {A:Nat→World→Prop} {F:Nat→Prop} {x:LB} {b0 b1 c:Nat} {m:List (Int × Value × Nat)} (hc:callable P f=true) (h:SortedC P f g t) (hAm:∀ w,A b0 w→Mp (Value.int .i64) w b0 m c∧Wf m c) (hb:∀ x∈m,(Lit.int .i64 x.1).wf=true) (hl:m.length≤1000) :
  Tr P f [clo g 1] [x,boxB A F b0 b1] (fun v K=>v=.slice (some ⟨2,0,none⟩) m.length m.length∧K=[x,boxB A F b0 b1,.gro 1 (rowsC intC (sortZ (m.map (·.1))))]):=by
 have hln:(sortZ (m.map (·.1))).length=m.length:=by rw [sortZ_len,List.length_map]
 have:=Tr.rowNew (P:=P) (L:=[x,boxB A F b0 b1]) (f:=f) (vs:=[clo g 1]) (t:=t) (zs:=sortZ (m.map (·.1))) hc ?_
 ·rw [hln] at this; exact this
 intro X w0 w E vs' hR hv wr hs
 obtain ⟨v',rfl,hv'⟩:∃ v',vs'=[v']∧VR E (clo g 1) v':=by
  cases vs' with
  | nil=>exact hv.elim
  | cons a q=>cases q with
   | nil=>exact ⟨a,rfl,hv.1⟩
   | cons _ _=>exact hv.2.elim
 obtain ⟨a',c',rfl,ha,hcc⟩:=hv'
 obtain rfl:a'=[]:=by cases a' with
  | nil=>rfl
  | cons _ _=>exact ha.elim
 obtain ⟨p,rfl,hp⟩:∃ p,c'=[p]∧S0 E (.pointer (some ⟨1,0,none⟩)) p:=by
  cases c' with
  | nil=>exact hcc.elim
  | cons a q=>cases q with
   | nil=>exact ⟨a,rfl,hcc.1⟩
   | cons _ _=>exact hcc.2.elim
 obtain ⟨_,rfl,_,r,hr,rfl⟩:=hp
 have hr:E[1]?=some r:=hr
 obtain ⟨⟨h1,h2,h3⟩,h4,_⟩:=hR.blk 1 _ r rfl hr
 obtain ⟨r1,r2⟩:=r
 simp only at h1 h4
 subst h1 h4
 obtain ⟨g1,g2⟩:=hAm w h3
 have hlt:=(hR.rng 1 _ _ rfl hr r1 (.inl rfl)).2
 have h5:=h b0 r1 c m wr (g1.sim hs) g2 hb hl (by rw [hs.cell]; exact h2) (by rw [hs.heap]; exact hlt)
 exact h5
end
section
variable {L:LH}
theorem wk_unbox {i j b0 b1 c:Nat} {es:List GE} (hne:i≠j) (hi:L[i]?=some (adB b0)) (hj:L[j]?=some (boxB (gA es c) (gF b0 es) b0 b1)):∀ X w0 E w,Rep X w0 E L w→Rep X w0 E ((L.set i (gB b0 es c)).set j .dead) w:=by
 intro X w0 E w hR
 obtain ⟨r,hr⟩:=hR.ent hi
 obtain ⟨q,hq⟩:=hR.ent hj
 obtain ⟨h1,h2,_⟩:=hR.blk i _ r hi hr
 obtain ⟨⟨_,_,h3⟩,_⟩:=hR.blk j _ q hj hq
 have h1:r.1=b0:=h1
 refine hR.merge hne hi hr hj hq (Fr.refl _ _) ?_ (fun c hc=>.inr (.inl (.inr hc)))
 obtain ⟨g1,g2,g3⟩:=h3
 exact gB_is (by rw [h1]; exact g1) g2 g3 h1 h2
end
end
end Go.Tum
end
section
namespace Go.Proofs.YtfijpjcmgakllaaDoor
open Go Go.Proofs Go.Shelf Go.Tum Go.RowKit Go.Maps Go.Sort
def keysA_ren:Ren:=⟨fun | 7=>17 | 10=>27 | n=>n,fun | 23=>39 | 26=>3 | 3=>3 | 28=>43 | 0=>0 | 27=>42 | 33=>57 | 4=>4 | n=>n,fun | n=>n⟩
theorem keysA:SlLaysZI.n7 Tryd.prog keysA_ren:={
 mixed:=by kernel_rfl
 f7:=⟨Tryd.f17.name,by decide,Tryd.func17.trans (congrArg some (by kernel_rfl))⟩
 f10:=⟨Tryd.f27.name,by decide,Tryd.func27.trans (congrArg some (by kernel_rfl))⟩
 t0:=Tryd.underlying0
 a0:=Tryd.isAgg0
 z0:=Tryd.sizeOf0
 v0:=Tryd.zeroValue0
 t4:=Tryd.underlying4
 a4:=Tryd.isAgg4
 z4:=Tryd.sizeOf4
 v4:=Tryd.zeroValue4
 t23:=Tryd.underlying39
 a23:=Tryd.isAgg39
 z23:=Tryd.sizeOf39
 v23:=Tryd.zeroValue39
 t26:=Tryd.underlying3
 a26:=Tryd.isAgg3
 z26:=Tryd.sizeOf3
 v26:=Tryd.zeroValue3
 t27:=Tryd.underlying42
 a27:=Tryd.isAgg42
 z27:=Tryd.sizeOf42
 v27:=Tryd.zeroValue42
 t28:=Tryd.underlying43
 a28:=Tryd.isAgg43
 z28:=Tryd.sizeOf43
 v28:=Tryd.zeroValue43
 t33:=Tryd.underlying57
 a33:=Tryd.isAgg57
 z33:=Tryd.sizeOf57
 v33:=Tryd.zeroValue57 }
def keysB_ren:Ren:=⟨fun | 7=>16 | 10=>26 | n=>n,fun | 23=>36 | 26=>3 | 3=>26 | 28=>43 | 0=>0 | 27=>42 | 33=>57 | 4=>4 | n=>n,fun | n=>n⟩
theorem keysB:SlLaysZI.n7 Tryd.prog keysB_ren:={
 mixed:=by kernel_rfl
 f7:=⟨Tryd.f16.name,by decide,Tryd.func16.trans (congrArg some (by kernel_rfl))⟩
 f10:=⟨Tryd.f26.name,by decide,Tryd.func26.trans (congrArg some (by kernel_rfl))⟩
 t0:=Tryd.underlying0
 a0:=Tryd.isAgg0
 z0:=Tryd.sizeOf0
 v0:=Tryd.zeroValue0
 t4:=Tryd.underlying4
 a4:=Tryd.isAgg4
 z4:=Tryd.sizeOf4
 v4:=Tryd.zeroValue4
 t23:=Tryd.underlying36
 a23:=Tryd.isAgg36
 z23:=Tryd.sizeOf36
 v23:=Tryd.zeroValue36
 t26:=Tryd.underlying3
 a26:=Tryd.isAgg3
 z26:=Tryd.sizeOf3
 v26:=Tryd.zeroValue3
 t27:=Tryd.underlying42
 a27:=Tryd.isAgg42
 z27:=Tryd.sizeOf42
 v27:=Tryd.zeroValue42
 t28:=Tryd.underlying43
 a28:=Tryd.isAgg43
 z28:=Tryd.sizeOf43
 v28:=Tryd.zeroValue43
 t33:=Tryd.underlying57
 a33:=Tryd.isAgg57
 z33:=Tryd.sizeOf57
 v33:=Tryd.zeroValue57 }
def sortedA_ren:Ren:=⟨fun | 6=>15 | 8=>24 | 9=>25 | 11=>31 | 13=>33 | 12=>32 | 23=>49 | 24=>50 | 14=>40 | 15=>41 | 16=>42 | 17=>43 | 18=>44 | 19=>45 | 20=>46 | 21=>47 | 22=>48 | 25=>56 | 26=>57 | 27=>58 | 28=>59 | 29=>60 | 30=>61 | 31=>66 | n=>n,fun | 26=>3 | 28=>43 | 24=>26 | 0=>0 | 3=>3 | 37=>81 | 48=>95 | 50=>68 | 4=>4 | 40=>89 | 39=>88 | 45=>24 | 5=>5 | 9=>9 | 51=>104 | 55=>107 | 57=>114 | 58=>115 | 33=>57 | n=>n,fun | n=>n⟩
theorem sortedA:SlLaysZI.n6 Tryd.prog sortedA_ren:={
 mixed:=by kernel_rfl
 f6:=⟨Tryd.f15.name,by decide,Tryd.func15.trans (congrArg some (by kernel_rfl))⟩
 f8:=⟨Tryd.f24.name,by decide,Tryd.func24.trans (congrArg some (by kernel_rfl))⟩
 f11:=⟨Tryd.f31.name,by decide,Tryd.func31.trans (congrArg some (by kernel_rfl))⟩
 t0:=Tryd.underlying0
 a0:=Tryd.isAgg0
 z0:=Tryd.sizeOf0
 v0:=Tryd.zeroValue0
 t24:=Tryd.underlying26
 a24:=Tryd.isAgg26
 z24:=Tryd.sizeOf26
 v24:=Tryd.zeroValue26
 t26:=Tryd.underlying3
 a26:=Tryd.isAgg3
 z26:=Tryd.sizeOf3
 v26:=Tryd.zeroValue3
 t28:=Tryd.underlying43
 a28:=Tryd.isAgg43
 z28:=Tryd.sizeOf43
 v28:=Tryd.zeroValue43
 i26:=by kernel_rfl }
def sortA_ren:Ren:=⟨fun | 5=>25 | 8=>33 | 7=>32 | 19=>49 | 20=>50 | 10=>40 | 11=>41 | 12=>42 | 13=>43 | 14=>44 | 15=>45 | 16=>46 | 17=>47 | 18=>48 | 30=>56 | 31=>57 | 32=>58 | 33=>59 | 34=>60 | 35=>61 | 40=>66 | n=>n,fun | 23=>26 | 25=>3 | 3=>3 | 32=>81 | 22=>26 | 0=>0 | 44=>95 | 46=>68 | 4=>4 | 36=>89 | 35=>88 | 41=>24 | 5=>5 | 9=>9 | 53=>104 | 57=>107 | 63=>114 | 64=>115 | n=>n,fun | n=>n⟩
theorem sortA:SlLaysM.n5 Tryd.prog sortA_ren:={
 mixed:=by kernel_rfl
 f5:=⟨Tryd.f25.name,by decide,Tryd.func25.trans (congrArg some (by kernel_rfl))⟩
 f7:=⟨Tryd.f32.name,by decide,Tryd.func32.trans (congrArg some (by kernel_rfl))⟩
 f8:=Tryd.func33.trans (congrArg some (by kernel_rfl))
 f10:=⟨Tryd.f40.name,by decide,Tryd.func40.trans (congrArg some (by kernel_rfl))⟩
 f11:=⟨Tryd.f41.name,by decide,Tryd.func41.trans (congrArg some (by kernel_rfl))⟩
 f12:=⟨Tryd.f42.name,by decide,Tryd.func42.trans (congrArg some (by kernel_rfl))⟩
 f13:=⟨Tryd.f43.name,by decide,Tryd.func43.trans (congrArg some (by kernel_rfl))⟩
 f14:=⟨Tryd.f44.name,by decide,Tryd.func44.trans (congrArg some (by kernel_rfl))⟩
 f15:=⟨Tryd.f45.name,by decide,Tryd.func45.trans (congrArg some (by kernel_rfl))⟩
 f16:=⟨Tryd.f46.name,by decide,Tryd.func46.trans (congrArg some (by kernel_rfl))⟩
 f17:=⟨Tryd.f47.name,by decide,Tryd.func47.trans (congrArg some (by kernel_rfl))⟩
 f18:=⟨Tryd.f48.name,by decide,Tryd.func48.trans (congrArg some (by kernel_rfl))⟩
 f19:=Tryd.func49.trans (congrArg some (by kernel_rfl))
 f20:=Tryd.func50.trans (congrArg some (by kernel_rfl))
 f30:=⟨Tryd.f56.name,by decide,Tryd.func56.trans (congrArg some (by kernel_rfl))⟩
 f31:=Tryd.func57.trans (congrArg some (by kernel_rfl))
 f32:=Tryd.func58.trans (congrArg some (by kernel_rfl))
 f33:=⟨Tryd.f59.name,by decide,Tryd.func59.trans (congrArg some (by kernel_rfl))⟩
 f34:=⟨Tryd.f60.name,by decide,Tryd.func60.trans (congrArg some (by kernel_rfl))⟩
 f35:=⟨Tryd.f61.name,by decide,Tryd.func61.trans (congrArg some (by kernel_rfl))⟩
 f40:=⟨Tryd.f66.name,by decide,Tryd.func66.trans (congrArg some (by kernel_rfl))⟩
 t0:=Tryd.underlying0
 a0:=Tryd.isAgg0
 z0:=Tryd.sizeOf0
 v0:=Tryd.zeroValue0
 t3:=Tryd.underlying3
 a3:=Tryd.isAgg3
 z3:=Tryd.sizeOf3
 v3:=Tryd.zeroValue3
 t4:=Tryd.underlying4
 a4:=Tryd.isAgg4
 z4:=Tryd.sizeOf4
 v4:=Tryd.zeroValue4
 t5:=Tryd.underlying5
 a5:=Tryd.isAgg5
 z5:=Tryd.sizeOf5
 v5:=Tryd.zeroValue5
 t9:=Tryd.underlying9
 a9:=Tryd.isAgg9
 z9:=Tryd.sizeOf9
 v9:=Tryd.zeroValue9
 t22:=Tryd.underlying26
 a22:=Tryd.isAgg26
 z22:=Tryd.sizeOf26
 v22:=Tryd.zeroValue26
 t23:=Tryd.underlying26
 a23:=Tryd.isAgg26
 z23:=Tryd.sizeOf26
 v23:=Tryd.zeroValue26
 t25:=Tryd.underlying3
 a25:=Tryd.isAgg3
 z25:=Tryd.sizeOf3
 v25:=Tryd.zeroValue3
 t32:=Tryd.underlying81
 a32:=Tryd.isAgg81
 z32:=Tryd.sizeOf81
 v32:=Tryd.zeroValue81
 t35:=Tryd.underlying88
 a35:=Tryd.isAgg88
 z35:=Tryd.sizeOf88
 v35:=Tryd.zeroValue88
 t36:=Tryd.underlying89
 a36:=Tryd.isAgg89
 z36:=Tryd.sizeOf89
 v36:=Tryd.zeroValue89
 t41:=Tryd.underlying24
 a41:=Tryd.isAgg24
 z41:=Tryd.sizeOf24
 v41:=Tryd.zeroValue24
 t44:=Tryd.underlying95
 a44:=Tryd.isAgg95
 z44:=Tryd.sizeOf95
 v44:=Tryd.zeroValue95
 t46:=Tryd.underlying68
 a46:=Tryd.isAgg68
 z46:=Tryd.sizeOf68
 v46:=Tryd.zeroValue68
 t53:=Tryd.underlying104
 a53:=Tryd.isAgg104
 z53:=Tryd.sizeOf104
 v53:=Tryd.zeroValue104
 t57:=Tryd.underlying107
 a57:=Tryd.isAgg107
 z57:=Tryd.sizeOf107
 v57:=Tryd.zeroValue107
 t63:=Tryd.underlying114
 a63:=Tryd.isAgg114
 z63:=Tryd.sizeOf114
 v63:=Tryd.zeroValue114
 t64:=Tryd.underlying115
 a64:=Tryd.isAgg115
 z64:=Tryd.sizeOf115
 v64:=Tryd.zeroValue115 }
theorem sortsA (m:Nat):AnyZI.SortsIn Tryd.prog sortedA_ren Fence.wide m :=
 ⟨fun blk off cap ss W hH hblk hsz=>callsIn_wide.2 (AnyM.slices_Sort_int sortA blk off cap ss W hH hblk hsz),fun p cap W=>callsIn_wide.2 (AnyM.slices_Sort_int_none sortA p cap W)⟩
theorem keysA_c:KeysC Tryd.prog 17 27 39:=fun mb w=>callsIn_wide.1 (AnyZI.keys_in keysA Fence.wide 5 trivial rfl mb w)
theorem keysA_s:SortedC Tryd.prog 15 27 3:=by
 intro b0 b1 c m w hM hW hb hl hcell hlt
 obtain ⟨D0,hown,hperm,hsz⟩:=ownsMap_of Tryd.underlying3 hM hW hb (Nat.le_trans hl (by decide))
 have hseq:SeqGives Fence.wide 2 Tryd.prog 27 #[.pointer (some ⟨b1,0,none⟩)] encZ (fun ss=>ss.Perm (intKeys D0)) (Maps.size D0) w :=
  AnyZI.keys_gives (ρ:=keysA_ren) { keysA with } Fence.wide _ trivial rfl (by omega) b1 b0 m.length D0 w hlt hcell hown
 have cS:=AnyZI.sorted_in sortedA Fence.wide 5 trivial trivial trivial trivial rfl (by omega) (sortsA _) (enters_of Tryd.func25 (by kernel_rfl) rfl) 27 #[.pointer (some ⟨b1,0,none⟩)] trivial (enters_of Tryd.func27 (by kernel_rfl) rfl) _ _ (by rw [hsz]; exact Nat.le_trans hl (by decide)) (by rw [hsz]; omega) _ hseq
 change CallsIn _ _ Tryd.prog 15 _ _ _ at cS
 refine Calls.mono (callsIn_wide.1 cS) ?_
 rintro e w' ⟨v,ss,rfl,hS,hrow,hnil,hbl⟩
 have hp:ss.Perm (m.map (·.1)):=hS.trans hperm
 have hz:sortZ (m.map (·.1))=ss.mergeSort (fun x y=>decide (x≤y)):=(mergeSort_of_perm_i hp).symm
 refine ⟨v,rfl,?_,?_,hbl⟩
 ·rw [hz,List.length_mergeSort]; exact hrow
 ·rw [hnil]
  constructor
  ·rintro rfl; rw [hz]; exact List.mergeSort_nil
  ·intro h
   rw [hz] at h
   have:=congrArg List.length h
   rw [List.length_mergeSort] at this
   exact List.length_eq_zero_iff.1 this
theorem keysB_c:KeysC Tryd.prog 16 26 36:=fun mb w=>callsIn_wide.1 (AnyZI.keys_in keysB Fence.wide 5 trivial rfl mb w)
theorem keysB_s:SortedC Tryd.prog 15 26 3:=by
 intro b0 b1 c m w hM hW hb hl hcell hlt
 obtain ⟨D0,hown,hperm,hsz⟩:=ownsMap_of Tryd.underlying3 hM hW hb (Nat.le_trans hl (by decide))
 have hseq:SeqGives Fence.wide 2 Tryd.prog 26 #[.pointer (some ⟨b1,0,none⟩)] encZ (fun ss=>ss.Perm (intKeys D0)) (Maps.size D0) w :=
  AnyZI.keys_gives (ρ:=keysB_ren) { keysB with } Fence.wide _ trivial rfl (by omega) b1 b0 m.length D0 w hlt hcell hown
 have cS:=AnyZI.sorted_in sortedA Fence.wide 5 trivial trivial trivial trivial rfl (by omega) (sortsA _) (enters_of Tryd.func25 (by kernel_rfl) rfl) 26 #[.pointer (some ⟨b1,0,none⟩)] trivial (enters_of Tryd.func26 (by kernel_rfl) rfl) _ _ (by rw [hsz]; exact Nat.le_trans hl (by decide)) (by rw [hsz]; omega) _ hseq
 change CallsIn _ _ Tryd.prog 15 _ _ _ at cS
 refine Calls.mono (callsIn_wide.1 cS) ?_
 rintro e w' ⟨v,ss,rfl,hS,hrow,hnil,hbl⟩
 have hp:ss.Perm (m.map (·.1)):=hS.trans hperm
 have hz:sortZ (m.map (·.1))=ss.mergeSort (fun x y=>decide (x≤y)):=(mergeSort_of_perm_i hp).symm
 refine ⟨v,rfl,?_,?_,hbl⟩
 ·rw [hz,List.length_mergeSort]; exact hrow
 ·rw [hnil]
  constructor
  ·rintro rfl; rw [hz]; exact List.mergeSort_nil
  ·intro h
   rw [hz] at h
   have:=congrArg List.length h
   rw [List.length_mergeSort] at this
   exact List.length_eq_zero_iff.1 this
end Go.Proofs.YtfijpjcmgakllaaDoor
end
section
namespace Go.Proofs.YtfijpjcmgakllaaDoor
open Go Go.Tum
set_option maxRecDepth 4000
theorem keysI_tr (G:IMap) (c:Nat):Tr Tryd.prog 17 [.map (some 0)] [.imap G c] (fun v K=>∃ i:Nat × Nat,True∧v=clo 27 1∧K=[.dead,boxB (imA G c) (·=i.1) i.1 i.2]):=Tr.keysI (by kernel_rfl) keysA_c
abbrev keysO (G:IMap):List Int:=sortZ (G.map (·.1))
theorem sortedI_tr (G:IMap) (c:Nat) (hb:∀ x∈G,(Lit.int .i64 x.1).wf=true) (hl:G.length≤1000) (i:Nat × Nat):Tr Tryd.prog 15 [clo 27 1] [.dead,boxB (imA G c) (·=i.1) i.1 i.2] (fun v K=>v=slB 2 G.length∧K=[.dead,boxB (imA G c) (·=i.1) i.1 i.2,rI (keysO G)]):=by
 have:=Tr.sortedK (P:=Tryd.prog) (f:=15) (A:=imA G c) (F:=(·=i.1)) (x:=.dead) (b0:=i.1) (b1:=i.2) (c:=c) (m:=mI G) (by kernel_rfl) keysA_s (fun w h=>h) (fun x hx=>by
  obtain ⟨y,hy,rfl⟩:=List.mem_map.1 hx
  exact hb y hy) (by simpa [mI] using hl)
 have e1:(mI G).length=G.length:=by simp [mI]
 have e2:(mI G).map (·.1)=G.map (·.1):=by simp [mI]
 rw [e1,e2] at this
 exact this
def wfE (es:List GE):Prop:=∀ e∈es,(Lit.int .i64 e.id).wf=true
structure SK1 (es:List GE) (o:IMap):Prop where
 len:o.length+unm es o≤es.length
 key:∀ x∈o,∃ e∈es,e.id=x.1
theorem SK1.step {es:List GE} {k:Nat} {s:IMap × List Int} (h:SK1 es s.1) (id:Int):SK1 es (stp es k s id).1:=by
 unfold stp
 cases hq:gfe es id with
 | none=>exact h
 | some e =>
  obtain ⟨he,rfl⟩:=gfe_some hq
  simp only
  split
  ·exact h
  ·rename_i hg
   have h1:=unm_put (k:=(k:Int)) (c:=s.1.length) he (by simpa using hg)
   have h2:=h.len
   refine ⟨by show (gput s.1 e.id (k:Int) s.1.length).length+unm es (gput s.1 e.id (k:Int) s.1.length)≤es.length; rw [gput_len]; omega,fun x hx=>?_⟩
   rcases List.mem_append.1 hx with hx | hx
   ·exact h.key x hx
   ·rw [List.mem_singleton] at hx; subst hx; exact ⟨e,he,rfl⟩
theorem SK1.fold {es:List GE} {k:Nat}:∀ (now:List Int) {s:IMap × List Int},SK1 es s.1→SK1 es (now.foldl (stp es k) s).1
 | [],_,h=>h
 | a::r,_,h=>SK1.fold r (h.step a)
theorem SK1.st (es:List GE) (roots:List Int):∀ k,SK1 es (st es roots k).1
 | 0=>⟨by show 0+_≤_; have:=unm_le es ([]:IMap); rw [Nat.zero_add]; exact this,fun x hx=>by cases hx⟩
 | k+1=>by
  have:=SK1.st es roots k
  exact SK1.fold _ (s:=((Go.Proofs.YtfijpjcmgakllaaDoor.st es roots k).1,[])) this
theorem farO_len (es:List GE) (roots:List Int):(farO es roots).length≤es.length:=by
 have:=(SK1.st es roots (stN es)).len
 unfold farO; omega
theorem farO_wf {es:List GE} (h:wfE es) (roots:List Int):∀ x∈farO es roots,(Lit.int .i64 x.1).wf=true:=fun x hx=>by
 obtain ⟨e,he,h1⟩:=(SK1.st es roots (stN es)).key x hx
 rw [← h1]; exact h e he
theorem fromG_tr (b0 c:Nat) (es:List GE) (hes:es.length≤20) (hx8:∀ e∈es,e.xs.length≤8) (hw:wfE es) (roots:List Int) (n:Nat) (hn:n≤1000) (hr:roots.length=n) :
  Tr Tryd.prog 8 [pp 0,slB 2 n] [gM 1,gB b0 es c,rI roots] (fun v K=>v=slB 3 (farO es roots).length∧K=[gM 1,gB b0 es c,rI roots,rI (keysO (farO es roots))]):=by
 have hF:=farG_tr b0 c es hes hx8 roots n hn hr
 have h1:=farO_len es roots
 have h2:=farO_wf hw roots
 generalize farO es roots=out at *
 have hK:=keysI_tr out out.length
 refine Tr.of row_reach_Graph_From_ok rfl ?_
 repeat' (first|refine qN ?_|refine dN ?_|refine d0 ?_|(refine cF [0,1,2] (hF) ?_; conv=>whnf)|refine aI (hn:=?_)|refine qR ?_|refine qS ?_|exact ⟨rfl,rfl⟩|fail)
 refine cX [3] hK (fun i _=>?_)
 conv=>whnf
 have hS:=sortedI_tr out out.length h2 (by omega) i
 repeat' (first|refine qN ?_|refine dN ?_|refine d0 ?_|(refine cF [3,4] (hS) ?_; conv=>whnf)|refine aI (hn:=?_)|refine qR ?_|refine qS ?_|exact ⟨rfl,rfl⟩|fail)
 exact L_ret (RetQ.pick [0,1,2,5] rfl rfl rfl rfl ⟨rfl,rfl⟩)
end Go.Proofs.YtfijpjcmgakllaaDoor
end
section
namespace Go.Proofs.YtfijpjcmgakllaaDoor
open Go Go.Tum
set_option maxRecDepth 4000
set_option maxHeartbeats 1000000 in
theorem same_tr (xs ys:List Int) (n m:Nat) (hx:xs.length=n) (hy:ys.length=m) (hn:n≤1000) (hm:m≤1000):Tr Tryd.prog 23 [slB 0 n,slB 1 m] [rI xs,rI ys] (fun v K=>v=.bool (decide (xs=ys))∧K=[rI xs,rI ys]):=by
 refine Tr.of row_tumbrelref21_Same_ok rfl ?_
 by_cases hnm:n=m
 ·subst hnm
  repeat' (first|refine qN ?_|refine dN ?_|refine dR ?_|refine d0 ?_|refine qB ?_|refine rT ?_|refine qT ?_|refine qU ?_|refine qL ?_|refine qK ?_|refine qF ?_|refine qE ?_|refine iF (fun h=>?_) (fun h=>?_)|refine aX ?_|refine aA ?_|refine aI (hn:=?_)|refine qR ?_|refine qS ?_|exact ⟨rfl,rfl⟩|fail)
  all_goals first | (exfalso; omega) | skip
  refine LWp.pick [0,1,11,12,13] [0,1] rfl rfl rfl (L_loop (fun q l L=>∃ i:Nat,q=n-i∧i≤n∧xs.take i=ys.take i∧l=[(0,slB 0 n),(1,slB 1 n),(11,slB 0 n),(12,.int .i64 n),(13,.int .i64 i)]∧L=[rI xs,rI ys]) n ⟨0,rfl,by omega,rfl,rfl,rfl⟩ ?_)
  rintro q _ _ ⟨i,rfl,hi,hall,rfl,rfl⟩
  first|refine L_seq (L_rs (S_done [] rfl (Nx.goL (iF (fun h=>L_skip (Nx.goL ?_)) (fun h=>L_exit ?_)))))|refine L_rs (S_done [] rfl (Nx.goL (L_seq (iF (fun h=>L_skip (Nx.goL ?_)) (fun h=>L_exit ?_)))))
  ·have hik:i<n:=by omega
   obtain ⟨x,hx1⟩:∃ x,xs[i]?=some x:=⟨_,List.getElem?_eq_getElem (by omega)⟩
   obtain ⟨y,hy1⟩:∃ y,ys[i]?=some y:=⟨_,List.getElem?_eq_getElem (by omega)⟩
   repeat' (first|refine qN ?_|refine dN ?_|refine d0 ?_|refine qB ?_|refine qT ?_|refine qU ?_|refine qL ?_|refine qK ?_|refine qF ?_|refine qE ?_|refine iF (fun h=>?_) (fun h=>?_)|refine aX ?_|refine S_Q [] rfl rfl (QY.ldI rfl rfl hx1) ?_|refine S_Q [] rfl rfl (QY.ldI rfl rfl hy1) ?_|refine aA ?_|refine aI (hn:=?_)|refine qR ?_|refine qS ?_|exact ⟨rfl,rfl⟩|fail)
   ·have hne:xs≠ys:=fun e=>by rw [e,hy1] at hx1; cases hx1; exact h rfl
    rw [decide_eq_false hne]
    exact L_ret (RetQ.pick [0,1] rfl rfl rfl rfl ⟨rfl,rfl⟩)
   ·obtain rfl:x=y:=by omega
    exact Nx.pick [0,1,11,12,13] [0,1] rfl rfl rfl ⟨n-(i+1),by omega,i+1,rfl,by omega,by rw [List.take_add_one,List.take_add_one,hx1,hy1,hall],rfl,rfl⟩
  ·refine Nx.goL ?_
   obtain rfl:i=n:=by omega
   rw [List.take_of_length_le (by omega),List.take_of_length_le (by omega)] at hall
   rw [decide_eq_true hall]
   repeat' (first|refine qN ?_|refine dN ?_|refine d0 ?_|refine qB ?_|refine qT ?_|refine qU ?_|refine qL ?_|refine qK ?_|refine qF ?_|refine qE ?_|refine iF (fun h=>?_) (fun h=>?_)|refine aX ?_|refine aA ?_|refine aI (hn:=?_)|refine qR ?_|refine qS ?_|exact ⟨rfl,rfl⟩|fail)
   exact L_ret (RetQ.pick [0,1] rfl rfl rfl rfl ⟨rfl,rfl⟩)
 ·have hne:xs≠ys:=fun e=>hnm (by rw [← hx,← hy,e])
  rw [decide_eq_false hne]
  repeat' (first|refine qN ?_|refine dN ?_|refine d0 ?_|refine qB ?_|refine qT ?_|refine qU ?_|refine qL ?_|refine qK ?_|refine qF ?_|refine qE ?_|refine iF (fun h=>?_) (fun h=>?_)|refine aX ?_|refine aA ?_|refine aI (hn:=?_)|refine qR ?_|refine qS ?_|exact ⟨rfl,rfl⟩|fail)
  all_goals first | (exfalso; omega)|exact L_ret (RetQ.pick [0,1] rfl rfl rfl rfl ⟨rfl,rfl⟩)
theorem info_int:(Tryd.prog.info? 3).map (fun i=>(i.zero,i.size,i.bytes))=some (some (.int .i64 0),1,8):=by kernel_rfl
theorem sort21:sortZ [2,1]=[1,2]:=by
 have hp:(sortZ [2,1]).Perm [1,2]:=(List.mergeSort_perm ..).trans (List.Perm.swap ..)
 have hs:(sortZ [2,1]).Pairwise (fun a b=>decide (a≤b)=true):=List.pairwise_mergeSort (fun a b c=>by simp only [decide_eq_true_eq]; omega) (fun a b=>by simp only [Bool.or_eq_true,decide_eq_true_eq]; omega) _
 refine hp.eq_of_pairwise (le:=fun a b:Int=>decide (a≤b)=true) (fun a b _ _ h1 h2=>?_) hs (by simp)
 simp only [decide_eq_true_eq] at h1 h2; omega
abbrev aE1 (p o c b:Nat) (z:Value):GE:=⟨1,[2,9],p,o,c,z,b⟩
abbrev aE2 (p o c b:Nat) (z:Value):GE:=⟨2,[1],p,o,c,z,b⟩
set_option maxHeartbeats 2000000 in
theorem awake_tr:Tr Tryd.prog 12 [] [] (fun v K=>v=.bool true∧K=[]):=by
 have hG:=gNew_tr
 obtain ⟨ii,hj,hy0,hy1,_⟩:=info_parts info_int
 have hU:=Tryd.underlying26
 refine Tr.of row_tumbrellaw21_awake_ok rfl ?_
 repeat' (first|refine qN ?_|refine dN ?_|refine d0 ?_|refine aI (hn:=?_)|refine sP 21 (fun h=>?_) (fun h=>?_)|refine sP 25 (fun h=>?_) (fun h=>?_)|refine qR ?_|refine qS ?_|exact ⟨rfl,rfl⟩|fail)
 refine cX [] hG (fun b0 _=>?_)
 conv=>whnf
 have hA1:=gAddO_tr 1 [2,9] 2 rfl (by decide) b0 0 []
 repeat' (first|refine qN ?_|refine dN ?_|refine d0 ?_|(refine eE rfl rfl (EW.into (EW.bsL (cs:=rowsC intC [2,9]) rfl hU hj hy0 hy1 (by decide) rfl (by kernel_rfl) rfl) (wk_new (b:=2) 1 rfl (by decide) (by decide) rfl)) ?_; conv=>whnf)|refine aI (hn:=?_)|refine sP 21 (fun h=>?_) (fun h=>?_)|refine sP 25 (fun h=>?_) (fun h=>?_)|refine qR ?_|refine qS ?_|exact ⟨rfl,rfl⟩|fail)
 refine cX [0,1,2] hA1 (fun e1 he1=>?_)
 conv=>whnf
 obtain ⟨id1,xs1,p1,o1,c1,z1,b1⟩:=e1
 obtain ⟨rfl,rfl⟩:=he1
 have hA2:=gAddO_tr 2 [1] 1 rfl (by decide) b0 1 [aE1 p1 o1 c1 0 z1]
 repeat' (first|refine qN ?_|refine dN ?_|refine d0 ?_|refine S_wk [] rfl (wk_new (b:=3) 1 rfl (List.cons_ne_nil _ _) (by decide) rfl) ?_|refine aI (hn:=?_)|refine sP 21 (fun h=>?_) (fun h=>?_)|refine sP 25 (fun h=>?_) (fun h=>?_)|refine qR ?_|refine qS ?_|exact ⟨rfl,rfl⟩|fail)
 refine cX [0,1,3] hA2 (fun e2 he2=>?_)
 conv=>whnf
 obtain ⟨id2,xs2,p2,o2,c2,z2,b2⟩:=e2
 obtain ⟨rfl,rfl⟩:=he2
 have h8:∀ e∈[aE1 p1 o1 c1 0 z1,aE2 p2 o2 c2 1 z2],e.xs.length≤8:=by
  intro e he
  rcases List.mem_cons.1 he with rfl | he
  ·show 2≤8; decide
  ·rw [List.mem_singleton.1 he]; show 1≤8; decide
 have hw:wfE [aE1 p1 o1 c1 0 z1,aE2 p2 o2 c2 1 z2]:=by
  intro e he
  rcases List.mem_cons.1 he with rfl | he
  ·rfl
  ·rw [List.mem_singleton.1 he]; rfl
 have hSt:=steps_tr b0 2 [aE1 p1 o1 c1 0 z1,aE2 p2 o2 c2 1 z2] (by show 2≤20; decide) h8 1 2
 have hFr:=fromG_tr b0 2 [aE1 p1 o1 c1 0 z1,aE2 p2 o2 c2 1 z2] (by show 2≤20; decide) h8 hw [2] 1 (by decide) rfl
 rw [show farO [aE1 p1 o1 c1 0 z1,aE2 p2 o2 c2 1 z2] [1]=[(1,0,0),(2,1,1)] from rfl,show gget [(1,0,0),(2,1,1)] 2=1 from rfl,show ghas [(1,0,0),(2,1,1)] 2=true from rfl] at hSt
 rw [show farO [aE1 p1 o1 c1 0 z1,aE2 p2 o2 c2 1 z2] [2]=[(2,0,0),(1,1,1)] from rfl,show keysO [(2,0,0),(1,1,1)]=[1,2] from sort21] at hFr
 have hSm:=same_tr [1,2] [1,2] 2 2 rfl rfl (by decide) (by decide)
 rw [decide_eq_true rfl] at hSm
 repeat' (first|refine qN ?_|refine dN ?_|refine d0 ?_|(refine cF [0,1] (hSt) ?_; conv=>whnf)|refine S_wk [] rfl (wk_new (b:=4) 1 rfl (List.cons_ne_nil _ _) (by decide) rfl) ?_|(refine cF [0,1,4] (hFr) ?_; conv=>whnf)|(refine eE rfl rfl (EW.into (EW.bsL (cs:=rowsC intC [1,2]) rfl hU hj hy0 hy1 (by decide) rfl (by kernel_rfl) rfl) (wk_new (b:=6) 1 rfl (by decide) (by decide) rfl)) ?_; conv=>whnf)|(refine cF [5,6] (hSm) ?_; conv=>whnf)|refine aI (hn:=?_)|refine sP 21 (fun h=>?_) (fun h=>?_)|refine sP 25 (fun h=>?_) (fun h=>?_)|refine qR ?_|refine qS ?_|exact ⟨rfl,rfl⟩|fail)
 exact L_ret (RetQ.pick [] rfl rfl rfl rfl ⟨rfl,rfl⟩)
end Go.Proofs.YtfijpjcmgakllaaDoor
end
section
namespace Go.Proofs.YtfijpjcmgakllaaDoor
open Go Go.Tum
set_option maxRecDepth 4000
theorem keysG_tr (b0 c:Nat) (es:List GE):Tr Tryd.prog 16 [.map (some 0)] [gB b0 es c] (fun v K=>∃ b1:Nat,True∧v=clo 26 1∧K=[adB b0,boxB (gA es c) (gF b0 es) b0 b1]):=Tr.keysG (by kernel_rfl) keysB_c
abbrev idsE (es:List GE):List Int:=sortZ (es.map (·.id))
theorem sortedG_tr (b0 b1 c:Nat) (es:List GE) (hb:wfE es) (hl:es.length≤1000):Tr Tryd.prog 15 [clo 26 1] [adB b0,boxB (gA es c) (gF b0 es) b0 b1] (fun v K=>v=slB 2 es.length∧K=[adB b0,boxB (gA es c) (gF b0 es) b0 b1,rI (idsE es)]):=by
 have:=Tr.sortedK (P:=Tryd.prog) (f:=15) (A:=gA es c) (F:=gF b0 es) (x:=adB b0) (b0:=b0) (b1:=b1) (c:=c) (m:=es.map ge) (by kernel_rfl) keysB_s (fun w h=>⟨h.1,h.2.1⟩) (fun x hx=>by
  obtain ⟨y,hy,rfl⟩:=List.mem_map.1 hx
  exact hb y hy) (by rw [List.length_map]; exact hl)
 have e1:(es.map ge).length=es.length:=List.length_map ..
 have e2:(es.map ge).map (·.1)=es.map (·.id):=by rw [List.map_map]; rfl
 rw [e1,e2] at this
 exact this
theorem nodes_tr (b0 c:Nat) (es:List GE) (hb:wfE es) (hl:es.length≤1000):Tr Tryd.prog 6 [pp 0] [gM 1,gB b0 es c] (fun v K=>v=slB 2 es.length∧K=[gM 1,gB b0 es c,rI (idsE es)]):=by
 have hK:=keysG_tr b0 c es
 refine Tr.of row_reach_Graph_Nodes_ok rfl ?_
 repeat' (first|refine qN ?_|refine dN ?_|refine d0 ?_|refine qT ?_|refine qU ?_|refine qL ?_|refine qK ?_|refine iF (fun h=>?_) (fun h=>?_)|refine aI (hn:=?_)|refine qR ?_|refine qS ?_|exact ⟨rfl,rfl⟩|fail)
 refine cX [1] hK (fun b1 _=>?_)
 conv=>whnf
 have hS:=sortedG_tr b0 b1 c es hb hl
 repeat' (first|refine qN ?_|refine dN ?_|refine d0 ?_|refine qT ?_|refine qU ?_|refine qL ?_|refine qK ?_|refine iF (fun h=>?_) (fun h=>?_)|(refine cF [1,2] (hS) ?_; conv=>whnf)|refine aI (hn:=?_)|refine qR ?_|refine qS ?_|exact ⟨rfl,rfl⟩|fail)
 refine LWp.wk (wk_unbox (i:=1) (j:=2) (by decide) rfl rfl) ?_
 exact L_ret (RetQ.pick [0,1,3] rfl rfl rfl rfl ⟨rfl,rfl⟩)
theorem keys_none:idsE []=[]:=List.mergeSort_nil
theorem keysO_none:keysO []=[]:=List.mergeSort_nil
theorem addN_tr (a b:Int):Tr Tryd.prog 4 [.pointer none,.int .i64 a,slB 0 1] [.cells 0 [.int .i64 b]] (fun v K=>v=.tuple ⟨[]⟩∧K=[.cells 0 [.int .i64 b]]):=by
 refine Tr.of row_reach_Graph_Add_ok rfl ?_
 repeat' (first|refine qN ?_|refine dN ?_|refine dR ?_|refine d0 ?_|refine rT ?_|refine qT ?_|refine qU ?_|refine qL ?_|refine qK ?_|refine iF (fun h=>?_) (fun h=>?_)|refine aI (hn:=?_)|refine qR ?_|refine qS ?_|exact ⟨rfl,rfl⟩|fail)
 exact RetQ.end [0] rfl rfl rfl rfl ⟨rfl,rfl⟩
theorem farN1_tr (a:Int) (n:Nat):Tr Tryd.prog 14 [.pointer none,slB 0 n] [.cells 0 [.int .i64 a]] (fun v K=>v=.map (some 1)∧K=[.cells 0 [.int .i64 a],.imap [] 0]):=by
 refine Tr.of row_reach_Graph_far_ok rfl ?_
 repeat' (first|refine qN ?_|refine dN ?_|refine d0 ?_|refine qB ?_|refine qT ?_|refine qU ?_|refine qL ?_|refine qK ?_|refine qF ?_|refine qE ?_|refine iF (fun h=>?_) (fun h=>?_)|refine aX ?_|(refine eE rfl rfl (EW.imake rfl) ?_; conv=>whnf)|refine aA ?_|refine aI (hn:=?_)|refine sP 49 (fun h=>?_) (fun h=>?_)|refine qR ?_|refine qS ?_|exact ⟨rfl,rfl⟩|fail)
 exact L_ret (RetQ.pick [0,1] rfl rfl rfl rfl ⟨rfl,rfl⟩)
theorem farN2_tr (a b:Int) (n:Nat):Tr Tryd.prog 14 [.pointer none,slB 0 n] [.cells 0 [.int .i64 a,.int .i64 b]] (fun v K=>v=.map (some 1)∧K=[.cells 0 [.int .i64 a,.int .i64 b],.imap [] 0]):=by
 refine Tr.of row_reach_Graph_far_ok rfl ?_
 repeat' (first|refine qN ?_|refine dN ?_|refine d0 ?_|refine qB ?_|refine qT ?_|refine qU ?_|refine qL ?_|refine qK ?_|refine qF ?_|refine qE ?_|refine iF (fun h=>?_) (fun h=>?_)|refine aX ?_|(refine eE rfl rfl (EW.imake rfl) ?_; conv=>whnf)|refine aA ?_|refine aI (hn:=?_)|refine sP 49 (fun h=>?_) (fun h=>?_)|refine qR ?_|refine qS ?_|exact ⟨rfl,rfl⟩|fail)
 exact L_ret (RetQ.pick [0,1] rfl rfl rfl rfl ⟨rfl,rfl⟩)
theorem stepsN_tr (a b:Int):Tr Tryd.prog 5 [.pointer none,.int .i64 a,.int .i64 b] [] (fun v K=>v=.tuple ⟨[.int .i64 0,.bool false]⟩∧K=[]):=by
 have hF:=farN1_tr a 1
 refine Tr.of row_reach_Graph_Steps_ok rfl ?_
 repeat' (first|refine qN ?_|refine dN ?_|refine d0 ?_|(refine cF [0] (hF) ?_; conv=>whnf)|refine S_Q [] rfl rfl (QY.igetok rfl (by kernel_rfl) rfl rfl rfl rfl rfl) ?_|refine aI (hn:=?_)|refine qR ?_|refine qS ?_|exact ⟨rfl,rfl⟩|fail)
 exact L_ret (RetQ.pick [] rfl rfl rfl rfl ⟨rfl,rfl⟩)
theorem nodesN_tr:Tr Tryd.prog 6 [.pointer none] [] (fun v K=>v=.slice none 0 0∧K=[]):=by
 refine Tr.of row_reach_Graph_Nodes_ok rfl ?_
 repeat' (first|refine qN ?_|refine dN ?_|refine dR ?_|refine d0 ?_|refine rT ?_|refine qT ?_|refine qU ?_|refine qL ?_|refine qK ?_|refine iF (fun h=>?_) (fun h=>?_)|refine aI (hn:=?_)|refine qR ?_|refine qS ?_|exact ⟨rfl,rfl⟩|fail)
theorem namesN_tr (a:Int):Tr Tryd.prog 7 [.pointer none,.int .i64 a] [] (fun v K=>v=.slice none 0 0∧K=[]):=by
 refine Tr.of row_reach_Graph_Names_ok rfl ?_
 repeat' (first|refine qN ?_|refine dN ?_|refine dR ?_|refine d0 ?_|refine rT ?_|refine qT ?_|refine qU ?_|refine qL ?_|refine qK ?_|refine iF (fun h=>?_) (fun h=>?_)|refine aI (hn:=?_)|refine qR ?_|refine qS ?_|exact ⟨rfl,rfl⟩|fail)
theorem fromN_tr (a b:Int) (n:Nat):Tr Tryd.prog 8 [.pointer none,slB 0 n] [.cells 0 [.int .i64 a,.int .i64 b]] (fun v K=>v=slB 1 0∧K=[.cells 0 [.int .i64 a,.int .i64 b],rI []]):=by
 have hF:=farN2_tr a b n
 have hK:=keysI_tr [] 0
 refine Tr.of row_reach_Graph_From_ok rfl ?_
 repeat' (first|refine qN ?_|refine dN ?_|refine d0 ?_|(refine cF [0] (hF) ?_; conv=>whnf)|refine aI (hn:=?_)|refine qR ?_|refine qS ?_|exact ⟨rfl,rfl⟩|fail)
 refine cX [1] hK (fun i _=>?_)
 conv=>whnf
 have hS:=sortedI_tr [] 0 (fun _ h=>by cases h) (by decide) i
 rw [keysO_none] at hS
 repeat' (first|refine qN ?_|refine dN ?_|refine d0 ?_|(refine cF [1,2] (hS) ?_; conv=>whnf)|refine aI (hn:=?_)|refine qR ?_|refine qS ?_|exact ⟨rfl,rfl⟩|fail)
 exact L_ret (RetQ.pick [0,3] rfl rfl rfl rfl ⟨rfl,rfl⟩)
theorem equal0_tr:Tr Tryd.prog 18 [.slice none 0 0,slB 0 0] [rI []] (fun v K=>v=.bool true∧K=[rI []]):=by
 refine Tr.of row_slices_Equal_int_int__ok rfl ?_
 repeat' (first|refine qN ?_|refine dN ?_|refine dR ?_|refine d0 ?_|refine qB ?_|refine rT ?_|refine qT ?_|refine qU ?_|refine qL ?_|refine qK ?_|refine qF ?_|refine qE ?_|refine iF (fun h=>?_) (fun h=>?_)|refine aX ?_|refine aA ?_|refine aI (hn:=?_)|refine qR ?_|refine qS ?_|exact ⟨rfl,rfl⟩|fail)
 all_goals first | (exfalso; omega) | skip
 refine LWp.pick [0,12,13] [0] rfl rfl rfl (L_loop (fun q l L=>l=[(0,.slice none 0 0),(12,.int .i64 0),(13,.int .i64 0)]∧L=[rI []]) 0 ⟨rfl,rfl⟩ ?_)
 rintro q _ _ ⟨rfl,rfl⟩
 first|refine L_seq (L_rs (S_done [] rfl (Nx.goL (iF (fun h=>L_skip (Nx.goL ?_)) (fun h=>L_exit ?_)))))|refine L_rs (S_done [] rfl (Nx.goL (L_seq (iF (fun h=>L_skip (Nx.goL ?_)) (fun h=>L_exit ?_)))))
 ·exfalso; omega
 ·refine Nx.goL ?_
  repeat' (first|refine qN ?_|refine dN ?_|refine d0 ?_|refine qB ?_|refine qT ?_|refine qU ?_|refine qL ?_|refine qK ?_|refine qF ?_|refine qE ?_|refine iF (fun h=>?_) (fun h=>?_)|refine aX ?_|refine aA ?_|refine aI (hn:=?_)|refine qR ?_|refine qS ?_|exact ⟨rfl,rfl⟩|fail)
  exact L_ret (RetQ.pick [0] rfl rfl rfl rfl ⟨rfl,rfl⟩)
theorem sameG_tr (b0:Nat):Tr Tryd.prog 9 [.pointer none,pp 0] [gM 1,gB b0 [] 0] (fun v K=>v=.bool true∧K=[gM 1,gB b0 [] 0]):=by
 have h1:=nodesN_tr
 have h2:=nodes_tr b0 0 [] (fun _ h=>by cases h) (by decide)
 rw [keys_none] at h2
 have h3:=equal0_tr
 refine Tr.of row_reach_Same_ok rfl ?_
 repeat' (first|refine qN ?_|refine dN ?_|refine dR ?_|refine d0 ?_|refine qB ?_|refine rT ?_|refine qT ?_|refine qU ?_|refine qL ?_|refine qK ?_|refine qF ?_|refine qE ?_|refine iF (fun h=>?_) (fun h=>?_)|refine aX ?_|(refine cF [] (h1) ?_; conv=>whnf)|(refine cF [0,1] (h2) ?_; conv=>whnf)|(refine cF [2] (h3) ?_; conv=>whnf)|refine aA ?_|refine aI (hn:=?_)|refine qR ?_|refine qS ?_|exact ⟨rfl,rfl⟩|fail)
 all_goals first | (exfalso; omega) | skip
 refine LWp.pick [0,15,16] [0,1] rfl rfl rfl (L_loop (fun q l L=>l=[(0,.pointer none),(15,.int .i64 0),(16,.int .i64 0)]∧L=[gM 1,gB b0 [] 0]) 0 ⟨rfl,rfl⟩ ?_)
 rintro q _ _ ⟨rfl,rfl⟩
 first|refine L_seq (L_rs (S_done [] rfl (Nx.goL (iF (fun h=>L_skip (Nx.goL ?_)) (fun h=>L_exit ?_)))))|refine L_rs (S_done [] rfl (Nx.goL (L_seq (iF (fun h=>L_skip (Nx.goL ?_)) (fun h=>L_exit ?_)))))
 ·exfalso; omega
 ·refine Nx.goL ?_
  repeat' (first|refine qN ?_|refine dN ?_|refine d0 ?_|refine qB ?_|refine qT ?_|refine qU ?_|refine qL ?_|refine qK ?_|refine qF ?_|refine qE ?_|refine iF (fun h=>?_) (fun h=>?_)|refine aX ?_|refine aA ?_|refine aI (hn:=?_)|refine qR ?_|refine qS ?_|exact ⟨rfl,rfl⟩|fail)
  exact L_ret (RetQ.pick [0,1] rfl rfl rfl rfl ⟨rfl,rfl⟩)
theorem allN_tr:Tr Tryd.prog 19 [.pointer none] [] (fun v K=>v=.slice none 0 0∧K=[]):=by
 refine Tr.of row_gheap_Heap_All_ok rfl ?_
 repeat' (first|refine qN ?_|refine dN ?_|refine dR ?_|refine d0 ?_|refine rT ?_|refine qT ?_|refine qU ?_|refine qL ?_|refine qK ?_|refine iF (fun h=>?_) (fun h=>?_)|refine aI (hn:=?_)|refine qR ?_|refine qS ?_|exact ⟨rfl,rfl⟩|fail)
theorem ofN_tr:Tr Tryd.prog 11 [.pointer none] [] (fun v K=>∃ b0:Nat,True∧v=pp 0∧K=[gM 1,gB b0 [] 0]):=by
 have hG:=gNew_tr
 have hA:=allN_tr
 refine Tr.of row_reach_Of_ok rfl ?_
 repeat' (first|refine qN ?_|refine dN ?_|refine d0 ?_|refine qB ?_|refine qT ?_|refine qU ?_|refine qL ?_|refine qK ?_|refine qF ?_|refine qE ?_|refine iF (fun h=>?_) (fun h=>?_)|refine aX ?_|refine aA ?_|refine aI (hn:=?_)|refine qR ?_|refine qS ?_|exact ⟨rfl,rfl⟩|fail)
 refine cX [] hG (fun b0 _=>?_)
 conv=>whnf
 repeat' (first|refine qN ?_|refine dN ?_|refine dR ?_|refine d0 ?_|refine qB ?_|refine rT ?_|refine qT ?_|refine qU ?_|refine qL ?_|refine qK ?_|refine qF ?_|refine qE ?_|refine iF (fun h=>?_) (fun h=>?_)|refine aX ?_|(refine cF [] (hA) ?_; conv=>whnf)|refine aA ?_|refine aI (hn:=?_)|refine qR ?_|refine qS ?_|exact ⟨rfl,rfl⟩|fail)
 refine LWp.pick [3,11,12] [0,1] rfl rfl rfl (L_loop (fun q l L=>l=[(3,pp 0),(11,.int .i64 0),(12,.int .i64 0)]∧L=[gM 1,gB b0 [] 0]) 0 ⟨rfl,rfl⟩ ?_)
 rintro q _ _ ⟨rfl,rfl⟩
 first|refine L_seq (L_rs (S_done [] rfl (Nx.goL (iF (fun h=>L_skip (Nx.goL ?_)) (fun h=>L_exit ?_)))))|refine L_rs (S_done [] rfl (Nx.goL (L_seq (iF (fun h=>L_skip (Nx.goL ?_)) (fun h=>L_exit ?_)))))
 ·exfalso; omega
 ·refine Nx.goL ?_
  repeat' (first|refine qN ?_|refine dN ?_|refine d0 ?_|refine qB ?_|refine qT ?_|refine qU ?_|refine qL ?_|refine qK ?_|refine qF ?_|refine qE ?_|refine iF (fun h=>?_) (fun h=>?_)|refine aX ?_|refine aA ?_|refine aI (hn:=?_)|refine qR ?_|refine qS ?_|exact ⟨rfl,rfl⟩|fail)
  exact L_ret (RetQ.pick [0,1] rfl rfl rfl rfl ⟨b0,trivial,rfl,rfl⟩)
end Go.Proofs.YtfijpjcmgakllaaDoor
end
section
namespace Go.Proofs.YtfijpjcmgakllaaDoor
open Go Go.Tum
set_option maxRecDepth 4000
theorem DoorH.tab {w:World} (h:DoorH (fun _=>False) w):TabOk Tryd.prog (fun _=>False) w:=fun g hg=>by
 obtain rfl:g=0:=Option.some.inj (hg.symm.trans (by kernel_rfl))
 exact ⟨h.1,h.2.1,h.2.2⟩
set_option maxHeartbeats 4000000 in
theorem ReachNil_tr (a b:Int):Tr Tryd.prog 3 [.int .i64 a,.int .i64 b] [] (fun v _=>v=.bool true):=by
 have hAd:=addN_tr a b
 have hSt:=stepsN_tr a b
 have hNo:=nodesN_tr
 have hNa:=namesN_tr a
 have hFr:=fromN_tr a b 2
 have hG:=gNew_tr
 have hOf:=ofN_tr
 have hAw:=awake_tr
 obtain ⟨ii,hj,hy0,hy1,_⟩:=info_parts info_int
 have hU:=Tryd.underlying26
 refine Tr.of row_tumbrellaw21_ReachNil_ok rfl ?_
 repeat' (first|refine qN ?_|refine dN ?_|refine d0 ?_|(refine cF [0] (hAd) ?_; conv=>whnf)|(refine cF [] (hSt) ?_; conv=>whnf)|(refine cF [] (hNo) ?_; conv=>whnf)|(refine cF [] (hNa) ?_; conv=>whnf)|(refine eE rfl rfl (EW.bsL (cs:=[.int .i64 a,.int .i64 b]) rfl hU hj hy0 hy1 (by decide) rfl (by kernel_rfl) rfl) ?_; conv=>whnf)|(refine cF [1] (hFr) ?_; conv=>whnf)|refine aI (hn:=?_)|refine sP 24 (fun h=>?_) (fun h=>?_)|refine sP 31 (fun h=>?_) (fun h=>?_)|refine sP 40 (fun h=>?_) (fun h=>?_)|refine sP 44 (fun h=>?_) (fun h=>?_)|refine sP 49 (fun h=>?_) (fun h=>?_)|refine sP 55 (fun h=>?_) (fun h=>?_)|refine qR ?_|refine qS ?_|exact ⟨rfl,rfl⟩|fail)
 all_goals first | (exfalso; omega) | skip
 repeat' (first|refine qN ?_|refine dN ?_|refine d0 ?_|refine aI (hn:=?_)|refine sP 24 (fun h=>?_) (fun h=>?_)|refine sP 31 (fun h=>?_) (fun h=>?_)|refine sP 40 (fun h=>?_) (fun h=>?_)|refine sP 44 (fun h=>?_) (fun h=>?_)|refine sP 49 (fun h=>?_) (fun h=>?_)|refine sP 55 (fun h=>?_) (fun h=>?_)|refine qR ?_|refine qS ?_|exact ⟨rfl,rfl⟩|fail)
 refine cX [] hG (fun b0 _=>?_)
 conv=>whnf
 have hS:=sameG_tr b0
 repeat' (first|refine qN ?_|refine dN ?_|refine d0 ?_|(refine cF [3,4] (hS) ?_; conv=>whnf)|refine aI (hn:=?_)|refine sP 24 (fun h=>?_) (fun h=>?_)|refine sP 31 (fun h=>?_) (fun h=>?_)|refine sP 40 (fun h=>?_) (fun h=>?_)|refine sP 44 (fun h=>?_) (fun h=>?_)|refine sP 49 (fun h=>?_) (fun h=>?_)|refine sP 55 (fun h=>?_) (fun h=>?_)|refine qR ?_|refine qS ?_|exact ⟨rfl,rfl⟩|fail)
 refine cX [] hOf (fun b1 _=>?_)
 conv=>whnf
 have hN:=nodes_tr b1 0 [] (fun _ h=>by cases h) (by decide)
 rw [keys_none] at hN
 repeat' (first|refine qN ?_|refine dN ?_|refine d0 ?_|(refine cF [5,6] (hN) ?_; conv=>whnf)|(refine cF [] (hAw) ?_; conv=>whnf)|refine aI (hn:=?_)|refine sP 24 (fun h=>?_) (fun h=>?_)|refine sP 31 (fun h=>?_) (fun h=>?_)|refine sP 40 (fun h=>?_) (fun h=>?_)|refine sP 44 (fun h=>?_) (fun h=>?_)|refine sP 49 (fun h=>?_) (fun h=>?_)|refine sP 55 (fun h=>?_) (fun h=>?_)|refine qR ?_|refine qS ?_|exact ⟨rfl,rfl⟩|fail)
 all_goals first | (exfalso; omega)|exact L_ret (RetQ.pick [] rfl rfl rfl rfl rfl)
theorem ReachNil_does (w:World) (hw:DoorH (fun _=>False) w) (a b:Int) :
  Does Tryd.prog 3 #[.int .i64 a,.int .i64 b] w fun v w'=>v=.bool true∧Fr (fun _=>False) w w' :=
 (ReachNil_tr a b).law (vs':=[.int .i64 a,.int .i64 b]) [] w rfl (fun x hx=>by cases hx) ⟨rfl,rfl,trivial⟩ (DoorH.tab hw)
end Go.Proofs.YtfijpjcmgakllaaDoor
end
