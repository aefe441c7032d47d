/-
  What the proof leans on, part 4: of the texts Join2, Lw, Ov, Lw2, Lw3, Lw4, Lw5, Lw6, Code, Tab, Lw9, Lw11, Lw13, Lw23, Lw17, Lw19, Lw20, Lw28.
-/
import Derived.Test.YthefbejopmbnbaaPkC
import Derived.Test.YthefbejopmbnbaaProg
set_option linter.unusedVariables false
set_option linter.unusedSimpArgs false
set_option linter.unusedSectionVars false
section
namespace Go.Tum
open Go
def inL (t:Nat):List Nat→Bool
 | []=>false
 | a::r=>bif Nat.beq a t then true else inL t r
def ExtD (dr:List Nat) (E E':Emb):Prop:=∀ (k:Nat) (r:Nat × Nat × Nat),inL k dr=false→E[k]?=some r→E'[k]?=some r
def nm0 (dr:List Nat):Value→Bool
 | .pointer (some a)=>(match a.spot with
  | none => !inL a.block dr
  | some _=>true)
 | .slice (some a) _ _=>(match a.spot with
  | none => !inL a.block dr
  | some _=>true)
 | .map (some b) => !inL b dr
 | _=>true
def nmS (dr:List Nat):Value→Bool
 | .func _ ⟨a⟩ ⟨c⟩=>a.all (nm0 dr) && c.all (nm0 dr)
 | v=>nm0 dr v
def nm1 (dr:List Nat):Value→Bool
 | .agg ⟨cs⟩=>cs.all (nmS dr)
 | v=>nmS dr v
def nmV (dr:List Nat):Value→Bool
 | .tuple ⟨vs⟩=>vs.all (nm1 dr)
 | v=>nm1 dr v
def nmB (dr:List Nat):LB→Bool
 | .cells _ vs=>vs.all (nmS dr)
 | .map m _=>m.all fun x=>nm1 dr x.1 && nm1 dr x.2.1
 | .iter (some b) _ _ _ => !inL b dr
 | _=>true
def nmE (dr:List Nat):Env→Bool
 | []=>true
 | (_,v)::r=>nmV dr v && nmE dr r
def nmT (dr:List Nat):Taken→Bool
 | []=>true
 | (_,_,l,v)::r=>nmE dr l && nmV dr v && nmT dr r
section
variable {E E':Emb} {dr:List Nat}
theorem S0.extD (h:ExtD dr E E') {v v':Value} (hn:nm0 dr v=true) (k:S0 E v v'):S0 E' v v':=by
 cases v <;> first|exact k | skip
 case pointer a =>
  cases a with
  | none=>exact k
  | some a=>rcases a with ⟨b,o,_ | s⟩ <;> first|exact k | (simp only [nm0,Bool.not_eq_true'] at hn; obtain ⟨a',h1,h2,r,h3,h4⟩:=k; exact ⟨a',h1,h2,r,h _ _ hn h3,h4⟩)
 case slice a n c =>
  cases a with
  | none=>exact k
  | some a=>rcases a with ⟨b,o,_ | s⟩ <;> first|exact k | (simp only [nm0,Bool.not_eq_true'] at hn; obtain ⟨h0,r,h1,h2⟩:=k; exact ⟨h0,r,h _ _ hn h1,h2⟩)
 case map a =>
  cases a with
  | none=>exact k
  | some a=>simp only [nm0,Bool.not_eq_true'] at hn; obtain ⟨r,h1,h2⟩:=k; exact ⟨r,h _ _ hn h1,h2⟩
theorem L2.monoM {R S:Value→Value→Prop} {p:Value→Bool} (h:∀ a b,p a=true→R a b→S a b):∀ {x y:List Value},x.all p=true→L2 R x y→L2 S x y
 | [],[],_,_=>trivial
 | a::r,b::s,hp,k=>by
  simp only [List.all_cons,Bool.and_eq_true] at hp
  exact ⟨h _ _ hp.1 k.1,L2.monoM h hp.2 k.2⟩
 | [],_::_,_,k=>k.elim
 | _::_,[],_,k=>k.elim
theorem SR.extD (h:ExtD dr E E') {v v':Value} (hn:nmS dr v=true) (k:SR E v v'):SR E' v v':=by
 cases v <;> first|exact k | skip
 case pointer a=>exact S0.extD h (v:=.pointer a) hn k
 case slice a n c=>exact S0.extD h (v:=.slice a n c) hn k
 case map a=>exact S0.extD h (v:=.map a) hn k
 case func f a c =>
  obtain ⟨a⟩:=a; obtain ⟨c⟩:=c; obtain ⟨a',c',h1,h2,h3⟩:=k
  simp only [nmS,Bool.and_eq_true] at hn
  exact ⟨a',c',h1,L2.monoM (p:=nm0 dr) (fun _ _ hp k=>S0.extD h hp k) hn.1 h2,L2.monoM (p:=nm0 dr) (fun _ _ hp k=>S0.extD h hp k) hn.2 h3⟩
theorem V1.extD (h:ExtD dr E E') {v v':Value} (hn:nm1 dr v=true) (k:V1 E v v'):V1 E' v v':=by
 cases v <;> first|exact k | skip
 case pointer a=>exact SR.extD h (v:=.pointer a) hn k
 case slice a n c=>exact SR.extD h (v:=.slice a n c) hn k
 case map a=>exact SR.extD h (v:=.map a) hn k
 case func f a c=>exact SR.extD h (v:=.func f a c) hn k
 case agg cs=>obtain ⟨cs⟩:=cs; obtain ⟨cs',h1,h2⟩:=k; exact ⟨cs',h1,L2.monoM (p:=nmS dr) (fun _ _ hp k=>SR.extD h hp k) hn h2⟩
theorem VR.extD (h:ExtD dr E E') {v v':Value} (hn:nmV dr v=true) (k:VR E v v'):VR E' v v':=by
 cases v <;> first|exact k | skip
 case pointer a=>exact V1.extD h (v:=.pointer a) hn k
 case slice a n c=>exact V1.extD h (v:=.slice a n c) hn k
 case map a=>exact V1.extD h (v:=.map a) hn k
 case func f a c=>exact V1.extD h (v:=.func f a c) hn k
 case agg cs=>exact V1.extD h (v:=.agg cs) hn k
 case tuple cs=>obtain ⟨cs⟩:=cs; obtain ⟨cs',h1,h2⟩:=k; exact ⟨cs',h1,L2.monoM (p:=nm1 dr) (fun _ _ hp k=>V1.extD h hp k) hn h2⟩
theorem nmE_get {dr:List Nat}:∀ {l:Env} {t:Nat} {v:Value},nmE dr l=true→eget l t=some v→nmV dr v=true
 | [],t,v,_,h=>by cases h
 | (k,u)::r,t,v,hn,h=>by
  simp only [nmE,Bool.and_eq_true] at hn
  rw [eget_cons] at h
  by_cases e:k=t
  ·rw [if_pos e] at h; cases h; exact hn.1
  ·rw [if_neg e] at h; exact nmE_get hn.2 h
theorem ER.extD (h:ExtD dr E E') {l l':Env} (hn:nmE dr l=true) (k:ER E l l'):ER E' l l':=fun t v ht=>let ⟨v',h1,h2⟩:=k t v ht; ⟨v',h1,h2.extD h (nmE_get hn ht)⟩
theorem M2.extD (h:ExtD dr E E'):∀ {m:List (Value × Value × Nat)} {es:List MapEntry},(m.all fun x=>nm1 dr x.1 && nm1 dr x.2.1)=true→M2 E m es→M2 E' m es
 | [],[],_,_=>trivial
 | _::_,_::_,hn,k=>by
  simp only [List.all_cons,Bool.and_eq_true] at hn
  exact ⟨⟨k.1.1.extD h hn.1.1,k.1.2.1.extD h hn.1.2,k.1.2.2⟩,k.2.extD h hn.2⟩
 | [],_::_,_,k=>k.elim
 | _::_,[],_,k=>k.elim
theorem LBis.extD {w:World} {r:Nat × Nat × Nat} {x:LB} (h:LBis E w r x) (hn:nmB dr x=true) (he:ExtD dr E E'):LBis E' w r x:=by
 cases x with
 | cells sz vs=>obtain ⟨cs,h1,h2,h3⟩:=h; exact ⟨cs,h1,L2.monoM (p:=nmS dr) (fun _ _ hp k=>SR.extD he hp k) hn h2,h3⟩
 | data vs=>exact h
 | bytes n x=>exact h
 | gro sz vs=>exact h
 | map m c=>obtain ⟨es,h1,h2⟩:=h; exact ⟨es,h1,h2.extD he hn⟩
 | iter m a b c =>
  obtain ⟨h0,es,h1,h2⟩:=h
  refine ⟨h0,es,h1,?_⟩
  cases m with
  | none=>exact h2
  | some b=>simp only [nmB,Bool.not_eq_true'] at hn; obtain ⟨q,h3,h4⟩:=h2; exact ⟨q,he _ _ hn h3,h4⟩
 | dead=>trivial
 | abs A F=>exact h
 | imap G c=>exact h
theorem TR.extD {P:Program} (h:ExtD dr E E'):∀ {T:Taken} {F:Facts},nmT dr T=true→TR P E T F→TR P E' T F
 | [],[],_,_=>trivial
 | (_,_,_,_)::_,(_,_)::_,hn,k=>by
  simp only [nmT,Bool.and_eq_true] at hn
  obtain ⟨h1,⟨l',v',h2,h3,h4⟩,h5⟩:=k
  exact ⟨h1,⟨l',v',h2,h3.extD h hn.1.1,h4.extD h hn.1.2⟩,h5.extD h hn.2⟩
 | [],_::_,_,k=>k.elim
 | _::_,[],_,k=>k.elim
end
def eset:Emb→List Nat→Emb→Emb
 | E,k::φ,x::r=>eset (E.set k x) φ r
 | E,_,_=>E
theorem eset_length:∀ (φ:List Nat) (E r:Emb),(eset E φ r).length=E.length
 | [],E,r=>by simp [eset]
 | k::φ,E,[]=>by simp [eset]
 | k::φ,E,x::r=>by simp only [eset]; rw [eset_length φ]; simp
theorem eset_other:∀ (φ:List Nat) (E r:Emb) (k:Nat),k∉φ→(eset E φ r)[k]?=E[k]?
 | [],E,r,k,_=>by simp [eset]
 | j::φ,E,[],k,_=>by simp [eset]
 | j::φ,E,x::r,k,h=>by
  simp only [List.mem_cons,not_or] at h
  simp only [eset]
  rw [eset_other φ _ r k h.2,List.getElem?_set,if_neg (fun e=>h.1 e.symm)]
theorem eset_at:∀ (φ:List Nat) (E r:Emb) (j k:Nat) (x:Nat × Nat × Nat),φ.Nodup→φ[j]?=some k→r[j]?=some x→k<E.length→(eset E φ r)[k]?=some x
 | [],E,r,j,k,x,_,h,_,_=>by simp at h
 | i::φ,E,[],j,k,x,_,_,h,_=>by simp at h
 | i::φ,E,y::r,0,k,x,hn,h1,h2,hk=>by
  simp at h1 h2; subst h1; subst h2
  simp only [eset]
  rw [eset_other φ _ r i (List.nodup_cons.1 hn).1,List.getElem?_set,if_pos rfl,if_pos hk]
 | i::φ,E,y::r,j+1,k,x,hn,h1,h2,hk=>by
  simp at h1 h2
  simp only [eset]
  exact eset_at φ _ r j k x (List.nodup_cons.1 hn).2 h1 h2 (by simpa using hk)
def dropped (keep:List Nat):Nat→List Nat→List Nat
 | _,[]=>[]
 | i,k::φ=>bif inL i keep then dropped keep (i+1) φ else k::dropped keep (i+1) φ
theorem inL_mem:∀ {t:Nat} {l:List Nat},inL t l=true↔t∈l
 | t,[]=>by simp [inL]
 | t,a::r=>by
  simp only [inL,List.mem_cons]
  cases h:Nat.beq a t
  ·have:¬ t=a:=by intro e; subst e; simp at h
   simp [this,inL_mem (l:=r)]
  ·have:=Nat.eq_of_beq_eq_true h
   simp [this]
theorem dropped_no {keep:List Nat}:∀ {φ:List Nat} {i j k:Nat},φ[j]?=some k→inL k (dropped keep i φ)=false→inL (i+j) keep=true
 | [],i,j,k,h,_=>by simp at h
 | a::φ,i,0,k,h,hd=>by
  simp at h; subst h
  simp only [dropped] at hd
  cases hk:inL i keep
  ·rw [hk] at hd; simp [inL] at hd
  ·rfl
 | a::φ,i,j+1,k,h,hd=>by
  simp at h
  simp only [dropped] at hd
  have hd':inL k (dropped keep (i+1) φ)=false:=by
   cases hk:inL i keep
   ·rw [hk] at hd
    simp only [cond_false,inL] at hd
    cases hq:Nat.beq a k
    ·rw [hq] at hd; exact hd
    ·rw [hq] at hd; cases hd
   ·rw [hk] at hd; exact hd
  have:=dropped_no h hd'
  rwa [show i+1+j=i+(j+1) by omega] at this
def nmL (dr φ:List Nat):Nat→LH→Bool
 | _,[]=>true
 | i,x::r=>(inL i φ || nmB dr x) && nmL dr φ (i+1) r
theorem nmL_ok {dr φ:List Nat}:∀ {L:LH} {i k:Nat} {x:LB},nmL dr φ i L=true→L[k]?=some x→i+k∉φ→nmB dr x=true
 | [],i,k,x,_,h,_=>by simp at h
 | y::r,i,0,x,h,hx,hn=>by
  simp at hx; subst hx
  simp only [nmL,Bool.and_eq_true,Bool.or_eq_true] at h
  rcases h.1 with h1 | h1
  ·exact absurd (inL_mem.1 h1) hn
  ·exact h1
 | y::r,i,k+1,x,h,hx,hn=>by
  simp at hx
  simp only [nmL,Bool.and_eq_true] at h
  exact nmL_ok h.2 hx (by rwa [show i+1+k=i+(k+1) by omega])
theorem Rep.joinW {X:Nat→Prop} {w0 w w':World} {E E1:Emb} {M L L1:LH} {φ keep:List Nat} (hp:Part φ M L) (h:Rep X w0 E M w) (hx:∀ k r,inL k keep=true→(subE E φ)[k]?=some r→E1[k]?=some r) (hlen1:L.length≤L1.length) (hm:nmL (dropped keep 0 φ) φ 0 M=true)
  (h1:Rep (footL (subE E φ) L) w E1 L1 w') :
  ∃ E',ExtD (dropped keep 0 φ) E E'∧Into E1 E' (M.length+L1.length) (phi2 φ M.length L1)∧Rep X w0 E' (joinL φ M L1) w':=by
 have hL1:φ.length≤L1.length:=by rw [hp.len]; exact hlen1
 have hE1:φ.length≤E1.length:=by rw [h1.len]; exact hL1
 have atφ:∀ (j k:Nat),φ[j]?=some k→∃ r,E[k]?=some r∧(subE E φ)[j]?=some r∧k<M.length:=by
  intro j k hj
  have hjl:j<L.length:=by rw [← hp.len]; exact (List.getElem?_eq_some_iff.1 hj).1
  obtain ⟨k',hk',hM⟩:=hp.blk j _ (List.getElem?_eq_getElem hjl)
  rw [hj] at hk'; cases hk'
  obtain ⟨r,hr⟩:=h.ent hM
  exact ⟨r,hr,by simp [subE,hj,hr],(List.getElem?_eq_some_iff.1 hM).1⟩
 let E':=eset E φ E1++E1.drop φ.length
 have hlenE:(eset E φ E1).length=M.length:=by rw [eset_length,h.len]
 have old:∀ k,k<M.length→E'[k]?=(eset E φ E1)[k]?:=fun k hk=>by
  show (eset E φ E1++E1.drop φ.length)[k]?=_
  rw [List.getElem?_append_left (by rw [hlenE]; exact hk)]
 have atφ':∀ (j k:Nat) (r:Nat × Nat × Nat),φ[j]?=some k→E1[j]?=some r→E'[k]?=some r:=by
  intro j k r hj hr
  obtain ⟨_,_,_,hk⟩:=atφ j k hj
  rw [old k hk]
  exact eset_at φ E E1 j k r hp.nodup hj hr (by rw [h.len]; exact hk)
 have hEE:ExtD (dropped keep 0 φ) E E':=by
  intro k r hn hk
  have hkl:k<M.length:=by rw [← h.len]; exact (List.getElem?_eq_some_iff.1 hk).1
  by_cases hmem:k∈φ
  ·obtain ⟨j,hj⟩:=List.getElem?_of_mem hmem
   obtain ⟨r',e1,e2,_⟩:=atφ j k hj
   rw [hk] at e1; cases e1
   have:=dropped_no hj hn
   rw [Nat.zero_add] at this
   exact atφ' j k r hj (hx j r this e2)
  ·rw [old k hkl,eset_other φ E E1 k hmem]; exact hk
 have hnew:∀ (i:Nat),E'[M.length+i]?=E1[φ.length+i]?:=by
  intro i
  show (eset E φ E1++E1.drop φ.length)[M.length+i]?=_
  rw [List.getElem?_append_right (by rw [hlenE]; omega),hlenE,List.getElem?_drop]
  congr 1; omega
 have rnv:∀ (b:Nat),b<L1.length→(b<φ.length∧φ[b]?=some (rn (M.length+L1.length) (phi2 φ M.length L1) b))∨(φ.length≤b∧rn (M.length+L1.length) (phi2 φ M.length L1) b=M.length+(b-φ.length)):=by
  intro b hb
  unfold rn phi2
  rcases Nat.lt_or_ge b φ.length with hlt | hge
  ·left
   refine ⟨hlt,?_⟩
   rw [List.getElem?_append_left hlt,List.getElem?_eq_getElem hlt]
   rfl
  ·right
   refine ⟨hge,?_⟩
   rw [List.getElem?_append_right hge,seqN_get _ _ _ (by omega)]
   rfl
 have hinto:Into E1 E' (M.length+L1.length) (phi2 φ M.length L1):=by
  intro b r hb
  have hbl:b<L1.length:=by rw [← h1.len]; exact (List.getElem?_eq_some_iff.1 hb).1
  rcases rnv b hbl with ⟨hlt,hφ⟩ | ⟨hge,hφ⟩
  ·exact atφ' b _ r hφ hb
  ·rw [hφ,hnew]
   rw [show φ.length+(b-φ.length)=b by omega]; exact hb
 have hlenJ:(joinL φ M L1).length=M.length+(L1.length-φ.length):=by
  unfold joinL
  simp only [List.length_append,jset_length,List.length_map,List.length_drop]
 have cut:∀ (k:Nat) (z:LB) (r:Nat × Nat × Nat),(joinL φ M L1)[k]?=some z→E'[k]?=some r →
   (∃ j x,L1[j]?=some x∧E1[j]?=some r∧z=rnB (M.length+L1.length) (phi2 φ M.length L1) x∧k=rn (M.length+L1.length) (phi2 φ M.length L1) j)∨(k∉φ∧M[k]?=some z∧E[k]?=some r):=by
  intro k z r hz hr
  unfold joinL at hz
  rcases Nat.lt_or_ge k M.length with hlt | hge
  ·rw [List.getElem?_append_left (by rw [jset_length]; exact hlt)] at hz
   rw [old k hlt] at hr
   by_cases hmm:k∈φ
   ·left
    obtain ⟨j,hj⟩:=List.getElem?_of_mem hmm
    have hjφ:=(List.getElem?_eq_some_iff.1 hj).1
    have hjl:j<L1.length:=by omega
    have hje:j<E1.length:=by omega
    refine ⟨j,L1[j],List.getElem?_eq_getElem hjl,?_,?_,?_⟩
    ·have:=eset_at φ E E1 j k E1[j] hp.nodup hj (List.getElem?_eq_getElem hje) (by rw [h.len]; exact hlt)
     rw [this] at hr; cases hr
     exact List.getElem?_eq_getElem hje
    ·have:=jset_at φ M ((L1.take φ.length).map (rnB (M.length+L1.length) (phi2 φ M.length L1))) j k (rnB (M.length+L1.length) (phi2 φ M.length L1) L1[j]) hp.nodup hj (by simp [hjφ,hjl]) hlt
     rw [this] at hz; cases hz; rfl
    ·rcases rnv j hjl with ⟨_,e⟩ | ⟨e,_⟩
     ·rw [hj] at e; cases e; rfl
     ·omega
   ·right
    rw [jset_other φ M _ k hmm] at hz
    rw [eset_other φ E E1 k hmm] at hr
    exact ⟨hmm,hz,hr⟩
  ·left
   rw [List.getElem?_append_right (by rw [jset_length]; exact hge),jset_length] at hz
   simp only [List.getElem?_map,List.getElem?_drop] at hz
   cases hq:L1[φ.length+(k-M.length)]? with
   | none=>rw [hq] at hz; cases hz
   | some x =>
    rw [hq] at hz; cases hz
    have hjl:=(List.getElem?_eq_some_iff.1 hq).1
    refine ⟨φ.length+(k-M.length),x,hq,?_,rfl,?_⟩
    ·have:=hnew (k-M.length)
     rw [show M.length+(k-M.length)=k by omega] at this
     rw [← this]; exact hr
    ·rcases rnv _ hjl with ⟨e,_⟩ | ⟨_,e⟩
     ·omega
     ·rw [e]; omega
 have own:∀ b,footL (subE E φ) L b→∃ k x r,k∈φ∧M[k]?=some x∧E[k]?=some r∧foot r x b:=by
  rintro b ⟨k,x,r,hx,hr,hf⟩
  obtain ⟨j,hj,hM⟩:=hp.blk k x hx
  obtain ⟨r',e1,e2,_⟩:=atφ k j hj
  rw [hr] at e2; cases e2
  exact ⟨j,_,r,List.mem_of_getElem? hj,hM,e1,by rw [foot_rn]; exact hf⟩
 have hbsize:w.heap.size≤w'.heap.size:=h1.fr.size
 refine ⟨E',hEE,hinto,⟨h.fr.trans h1.fr fun b hb hf=>?_,?_,fun k z r hz hr b hf=>?_,fun k z r hz hr=>?_,fun k k' z z' r r' b hz hz' hr hr' hf hf'=>?_⟩⟩
 ·obtain ⟨k,x,r,_,hM,hE,hf⟩:=own b hf
  rcases (h.rng k x r hM hE b hf).1 with h2 | h2
  ·omega
  ·exact h2
 ·show (eset E φ E1++E1.drop φ.length).length=_
  rw [hlenJ,List.length_append,List.length_drop,hlenE,h1.len]
 ·rcases cut k z r hz hr with ⟨j,x,hx',hr1,rfl,_⟩ | ⟨_,hM,hE⟩
  ·rw [foot_rn] at hf
   have:=h1.rng j x r hx' hr1 b hf
   refine ⟨?_,this.2⟩
   rcases this.1 with h2 | h2
   ·have:=h.fr.size; exact .inl (by omega)
   ·obtain ⟨k2,x2,r2,_,hM2,hE2,hf2⟩:=own b h2
    exact (h.rng k2 x2 r2 hM2 hE2 b hf2).1
  ·have:=h.rng k z r hM hE b hf
   exact ⟨this.1,by omega⟩
 ·rcases cut k z r hz hr with ⟨j,x,hx',hr1,rfl,_⟩ | ⟨hmm,hM,hE⟩
  ·exact (h1.blk j x r hx' hr1).into hinto
  ·refine LBis.extD ((h.blk k z r hM hE).fr h1.fr (fun b hb=>(h.rng k z r hM hE b hb).2) fun b hb hf=>?_) (nmL_ok hm hM (by rw [Nat.zero_add]; exact hmm)) hEE
   obtain ⟨k2,x2,r2,hm2,hM2,hE2,hf2⟩:=own b hf
   have:=h.inj k k2 z x2 r r2 b hM hM2 hE hE2 hb hf2
   subst this; exact hmm hm2
 ·have mixed:∀ (j:Nat) (x:LB) (r1:Nat × Nat × Nat) (k:Nat) (z:LB) (r2:Nat × Nat × Nat),L1[j]?=some x→E1[j]?=some r1→foot r1 x b→k∉φ→M[k]?=some z→E[k]?=some r2→foot r2 z b→False:=by
   intro j x r1 k z r2 hx' hr1 hf1 hmm hM hE hf2
   rcases (h1.rng j x r1 hx' hr1 b hf1).1 with h2 | h2
   ·have:=(h.rng k z r2 hM hE b hf2).2; omega
   ·obtain ⟨k2,x2,r3,hm2,hM2,hE2,hf3⟩:=own b h2
    have:=h.inj k k2 z x2 r2 r3 b hM hM2 hE hE2 hf2 hf3
    subst this; exact hmm hm2
  rcases cut k z r hz hr with ⟨j,x,hx',hr1,rfl,hk⟩ | ⟨hmm,hM,hE⟩
  ·rw [foot_rn] at hf
   rcases cut k' z' r' hz' hr' with ⟨j',x',hx2,hr2,rfl,hk'⟩ | ⟨hm',hM',hE'⟩
   ·rw [foot_rn] at hf'
    have:=h1.inj j j' x x' r r' b hx' hx2 hr1 hr2 hf hf'
    subst this; rw [hk,hk']
   ·exact (mixed j x r k' z' r' hx' hr1 hf hm' hM' hE' hf').elim
  ·rcases cut k' z' r' hz' hr' with ⟨j',x',hx2,hr2,rfl,hk'⟩ | ⟨hm',hM',hE'⟩
   ·rw [foot_rn] at hf'
    exact (mixed j' x' r' k z r hx2 hr2 hf' hmm hM hE hf).elim
   ·exact h.inj k k' z z' r r' b hM hM' hE hE' hf hf'
end Go.Tum
end
section
namespace Go.Tum
open Go
inductive AV where
 | v (u:Value)
 | s (a:Addr) (n c m:Nat) (get:Nat→AV)
def AV.is (X:Nat→Prop) (w0:World):AV→Value→Prop
 | .v u,x=>x=u
 | .s a n c m get,x=>(x=.slice (some ⟨a.block,a.off,none⟩) n c∨(n=0∧c=0∧∃ a',x=.slice a' 0 0))∧(0<m→a.block<w0.heap.size∧¬ X a.block∧∀ i,i<m→∃ y,w0.cell? ⟨a.block,a.off+i,none⟩=some y∧(get i).is X w0 y)
abbrev Args:=List (Nat × Nat × (Nat→AV))
def ArgAt (X:Nat→Prop) (w0:World) (E0:Emb) (k m:Nat) (get:Nat→AV):Prop :=
 0<m→∃ r,E0[k]?=some r∧r.1<w0.heap.size∧¬ X r.1∧∀ i,i<m→∃ y,w0.cell? ⟨r.1,r.2.1+i,none⟩=some y∧(get i).is X w0 y
structure NA where
 n:Nat
 A:Args
 /-- the names that must stay what they are -/
 keep:List Nat
def tabTz:List Int:=[0,1,56,2,57,49,28,3,61,58,42,50,38,29,17,4,62,47,59,36,45,43,51,22,53,39,33,30,24,18,12,5,63,55,48,27,60,41,37,16,46,35,44,21,52,32,23,11,54,26,40,15,34,20,31,10,25,14,19,9,13,8,7,6]
def tabG (P:Program):Option Nat:=P.globalNamed "math/bits.deBruijn64tab"
def TabOk (P:Program) (X:Nat→Prop) (w:World):Prop:=∀ g,tabG P=some g→(∀ (i:Nat) (x:Int),tabTz[i]?=some x→w.cell? ⟨g,i,none⟩=some (.int .u8 x))∧¬ X g∧g<w.heap.size
theorem TabOk.none {P:Program} {X:Nat→Prop} {w:World} (h:tabG P=Option.none):TabOk P X w:=fun g hg=>by rw [h] at hg; cases hg
def NA.Ok (n0:NA) (P:Program) (X:Nat→Prop) (w0:World) (E0:Emb):Prop:=E0.length=n0.n∧(∀ x∈n0.A,inL x.1 n0.keep=true∧ArgAt X w0 E0 x.1 x.2.1 x.2.2)∧TabOk P X w0
def NA.Ext (n0:NA) (E0 E:Emb):Prop:=∀ (k:Nat) (r:Nat × Nat × Nat),inL k n0.keep=true→E0[k]?=some r→E[k]?=some r
theorem NA.Ext.trans {n0:NA} {E0 E E1:Emb} (h:n0.Ext E0 E) (k:Tum.Ext E E1):n0.Ext E0 E1:=fun i r hi hr=>k i r (h i r hi hr)
theorem NA.Ext.refl (n0:NA) (E:Emb):n0.Ext E E:=fun _ _ _ h=>h
def keepOk (sel:List Nat):List Nat→Bool
 | []=>true
 | k::ks=>(match sel[k]? with
  | some j=>Nat.beq j k
  | none=>false) && keepOk sel ks
theorem keepOk_ok {sel:List Nat}:∀ {ks:List Nat} {k:Nat},keepOk sel ks=true→inL k ks=true→sel[k]?=some k
 | [],k,_,h=>by cases h
 | a::ks,k,h,hk=>by
  simp only [keepOk,Bool.and_eq_true] at h
  simp only [inL] at hk
  cases hq:Nat.beq a k
  ·rw [hq] at hk; exact keepOk_ok h.2 hk
  ·have:=Nat.eq_of_beq_eq_true hq
   subst this
   have h1:=h.1
   split at h1
   ·rename_i j hj; rw [hj,Nat.eq_of_beq_eq_true h1]
   ·cases h1
theorem NA.Ext.sub {n0:NA} {E0 E:Emb} {sel:List Nat} (h:n0.Ext E0 E) (hs:keepOk sel n0.keep=true):n0.Ext E0 (subE E sel):=by
 intro k r hk hr
 have h1:=keepOk_ok hs hk
 have h2:=h k r hk hr
 simp [subE,h1,h2]
def Fin (n0:NA) (X:Nat→Prop) (w0:World) (E0:Emb) (Q:Env→LH→Prop) (l':Env) (w:World):Prop:=∃ E l L,n0.Ext E0 E∧Rep X w0 E L w∧ER E l l'∧Q l L
structure LWp (P:Program) (n0:NA) (m:MC) (Q:Exit→Env→LH→Prop) (l:Env) (L:LH):Prop where
 go:∀ (X:Nat→Prop) (w0:World) (E0:Emb) (w:World) (E:Emb) (l':Env),n0.Ok P X w0 E0→n0.Ext E0 E→Rep X w0 E L w→ER E l l'→MWp P m (fun e=>Fin n0 X w0 E0 (Q e)) l' w
structure LSt (P:Program) (n0:NA) (ss:List Step) (K:Env→LH→Prop) (l:Env) (T:Taken) (L:LH):Prop where
 go:∀ (X:Nat→Prop) (w0:World) (E0:Emb) (w:World) (E:Emb) (l':Env) (F:Facts),n0.Ok P X w0 E0→n0.Ext E0 E→Rep X w0 E L w→ER E l l'→TR P E T F→stepsWp P ss (Fin n0 X w0 E0 K) l' F w
def Nx (n0:NA) (k:Env→LH→Prop) (l:Env) (L:LH):Prop :=
 ∀ (X:Nat→Prop) (w0:World) (E0:Emb) (w:World) (E:Emb) (l':Env),n0.Ext E0 E→Rep X w0 E L w→ER E l l'→∃ l'',Sub l'' l'∧Fin n0 X w0 E0 k l'' w
abbrev thenL (next:Env→LH→Prop) (Q:Exit→Env→LH→Prop):Exit→Env→LH→Prop
 | .normal,l,L=>next l L
 | e,l,L=>Q e l L
abbrev blkL (id:Nat) (Q:Exit→Env→LH→Prop):Exit→Env→LH→Prop
 | .exit id',l,L=>if id'=id then Q .normal l L else Q (.exit id') l L
 | e,l,L=>Q e l L
section
variable {P:Program} {n0:NA} {Q:Exit→Env→LH→Prop} {K:Env→LH→Prop} {l:Env} {L:LH} {T:Taken}
theorem Nx.go {k:Env→LH→Prop} (h:k l L):Nx n0 k l L:=fun _ _ _ _ E l' hE hR hl=>⟨l',Sub.refl _,E,l,L,hE,hR,hl,h⟩
theorem Nx.pickN {k:Env→LH→Prop} {l1:Env} {L1:LH} (ks sel:List Nat) (g0:keepOk sel n0.keep=true) (g1:letGoE sel L (repick l ks)=some l1) (g2:letGo sel L=some L1) (h:Nx n0 k l1 L1):Nx n0 k l L:=by
 intro X w0 E0 w E l' hE hR hl
 obtain ⟨l2,h5,h6⟩:=repick_ok hl ks
 obtain ⟨l3,h7,h8⟩:=h X w0 E0 w (subE E sel) l2 (hE.sub g0) (letGo_ok g2 hR) (letGoE_ok g1 hR h6)
 exact ⟨l3,fun t v ht=>h5 t v (h7 t v ht),h8⟩
theorem Nx.pick {k:Env→LH→Prop} {l1:Env} {L1:LH} (ks sel:List Nat) (h0:keepOk sel n0.keep=true) (h1:letGoE sel L (repick l ks)=some l1) (h2:letGo sel L=some L1) (h:k l1 L1):Nx n0 k l L:=Nx.pickN ks sel h0 h1 h2 (Nx.go h)
theorem Nx.fin {k:Env→LH→Prop} {X:Nat→Prop} {w0 w:World} {E0 E:Emb} {l':Env} (h:Nx n0 k l L) (hE:n0.Ext E0 E) (hR:Rep X w0 E L w) (hl:ER E l l'):∃ l'',Sub l'' l'∧Fin n0 X w0 E0 k l'' w:=h X w0 E0 w E l' hE hR hl
theorem LWp.pick {m:MC} {l1:Env} {L1:LH} (ks sel:List Nat) (g0:keepOk sel n0.keep=true) (g1:letGoE sel L (repick l ks)=some l1) (g2:letGo sel L=some L1) (h:LWp P n0 m Q l1 L1):LWp P n0 m Q l L :=
 ⟨fun X w0 E0 w E l' h0 hE hR hl=>h.go X w0 E0 w (subE E sel) l' h0 (hE.sub g0) (letGo_ok g2 hR) (letGoE_ok g1 hR (hl.repick ks))⟩
theorem L_skip (h:Q .normal l L):LWp P n0 .skip Q l L:=⟨fun _ _ _ _ E _ _ hE hR hl=>⟨E,l,L,hE,hR,hl,h⟩⟩
theorem L_ret (h:Q .ret l L):LWp P n0 .ret Q l L:=⟨fun _ _ _ _ E _ _ hE hR hl=>⟨E,l,L,hE,hR,hl,h⟩⟩
theorem L_exit {id:Nat} (h:Q (.exit id) l L):LWp P n0 (.exit id) Q l L:=⟨fun _ _ _ _ E _ _ hE hR hl=>⟨E,l,L,hE,hR,hl,h⟩⟩
theorem L_reg {ss:List Step} (h:LSt P n0 ss (Q .normal) l [] L):LWp P n0 (.reg ss) Q l L:=⟨fun X w0 E0 w E l' h0 hE hR hl=>h.go X w0 E0 w E l' [] h0 hE hR hl trivial⟩
theorem L_seq {a b:MC} (h:LWp P n0 a (thenL (Nx n0 (LWp P n0 b Q)) Q) l L):LWp P n0 (.seq a b) Q l L:=by
 refine ⟨fun X w0 E0 w E l' h0 hE hR hl=>?_⟩
 refine MWp.mono a (fun e l1 w1 hf=>?_) (h.go X w0 E0 w E l' h0 hE hR hl)
 obtain ⟨E1,l2,L2,k1,k2,k3,k4⟩:=hf
 cases e with
 | normal =>
  obtain ⟨l3,h3,E3,l4,L4,g1,g2,g3,g4⟩:=Nx.fin k4 k1 k2 k3
  exact ⟨l3,h3,g4.go X w0 E0 w1 E3 l3 h0 g1 g2 g3⟩
 | ret=>exact ⟨E1,l2,L2,k1,k2,k3,k4⟩
 | exit i=>exact ⟨E1,l2,L2,k1,k2,k3,k4⟩
 | goto i=>exact ⟨E1,l2,L2,k1,k2,k3,k4⟩
 | panic c=>exact ⟨E1,l2,L2,k1,k2,k3,k4⟩
 | outgrown=>exact ⟨E1,l2,L2,k1,k2,k3,k4⟩
theorem L_rs {ss:List Step} {b:MC} (h:LSt P n0 ss (Nx n0 (LWp P n0 b Q)) l [] L):LWp P n0 (.seq (.reg ss) b) Q l L:=L_seq (L_reg h)
theorem L_if {c:Operand} {x y:MC} {t:Bool} (hc:lv l c=some (.bool t)) (ht:t=true→LWp P n0 x Q (knows c true l) L) (hf:t=false→LWp P n0 y Q (knows c false l) L):LWp P n0 (.cond c x y) Q l L:=by
 refine ⟨fun X w0 E0 w E l' h0 hE hR hl=>?_⟩
 obtain ⟨_,h1,rfl⟩:=lv_ev hl hc
 exact ⟨t,h1,fun e=>(ht e).go X w0 E0 w E _ h0 hE hR (hl.knows c true),fun e=>(hf e).go X w0 E0 w E _ h0 hE hR (hl.knows c false)⟩
theorem L_true {c:Operand} {x y:MC} (hc:lv l c=some (.bool true)) (h:LWp P n0 x Q (knows c true l) L):LWp P n0 (.cond c x y) Q l L:=L_if hc (fun _=>h) (fun e=>by cases e)
theorem L_false {c:Operand} {x y:MC} (hc:lv l c=some (.bool false)) (h:LWp P n0 y Q (knows c false l) L):LWp P n0 (.cond c x y) Q l L:=L_if hc (fun e=>by cases e) (fun _=>h)
theorem L_block {id:Nat} {b:MC} (h:LWp P n0 b (blkL id Q) l L):LWp P n0 (.block id b) Q l L:=by
 refine ⟨fun X w0 E0 w E l' h0 hE hR hl=>?_⟩
 refine MWp.mono b (fun e l1 w1 hf=>?_) (h.go X w0 E0 w E l' h0 hE hR hl)
 obtain ⟨E1,l2,L2,k1,k2,k3,k4⟩:=hf
 cases e with
 | exit i =>
  simp only [blkQ]
  simp only [blkL] at k4
  by_cases e:i=id
  ·rw [if_pos e] at k4 ⊢; exact ⟨E1,l2,L2,k1,k2,k3,k4⟩
  ·rw [if_neg e] at k4 ⊢; exact ⟨E1,l2,L2,k1,k2,k3,k4⟩
 | normal=>exact ⟨E1,l2,L2,k1,k2,k3,k4⟩
 | ret=>exact ⟨E1,l2,L2,k1,k2,k3,k4⟩
 | goto i=>exact ⟨E1,l2,L2,k1,k2,k3,k4⟩
 | panic c=>exact ⟨E1,l2,L2,k1,k2,k3,k4⟩
 | outgrown=>exact ⟨E1,l2,L2,k1,k2,k3,k4⟩
theorem L_loop {b:MC} (I:Nat→Env→LH→Prop) (n:Nat) (h0:I n l L) (h:∀ n l L,I n l L→LWp P n0 b (thenL (Nx n0 (fun l L=>∃ m,m<n∧I m l L)) Q) l L):LWp P n0 (.loop b) Q l L:=by
 refine ⟨fun X w0 E0 w E l' hn hE hR hl=>?_⟩
 refine ⟨fun n l' w=>Fin n0 X w0 E0 (I n) l' w,n,⟨E,l,L,hE,hR,hl,h0⟩,?_⟩
 rintro n l' w ⟨E,l,L,hE,hR,hl,hI⟩
 refine MWp.mono b (fun e l1 w1 hf=>?_) ((h n l L hI).go X w0 E0 w E l' hn hE hR hl)
 obtain ⟨E1,l2,L2,k1,k2,k3,k4⟩:=hf
 cases e with
 | normal =>
  obtain ⟨l3,h3,E3,l4,L4,g1,g2,g3,m,g4,g5⟩:=Nx.fin k4 k1 k2 k3
  exact ⟨m,g4,l3,h3,E3,l4,L4,g1,g2,g3,g5⟩
 | ret=>exact ⟨E1,l2,L2,k1,k2,k3,k4⟩
 | exit i=>exact ⟨E1,l2,L2,k1,k2,k3,k4⟩
 | goto i=>exact ⟨E1,l2,L2,k1,k2,k3,k4⟩
 | panic c=>exact ⟨E1,l2,L2,k1,k2,k3,k4⟩
 | outgrown=>exact ⟨E1,l2,L2,k1,k2,k3,k4⟩
def QY (P:Program) (n0:NA) (L:LH) (l:Env) (q:QOp) (v:Value):Prop :=
 ∀ (X:Nat→Prop) (w0:World) (E0:Emb) (w:World) (E:Emb) (l':Env),n0.Ok P X w0 E0→n0.Ext E0 E→Rep X w0 E L w→ER E l l'→∃ v',q.Y P l' v' w∧VR E v v'
theorem QY.of {q:QOp} {v:Value} (h:lq (rawQ1 P) L l q=some v):QY P n0 L l q v:=fun _ _ _ _ _ _ _ _ hR hl=>lq_ok (rawQ1_ok P) h hR hl
def Sure (v:Value):Prop:=∀ (E:Emb) (a b:Value),VR E v a→VR E v b→a=b
theorem Sure.of {v:Value} (h:sure v=true):Sure v:=fun _ _ _ h1 h2=>VR.fn h h1 h2
def chkP (P:Program) (n0:NA) (T:Taken) (L:LH):List Nat→Prop
 | []=>True
 | k::ks=>(match tfind T k with
  | some (q,l,v)=>QY P n0 L l q v∧Sure v
  | none=>True)∧chkP P n0 T L ks
theorem chkP_ok {X:Nat→Prop} {w0 w w':World} {E0 E:Emb} {F:Facts} (h0:n0.Ok P X w0 E0) (hE:n0.Ext E0 E) (hR:Rep X w0 E L w') (hT:TR P E T F):∀ (ks:List Nat),chkP P n0 T L ks→pendOk F w w' ks
 | [],_=>trivial
 | k::ks,h=>by
  refine ⟨?_,chkP_ok h0 hE hR hT ks h.2⟩
  rcases hT.find k with ⟨h1,h2⟩ | ⟨q,l,v,l',v',h1,h2,h3,h4⟩
  ·rw [h2]; trivial
  ·rw [h2]
   have h5:=h.1
   rw [h1] at h5
   intro _
   obtain ⟨v'',h6,h7⟩:=h5.1 X w0 E0 w' E l' h0 hE hR h3
   rw [h5.2 E _ _ h4 h7]
   exact h6
def EW (P:Program) (n0:NA) (L:LH) (l:Env) (e:EOp) (R:Value→LH→Prop):Prop :=
 ∀ (X:Nat→Prop) (w0:World) (E0:Emb) (w:World) (E:Emb) (l':Env) (Kf:Value→World→Prop),n0.Ok P X w0 E0→n0.Ext E0 E→Rep X w0 E L w→ER E l l'→(∀ w' E' v' v L',R v L'→Ext E E'→Rep X w0 E' L' w'→VR E' v v'→Kf v' w')→e.W P Kf l' w
theorem EW.of {e:EOp} {v:Value} {L':LH} (h:le (fun _ _ _=>none) (rawE2 P) L l e=some (v,L')):EW P n0 L l e (fun u K=>u=v∧K=L'):=by
 intro X w0 E0 w E l' Kf h0 hE hR hl hK
 refine le_ok (P:=P) (X:=X) (w0:=w0) (fun _ _ _ _ _ _ _ _ h=>by cases h) (rawE2_ok P) h hR hl fun w' E' v' h1 h2 h3=>hK w' E' v' v L' ⟨rfl,rfl⟩ h1 h2 h3
theorem EW.mono {e:EOp} {R R':Value→LH→Prop} (h:EW P n0 L l e R) (hr:∀ v L',R v L'→R' v L'):EW P n0 L l e R' :=
 fun X w0 E0 w E l' Kf h0 hE hR hl hK=>h X w0 E0 w E l' Kf h0 hE hR hl fun w' E' v' v L' h1=>hK w' E' v' v L' (hr v L' h1)
variable {k:Nat} {d:Option Nat} {g:Option (Nat × Bool)} {op:QOp} {eo:EOp} {rd:Bool} {r:List Step} {pend:List Nat} {v:Value}
theorem S_end (h:K l L):LSt P n0 [] K l T L:=⟨fun _ _ _ _ E _ _ _ hE hR hl _=>⟨E,l,L,hE,hR,hl,h⟩⟩
theorem S_q (hg:gw g l=some true) (hy:QY P n0 L l op v) (h:LSt P n0 r K (dpush d v l) (bif rd then (k,op,l,v)::T else T) L):LSt P n0 (.q k d g op rd::r) K l T L:=by
 refine ⟨fun X w0 E0 w E l' F h0 hE hR hl hT=>?_⟩
 simp only [stepsWp]
 refine gw_ok hl hg (fun _=>?_) (fun e=>by cases e)
 obtain ⟨v',h1,h2⟩:=hy X w0 E0 w E l' h0 hE hR hl
 refine ⟨v',h1,?_⟩
 cases rd
 ·exact h.go X w0 E0 w E _ _ h0 hE hR (hl.dpush h2 d) hT
 ·exact h.go X w0 E0 w E _ _ h0 hE hR (hl.dpush h2 d) ⟨rfl,⟨l',v',rfl,hl,h2⟩,hT⟩
theorem S_e {R:Value→LH→Prop} (hg:gw g l=some true) (hw:EW P n0 L l eo R) (h:∀ v L',R v L'→chkP P n0 T L' pend∧LSt P n0 r K (dpush d v l) T L'):LSt P n0 (.e d g eo pend::r) K l T L:=by
 refine ⟨fun X w0 E0 w E l' F h0 hE hR hl hT=>?_⟩
 simp only [stepsWp]
 refine gw_ok hl hg (fun _=>?_) (fun e=>by cases e)
 refine hw X w0 E0 w E l' _ h0 hE hR hl fun w' E' v' v L' hr h1 h2 h3=>?_
 obtain ⟨hc,hn⟩:=h v L' hr
 exact ⟨chkP_ok h0 (hE.trans h1) h2 (hT.ext h1) _ hc,hn.go X w0 E0 w' E' _ _ h0 (hE.trans h1) h2 ((hl.ext h1).dpush h3 d) (hT.ext h1)⟩
theorem S_qno (hg:gw g l=some false) (h:LSt P n0 r K (dpush d undef l) T L):LSt P n0 (.q k d g op rd::r) K l T L:=by
 refine ⟨fun X w0 E0 w E l' F h0 hE hR hl hT=>?_⟩
 simp only [stepsWp]
 exact gw_ok hl hg (fun e=>by cases e) (fun _=>h.go X w0 E0 w E _ _ h0 hE hR (hl.dpush VR.undef d) hT)
theorem S_eno (hg:gw g l=some false) (h:LSt P n0 r K (dpush d undef l) T L):LSt P n0 (.e d g eo pend::r) K l T L:=by
 refine ⟨fun X w0 E0 w E l' F h0 hE hR hl hT=>?_⟩
 simp only [stepsWp]
 exact gw_ok hl hg (fun e=>by cases e) (fun _=>h.go X w0 E0 w E _ _ h0 hE hR (hl.dpush VR.undef d) hT)
def noRaw:RawQ:=fun _ _ _=>none
theorem noRaw_ok (P:Program):RawOk P noRaw:=fun _ _ _ _ _ _ _ _ _ h=>by cases h
def qsafe (st:List Nat) (L:LH) (l:Env):QOp→Option Value
 | .mov x=>lv l x
 | .pick c a b=>match c with
  | .tmp t=>match inL t st with
   | true=>none
   | false=>match lv l (.tmp t) with
    | some (.bool true)=>lv l a
    | some (.bool false)=>lv l b
    | _=>none
  | _=>none
 | .nilc x=>lq noRaw L l (.nilc x)
 | .fld x off=>match lptr l x with
  | some ⟨b,o,none⟩=>some (.pointer (some ⟨b,o+off,none⟩))
  | _=>none
 | .fldv x off=>lq noRaw L l (.fldv x off)
 | .fldn x off n=>lq noRaw L l (.fldn x off n)
 | .ext x k=>lq noRaw L l (.ext x k)
 | .bin op x y=>match op with
  | .quo=>none
  | .rem=>none
  | .add=>none
  | .sub=>none
  | .mul=>none
  | .and=>none
  | .or=>none
  | .xor=>none
  | .andNot=>none
  | op=>lq noRaw L l (.bin op x y)
 | .nilp neg x=>match lv l x with
  | some (.pointer (some _))=>match neg with
   | true=>some (.bool true)
   | false=>some (.bool false)
  | some (.pointer none)=>match neg with
   | true=>some (.bool false)
   | false=>some (.bool true)
  | _=>none
 | .un op x=>lq noRaw L l (.un op x)
 | .len x=>lq noRaw L l (.len x)
 | .bld z ps=>lq noRaw L l (.bld z ps)
 | .mm mx x y=>lq noRaw L l (.mm mx x y)
 | .xorn x=>lq noRaw L l (.xorn x)
 | .mkf f a c=>lq noRaw L l (.mkf f a c)
 | .ld x=>match lptr l x with
  | some ⟨b,o,none⟩=>match L[b]? with
   | some (.cells _ vs)=>vs[o]?
   | _=>none
  | _=>none
 | .ldn x n=>match lptr l x with
  | some ⟨b,o,none⟩=>match L[b]? with
   | some (.cells _ vs)=>bif Nat.ble (o+n) vs.length then some (.agg ⟨(vs.drop o).take n⟩) else none
   | _=>none
  | _=>none
 | _=>none
theorem qsafe_ok {st:List Nat} (h:qsafe st L l op=some v):QY P n0 L l op v:=by
 intro X w0 E0 w E l' h0 hE hR hl
 have via:lq noRaw L l op=some v→∃ v',op.Y P l' v' w∧VR E v v':=fun h=>lq_ok (noRaw_ok P) h hR hl
 cases op <;> simp only [qsafe] at h <;> first|exact via h | (cases h; done) | skip
 case pick c a b =>
  cases c <;> first | (cases h; done) | skip
  case tmp t =>
  simp only at h
  split at h <;> first | (cases h; done) | skip
  split at h <;> first | (cases h; done) | skip
  ·rename_i hc; exact via (by simp only [lq,hc]; exact h)
  ·rename_i hc; exact via (by simp only [lq,hc]; exact h)
 case fld x off =>
  split at h <;> first | (cases h; done) | skip
  rename_i b o hp
  cases h
  exact via (by simp only [lq,hp,add_none])
 case bin op x y=>cases op <;> first|exact via h | cases h
 case nilp neg x =>
  split at h <;> first | (cases h; done) | skip
  ·rename_i p hp; cases neg <;> cases h <;> exact via (by simp [lq,hp])
  ·rename_i hp; cases neg <;> cases h <;> exact via (by simp [lq,hp])
 case ld x =>
  split at h <;> first | (cases h; done) | skip
  rename_i b o hp
  split at h <;> first | (cases h; done) | skip
  rename_i sz vs hb
  exact via (by simp only [lq,hp,lcell,hb]; exact h)
 case ldn x n =>
  split at h <;> first | (cases h; done) | skip
  rename_i b o hp
  split at h <;> first | (cases h; done) | skip
  rename_i sz vs hb
  cases hc:Nat.ble (o+n) vs.length
  ·rw [hc] at h; cases h
  rw [hc] at h; cases h
  exact via (by simp only [lq,hp,lcells,hb,hc,cond_true])
def esafe (L:LH) (l:Env):EOp→Option (Value × LH)
 | .st x v=>match lptr l x,lv l v with
  | some ⟨b,o,none⟩,some u=>match one u with
   | true=>match L[b]? with
    | some (.cells sz vs)=>bif Nat.blt o vs.length then some (undef,L.set b (.cells sz (vs.set o u))) else none
    | _=>none
   | false=>none
  | _,_=>none
 | .stn x v n=>match lptr l x,lv l v with
  | some ⟨b,o,none⟩,some (.agg ⟨us⟩)=>bif Nat.beq us.length n then (match L[b]? with
   | some (.cells sz vs)=>bif Nat.ble (o+n) vs.length then some (undef,L.set b (.cells sz (lspl vs o us))) else none
   | _=>none) else none
  | _,_=>none
 | .new _ zero=>bif zero.all stillS then some (.pointer (some ⟨L.length,0,none⟩),L++[.cells 0 zero]) else none
 | .box _ x=>match lv l x with
  | some u=>bif notTup u then some (.pointer (some ⟨L.length,0,none⟩),L++[.cells 0 u.cells.toList]) else none
  | none=>none
 | .bs0 _=>some (.slice (some ⟨L.length,0,none⟩) 0 0,L++[.cells 0 []])
 | .bs1 _ n x=>match lv l x with
  | some u=>bif notTup u && Nat.beq u.cells.toList.length n then some (.slice (some ⟨L.length,0,none⟩) 1 1,L++[.cells 0 u.cells.toList]) else none
  | none=>none
 | _=>none
theorem esafe_ok {L':LH} (h:esafe L l eo=some (v,L')):EW P n0 L l eo (fun u K=>u=v∧K=L'):=by
 refine EW.of ?_
 cases eo <;> simp only [esafe] at h <;> first | (cases h; done) | skip
 case st x y =>
  simp only [le,fL_eq]
  split at h <;> first | (cases h; done) | skip
  rename_i b o u hx hy
  rw [hx,hy]
  simp only
  split at h <;> first | (cases h; done) | skip
  rename_i h1
  rw [h1]
  simp only [cond_true]
  split at h <;> first | (cases h; done) | skip
  rename_i sz vs hb
  rw [hb]
  exact h
 case stn x y n=>simp only [le,fL_eq]; exact h
 case new t z=>simp only [le,fL_eq,fV_eq]; exact h
 case box t x=>simp only [le,fL_eq,fV_eq]; exact h
 case bs0 t=>exact h
 case bs1 t n x=>exact h
def gsafe (st:List Nat) (g:Option (Nat × Bool)) (l:Env):Option Bool :=
 match g with
 | none=>some true
 | some (s,want)=>match inL s st with
  | true=>none
  | false=>match eget l s with
   | some (.bool true)=>some want
   | some (.bool false)=>some (!want)
   | some (.tuple _)=>some false
   | _=>none
theorem gsafe_ok {st:List Nat} {b:Bool} (h:gsafe st g l=some b):gw g l=some b:=by
 cases g with
 | none=>exact h
 | some sw =>
  obtain ⟨s,want⟩:=sw
  simp only [gsafe] at h
  split at h <;> first | (cases h; done) | skip
  split at h <;> first | (cases h; done) | skip
  ·rename_i hs; cases h; simp only [gw,hs]; cases b <;> rfl
  ·rename_i hs; cases h; simp only [gw,hs]; cases want <;> rfl
  ·rename_i hs; cases h; simp only [gw,hs]
def arun (st:List Nat):List Step→Env→Taken→LH→List Step × Env × Taken × LH
 | [],l,T,L=>([],l,T,L)
 | .q k d g op rd::r,l,T,L=>match gsafe st g l with
  | some true=>match qsafe st L l op with
   | some v=>match rd with
    | true=>arun st r (dpush d v l) ((k,op,l,v)::T) L
    | false=>arun st r (dpush d v l) T L
   | none=>(.q k d g op rd::r,l,T,L)
  | some false=>arun st r (dpush d undef l) T L
  | none=>(.q k d g op rd::r,l,T,L)
 | .e d g op pend::r,l,T,L=>match gsafe st g l with
  | some true=>match pend with
   | []=>match esafe L l op with
    | some (v,L')=>arun st r (dpush d v l) T L'
    | none=>(.e d g op pend::r,l,T,L)
   | _::_=>(.e d g op pend::r,l,T,L)
  | some false=>arun st r (dpush d undef l) T L
  | none=>(.e d g op pend::r,l,T,L)
theorem arun_ok (st:List Nat):∀ (ss:List Step) (l:Env) (T:Taken) (L:LH) {ss1:List Step} {l1:Env} {T1:Taken} {L1:LH},arun st ss l T L=(ss1,l1,T1,L1)→LSt P n0 ss1 K l1 T1 L1→LSt P n0 ss K l T L
 | [],l,T,L,_,_,_,_,h,k=>by cases h; exact k
 | .q k d g op rd::r,l,T,L,_,_,_,_,h,hk=>by
  simp only [arun] at h
  split at h
  ·rename_i hg
   split at h
   ·rename_i v hv
    split at h
    ·exact S_q (gsafe_ok hg) (qsafe_ok hv) (arun_ok st r _ _ L h hk)
    ·exact S_q (gsafe_ok hg) (qsafe_ok hv) (arun_ok st r _ _ L h hk)
   ·cases h; exact hk
  ·rename_i hg; exact S_qno (gsafe_ok hg) (arun_ok st r _ _ L h hk)
  ·cases h; exact hk
 | .e d g op pend::r,l,T,L,_,_,_,_,h,hk=>by
  simp only [arun] at h
  split at h
  ·rename_i hg
   split at h
   ·split at h
    ·rename_i v L' hv
     exact S_e (gsafe_ok hg) (esafe_ok hv) fun v L' ⟨e1,e2⟩=>by subst e1; subst e2; exact ⟨trivial,arun_ok st r _ _ _ h hk⟩
    ·cases h; exact hk
   ·cases h; exact hk
  ·rename_i hg; exact S_eno (gsafe_ok hg) (arun_ok st r _ _ L h hk)
  ·cases h; exact hk
variable {ss ss1:List Step} {l1:Env} {T1:Taken} {L1:LH}
theorem S_done (st:List Nat) (h:arun st ss l T L=([],l1,T1,L1)) (hk:K l1 L1):LSt P n0 ss K l T L:=arun_ok st ss l T L h (S_end hk)
theorem S_Q (st:List Nat) (h:arun st ss l T L=(.q k d g op rd::r,l1,T1,L1)) (hg:gw g l1=some true) (hy:QY P n0 L1 l1 op v) (hn:LSt P n0 r K (dpush d v l1) (bif rd then (k,op,l1,v)::T1 else T1) L1):LSt P n0 ss K l T L :=
 arun_ok st ss l T L h (S_q hg hy hn)
theorem S_E (st:List Nat) {R:Value→LH→Prop} (h:arun st ss l T L=(.e d g eo pend::r,l1,T1,L1)) (hg:gw g l1=some true) (hw:EW P n0 L1 l1 eo R) (hn:∀ v L',R v L'→chkP P n0 T1 L' pend∧LSt P n0 r K (dpush d v l1) T1 L'):LSt P n0 ss K l T L :=
 arun_ok st ss l T L h (S_e hg hw hn)
theorem S_split (s:Nat) {b:Bool} (h0:arun [s] ss l T L=(ss1,l1,T1,L1)) (hh:headGuard ss1=some s) (hb:eget l1 s=some (.bool b))
  (ht:b=true→LSt P n0 ss1 K ((s,.bool true)::l1) T1 L1) (hf:b=false→LSt P n0 ss1 K ((s,.bool false)::l1) T1 L1):LSt P n0 ss K l T L:=by
 refine arun_ok [s] ss l T L h0 ?_
 refine ⟨fun X w0 E0 w E l' F hn hE hR hl hT=>?_⟩
 obtain ⟨_,hb',rfl⟩:=hl.get hb
 have key:stepsWp P ss1 (Fin n0 X w0 E0 K) ((s,.bool b)::l') F w:=by
  cases b
  ·exact (hf rfl).go X w0 E0 w E _ F hn hE hR (ER.cons _ rfl hl) hT
  ·exact (ht rfl).go X w0 E0 w E _ F hn hE hR (ER.cons _ rfl hl) hT
 cases ss1 with
 | nil=>cases hh
 | cons st r =>
  cases st with
  | q k d g op rd =>
   cases g with
   | none=>cases hh
   | some sw=>obtain ⟨s',want⟩:=sw; cases hh; simp only [stepsWp] at *; exact gcase_sub hb' key
  | e d g op pend =>
   cases g with
   | none=>cases hh
   | some sw=>obtain ⟨s',want⟩:=sw; cases hh; simp only [stepsWp] at *; exact gcase_sub hb' key
theorem QY.idx {x i:Operand} {size b o n c:Nat} {kd:IntKind} {j:Int} (hx:lv l x=some (.slice (some ⟨b,o,none⟩) n c)) (hi:lv l i=some (.int kd j)) (hj:0≤j) (h1:j<(n:Int)):QY P n0 L l (.idx x i size) (.pointer (some ⟨b,o+j.toNat*size,none⟩)):=by
 intro X w0 E0 w E l' h0 hE hR hl
 obtain ⟨_,g1,g2,r,g3,⟨a',c',rfl,g4⟩ | ⟨g4,_⟩⟩:=lv_ev hl hx
 ·obtain ⟨_,g5,rfl⟩:=lv_ev hl hi
  rcases g4 with ⟨g4,_⟩ | ⟨g4,_⟩
  ·refine ⟨_,⟨_,n,_,kd,j,g1,g5,hj,h1,rfl⟩,_,rfl,?_⟩
   have:=AR.add (a:=⟨b,o,none⟩) (a':=a') ⟨rfl,r,g3,g4⟩ (j.toNat*size)
   rwa [add_none] at this
  ·omega
 ·omega
theorem QY.ldg {x:Operand} {b o sz:Nat} {vs:List Value} (hx:lv l x=some (.pointer (some ⟨b,o,none⟩))) (hb:L[b]?=some (.gro sz vs)) (hv:vs[o]?=some v) (hs:stillS v=true):QY P n0 L l (.ld x) v :=
 QY.of (by simp [lq,lptr,hx,lcell,hb,hv,hs])
theorem QY.arith {x y:Operand} {bop:BinOp} {kd:IntKind} {a b:Int} {c:Value} (hx:lv l x=some (.int kd a)) (hy:lv l y=some (.int kd b)) (hc:ibin bop kd a b=some c) (hs:still c=true):QY P n0 L l (.bin bop x y) c:=by
 refine QY.of ?_
 have:ikEq kd kd=true:=by simp [ikEq]
 simp only [lq,hx,hy,this,cond_true,hc,hs]
theorem QY.add {x y:Operand} {a b c:Int} (hx:lv l x=some (.int .i64 a)) (hy:lv l y=some (.int .i64 b)) (hc:a+b=c) (h0 : -9223372036854775808≤c) (h1:c≤9223372036854775807):QY P n0 L l (.bin .add x y) (.int .i64 c) :=
 QY.arith hx hy (by simp only [ibin]; rw [hc,wrap64_id h0 h1]) rfl
theorem QY.quo {x y:Operand} {a b c:Int} (hx:lv l x=some (.int .i64 a)) (hy:lv l y=some (.int .i64 b)) (hb:b≠0) (hc:a.tdiv b=c) (h0 : -9223372036854775808≤c) (h1:c≤9223372036854775807):QY P n0 L l (.bin .quo x y) (.int .i64 c) :=
 QY.arith hx hy (by simp only [ibin]; rw [if_neg hb,hc,wrap64_id h0 h1]) rfl
theorem QY.slc {x:Operand} {lo hi:Option Operand} {size b o n c lo' hi':Nat} (hx:lv l x=some (.slice (some ⟨b,o,none⟩) n c)) (h1:lbound l lo 0=some lo') (h2:lbound l hi n=some hi') (h3:lo'≤hi') (h4:hi'≤c) :
  QY P n0 L l (.slc x lo hi size) (.slice (some ⟨b,o+lo'*size,none⟩) (hi'-lo') (c-lo')):=by
 refine QY.of ?_
 have e1:Nat.ble lo' hi'=true:=Nat.ble_eq_true_of_le h3
 have e2:Nat.ble hi' c=true:=Nat.ble_eq_true_of_le h4
 simp only [lq,hx,h1,h2,e1,e2,Bool.and_self,cond_true,add_none]
def TrK (P:Program) (A:Args) (keep:List Nat) (f:FuncId) (vs:List Value) (L:LH) (R:Value→LH→Prop):Prop :=
 ∀ (X:Nat→Prop) (w0 w:World) (E:Emb) (vs':List Value),(NA.mk L.length A keep).Ok P X w0 E→Rep X w0 E L w→L2 (VR E) vs vs'→callable P f=true∧Does P f vs'.toArray w fun v' w'=>∃ E' v L',(NA.mk L.length A keep).Ext E E'∧L.length≤L'.length∧VR E' v v'∧Rep X w0 E' L' w'∧R v L'
abbrev Tr (P:Program) (f:FuncId) (vs:List Value) (L:LH) (R:Value→LH→Prop):Prop:=TrK P [] (seqN 0 L.length) f vs L R
def RetQ (n0:NA) (res:List RV) (R:Value→LH→Prop) (e:Exit) (l:Env) (L:LH):Prop :=
 (e=.ret∨e=.normal)∧∃ us,lres l L res=some us∧((Nat.ble n0.n L.length=true∧R (lret us) L)∨∃ sel v L1,Nat.ble n0.n sel.length=true∧keepOk sel n0.keep=true∧letGoV sel L (lret us)=some v∧letGo sel L=some L1∧R v L1)
theorem RetQ.pick {res:List RV} {R:Value→LH→Prop} {us:List Value} (sel:List Nat) (h:lres l L res=some us) (h0:keepOk sel n0.keep=true) (h1:letGoV sel L (lret us)=some v) (h2:letGo sel L=some L1) (hr:R v L1) (hn:Nat.ble n0.n sel.length=true:=by rfl):RetQ n0 res R .ret l L:=⟨.inl rfl,us,h,.inr ⟨sel,v,L1,hn,h0,h1,h2,hr⟩⟩
theorem RetQ.end {res:List RV} {R:Value→LH→Prop} {us:List Value} (sel:List Nat) (h:lres l L res=some us) (h0:keepOk sel n0.keep=true) (h1:letGoV sel L (lret us)=some v) (h2:letGo sel L=some L1) (hr:R v L1) (hn:Nat.ble n0.n sel.length=true:=by rfl):RetQ n0 res R .normal l L:=⟨.inr rfl,us,h,.inr ⟨sel,v,L1,hn,h0,h1,h2,hr⟩⟩
theorem letGo_length {sel:List Nat} {L K:LH} (h:letGo sel L=some K):K.length=sel.length:=by
 unfold letGo at h
 split at h <;> first | (cases h; done) | skip
 rename_i t ht
 cases hc:(t.all (okB (invN sel sel.length 0 L.length) sel.length) && ndup sel)
 ·rw [hc] at h; cases h
 rw [hc] at h; cases h
 simp [(pickG_ok ht).1]
theorem Tr.of {A:Args} {keep:List Nat} {x:FnRow} {vs:List Value} {R:Value→LH→Prop} (hx:x.Ok P) (hn:Nat.ble vs.length x.np=true) (h:LWp P ⟨L.length,A,keep⟩ x.m (RetQ ⟨L.length,A,keep⟩ x.res R) (initEnv 0 vs) L):TrK P A keep x.f vs L R:=by
 intro X w0 w E vs' hA hR hvs
 obtain ⟨hcl,fn,hl,hr,hrk,hd⟩:=hx
 refine ⟨hcl,hd _ w _ (by rw [hvs.length]; exact hn) ?_⟩
 refine MWp.mono x.m (fun e l' w' hf=>?_) (h.go X w0 E w E _ hA (NA.Ext.refl _ E) hR (ER.init 0 hvs))
 obtain ⟨E1,l1,L1,k1,k2,k3,he,us,hus,hcase⟩:=hf
 rcases hcase with ⟨hn1,hr1⟩ | ⟨sel,v,L2,hn1,g0,g1,g2,g3⟩
 ·exact lret_ok hl hr hrk k2 k3 he hus fun v' hv'=>⟨E1,_,L1,k1,Nat.le_of_ble_eq_true hn1,hv',k2,hr1⟩
 ·exact lret_ok hl hr hrk k2 k3 he hus fun v' hv'=>⟨subE E1 sel,v,L2,k1.sub g0,by rw [letGo_length g2]; exact Nat.le_of_ble_eq_true hn1,letGoV_ok g1 k2 hv',letGo_ok g2 k2,g3⟩
def handed (φ keep:List Nat) (A A':Args):Prop:=∀ x∈A',inL x.1 keep=true∧∃ k,φ[x.1]?=some k∧(k,x.2)∈A
theorem AV.keep {X X':Nat→Prop} {w0 w:World} (hf:Fr X w0 w) (hX:∀ b,b<w0.heap.size→¬ X b→¬ X' b):∀ (a:AV) (y:Value),a.is X w0 y→a.is X' w y:=by
 intro a
 induction a with
 | v u=>intro y h; exact h
 | s a n c m get ih =>
  rintro y ⟨e,h⟩
  refine ⟨e,fun hm=>?_⟩
  obtain ⟨h2,h3,h4⟩:=h hm
  refine ⟨Nat.lt_of_lt_of_le h2 hf.size,hX _ h2 h3,fun i hi=>?_⟩
  obtain ⟨y,h5,h6⟩:=h4 i hi
  exact ⟨y,by rw [← h5]; simp only [World.cell?,hf.keep _ h2 h3],ih i y h6⟩
theorem handed_ok {P:Program} {n0:NA} {A':Args} {φ keep:List Nat} {X:Nat→Prop} {w0 w:World} {E0 E:Emb} {M Lc:LH} (hd:handed φ keep n0.A A') (hp:Part φ M Lc) (h0:n0.Ok P X w0 E0) (hE:n0.Ext E0 E) (hR:Rep X w0 E M w):(NA.mk Lc.length A' keep).Ok P (footL (subE E φ) Lc) w (subE E φ):=by
 have hX:∀ b,b<w0.heap.size→¬ X b→¬ footL (subE E φ) Lc b:=by
  rintro b hb hx ⟨k,x,r,h7,h8,h9⟩
  rcases ((hp.sub hR).rng k x r h7 h8 b h9).1 with h | h
  ·omega
  ·exact hx h
 refine ⟨by rw [(hp.sub hR).len],fun x hx=>⟨(hd x hx).1,fun hm=>?_⟩,fun g hg=>?_⟩
 ·obtain ⟨_,k,h1,h2⟩:=hd x hx
  obtain ⟨hk0,hA0⟩:=h0.2.1 _ h2
  obtain ⟨r,h3,h4,h5,h6⟩:=hA0 hm
  refine ⟨r,?_,Nat.lt_of_lt_of_le h4 hR.fr.size,hX _ h4 h5,fun i hi=>?_⟩
  ·simp [subE,h1,hE _ _ hk0 h3]
  ·obtain ⟨y,h7,h8⟩:=h6 i hi
   exact ⟨y,by rw [← h7]; simp only [World.cell?,hR.fr.keep _ h4 h5],AV.keep hR.fr hX _ _ h8⟩
 ·obtain ⟨h1,h2,h3⟩:=h0.2.2 g hg
  exact ⟨fun i x hx=>by rw [← h1 i x hx]; simp only [World.cell?,hR.fr.keep _ h3 h2],hX g h3 h2,Nat.lt_of_lt_of_le h3 hR.fr.size⟩
theorem handed_nil {φ keep:List Nat} {A:Args}:handed φ keep A []:=fun x hx=>by cases hx
def Left (fr:List Nat) (E:Emb) (L:LH) (w w':World):Prop:=∀ (k:Nat) (x:LB) (r:Nat × Nat × Nat) (b:Nat),inL k fr=false→L[k]?=some x→E[k]?=some r→foot r x b→w'.heap[b]?=w.heap[b]?
def EWd (P:Program) (n0:NA) (fr dr:List Nat) (L:LH) (l:Env) (e:EOp) (R:Value→LH→Prop):Prop :=
 ∀ (X:Nat→Prop) (w0:World) (E0:Emb) (w:World) (E:Emb) (l':Env) (Kf:Value→World→Prop),n0.Ok P X w0 E0→n0.Ext E0 E→Rep X w0 E L w→ER E l l'→(∀ w' E' v' v L',R v L'→ExtD dr E E'→Left fr E L w w'→Rep X w0 E' L' w'→VR E' v v'→Kf v' w')→e.W P Kf l' w
theorem EWd.mono {fr dr:List Nat} {e:EOp} {R R':Value→LH→Prop} (h:EWd P n0 fr dr L l e R) (hr:∀ v L',R v L'→R' v L'):EWd P n0 fr dr L l e R' :=
 fun X w0 E0 w E l' Kf h0 hE hR hl hK=>h X w0 E0 w E l' Kf h0 hE hR hl fun w' E' v' v L' h1=>hK w' E' v' v L' (hr v L' h1)
def frOk (fr:List Nat) (T:Taken) (L:LH) (k:Nat):Bool:=match tfind T k with
 | some (.ld x,l,_)=>(match lptr l x with
  | some ⟨b,_,none⟩ => !inL b fr && (match L[b]? with
   | some (.cells _ _)=>true
   | _=>false)
  | _=>false)
 | some (.ldn x _,l,_)=>(match lptr l x with
  | some ⟨b,_,none⟩ => !inL b fr && (match L[b]? with
   | some (.cells _ _)=>true
   | _=>false)
  | _=>false)
 | some _=>false
 | none=>true
def chkG (P:Program) (n0:NA) (fr:List Nat) (T:Taken) (L L':LH):List Nat→Prop
 | []=>True
 | k::ks=>(frOk fr T L k=true∨(match tfind T k with
  | some (q,l,v)=>QY P n0 L' l q v∧Sure v
  | none=>True))∧chkG P n0 fr T L L' ks
theorem left_ld {fr:List Nat} {w w':World} {E:Emb} {l l':Env} {x:Operand} {b o:Nat} {sz:Nat} {vs:List Value} (hL:Left fr E L w w') (hl:ER E l l') (hx:lptr l x=some ⟨b,o,none⟩) (hb:inL b fr=false) (hc:L[b]?=some (.cells sz vs)) :
  ∃ p,ev l' x=some (.pointer (some p))∧w'.heap[p.block]?=w.heap[p.block]?:=by
 obtain ⟨p',h1,_,r,h3,rfl⟩:=lptr_ok hl hx
 exact ⟨_,h1,hL b _ r r.1 hb hc h3 rfl⟩
theorem chkG_ok {fr:List Nat} {X:Nat→Prop} {w0 w w':World} {E0 E E':Emb} {L':LH} {F:Facts} (h0:n0.Ok P X w0 E0) (hE':n0.Ext E0 E') (hL:Left fr E L w w') (hR':Rep X w0 E' L' w') (hT:TR P E T F) (hT':TR P E' T F):∀ (ks:List Nat),chkG P n0 fr T L L' ks→pendOk F w w' ks
 | [],_=>trivial
 | k::ks,h=>by
  refine ⟨?_,chkG_ok h0 hE' hL hR' hT hT' ks h.2⟩
  rcases h.1 with h5 | h5
  ·rcases hT.find k with ⟨h1,h2⟩ | ⟨q,l,v,l',v',h1,h2,h3,h4⟩
   ·rw [h2]; trivial
   ·rw [h2]
    intro hF
    unfold frOk at h5
    rw [h1] at h5
    cases q <;> simp only [reduceCtorEq] at h5 <;> first | (cases h5; done) | skip
    case ld x =>
     split at h5 <;> first | (cases h5; done) | skip
     rename_i b o hp
     simp only [Bool.and_eq_true,Bool.not_eq_true'] at h5
     split at h5
     ·rename_i sz vs hb
      obtain ⟨p,g1,g2⟩:=left_ld hL h3 hp h5.1 hb
      obtain ⟨p2,g3,g4⟩:=hF
      rw [g1] at g3; cases g3
      exact ⟨p,g1,by rw [← g4]; simp only [World.cell?,g2]⟩
     ·cases h5.2
    case ldn x n =>
     split at h5 <;> first | (cases h5; done) | skip
     rename_i b o hp
     simp only [Bool.and_eq_true,Bool.not_eq_true'] at h5
     split at h5
     ·rename_i sz vs hb
      obtain ⟨p,g1,g2⟩:=left_ld hL h3 hp h5.1 hb
      obtain ⟨p2,us,g3,g4,g5,g6⟩:=hF
      rw [g1] at g3; cases g3
      have hpb:∀ i,(p.add i).block=p.block:=fun i=>by unfold Addr.add; split <;> rfl
      exact ⟨p,us,g1,g4,fun i hi=>by rw [← g5 i hi]; simp only [World.cell?,hpb,g2],g6⟩
     ·cases h5.2
  ·rcases hT'.find k with ⟨h1,h2⟩ | ⟨q,l,v,l',v',h1,h2,h3,h4⟩
   ·rw [h2]; trivial
   ·rw [h2]
    rw [h1] at h5
    intro _
    obtain ⟨v'',h6,h7⟩:=h5.1 X w0 E0 w' E' l' h0 hE' hR' h3
    rw [h5.2 E' _ _ h4 h7]
    exact h6
def disj (dr:List Nat):List Nat→Bool
 | []=>true
 | k::ks => !inL k dr && disj dr ks
theorem disj_ok {dr:List Nat}:∀ {ks:List Nat} {k:Nat},disj dr ks=true→inL k ks=true→inL k dr=false
 | [],k,_,h=>by cases h
 | a::ks,k,h,hk=>by
  simp only [disj,Bool.and_eq_true,Bool.not_eq_true'] at h
  simp only [inL] at hk
  cases hq:Nat.beq a k
  ·rw [hq] at hk; exact disj_ok h.2 hk
  ·have:=Nat.eq_of_beq_eq_true hq; subst this; exact h.1
theorem S_ed {fr dr:List Nat} {R:Value→LH→Prop} (hg:gw g l=some true) (hw:EWd P n0 fr dr L l eo R) (hd:disj dr n0.keep=true) (hn:nmE dr l=true) (ht:nmT dr T=true) (h:∀ v L',R v L'→chkG P n0 fr T L L' pend∧LSt P n0 r K (dpush d v l) T L'):LSt P n0 (.e d g eo pend::r) K l T L:=by
 refine ⟨fun X w0 E0 w E l' F h0 hE hR hl hT=>?_⟩
 simp only [stepsWp]
 refine gw_ok hl hg (fun _=>?_) (fun e=>by cases e)
 refine hw X w0 E0 w E l' _ h0 hE hR hl fun w' E' v' v L' hr h1 hL h2 h3=>?_
 obtain ⟨hc,hn'⟩:=h v L' hr
 have hE':n0.Ext E0 E':=fun k r hk hr=>h1 k r (disj_ok hd hk) (hE k r hk hr)
 exact ⟨chkG_ok h0 hE' hL h2 hT (hT.extD h1 ht) _ hc,hn'.go X w0 E0 w' E' _ _ h0 hE' h2 ((hl.extD h1 hn).dpush h3 d) (hT.extD h1 ht)⟩
theorem S_Ed (st:List Nat) {fr dr:List Nat} {R:Value→LH→Prop} (h:arun st ss l T L=(.e d g eo pend::r,l1,T1,L1)) (hg:gw g l1=some true) (hw:EWd P n0 fr dr L1 l1 eo R) (hd:disj dr n0.keep=true) (hn:nmE dr l1=true) (ht:nmT dr T1=true) (hk:∀ v L',R v L'→chkG P n0 fr T1 L1 L' pend∧LSt P n0 r K (dpush d v l1) T1 L'):LSt P n0 ss K l T L :=
 arun_ok st ss l T L h (S_ed hg hw hd hn ht hk)
theorem call_core {A:Args} {keep:List Nat} {f:FuncId} {vs' us:List Value} {Lc:LH} {R:Value→LH→Prop} {φ:List Nat} (ht:TrK P A keep f us Lc R) (hp:Part φ L Lc) (hd:handed φ keep n0.A A) (hm:nmL (dropped keep 0 φ) φ 0 L=true)
  {X:Nat→Prop} {w0 w:World} {E0 E:Emb} {Kf:Value→World→Prop} (h0:n0.Ok P X w0 E0) (hE:n0.Ext E0 E) (hR:Rep X w0 E L w) (h3:L2 (VR (subE E φ)) us vs')
  (hK:∀ w' E' v' v L',(∃ v1 L1,R v1 L1∧v=rnV (L.length+L1.length) (phi2 φ L.length L1) v1∧L'=joinL φ L L1)→ExtD (dropped keep 0 φ) E E'→Left φ E L w w'→Rep X w0 E' L' w'→VR E' v v'→Kf v' w'):callable P f=true∧Does P f vs'.toArray w Kf:=by
 have hsub:=(hp.sub hR).base
 have hc:=ht _ _ _ _ _ (handed_ok hd hp h0 hE hR) hsub h3
 refine ⟨hc.1,hc.2.mono ?_⟩
 rintro v' w' ⟨E1,v1,L1,g1,g0,g2,g3,g4⟩
 obtain ⟨E',k1,k2,k3⟩:=Rep.joinW (keep:=keep) hp hR (fun k r hk hr=>g1 k r hk hr) g0 hm g3
 refine hK w' E' v' _ _ ⟨v1,L1,g4,rfl,rfl⟩ k1 (fun k x r b hk hx hr hb=>?_) k3 (g2.into k2)
 refine g3.fr.keep b (hR.rng k x r hx hr b hb).2 ?_
 rintro ⟨k2,x2,r2,e1,e2,e3⟩
 obtain ⟨j,e4,e5⟩:=hp.blk k2 x2 e1
 obtain ⟨rj,e6⟩:=hR.ent e5
 have e7:(subE E φ)[k2]?=some rj:=by simp [subE,e4,e6]
 rw [e2] at e7; cases e7
 have e8:=hR.inj k j x _ r r2 b hx e5 hr e6 hb (by rw [foot_rn]; exact e3)
 subst e8
 have:=inL_mem.2 (List.mem_of_getElem? e4)
 rw [hk] at this; cases this
theorem EWd.call {A:Args} {keep:List Nat} {f:FuncId} {args:List Operand} {vs us:List Value} {Lc:LH} {R:Value→LH→Prop} (φ:List Nat) (ht:TrK P A keep f us Lc R) (hv:lvs l args=some vs) (he:us.map (rnV L.length φ)=vs) (hp:Part φ L Lc) (hd:handed φ keep n0.A A) (hm:nmL (dropped keep 0 φ) φ 0 L=true) :
  EWd P n0 φ (dropped keep 0 φ) L l (.call f args) (fun v K=>∃ v1 L1,R v1 L1∧v=rnV (L.length+L1.length) (phi2 φ L.length L1) v1∧K=joinL φ L L1):=by
 intro X w0 E0 w E l' Kf h0 hE hR hl hK
 obtain ⟨vs',h1,h2⟩:=lvs_evs hl hv
 have h3:L2 (VR (subE E φ)) us vs':=by
  subst he
  rw [← hR.len] at h2
  exact L2.sub (f:=rnV E.length φ) (fun _ _ h=>VR.sub h) h2
 exact ⟨vs',h1,(call_core ht hp hd hm h0 hE hR h3 hK).2⟩
theorem dropped_seq:∀ (φ:List Nat) (i n:Nat),i+φ.length≤n→dropped (seqN 0 n) i φ=[]
 | [],_,_,_=>rfl
 | k::φ,i,n,h=>by
  simp only [List.length_cons] at h
  have hi:inL i (seqN 0 n)=true:=by
   rw [inL_mem]
   have:=seqN_get n 0 i (by omega)
   rw [Nat.zero_add] at this
   exact List.mem_of_getElem? this
  simp only [dropped,hi,cond_true]
  exact dropped_seq φ (i+1) n (by omega)
theorem nm_nil0 (v:Value):nm0 [] v=true:=by
 cases v <;> first | rfl | skip
 case pointer a=>rcases a with _ | ⟨b,o,_ | s⟩ <;> rfl
 case slice a _ _=>rcases a with _ | ⟨b,o,_ | s⟩ <;> rfl
 case map a=>cases a <;> rfl
theorem nm_nilS (v:Value):nmS [] v=true:=by
 unfold nmS
 split
 ·simp [nm_nil0]
 ·exact nm_nil0 _
theorem nm_nil1 (v:Value):nm1 [] v=true:=by
 unfold nm1
 split
 ·simp [nm_nilS]
 ·exact nm_nilS _
theorem nm_nilB (x:LB):nmB [] x=true:=by
 cases x <;> first | rfl | skip
 case cells sz vs=>simp [nmB,nm_nilS]
 case map m c=>simp [nmB,nm_nil1]
 case iter m a b c=>cases m <;> rfl
theorem nm_nilL (φ:List Nat):∀ (i:Nat) (L:LH),nmL [] φ i L=true
 | _,[]=>rfl
 | i,x::r=>by simp [nmL,nm_nilB,nm_nilL φ]
theorem EW.callA {A:Args} {f:FuncId} {args:List Operand} {vs us:List Value} {Lc:LH} {R:Value→LH→Prop} (φ:List Nat) (ht:TrK P A (seqN 0 Lc.length) f us Lc R) (hv:lvs l args=some vs) (he:us.map (rnV L.length φ)=vs) (hp:Part φ L Lc) (hd:handed φ (seqN 0 Lc.length) n0.A A) :
  EW P n0 L l (.call f args) (fun v K=>∃ v1 L1,R v1 L1∧v=rnV (L.length+L1.length) (phi2 φ L.length L1) v1∧K=joinL φ L L1):=by
 have e:=dropped_seq φ 0 Lc.length (by rw [hp.len]; omega)
 have h:=EWd.call φ ht hv he hp hd (by rw [e]; exact nm_nilL φ 0 L)
 rw [e] at h
 exact fun X w0 E0 w E l' Kf h0 hE hR hl hK=>h X w0 E0 w E l' Kf h0 hE hR hl fun w' E' v' v L' hr hx _=>hK w' E' v' v L' hr fun k r hk=>hx k r rfl hk
end
end Go.Tum
end
section
namespace Go.Tum
open Go
def stillT:Value→Bool
 | .tuple ⟨vs⟩=>vs.all still
 | v=>still v
end Go.Tum
end
section
namespace Go.Tum
open Go
section
variable {P:Program} {n0:NA} {Q:Exit→Env→LH→Prop} {l:Env} {L:LH}
theorem QY.ldng {x:Operand} {b o n sz:Nat} {vs us:List Value} (hx:lv l x=some (.pointer (some ⟨b,o,none⟩))) (hb:L[b]?=some (.gro sz vs)) (hle:o+n≤vs.length) (hn:0<n) (hv:(vs.drop o).take n=us) (hs:us.all stillS=true):QY P n0 L l (.ldn x n) (.agg ⟨us⟩):=by
 refine QY.of ?_
 have h1:Nat.ble (o+n) vs.length=true:=Nat.ble_eq_true_of_le hle
 have h2:vs.isEmpty=false:=by cases vs with
  | nil=>simp at hle; omega
  | cons=>rfl
 simp only [lq,lptr,hx,lcells,hb,hv,h1,hs,h2,Bool.and_self,Bool.not_false,cond_true]
theorem gro_foot {r:Nat × Nat × Nat} {sz:Nat} {vs:List Value} (h:vs≠[]):foot r (.gro sz vs)=(·=r.1):=by
 cases vs with
 | nil=>exact absurd rfl h
 | cons=>rfl
theorem EW.stg {x y:Operand} {b o sz:Nat} {vs:List Value} {u:Value} (hx:lv l x=some (.pointer (some ⟨b,o,none⟩))) (hy:lv l y=some u) (hb:L[b]?=some (.gro sz vs)) (hu:stillS u=true) (ho:o<vs.length) :
  EW P n0 L l (.st x y) (fun w K=>w=undef∧K=L.set b (.gro sz (vs.set o u))):=by
 intro X w0 E0 w E l' Kf h0 hE hR hl hK
 obtain ⟨_,h1,a',rfl,_,r,hr,rfl⟩:=lv_ev hl hx
 obtain ⟨u',h2,h3⟩:=lv_ev hl hy
 have h1':=SR.still (E:=E) hu
 obtain rfl:u'=u:=SR.eq_still hu (h3.sr h1'.one.1)
 rcases hR.blk b _ r hb hr with ⟨rfl,_⟩ | ⟨hne,hsz,cs,hB,hcs,hroom⟩
 ·simp at ho
 ·have hne2:vs.set o u'≠[]:=by intro e; apply hne; have:=congrArg List.length e; simp at this; exact this
  have hoc:o+r.2.1<cs.length:=by omega
  refine ⟨_,_,h1,h2,h1'.one.1,hB.some hoc,hB.frozen _,hK _ E _ _ _ ⟨rfl,rfl⟩ (Ext.refl E) (hR.upd hb hr ?_ (.inr ⟨hne2,hsz,cs.set (o+r.2.1) u',hB.set _ _,?_,?_⟩) ?_) VR.undef⟩
  ·rw [gro_foot hne]; exact Fr.setCell w ⟨r.1,o+r.2.1,none⟩ u'
  ·rw [List.length_set,List.drop_set,if_neg (by omega),List.take_set,hcs]
   congr 1; omega
  ·simp only [List.length_set]; exact hroom
  ·rw [gro_foot hne,gro_foot hne2]; exact fun _ h=>.inl h
def appT (P:Program) (sT xT:TypeId):Option (Nat × Nat) :=
 match elemOf P sT with
 | some (_,i,z)=>bif isSl P xT && Nat.beq z.cells.toList.length i.size && z.cells.toList.all one && Nat.blt 0 i.bytes && Nat.blt 0 i.size then some (i.size,i.bytes) else none
 | none=>none
theorem appT_raw {o:Oper} {s x:Operand} {sT xT:TypeId} {sz bytes:Nat} {vs vx:Value} (ho:o.op=.call ⟨.builtin .append,⟨[s,x]⟩,⟨[sT,xT]⟩⟩) (ht:appT P sT xT=some (sz,bytes)) (hs:lv l s=some vs) (hx:lv l x=some vx):rawE2 P L l o=lapp L sz bytes vs vx:=by
 unfold appT at ht
 have h1:rawE2 P L l o=rawE0 P L l o:=by unfold rawE2 rawE1; rw [ho]
 rw [h1]
 unfold rawE0
 rw [ho]
 simp only [hs,hx]
 split at ht
 ·rename_i e i z he
  rw [he]
  simp only
  cases hc:(isSl P xT && Nat.beq z.cells.toList.length i.size && z.cells.toList.all one && Nat.blt 0 i.bytes && Nat.blt 0 i.size)
  ·rw [hc] at ht; cases ht
  ·rw [hc] at ht; cases ht; rfl
 ·cases ht
theorem EW.appg {o:Oper} {s x:Operand} {sT xT:TypeId} {sz bytes b n m cx:Nat} {bx:Option Addr} {vs us:List Value} (ho:o.op=.call ⟨.builtin .append,⟨[s,x]⟩,⟨[sT,xT]⟩⟩) (ht:appT P sT xT=some (sz,bytes)) (hs:lv l s=some (.slice (some ⟨b,0,none⟩) n n)) (hx:lv l x=some (.slice bx m cx))
  (hb:L[b]?=some (.gro sz vs)) (hn:vs.length=n*sz) (hv:vs.all stillS=true) (hsrc:lslc L sz (.slice bx m cx)=some us) (hus:us.all stillS=true) (hbd:(2*(n+m)+2048)*bytes≤281474976710656) :
  EW P n0 L l (.raw o) (fun v K=>v=.slice (some ⟨L.length,0,none⟩) (n+m) (n+m)∧K=L.set b .dead++[.gro sz (vs++us)]):=by
 refine EW.of ?_
 have hc:∃ cells,lslc L sz (.slice (some ⟨b,0,none⟩) n n)=some cells:=by
  cases n with
  | zero=>exact ⟨[],rfl⟩
  | succ n =>
   have h1:Nat.ble (0+(n+1)*sz) vs.length=true:=Nat.ble_eq_true_of_le (by omega)
   by_cases h0:vs=[]
   ·subst h0
    have hz:sz=0:=by
     rcases Nat.eq_zero_or_pos sz with h | h
     ·exact h
     ·have:0<(n+1)*sz:=Nat.mul_pos (by omega) h
      simp at hn; omega
    -- an element has a size
    unfold appT at ht
    split at ht
    ·rename_i e i z he
     cases hc:(isSl P xT && Nat.beq z.cells.toList.length i.size && z.cells.toList.all one && Nat.blt 0 i.bytes && Nat.blt 0 i.size)
     ·rw [hc] at ht; cases ht
     ·rw [hc] at ht; cases ht
      simp only [Bool.and_eq_true] at hc
      have:0<i.size:=Nat.le_of_ble_eq_true hc.2
      omega
    ·cases ht
   ·have h2:vs.isEmpty=false:=by cases vs with
     | nil=>exact absurd rfl h0
     | cons=>rfl
    have h3:((vs.drop 0).take ((n+1)*sz)).all stillS=true:=List.all_eq_true.2 fun a ha=>List.all_eq_true.1 hv a (List.mem_of_mem_drop (List.mem_of_mem_take ha))
    exact ⟨(vs.drop 0).take ((n+1)*sz),by simp only [lslc,lcells,hb,h1,h2,h3,Bool.and_self,Bool.not_false,cond_true]⟩
 obtain ⟨cells,hc⟩:=hc
 have e1:Nat.ble ((2*(n+m)+2048)*bytes) 281474976710656=true:=Nat.ble_eq_true_of_le hbd
 have e2:Nat.beq vs.length (n*sz)=true:=by rw [hn]; exact Nat.beq_refl _
 show rawE2 P L l o=_
 rw [appT_raw ho ht hs hx]
 unfold lapp
 simp only [hc,hsrc,e1,hb,Nat.beq_refl,e2,hv,hus,Bool.and_self,cond_true]
theorem LWp.wk {m:MC} {L':LH} (hw:∀ X w0 E w,Rep X w0 E L w→Rep X w0 E L' w) (h:LWp P n0 m Q l L'):LWp P n0 m Q l L :=
 ⟨fun X w0 E0 w E l' h0 hE hR hl=>h.go X w0 E0 w E l' h0 hE (hw _ _ _ _ hR) hl⟩
def mkT (P:Program) (sT:TypeId):Option (Nat × Nat × List Value) :=
 match elemOf P sT with
 | some (_,i,z)=>bif Nat.beq z.cells.toList.length i.size && Nat.blt 0 i.size && z.cells.toList.all stillS then some (i.size,i.bytes,z.cells.toList) else none
 | none=>none
theorem EW.mk {o:Oper} {n c:Operand} {sT:TypeId} {sz bytes k:Nat} {zs:List Value} (ho:o.op=.makeSlice sT n c) (ht:mkT P sT=some (sz,bytes,zs)) (hn:lv l n=some (.int .i64 k)) (hc:lv l c=some (.int .i64 k)) (hk:bytes*k≤140737488355328) (hk2:k≤9223372036854775807) :
  EW P n0 L l (.raw o) (fun v K=>v=.slice (some ⟨L.length,0,none⟩) k k∧K=L++[.gro sz (repC k zs)]):=by
 intro X w0 E0 w E l' Kf h0 hE hR hl hK
 unfold mkT at ht
 split at ht
 rotate_left
 ·cases ht
 rename_i e i z he
 cases hq:(Nat.beq z.cells.toList.length i.size && Nat.blt 0 i.size && z.cells.toList.all stillS)
 ·rw [hq] at ht; cases ht
 rw [hq] at ht; cases ht
 simp only [Bool.and_eq_true] at hq
 obtain ⟨hu,hi,hz⟩:=elemOf_ok he
 obtain ⟨_,h1,rfl⟩:=lv_ev hl hn
 obtain ⟨_,h3,rfl⟩:=lv_ev hl hc
 obtain ⟨d,op,ty,pos,af,g⟩:=o
 simp only at ho
 subst ho
 have hzl:=Nat.eq_of_beq_eq_true hq.1.1
 have hsz:0<i.size:=Nat.le_of_ble_eq_true hq.1.2
 refine makeSlice_any (ty:=ty) hu hi hz (by simpa using hzl) hsz (Nat.le_refl _) hk hk2 h1 h3
  (hK _ (E++[(w.heap.size,0,0)]) _ _ _ ⟨rfl,rfl⟩ (Ext.push E _) (hR.push1 (Fr.alloc _ w _) rfl (alloc_size _ _) (fun b hb=>?_) ?_) ⟨rfl,_,hR.last _,.inl ⟨_,_,rfl,.inl ⟨by simp,by simp⟩⟩⟩)
 ·cases hrc:repC k z.cells.toList with
  | nil=>rw [hrc] at hb; exact hb.elim
  | cons=>rw [hrc] at hb; exact hb
 ·by_cases h0:repC k z.cells.toList=[]
  ·rw [h0]; exact .inl ⟨rfl,rfl⟩
  ·exact .inr ⟨h0,hsz,_,Blk.new w _ _,by simp,by simp⟩
def partL (M:LH) (Φ:List Nat):List Nat→LH→Prop
 | [],[]=>True
 | j::φ,x::L=>M[j]?=some (rnB M.length Φ x)∧partL M Φ φ L
 | _,_=>False
theorem partL_get {M:LH} {Φ:List Nat}:∀ {φ:List Nat} {L:LH},partL M Φ φ L→φ.length=L.length∧∀ (k:Nat) (x:LB),L[k]?=some x→∃ j,φ[k]?=some j∧M[j]?=some (rnB M.length Φ x)
 | [],[],_=>⟨rfl,fun k x h=>by simp at h⟩
 | j::φ,y::L,h=>by
  obtain ⟨h1,h2⟩:=h
  obtain ⟨h3,h4⟩:=partL_get h2
  refine ⟨by simp [h3],fun k x hk=>?_⟩
  cases k with
  | zero=>simp at hk; subst hk; exact ⟨j,rfl,h1⟩
  | succ k=>simp only [List.getElem?_cons_succ] at hk ⊢; exact h4 k x hk
 | [],_::_,h=>h.elim
 | _::_,[],h=>h.elim
theorem Part.of {φ:List Nat} {M L:LH} (hn:φ.Nodup) (h:partL M φ φ L):Part φ M L:=⟨(partL_get h).1,hn,(partL_get h).2⟩
theorem EW.callF {f:FuncId} {args:List Operand} {vs us:List Value} {Lc L1 K2:LH} {v1 v2:Value} (φ:List Nat) (ht:Tr P f us Lc (fun v K=>v=v1∧K=L1)) (hv:lvs l args=some vs) (he:us.map (rnV L.length φ)=vs) (hn:φ.Nodup) (hp:partL L φ φ Lc)
  (h2:rnV (L.length+L1.length) (phi2 φ L.length L1) v1=v2) (hK:joinL φ L L1=K2):EW P n0 L l (.call f args) (fun v K=>v=v2∧K=K2) :=
 (EW.callA φ ht hv he (Part.of hn hp) handed_nil).mono fun v K ⟨v',L',⟨h3,h4⟩,h5,h6⟩=>by subst h3; subst h4; exact ⟨h5.trans h2,h6.trans hK⟩
end
end Go.Tum
end
section
namespace Go.Tum
open Go
section
variable {P:Program} {n0:NA} {Q:Exit→Env→LH→Prop} {l:Env} {L:LH} {K:Env→LH→Prop}
theorem arg_cell {X:Nat→Prop} {w0 w:World} {E0 E:Emb} {k m:Nat} {get:Nat→AV} (h0:n0.Ok P X w0 E0) (hE:n0.Ext E0 E) (hR:Rep X w0 E L w) (hA:(k,m,get)∈n0.A) {i:Nat} (hi:i<m) :
  ∃ r y,E[k]?=some r∧w.cell? ⟨r.1,r.2.1+i,none⟩=some y∧(get i).is X w0 y:=by
 obtain ⟨hk,hA'⟩:=h0.2.1 _ hA
 obtain ⟨r,h1,h2,h3,h4⟩:=hA' (by simp only; omega)
 obtain ⟨y,h5,h6⟩:=h4 i hi
 exact ⟨r,y,hE _ _ hk h1,by rw [← h5]; simp only [World.cell?,hR.fr.keep _ h2 h3],h6⟩
theorem QY.ldA {x:Operand} {k o m j:Nat} {get:Nat→AV} {u:Value} (hx:lv l x=some (.pointer (some ⟨k,o,none⟩))) (hA:n0.A[j]?=some (k,m,get)) (ho:o<m) (hg:get o=.v u) (hs:stillS u=true):QY P n0 L l (.ld x) u:=by
 intro X w0 E0 w E l' h0 hE hR hl
 obtain ⟨_,h1,a',rfl,_,r,hr,rfl⟩:=lv_ev hl hx
 obtain ⟨r',y,h2,h3,h4⟩:=arg_cell h0 hE hR (List.mem_of_getElem? hA) ho
 have hr:E[k]?=some r:=hr
 rw [hr] at h2; cases h2
 rw [hg] at h4
 have h4:y=u:=h4
 subst h4
 exact ⟨y,⟨_,h1,by rw [Nat.add_comm] at h3; exact h3⟩,(SR.still hs).vr⟩
def rowG (sz:Nat) (f:Nat→List Value):Nat→AV:=fun i=>.v ((f (i / sz)).getD (i % sz) undef)
theorem rowG_at {sz i j:Nat} {f:Nat→List Value} {u:Value} (hl:(f i).length=sz) (hu:(f i)[j]?=some u):rowG sz f (i*sz+j)=.v u:=by
 have hj:j<sz:=by rw [← hl]; exact (List.getElem?_eq_some_iff.1 hu).1
 have h1:(i*sz+j) / sz=i:=by rw [Nat.mul_comm,Nat.mul_add_div (by omega),Nat.div_eq_of_lt hj,Nat.add_zero]
 have h2:(i*sz+j) % sz=j:=by rw [Nat.mul_comm,Nat.mul_add_mod,Nat.mod_eq_of_lt hj]
 simp [rowG,h1,h2,hu]
theorem LWp.nilE {m:MC} (t sz:Nat) (ht:eget l t=some (.slice none 0 0)) (h:LWp P n0 m Q ((t,.slice (some ⟨L.length,0,none⟩) 0 0)::l) (L++[.gro sz []])):LWp P n0 m Q l L:=by
 refine ⟨fun X w0 E0 w E l' h0 hE hR hl=>?_⟩
 have h1:Rep X w0 (E++[(0,0,0)]) (L++[.gro sz []]) w:=hR.push (Fr.refl _ w) (fun _ h=>h.elim) (.inl ⟨rfl,rfl⟩)
 obtain ⟨_,h2,h3⟩:=hl.get ht
 have h3:_=Value.slice none 0 0:=h3
 subst h3
 have hlast:(E++[(0,0,0)])[L.length]?=some (0,0,0):=by rw [← hR.len]; simp
 exact h.go X w0 E0 w (E++[(0,0,0)]) l' h0 (hE.trans (Ext.push E _)) h1 (ER.more ⟨rfl,_,hlast,.inr ⟨rfl,rfl,_,rfl⟩⟩ h2 (hl.ext (Ext.push E _)))
theorem wk_gro0 {b:Nat} (sz:Nat) (hb:L[b]?=some (.cells 0 [])):∀ X w0 E w,Rep X w0 E L w→Rep X w0 E (L.set b (.gro sz [])) w:=by
 intro X w0 E w hR
 obtain ⟨r,hr⟩:=hR.ent hb
 obtain ⟨cs,hB,hl2,hroom,hz⟩:=hR.blk b _ r hb hr
 exact hR.upd hb hr (Fr.refl _ w) (.inl ⟨rfl,hz rfl⟩) (fun _ h=>h.elim)
end
end Go.Tum
end
section
namespace Go.Tum
open Go
section
variable {α:Type} {g:α→List Value} {sz:Nat}
def rowsC (g:α→List Value):List α→List Value
 | []=>[]
 | x::r=>g x++rowsC g r
structure RowOk (g:α→List Value) (sz:Nat):Prop where
 len:∀ x,(g x).length=sz
 still:∀ x,(g x).all stillS=true
theorem rowsC_length (h:RowOk g sz):∀ l,(rowsC g l).length=l.length*sz
 | []=>by simp [rowsC]
 | x::r=>by simp only [rowsC,List.length_append,h.len,rowsC_length h r,List.length_cons,Nat.add_mul]; omega
theorem rowsC_still (h:RowOk g sz):∀ l,(rowsC g l).all stillS=true
 | []=>rfl
 | x::r=>by simp only [rowsC,List.all_append,h.still,rowsC_still h r,Bool.and_self]
theorem rowsC_append:∀ a b,rowsC g (a++b)=rowsC g a++rowsC g b
 | [],b=>rfl
 | x::r,b=>by simp only [List.cons_append,rowsC,rowsC_append r b,List.append_assoc]
theorem rowsC_one (x:α):rowsC g [x]=g x:=by simp [rowsC]
theorem rowsC_drop (h:RowOk g sz):∀ (l:List α) (k:Nat),(rowsC g l).drop (k*sz)=rowsC g (l.drop k)
 | l,0=>by simp
 | [],k+1=>by simp [rowsC]
 | x::r,k+1=>by
  have e:(k+1)*sz=(g x).length+k*sz:=by rw [h.len,Nat.add_mul]; omega
  rw [rowsC,e,List.drop_append,List.drop_of_length_le (by omega),Nat.add_sub_cancel_left,List.nil_append,List.drop_succ_cons,rowsC_drop h r k]
theorem rowsC_take (h:RowOk g sz):∀ (l:List α) (k:Nat),(rowsC g l).take (k*sz)=rowsC g (l.take k)
 | l,0=>by simp [rowsC]
 | [],k+1=>by simp [rowsC]
 | x::r,k+1=>by
  have e:(k+1)*sz=(g x).length+k*sz:=by rw [h.len,Nat.add_mul]; omega
  rw [rowsC,e,List.take_append,List.take_of_length_le (by omega),Nat.add_sub_cancel_left,List.take_succ_cons,rowsC,rowsC_take h r k]
theorem rowsC_get (h:RowOk g sz) {l:List α} {k:Nat} {x:α} (hx:l[k]?=some x):((rowsC g l).drop (k*sz)).take sz=g x:=by
 have hk:=(List.getElem?_eq_some_iff.1 hx).1
 have e:l[k]=x:=by rw [List.getElem?_eq_getElem hk] at hx; exact Option.some.inj hx
 rw [rowsC_drop h,List.drop_eq_getElem_cons hk,rowsC,e,← h.len x,List.take_left]
theorem rowsC_cell (h:RowOk g sz) {l:List α} {k j:Nat} {x:α} (hx:l[k]?=some x) (hj:j<sz):(rowsC g l)[k*sz+j]?=(g x)[j]?:=by
 have:=congrArg (fun l=>l[j]?) (rowsC_get h hx)
 simpa [hj] using this
theorem rowsC_set (h:RowOk g sz) {l:List α} {k:Nat} (x:α) (hk:k<l.length):splice (rowsC g l) (k*sz) (g x)=rowsC g (l.set k x):=by
 have e:k*sz+(g x).length=(k+1)*sz:=by rw [h.len,Nat.add_mul]; omega
 rw [splice,e,rowsC_take h,rowsC_drop h]
 have e2:l.set k x=l.take k++x::l.drop (k+1):=List.set_eq_take_append_cons_drop .. |>.trans (by rw [if_pos hk])
 rw [e2,rowsC_append]
 simp [rowsC]
theorem rowsC_setF (h:RowOk g sz) {l:List α} {k j:Nat} {x y:α} {u:Value} (hx:l[k]?=some x) (hj:j<sz) (hy:g y=(g x).set j u):(rowsC g l).set (k*sz+j) u=rowsC g (l.set k y):=by
 have hk:=(List.getElem?_eq_some_iff.1 hx).1
 rw [← rowsC_set h y hk,hy]
 have e:=rowsC_get h hx
 have hlen:(rowsC g l).length=l.length*sz:=rowsC_length h l
 have hle:(k+1)*sz≤l.length*sz:=Nat.mul_le_mul_right _ hk
 rw [Nat.add_mul,Nat.one_mul] at hle
 apply List.ext_getElem?
 intro i
 rw [List.getElem?_set,splice,List.length_set,h.len]
 by_cases h1:i<k*sz
 ·rw [if_neg (by omega),List.append_assoc,List.getElem?_append_left (by simp; omega),List.getElem?_take,if_pos h1]
 ·by_cases h2:i<k*sz+sz
  ·rw [List.append_assoc,List.getElem?_append_right (by simp; omega),List.getElem?_append_left (by simp [h.len]; omega),List.getElem?_set]
   simp only [List.length_take,hlen,h.len]
   rw [Nat.min_eq_left (by omega)]
   by_cases h3:k*sz+j=i
   ·rw [if_pos h3,if_pos (by omega),if_pos (by omega),if_pos (by omega)]
   ·rw [if_neg h3,if_neg (by omega)]
    have:=rowsC_cell h hx (j:=i-k*sz) (by omega)
    rw [← this]; congr 1; omega
  ·rw [if_neg (by omega),List.getElem?_append_right (by simp [h.len]; omega)]
   simp only [List.length_append,List.length_take,List.length_set,hlen,h.len,List.getElem?_drop]
   rw [Nat.min_eq_left (by omega)]
   congr 1; omega
end
def intC (x:Int):List Value:=[.int .i64 x]
theorem intC_ok:RowOk intC 1:=⟨fun _=>rfl,fun _=>rfl⟩
def boolC (x:Bool):List Value:=[.bool x]
theorem boolC_ok:RowOk boolC 1:=⟨fun _=>rfl,fun _=>rfl⟩
theorem repC_rows {α:Type} {g:α→List Value} (x:α):∀ n,repC n (g x)=rowsC g (List.replicate n x)
 | 0=>rfl
 | n+1=>by simp only [repC,List.replicate_succ,rowsC,repC_rows x n]
section
variable {P:Program} {n0:NA} {Q:Exit→Env→LH→Prop} {l:Env} {L:LH} {K:Env→LH→Prop}
variable {α:Type} {g:α→List Value} {sz:Nat}
theorem QY.idxN {x i:Operand} {b n c k:Nat} {kd:IntKind} (hx:lv l x=some (.slice (some ⟨b,0,none⟩) n c)) (hi:lv l i=some (.int kd (k:Int))) (h1:k<n):QY P n0 L l (.idx x i sz) (.pointer (some ⟨b,k*sz,none⟩)):=by
 have:=QY.idx (P:=P) (n0:=n0) (L:=L) (size:=sz) hx hi (by omega) (by omega)
 simpa using this
theorem QY.ldRow {x:Operand} {b k:Nat} {xs:List α} {a:α} (h:RowOk g sz) (hx:lv l x=some (.pointer (some ⟨b,k*sz,none⟩))) (hb:L[b]?=some (.gro sz (rowsC g xs))) (hk:xs[k]?=some a) (hz:0<sz):QY P n0 L l (.ldn x sz) (.agg ⟨g a⟩):=by
 have hlt:=(List.getElem?_eq_some_iff.1 hk).1
 have hle:(k+1)*sz≤xs.length*sz:=Nat.mul_le_mul_right _ hlt
 rw [Nat.add_mul,Nat.one_mul] at hle
 exact QY.ldng hx hb (by rw [rowsC_length h]; omega) hz (rowsC_get h hk) (h.still a)
theorem QY.ldF {x:Operand} {b k j:Nat} {xs:List α} {a:α} {u:Value} (h:RowOk g sz) (hx:lv l x=some (.pointer (some ⟨b,k*sz+j,none⟩))) (hb:L[b]?=some (.gro sz (rowsC g xs))) (hk:xs[k]?=some a) (hu:(g a)[j]?=some u) (hs:stillS u=true):QY P n0 L l (.ld x) u:=by
 have hj:j<sz:=by rw [← h.len a]; exact (List.getElem?_eq_some_iff.1 hu).1
 exact QY.ldg hx hb (by rw [rowsC_cell h hk hj]; exact hu) hs
theorem QY.ldI {x:Operand} {b k:Nat} {xs:List Int} {a:Int} (hx:lv l x=some (.pointer (some ⟨b,k*1,none⟩))) (hb:L[b]?=some (.gro 1 (rowsC intC xs))) (hk:xs[k]?=some a):QY P n0 L l (.ld x) (.int .i64 a) :=
 QY.ldF (j:=0) intC_ok hx hb hk rfl rfl
theorem QY.ldB {x:Operand} {b k:Nat} {xs:List Bool} {a:Bool} (hx:lv l x=some (.pointer (some ⟨b,k*1,none⟩))) (hb:L[b]?=some (.gro 1 (rowsC boolC xs))) (hk:xs[k]?=some a):QY P n0 L l (.ld x) (.bool a) :=
 QY.ldF (j:=0) boolC_ok hx hb hk rfl rfl
theorem EW.stF {x y:Operand} {b k j:Nat} {xs:List α} {a a':α} {u:Value} (h:RowOk g sz) (hx:lv l x=some (.pointer (some ⟨b,k*sz+j,none⟩))) (hy:lv l y=some u) (hb:L[b]?=some (.gro sz (rowsC g xs))) (hk:xs[k]?=some a) (hj:j<sz) (hu:stillS u=true) (ha:g a'=(g a).set j u) :
  EW P n0 L l (.st x y) (fun w K=>w=undef∧K=L.set b (.gro sz (rowsC g (xs.set k a')))):=by
 have hlt:=(List.getElem?_eq_some_iff.1 hk).1
 have hle:(k+1)*sz≤xs.length*sz:=Nat.mul_le_mul_right _ hlt
 rw [Nat.add_mul,Nat.one_mul] at hle
 have:=EW.stg (P:=P) (n0:=n0) hx hy hb hu (by rw [rowsC_length h]; omega)
 rwa [rowsC_setF h hk hj ha] at this
theorem EW.stB {x y:Operand} {b k:Nat} {xs:List Bool} {a:Bool} (hx:lv l x=some (.pointer (some ⟨b,k*1,none⟩))) (hy:lv l y=some (.bool a)) (hb:L[b]?=some (.gro 1 (rowsC boolC xs))) (hk:k<xs.length) :
  EW P n0 L l (.st x y) (fun w K=>w=undef∧K=L.set b (.gro 1 (rowsC boolC (xs.set k a)))) :=
 EW.stF (j:=0) (a':=a) boolC_ok hx hy hb (List.getElem?_eq_getElem hk) (by omega) rfl rfl
theorem bD {p:Prop} [Decidable p]:decide p=true↔p:=decide_eq_true_iff
theorem bN {a b:Int}:(a != b)=true↔a≠b:=bne_iff_ne
theorem L_ifp {c:Operand} {x y:MC} {t:Bool} {p:Prop} (hc:lv l c=some (.bool t)) (hp:t=true↔p) (ht:p→LWp P n0 x Q (knows c true l) L) (hf:¬ p→LWp P n0 y Q (knows c false l) L):LWp P n0 (.cond c x y) Q l L :=
 L_if hc (fun e=>ht (hp.1 e)) (fun e=>hf fun h=>by rw [hp.2 h] at e; cases e)
theorem S_splitp (s:Nat) {b:Bool} {p:Prop} {ss ss1:List Step} {l1:Env} {T T1:Taken} {L1:LH} (h0:arun [s] ss l T L=(ss1,l1,T1,L1)) (hh:headGuard ss1=some s) (hb:eget l1 s=some (.bool b)) (hp:b=true↔p)
  (ht:p→LSt P n0 ss1 K ((s,.bool true)::l1) T1 L1) (hf:¬ p→LSt P n0 ss1 K ((s,.bool false)::l1) T1 L1):LSt P n0 ss K l T L :=
 S_split s h0 hh hb (fun e=>ht (hp.1 e)) (fun e=>hf fun h=>by rw [hp.2 h] at e; cases e)
def boolT (P:Program) (t:TypeId):Bool:=match P.underlying t with
 | some .bool => !P.eqGuardType P.depth t
 | _=>false
theorem EW.appR1 {o:Oper} {s x:Operand} {sT xT:TypeId} {bytes b n bx:Nat} {xs:List α} {a:α} (h:RowOk g sz) (ho:o.op=.call ⟨.builtin .append,⟨[s,x]⟩,⟨[sT,xT]⟩⟩) (ht:appT P sT xT=some (sz,bytes)) (hs:lv l s=some (.slice (some ⟨b,0,none⟩) n n)) (hx:lv l x=some (.slice (some ⟨bx,0,none⟩) 1 1))
  (hb:L[b]?=some (.gro sz (rowsC g xs))) (hbx:L[bx]?=some (.cells 0 (g a))) (hn:xs.length=n) (hbd:(2*(n+1)+2048)*bytes≤281474976710656) :
  EW P n0 L l (.raw o) (fun v K=>v=.slice (some ⟨L.length,0,none⟩) (n+1) (n+1)∧K=L.set b .dead++[.gro sz (rowsC g (xs++[a]))]):=by
 rw [rowsC_append,rowsC_one]
 refine EW.appg ho ht hs hx hb (by rw [rowsC_length h,hn]) (rowsC_still h xs) ?_ (h.still a) hbd
 have h1:Nat.ble (0+(0+1)*sz) (g a).length=true:=Nat.ble_eq_true_of_le (by rw [h.len]; omega)
 have h3:((g a).drop 0).take ((0+1)*sz)=g a:=by rw [List.drop_zero,List.take_of_length_le]; rw [h.len]; omega
 simp only [lslc,lcells,hbx,h1,h3,cond_true]
theorem S_wk {ss ss1:List Step} {l1:Env} {T T1:Taken} {L1 L2:LH} (st:List Nat) (h:arun st ss l T L=(ss1,l1,T1,L1)) (hw:∀ X w0 E w,Rep X w0 E L1 w→Rep X w0 E L2 w) (hn:LSt P n0 ss1 K l1 T1 L2):LSt P n0 ss K l T L :=
 arun_ok st ss l T L h ⟨fun X w0 E0 w E l' F h0 hE hR hl hT=>hn.go X w0 E0 w E l' F h0 hE (hw _ _ _ _ hR) hl hT⟩
theorem Nx.goL {b:MC} (h:LWp P n0 b Q l L):Nx n0 (LWp P n0 b Q) l L:=Nx.go h
theorem seqN_keep:∀ (ks:List Nat) (n:Nat),(ks.all fun k=>Nat.blt k n)=true→keepOk (seqN 0 n) ks=true
 | [],_,_=>rfl
 | k::ks,n,h=>by
  simp only [List.all_cons,Bool.and_eq_true] at h
  have hk:k<n:=Nat.le_of_ble_eq_true h.1
  simp only [keepOk,seqN_get n 0 k hk,Nat.zero_add,Nat.beq_refl,seqN_keep ks n h.2,Bool.and_self]
theorem RetQ.keep {res:List RV} {R:Value→LH→Prop} {us:List Value} {v:Value} {L1:LH} (h:lres l L res=some us) (h0:(n0.keep.all fun k=>Nat.blt k n0.n)=true) (h1:letGoV (seqN 0 n0.n) L (lret us)=some v) (h2:letGo (seqN 0 n0.n) L=some L1) (hr:R v L1):RetQ n0 res R .ret l L :=
 RetQ.pick (seqN 0 n0.n) h (seqN_keep _ _ h0) h1 h2 hr (by rw [seqN_length]; exact Nat.ble_eq_true_of_le (Nat.le_refl _))
theorem RetQ.keepN {res:List RV} {R:Value→LH→Prop} {us:List Value} {v:Value} {L1:LH} (h:lres l L res=some us) (h0:(n0.keep.all fun k=>Nat.blt k n0.n)=true) (h1:letGoV (seqN 0 n0.n) L (lret us)=some v) (h2:letGo (seqN 0 n0.n) L=some L1) (hr:R v L1):RetQ n0 res R .normal l L :=
 RetQ.end (seqN 0 n0.n) h (seqN_keep _ _ h0) h1 h2 hr (by rw [seqN_length]; exact Nat.ble_eq_true_of_le (Nat.le_refl _))
theorem EWd.callF {keep:List Nat} {f:FuncId} {args:List Operand} {vs us:List Value} {Lc L1 K2:LH} {v1 v2:Value} (φ:List Nat) (ht:TrK P [] keep f us Lc (fun v K=>v=v1∧K=L1)) (hv:lvs l args=some vs) (he:us.map (rnV L.length φ)=vs) (hn:φ.Nodup) (hp:partL L φ φ Lc) (hm:nmL (dropped keep 0 φ) φ 0 L=true)
  (h2:rnV (L.length+L1.length) (phi2 φ L.length L1) v1=v2) (hK:joinL φ L L1=K2):EWd P n0 φ (dropped keep 0 φ) L l (.call f args) (fun v K=>v=v2∧K=K2) :=
 (EWd.call φ ht hv he (Part.of hn hp) handed_nil hm).mono fun v K ⟨v',L',⟨h3,h4⟩,h5,h6⟩=>by subst h3; subst h4; exact ⟨h5.trans h2,h6.trans hK⟩
end
def fNp {β:Sort _}:Nat→(Nat→β)→β
 | 0,k=>k 0
 | n+1,k=>k (n+1)
theorem fNp_eq {β:Sort _} (n:Nat) (k:Nat→β):fNp n k=k n:=by cases n <;> rfl
theorem rn0_still {v:Value} {N:Nat} {φ:List Nat} (h:stillS v=true):rn0 N φ v=v:=by
 cases v <;> first | rfl | skip
 case pointer a=>cases a <;> first | rfl | cases h
 case slice a _ _=>cases a <;> first | rfl | cases h
 case map a=>cases a <;> first | rfl | cases h
theorem rnS_still {v:Value} {N:Nat} {φ:List Nat} (h:stillS v=true):rnS N φ v=v:=by
 unfold rnS
 split
 ·rename_i f a c
  simp only [stillS,Bool.and_eq_true] at h
  have h1:a=[]:=by cases a with
   | nil=>rfl
   | cons=>cases h.1
  have h2:c=[]:=by cases c with
   | nil=>rfl
   | cons=>cases h.2
  subst h1; subst h2; rfl
 ·exact rn0_still h
theorem rn1_still {v:Value} {N:Nat} {φ:List Nat} (h:still v=true):rn1 N φ v=v:=by
 unfold rn1
 split
 ·rename_i cs
  have h:cs.all stillS=true:=h
  congr 2
  exact List.map_congr_left (g:=id) (fun a ha=>rnS_still (List.all_eq_true.1 h a ha)) |>.trans (by simp)
 ·rename_i hn
  have:stillS v=true:=by
   unfold still at h
   split at h
   ·rename_i cs; exact absurd rfl (hn cs)
   ·exact h
  exact rnS_still this
theorem rnV_still {v:Value} {N:Nat} {φ:List Nat} (h:stillT v=true):rnV N φ v=v:=by
 unfold rnV
 split
 ·rename_i vs
  have h:vs.all still=true:=h
  congr 2
  exact List.map_congr_left (g:=id) (fun a ha=>rn1_still (List.all_eq_true.1 h a ha)) |>.trans (by simp)
 ·rename_i hn
  have:still v=true:=by
   unfold stillT at h
   split at h
   ·rename_i cs; exact absurd rfl (hn cs)
   ·exact h
  exact rn1_still this
section
variable {φ:List Nat} {n N N':Nat}
theorem rn_same {b:Nat} (hφ:φ.length=n) (h:okN (seqN 0 n) n b=true):rn N φ b=rn N' φ b:=by
 have hb:b<n:=by
  unfold okN at h
  split at h
  ·rename_i k hk
   have:=(List.getElem?_eq_some_iff.1 hk).1
   rwa [seqN_length] at this
  ·cases h
 unfold rn
 rw [List.getElem?_eq_getElem (by omega)]
 rfl
theorem rn0_same {v:Value} (hφ:φ.length=n) (h:ok0 (seqN 0 n) n v=true):rn0 N φ v=rn0 N' φ v:=by
 cases v <;> first | rfl | skip
 case pointer a=>rcases a with _ | ⟨b,o,_ | s⟩ <;> first | rfl | (simp only [rn0,rnA,rn_same (N:=N) (N':=N') hφ h])
 case slice a _ _=>rcases a with _ | ⟨b,o,_ | s⟩ <;> first | rfl | (simp only [rn0,rnA,rn_same (N:=N) (N':=N') hφ h])
 case map a=>cases a <;> first | rfl | (simp only [rn0,rn_same (N:=N) (N':=N') hφ h])
theorem rnS_same {v:Value} (hφ:φ.length=n) (h:okS (seqN 0 n) n v=true):rnS N φ v=rnS N' φ v:=by
 unfold rnS
 split
 ·rename_i f a c
  simp only [okS,Bool.and_eq_true] at h
  congr 2
  ·exact List.map_congr_left fun x hx=>rn0_same hφ (List.all_eq_true.1 h.1 x hx)
  ·exact List.map_congr_left fun x hx=>rn0_same hφ (List.all_eq_true.1 h.2 x hx)
 ·rename_i hn
  refine rn0_same hφ ?_
  unfold okS at h
  split at h
  ·rename_i f a c; exact absurd rfl (hn f a c)
  ·exact h
theorem rn1_same {v:Value} (hφ:φ.length=n) (h:ok1 (seqN 0 n) n v=true):rn1 N φ v=rn1 N' φ v:=by
 unfold rn1
 split
 ·rename_i cs
  congr 2
  exact List.map_congr_left fun x hx=>rnS_same hφ (List.all_eq_true.1 h x hx)
 ·rename_i hn
  refine rnS_same hφ ?_
  unfold ok1 at h
  split at h
  ·rename_i cs; exact absurd rfl (hn cs)
  ·exact h
theorem rnB_same {x:LB} (hφ:φ.length=n) (h:okB (seqN 0 n) n x=true):rnB N φ x=rnB N' φ x:=by
 cases x <;> first | rfl | skip
 case cells sz vs =>
  simp only [rnB]
  congr 1
  exact List.map_congr_left fun y hy=>rnS_same hφ (List.all_eq_true.1 h y hy)
 case map m c =>
  simp only [rnB]
  congr 1
  refine List.map_congr_left fun y hy=>?_
  have:=List.all_eq_true.1 h y hy
  simp only [Bool.and_eq_true] at this
  rw [rn1_same (N':=N') hφ this.1,rn1_same (N':=N') hφ this.2]
 case iter m a b c =>
  cases m with
  | none=>rfl
  | some q=>simp only [rnB,Option.map_some]; rw [rn_same (N:=N) (N':=N') hφ h]
end
def closedL (L:LH):Bool:=L.all (okB (seqN 0 L.length) L.length)
theorem jset_self {M:LH}:∀ (φ:List Nat) (r:LH),(∀ (k:Nat) (x:LB),r[k]?=some x→∃ j,φ[k]?=some j∧M[j]?=some x)→jset M φ r=M
 | [],r,_=>by simp [jset]
 | k::φ,[],_=>by simp [jset]
 | k::φ,x::r,h=>by
  obtain ⟨j,h1,h2⟩:=h 0 x rfl
  simp at h1; subst h1
  have e:M.set k x=M:=by
   apply List.ext_getElem?
   intro i
   rw [List.getElem?_set]
   split
   ·rename_i e; subst e; rw [h2,if_pos (List.getElem?_eq_some_iff.1 h2).1]
   ·rfl
  simp only [jset,e]
  exact jset_self φ r fun i y hy=>by simpa using h (i+1) y (by simpa using hy)
theorem joinL_self {φ:List Nat} {M L:LH} (hp:Part φ M L) (hc:closedL L=true):joinL φ M L=M:=by
 unfold joinL phi2
 rw [hp.len,Nat.sub_self,List.drop_length,List.take_length]
 simp only [seqN,List.append_nil,List.map_nil]
 refine jset_self φ _ fun k x hx=>?_
 rw [List.getElem?_map] at hx
 cases hq:L[k]? with
 | none=>rw [hq] at hx; cases hx
 | some y =>
  rw [hq] at hx; cases hx
  obtain ⟨j,h1,h2⟩:=hp.blk k y hq
  refine ⟨j,h1,?_⟩
  rw [h2,rnB_same (N':=M.length+L.length) hp.len (List.all_eq_true.1 hc y (List.mem_of_getElem? hq))]
section
variable {P:Program} {n0:NA} {Q:Exit→Env→LH→Prop} {l:Env} {L:LH} {K:Env→LH→Prop}
theorem EWd.callP {f:FuncId} {args:List Operand} {vs us:List Value} {Lc:LH} {v1:Value} (φ:List Nat) (ht:Tr P f us Lc (fun v K=>v=v1∧K=Lc)) (hv:lvs l args=some vs) (he:us.map (rnV L.length φ)=vs) (hn:φ.Nodup) (hp:partL L φ φ Lc) (hc:closedL Lc=true) (hs:stillT v1=true) :
  EWd P n0 φ [] L l (.call f args) (fun v K=>v=v1∧K=L):=by
 have e:=dropped_seq φ 0 Lc.length (by rw [(Part.of hn hp).len]; omega)
 have h:=EWd.call (n0:=n0) φ ht hv he (Part.of hn hp) handed_nil (by rw [e]; exact nm_nilL φ 0 L)
 rw [e] at h
 exact h.mono fun v K ⟨v',L',⟨h3,h4⟩,h5,h6⟩=>by
  subst h3; subst h4
  exact ⟨h5.trans (rnV_still hs),h6.trans (joinL_self (Part.of hn hp) hc)⟩
theorem nm_nilV (v:Value):nmV [] v=true:=by
 unfold nmV
 split
 ·simp [nm_nil1]
 ·exact nm_nil1 _
theorem nm_nilE:∀ (l:Env),nmE [] l=true
 | []=>rfl
 | (_,v)::r=>by simp [nmE,nm_nilV,nm_nilE r]
theorem nm_nilT:∀ (T:Taken),nmT [] T=true
 | []=>rfl
 | (_,_,l,v)::r=>by simp [nmT,nm_nilV,nm_nilE,nm_nilT r]
theorem disj_nil:∀ (ks:List Nat),disj [] ks=true
 | []=>rfl
 | k::ks=>by simp [disj,inL,disj_nil ks]
def nV {β:Sort _}:Value→(Value→β)→β
 | .pointer (some ⟨b,o,none⟩),k=>fNp b fun b=>k (.pointer (some ⟨b,o,none⟩))
 | .slice (some ⟨b,o,none⟩) n c,k=>fNp b fun b=>k (.slice (some ⟨b,o,none⟩) n c)
 | .map (some b),k=>fNp b fun b=>k (.map (some b))
 | .int i n,k=>k (.int i n)
 | .bool b,k=>k (.bool b)
 | .agg ⟨cs⟩,k=>k (.agg ⟨cs⟩)
 | .tuple ⟨cs⟩,k=>k (.tuple ⟨cs⟩)
 | v,k=>k v
theorem nV_eq {β:Sort _} (v:Value) (k:Value→β):nV v k=k v:=by
 unfold nV; split <;> first | rfl | simp only [fNp_eq]
def nVs {β:Sort _}:List Value→(List Value→β)→β
 | [],k=>k []
 | v::r,k=>nV v fun v=>nVs r fun r=>k (v::r)
theorem nVs_eq {β:Sort _}:∀ (l:List Value) (k:List Value→β),nVs l k=k l
 | [],k=>rfl
 | v::r,k=>by simp only [nVs,nV_eq,nVs_eq r]
def nB {β:Sort _}:LB→(LB→β)→β
 | .cells sz vs,k=>nVs vs fun vs=>k (.cells sz vs)
 | .gro sz vs,k=>k (.gro sz vs)
 | .dead,k=>k .dead
 | .map m c,k=>k (.map m c)
 | .abs A F,k=>k (.abs A F)
 | x,k=>k x
theorem nB_eq {β:Sort _} (x:LB) (k:LB→β):nB x k=k x:=by
 unfold nB; split <;> first | rfl | simp only [nVs_eq]
def nL {β:Sort _}:LH→(LH→β)→β
 | [],k=>k []
 | x::r,k=>nB x fun x=>nL r fun r=>k (x::r)
theorem nL_eq {β:Sort _}:∀ (l:LH) (k:LH→β),nL l k=k l
 | [],k=>rfl
 | v::r,k=>by simp only [nL,nB_eq,nL_eq r]
def nE {β:Sort _}:Env→(Env→β)→β
 | [],k=>k []
 | (t,v)::r,k=>nV v fun v=>nE r fun r=>k ((t,v)::r)
theorem nE_eq {β:Sort _}:∀ (l:Env) (k:Env→β),nE l k=k l
 | [],k=>rfl
 | (t,v)::r,k=>by simp only [nE,nV_eq,nE_eq r]
theorem LSt.nf {ss:List Step} {T:Taken} (h:nE l fun l=>nL L fun L=>LSt P n0 ss K l T L):LSt P n0 ss K l T L:=by rw [nE_eq,nL_eq] at h; exact h
end
end Go.Tum
end
section
namespace Go.Tum
open Go Go.RowKit Go.WideShapes Go.ChangeShapes Go.Deep
section
variable {P:Program}
theorem Rep.deads (X:Nat→Prop) (w:World) (E:Emb):Rep X w E (List.replicate E.length .dead) w :=
 ⟨Fr.refl _ w,by simp,fun k x r hx hr b hf=>by
   have:=List.mem_of_getElem? hx
   rw [List.eq_of_mem_replicate this] at hf; exact hf.elim,fun k x r hx hr=>by
   have:=List.mem_of_getElem? hx
   rw [List.eq_of_mem_replicate this]; trivial,fun k k' x x' r r' b hx _ _ _ hf _=>by
   have:=List.mem_of_getElem? hx
   rw [List.eq_of_mem_replicate this] at hf; exact hf.elim⟩
theorem TrK.does {A:Args} {keep:List Nat} {f:FuncId} {vs vs':List Value} {L:LH} {R:Value→LH→Prop} (h:TrK P A keep f vs L R) (E:Emb) (w:World) (hL:L=List.replicate E.length .dead) (hA:∀ x∈A,inL x.1 keep=true∧ArgAt (fun _=>False) w E x.1 x.2.1 x.2.2) (hv:L2 (VR E) vs vs') (hT:TabOk P (fun _=>False) w:=by exact TabOk.none (by kernel_rfl)) :
  Does P f vs'.toArray w fun v' w'=>∃ E' v L',VR E' v v'∧R v L'∧Fr (fun _=>False) w w':=by
 subst hL
 refine (h (fun _=>False) w w E vs' ⟨by simp,hA,hT⟩ (Rep.deads _ w E) hv).2.mono ?_
 rintro v' w' ⟨E',v,L',_,_,h3,h4,h5⟩
 exact ⟨E',v,L',h3,h5,h4.fr⟩
theorem TrK.law {A:Args} {keep:List Nat} {f:FuncId} {vs vs':List Value} {L:LH} (h:TrK P A keep f vs L (fun v _=>v=.bool true)) (E:Emb) (w:World) (hL:L=List.replicate E.length .dead) (hA:∀ x∈A,inL x.1 keep=true∧ArgAt (fun _=>False) w E x.1 x.2.1 x.2.2) (hv:L2 (VR E) vs vs') (hT:TabOk P (fun _=>False) w:=by exact TabOk.none (by kernel_rfl)) :
  Does P f vs'.toArray w fun v' w'=>v'=.bool true∧Fr (fun _=>False) w w' :=
 (h.does E w hL hA hv hT).mono fun v' w' ⟨E',v,L',h1,h2,h3⟩=>by
  subst h2
  exact ⟨h1,h3⟩
end
section
variable {H:Type} {enc:TypeId × Value→H} {P:Program} {w:World}
def SlIn (w:World) (sz:Nat) (v:Value) (n:Nat) (get:Nat→List Value):Prop :=
 n≤9223372036854775807∧∃ r:Nat × Nat × Nat,∀ (E:Emb) (k:Nat),E[k]?=some r→VR E (.slice (some ⟨k,0,none⟩) n n) v∧ArgAt (fun _=>False) w E k (n*sz) (rowG sz get)
theorem open_in {t e:TypeId} {d:Nat} {ks:List CK} {v:Value} {dd:DataW H} {p:List MemPlace} (ht:P.underlying t=some (.slice e)) (hk:flat P d e=some ks) (hc:P.cellsOf e=ks.length) (hpos:0<ks.length)
  (hv:∃ a len cap,v=.slice a len cap) (h:DataW.Trod enc P w 0 (fun _=>true) true t v dd p):∃ n get,SlIn w ks.length v n get∧∀ i,i<n→Fits ks (get i):=by
 obtain ⟨a0,len,cap,rfl⟩:=hv
 obtain ⟨fuel,hf⟩:=h
 have hf':DataW.trod enc P w 0 (fun _=>true) true fuel t [.slice a0 len cap]=some (dd,p):=hf
 rcases open_slice ht hf' with ⟨h0,_⟩ | ⟨a,len',cap',m,nn,D,Pl,h0,_,hl,hm,hmm,hx,hel⟩
 ·cases h0
  exact ⟨0,fun _=>[],⟨by omega,(0,0,0),fun E k hE=>⟨⟨rfl,_,hE,.inr ⟨rfl,rfl,_,rfl⟩⟩,fun h0=>by omega⟩⟩,fun i hi=>absurd hi (by omega)⟩
 ·cases h0
  have hm':m=cap:=by rw [hmm]; simp
  subst hm'
  obtain ⟨get,hget⟩:=choose_lt (n:=m) (p:=fun i cs'=>w.cells? 0 (a.add (i*P.cellsOf e)) (P.cellsOf e)=some cs'∧DataW.trod enc P w 0 (fun _=>true) true nn e cs'=some (D i,Pl i)) (fun i hi=>hel i (by omega))
  have hmax:len≤9223372036854775807:=by unfold maxLen at hm; omega
  have hfit:∀ i,i<m→Fits ks (get i):=fun i hi=>flat_fits d e ks hk nn _ _ (hget i hi).2
  obtain ⟨b,o,sp⟩:=a
  have hcell:∀ i,i<m→∀ (j:Nat) (u:Value),(get i)[j]?=some u→w.cell? ((⟨b,o,sp⟩:Addr).add (i*ks.length+j))=some u:=by
   intro i hi j u hu
   have:=(cells_cell (hget i hi).1).2 j u hu
   rw [add_add,hc] at this
   exact this
  rcases Nat.eq_zero_or_pos m with hm0 | hm0
  ·subst hm0
   have hl0:len=0:=by omega
   subst hl0
   exact ⟨0,get,⟨by omega,(0,0,0),fun E k hE=>⟨⟨rfl,_,hE,.inr ⟨rfl,rfl,_,rfl⟩⟩,fun h0=>by omega⟩⟩,fun i hi=>absurd hi (by omega)⟩
  ·have h00:∃ u,(get 0)[0]?=some u:=by
    have:0<(get 0).length:=by rw [(hfit 0 hm0).1]; exact hpos
    exact ⟨_,List.getElem?_eq_getElem this⟩
   have hsp:sp=none:=by
    obtain ⟨u,hu⟩:=h00
    have:=hcell 0 hm0 0 u hu
    simp only [Nat.zero_mul,Nat.add_zero,Addr.add,if_true] at this
    cases sp with
    | none=>rfl
    | some x =>
     unfold World.cell? at this
     split at this
     ·simp at this
     ·cases this
   subst hsp
   have hb:b<w.heap.size:=by
    obtain ⟨u,hu⟩:=h00
    have:=hcell 0 hm0 0 u hu
    rw [add_none] at this
    unfold World.cell? at this
    split at this
    ·rename_i hq; exact (Array.getElem?_eq_some_iff.1 hq).1
    ·cases this
   refine ⟨len,get,⟨hmax,(b,o,m-len),fun E k hE=>⟨⟨rfl,_,hE,.inl ⟨_,_,rfl,.inl ⟨by simp,by simp; omega⟩⟩⟩,fun h0=>⟨_,hE,hb,fun x=>x,fun i hi=>?_⟩⟩⟩,fun i hi=>hfit i (by omega)⟩
   have hdiv:i / ks.length<len:=Nat.div_lt_of_lt_mul (by rw [Nat.mul_comm]; exact hi)
   have hmod:i % ks.length<ks.length:=Nat.mod_lt _ hpos
   have hlen:(get (i / ks.length)).length=ks.length:=(hfit _ (by omega)).1
   have hu:(get (i / ks.length))[i % ks.length]?=some (get (i / ks.length))[i % ks.length]:=List.getElem?_eq_getElem (by omega)
   refine ⟨_,?_,rfl⟩
   have:=hcell (i / ks.length) (by omega) (i % ks.length) _ hu
   rw [add_none,Nat.mul_comm,Nat.div_add_mod] at this
   show w.cell? ⟨b,o+i,none⟩=_
   rw [this,List.getD_eq_getElem?_getD,hu]; rfl
theorem Fits.nil {cs:List Value} (h:Fits [] cs):cs=[]:=List.length_eq_zero_iff.1 h.1
theorem Fits.int {k:IntKind} {ks:List CK} {cs:List Value} (h:Fits (some k::ks) cs):∃ n r,cs=.int k n::r∧(Lit.int k n).wf=true∧Fits ks r:=by
 obtain ⟨hl,hf⟩:=h
 cases cs with
 | nil=>cases hl
 | cons a r =>
  obtain ⟨v,h1,n,rfl,hw⟩:=hf 0 (some k) rfl
  simp at h1; subst h1
  exact ⟨n,r,rfl,hw,by simpa using hl,fun i k hk=>by simpa using hf (i+1) k (by simpa using hk)⟩
end
end Go.Tum
end
section
namespace Go.Tum
open Go
section
variable {P:Program} {n0:NA} {l:Env} {L:LH}
theorem wk_new {b:Nat} {vs:List Value} (sz:Nat) (hb:L[b]?=some (.cells 0 vs)) (hne:vs≠[]) (hsz:0<sz) (hs:vs.all stillS=true):∀ X w0 E w,Rep X w0 E L w→Rep X w0 E (L.set b (.gro sz vs)) w:=by
 intro X w0 E w hR
 obtain ⟨r,hr⟩:=hR.ent hb
 obtain ⟨cs,hB,hl2,hroom,hz⟩:=hR.blk b _ r hb hr
 have h0:=hz rfl
 refine hR.upd hb hr (Fr.refl _ w) (.inr ⟨hne,hsz,cs,hB,L2.eq_still hs hl2,?_⟩) (by rw [gro_foot hne]; exact fun _ h=>.inl h)
 rw [h0] at hroom ⊢
 simpa using hroom
theorem lslc_rows {α:Type} {g:α→List Value} {sz:Nat} {b o i m c:Nat} {ys:List α} (h:RowOk g sz) (hb:L[b]?=some (.gro sz (rowsC g ys))) (ho:o=i*sz) (hm:i+m≤ys.length) (hz:0<sz):lslc L sz (.slice (some ⟨b,o,none⟩) m c)=some (rowsC g ((ys.drop i).take m)):=by
 subst ho
 cases m with
 | zero=>simp [lslc,rowsC]
 | succ m =>
  have hle:(i+(m+1))*sz≤ys.length*sz:=Nat.mul_le_mul_right _ hm
  have hpos:0<(m+1)*sz:=Nat.mul_pos (by omega) hz
  rw [Nat.add_mul] at hle
  have hlen:=rowsC_length h ys
  have h1:Nat.ble (i*sz+(m+1)*sz) (rowsC g ys).length=true:=Nat.ble_eq_true_of_le (by omega)
  have h2:(rowsC g ys).isEmpty=false:=by
   cases hq:rowsC g ys with
   | nil=>rw [hq] at hlen; simp at hlen; omega
   | cons=>rfl
  have h3:((rowsC g ys).drop (i*sz)).take ((m+1)*sz)=rowsC g ((ys.drop i).take (m+1)):=by rw [rowsC_drop h,rowsC_take h]
  have h4:=rowsC_still h ((ys.drop i).take (m+1))
  simp only [lslc,lcells,hb,h1,h2,h3,h4,Bool.and_self,Bool.not_false,cond_true]
theorem EW.appRS {α:Type} {g:α→List Value} {sz:Nat} {o:Oper} {s x:Operand} {sT xT:TypeId} {bytes b n bx ox i m cx:Nat} {xs ys:List α} (h:RowOk g sz) (ho:o.op=.call ⟨.builtin .append,⟨[s,x]⟩,⟨[sT,xT]⟩⟩) (ht:appT P sT xT=some (sz,bytes)) (hs:lv l s=some (.slice (some ⟨b,0,none⟩) n n)) (hx:lv l x=some (.slice (some ⟨bx,ox,none⟩) m cx))
  (hb:L[b]?=some (.gro sz (rowsC g xs))) (hbx:L[bx]?=some (.gro sz (rowsC g ys))) (hox:ox=i*sz) (hn:xs.length=n) (hm:i+m≤ys.length) (hz:0<sz) (hbd:(2*(n+m)+2048)*bytes≤281474976710656) :
  EW P n0 L l (.raw o) (fun v K=>v=.slice (some ⟨L.length,0,none⟩) (n+m) (n+m)∧K=L.set b .dead++[.gro sz (rowsC g (xs++(ys.drop i).take m))]):=by
 rw [rowsC_append]
 exact EW.appg ho ht hs hx hb (by rw [rowsC_length h,hn]) (rowsC_still h xs) (lslc_rows h hbx hox hm hz) (rowsC_still h _) hbd
end
end Go.Tum
end
section
namespace Go.Sh
open Go Go.Tum
abbrev t (n:Nat):Operand:=.tmp n
abbrev i (n:Int):Operand:=.const (.int .i64 n)
abbrev m (d s:Nat):Step:=.q 0 (some d) none (.mov (.tmp s)) false
abbrev q (d:Nat) (op:QOp):Step:=.q 0 (some d) none op false
abbrev l (d s:Nat):Step:=.q 0 (some d) none (.ld (.tmp s)) true
abbrev k (j d:Nat) (op:QOp):Step:=.q j (some d) none op false
abbrev r (j d:Nat) (op:QOp):Step:=.q j (some d) none op true
abbrev g (j d c:Nat) (op:QOp):Step:=.q j (some d) (some (c,true)) op false
abbrev h (j d c:Nat) (op:QOp):Step:=.q j (some d) (some (c,true)) op true
abbrev n (j d c:Nat) (op:QOp):Step:=.q j (some d) (some (c,false)) op false
abbrev p (j d c:Nat) (op:QOp):Step:=.q j (some d) (some (c,false)) op true
abbrev e (d:Nat) (op:EOp) (pd:List Nat):Step:=.e (some d) none op pd
abbrev w (op:EOp) (pd:List Nat):Step:=.e none none op pd
abbrev o (x:Op) (ty:TypeId):Oper:=⟨none,x,ty, "",[].toArray,none⟩
abbrev s (a b:MC):MC:=.seq a b
abbrev x (l:List Step) (b:MC):MC:=.seq (.reg l) b
end Go.Sh
namespace Go.Proofs.Ythefbejopmbnbaa
open Go Go.Tum Go.Sh
abbrev EOk (k nt:Nat) (m:MC) (f:Func):Prop:=∀ {args:List Value} {w:World} {R:Value→World→Prop},Nat.ble args.length nt=true→MWp Try.prog m (RQ Try.prog f R) (initEnv 0 args) w→Does Try.prog k args.toArray w R
def m_tumbrellaw21_ReachSteps:MC:=(x [q 6 (.mov (.const (.bool false)))] (x [m 13 0,e 14 (.call 7 [t 13]) [],m 12 14,q 15 (.ext (t 12) 0),q 16 (.ext (t 12) 1),m 7 15,m 8 16] (x [m 18 7,m 19 1,m 20 2,e 21 (.call 8 [t 18,t 19,t 20]) [],m 17 21,q 22 (.ext (t 17) 0),q 23 (.ext (t 17) 1),m 9 22,m 10 23] (x [m 24 8,m 25 2,e 26 (.call 9 [t 24,t 25]) [],m 11 26] (s (x [m 27 11,q 28 (.bin .lss (t 27) (i 0)),m 29 28,n 0 30 29 (.mov (t 8)),n 0 31 29 (.mov (t 1)),.e (some 32) (some (29,false)) (.bs1 3 1 (t 31)) [],n 0 33 29 (.mov (t 8)),n 0 34 29 (.len (t 33)),.e (some 35) (some (29,false)) (.call 10 [t 30,t 32,t 34]) [],n 0 36 29 (.mov (t 11)),n 0 37 29 (.idx (t 35) (t 36) 1),p 0 38 29 (.ld (t 37)),n 0 39 29 (.un .not (t 38)),q 40 (.pick (t 29) (.const (.bool true)) (t 39))] (.cond (t 40) (x [m 41 10,q 42 (.un .not (t 41)),m 43 42,g 0 44 43 (.mov (t 9)),g 0 45 43 (.bin .eql (t 44) (i 0)),q 46 (.pick (t 43) (t 45) (.const (.bool false))),m 47 46,.e (some 48) (some (47,true)) (.call 11 []) [],q 49 (.pick (t 47) (t 48) (.const (.bool false))),m 6 49] .ret) .skip)) (x [m 50 10,m 51 50,g 0 52 51 (.mov (t 9)),g 0 53 51 (.bin .geq (t 52) (i 0)),q 54 (.pick (t 51) (t 53) (.const (.bool false))),m 55 54,g 0 56 55 (.mov (t 8)),g 0 57 55 (.mov (t 1)),.e (some 58) (some (55,true)) (.bs1 3 1 (t 57)) [],g 0 59 55 (.mov (t 9)),.e (some 60) (some (55,true)) (.call 10 [t 56,t 58,t 59]) [],g 0 61 55 (.mov (t 11)),g 0 62 55 (.idx (t 60) (t 61) 1),h 0 63 55 (.ld (t 62)),q 64 (.pick (t 55) (t 63) (.const (.bool false))),m 65 64,g 0 66 65 (.mov (t 9)),g 0 67 65 (.bin .eql (t 66) (i 0)),g 0 68 65 (.mov (t 67)),n 0 69 68 (.mov (t 8)),n 0 70 68 (.mov (t 1)),.e (some 71) (some (68,false)) (.bs1 3 1 (t 70)) [],n 0 72 68 (.mov (t 9)),n 0 73 68 (.bin .sub (t 72) (i 1)),.e (some 74) (some (68,false)) (.call 10 [t 69,t 71,t 73]) [],n 0 75 68 (.mov (t 11)),n 0 76 68 (.idx (t 74) (t 75) 1),p 0 77 68 (.ld (t 76)),n 0 78 68 (.un .not (t 77)),g 0 79 65 (.pick (t 68) (.const (.bool true)) (t 78)),q 80 (.pick (t 65) (t 79) (.const (.bool false))),m 81 80,.e (some 82) (some (81,true)) (.call 11 []) [],q 83 (.pick (t 81) (t 82) (.const (.bool false))),m 6 83] .ret))))))
def m_tumbrellaw21_ReachGrows:MC:=(x [q 6 (.mov (.const (.bool false)))] (x [m 15 0,e 16 (.call 7 [t 15]) [],m 14 16,q 17 (.ext (t 14) 0),q 18 (.ext (t 14) 1),m 7 17,m 8 18] (x [m 19 7,m 20 1,e 21 (.call 13 [t 20]) [],e 22 (.call 12 [t 19,t 21]) [],m 9 22] (x [m 23 7,e 24 (.bs0 3) [],m 25 1,e 26 (.call 13 [t 25]) [],e 27 (.raw (o (.call ⟨(.builtin .append),[t 24,t 26].toArray,[31,31].toArray⟩) 31)) [],m 28 2,e 29 (.call 13 [t 28]) [],e 30 (.raw (o (.call ⟨(.builtin .append),[t 27,t 29].toArray,[31,31].toArray⟩) 31)) [],e 31 (.call 12 [t 23,t 30]) [],m 10 31] (x [q 11 (.mov (i 0))] (s (x [m 32 10,q 33 (.len (t 32)),q 34 (.mov (i 0))] (.block 0 (.loop (x [q 35 (.bin .lss (t 34) (t 33))] (s (.cond (t 35) .skip (.exit 0)) (s (.block 1 (x [q 36 (.idx (t 32) (t 34) 1),l 37 36,m 13 37] (x [m 38 11,m 39 9,q 40 (.len (t 39)),q 41 (.bin .lss (t 38) (t 40)),m 42 41,g 0 43 42 (.mov (t 9)),g 0 44 42 (.mov (t 11)),g 0 45 42 (.idx (t 43) (t 44) 1),h 0 46 42 (.ld (t 45)),g 0 47 42 (.mov (t 13)),g 0 48 42 (.bin .eql (t 46) (t 47)),q 49 (.pick (t 42) (t 48) (.const (.bool false)))] (.cond (t 49) (.reg [m 50 11,q 51 (.bin .add (t 50) (i 1)),m 11 51]) .skip)))) (.reg [q 52 (.bin .add (t 34) (i 1)),m 34 52]))))))) (x [m 53 11,m 54 9,q 55 (.len (t 54)),q 56 (.bin .eql (t 53) (t 55)),m 57 56,g 0 58 57 (.mov (t 7)),g 0 59 57 (.mov (t 9)),.e (some 60) (some (57,true)) (.call 12 [t 58,t 59]) [],g 0 61 57 (.mov (t 9)),.e (some 62) (some (57,true)) (.call 14 [t 60,t 61]) [],q 63 (.pick (t 57) (t 62) (.const (.bool false))),m 64 63,g 0 65 64 (.mov (t 7)),g 0 66 64 (.mov (t 10)),.e (some 67) (some (64,true)) (.call 12 [t 65,t 66]) [],g 0 68 64 (.mov (t 10)),.e (some 69) (some (64,true)) (.call 14 [t 67,t 68]) [],q 70 (.pick (t 64) (t 69) (.const (.bool false))),m 71 70,.e (some 72) (some (71,true)) (.call 11 []) [],q 73 (.pick (t 71) (t 72) (.const (.bool false))),m 6 73] .ret)))))))
def m_tumbrellaw21_ReachUnion:MC:=(x [q 6 (.mov (.const (.bool false)))] (x [m 13 0,e 14 (.call 7 [t 13]) [],m 12 14,q 15 (.ext (t 12) 0),q 16 (.ext (t 12) 1),m 7 15,m 8 16] (x [m 17 8,m 18 1,e 19 (.call 13 [t 18]) [],m 20 8,q 21 (.len (t 20)),e 22 (.call 10 [t 17,t 19,t 21]) [],m 23 8,m 24 2,e 25 (.call 13 [t 24]) [],m 26 8,q 27 (.len (t 26)),e 28 (.call 10 [t 23,t 25,t 27]) [],m 9 22,m 10 28] (s (x [m 29 9,q 30 (.len (t 29)),q 31 (.mov (i 0))] (.block 0 (.loop (x [q 32 (.bin .lss (t 31) (t 30))] (s (.cond (t 32) .skip (.exit 0)) (s (.block 1 (x [m 33 31,m 11 33] (.reg [m 34 9,m 35 11,m 36 9,m 37 11,q 38 (.idx (t 36) (t 37) 1),l 39 38,m 40 39,n 0 41 40 (.mov (t 10)),n 0 42 40 (.mov (t 11)),n 0 43 40 (.idx (t 41) (t 42) 1),p 0 44 40 (.ld (t 43)),q 45 (.pick (t 40) (.const (.bool true)) (t 44)),q 46 (.idx (t 34) (t 35) 1),w (.st (t 46) (t 45)) []]))) (.reg [q 47 (.bin .add (t 31) (i 1)),m 31 47]))))))) (x [m 48 7,e 49 (.bs0 3) [],m 50 1,e 51 (.call 13 [t 50]) [],e 52 (.raw (o (.call ⟨(.builtin .append),[t 49,t 51].toArray,[31,31].toArray⟩) 31)) [],m 53 2,e 54 (.call 13 [t 53]) [],e 55 (.raw (o (.call ⟨(.builtin .append),[t 52,t 54].toArray,[31,31].toArray⟩) 31)) [],e 56 (.call 12 [t 48,t 55]) [],m 57 8,m 58 9,e 59 (.call 15 [t 57,t 58]) [],e 60 (.call 14 [t 56,t 59]) [],m 61 60,.e (some 62) (some (61,true)) (.call 11 []) [],q 63 (.pick (t 61) (t 62) (.const (.bool false))),m 6 63] .ret)))))
def m_tumbrellaw21_ReachFrom:MC:=(x [q 4 (.mov (.const (.bool false)))] (x [m 11 0,e 12 (.call 7 [t 11]) [],m 10 12,q 13 (.ext (t 10) 0),q 14 (.ext (t 10) 1),m 5 13,m 6 14] (x [m 15 5,e 16 (.call 16 [t 15]) [],m 7 16] (s (x [m 17 7,q 18 (.len (t 17)),m 19 6,q 20 (.len (t 19)),q 21 (.bin .neq (t 18) (t 20))] (.cond (t 21) (x [q 4 (.mov (.const (.bool false)))] .ret) .skip)) (s (x [m 22 6,q 23 (.len (t 22)),q 24 (.mov (i 0))] (.block 0 (.loop (x [q 25 (.bin .lss (t 24) (t 23))] (s (.cond (t 25) .skip (.exit 0)) (s (.block 1 (x [m 26 24,q 27 (.idx (t 22) (t 24) 2),r 0 28 (.ldn (t 27) 2),e 9 (.new 41 [.int .i64 0,.slice none 0 0]) [],m 8 26,w (.stn (t 9) (t 28) 2) []] (x [m 29 7,k 1 30 (.mov (t 8)),k 2 31 (.idx (t 29) (t 30) 1),r 3 32 (.ld (t 31)),k 4 33 (.fld (t 9) 0),r 5 34 (.ld (t 33)),k 6 35 (.bin .neq (t 32) (t 34)),k 7 36 (.mov (t 35)),n 8 37 36 (.mov (t 5)),n 9 38 36 (.fld (t 9) 0),p 10 39 36 (.ld (t 38)),n 12 41 36 (.fld (t 9) 1),p 13 42 36 (.ld (t 41)),.e (some 40) (some (36,false)) (.call 17 [t 37,t 39]) [13,5,3],.e (some 43) (some (36,false)) (.call 14 [t 40,t 42]) [5,3],n 15 44 36 (.un .not (t 43)),k 16 45 (.pick (t 36) (.const (.bool true)) (t 44))] (.cond (t 45) (x [q 4 (.mov (.const (.bool false)))] .ret) .skip)))) (.reg [q 46 (.bin .add (t 24) (i 1)),m 24 46]))))))) (x [m 47 5,m 48 1,e 49 (.call 13 [t 48]) [],e 50 (.call 12 [t 47,t 49]) [],m 51 6,m 52 6,m 53 1,e 54 (.call 13 [t 53]) [],m 55 6,q 56 (.len (t 55)),e 57 (.call 10 [t 52,t 54,t 56]) [],e 58 (.call 15 [t 51,t 57]) [],e 59 (.call 14 [t 50,t 58]) [],m 60 59,.e (some 61) (some (60,true)) (.call 11 []) [],q 62 (.pick (t 60) (t 61) (.const (.bool false))),m 4 62] .ret))))))
theorem e_tumbrellaw21_ReachFrom:EOk 6 63 m_tumbrellaw21_ReachFrom Try.f6:=fun hn h =>
 enter Try.func6 (c:=(Try.f6.body.getD .skip)) rfl (by kernel_rfl) (Nat.le_of_ble_eq_true hn) h
def m_tumbrellaw21_made:MC:=(x [q 2 (.mov (.const (.pointer none))),q 3 (.mov (.const (.slice none 0 0)))] (x [e 8 (.call 18 []) [],m 4 8] (x [q 5 (.mov (.const (.slice none 0 0)))] (s (x [m 9 0,q 10 (.len (t 9)),q 11 (.mov (i 0))] (.block 0 (.loop (x [q 12 (.bin .lss (t 11) (t 10))] (s (.cond (t 12) .skip (.exit 0)) (s (.block 1 (x [m 13 11,q 14 (.idx (t 9) (t 11) 2),r 0 15 (.ldn (t 14) 2),e 7 (.new 41 [.int .i64 0,.slice none 0 0]) [],m 6 13,w (.stn (t 7) (t 15) 2) []] (s (x [m 16 6,q 17 (.bin .geq (t 16) (i 14))] (.cond (t 17) (.exit 0) .skip)) (s (x [q 18 (.fld (t 7) 1),l 19 18,q 20 (.len (t 19)),q 21 (.bin .gtr (t 20) (i 8))] (.cond (t 21) (.reg [q 22 (.fld (t 7) 1),l 23 22,q 24 (.slc (t 23) none (some (i 8)) 1),q 25 (.fld (t 7) 1),w (.st (t 25) (t 24)) []]) .skip)) (x [m 26 4,q 27 (.fld (t 7) 0),l 28 27,q 29 (.fld (t 7) 1),l 30 29,e 31 (.call 19 [t 26,t 28,t 30]) []] (.reg [m 32 5,r 0 33 (.ldn (t 7) 2),e 34 (.call 20 [t 32,t 33]) [],m 5 34])))))) (.reg [q 35 (.bin .add (t 11) (i 1)),m 11 35]))))))) (x [m 36 4,m 37 5,m 2 36,m 3 37] .ret)))))
theorem e_tumbrellaw21_made:EOk 7 38 m_tumbrellaw21_made Try.f7:=fun hn h =>
 enter Try.func7 (c:=(Try.f7.body.getD .skip)) rfl (by kernel_rfl) (Nat.le_of_ble_eq_true hn) h
def m_reach_Graph_Steps:MC:=(x [q 6 (.mov (i 0)),q 7 (.mov (.const (.bool false)))] (x [m 11 0,m 12 1,e 13 (.bs1 3 1 (t 12)) [],e 14 (.call 21 [t 11,t 13]) [],m 15 2,r 0 16 (.raw (o (.lookup 47 (t 14) (t 15) true) 26)),m 10 16,q 17 (.ext (t 10) 0),q 18 (.ext (t 10) 1),m 8 17,m 9 18] (x [m 19 8,m 20 9,m 6 19,m 7 20] .ret)))
theorem e_reach_Graph_Steps:EOk 8 21 m_reach_Graph_Steps Try.f8:=fun hn h =>
 enter Try.func8 (c:=(Try.f8.body.getD .skip)) rfl (by kernel_rfl) (Nat.le_of_ble_eq_true hn) h
def m_tumbrelref21_Find:MC:=(x [q 4 (.mov (i 0))] (s (x [m 7 0,q 8 (.len (t 7)),q 9 (.mov (i 0))] (.block 0 (.loop (x [q 10 (.bin .lss (t 9) (t 8))] (s (.cond (t 10) .skip (.exit 0)) (s (.block 1 (x [m 11 9,q 12 (.idx (t 7) (t 9) 2),r 0 13 (.ldn (t 12) 2),e 6 (.new 41 [.int .i64 0,.slice none 0 0]) [],m 5 11,w (.stn (t 6) (t 13) 2) []] (x [q 14 (.fld (t 6) 0),l 15 14,m 16 1,q 17 (.bin .eql (t 15) (t 16))] (.cond (t 17) (x [m 18 5,m 4 18] .ret) .skip)))) (.reg [q 19 (.bin .add (t 9) (i 1)),m 9 19]))))))) (x [q 4 (.mov (i (-1)))] .ret)))
theorem e_tumbrelref21_Find:EOk 9 20 m_tumbrelref21_Find Try.f9:=fun hn h =>
 enter Try.func9 (c:=(Try.f9.body.getD .skip)) rfl (by kernel_rfl) (Nat.le_of_ble_eq_true hn) h
def m_tumbrelref21_Within:MC:=(x [q 6 (.mov (.const (.slice none 0 0)))] (x [m 18 0,q 19 (.len (t 18)),e 20 (.raw (o (.makeSlice 29 (t 19) (t 19)) 29)) [],m 7 20] (s (x [m 21 1,q 22 (.len (t 21)),q 23 (.mov (i 0))] (.block 0 (.loop (x [q 24 (.bin .lss (t 23) (t 22))] (s (.cond (t 24) .skip (.exit 0)) (s (.block 1 (x [q 25 (.idx (t 21) (t 23) 1),l 26 25,m 9 26] (x [m 27 0,m 28 9,e 29 (.call 9 [t 27,t 28]) [],m 10 29] (x [m 30 10,q 31 (.bin .geq (t 30) (i 0))] (.cond (t 31) (.reg [m 32 7,m 33 10,q 34 (.idx (t 32) (t 33) 1),w (.st (t 34) (.const (.bool true))) []]) .skip))))) (.reg [q 35 (.bin .add (t 23) (i 1)),m 23 35]))))))) (s (x [q 11 (.mov (i 0))] (.block 2 (.loop (s (x [m 36 11,m 37 2,q 38 (.bin .lss (t 36) (t 37))] (.cond (t 38) .skip (.exit 2))) (s (.block 3 (x [e 41 (.bs0 4) [],m 42 7,e 43 (.raw (o (.call ⟨(.builtin .append),[t 41,t 42].toArray,[29,29].toArray⟩) 29)) [],m 12 43] (s (x [m 44 0,q 45 (.len (t 44)),q 46 (.mov (i 0))] (.block 4 (.loop (x [q 47 (.bin .lss (t 46) (t 45))] (s (.cond (t 47) .skip (.exit 4)) (s (.block 5 (x [m 48 46,q 49 (.idx (t 44) (t 46) 2),r 0 50 (.ldn (t 49) 2),e 14 (.new 41 [.int .i64 0,.slice none 0 0]) [],m 13 48,w (.stn (t 14) (t 50) 2) []] (x [q 51 (.fld (t 14) 1),l 52 51,q 53 (.len (t 52)),q 54 (.mov (i 0))] (.block 6 (.loop (x [q 55 (.bin .lss (t 54) (t 53))] (s (.cond (t 55) .skip (.exit 6)) (s (.block 7 (x [q 56 (.idx (t 52) (t 54) 1),l 57 56,m 16 57] (x [m 58 0,m 59 16,e 60 (.call 9 [t 58,t 59]) [],m 17 60] (x [m 61 7,m 62 13,q 63 (.idx (t 61) (t 62) 1),l 64 63,m 65 64,g 0 66 65 (.mov (t 17)),g 0 67 65 (.bin .geq (t 66) (i 0)),q 68 (.pick (t 65) (t 67) (.const (.bool false)))] (.cond (t 68) (.reg [m 69 12,m 70 17,q 71 (.idx (t 69) (t 70) 1),w (.st (t 71) (.const (.bool true))) []]) .skip))))) (.reg [q 72 (.bin .add (t 54) (i 1)),m 54 72]))))))))) (.reg [q 73 (.bin .add (t 46) (i 1)),m 46 73]))))))) (.reg [m 74 12,m 7 74])))) (.reg [m 39 11,q 40 (.bin .add (t 39) (i 1)),m 11 40])))))) (x [m 75 7,m 6 75] .ret)))))
theorem e_tumbrelref21_Within:EOk 10 76 m_tumbrelref21_Within Try.f10:=fun hn h =>
 enter Try.func10 (c:=(Try.f10.body.getD .skip)) rfl (by kernel_rfl) (Nat.le_of_ble_eq_true hn) h
def m_tumbrellaw21_awake:MC:=(x [q 0 (.mov (.const (.bool false)))] (x [e 4 (.call 18 []) [],m 1 4] (x [m 5 1,e 6 (.raw (o (.buildSlice 31 2 [(0,(i 2)),(1,(i 9))].toArray) 31)) [],e 7 (.call 19 [t 5,i 1,t 6]) []] (x [m 8 1,e 9 (.bs1 3 1 (i 1)) [],e 10 (.call 19 [t 8,i 2,t 9]) []] (x [m 12 1,e 13 (.call 8 [t 12,i 1,i 2]) [],m 11 13,q 14 (.ext (t 11) 0),q 15 (.ext (t 11) 1),m 2 14,m 3 15] (x [m 16 1,e 17 (.bs1 3 1 (i 2)) [],e 18 (.call 12 [t 16,t 17]) [],e 19 (.raw (o (.buildSlice 31 2 [(0,(i 1)),(1,(i 2))].toArray) 31)) [],e 20 (.call 14 [t 18,t 19]) [],m 21 20,g 0 22 21 (.mov (t 2)),g 0 23 21 (.bin .eql (t 22) (i 1)),q 24 (.pick (t 21) (t 23) (.const (.bool false))),m 25 24,g 0 26 25 (.mov (t 3)),q 27 (.pick (t 25) (t 26) (.const (.bool false))),m 0 27] .ret))))))
theorem e_tumbrellaw21_awake:EOk 11 28 m_tumbrellaw21_awake Try.f11:=fun hn h =>
 enter Try.func11 (c:=(Try.f11.body.getD .skip)) rfl (by kernel_rfl) (Nat.le_of_ble_eq_true hn) h
def m_reach_Graph_From:MC:=(x [q 4 (.mov (.const (.slice none 0 0)))] (x [m 5 0,m 6 1,e 7 (.call 21 [t 5,t 6]) [],e 8 (.call 23 [t 7]) [],e 9 (.call 22 [t 8]) [],m 4 9] .ret))
theorem e_reach_Graph_From:EOk 12 10 m_reach_Graph_From Try.f12:=fun hn h =>
 enter Try.func12 (c:=(Try.f12.body.getD .skip)) rfl (by kernel_rfl) (Nat.le_of_ble_eq_true hn) h
def m_tumbrellaw21_cut:MC:=(x [q 2 (.mov (.const (.slice none 0 0)))] (s (x [m 3 0,q 4 (.len (t 3)),q 5 (.bin .gtr (t 4) (i 6))] (.cond (t 5) (x [m 6 0,q 7 (.slc (t 6) none (some (i 6)) 1),m 2 7] .ret) .skip)) (x [m 8 0,m 2 8] .ret)))
theorem e_tumbrellaw21_cut:EOk 13 9 m_tumbrellaw21_cut Try.f13:=fun hn h =>
 enter Try.func13 (c:=(Try.f13.body.getD .skip)) rfl (by kernel_rfl) (Nat.le_of_ble_eq_true hn) h
def m_tumbrelref21_Same:MC:=(x [q 4 (.mov (.const (.bool false)))] (s (x [m 6 0,q 7 (.len (t 6)),m 8 1,q 9 (.len (t 8)),q 10 (.bin .neq (t 7) (t 9))] (.cond (t 10) (x [q 4 (.mov (.const (.bool false)))] .ret) .skip)) (s (x [m 11 0,q 12 (.len (t 11)),q 13 (.mov (i 0))] (.block 0 (.loop (x [q 14 (.bin .lss (t 13) (t 12))] (s (.cond (t 14) .skip (.exit 0)) (s (.block 1 (x [m 15 13,m 5 15] (x [m 16 0,k 1 17 (.mov (t 5)),k 2 18 (.idx (t 16) (t 17) 1),r 3 19 (.ld (t 18)),k 4 20 (.mov (t 1)),k 5 21 (.mov (t 5)),k 6 22 (.idx (t 20) (t 21) 1),r 7 23 (.ld (t 22)),k 8 24 (.bin .neq (t 19) (t 23))] (.cond (t 24) (x [q 4 (.mov (.const (.bool false)))] .ret) .skip)))) (.reg [q 25 (.bin .add (t 13) (i 1)),m 13 25]))))))) (x [q 4 (.mov (.const (.bool true)))] .ret))))
theorem e_tumbrelref21_Same:EOk 14 26 m_tumbrelref21_Same Try.f14:=fun hn h =>
 enter Try.func14 (c:=(Try.f14.body.getD .skip)) rfl (by kernel_rfl) (Nat.le_of_ble_eq_true hn) h
def m_tumbrellaw21_picked:MC:=(x [q 4 (.mov (.const (.slice none 0 0)))] (x [q 5 (.mov (.const (.slice none 0 0)))] (s (x [m 8 0,q 9 (.len (t 8)),q 10 (.mov (i 0))] (.block 0 (.loop (x [q 11 (.bin .lss (t 10) (t 9))] (s (.cond (t 11) .skip (.exit 0)) (s (.block 1 (x [m 12 10,q 13 (.idx (t 8) (t 10) 2),r 0 14 (.ldn (t 13) 2),e 7 (.new 41 [.int .i64 0,.slice none 0 0]) [],m 6 12,w (.stn (t 7) (t 14) 2) []] (x [m 15 1,m 16 6,q 17 (.idx (t 15) (t 16) 1),l 18 17] (.cond (t 18) (.reg [m 19 5,q 20 (.fld (t 7) 0),l 21 20,e 22 (.bs1 3 1 (t 21)) [],e 23 (.raw (o (.call ⟨(.builtin .append),[t 19,t 22].toArray,[31,31].toArray⟩) 31)) [],m 5 23]) .skip)))) (.reg [q 24 (.bin .add (t 10) (i 1)),m 10 24]))))))) (x [m 25 5,m 4 25] .ret))))
theorem e_tumbrellaw21_picked:EOk 15 26 m_tumbrellaw21_picked Try.f15:=fun hn h =>
 enter Try.func15 (c:=(Try.f15.body.getD .skip)) rfl (by kernel_rfl) (Nat.le_of_ble_eq_true hn) h
def m_reach_Graph_Nodes:MC:=(x [q 2 (.mov (.const (.slice none 0 0)))] (s (x [m 3 0,q 4 (.nilp false (t 3))] (.cond (t 4) (x [q 2 (.mov (.const (.slice none 0 0)))] .ret) .skip)) (x [m 5 0,q 6 (.nilc (t 5)),q 7 (.fld (t 6) 0),l 8 7,e 9 (.call 24 [t 8]) [],e 10 (.call 22 [t 9]) [],m 2 10] .ret)))
theorem e_reach_Graph_Nodes:EOk 16 11 m_reach_Graph_Nodes Try.f16:=fun hn h =>
 enter Try.func16 (c:=(Try.f16.body.getD .skip)) rfl (by kernel_rfl) (Nat.le_of_ble_eq_true hn) h
def m_reach_Graph_Names:MC:=(x [q 4 (.mov (.const (.slice none 0 0)))] (s (x [m 5 0,q 6 (.nilp false (t 5))] (.cond (t 6) (x [q 4 (.mov (.const (.slice none 0 0)))] .ret) .skip)) (x [m 7 0,q 8 (.nilc (t 7)),q 9 (.fld (t 8) 0),l 10 9,m 11 1,r 0 12 (.raw (o (.lookup 54 (t 10) (t 11) false) 31)),e 13 (.call 25 [t 12]) [],m 4 13] .ret)))
theorem e_reach_Graph_Names:EOk 17 14 m_reach_Graph_Names Try.f17:=fun hn h =>
 enter Try.func17 (c:=(Try.f17.body.getD .skip)) rfl (by kernel_rfl) (Nat.le_of_ble_eq_true hn) h
def m_reach_New:MC:=(x [q 0 (.mov (.const (.pointer none)))] (x [e 1 (.raw (o (.makeMap 54 none) 54)) [],q 2 (.bld [.map none] [(0,(1,(t 1)))]),e 3 (.box 56 (t 2)) [],m 0 3] .ret))
theorem e_reach_New:EOk 18 4 m_reach_New Try.f18:=fun hn h =>
 enter Try.func18 (c:=(Try.f18.body.getD .skip)) rfl (by kernel_rfl) (Nat.le_of_ble_eq_true hn) h
def m_reach_Graph_Add:MC:=(x [m 6 0,q 7 (.nilp true (t 6))] (.cond (t 7) (.reg [m 8 0,k 1 9 (.nilc (t 8)),k 2 10 (.fld (t 9) 0),r 3 11 (.ld (t 10)),k 4 12 (.mov (t 1)),k 5 13 (.mov (t 2)),e 14 (.call 25 [t 13]) [3],w (.raw (o (.mapUpdate 54 (t 11) (t 12) (t 14)) 0)) []]) .skip))
theorem e_reach_Graph_Add:EOk 19 15 m_reach_Graph_Add Try.f19:=fun hn h =>
 enter Try.func19 (c:=(Try.f19.body.getD .skip)) rfl (by kernel_rfl) (Nat.le_of_ble_eq_true hn) h
def m_tumbrelref21_Add:MC:=(x [e 3 (.box 41 (t 1)) [],q 4 (.mov (.const (.slice none 0 0)))] (x [q 5 (.mov (.const (.slice none 0 0)))] (s (x [m 10 0,q 11 (.len (t 10)),q 12 (.mov (i 0))] (.block 0 (.loop (x [q 13 (.bin .lss (t 12) (t 11))] (s (.cond (t 13) .skip (.exit 0)) (s (.block 1 (x [q 14 (.idx (t 10) (t 12) 2),r 0 15 (.ldn (t 14) 2),e 7 (.new 41 [.int .i64 0,.slice none 0 0]) [],w (.stn (t 7) (t 15) 2) []] (x [q 16 (.fld (t 7) 0),l 17 16,q 18 (.fld (t 3) 0),l 19 18,q 20 (.bin .lss (t 17) (t 19))] (.cond (t 20) (.reg [m 21 5,r 0 22 (.ldn (t 7) 2),e 23 (.bs1 41 2 (t 22)) [],e 24 (.raw (o (.call ⟨(.builtin .append),[t 21,t 23].toArray,[22,22].toArray⟩) 22)) [],m 5 24]) .skip)))) (.reg [q 25 (.bin .add (t 12) (i 1)),m 12 25]))))))) (x [m 26 5,r 0 27 (.ldn (t 3) 2),e 28 (.bs1 41 2 (t 27)) [],e 29 (.raw (o (.call ⟨(.builtin .append),[t 26,t 28].toArray,[22,22].toArray⟩) 22)) [],m 5 29] (s (x [m 30 0,q 31 (.len (t 30)),q 32 (.mov (i 0))] (.block 2 (.loop (x [q 33 (.bin .lss (t 32) (t 31))] (s (.cond (t 33) .skip (.exit 2)) (s (.block 3 (x [q 34 (.idx (t 30) (t 32) 2),r 0 35 (.ldn (t 34) 2),e 9 (.new 41 [.int .i64 0,.slice none 0 0]) [],w (.stn (t 9) (t 35) 2) []] (x [q 36 (.fld (t 9) 0),l 37 36,q 38 (.fld (t 3) 0),l 39 38,q 40 (.bin .gtr (t 37) (t 39))] (.cond (t 40) (.reg [m 41 5,r 0 42 (.ldn (t 9) 2),e 43 (.bs1 41 2 (t 42)) [],e 44 (.raw (o (.call ⟨(.builtin .append),[t 41,t 43].toArray,[22,22].toArray⟩) 22)) [],m 5 44]) .skip)))) (.reg [q 45 (.bin .add (t 32) (i 1)),m 32 45]))))))) (x [m 46 5,m 4 46] .ret))))))
theorem e_tumbrelref21_Add:EOk 20 47 m_tumbrelref21_Add Try.f20:=fun hn h =>
 enter Try.func20 (c:=(Try.f20.body.getD .skip)) rfl (by kernel_rfl) (Nat.le_of_ble_eq_true hn) h
def m_reach_Graph_far:MC:=(x [q 4 (.mov (.const (.map none)))] (x [e 15 (.raw (o (.makeMap 47 none) 47)) [],m 5 15] (s (x [m 16 0,q 17 (.nilp false (t 16))] (.cond (t 17) (x [m 18 5,m 4 18] .ret) .skip)) (x [m 19 1,m 6 19] (s (x [q 7 (.mov (i 0))] (.block 0 (.loop (s (x [m 20 6,q 21 (.len (t 20)),q 22 (.bin .gtr (t 21) (i 0))] (.cond (t 22) .skip (.exit 0))) (s (.block 1 (x [m 25 6,m 8 25] (x [q 6 (.mov (.const (.slice none 0 0)))] (x [m 26 8,q 27 (.len (t 26)),q 28 (.mov (i 0))] (.block 2 (.loop (x [q 29 (.bin .lss (t 28) (t 27))] (s (.cond (t 29) .skip (.exit 2)) (s (.block 3 (x [q 30 (.idx (t 26) (t 28) 1),l 31 30,m 10 31] (x [m 33 0,q 34 (.nilc (t 33)),q 35 (.fld (t 34) 0),l 36 35,m 37 10,r 0 38 (.raw (o (.lookup 54 (t 36) (t 37) true) 57)),m 32 38,q 39 (.ext (t 32) 0),q 40 (.ext (t 32) 1),m 11 39,m 12 40] (s (x [m 42 5,m 43 10,r 0 44 (.raw (o (.lookup 47 (t 42) (t 43) true) 26)),m 41 44,q 45 (.ext (t 41) 0),q 46 (.ext (t 41) 1),m 13 45,m 14 46] (x [m 47 12,q 48 (.un .not (t 47)),m 49 48,n 0 50 49 (.mov (t 14)),q 51 (.pick (t 49) (.const (.bool true)) (t 50))] (.cond (t 51) (.exit 3) .skip))) (x [m 52 5,m 53 10,m 54 7,w (.raw (o (.mapUpdate 47 (t 52) (t 53) (t 54)) 0)) []] (.reg [m 55 6,m 56 11,e 57 (.raw (o (.call ⟨(.builtin .append),[t 55,t 56].toArray,[31,31].toArray⟩) 31)) [],m 6 57])))))) (.reg [q 58 (.bin .add (t 28) (i 1)),m 28 58])))))))))) (.reg [m 23 7,q 24 (.bin .add (t 23) (i 1)),m 7 24])))))) (x [m 59 5,m 4 59] .ret))))))
theorem e_reach_Graph_far:EOk 21 60 m_reach_Graph_far Try.f21:=fun hn h =>
 enter Try.func21 (c:=(Try.f21.body.getD .skip)) rfl (by kernel_rfl) (Nat.le_of_ble_eq_true hn) h
def m_slices_Sorted_int_:MC:=(x [q 2 (.mov (.const (.slice none 0 0)))] (x [m 4 0,e 5 (.call 26 [t 4]) [],m 3 5] (x [m 6 3,e 7 (.call 27 [t 6]) []] (x [m 8 3,m 2 8] .ret))))
def m_maps_Keys_map_int_int_int_int_:MC:=(x [e 1 (.box 47 (t 0)) [],q 2 (.mov (.const .nilFunc))] (x [q 3 (.mkf (.func 28) [] [t 1]),m 2 3] .ret))
def m_maps_Keys_map_int_int_int_int_x1:MC:=(x [e 1 (.box 54 (t 0)) [],q 2 (.mov (.const .nilFunc))] (x [q 3 (.mkf (.func 29) [] [t 1]),m 2 3] .ret))
def m_slices_Clone_int_int_:MC:=(x [q 2 (.mov (.const (.slice none 0 0)))] (s (x [m 3 0,r 0 4 (.raw (o (.binOp .eql 31 (t 3) (.const (.slice none 0 0)) 31) 4))] (.cond (t 4) (x [q 2 (.mov (.const (.slice none 0 0)))] .ret) .skip)) (x [e 5 (.bs0 3) [],m 6 0,e 7 (.raw (o (.call ⟨(.builtin .append),[t 5,t 6].toArray,[31,31].toArray⟩) 31)) [],m 2 7] .ret)))
theorem e_slices_Clone_int_int_:EOk 25 8 m_slices_Clone_int_int_ Try.f25:=fun hn h =>
 enter Try.func25 (c:=(Try.f25.body.getD .skip)) rfl (by kernel_rfl) (Nat.le_of_ble_eq_true hn) h
def m_slices_Collect_int_:MC:=(x [q 2 (.mov (.const (.slice none 0 0)))] (x [m 3 0,e 4 (.call 30 [.const (.slice none 0 0),t 3]) [],m 2 4] .ret))
def m_slices_Sort_int_int_:MC:=(x [m 3 0,q 4 (.len (t 3)),m 2 4] (.reg [m 5 0,m 6 2,m 7 2,q 8 (.cvi .u64 (t 7)),e 9 (.call 32 [t 8]) [],e 10 (.call 31 [t 5,i 0,t 6,t 9]) []]))
def m_maps_Keys_map_int_int_int_int__c1:MC:=(x [l 4 1,e 5 (.raw (o (.range 47 (t 4)) 0)) []] (.block 0 (.loop (x [e 6 (.raw (o (.next (t 5) false) 0)) [],q 7 (.ext (t 6) 0)] (s (.cond (t 7) .skip (.exit 0)) (.block 1 (x [e 8 (.raw (o (.entry (t 5)) 0)) [],q 9 (.ext (t 8) 0),m 3 9] (x [m 10 0,m 11 3,e 12 (.callv (t 10) [t 11]) [],q 13 (.un .not (t 12))] (.cond (t 13) .ret .skip)))))))))
def m_maps_Keys_map_int_int_int_int__c1x1:MC:=(x [l 4 1,e 5 (.raw (o (.range 54 (t 4)) 0)) []] (.block 0 (.loop (x [e 6 (.raw (o (.next (t 5) false) 0)) [],q 7 (.ext (t 6) 0)] (s (.cond (t 7) .skip (.exit 0)) (.block 1 (x [e 8 (.raw (o (.entry (t 5)) 0)) [],q 9 (.ext (t 8) 0),m 3 9] (x [m 10 0,m 11 3,e 12 (.callv (t 10) [t 11]) [],q 13 (.un .not (t 12))] (.cond (t 13) .ret .skip)))))))))
def m_slices_pdqsortOrdered_int_:MC:=(x [q 8 (.mov (.const (.bool true)))] (x [q 9 (.mov (.const (.bool true)))] (.block 0 (.loop (.block 1 (x [m 19 2,m 20 1,q 21 (.bin .sub (t 19) (t 20)),m 10 21] (s (x [m 22 10,q 23 (.bin .leq (t 22) (i 12))] (.cond (t 23) (x [m 24 0,m 25 1,m 26 2,e 27 (.call 33 [t 24,t 25,t 26]) []] .ret) .skip)) (s (x [m 28 3,q 29 (.bin .eql (t 28) (i 0))] (.cond (t 29) (x [m 30 0,m 31 1,m 32 2,e 33 (.call 34 [t 30,t 31,t 32]) []] .ret) .skip)) (s (x [m 34 8,q 35 (.un .not (t 34))] (.cond (t 35) (x [m 36 0,m 37 1,m 38 2,e 39 (.call 35 [t 36,t 37,t 38]) []] (.reg [m 40 3,q 41 (.bin .sub (t 40) (i 1)),m 3 41])) .skip)) (x [m 43 0,m 44 1,m 45 2,e 46 (.call 36 [t 43,t 44,t 45]) [],m 42 46,q 47 (.ext (t 42) 0),q 48 (.ext (t 42) 1),m 11 47,m 12 48] (s (x [m 49 12,q 50 (.bin .eql (t 49) (i 2))] (.cond (t 50) (x [m 51 0,m 52 1,m 53 2,e 54 (.call 37 [t 51,t 52,t 53]) []] (x [m 55 2,q 56 (.bin .sub (t 55) (i 1)),m 57 11,m 58 1,q 59 (.bin .sub (t 57) (t 58)),q 60 (.bin .sub (t 56) (t 59)),m 11 60] (.reg [q 12 (.mov (i 1))]))) .skip)) (s (x [m 61 8,m 62 61,g 0 63 62 (.mov (t 9)),q 64 (.pick (t 62) (t 63) (.const (.bool false))),m 65 64,g 0 66 65 (.mov (t 12)),g 0 67 65 (.bin .eql (t 66) (i 1)),q 68 (.pick (t 65) (t 67) (.const (.bool false)))] (.cond (t 68) (x [m 69 0,m 70 1,m 71 2,e 72 (.call 38 [t 69,t 70,t 71]) []] (.cond (t 72) .ret .skip)) .skip)) (s (x [m 73 1,k 1 74 (.bin .gtr (t 73) (i 0)),k 2 75 (.mov (t 74)),g 3 76 75 (.mov (t 0)),g 4 77 75 (.mov (t 1)),g 5 78 75 (.bin .sub (t 77) (i 1)),g 6 79 75 (.idx (t 76) (t 78) 1),h 7 80 75 (.ld (t 79)),g 8 81 75 (.mov (t 0)),g 9 82 75 (.mov (t 11)),g 10 83 75 (.idx (t 81) (t 82) 1),h 11 84 75 (.ld (t 83)),.e (some 85) (some (75,true)) (.call 39 [t 80,t 84]) [],g 13 86 75 (.un .not (t 85)),k 14 87 (.pick (t 75) (t 86) (.const (.bool false)))] (.cond (t 87) (x [m 88 0,m 89 1,m 90 2,m 91 11,e 92 (.call 40 [t 88,t 89,t 90,t 91]) [],m 13 92] (x [m 93 13,m 1 93] (.exit 1))) .skip)) (x [m 95 0,m 96 1,m 97 2,m 98 11,e 99 (.call 41 [t 95,t 96,t 97,t 98]) [],m 94 99,q 100 (.ext (t 94) 0),q 101 (.ext (t 94) 1),m 14 100,m 15 101] (x [m 102 15,m 9 102] (x [m 103 14,m 104 1,q 105 (.bin .sub (t 103) (t 104)),m 106 2,m 107 14,q 108 (.bin .sub (t 106) (t 107)),m 16 105,m 17 108] (x [m 109 10,q 110 (.bin .quo (t 109) (i 8)),m 18 110] (x [m 111 16,m 112 17,q 113 (.bin .lss (t 111) (t 112))] (.cond (t 113) (x [m 114 16,m 115 18,q 116 (.bin .geq (t 114) (t 115)),m 8 116] (x [m 117 0,m 118 1,m 119 14,m 120 3,e 121 (.call 31 [t 117,t 118,t 119,t 120]) []] (.reg [m 122 14,q 123 (.bin .add (t 122) (i 1)),m 1 123]))) (x [m 124 17,m 125 18,q 126 (.bin .geq (t 124) (t 125)),m 8 126] (x [m 127 0,m 128 14,q 129 (.bin .add (t 128) (i 1)),m 130 2,m 131 3,e 132 (.call 31 [t 127,t 129,t 130,t 131]) []] (.reg [m 133 14,m 2 133]))))))))))))))))))))))
def m_math_bits_Len:MC:=(x [q 2 (.mov (i 0))] (s (.cond (.const (.bool false)) (x [m 3 0,q 4 (.cvi .u32 (t 3)),e 5 (.call 42 [t 4]) [],m 2 5] .ret) .skip) (x [m 6 0,e 7 (.call 43 [t 6]) [],m 2 7] .ret)))
def m_slices_insertionSortOrdered_int_:MC:=(x [m 8 1,q 9 (.bin .add (t 8) (i 1)),m 6 9] (.block 0 (.loop (s (x [m 10 6,m 11 2,q 12 (.bin .lss (t 10) (t 11))] (.cond (t 12) .skip (.exit 0))) (s (.block 1 (x [m 15 6,m 7 15] (.block 2 (.loop (s (x [m 16 7,k 1 17 (.mov (t 1)),k 2 18 (.bin .gtr (t 16) (t 17)),k 3 19 (.mov (t 18)),g 4 20 19 (.mov (t 0)),g 5 21 19 (.mov (t 7)),g 6 22 19 (.idx (t 20) (t 21) 1),h 7 23 19 (.ld (t 22)),g 8 24 19 (.mov (t 0)),g 9 25 19 (.mov (t 7)),g 10 26 19 (.bin .sub (t 25) (i 1)),g 11 27 19 (.idx (t 24) (t 26) 1),h 12 28 19 (.ld (t 27)),.e (some 29) (some (19,true)) (.call 39 [t 23,t 28]) [],k 14 30 (.pick (t 19) (t 29) (.const (.bool false)))] (.cond (t 30) .skip (.exit 2))) (s (.block 3 (.reg [m 33 0,k 1 34 (.mov (t 7)),k 2 35 (.mov (t 0)),k 3 36 (.mov (t 7)),k 4 37 (.bin .sub (t 36) (i 1)),k 5 38 (.mov (t 0)),k 6 39 (.mov (t 7)),k 7 40 (.bin .sub (t 39) (i 1)),k 8 41 (.idx (t 38) (t 40) 1),r 9 42 (.ld (t 41)),k 10 43 (.mov (t 0)),k 11 44 (.mov (t 7)),k 12 45 (.idx (t 43) (t 44) 1),r 13 46 (.ld (t 45)),k 14 47 (.idx (t 33) (t 34) 1),w (.st (t 47) (t 42)) [],k 16 48 (.idx (t 35) (t 37) 1),w (.st (t 48) (t 46)) []])) (.reg [m 31 7,q 32 (.bin .sub (t 31) (i 1)),m 7 32]))))))) (.reg [m 13 6,q 14 (.bin .add (t 13) (i 1)),m 6 14]))))))
def m_slices_heapSortOrdered_int_:MC:=(x [m 11 1,m 6 11] (x [q 7 (.mov (i 0))] (x [m 12 2,m 13 1,q 14 (.bin .sub (t 12) (t 13)),m 8 14] (s (x [m 15 8,q 16 (.bin .sub (t 15) (i 1)),q 17 (.bin .quo (t 16) (i 2)),m 9 17] (.block 0 (.loop (s (x [m 18 9,q 19 (.bin .geq (t 18) (i 0))] (.cond (t 19) .skip (.exit 0))) (s (.block 1 (.reg [m 22 0,m 23 9,m 24 8,m 25 6,e 26 (.call 44 [t 22,t 23,t 24,t 25]) []])) (.reg [m 20 9,q 21 (.bin .sub (t 20) (i 1)),m 9 21])))))) (x [m 27 8,q 28 (.bin .sub (t 27) (i 1)),m 10 28] (.block 2 (.loop (s (x [m 29 10,q 30 (.bin .geq (t 29) (i 0))] (.cond (t 30) .skip (.exit 2))) (s (.block 3 (x [m 33 0,k 1 34 (.mov (t 6)),k 2 35 (.mov (t 0)),k 3 36 (.mov (t 6)),k 4 37 (.mov (t 10)),k 5 38 (.bin .add (t 36) (t 37)),k 6 39 (.mov (t 0)),k 7 40 (.mov (t 6)),k 8 41 (.mov (t 10)),k 9 42 (.bin .add (t 40) (t 41)),k 10 43 (.idx (t 39) (t 42) 1),r 11 44 (.ld (t 43)),k 12 45 (.mov (t 0)),k 13 46 (.mov (t 6)),k 14 47 (.idx (t 45) (t 46) 1),r 15 48 (.ld (t 47)),k 16 49 (.idx (t 33) (t 34) 1),w (.st (t 49) (t 44)) [],k 18 50 (.idx (t 35) (t 38) 1),w (.st (t 50) (t 48)) []] (.reg [m 51 0,m 52 7,m 53 10,m 54 6,e 55 (.call 44 [t 51,t 52,t 53,t 54]) []]))) (.reg [m 31 10,q 32 (.bin .sub (t 31) (i 1)),m 10 32]))))))))))
def m_slices_breakPatternsOrdered_int_:MC:=(x [m 11 2,m 12 1,q 13 (.bin .sub (t 11) (t 12)),m 6 13] (x [m 14 6,q 15 (.bin .geq (t 14) (i 8))] (.cond (t 15) (x [m 16 6,q 17 (.cvi .u64 (t 16)),e 7 (.new 76 [.int .u64 0]) [],w (.st (t 7) (t 17)) []] (x [m 18 6,e 19 (.call 45 [t 18]) [],m 8 19] (x [m 20 1,m 21 6,q 22 (.bin .quo (t 21) (i 4)),q 23 (.bin .mul (t 22) (i 2)),q 24 (.bin .add (t 20) (t 23)),q 25 (.bin .sub (t 24) (i 1)),m 9 25] (.block 0 (.loop (s (x [m 26 9,m 27 1,m 28 6,q 29 (.bin .quo (t 28) (i 4)),q 30 (.bin .mul (t 29) (i 2)),q 31 (.bin .add (t 27) (t 30)),q 32 (.bin .add (t 31) (i 1)),q 33 (.bin .leq (t 26) (t 32))] (.cond (t 33) .skip (.exit 0))) (s (.block 1 (x [e 36 (.call 46 [t 7]) [],m 37 8,q 38 (.bin .sub (t 37) (.const (.int .u64 1))),q 39 (.bin .and (t 36) (t 38)),q 40 (.cvi .i64 (t 39)),m 10 40] (s (x [m 41 10,m 42 6,q 43 (.bin .geq (t 41) (t 42))] (.cond (t 43) (.reg [m 44 10,m 45 6,q 46 (.bin .sub (t 44) (t 45)),m 10 46]) .skip)) (.reg [m 47 0,k 1 48 (.mov (t 9)),k 2 49 (.mov (t 0)),k 3 50 (.mov (t 1)),k 4 51 (.mov (t 10)),k 5 52 (.bin .add (t 50) (t 51)),k 6 53 (.mov (t 0)),k 7 54 (.mov (t 1)),k 8 55 (.mov (t 10)),k 9 56 (.bin .add (t 54) (t 55)),k 10 57 (.idx (t 53) (t 56) 1),r 11 58 (.ld (t 57)),k 12 59 (.mov (t 0)),k 13 60 (.mov (t 9)),k 14 61 (.idx (t 59) (t 60) 1),r 15 62 (.ld (t 61)),k 16 63 (.idx (t 47) (t 48) 1),w (.st (t 63) (t 58)) [],k 18 64 (.idx (t 49) (t 52) 1),w (.st (t 64) (t 62)) []])))) (.reg [m 34 9,q 35 (.bin .add (t 34) (i 1)),m 9 35])))))))) .skip)))
def m_slices_choosePivotOrdered_int_:MC:=(x [q 6 (.mov (i 0)),q 7 (.mov (i 0))] (x [m 13 2,m 14 1,q 15 (.bin .sub (t 13) (t 14)),m 8 15] (x [e 9 (.new 3 [.int .i64 0]) []] (x [m 16 1,m 17 8,q 18 (.bin .quo (t 17) (i 4)),q 19 (.bin .mul (t 18) (i 1)),q 20 (.bin .add (t 16) (t 19)),m 10 20] (x [m 21 1,m 22 8,q 23 (.bin .quo (t 22) (i 4)),q 24 (.bin .mul (t 23) (i 2)),q 25 (.bin .add (t 21) (t 24)),m 11 25] (x [m 26 1,m 27 8,q 28 (.bin .quo (t 27) (i 4)),q 29 (.bin .mul (t 28) (i 3)),q 30 (.bin .add (t 26) (t 29)),m 12 30] (s (x [m 31 8,q 32 (.bin .geq (t 31) (i 8))] (.cond (t 32) (s (x [m 33 8,q 34 (.bin .geq (t 33) (i 50))] (.cond (t 34) (x [m 35 0,m 36 10,e 37 (.call 47 [t 35,t 36,t 9]) [],m 10 37] (x [m 38 0,m 39 11,e 40 (.call 47 [t 38,t 39,t 9]) [],m 11 40] (.reg [m 41 0,m 42 12,e 43 (.call 47 [t 41,t 42,t 9]) [],m 12 43]))) .skip)) (.reg [m 44 0,m 45 10,m 46 11,m 47 12,e 48 (.call 48 [t 44,t 45,t 46,t 47,t 9]) [],m 11 48])) .skip)) (x [l 49 9] (.block 0 (x [q 52 (.bin .eql (t 49) (i 0)),m 51 52] (.cond (t 51) (x [m 53 11,m 6 53,q 7 (.mov (i 1))] .ret) (x [q 55 (.bin .eql (t 49) (i 12)),m 54 55] (.cond (t 54) (x [m 56 11,m 6 56,q 7 (.mov (i 2))] .ret) (x [m 50 11,m 6 50,q 7 (.mov (i 0))] .ret))))))))))))))
def m_slices_reverseRangeOrdered_int_:MC:=(x [m 8 1,m 6 8] (x [m 9 2,q 10 (.bin .sub (t 9) (i 1)),m 7 10] (.block 0 (.loop (s (x [m 11 6,m 12 7,q 13 (.bin .lss (t 11) (t 12))] (.cond (t 13) .skip (.exit 0))) (.block 1 (x [m 14 0,k 1 15 (.mov (t 6)),k 2 16 (.mov (t 0)),k 3 17 (.mov (t 7)),k 4 18 (.mov (t 0)),k 5 19 (.mov (t 7)),k 6 20 (.idx (t 18) (t 19) 1),r 7 21 (.ld (t 20)),k 8 22 (.mov (t 0)),k 9 23 (.mov (t 6)),k 10 24 (.idx (t 22) (t 23) 1),r 11 25 (.ld (t 24)),k 12 26 (.idx (t 14) (t 15) 1),w (.st (t 26) (t 21)) [],k 14 27 (.idx (t 16) (t 17) 1),w (.st (t 27) (t 25)) []] (x [m 28 6,q 29 (.bin .add (t 28) (i 1)),m 6 29] (.reg [m 30 7,q 31 (.bin .sub (t 30) (i 1)),m 7 31])))))))))
def m_slices_partialInsertionSortOrdered_int_:MC:=(x [q 6 (.mov (.const (.bool false)))] (x [m 11 1,q 12 (.bin .add (t 11) (i 1)),m 7 12] (s (x [q 8 (.mov (i 0))] (.block 0 (.loop (s (x [m 13 8,q 14 (.bin .lss (t 13) (i 5))] (.cond (t 14) .skip (.exit 0))) (s (.block 1 (s (.block 2 (.loop (s (x [m 17 7,k 1 18 (.mov (t 2)),k 2 19 (.bin .lss (t 17) (t 18)),k 3 20 (.mov (t 19)),g 4 21 20 (.mov (t 0)),g 5 22 20 (.mov (t 7)),g 6 23 20 (.idx (t 21) (t 22) 1),h 7 24 20 (.ld (t 23)),g 8 25 20 (.mov (t 0)),g 9 26 20 (.mov (t 7)),g 10 27 20 (.bin .sub (t 26) (i 1)),g 11 28 20 (.idx (t 25) (t 27) 1),h 12 29 20 (.ld (t 28)),.e (some 30) (some (20,true)) (.call 39 [t 24,t 29]) [],g 14 31 20 (.un .not (t 30)),k 15 32 (.pick (t 20) (t 31) (.const (.bool false)))] (.cond (t 32) .skip (.exit 2))) (.block 3 (.reg [m 33 7,q 34 (.bin .add (t 33) (i 1)),m 7 34]))))) (s (x [m 35 7,m 36 2,q 37 (.bin .eql (t 35) (t 36))] (.cond (t 37) (x [q 6 (.mov (.const (.bool true)))] .ret) .skip)) (s (x [m 38 2,m 39 1,q 40 (.bin .sub (t 38) (t 39)),q 41 (.bin .lss (t 40) (i 50))] (.cond (t 41) (x [q 6 (.mov (.const (.bool false)))] .ret) .skip)) (x [m 42 0,k 1 43 (.mov (t 7)),k 2 44 (.mov (t 0)),k 3 45 (.mov (t 7)),k 4 46 (.bin .sub (t 45) (i 1)),k 5 47 (.mov (t 0)),k 6 48 (.mov (t 7)),k 7 49 (.bin .sub (t 48) (i 1)),k 8 50 (.idx (t 47) (t 49) 1),r 9 51 (.ld (t 50)),k 10 52 (.mov (t 0)),k 11 53 (.mov (t 7)),k 12 54 (.idx (t 52) (t 53) 1),r 13 55 (.ld (t 54)),k 14 56 (.idx (t 42) (t 43) 1),w (.st (t 56) (t 51)) [],k 16 57 (.idx (t 44) (t 46) 1),w (.st (t 57) (t 55)) []] (s (x [m 58 7,m 59 1,q 60 (.bin .sub (t 58) (t 59)),q 61 (.bin .geq (t 60) (i 2))] (.cond (t 61) (x [m 62 7,q 63 (.bin .sub (t 62) (i 1)),m 9 63] (.block 4 (.loop (s (x [m 64 9,q 65 (.bin .geq (t 64) (i 1))] (.cond (t 65) .skip (.exit 4))) (s (.block 5 (s (x [m 68 0,k 1 69 (.mov (t 9)),k 2 70 (.idx (t 68) (t 69) 1),r 3 71 (.ld (t 70)),k 4 72 (.mov (t 0)),k 5 73 (.mov (t 9)),k 6 74 (.bin .sub (t 73) (i 1)),k 7 75 (.idx (t 72) (t 74) 1),r 8 76 (.ld (t 75)),e 77 (.call 39 [t 71,t 76]) [],k 10 78 (.un .not (t 77))] (.cond (t 78) (.exit 4) .skip)) (.reg [m 79 0,k 1 80 (.mov (t 9)),k 2 81 (.mov (t 0)),k 3 82 (.mov (t 9)),k 4 83 (.bin .sub (t 82) (i 1)),k 5 84 (.mov (t 0)),k 6 85 (.mov (t 9)),k 7 86 (.bin .sub (t 85) (i 1)),k 8 87 (.idx (t 84) (t 86) 1),r 9 88 (.ld (t 87)),k 10 89 (.mov (t 0)),k 11 90 (.mov (t 9)),k 12 91 (.idx (t 89) (t 90) 1),r 13 92 (.ld (t 91)),k 14 93 (.idx (t 79) (t 80) 1),w (.st (t 93) (t 88)) [],k 16 94 (.idx (t 81) (t 83) 1),w (.st (t 94) (t 92)) []]))) (.reg [m 66 9,q 67 (.bin .sub (t 66) (i 1)),m 9 67])))))) .skip)) (x [m 95 2,m 96 7,q 97 (.bin .sub (t 95) (t 96)),q 98 (.bin .geq (t 97) (i 2))] (.cond (t 98) (x [m 99 7,q 100 (.bin .add (t 99) (i 1)),m 10 100] (.block 6 (.loop (s (x [m 101 10,m 102 2,q 103 (.bin .lss (t 101) (t 102))] (.cond (t 103) .skip (.exit 6))) (s (.block 7 (s (x [m 106 0,k 1 107 (.mov (t 10)),k 2 108 (.idx (t 106) (t 107) 1),r 3 109 (.ld (t 108)),k 4 110 (.mov (t 0)),k 5 111 (.mov (t 10)),k 6 112 (.bin .sub (t 111) (i 1)),k 7 113 (.idx (t 110) (t 112) 1),r 8 114 (.ld (t 113)),e 115 (.call 39 [t 109,t 114]) [],k 10 116 (.un .not (t 115))] (.cond (t 116) (.exit 6) .skip)) (.reg [m 117 0,k 1 118 (.mov (t 10)),k 2 119 (.mov (t 0)),k 3 120 (.mov (t 10)),k 4 121 (.bin .sub (t 120) (i 1)),k 5 122 (.mov (t 0)),k 6 123 (.mov (t 10)),k 7 124 (.bin .sub (t 123) (i 1)),k 8 125 (.idx (t 122) (t 124) 1),r 9 126 (.ld (t 125)),k 10 127 (.mov (t 0)),k 11 128 (.mov (t 10)),k 12 129 (.idx (t 127) (t 128) 1),r 13 130 (.ld (t 129)),k 14 131 (.idx (t 117) (t 118) 1),w (.st (t 131) (t 126)) [],k 16 132 (.idx (t 119) (t 121) 1),w (.st (t 132) (t 130)) []]))) (.reg [m 104 10,q 105 (.bin .add (t 104) (i 1)),m 10 105])))))) .skip)))))))) (.reg [m 15 8,q 16 (.bin .add (t 15) (i 1)),m 8 16])))))) (x [q 6 (.mov (.const (.bool false)))] .ret))))
def m_cmp_Less_int_:MC:=(x [q 4 (.mov (.const (.bool false)))] (x [m 5 0,e 6 (.call 49 [t 5]) [],m 7 6,g 0 8 7 (.mov (t 1)),.e (some 9) (some (7,true)) (.call 49 [t 8]) [],g 0 10 7 (.un .not (t 9)),q 11 (.pick (t 7) (t 10) (.const (.bool false))),m 12 11,n 0 13 12 (.mov (t 0)),n 0 14 12 (.mov (t 1)),n 0 15 12 (.bin .lss (t 13) (t 14)),q 16 (.pick (t 12) (.const (.bool true)) (t 15)),m 4 16] .ret))
def m_slices_partitionEqualOrdered_int_:MC:=(x [q 8 (.mov (i 0))] (x [m 11 0,k 1 12 (.mov (t 1)),k 2 13 (.mov (t 0)),k 3 14 (.mov (t 3)),k 4 15 (.mov (t 0)),k 5 16 (.mov (t 3)),k 6 17 (.idx (t 15) (t 16) 1),r 7 18 (.ld (t 17)),k 8 19 (.mov (t 0)),k 9 20 (.mov (t 1)),k 10 21 (.idx (t 19) (t 20) 1),r 11 22 (.ld (t 21)),k 12 23 (.idx (t 11) (t 12) 1),w (.st (t 23) (t 18)) [],k 14 24 (.idx (t 13) (t 14) 1),w (.st (t 24) (t 22)) []] (x [m 25 1,q 26 (.bin .add (t 25) (i 1)),m 27 2,q 28 (.bin .sub (t 27) (i 1)),m 9 26,m 10 28] (s (.block 0 (.loop (.block 1 (s (.block 2 (.loop (s (x [m 29 9,k 1 30 (.mov (t 10)),k 2 31 (.bin .leq (t 29) (t 30)),k 3 32 (.mov (t 31)),g 4 33 32 (.mov (t 0)),g 5 34 32 (.mov (t 1)),g 6 35 32 (.idx (t 33) (t 34) 1),h 7 36 32 (.ld (t 35)),g 8 37 32 (.mov (t 0)),g 9 38 32 (.mov (t 9)),g 10 39 32 (.idx (t 37) (t 38) 1),h 11 40 32 (.ld (t 39)),.e (some 41) (some (32,true)) (.call 39 [t 36,t 40]) [],g 13 42 32 (.un .not (t 41)),k 14 43 (.pick (t 32) (t 42) (.const (.bool false)))] (.cond (t 43) .skip (.exit 2))) (.block 3 (.reg [m 44 9,q 45 (.bin .add (t 44) (i 1)),m 9 45]))))) (s (.block 4 (.loop (s (x [m 46 9,k 1 47 (.mov (t 10)),k 2 48 (.bin .leq (t 46) (t 47)),k 3 49 (.mov (t 48)),g 4 50 49 (.mov (t 0)),g 5 51 49 (.mov (t 1)),g 6 52 49 (.idx (t 50) (t 51) 1),h 7 53 49 (.ld (t 52)),g 8 54 49 (.mov (t 0)),g 9 55 49 (.mov (t 10)),g 10 56 49 (.idx (t 54) (t 55) 1),h 11 57 49 (.ld (t 56)),.e (some 58) (some (49,true)) (.call 39 [t 53,t 57]) [],k 13 59 (.pick (t 49) (t 58) (.const (.bool false)))] (.cond (t 59) .skip (.exit 4))) (.block 5 (.reg [m 60 10,q 61 (.bin .sub (t 60) (i 1)),m 10 61]))))) (s (x [m 62 9,m 63 10,q 64 (.bin .gtr (t 62) (t 63))] (.cond (t 64) (.exit 0) .skip)) (x [m 65 0,k 1 66 (.mov (t 9)),k 2 67 (.mov (t 0)),k 3 68 (.mov (t 10)),k 4 69 (.mov (t 0)),k 5 70 (.mov (t 10)),k 6 71 (.idx (t 69) (t 70) 1),r 7 72 (.ld (t 71)),k 8 73 (.mov (t 0)),k 9 74 (.mov (t 9)),k 10 75 (.idx (t 73) (t 74) 1),r 11 76 (.ld (t 75)),k 12 77 (.idx (t 65) (t 66) 1),w (.st (t 77) (t 72)) [],k 14 78 (.idx (t 67) (t 68) 1),w (.st (t 78) (t 76)) []] (x [m 79 9,q 80 (.bin .add (t 79) (i 1)),m 9 80] (.reg [m 81 10,q 82 (.bin .sub (t 81) (i 1)),m 10 82]))))))))) (x [m 83 9,m 8 83] .ret)))))
def m_slices_partitionOrdered_int_:MC:=(x [q 8 (.mov (i 0)),q 9 (.mov (.const (.bool false)))] (x [m 12 0,k 1 13 (.mov (t 1)),k 2 14 (.mov (t 0)),k 3 15 (.mov (t 3)),k 4 16 (.mov (t 0)),k 5 17 (.mov (t 3)),k 6 18 (.idx (t 16) (t 17) 1),r 7 19 (.ld (t 18)),k 8 20 (.mov (t 0)),k 9 21 (.mov (t 1)),k 10 22 (.idx (t 20) (t 21) 1),r 11 23 (.ld (t 22)),k 12 24 (.idx (t 12) (t 13) 1),w (.st (t 24) (t 19)) [],k 14 25 (.idx (t 14) (t 15) 1),w (.st (t 25) (t 23)) []] (x [m 26 1,q 27 (.bin .add (t 26) (i 1)),m 28 2,q 29 (.bin .sub (t 28) (i 1)),m 10 27,m 11 29] (s (.block 0 (.loop (s (x [m 30 10,k 1 31 (.mov (t 11)),k 2 32 (.bin .leq (t 30) (t 31)),k 3 33 (.mov (t 32)),g 4 34 33 (.mov (t 0)),g 5 35 33 (.mov (t 10)),g 6 36 33 (.idx (t 34) (t 35) 1),h 7 37 33 (.ld (t 36)),g 8 38 33 (.mov (t 0)),g 9 39 33 (.mov (t 1)),g 10 40 33 (.idx (t 38) (t 39) 1),h 11 41 33 (.ld (t 40)),.e (some 42) (some (33,true)) (.call 39 [t 37,t 41]) [],k 13 43 (.pick (t 33) (t 42) (.const (.bool false)))] (.cond (t 43) .skip (.exit 0))) (.block 1 (.reg [m 44 10,q 45 (.bin .add (t 44) (i 1)),m 10 45]))))) (s (.block 2 (.loop (s (x [m 46 10,k 1 47 (.mov (t 11)),k 2 48 (.bin .leq (t 46) (t 47)),k 3 49 (.mov (t 48)),g 4 50 49 (.mov (t 0)),g 5 51 49 (.mov (t 11)),g 6 52 49 (.idx (t 50) (t 51) 1),h 7 53 49 (.ld (t 52)),g 8 54 49 (.mov (t 0)),g 9 55 49 (.mov (t 1)),g 10 56 49 (.idx (t 54) (t 55) 1),h 11 57 49 (.ld (t 56)),.e (some 58) (some (49,true)) (.call 39 [t 53,t 57]) [],g 13 59 49 (.un .not (t 58)),k 14 60 (.pick (t 49) (t 59) (.const (.bool false)))] (.cond (t 60) .skip (.exit 2))) (.block 3 (.reg [m 61 11,q 62 (.bin .sub (t 61) (i 1)),m 11 62]))))) (s (x [m 63 10,m 64 11,q 65 (.bin .gtr (t 63) (t 64))] (.cond (t 65) (x [m 66 0,k 1 67 (.mov (t 11)),k 2 68 (.mov (t 0)),k 3 69 (.mov (t 1)),k 4 70 (.mov (t 0)),k 5 71 (.mov (t 1)),k 6 72 (.idx (t 70) (t 71) 1),r 7 73 (.ld (t 72)),k 8 74 (.mov (t 0)),k 9 75 (.mov (t 11)),k 10 76 (.idx (t 74) (t 75) 1),r 11 77 (.ld (t 76)),k 12 78 (.idx (t 66) (t 67) 1),w (.st (t 78) (t 73)) [],k 14 79 (.idx (t 68) (t 69) 1),w (.st (t 79) (t 77)) []] (x [m 80 11,m 8 80,q 9 (.mov (.const (.bool true)))] .ret)) .skip)) (x [m 81 0,k 1 82 (.mov (t 10)),k 2 83 (.mov (t 0)),k 3 84 (.mov (t 11)),k 4 85 (.mov (t 0)),k 5 86 (.mov (t 11)),k 6 87 (.idx (t 85) (t 86) 1),r 7 88 (.ld (t 87)),k 8 89 (.mov (t 0)),k 9 90 (.mov (t 10)),k 10 91 (.idx (t 89) (t 90) 1),r 11 92 (.ld (t 91)),k 12 93 (.idx (t 81) (t 82) 1),w (.st (t 93) (t 88)) [],k 14 94 (.idx (t 83) (t 84) 1),w (.st (t 94) (t 92)) []] (x [m 95 10,q 96 (.bin .add (t 95) (i 1)),m 10 96] (x [m 97 11,q 98 (.bin .sub (t 97) (i 1)),m 11 98] (s (.block 4 (.loop (.block 5 (s (.block 6 (.loop (s (x [m 99 10,k 1 100 (.mov (t 11)),k 2 101 (.bin .leq (t 99) (t 100)),k 3 102 (.mov (t 101)),g 4 103 102 (.mov (t 0)),g 5 104 102 (.mov (t 10)),g 6 105 102 (.idx (t 103) (t 104) 1),h 7 106 102 (.ld (t 105)),g 8 107 102 (.mov (t 0)),g 9 108 102 (.mov (t 1)),g 10 109 102 (.idx (t 107) (t 108) 1),h 11 110 102 (.ld (t 109)),.e (some 111) (some (102,true)) (.call 39 [t 106,t 110]) [],k 13 112 (.pick (t 102) (t 111) (.const (.bool false)))] (.cond (t 112) .skip (.exit 6))) (.block 7 (.reg [m 113 10,q 114 (.bin .add (t 113) (i 1)),m 10 114]))))) (s (.block 8 (.loop (s (x [m 115 10,k 1 116 (.mov (t 11)),k 2 117 (.bin .leq (t 115) (t 116)),k 3 118 (.mov (t 117)),g 4 119 118 (.mov (t 0)),g 5 120 118 (.mov (t 11)),g 6 121 118 (.idx (t 119) (t 120) 1),h 7 122 118 (.ld (t 121)),g 8 123 118 (.mov (t 0)),g 9 124 118 (.mov (t 1)),g 10 125 118 (.idx (t 123) (t 124) 1),h 11 126 118 (.ld (t 125)),.e (some 127) (some (118,true)) (.call 39 [t 122,t 126]) [],g 13 128 118 (.un .not (t 127)),k 14 129 (.pick (t 118) (t 128) (.const (.bool false)))] (.cond (t 129) .skip (.exit 8))) (.block 9 (.reg [m 130 11,q 131 (.bin .sub (t 130) (i 1)),m 11 131]))))) (s (x [m 132 10,m 133 11,q 134 (.bin .gtr (t 132) (t 133))] (.cond (t 134) (.exit 4) .skip)) (x [m 135 0,k 1 136 (.mov (t 10)),k 2 137 (.mov (t 0)),k 3 138 (.mov (t 11)),k 4 139 (.mov (t 0)),k 5 140 (.mov (t 11)),k 6 141 (.idx (t 139) (t 140) 1),r 7 142 (.ld (t 141)),k 8 143 (.mov (t 0)),k 9 144 (.mov (t 10)),k 10 145 (.idx (t 143) (t 144) 1),r 11 146 (.ld (t 145)),k 12 147 (.idx (t 135) (t 136) 1),w (.st (t 147) (t 142)) [],k 14 148 (.idx (t 137) (t 138) 1),w (.st (t 148) (t 146)) []] (x [m 149 10,q 150 (.bin .add (t 149) (i 1)),m 10 150] (.reg [m 151 11,q 152 (.bin .sub (t 151) (i 1)),m 11 152]))))))))) (x [m 153 0,k 1 154 (.mov (t 11)),k 2 155 (.mov (t 0)),k 3 156 (.mov (t 1)),k 4 157 (.mov (t 0)),k 5 158 (.mov (t 1)),k 6 159 (.idx (t 157) (t 158) 1),r 7 160 (.ld (t 159)),k 8 161 (.mov (t 0)),k 9 162 (.mov (t 11)),k 10 163 (.idx (t 161) (t 162) 1),r 11 164 (.ld (t 163)),k 12 165 (.idx (t 153) (t 154) 1),w (.st (t 165) (t 160)) [],k 14 166 (.idx (t 155) (t 156) 1),w (.st (t 166) (t 164)) []] (x [m 167 11,m 8 167,q 9 (.mov (.const (.bool false)))] .ret))))))))))))
def m_math_bits_Len32:MC:=(x [q 2 (.mov (i 0))] (s (x [m 3 0,q 4 (.bin .geq (t 3) (.const (.int .u32 65536)))] (.cond (t 4) (x [m 5 0,q 6 (.sh false (t 5) (.const (.int .u64 16))),m 0 6] (.reg [q 2 (.mov (i 16))])) .skip)) (s (x [m 7 0,q 8 (.bin .geq (t 7) (.const (.int .u32 256)))] (.cond (t 8) (x [m 9 0,q 10 (.sh false (t 9) (.const (.int .u64 8))),m 0 10] (.reg [m 11 2,q 12 (.bin .add (t 11) (i 8)),m 2 12])) .skip)) (x [m 13 2,m 14 0,q 15 (.cvi .u8 (t 14)),r 0 16 (.raw (o (.index 9 (.const (.string ⟨[0,1,2,2,3,3,3,3,4,4,4,4,4,4,4,4,5,5,5,5,5,5,5,5,5,5,5,5,5,5,5,5,6,6,6,6,6,6,6,6,6,6,6,6,6,6,6,6,6,6,6,6,6,6,6,6,6,6,6,6,6,6,6,6,7,7,7,7,7,7,7,7,7,7,7,7,7,7,7,7,7,7,7,7,7,7,7,7,7,7,7,7,7,7,7,7,7,7,7,7,7,7,7,7,7,7,7,7,7,7,7,7,7,7,7,7,7,7,7,7,7,7,7,7,7,7,7,7,8,8,8,8,8,8,8,8,8,8,8,8,8,8,8,8,8,8,8,8,8,8,8,8,8,8,8,8,8,8,8,8,8,8,8,8,8,8,8,8,8,8,8,8,8,8,8,8,8,8,8,8,8,8,8,8,8,8,8,8,8,8,8,8,8,8,8,8,8,8,8,8,8,8,8,8,8,8,8,8,8,8,8,8,8,8,8,8,8,8,8,8,8,8,8,8,8,8,8,8,8,8,8,8,8,8,8,8,8,8,8,8,8,8,8,8,8,8,8,8,8,8,8,8,8,8,8,8].toArray⟩)) (t 15)) 5)),q 17 (.cvi .i64 (t 16)),q 18 (.bin .add (t 13) (t 17)),m 2 18] .ret))))
def m_math_bits_Len64:MC:=(x [q 2 (.mov (i 0))] (s (x [m 3 0,q 4 (.bin .geq (t 3) (.const (.int .u64 4294967296)))] (.cond (t 4) (x [m 5 0,q 6 (.sh false (t 5) (.const (.int .u64 32))),m 0 6] (.reg [q 2 (.mov (i 32))])) .skip)) (s (x [m 7 0,q 8 (.bin .geq (t 7) (.const (.int .u64 65536)))] (.cond (t 8) (x [m 9 0,q 10 (.sh false (t 9) (.const (.int .u64 16))),m 0 10] (.reg [m 11 2,q 12 (.bin .add (t 11) (i 16)),m 2 12])) .skip)) (s (x [m 13 0,q 14 (.bin .geq (t 13) (.const (.int .u64 256)))] (.cond (t 14) (x [m 15 0,q 16 (.sh false (t 15) (.const (.int .u64 8))),m 0 16] (.reg [m 17 2,q 18 (.bin .add (t 17) (i 8)),m 2 18])) .skip)) (x [m 19 2,m 20 0,q 21 (.cvi .u8 (t 20)),r 0 22 (.raw (o (.index 9 (.const (.string ⟨[0,1,2,2,3,3,3,3,4,4,4,4,4,4,4,4,5,5,5,5,5,5,5,5,5,5,5,5,5,5,5,5,6,6,6,6,6,6,6,6,6,6,6,6,6,6,6,6,6,6,6,6,6,6,6,6,6,6,6,6,6,6,6,6,7,7,7,7,7,7,7,7,7,7,7,7,7,7,7,7,7,7,7,7,7,7,7,7,7,7,7,7,7,7,7,7,7,7,7,7,7,7,7,7,7,7,7,7,7,7,7,7,7,7,7,7,7,7,7,7,7,7,7,7,7,7,7,7,8,8,8,8,8,8,8,8,8,8,8,8,8,8,8,8,8,8,8,8,8,8,8,8,8,8,8,8,8,8,8,8,8,8,8,8,8,8,8,8,8,8,8,8,8,8,8,8,8,8,8,8,8,8,8,8,8,8,8,8,8,8,8,8,8,8,8,8,8,8,8,8,8,8,8,8,8,8,8,8,8,8,8,8,8,8,8,8,8,8,8,8,8,8,8,8,8,8,8,8,8,8,8,8,8,8,8,8,8,8,8,8,8,8,8,8,8,8,8,8,8,8,8,8,8,8,8,8].toArray⟩)) (t 21)) 5)),q 23 (.cvi .i64 (t 22)),q 24 (.bin .add (t 19) (t 23)),m 2 24] .ret)))))
def m_slices_siftDownOrdered_int_:MC:=(x [m 10 1,m 8 10] (.block 0 (.loop (.block 1 (x [m 11 8,q 12 (.bin .mul (i 2) (t 11)),q 13 (.bin .add (t 12) (i 1)),m 9 13] (s (x [m 14 9,m 15 2,q 16 (.bin .geq (t 14) (t 15))] (.cond (t 16) (.exit 0) .skip)) (s (x [m 17 9,k 1 18 (.bin .add (t 17) (i 1)),k 2 19 (.mov (t 2)),k 3 20 (.bin .lss (t 18) (t 19)),k 4 21 (.mov (t 20)),g 5 22 21 (.mov (t 0)),g 6 23 21 (.mov (t 3)),g 7 24 21 (.mov (t 9)),g 8 25 21 (.bin .add (t 23) (t 24)),g 9 26 21 (.idx (t 22) (t 25) 1),h 10 27 21 (.ld (t 26)),g 11 28 21 (.mov (t 0)),g 12 29 21 (.mov (t 3)),g 13 30 21 (.mov (t 9)),g 14 31 21 (.bin .add (t 29) (t 30)),g 15 32 21 (.bin .add (t 31) (i 1)),g 16 33 21 (.idx (t 28) (t 32) 1),h 17 34 21 (.ld (t 33)),.e (some 35) (some (21,true)) (.call 39 [t 27,t 34]) [],k 19 36 (.pick (t 21) (t 35) (.const (.bool false)))] (.cond (t 36) (.reg [m 37 9,q 38 (.bin .add (t 37) (i 1)),m 9 38]) .skip)) (s (x [m 39 0,k 1 40 (.mov (t 3)),k 2 41 (.mov (t 8)),k 3 42 (.bin .add (t 40) (t 41)),k 4 43 (.idx (t 39) (t 42) 1),r 5 44 (.ld (t 43)),k 6 45 (.mov (t 0)),k 7 46 (.mov (t 3)),k 8 47 (.mov (t 9)),k 9 48 (.bin .add (t 46) (t 47)),k 10 49 (.idx (t 45) (t 48) 1),r 11 50 (.ld (t 49)),e 51 (.call 39 [t 44,t 50]) [],k 13 52 (.un .not (t 51))] (.cond (t 52) .ret .skip)) (x [m 53 0,k 1 54 (.mov (t 3)),k 2 55 (.mov (t 8)),k 3 56 (.bin .add (t 54) (t 55)),k 4 57 (.mov (t 0)),k 5 58 (.mov (t 3)),k 6 59 (.mov (t 9)),k 7 60 (.bin .add (t 58) (t 59)),k 8 61 (.mov (t 0)),k 9 62 (.mov (t 3)),k 10 63 (.mov (t 9)),k 11 64 (.bin .add (t 62) (t 63)),k 12 65 (.idx (t 61) (t 64) 1),r 13 66 (.ld (t 65)),k 14 67 (.mov (t 0)),k 15 68 (.mov (t 3)),k 16 69 (.mov (t 8)),k 17 70 (.bin .add (t 68) (t 69)),k 18 71 (.idx (t 67) (t 70) 1),r 19 72 (.ld (t 71)),k 20 73 (.idx (t 53) (t 56) 1),w (.st (t 73) (t 66)) [],k 22 74 (.idx (t 57) (t 60) 1),w (.st (t 74) (t 72)) []] (.reg [m 75 9,m 8 75]))))))))))
def m_slices_nextPowerOfTwo:MC:=(x [q 2 (.mov (.const (.int .u64 0)))] (x [m 3 0,q 4 (.cvi .u64 (t 3)),e 5 (.call 32 [t 4]) [],q 6 (.sh true (.const (.int .u64 1)) (t 5)),m 2 6] .ret))
def m_slices_xorshift_Next:MC:=(x [q 2 (.mov (.const (.int .u64 0)))] (x [m 3 0,k 1 4 (.nilc (t 3)),r 2 5 (.ld (t 4)),k 3 6 (.mov (t 0)),k 4 7 (.nilc (t 6)),r 5 8 (.ld (t 7)),k 6 9 (.sh true (t 8) (.const (.int .u64 13))),k 7 10 (.bin .xor (t 5) (t 9)),k 8 11 (.nilc (t 3)),w (.st (t 11) (t 10)) []] (x [m 12 0,k 1 13 (.nilc (t 12)),r 2 14 (.ld (t 13)),k 3 15 (.mov (t 0)),k 4 16 (.nilc (t 15)),r 5 17 (.ld (t 16)),k 6 18 (.sh false (t 17) (.const (.int .u64 7))),k 7 19 (.bin .xor (t 14) (t 18)),k 8 20 (.nilc (t 12)),w (.st (t 20) (t 19)) []] (x [m 21 0,k 1 22 (.nilc (t 21)),r 2 23 (.ld (t 22)),k 3 24 (.mov (t 0)),k 4 25 (.nilc (t 24)),r 5 26 (.ld (t 25)),k 6 27 (.sh true (t 26) (.const (.int .u64 17))),k 7 28 (.bin .xor (t 23) (t 27)),k 8 29 (.nilc (t 21)),w (.st (t 29) (t 28)) []] (x [m 30 0,q 31 (.nilc (t 30)),l 32 31,m 2 32] .ret)))))
def m_slices_medianAdjacentOrdered_int_:MC:=(x [q 6 (.mov (i 0))] (x [m 7 0,m 8 1,q 9 (.bin .sub (t 8) (i 1)),m 10 1,m 11 1,q 12 (.bin .add (t 11) (i 1)),m 13 2,e 14 (.call 48 [t 7,t 9,t 10,t 12,t 13]) [],m 6 14] .ret))
def m_slices_medianOrdered_int_:MC:=(x [q 10 (.mov (i 0))] (x [m 12 0,m 13 1,m 14 2,m 15 4,e 16 (.call 50 [t 12,t 13,t 14,t 15]) [],m 11 16,q 17 (.ext (t 11) 0),q 18 (.ext (t 11) 1),m 1 17,m 2 18] (x [m 20 0,m 21 2,m 22 3,m 23 4,e 24 (.call 50 [t 20,t 21,t 22,t 23]) [],m 19 24,q 25 (.ext (t 19) 0),q 26 (.ext (t 19) 1),m 2 25,m 3 26] (x [m 28 0,m 29 1,m 30 2,m 31 4,e 32 (.call 50 [t 28,t 29,t 30,t 31]) [],m 27 32,q 33 (.ext (t 27) 0),q 34 (.ext (t 27) 1),m 1 33,m 2 34] (x [m 35 2,m 10 35] .ret)))))
def m_cmp_isNaN_int_:MC:=(x [q 2 (.mov (.const (.bool false)))] (x [m 3 0,m 4 0,q 5 (.bin .neq (t 3) (t 4)),m 2 5] .ret))
def m_slices_order2Ordered_int_:MC:=(x [q 8 (.mov (i 0)),q 9 (.mov (i 0))] (s (x [m 10 0,k 1 11 (.mov (t 2)),k 2 12 (.idx (t 10) (t 11) 1),r 3 13 (.ld (t 12)),k 4 14 (.mov (t 0)),k 5 15 (.mov (t 1)),k 6 16 (.idx (t 14) (t 15) 1),r 7 17 (.ld (t 16)),e 18 (.call 39 [t 13,t 17]) []] (.cond (t 18) (x [m 19 3,q 20 (.nilc (t 19)),l 21 20,q 22 (.bin .add (t 21) (i 1)),q 23 (.nilc (t 19)),w (.st (t 23) (t 22)) []] (x [m 24 2,m 25 1,m 8 24,m 9 25] .ret)) .skip)) (x [m 26 1,m 27 2,m 8 26,m 9 27] .ret)))
end Go.Proofs.Ythefbejopmbnbaa
end
section
namespace Go.Proofs.Ythefbejopmbnbaa
open Go Go.Tum
def isTmpR:RV→Bool
 | .tmp _=>true
 | _=>false
theorem rowKit {k np:Nat} {res:List RV} {m:MC} {fn:Func} (e:EOk k np m fn) (h1:callable Try.prog k=true:=by kernel_rfl) (h2:Nat.ble res.length 4=true:=by exact rfl) (h3:fn.results=(res.map RV.real).toArray:=by exact rfl) (h4:res.all isTmpR=true:=by exact rfl):FnRow.Ok Try.prog ⟨k,np,res,m⟩ :=
 ⟨h1,fn,Nat.le_of_ble_eq_true h2,h3,fun r hr=>(by have:=List.all_eq_true.1 h4 r hr; cases r with | tmp _=>exact trivial | cell _ _ _=>cases this),fun _ _ _ hn h=>e hn h⟩
def row_tumbrellaw21_ReachSteps:FnRow:=⟨3,84,[(.tmp 6)],m_tumbrellaw21_ReachSteps⟩
def row_tumbrellaw21_ReachGrows:FnRow:=⟨4,74,[(.tmp 6)],m_tumbrellaw21_ReachGrows⟩
def row_tumbrellaw21_ReachUnion:FnRow:=⟨5,64,[(.tmp 6)],m_tumbrellaw21_ReachUnion⟩
def row_tumbrellaw21_ReachFrom:FnRow:=⟨6,63,[(.tmp 4)],m_tumbrellaw21_ReachFrom⟩
theorem row_tumbrellaw21_ReachFrom_ok:row_tumbrellaw21_ReachFrom.Ok Try.prog:=rowKit e_tumbrellaw21_ReachFrom
def row_tumbrellaw21_made:FnRow:=⟨7,38,[(.tmp 2),(.tmp 3)],m_tumbrellaw21_made⟩
theorem row_tumbrellaw21_made_ok:row_tumbrellaw21_made.Ok Try.prog:=rowKit e_tumbrellaw21_made
def row_reach_Graph_Steps:FnRow:=⟨8,21,[(.tmp 6),(.tmp 7)],m_reach_Graph_Steps⟩
theorem row_reach_Graph_Steps_ok:row_reach_Graph_Steps.Ok Try.prog:=rowKit e_reach_Graph_Steps
def row_tumbrelref21_Find:FnRow:=⟨9,20,[(.tmp 4)],m_tumbrelref21_Find⟩
theorem row_tumbrelref21_Find_ok:row_tumbrelref21_Find.Ok Try.prog:=rowKit e_tumbrelref21_Find
def row_tumbrelref21_Within:FnRow:=⟨10,76,[(.tmp 6)],m_tumbrelref21_Within⟩
theorem row_tumbrelref21_Within_ok:row_tumbrelref21_Within.Ok Try.prog:=rowKit e_tumbrelref21_Within
def row_tumbrellaw21_awake:FnRow:=⟨11,28,[(.tmp 0)],m_tumbrellaw21_awake⟩
theorem row_tumbrellaw21_awake_ok:row_tumbrellaw21_awake.Ok Try.prog:=rowKit e_tumbrellaw21_awake
def row_reach_Graph_From:FnRow:=⟨12,10,[(.tmp 4)],m_reach_Graph_From⟩
theorem row_reach_Graph_From_ok:row_reach_Graph_From.Ok Try.prog:=rowKit e_reach_Graph_From
def row_tumbrellaw21_cut:FnRow:=⟨13,9,[(.tmp 2)],m_tumbrellaw21_cut⟩
theorem row_tumbrellaw21_cut_ok:row_tumbrellaw21_cut.Ok Try.prog:=rowKit e_tumbrellaw21_cut
def row_tumbrelref21_Same:FnRow:=⟨14,26,[(.tmp 4)],m_tumbrelref21_Same⟩
theorem row_tumbrelref21_Same_ok:row_tumbrelref21_Same.Ok Try.prog:=rowKit e_tumbrelref21_Same
def row_tumbrellaw21_picked:FnRow:=⟨15,26,[(.tmp 4)],m_tumbrellaw21_picked⟩
theorem row_tumbrellaw21_picked_ok:row_tumbrellaw21_picked.Ok Try.prog:=rowKit e_tumbrellaw21_picked
def row_reach_Graph_Nodes:FnRow:=⟨16,11,[(.tmp 2)],m_reach_Graph_Nodes⟩
theorem row_reach_Graph_Nodes_ok:row_reach_Graph_Nodes.Ok Try.prog:=rowKit e_reach_Graph_Nodes
def row_reach_Graph_Names:FnRow:=⟨17,14,[(.tmp 4)],m_reach_Graph_Names⟩
theorem row_reach_Graph_Names_ok:row_reach_Graph_Names.Ok Try.prog:=rowKit e_reach_Graph_Names
def row_reach_New:FnRow:=⟨18,4,[(.tmp 0)],m_reach_New⟩
theorem row_reach_New_ok:row_reach_New.Ok Try.prog:=rowKit e_reach_New
def row_reach_Graph_Add:FnRow:=⟨19,15,[],m_reach_Graph_Add⟩
theorem row_reach_Graph_Add_ok:row_reach_Graph_Add.Ok Try.prog:=rowKit e_reach_Graph_Add
def row_tumbrelref21_Add:FnRow:=⟨20,47,[(.tmp 4)],m_tumbrelref21_Add⟩
theorem row_tumbrelref21_Add_ok:row_tumbrelref21_Add.Ok Try.prog:=rowKit e_tumbrelref21_Add
def row_reach_Graph_far:FnRow:=⟨21,60,[(.tmp 4)],m_reach_Graph_far⟩
theorem row_reach_Graph_far_ok:row_reach_Graph_far.Ok Try.prog:=rowKit e_reach_Graph_far
def row_slices_Sorted_int_:FnRow:=⟨22,9,[(.tmp 2)],m_slices_Sorted_int_⟩
def row_maps_Keys_map_int_int_int_int_:FnRow:=⟨23,4,[(.tmp 2)],m_maps_Keys_map_int_int_int_int_⟩
def row_maps_Keys_map_int_int_int_int_x1:FnRow:=⟨24,4,[(.tmp 2)],m_maps_Keys_map_int_int_int_int_x1⟩
def row_slices_Clone_int_int_:FnRow:=⟨25,8,[(.tmp 2)],m_slices_Clone_int_int_⟩
theorem row_slices_Clone_int_int__ok:row_slices_Clone_int_int_.Ok Try.prog:=rowKit e_slices_Clone_int_int_
def row_slices_Collect_int_:FnRow:=⟨26,5,[(.tmp 2)],m_slices_Collect_int_⟩
def row_slices_Sort_int_int_:FnRow:=⟨27,11,[],m_slices_Sort_int_int_⟩
def row_maps_Keys_map_int_int_int_int__c1:FnRow:=⟨28,14,[],m_maps_Keys_map_int_int_int_int__c1⟩
def row_maps_Keys_map_int_int_int_int__c1x1:FnRow:=⟨29,14,[],m_maps_Keys_map_int_int_int_int__c1x1⟩
def row_slices_pdqsortOrdered_int_:FnRow:=⟨31,134,[],m_slices_pdqsortOrdered_int_⟩
def row_math_bits_Len:FnRow:=⟨32,8,[(.tmp 2)],m_math_bits_Len⟩
def row_slices_insertionSortOrdered_int_:FnRow:=⟨33,49,[],m_slices_insertionSortOrdered_int_⟩
def row_slices_heapSortOrdered_int_:FnRow:=⟨34,56,[],m_slices_heapSortOrdered_int_⟩
def row_slices_breakPatternsOrdered_int_:FnRow:=⟨35,65,[],m_slices_breakPatternsOrdered_int_⟩
def row_slices_choosePivotOrdered_int_:FnRow:=⟨36,57,[(.tmp 6),(.tmp 7)],m_slices_choosePivotOrdered_int_⟩
def row_slices_reverseRangeOrdered_int_:FnRow:=⟨37,32,[],m_slices_reverseRangeOrdered_int_⟩
def row_slices_partialInsertionSortOrdered_int_:FnRow:=⟨38,133,[(.tmp 6)],m_slices_partialInsertionSortOrdered_int_⟩
def row_cmp_Less_int_:FnRow:=⟨39,17,[(.tmp 4)],m_cmp_Less_int_⟩
def row_slices_partitionEqualOrdered_int_:FnRow:=⟨40,84,[(.tmp 8)],m_slices_partitionEqualOrdered_int_⟩
def row_slices_partitionOrdered_int_:FnRow:=⟨41,168,[(.tmp 8),(.tmp 9)],m_slices_partitionOrdered_int_⟩
def row_math_bits_Len32:FnRow:=⟨42,19,[(.tmp 2)],m_math_bits_Len32⟩
def row_math_bits_Len64:FnRow:=⟨43,25,[(.tmp 2)],m_math_bits_Len64⟩
def row_slices_siftDownOrdered_int_:FnRow:=⟨44,76,[],m_slices_siftDownOrdered_int_⟩
def row_slices_nextPowerOfTwo:FnRow:=⟨45,7,[(.tmp 2)],m_slices_nextPowerOfTwo⟩
def row_slices_xorshift_Next:FnRow:=⟨46,33,[(.tmp 2)],m_slices_xorshift_Next⟩
def row_slices_medianAdjacentOrdered_int_:FnRow:=⟨47,15,[(.tmp 6)],m_slices_medianAdjacentOrdered_int_⟩
def row_slices_medianOrdered_int_:FnRow:=⟨48,36,[(.tmp 10)],m_slices_medianOrdered_int_⟩
def row_cmp_isNaN_int_:FnRow:=⟨49,6,[(.tmp 2)],m_cmp_isNaN_int_⟩
def row_slices_order2Ordered_int_:FnRow:=⟨50,28,[(.tmp 8),(.tmp 9)],m_slices_order2Ordered_int_⟩
def rows:List FnRow:=[row_tumbrellaw21_ReachSteps,row_tumbrellaw21_ReachGrows,row_tumbrellaw21_ReachUnion,row_tumbrellaw21_ReachFrom,row_tumbrellaw21_made,row_reach_Graph_Steps,row_tumbrelref21_Find,row_tumbrelref21_Within,row_tumbrellaw21_awake,row_reach_Graph_From,row_tumbrellaw21_cut,row_tumbrelref21_Same,row_tumbrellaw21_picked,row_reach_Graph_Nodes,row_reach_Graph_Names,row_reach_New,row_reach_Graph_Add,row_tumbrelref21_Add,row_reach_Graph_far,row_slices_Sorted_int_,row_maps_Keys_map_int_int_int_int_,row_maps_Keys_map_int_int_int_int_x1,row_slices_Clone_int_int_,row_slices_Collect_int_,row_slices_Sort_int_int_,row_maps_Keys_map_int_int_int_int__c1,row_maps_Keys_map_int_int_int_int__c1x1,row_slices_pdqsortOrdered_int_,row_math_bits_Len,row_slices_insertionSortOrdered_int_,row_slices_heapSortOrdered_int_,row_slices_breakPatternsOrdered_int_,row_slices_choosePivotOrdered_int_,row_slices_reverseRangeOrdered_int_,row_slices_partialInsertionSortOrdered_int_,row_cmp_Less_int_,row_slices_partitionEqualOrdered_int_,row_slices_partitionOrdered_int_,row_math_bits_Len32,row_math_bits_Len64,row_slices_siftDownOrdered_int_,row_slices_nextPowerOfTwo,row_slices_xorshift_Next,row_slices_medianAdjacentOrdered_int_,row_slices_medianOrdered_int_,row_cmp_isNaN_int_,row_slices_order2Ordered_int_]
end Go.Proofs.Ythefbejopmbnbaa
end
section
namespace Go.Tum
open Go
section
variable {P:Program} {n0:NA} {l:Env} {L:LH}
variable {α:Type} {g:α→List Value} {sz:Nat}
theorem form_slice {E:Emb} {a:Option Addr} {n c:Nat} {v:Value} (hv:VR E (.slice a n c) v):∃ a' c',v=.slice a' n c':=by
 cases a with
 | none=>cases hv; exact ⟨_,_,rfl⟩
 | some a=>rcases a with ⟨b,o,_ | s⟩ <;> first | (rcases hv with hv | ⟨rfl,rfl,_,hv⟩ <;> exact ⟨_,_,hv⟩) | (obtain ⟨_,r,_,⟨a',c',rfl,_⟩ | ⟨rfl,_,_,rfl⟩⟩:=hv <;> exact ⟨_,_,rfl⟩)
end
end Go.Tum
end
section
namespace Go.Tum
open Go
section
variable {P:Program} {n0:NA} {l:Env} {L:LH}
def strT (P:Program) (src dst:TypeId):Bool:=match P.underlying src,P.underlying dst with
 | some (.slice e),some .string=>match P.underlying e with
  | some (.int .u8)=>true
  | _=>false
 | _,_=>false
theorem QY.slc0 {x:Operand} {lo hi:Option Operand} {size b n c lo' hi':Nat} (hx:lv l x=some (.slice (some ⟨b,0,none⟩) n c)) (h1:lbound l lo 0=some lo') (h2:lbound l hi n=some hi') (h3:lo'≤hi') (h4:hi'≤c) :
  QY P n0 L l (.slc x lo hi size) (.slice (some ⟨b,lo'*size,none⟩) (hi'-lo') (c-lo')):=by
 have:=QY.slc (P:=P) (n0:=n0) (L:=L) (size:=size) hx h1 h2 h3 h4
 rwa [Nat.zero_add] at this
variable {K:Env→LH→Prop} {T T1:Taken} {ss r:List Step} {l1:Env} {L1:LH} {k:Nat} {d:Option Nat} {g:Option (Nat × Bool)} {op:QOp} {rd:Bool}
def QY2 (P:Program) (n0:NA) (L:LH) (l:Env) (q:QOp) (v u:Value):Prop :=
 ∀ (X:Nat→Prop) (w0:World) (E0:Emb) (w:World) (E:Emb) (l':Env),n0.Ok P X w0 E0→n0.Ext E0 E→Rep X w0 E L w→ER E l l'→∃ v',q.Y P l' v' w∧(VR E v v'∨VR E u v')
theorem S_Q2 {v u:Value} (st:List Nat) (h:arun st ss l T L=(.q k d g op rd::r,l1,T1,L1)) (hg:gw g l1=some true) (hy:QY2 P n0 L1 l1 op v u) (h1:LSt P n0 r K (dpush d v l1) (bif rd then (k,op,l1,v)::T1 else T1) L1) (h2:LSt P n0 r K (dpush d u l1) (bif rd then (k,op,l1,u)::T1 else T1) L1):LSt P n0 ss K l T L:=by
 refine arun_ok st ss l T L h ?_
 refine ⟨fun X w0 E0 w E l' F h0 hE hR hl hT=>?_⟩
 simp only [stepsWp]
 refine gw_ok hl hg (fun _=>?_) (fun e=>by cases e)
 obtain ⟨v',e1,e2⟩:=hy X w0 E0 w E l' h0 hE hR hl
 refine ⟨v',e1,?_⟩
 rcases e2 with e2 | e2
 ·cases rd
  ·exact h1.go X w0 E0 w E _ _ h0 hE hR (hl.dpush e2 d) hT
  ·exact h1.go X w0 E0 w E _ _ h0 hE hR (hl.dpush e2 d) ⟨rfl,⟨l',v',rfl,hl,e2⟩,hT⟩
 ·cases rd
  ·exact h2.go X w0 E0 w E _ _ h0 hE hR (hl.dpush e2 d) hT
  ·exact h2.go X w0 E0 w E _ _ h0 hE hR (hl.dpush e2 d) ⟨rfl,⟨l',v',rfl,hl,e2⟩,hT⟩
def sliceT (P:Program) (t:TypeId):Bool:=match P.underlying t with
 | some (.slice _)=>true
 | _=>false
theorem nil_run {t:TypeId} {a:Option Addr} {n c:Nat} {w:World} (ht:sliceT P t=true):(Op.equal t (.slice a n c) (.slice none 0 0)).run P w=.ok a.isNone w:=by
 unfold sliceT at ht
 split at ht
 ·rename_i e hu
  unfold Op.equal Op.maxDepth
  unfold Op.equalIn
  simp only [Sem.run_bind,run_underlying hu,Result.andThen_ok]
  cases a <;> rfl
 ·cases ht
theorem QY.nilS {o:Oper} {t ty:TypeId} {x:Operand} {b off n c:Nat} (ho:o.op=.binOp .eql t x (.const (.slice none 0 0)) ty) (ht:sliceT P t=true) (hx:lv l x=some (.slice (some ⟨b,off,none⟩) n c)) (hn:0<n):QY P n0 L l (.raw o) (.bool false):=by
 intro X w0 E0 w E l' _ hE hR hl
 obtain ⟨vx,h1,h2⟩:=lv_ev hl hx
 obtain ⟨_,r,hr,⟨a',c',rfl,_⟩ | ⟨h0,_⟩⟩:=h2
 rotate_left
 ·omega
 obtain ⟨d,op,ty',pos,af,g⟩:=o
 simp only at ho
 subst ho
 refine ⟨_,fun ρ w1 ha hs1=>?_,rfl⟩
 have hc:ρ (.const (.slice none 0 0))=.slice none 0 0:=ha _ _ rfl
 simp [execOp,ha x _ h1,hc,eqGuard,binOp,nil_run ht]
theorem QY.nilS2 {o:Oper} {t ty:TypeId} {x:Operand} {b off n c:Nat} (ho:o.op=.binOp .eql t x (.const (.slice none 0 0)) ty) (ht:sliceT P t=true) (hx:lv l x=some (.slice (some ⟨b,off,none⟩) n c)):QY2 P n0 L l (.raw o) (.bool true) (.bool false):=by
 intro X w0 E0 w E l' _ hE hR hl
 obtain ⟨vx,h1,h2⟩:=lv_ev hl hx
 obtain ⟨a',c',rfl⟩:=form_slice h2
 obtain ⟨d,op,ty',pos,af,g⟩:=o
 simp only at ho
 subst ho
 refine ⟨.bool a'.isNone,fun ρ w1 ha hs1=>?_,?_⟩
 ·have hc:ρ (.const (.slice none 0 0))=.slice none 0 0:=ha _ _ rfl
  simp [execOp,ha x _ h1,hc,eqGuard,binOp,nil_run ht]
 ·cases a'
  ·exact .inl rfl
  ·exact .inr rfl
end
end Go.Tum
end
section
namespace Go.Tum
open Go
abbrev IMap:=List (Int × Int × Nat)
def gfind (G:IMap) (a:Int):Option (Int × Int × Nat):=G.find? fun x=>decide (x.1=a)
def gget (G:IMap) (a:Int):Int:=((gfind G a).map (·.2.1)).getD 0
def ghas (G:IMap) (a:Int):Bool:=(gfind G a).isSome
def gput (G:IMap) (a n:Int) (c:Nat):IMap:=G++[(a,n,c)]
theorem mfind_mI (G:IMap) (a:Int):mfind (mI G) a=(gfind G a).map fun x=>(x.1,.int .i64 x.2.1,x.2.2):=by
 simp only [mfind,mI,gfind,List.find?_map]
 rfl
theorem mset_none {G:IMap} {a n:Int} {c:Nat} (h:gfind G a=none):mset (mI G) a (.int .i64 n) c=(mI (gput G a n c),c+1):=by
 unfold mset
 rw [mfind_mI,h]
 simp [mI,gput]
theorem gfind_none {G:IMap} {a:Int} (h:gfind G a=none):∀ x∈G,x.1≠a:=by
 intro x hx
 have:=List.find?_eq_none.1 h x hx
 simpa using this
theorem gfind_some {G:IMap} {a:Int} {x:Int × Int × Nat} (h:gfind G a=some x):x∈G∧x.1=a:=⟨List.mem_of_find?_eq_some h,by simpa using List.find?_some h⟩
theorem gfind_put (G:IMap) (a n:Int) (c:Nat) (b:Int):gfind (gput G a n c) b=(gfind G b).or (if a=b then some (a,n,c) else none):=by
 simp only [gfind,gput,List.find?_append,List.find?_singleton,decide_eq_true_eq]
section
variable {P:Program} {n0:NA} {l:Env} {L:LH}
def imT (P:Program) (mT:TypeId):Bool:=match P.underlying mT with
 | some (.map kt et)=>match P.underlying kt,zeroOf P et with
  | some (.int .i64),some (.int .i64 (.ofNat 0))=>true
  | _,_=>false
 | _=>false
theorem imT_ok {mT:TypeId} (h:imT P mT=true):∃ kt et,P.underlying mT=some (.map kt et)∧P.underlying kt=some (.int .i64)∧zeroOf P et=some (.int .i64 0):=by
 unfold imT at h
 split at h
 rotate_left
 ·cases h
 rename_i kt et hu
 split at h
 ·rename_i h1 h2; exact ⟨kt,et,hu,h1,h2⟩
 ·cases h
theorem imap_at {X:Nat→Prop} {w0 w:World} {E:Emb} {l':Env} {x:Operand} {b c:Nat} {G:IMap} (hR:Rep X w0 E L w) (hl:ER E l l') (hx:lv l x=some (.map (some b))) (hb:L[b]?=some (.imap G c)) :
  ∃ r,E[b]?=some r∧ev l' x=some (.map (some r.1))∧Mp (Value.int .i64) w r.1 (mI G) c∧Wf (mI G) c:=by
 obtain ⟨_,h1,r,h2,rfl⟩:=lv_ev hl hx
 obtain ⟨h3,h4⟩:=hR.blk b _ r hb h2
 exact ⟨r,h2,h1,h3,h4⟩
theorem QY.igetok {o:Oper} {mT:TypeId} {x y:Operand} {b c:Nat} {G:IMap} {a n:Int} {t:Bool} (ho:o.op=.lookup mT x y true) (ht:imT P mT=true) (hx:lv l x=some (.map (some b))) (hy:lv l y=some (.int .i64 a)) (hb:L[b]?=some (.imap G c)) (hn:gget G a=n) (hh:ghas G a=t):QY P n0 L l (.raw o) (.tuple ⟨[.int .i64 n,.bool t]⟩):=by
 intro X w0 E0 w E l' _ hE hR hl
 obtain ⟨kt,et,hT,hkt,hz⟩:=imT_ok ht
 obtain ⟨r,h2,h3,h4,_⟩:=imap_at hR hl hx hb
 obtain ⟨_,h6,rfl⟩:=lv_ev hl hy
 obtain ⟨d,op,ty,pos,af,g⟩:=o
 simp only at ho
 subst ho
 refine ⟨_,lookupOk_Y (ty:=ty) hT (keyLaw_int hkt) (zeroOf_ok hz) h3 h6 h4 rfl,?_⟩
 rw [mfind_mI]
 subst hn; subst hh
 refine ⟨_,rfl,?_,?_,trivial⟩
 ·show _=_
  unfold gget
  cases gfind G a <;> rfl
 ·show _=_
  unfold ghas
  cases gfind G a <;> rfl
theorem EW.iputN {o:Oper} {mT:TypeId} {x y u:Operand} {b c:Nat} {G:IMap} {a n:Int} (ho:o.op=.mapUpdate mT x y u) (ht:imT P mT=true) (hx:lv l x=some (.map (some b))) (hy:lv l y=some (.int .i64 a)) (hu:lv l u=some (.int .i64 n)) (hb:L[b]?=some (.imap G c)) (hn:gfind G a=none) :
  EW P n0 L l (.raw o) (fun w K=>w=undef∧K=L.set b (.imap (gput G a n c) (c+1))):=by
 intro X w0 E0 w E l' Kf h0 hE hR hl hK
 obtain ⟨kt,et,hT,hkt,hz⟩:=imT_ok ht
 obtain ⟨r,h2,h3,h4,h5⟩:=imap_at hR hl hx hb
 obtain ⟨_,h6,rfl⟩:=lv_ev hl hy
 obtain ⟨_,h7,rfl⟩:=lv_ev hl hu
 obtain ⟨d,op,ty,pos,af,g⟩:=o
 simp only at ho
 subst ho
 have hs:=mset_none (n:=n) (c:=c) hn
 have hw:=h5.mset (k:=a) (.int .i64 n)
 rw [hs] at hw
 refine mapUpdate_W (ty:=ty) (k:=a) hT (keyLaw_int hkt) h3 h6 h7 h4 h5 (fun w' hM hf hsz=>hK w' E _ _ _ ⟨rfl,rfl⟩ (Ext.refl E) (hR.upd hb h2 hf ⟨?_,hw⟩ (fun _ h=>.inl h)) VR.undef)
 rw [hs] at hM; exact hM
theorem EW.imake {o:Oper} {mT:TypeId} (ho:o.op=.makeMap mT none):EW P n0 L l (.raw o) (fun w K=>w=.map (some L.length)∧K=L++[.imap [] 0]):=by
 intro X w0 E0 w E l' Kf h0 hE hR hl hK
 obtain ⟨d,op,ty,pos,af,g⟩:=o
 simp only at ho
 subst ho
 exact makeMap_W (ty:=ty) (mT:=mT) (Value.int .i64) (fun w' hM hf hsz=>hK w' (E++[(w.heap.size,0,0)]) _ _ _ ⟨rfl,rfl⟩ (Ext.push E _) (hR.push1 hf rfl hsz (fun _ h=>h) ⟨hM,by simp [mI],by simp [mI],by simp [mI]⟩) ⟨_,hR.last _,rfl⟩)
end
end Go.Tum
end
section
namespace Go.Tum
open Go
def RdC (w:World) (sz:Nat) (v:Value) (n:Nat) (cells:List Value):Prop :=
 cells.length=n*sz∧(∀ u∈cells,one u=true) ∧
 (((∃ a c,v=.slice a 0 c)∧n=0)∨∃ sa c,v=.slice (some sa) n c∧∀ j,j<n*sz→w.cell? (sa.add j)=cells[j]?)
theorem RdC.sim {w w0:World} {sz:Nat} {v:Value} {n:Nat} {cells:List Value} (h:RdC w sz v n cells) (hs:Sim w0 w):RdC w0 sz v n cells:=by
 obtain ⟨h1,h2,h3⟩:=h
 refine ⟨h1,h2,?_⟩
 rcases h3 with h4 | ⟨sa,c,h4,h5⟩
 ·exact .inl h4
 ·exact .inr ⟨sa,c,h4,fun j hj=>by rw [hs.cell]; exact h5 j hj⟩
section
variable {P:Program} {w:World} {l:Env} {K:Value→World→Prop}
theorem firstCells_rdC {sz n:Nat} {v:Value} {cells:List Value} (h:RdC w sz v n cells):(Builtin.firstCells sz n v).run P w=.ok cells.toArray w:=by
 obtain ⟨h1,_,h3⟩:=h
 rcases h3 with ⟨⟨a,c,rfl⟩,rfl⟩ | ⟨sa,c,rfl,h5⟩
 ·have:cells=[]:=by simpa using h1
  subst this
  cases a with
  | none=>simp [Builtin.firstCells]
  | some a =>
   simp only [Builtin.firstCells,Nat.zero_mul]
   exact loadCells_run 0 0 #[] #[] rfl (fun j _ hj=>by omega) (by simp)
 ·simp only [Builtin.firstCells]
  exact loadCells_run _ 0 #[] cells.toArray (by simpa using h1) (fun j _ hj=>by rw [h5 j (by omega)]; simp) (by simp)
theorem append_runC {sT xT e:TypeId} {sz bytes n m c:Nat} {base:Option Addr} {vx:Value} {cells cells2:List Value} {ty:TypeId} (he:ElemT P sT e sz bytes) (hx:∃ e',P.underlying xT=some (.slice e'))
  (hs:Rd w sz (.slice base n c) n cells) (hr:RdC w sz vx m cells2) (hb:(2*(n+m)+2048)*bytes≤281474976710656) (hby:0<bytes) :
  ((n+m≤c∧(∀ a,base=some a→(Builtin.append_ #[sT,xT] ty #[.slice base n c,vx]).run P w=(do storeCells (a.add (n*sz)) cells2; pure (.slice base (n+m) c):Sem Value).run P w) ∧
    (base=none→(Builtin.append_ #[sT,xT] ty #[.slice base n c,vx]).run P w=.ok (.slice base (n+m) c) w)) ∨
   (c<n+m∧∃ c' zs w',n+m≤c'∧(cells++cells2++zs).length=c'*sz∧Sim w' (w.alloc (.cells (cells++cells2++zs).toArray e)) ∧
    (Builtin.append_ #[sT,xT] ty #[.slice base n c,vx]).run P w=.ok (.slice (some ⟨w.heap.size,0,none⟩) (n+m) c') w')):=by
 obtain ⟨hu,i,z,hi,h1,h2,hz,hzs,_⟩:=he
 obtain ⟨e',hx⟩:=hx
 have hl:(Builtin.lenOf vx).run P w=.ok m w:=by
  obtain ⟨_,_,h3⟩:=hr
  rcases h3 with ⟨⟨a,c,rfl⟩,rfl⟩ | ⟨sa,c,rfl,_⟩ <;> simp [Builtin.lenOf]
 have hzv:(zeroValue e).run P w=.ok z w:=by simp [zeroValue,typeInfo_run hi,hz]
 by_cases hc:n+m≤c
 ·refine .inl ⟨hc,fun a ha=>?_,fun ha=>?_⟩
  ·subst ha
   unfold Builtin.append_
   simp [run_underlying hu,run_underlying hx,sizeOf_run hi,h1,hl,hc,firstCells_rdC hr]
  ·subst ha
   unfold Builtin.append_
   simp [run_underlying hu,run_underlying hx,sizeOf_run hi,h1,hl,hc,firstCells_rdC hr]
 ·refine .inr ⟨by omega,?_⟩
  have hcap:=nextslicecap_le (n+m) c (by omega)
  have hle:Builtin.nextslicecap (n+m) c*bytes≤281474976710656:=Nat.le_trans (Nat.mul_le_mul_right _ hcap) hb
  have hnm:(2*(n+m)+2048)*1≤(2*(n+m)+2048)*bytes:=Nat.mul_le_mul_left _ hby
  have hq:(Question.appendCap (n+m) c e).forced=false:=rfl
  have hbig:¬ (IntKind.i64.max<((n:Int)+(m:Int))):=by
   have:IntKind.i64.max=9223372036854775807:=rfl
   rw [this]; omega
  let t:=w.tape w.drawn (Question.appendCap (n+m) c e)
  let c':=(n+m)+t % (2 ^ 63-(n+m))
  have hsim:Sim w.drew w:=⟨rfl,rfl,rfl,rfl⟩
  have f1:(Builtin.firstCells sz n (.slice base n c)).run P w.drew=.ok cells.toArray w.drew:=firstCells_rd (hs.sim hsim)
  have f2:(Builtin.firstCells sz m vx).run P w.drew=.ok cells2.toArray w.drew:=firstCells_rdC (hr.sim hsim)
  have hzv1:(zeroValue e).run P w.drew=.ok z w.drew:=by simp [zeroValue,typeInfo_run hi,hz]
  refine ⟨c',(Builtin.zeroCells z.cells (c'-(n+m))).toList,w.drew.alloc (.cells (cells.toArray++cells2.toArray++Builtin.zeroCells z.cells (c'-(n+m))) e),Nat.le_add_right _ _,?_,?_,?_⟩
  ·obtain ⟨k1,_,_⟩:=hs
   obtain ⟨k2,_,_⟩:=hr
   simp only [List.length_append,k1,k2,Builtin.zeroCells]
   simp only [Array.length_toList,Array.size_map,Array.size_range,hzs]
   have e1:c'-(n+m)+(n+m)=c':=Nat.sub_add_cancel (Nat.le_add_right _ _)
   rw [← Nat.add_mul,← Nat.add_mul]
   congr 1
   omega
  ·refine ⟨?_,rfl,rfl,rfl⟩
   show w.heap.push _=w.heap.push _
   congr 2
   simp
  ·unfold Builtin.append_
   have hle':¬ (281474976710656<Builtin.nextslicecap (n+m) c*bytes):=by omega
   have hne:bytes≠0:=by omega
   simp [run_underlying hu,run_underlying hx,sizeOf_run hi,h1,hl,hc,typeInfo_run hi,h2,hne,hle',newRow]
   rw [if_neg (by rw [hq]; simp),f1]
   simp only [Result.andThen_ok]
   rw [f2]
   simp only [Result.andThen_ok]
   rw [hzv1]
   simp only [Result.andThen_ok,Result.ok.injEq]
   refine ⟨rfl,?_⟩
   congr 2
   show cells.toArray++(cells2.toArray++Builtin.zeroCells z.cells (c'-(n+m)))=_
   generalize Builtin.zeroCells z.cells (c'-(n+m))=Z
   rw [← Array.append_assoc]
   simp
theorem append_anyC {d:Option Tmp} {pos:String} {af:Array Edge} {g:Option (Nat × Bool)} {s x:Operand} {sT xT ty e:TypeId} {sz bytes n m c:Nat} {base:Option Addr} {vx:Value} {cells cells2:List Value} (he:ElemT P sT e sz bytes) (hxT:∃ e',P.underlying xT=some (.slice e'))
  (hs:ev l s=some (.slice base n c)) (hx:ev l x=some vx) (hS:Rd w sz (.slice base n c) n cells) (hR:RdC w sz vx m cells2) (hb:(2*(n+m)+2048)*bytes≤281474976710656) (hby:0<bytes)
  (h1:n+m≤c→∀ a,base=some a→(cells2=[]∧K (.slice base (n+m) c) w)∨∃ b o cs,a=⟨b,o,none⟩∧Blk w b cs∧o+n*sz+cells2.length≤cs.length∧K (.slice base (n+m) c) (putCells w ⟨b,o+n*sz,none⟩ 0 cells2))
  (h0:n+m≤c→base=none→K (.slice base (n+m) c) w)
  (h2:c<n+m→∀ c' zs,n+m≤c'→(cells++cells2++zs).length=c'*sz→K (.slice (some ⟨w.heap.size,0,none⟩) (n+m) c') (w.alloc (.cells (cells++cells2++zs).toArray e))) :
  (EOp.raw ⟨d,.call ⟨.builtin .append,#[s,x],#[sT,xT]⟩,ty,pos,af,g⟩).W P K l w:=by
 intro ρ w0 ha hsim
 have hexec:execOp ρ ⟨d,.call ⟨.builtin .append,#[s,x],#[sT,xT]⟩,ty,pos,af,g⟩=(do let r ← Builtin.append_ #[sT,xT] ty #[.slice base n c,vx]; pure (Next.value r)):=by
  simp [execOp,resolve,invoke,builtin,ha s _ hs,ha x _ hx]
 have hrun:=append_runC (P:=P) (w:=w0) (ty:=ty) he hxT (hS.sim hsim) (hR.sim hsim) hb hby
 rcases hrun with ⟨hle,k1,k2⟩ | ⟨hlt,c',zs,w',hc',hlz,hsw,hr⟩
 ·cases base with
  | none =>
   refine Eff.value (v:=.slice none (n+m) c) (w':=w0) ?_ ⟨w,hsim,h0 hle rfl⟩
   rw [hexec]
   simp [k2 rfl]
  | some a =>
   rcases h1 hle a rfl with ⟨rfl,hK⟩ | ⟨b,o,cs,rfl,hB,hcl,hK⟩
   ·refine Eff.value (v:=.slice (some a) (n+m) c) (w':=w0) ?_ ⟨w,hsim,hK⟩
    rw [hexec]
    simp [k1 _ rfl,storeCells]
   have hst:=storeCells_blk (P:=P) (w:=w0) (hB.sim hsim) hcl hR.2.1
   refine Eff.value (v:=.slice (some ⟨b,o,none⟩) (n+m) c) (w':=putCells w0 ⟨b,o+n*sz,none⟩ 0 cells2) ?_ ⟨_,putCells_sim hsim _ _ _,hK⟩
   rw [hexec]
   simp only [Sem.run_bind,k1 _ rfl,add_none,hst]
   simp
 ·refine Eff.value (v:=.slice (some ⟨w0.heap.size,0,none⟩) (n+m) c') (w':=w') ?_ ⟨_,hsw.trans (hsim.push _),?_⟩
  ·rw [hexec]
   simp [hr]
  ·rw [hsim.heap]
   exact h2 hlt c' zs hc' hlz
end
section
variable {X:Nat→Prop} {w0 w w':World} {E:Emb} {L:LH}
theorem appG_ok {P:Program} {l:Env} {K:Value→World→Prop} {d:Option Tmp} {pos:String} {af:Array Edge} {g:Option (Nat × Bool)} {s x:Operand} {sT xT ty e:TypeId} {sz bytes b n m:Nat} {vs' vx':Value} {gs us us2:List Value} (he:ElemT P sT e sz bytes) (hxT:∃ e',P.underlying xT=some (.slice e')) (hby:0<bytes)
  (hsz:0<sz) (hR:Rep X w0 E L w) (hs:ev l s=some vs') (hx:ev l x=some vx') (hsr:VR E (.slice (some ⟨b,0,none⟩) n n) vs') (hb:L[b]?=some (.gro sz gs)) (e4:gs.length=n*sz) (hrd1:Rd w sz vs' n us) (hrd2:RdC w sz vx' m us2) (hbd:(2*(n+m)+2048)*bytes≤281474976710656)
  (hK:∀ w' E' v',Ext E E'→Rep X w0 E' (L.set b .dead++[.gro sz (gs++us2)]) w'→VR E' (.slice (some ⟨L.length,0,none⟩) (n+m) (n+m)) v'→K v' w'):(EOp.raw ⟨d,.call ⟨.builtin .append,#[s,x],#[sT,xT]⟩,ty,pos,af,g⟩).W P K l w:=by
 have hlen1:us.length=n*sz:=hrd1.1
 have hlen2:us2.length=m*sz:=hrd2.1
 have freshG:∀ (Lb:LH) (xs:List Value),Rep X w0 E Lb w→us++us2=xs→xs≠[]→∀ (c':Nat) (zs:List Value),n+m≤c'→(us++us2++zs).length=c'*sz →
   Rep X w0 (E++[(w.heap.size,0,c'-(n+m))]) (Lb++[.gro sz xs]) (w.alloc (.cells (us++us2++zs).toArray e)):=by
  intro Lb xs hRb hxs hne c' zs hc' hlz
  subst hxs
  refine hRb.push1 (Fr.alloc _ _ _) rfl (alloc_size _ _) (fun b hb=>?_) (.inr ⟨hne,hsz,_,Blk.new w _ e,?_,?_⟩)
  ·cases hq:us++us2 with
   | nil=>exact absurd hq hne
   | cons y ys=>rw [hq] at hb; exact hb
  ·simp only [List.drop_zero]
   rw [List.take_append_of_le_length (Nat.le_refl _),List.take_length]
  ·rw [hlz]
   simp only [List.length_append,hlen1,hlen2]
   rw [Nat.zero_add,← Nat.add_mul,← Nat.add_mul]
   exact Nat.mul_le_mul_right _ (by omega)
 have slcNew:∀ (Lb:LH),Rep X w0 E Lb w→∀ c',n+m≤c'→VR (E++[(w.heap.size,0,c'-(n+m))]) (.slice (some ⟨Lb.length,0,none⟩) (n+m) (n+m)) (.slice (some ⟨w.heap.size,0,none⟩) (n+m) c'):=by
  intro Lb hRb c' hc'
  exact ⟨rfl,_,hRb.last _,.inl ⟨_,_,rfl,.inl ⟨by simp,by simp; omega⟩⟩⟩
 obtain ⟨hsp,r,hr,⟨a',c',rfl,hcase⟩ | ⟨hn0,hc0,hnil⟩⟩:=hsr.sr rfl
 rotate_left
 ·obtain ⟨ax,rfl⟩:=hnil
  subst hn0
  have hr:E[b]?=some r:=hr
  have hgs:gs=[]:=List.length_eq_zero_iff.1 (by simpa using e4)
  subst hgs
  have hu1:us=[]:=List.length_eq_zero_iff.1 (by rw [hlen1]; simp)
  subst hu1
  have none0:0+m≤0→us2=[]∧K (.slice ax (0+m) 0) w:=fun hle=>by
   have:m=0:=by omega
   subst this
   have hc2e:us2=[]:=List.length_eq_zero_iff.1 (by rw [hlen2]; simp)
   subst hc2e
   exact ⟨rfl,hK _ (E++[(0,0,0)]) _ (Ext.push E _) (hR.again hb hr (Fr.refl _ w) (fun c hc=>hc.elim) (.inl ⟨rfl,rfl⟩)) ⟨rfl,_,hR.last _,.inr ⟨rfl,rfl,ax,rfl⟩⟩⟩
  refine append_anyC he hxT hs hx hrd1 hrd2 hbd hby (fun hle _ _=>.inl (none0 hle)) (fun hle _=>(none0 hle).2) (fun hlt c' zs hc' hlz=>?_)
  have hne:us2≠[]:=by
   intro e
   rw [e] at hlen2
   have:0<m*sz:=Nat.mul_pos (by omega) hsz
   simp at hlen2
   omega
  have k1:=freshG _ ([]++us2) (hR.kill b) rfl hne c' zs hc' hlz
  have k2:=slcNew _ (hR.kill b) c' hc'
  simp only [List.length_set] at k2
  exact hK _ _ _ (Ext.push E _) k1 k2
 have hr:E[b]?=some r:=hr
 rcases hR.blk b _ r hb hr with ⟨rfl,hr2⟩ | ⟨hne,_,cs,hB,hcs,hroom⟩
 ·have hn0:n=0:=by
   rcases Nat.eq_zero_or_pos n with h0 | h0
   ·exact h0
   ·have:0<n*sz:=Nat.mul_pos h0 hsz
    simp at e4; omega
  subst hn0
  have hc0:c'=0:=by rcases hcase with ⟨_,rfl⟩ | ⟨_,_,rfl,_⟩ <;> omega
  subst hc0
  have hu1:us=[]:=List.length_eq_zero_iff.1 (by rw [hlen1]; simp)
  subst hu1
  have hblk:a'.spot=none:=by rcases hcase with ⟨rfl,_⟩ | ⟨_,_,_,o',rfl,_⟩ <;> rfl
  have hab:∃ o',a'=⟨r.1,o',none⟩∧o'≤0+r.2.1:=by 
   rcases hcase with ⟨rfl,_⟩ | ⟨_,_,_,o',rfl,ho⟩
   ·exact ⟨_,rfl,Nat.le_refl _⟩
   ·exact ⟨_,rfl,ho⟩
  refine append_anyC he hxT hs hx hrd1 hrd2 hbd hby (fun hle a ha=>.inl ?_) (fun _ ha=>by cases ha) (fun hlt c'' zs hc'' hlz=>?_)
  ·have:m=0:=by omega
   subst this
   have hc2e:us2=[]:=List.length_eq_zero_iff.1 (by rw [hlen2]; simp)
   subst hc2e
   refine ⟨rfl,hK _ (E++[r]) _ (Ext.push E _) (hR.again hb hr (Fr.refl _ w) (fun c hc=>hc.elim) (.inl ⟨rfl,hr2⟩)) ?_⟩
   obtain ⟨o',rfl,ho'⟩:=hab
   exact ⟨rfl,r,hR.last _,.inl ⟨_,_,rfl,.inr ⟨rfl,rfl,rfl,o',rfl,by simpa using ho'⟩⟩⟩
  ·have hne:us2≠[]:=by
    intro e
    rw [e] at hlen2
    have:0<m*sz:=Nat.mul_pos (by omega) hsz
    simp at hlen2
    omega
   have k1:=freshG _ ([]++us2) (hR.kill b) rfl hne c'' zs hc'' hlz
   have k2:=slcNew _ (hR.kill b) c'' hc''
   simp only [List.length_set] at k2
   exact hK _ _ _ (Ext.push E _) k1 k2
 ·have hn0:0<n:=by
   rcases Nat.eq_zero_or_pos n with h0 | h0
   ·subst h0; simp at e4; exact absurd e4 hne
   ·exact h0
  rcases hcase with ⟨rfl,rfl⟩ | ⟨h0,_⟩
  rotate_left
  ·omega
  have hus:us=gs:=by
   rcases hrd1.2.2 with ⟨⟨_,_,e⟩,h0⟩ | ⟨b1,o1,c1,cs1,e,hB1,_,h5⟩
   ·omega
   ·cases e
    rw [← h5,← hB.eq hB1,← e4]
    simpa using hcs
  subst hus
  have hne2:us++us2≠[]:=by
   intro e
   rw [List.append_eq_nil_iff] at e
   exact hne e.1
  refine append_anyC he hxT hs hx hrd1 hrd2 hbd hby (fun hle' a ha=>.inr ?_) (fun _ ha=>by cases ha) (fun hlt' c'' zs hc'' hlz=>?_)
  ·cases ha
   have hsp:n*sz+m*sz≤n*sz+r.2.2*sz:=by
    rw [← Nat.add_mul,← Nat.add_mul]; exact Nat.mul_le_mul_right _ hle'
   have hcl:0+r.2.1+n*sz+us2.length≤cs.length:=by omega
   refine ⟨_,_,cs,rfl,hB,hcl,hK _ (E++[(r.1,0+r.2.1,n+r.2.2-(n+m))]) _ (Ext.push E _) ?_ ?_⟩
   ·refine hR.again hb hr ((putCells_fr (p:=⟨r.1,0+r.2.1+n*sz,none⟩) us2 0 w).mono fun c _ hc=>?_) (fun c hc=>.inl ?_) (.inr ⟨hne2,hsz,_,putCells_blk us2 0 w cs hB (by omega),?_,?_⟩)
    ·cases us with
     | nil=>exact absurd rfl hne
     | cons=>exact hc
    ·cases us with
     | nil=>exact absurd rfl hne
     | cons=>exact hc
    ·have:=take_splice (cs:=cs) (o:=0+r.2.1) (k:=n*sz) (b:=us2) (a:=us) hcl (by rw [← e4]; simpa using hcs)
     rw [List.length_append,hlen1,Nat.add_zero]
     exact this
    ·rw [List.length_append,hlen1,hlen2,Nat.add_zero,splice_length hcl]
     have e5:n*sz+m*sz+(n+r.2.2-(n+m))*sz=n*sz+r.2.2*sz:=by
      rw [← Nat.add_mul,← Nat.add_mul,← Nat.add_mul]; congr 1; omega
     show 0+r.2.1+(n*sz+m*sz)+(n+r.2.2-(n+m))*sz≤cs.length
     omega
   ·exact ⟨rfl,(r.1,0+r.2.1,n+r.2.2-(n+m)),hR.last _,.inl ⟨_,_,rfl,.inl ⟨by simp,by simp; omega⟩⟩⟩
  ·have k1:=freshG _ (us++us2) (hR.kill b) rfl hne2 c'' zs hc'' hlz
   have k2:=slcNew _ (hR.kill b) c'' hc''
   simp only [List.length_set] at k2
   exact hK _ _ _ (Ext.push E _) k1 k2
end
end Go.Tum
end
section
namespace Go.Tum
open Go
def jfind:List Nat→LH→Nat→LB→LB
 | j::φ,x::xs,k,d=>match Nat.beq j k with
  | true=>x
  | false=>jfind φ xs k d
 | _,_,_,d=>d
def jgo (φ:List Nat) (xs:LH):Nat→LH→LH
 | _,[]=>[]
 | i,y::r=>jfind φ xs i y::jgo φ xs (i+1) r
theorem jgo_get (φ:List Nat) (xs:LH):∀ (M:LH) (i k:Nat),(jgo φ xs i M)[k]?=(M[k]?).map (jfind φ xs (i+k))
 | [],i,k=>by simp [jgo]
 | y::r,i,0=>by simp [jgo]
 | y::r,i,k+1=>by
  rw [jgo,List.getElem?_cons_succ,List.getElem?_cons_succ,jgo_get φ xs r (i+1) k,show i+1+k=i+(k+1) by omega]
theorem jfind_no:∀ (φ:List Nat) (xs:LH) (k:Nat) (d:LB),k∉φ→jfind φ xs k d=d
 | [],_,_,_,_=>rfl
 | _::_,[],_,_,_=>rfl
 | j::φ,x::xs,k,d,h=>by
  simp only [List.mem_cons,not_or] at h
  have:Nat.beq j k=false:=by
   cases hb:Nat.beq j k
   ·rfl
   ·exact absurd (Nat.eq_of_beq_eq_true hb).symm h.1
  rw [jfind,this]
  exact jfind_no φ xs k d h.2
theorem jset_get:∀ (φ:List Nat) (M xs:LH) (k:Nat),φ.Nodup→(jset M φ xs)[k]?=(M[k]?).map (jfind φ xs k)
 | [],M,xs,k,_=>by simp only [jset]; cases M[k]? <;> rfl
 | j::φ,M,[],k,_=>by simp only [jset]; cases M[k]? <;> rfl
 | j::φ,M,x::xs,k,hn=>by
  have hn:=List.nodup_cons.1 hn
  rw [jset,jset_get φ (M.set j x) xs k hn.2,List.getElem?_set]
  by_cases e:j=k
  ·subst e
   rw [if_pos rfl]
   have h1:∀ d,jfind (j::φ) (x::xs) j d=x:=fun d=>by rw [jfind,Nat.beq_refl]
   by_cases hl:j<M.length
   ·rw [if_pos hl,List.getElem?_eq_getElem hl,Option.map_some,Option.map_some,h1,jfind_no φ xs j x hn.1]
   ·rw [if_neg hl,List.getElem?_eq_none (by omega)]; rfl
  ·rw [if_neg e]
   have:Nat.beq j k=false:=by
    cases hb:Nat.beq j k
    ·rfl
    ·exact absurd (Nat.eq_of_beq_eq_true hb) e
   have h1:jfind (j::φ) (x::xs) k=jfind φ xs k:=by funext d; rw [jfind,this]
   rw [h1]
def joinQ (φ:List Nat) (M L1:LH):LH :=
 jgo φ ((L1.take φ.length).map (rnB (M.length+L1.length) (phi2 φ M.length L1))) 0 M++(L1.drop φ.length).map (rnB (M.length+L1.length) (phi2 φ M.length L1))
theorem joinQ_eq {φ:List Nat} {M L1:LH} (h:φ.Nodup):joinL φ M L1=joinQ φ M L1:=by
 unfold joinL joinQ
 congr 1
 apply List.ext_getElem?
 intro k
 rw [jset_get _ _ _ _ h,jgo_get,Nat.zero_add]
section
variable {P:Program} {n0:NA} {Q:Exit→Env→LH→Prop} {K:Env→LH→Prop} {l l1:Env} {L L1 L2 K2 Lc:LH} {T T1:Taken} {k:Nat} {d:Option Nat} {g:Option (Nat × Bool)} {rd:Bool} {r ss ss1:List Step} {x y:Operand} {b:MC} {op:QOp} {eo:EOp} {pend:List Nat} {v v1 v2:Value}
theorem dN (hn:LWp P n0 b Q l1 L1) (h:arun [] ss l T L=([],l1,T1,L1):=by exact rfl) (hQ:Nx n0 (LWp P n0 b Q) l1 L1→K l1 L1:=by exact fun h=>h):LSt P n0 ss K l T L:=S_done [] h (hQ (Nx.goL hn))
theorem dR {res:List RV} {R:Value→LH→Prop} {us:List Value} (hr:R v L2) (h:arun [] ss l T L=([],l1,T1,L1):=by exact rfl) (hQ:RetQ n0 res R .normal l1 L1→K l1 L1:=by exact fun h=>h) (h1:lres l1 L1 res=some us:=by exact rfl) (h2:(n0.keep.all fun k=>Nat.blt k n0.n)=true:=by exact rfl) (h3:letGoV (seqN 0 n0.n) L1 (lret us)=some v:=by exact rfl) (h4:letGo (seqN 0 n0.n) L1=some L2:=by exact rfl):LSt P n0 ss K l T L:=S_done [] h (hQ (RetQ.keepN h1 h2 h3 h4 hr))
theorem d0 (hn:K l1 L1) (h:arun [] ss l T L=([],l1,T1,L1):=by exact rfl):LSt P n0 ss K l T L:=S_done [] h hn
theorem rT {res:List RV} {R:Value→LH→Prop} {us:List Value} (hr:R v L2) (hQ:RetQ n0 res R .ret l L→Q .ret l L:=by exact fun h=>h) (h1:lres l L res=some us:=by exact rfl) (h2:(n0.keep.all fun k=>Nat.blt k n0.n)=true:=by exact rfl) (h3:letGoV (seqN 0 n0.n) L (lret us)=some v:=by exact rfl) (h4:letGo (seqN 0 n0.n) L=some L2:=by exact rfl):LWp P n0 .ret Q l L:=L_ret (hQ (RetQ.keep h1 h2 h3 h4 hr))
theorem iF {c:Operand} {x y:MC} {t:Bool} {p:Prop} (ht:p→LWp P n0 x Q (knows c true l) L) (hf:¬ p→LWp P n0 y Q (knows c false l) L) (hc:lv l c=some (.bool t):=by exact rfl)
  (hp:t=true↔p:=by first|exact bD|exact bE|exact bN|exact bNB|exact bEB|exact bNot bD|exact bNot bE|exact bNot bN):LWp P n0 (.cond c x y) Q l L:=L_ifp hc hp ht hf
theorem sP (s:Nat) {t:Bool} {p:Prop} (ht:p→LSt P n0 ss1 K ((s,.bool true)::l1) T1 L1) (hf:¬ p→LSt P n0 ss1 K ((s,.bool false)::l1) T1 L1) (h0:arun [s] ss l T L=(ss1,l1,T1,L1):=by exact rfl) (hh:headGuard ss1=some s:=by exact rfl) (hb:eget l1 s=some (.bool t):=by exact rfl)
  (hp:t=true↔p:=by first|exact bD|exact bE|exact bN|exact bNB|exact bEB|exact bNot bD|exact bNot bE|exact bNot bN):LSt P n0 ss K l T L:=S_splitp s h0 hh hb hp ht hf
theorem aX {i:Operand} {b n c j sz:Nat} {kd:IntKind} (hn:LSt P n0 r K (dpush d (.pointer (some ⟨b,j*sz,none⟩)) l1) (bif rd then (k,.idx x i sz,l1,.pointer (some ⟨b,j*sz,none⟩))::T1 else T1) L1) (h:arun [] ss l T L=(.q k d g (.idx x i sz) rd::r,l1,T1,L1):=by exact rfl) (hg:gw g l1=some true:=by exact rfl)
  (hx:lv l1 x=some (.slice (some ⟨b,0,none⟩) n c):=by exact rfl) (hi:lv l1 i=some (.int kd (j:Int)):=by exact rfl) (h1:j<n:=by omega):LSt P n0 ss K l T L:=S_Q [] h hg (QY.idxN hx hi h1) hn
theorem aA {a b:Int} (hn:LSt P n0 r K (dpush d (.int .i64 (a+b)) l1) (bif rd then (k,.bin .add x y,l1,.int .i64 (a+b))::T1 else T1) L1) (h:arun [] ss l T L=(.q k d g (.bin .add x y) rd::r,l1,T1,L1):=by exact rfl) (hg:gw g l1=some true:=by exact rfl)
  (hx:lv l1 x=some (.int .i64 a):=by exact rfl) (hy:lv l1 y=some (.int .i64 b):=by exact rfl) (h0 : -9223372036854775808≤a+b:=by omega) (h1:a+b≤9223372036854775807:=by omega):LSt P n0 ss K l T L:=S_Q [] h hg (QY.add hx hy rfl h0 h1) hn
theorem cP {f:FuncId} {args:List Operand} {vs us:List Value} (φ:List Nat) (ht:Tr P f us Lc (fun v K=>v=v1∧K=Lc)) (hn:LSt P n0 r K (dpush d v1 l1) T1 L1) (h:arun [] ss l T L=(.e d g (.call f args) pend::r,l1,T1,L1):=by exact rfl) (hg:gw g l1=some true:=by exact rfl)
  (hv:lvs l1 args=some vs:=by exact rfl) (he:us.map (rnV L1.length φ)=vs:=by exact rfl) (h1:φ.Nodup:=by decide) (h2:partL L1 φ φ Lc:=by repeat' (first|exact trivial|refine ⟨rfl,?_⟩ | fail)) (h3:closedL Lc=true:=by exact rfl) (h4:stillT v1=true:=by exact rfl)
  (hc:chkG P n0 φ T1 L1 L1 pend:=by repeat' (first|exact trivial|refine ⟨⟨qsafe_ok (st:=[]) rfl,Sure.of rfl⟩,?_⟩|refine ⟨.inl rfl,?_⟩|refine ⟨.inr ⟨qsafe_ok (st:=[]) rfl,Sure.of rfl⟩,?_⟩|refine ⟨⟨qsafe_ok (st:=[]) rfl,Sure.slice (by omega)⟩,?_⟩|refine ⟨.inr ⟨qsafe_ok (st:=[]) rfl,Sure.slice (by omega)⟩,?_⟩|refine ⟨.inr ⟨QY.neqB rfl (by kernel_rfl) rfl rfl,Sure.of rfl⟩,?_⟩|refine ⟨.inr ⟨QY.eqlB rfl (by kernel_rfl) rfl rfl,Sure.of rfl⟩,?_⟩ | fail)):LSt P n0 ss K l T L :=
 S_Ed [] h hg (EWd.callP φ ht hv he h1 h2 h3 h4) (disj_nil _) (nm_nilE _) (nm_nilT _) (by rintro _ _ ⟨rfl,rfl⟩; exact ⟨hc,hn⟩)
theorem cF {f:FuncId} {args:List Operand} {vs us:List Value} (φ:List Nat) (ht:Tr P f us Lc (fun v K=>v=v1∧K=L2)) (hn:nE (dpush d v2 l1) fun l=>nL K2 fun L=>LSt P n0 r K l T1 L) (h:arun [] ss l T L=(.e d g (.call f args) pend::r,l1,T1,L1):=by exact rfl) (hg:gw g l1=some true:=by exact rfl)
  (hv:lvs l1 args=some vs:=by exact rfl) (he:us.map (rnV L1.length φ)=vs:=by exact rfl) (h1:φ.Nodup:=by decide) (h2:partL L1 φ φ Lc:=by repeat' (first|exact trivial|refine ⟨rfl,?_⟩ | fail)) (h3:rnV (L1.length+L2.length) (phi2 φ L1.length L2) v1=v2:=by exact rfl) (h4:joinQ φ L1 L2=K2:=by exact rfl)
  (hc:chkP P n0 T1 K2 pend:=by repeat' (first|exact trivial|refine ⟨⟨qsafe_ok (st:=[]) rfl,Sure.of rfl⟩,?_⟩|refine ⟨⟨qsafe_ok (st:=[]) rfl,Sure.slice (by omega)⟩,?_⟩|refine ⟨⟨QY.neqB rfl (by kernel_rfl) rfl rfl,Sure.of rfl⟩,?_⟩|refine ⟨⟨QY.eqlB rfl (by kernel_rfl) rfl rfl,Sure.of rfl⟩,?_⟩ | fail)):LSt P n0 ss K l T L :=
 S_E [] h hg (EW.callF φ ht hv he h1 h2 h3 ((joinQ_eq h1).trans h4)) (by rintro _ _ ⟨rfl,rfl⟩; exact ⟨hc,LSt.nf hn⟩)
theorem cW {keep:List Nat} {f:FuncId} {args:List Operand} {vs us:List Value} (φ:List Nat) (ht:TrK P [] keep f us Lc (fun v K=>v=v1∧K=L2)) (hn:nE (dpush d v2 l1) fun l=>nL K2 fun L=>LSt P n0 r K l T1 L) (h:arun [] ss l T L=(.e d g (.call f args) pend::r,l1,T1,L1):=by exact rfl) (hg:gw g l1=some true:=by exact rfl)
  (hv:lvs l1 args=some vs:=by exact rfl) (he:us.map (rnV L1.length φ)=vs:=by exact rfl) (h1:φ.Nodup:=by decide) (h2:partL L1 φ φ Lc:=by repeat' (first|exact trivial|refine ⟨rfl,?_⟩ | fail)) (hm:nmL (dropped keep 0 φ) φ 0 L1=true:=by kernel_rfl) (h3:rnV (L1.length+L2.length) (phi2 φ L1.length L2) v1=v2:=by exact rfl) (h4:joinQ φ L1 L2=K2:=by exact rfl)
  (h5:disj (dropped keep 0 φ) n0.keep=true:=by kernel_rfl) (h6:nmE (dropped keep 0 φ) l1=true:=by kernel_rfl) (h7:nmT (dropped keep 0 φ) T1=true:=by kernel_rfl)
  (hc:chkG P n0 φ T1 L1 K2 pend:=by repeat' (first|exact trivial|refine ⟨.inl rfl,?_⟩|refine ⟨.inr ⟨qsafe_ok (st:=[]) rfl,Sure.of rfl⟩,?_⟩|refine ⟨.inr ⟨qsafe_ok (st:=[]) rfl,Sure.slice (by omega)⟩,?_⟩|refine ⟨.inr ⟨QY.neqB rfl (by kernel_rfl) rfl rfl,Sure.of rfl⟩,?_⟩|refine ⟨.inr ⟨QY.eqlB rfl (by kernel_rfl) rfl rfl,Sure.of rfl⟩,?_⟩ | fail)):LSt P n0 ss K l T L :=
 S_Ed [] h hg (EWd.callF φ ht hv he h1 h2 hm h3 ((joinQ_eq h1).trans h4)) h5 h6 h7 (by rintro _ _ ⟨rfl,rfl⟩; exact ⟨hc,LSt.nf hn⟩)
theorem eE (h:arun [] ss l T L=(.e d g eo pend::r,l1,T1,L1)) (hg:gw g l1=some true) (hw:EW P n0 L1 l1 eo (fun u K=>u=v1∧K=L2)) (hn:nE (dpush d v1 l1) fun l=>nL L2 fun L=>LSt P n0 r K l T1 L)
  (hc:chkP P n0 T1 L2 pend:=by repeat' (first|exact trivial|refine ⟨⟨qsafe_ok (st:=[]) rfl,Sure.of rfl⟩,?_⟩|refine ⟨⟨qsafe_ok (st:=[]) rfl,Sure.slice (by omega)⟩,?_⟩|refine ⟨⟨QY.neqB rfl (by kernel_rfl) rfl rfl,Sure.of rfl⟩,?_⟩|refine ⟨⟨QY.eqlB rfl (by kernel_rfl) rfl rfl,Sure.of rfl⟩,?_⟩ | fail)):LSt P n0 ss K l T L :=
 S_E [] h hg hw (by rintro _ _ ⟨rfl,rfl⟩; exact ⟨hc,LSt.nf hn⟩)
theorem qS {a b:MC} (h:LWp P n0 a (thenL (Nx n0 (LWp P n0 b Q)) Q) l L):LWp P n0 (.seq a b) Q l L:=L_seq h
theorem qR {ss:List Step} (h:LSt P n0 ss (Q .normal) l [] L):LWp P n0 (.reg ss) Q l L:=L_reg h
theorem qB {id:Nat} {b:MC} (h:LWp P n0 b (blkL id Q) l L):LWp P n0 (.block id b) Q l L:=L_block h
theorem qN {ss:List Step} {b:MC} (h:LSt P n0 ss (Nx n0 (LWp P n0 b Q)) l [] L):LWp P n0 (.seq (.reg ss) b) Q l L:=L_rs h
theorem qK (h:Q .normal l L):LWp P n0 .skip Q l L:=L_skip h
theorem qE {id:Nat} (h:Q (.exit id) l L):LWp P n0 (.exit id) Q l L:=L_exit h
theorem qL {b:MC} {Q2:Exit→Env→LH→Prop} (h:LWp P n0 b Q2 l L) (e:Nx n0 (LWp P n0 b Q2) l L→Q .normal l L:=by exact fun h=>h):LWp P n0 .skip Q l L:=L_skip (e (Nx.goL h))
theorem qF {id:Nat} {b:MC} {Q2:Exit→Env→LH→Prop} (h:LWp P n0 b Q2 l L) (e:Nx n0 (LWp P n0 b Q2) l L→Q (.exit id) l L:=by exact fun h=>h):LWp P n0 (.exit id) Q l L:=L_exit (e (Nx.goL h))
theorem qT {c:Operand} {x y:MC} (h:LWp P n0 x Q (knows c true l) L) (hc:lv l c=some (.bool true):=by exact rfl):LWp P n0 (.cond c x y) Q l L:=L_true hc h
theorem qU {c:Operand} {x y:MC} (h:LWp P n0 y Q (knows c false l) L) (hc:lv l c=some (.bool false):=by exact rfl):LWp P n0 (.cond c x y) Q l L:=L_false hc h
end
end Go.Tum
end
section
namespace Go.Tum
open Go
section
variable {P:Program} {n0:NA} {L:LH} {l:Env}
theorem EW.cpy {α:Type} {g:α→List Value} {sz:Nat} {o:Oper} {s x:Operand} {sT xT:TypeId} {bytes b bx ox i m cx:Nat} {ys:List α} (zs:List α) (h:RowOk g sz) (ho:o.op=.call ⟨.builtin .append,⟨[s,x]⟩,⟨[sT,xT]⟩⟩) (ht:appT P sT xT=some (sz,bytes)) (hs:lv l s=some (.slice (some ⟨b,0,none⟩) 0 0)) (hx:lv l x=some (.slice (some ⟨bx,ox,none⟩) m cx))
  (hb:L[b]?=some (.gro sz [])) (hbx:L[bx]?=some (.gro sz (rowsC g ys))) (hox:ox=i*sz) (hm:i+m≤ys.length) (hzs:(ys.drop i).take m=zs) (hz:0<sz) (hbd:(2*m+2048)*bytes≤281474976710656) :
  EW P n0 L l (.raw o) (fun v K=>v=.slice (some ⟨L.length,0,none⟩) m m∧K=L.set b .dead++[.gro sz (rowsC g zs)]):=by
 have:=EW.appRS (P:=P) (n0:=n0) (L:=L) (xs:=[]) h ho ht hs hx hb hbx hox rfl hm hz (by rw [Nat.zero_add]; exact hbd)
 rw [hzs,List.nil_append,Nat.zero_add] at this
 exact this
end
end Go.Tum
end
section
namespace Go.Tum
open Go Go.RowKit Go.WideShapes Go.ChangeShapes Go.Deep
instance : Inhabited AV:=⟨.v undef⟩
def AV.val:AV→Value
 | .v u=>u
 | .s a n c _ _=>.slice (some ⟨a.block,a.off,some 0⟩) n c
def AV.still:AV→Bool
 | .v u=>stillS u
 | .s _ _ _ _ _=>true
theorem AV.sr {X:Nat→Prop} {w0:World} {E:Emb}:∀ {a:AV} {y:Value},a.is X w0 y→a.still=true→SR E a.val y
 | .v _,_,h,hs=>by
  have h:_=_:=h
  subst h
  exact SR.still hs
 | .s _ _ _ _ _,_,h,_=>h.1
def rowF (sz:Nat) (F:Nat→List AV):Nat→AV:=fun q=>(F (q / sz)).getD (q % sz) (.v undef)
theorem rowF_at {sz i j:Nat} {F:Nat→List AV} {u:AV} (hl:(F i).length=sz) (hu:(F i)[j]?=some u):rowF sz F (i*sz+j)=u:=by
 have hj:j<sz:=by rw [← hl]; exact (List.getElem?_eq_some_iff.1 hu).1
 have h1:(i*sz+j) / sz=i:=by rw [Nat.mul_comm,Nat.mul_add_div (by omega),Nat.div_eq_of_lt hj,Nat.add_zero]
 have h2:(i*sz+j) % sz=j:=by rw [Nat.mul_comm,Nat.mul_add_mod,Nat.mod_eq_of_lt hj]
 simp [rowF,h1,h2,hu]
theorem rowF_one {F:Nat→List AV} {i:Nat} {u:AV} (h:F i=[u]):rowF 1 F i=u:=by
 have:=rowF_at (sz:=1) (i:=i) (j:=0) (F:=F) (u:=u) (by rw [h]; rfl) (by rw [h]; rfl)
 simpa using this
theorem L2.ofIdx {R:Value→Value→Prop}:∀ {x y:List Value},x.length=y.length→(∀ (i:Nat) (a b:Value),x[i]?=some a→y[i]?=some b→R a b)→L2 R x y
 | [],[],_,_=>trivial
 | a::x,b::y,h,k=>⟨k 0 a b rfl rfl,L2.ofIdx (Nat.succ.inj h) fun i a b ha hb=>k (i+1) a b ha hb⟩
 | [],_::_,h,_=>by cases h
 | _::_,[],h,_=>by cases h
def NA.Has (n0:NA) (P:Program) (a:AV):Prop:=∀ (X:Nat→Prop) (w0:World) (E0:Emb),n0.Ok P X w0 E0→∃ y,a.is X w0 y
section
variable {P:Program} {n0:NA} {Q:Exit→Env→LH→Prop} {l:Env} {L:LH}
theorem NA.Has.arg {k M p:Nat} {G:Nat→AV} (hA:(k,M,G)∈n0.A) (hp:p<M):n0.Has P (G p):=by
 intro X w0 E0 h0
 obtain ⟨_,hA'⟩:=h0.2.1 _ hA
 obtain ⟨r,_,_,_,h4⟩:=hA' (by simp only; omega)
 obtain ⟨y,_,h6⟩:=h4 p hp
 exact ⟨y,h6⟩
theorem NA.Has.row {k n sz i j:Nat} {F:Nat→List AV} {u:AV} (hA:(k,n*sz,rowF sz F)∈n0.A) (hi:i<n) (hl:(F i).length=sz) (hu:(F i)[j]?=some u):n0.Has P u:=by
 have hj:j<sz:=by rw [← hl]; exact (List.getElem?_eq_some_iff.1 hu).1
 have hlt:i*sz+j<n*sz:=by
  have:(i+1)*sz≤n*sz:=Nat.mul_le_mul_right _ hi
  rw [Nat.add_mul] at this; omega
 have:=NA.Has.arg (P:=P) hA hlt
 rwa [rowF_at hl hu] at this
theorem QY.rowF {x:Operand} {k o n sz j:Nat} {F:Nat→List AV} (i:Nat) (hx:lv l x=some (.pointer (some ⟨k,o,none⟩))) (hA:n0.A[j]?=some (k,n*sz,Go.Tum.rowF sz F)) (ho:o=i*sz) (hi:i<n) (hl:(F i).length=sz) (hs:(F i).all AV.still=true):QY P n0 L l (.ldn x sz) (.agg ⟨(F i).map AV.val⟩):=by
 intro X w0 E0 w E l' h0 hE hR hl'
 obtain ⟨_,h1,a',rfl,_,r,hr,rfl⟩:=lv_ev hl' hx
 have hr:E[k]?=some r:=hr
 subst ho
 obtain ⟨ys,hys⟩:=choose_lt (n:=sz) (p:=fun j' (y:Value)=>w.cell? ⟨r.1,r.2.1+(i*sz+j'),none⟩=some y∧(Go.Tum.rowF sz F (i*sz+j')).is X w0 y) fun j' hj'=>by
  have hlt:i*sz+j'<n*sz:=by
   have:(i+1)*sz≤n*sz:=Nat.mul_le_mul_right _ hi
   rw [Nat.add_mul] at this; omega
  obtain ⟨r',y,h2,h3,h4⟩:=arg_cell h0 hE hR (List.mem_of_getElem? hA) hlt
  rw [hr] at h2; cases h2
  exact ⟨y,h3,h4⟩
 refine ⟨.agg ⟨(List.range sz).map ys⟩,⟨_,⟨(List.range sz).map ys⟩,h1,by simp,fun j' hj'=>?_,rfl⟩,⟨_,rfl,L2.ofIdx (by simp [hl]) fun j' a b ha hb=>?_⟩⟩
 ·rw [add_none,List.getElem?_toArray,List.getElem?_map,List.getElem?_range hj']
  show _=some (ys j')
  rw [← (hys j' hj').1]
  congr 2; show i*sz+r.2.1+j'=_; omega
 ·have hj':j'<sz:=by
   have:=(List.getElem?_eq_some_iff.1 hb).1
   rw [List.length_map,List.length_range] at this
   exact this
  rw [List.getElem?_map,List.getElem?_range hj'] at hb
  cases hb
  have hu:(F i)[j']?=some ((F i)[j']'(by omega)):=List.getElem?_eq_getElem (by omega)
  rw [List.getElem?_map,hu] at ha
  cases ha
  have h4:=(hys j' hj').2
  rw [rowF_at hl hu] at h4
  exact AV.sr h4 (List.all_eq_true.1 hs _ (List.getElem_mem _))
theorem argR_cell {X:Nat→Prop} {w0 w:World} {E0 E:Emb} {a:Addr} {n c m:Nat} {get:Nat→AV} (h0:n0.Ok P X w0 E0) (hR:Rep X w0 E L w) (h:n0.Has P (.s a n c m get)) {i:Nat} (hi:i<m) :
  ∃ y,w.cell? ⟨a.block,a.off+i,none⟩=some y∧(get i).is X w0 y:=by
 obtain ⟨y,h3⟩:=h X w0 E0 h0
 obtain ⟨h4,h5,h6⟩:=h3.2 (by omega)
 obtain ⟨y',h7,h8⟩:=h6 i hi
 exact ⟨y',by rw [← h7]; simp only [World.cell?,hR.fr.keep _ h4 h5],h8⟩
theorem QY.idxR {x i:Operand} {b o s n c k sz:Nat} {kd:IntKind} (hx:lv l x=some (.slice (some ⟨b,o,some s⟩) n c)) (hi:lv l i=some (.int kd (k:Int))) (h1:k<n):QY P n0 L l (.idx x i sz) (.pointer (some ⟨b,o+k*sz,some s⟩)):=by
 intro X w0 E0 w E l' h0 hE hR hl
 obtain ⟨_,g1,rfl | ⟨h2,_,_⟩⟩:=lv_ev hl hx
 rotate_left
 ·omega
 obtain ⟨_,g5,rfl⟩:=lv_ev hl hi
 refine ⟨_,⟨_,n,_,kd,(k:Int),g1,g5,by omega,by omega,rfl⟩,?_⟩
 rw [add_none]
 rfl
theorem QY.ldR {x:Operand} {b o s q:Nat} {n c m:Nat} {get:Nat→AV} {u:AV} (hx:lv l x=some (.pointer (some ⟨b,o,some s⟩))) (h:n0.Has P (.s ⟨b,q,none⟩ n c m get)) (i:Nat) (ho:o=q+i) (hi:i<m) (hu:get i=u) (hs:u.still=true):QY P n0 L l (.ld x) u.val:=by
 intro X w0 E0 w E l' h0 hE hR hl
 obtain ⟨_,h1,h2⟩:=lv_ev hl hx
 have h2:_=Value.pointer (some ⟨b,o,none⟩):=h2
 subst h2
 obtain ⟨y,h3,h4⟩:=argR_cell h0 hR h hi
 rw [hu] at h4
 subst ho
 exact ⟨y,⟨_,h1,h3⟩,(AV.sr h4 hs).vr⟩
end
inductive CN where
 | c (k:CK)
 | s (ks:List CN)
def CnOk:Nat→CN→AV→Prop
 | 0,_,_=>False
 | _+1,.c k,a=>∃ v,a=.v v∧CkOk k v
 | d+1,.s ks,a=>∃ b o n c F,a=.s ⟨b,o,none⟩ n c (n*ks.length) (rowF ks.length F)∧n≤c∧c≤9223372036854775807∧∀ i,i<n→(F i).length=ks.length∧∀ (j:Nat) (k:CN),ks[j]?=some k→∃ a',(F i)[j]?=some a'∧CnOk d k a'
def nestF (P:Program) (g:TypeId→Option (List CN)):List Field→Nat→Option (List CN)
 | [],_=>some []
 | f::fs,off=>match g f.type with
  | some ks=>if f.offset=off∧P.cellsOf f.type=ks.length then (match nestF P g fs (off+ks.length) with
   | some r=>some (ks++r)
   | none=>none) else none
  | none=>none
def nest (P:Program):Nat→TypeId→Option (List CN)
 | 0,_=>none
 | d+1,t=>match P.underlying t with
  | some (.int k)=>some [.c (some k)]
  | some .bool=>some [.c none]
  | some (.slice e)=>match nest P d e with
   | some ks=>if P.cellsOf e=ks.length∧0<ks.length then some [.s ks] else none
   | none=>none
  | some (.struct fs)=>match nestF P (nest P d) fs.toList 0 with
   | some ks=>if P.cellsOf t=ks.length then some ks else none
   | none=>none
  | _=>none
theorem CnOk.up:∀ {d:Nat} {k:CN} {a:AV},CnOk d k a→CnOk (d+1) k a
 | 0,_,_,h=>h.elim
 | _+1,.c _,_,h=>h
 | d+1,.s ks,a,h=>by
  obtain ⟨b,o,n,c,F,h1,h2,h3,h4⟩:=h
  exact ⟨b,o,n,c,F,h1,h2,h3,fun i hi=>⟨(h4 i hi).1,fun j k hk=>let ⟨a',g1,g2⟩:=(h4 i hi).2 j k hk; ⟨a',g1,g2.up⟩⟩⟩
section
variable {H:Type} {enc:TypeId × Value→H} {P:Program} {w:World}
def FitN (d:Nat) (w:World) (ks:List CN) (cs:List Value):Prop:=cs.length=ks.length∧∀ (i:Nat) (k:CN),ks[i]?=some k→∃ v a,cs[i]?=some v∧CnOk d k a∧a.is (fun _=>False) w v
theorem nestF_fits {d:Nat} {g:TypeId→Option (List CN)} {fuel:Nat} (hg:∀ t ks,g t=some ks→∀ cs x,DataW.trod enc P w 0 (fun _=>true) true fuel t cs=some x→FitN d w ks cs) :
  ∀ (fs:List Field) (off:Nat) (ks:List CN) (cs:List Value) (xs:List (DataW H × List MemPlace)),nestF P g fs off=some ks→fs.mapM (fun f=>DataW.trod enc P w 0 (fun _=>true) true fuel f.type ((cs.drop f.offset).take (P.cellsOf f.type)))=some xs →
   ∀ (i:Nat) (k:CN),ks[i]?=some k→∃ v a,cs[off+i]?=some v∧CnOk d k a∧a.is (fun _=>False) w v
 | [],off,ks,cs,xs,h,_,i,k,hk=>by simp only [nestF,Option.some.injEq] at h; subst h; simp at hk
 | f::fs,off,ks,cs,xs,h,hm,i,k,hk=>by
  simp only [nestF] at h
  cases h1:g f.type with
  | none=>rw [h1] at h; cases h
  | some k1 =>
   rw [h1] at h
   simp only at h
   split at h
   ·rename_i hc
    cases h2:nestF P g fs (off+k1.length) with
    | none=>rw [h2] at h; cases h
    | some k2 =>
     rw [h2] at h; cases h
     simp only [List.mapM_cons,Option.bind_eq_bind,Option.bind_eq_some_iff] at hm
     obtain ⟨x,hx,ys,hys,_⟩:=hm
     have hfit:=hg f.type k1 h1 _ _ hx
     by_cases hi:i<k1.length
     ·rw [List.getElem?_append_left hi] at hk
      obtain ⟨v,a,hv,hok⟩:=hfit.2 i k hk
      rw [List.getElem?_take] at hv
      split at hv
      ·rw [List.getElem?_drop,hc.1] at hv; exact ⟨v,a,hv,hok⟩
      ·cases hv
     ·rw [List.getElem?_append_right (by omega)] at hk
      obtain ⟨v,a,hv,hok⟩:=nestF_fits hg fs (off+k1.length) k2 cs ys h2 hys (i-k1.length) k hk
      exact ⟨v,a,by rw [show off+i=off+k1.length+(i-k1.length) by omega]; exact hv,hok⟩
   ·cases h
theorem fits_row {d:Nat} {ks:List CN} {cs:List Value} (h:FitN d w ks cs):∃ L:List AV,L.length=ks.length∧∀ (j:Nat) (k:CN),ks[j]?=some k→∃ v a,cs[j]?=some v∧L[j]?=some a∧CnOk d k a∧a.is (fun _=>False) w v:=by
 obtain ⟨f,hf⟩:=choose_lt (n:=ks.length) (p:=fun j (a:AV)=>∀ k,ks[j]?=some k→∃ v,cs[j]?=some v∧CnOk d k a∧a.is (fun _=>False) w v) fun j hj=>by
  obtain ⟨v,a,h1,h2,h3⟩:=h.2 j _ (List.getElem?_eq_getElem hj)
  refine ⟨a,fun k hk=>?_⟩
  rw [List.getElem?_eq_getElem hj] at hk; cases hk
  exact ⟨v,h1,h2,h3⟩
 refine ⟨(List.range ks.length).map f,by simp,fun j k hk=>?_⟩
 have hj:=(List.getElem?_eq_some_iff.1 hk).1
 obtain ⟨v,h1,h2,h3⟩:=hf j hj k hk
 exact ⟨v,f j,h1,by rw [List.getElem?_map,List.getElem?_range hj]; rfl,h2,h3⟩
theorem slice_av {d:Nat} {e:TypeId} {ks:List CN} {a:Addr} {len m nn:Nat} {D:Nat→DataW H} {Pl:Nat→List MemPlace} (hc:P.cellsOf e=ks.length) (hpos:0<ks.length) (hlm:len≤m)
  (hel:∀ i,i<m→∃ cs',w.cells? 0 (a.add (i*P.cellsOf e)) (P.cellsOf e)=some cs'∧DataW.trod enc P w 0 (fun _=>true) true nn e cs'=some (D i,Pl i))
  (hg:∀ cs x,DataW.trod enc P w 0 (fun _=>true) true nn e cs=some x→FitN d w ks cs) :
  ∃ F:Nat→List AV,(0<m→a.spot=none∧a.block<w.heap.size)∧(∀ i,i<m→(F i).length=ks.length∧∀ (j:Nat) (k:CN),ks[j]?=some k→∃ a',(F i)[j]?=some a'∧CnOk d k a') ∧
   ∀ i,i<m*ks.length→∃ y,w.cell? ⟨a.block,a.off+i,none⟩=some y∧(rowF ks.length F i).is (fun _=>False) w y:=by
 obtain ⟨get,hget⟩:=choose_lt (n:=m) (p:=fun i cs'=>w.cells? 0 (a.add (i*P.cellsOf e)) (P.cellsOf e)=some cs'∧DataW.trod enc P w 0 (fun _=>true) true nn e cs'=some (D i,Pl i)) hel
 obtain ⟨F,hF⟩:=choose_lt (n:=m) (p:=fun i (L:List AV)=>L.length=ks.length∧∀ (j:Nat) (k:CN),ks[j]?=some k→∃ v a,(get i)[j]?=some v∧L[j]?=some a∧CnOk d k a∧a.is (fun _=>False) w v) fun i hi=>fits_row (hg _ _ (hget i hi).2)
 obtain ⟨b,o,sp⟩:=a
 have hcell:∀ i,i<m→∀ (j:Nat) (u:Value),(get i)[j]?=some u→w.cell? ((⟨b,o,sp⟩:Addr).add (i*ks.length+j))=some u:=by
  intro i hi j u hu
  have:=(cells_cell (hget i hi).1).2 j u hu
  rw [add_add,hc] at this
  exact this
 have h00:0<m→sp=none∧b<w.heap.size:=by
  intro hm
  obtain ⟨v,_,hv,_⟩:=(hF 0 hm).2 0 _ (List.getElem?_eq_getElem hpos)
  have:=hcell 0 hm 0 v hv
  simp only [Nat.zero_mul,Nat.add_zero,Addr.add,if_true] at this
  have hsp:sp=none:=by
   cases sp with
   | none=>rfl
   | some x =>
    unfold World.cell? at this
    split at this
    ·simp at this
    ·cases this
  subst hsp
  refine ⟨rfl,?_⟩
  unfold World.cell? at this
  split at this
  ·rename_i hq; exact (Array.getElem?_eq_some_iff.1 hq).1
  ·cases this
 refine ⟨F,h00,fun i hi=>⟨(hF i hi).1,fun j k hk=>let ⟨v,a,_,h2,h3,_⟩:=(hF i hi).2 j k hk; ⟨a,h2,h3⟩⟩,fun i hi=>?_⟩
 have hdiv:i / ks.length<m:=Nat.div_lt_of_lt_mul (by rw [Nat.mul_comm]; exact hi)
 have hmod:i % ks.length<ks.length:=Nat.mod_lt _ hpos
 have hm:0<m:=Nat.lt_of_le_of_lt (Nat.zero_le _) hdiv
 obtain ⟨rfl,_⟩:=h00 hm
 obtain ⟨v,a,h1,h2,h3,h4⟩:=(hF _ hdiv).2 (i % ks.length) _ (List.getElem?_eq_getElem hmod)
 refine ⟨v,?_,?_⟩
 ·have:=hcell _ hdiv _ v h1
  rw [add_none,Nat.mul_comm,Nat.div_add_mod] at this
  exact this
 ·have:=rowF_at (F:=F) (i:=i / ks.length) (hF _ hdiv).1 h2
  rw [Nat.mul_comm,Nat.div_add_mod] at this
  rw [this]; exact h4
theorem nest_fits:∀ (d:Nat) (t:TypeId) (ks:List CN),nest P d t=some ks→∀ (fuel:Nat) (cs:List Value) (x:DataW H × List MemPlace),DataW.trod enc P w 0 (fun _=>true) true fuel t cs=some x→FitN d w ks cs:=by
 intro d
 induction d with
 | zero=>intro t ks h; cases h
 | succ d ih =>
  intro t ks h fuel cs x hx
  cases fuel with
  | zero=>cases hx
  | succ fuel =>
   simp only [nest] at h
   cases hu:P.underlying t with
   | none=>rw [hu] at h; cases h
   | some u =>
    rw [hu] at h
    cases u <;> simp only [reduceCtorEq] at h
    case int k =>
     cases h
     obtain ⟨n,e0,_,wn⟩:=DataW.trod_int hu hx
     subst e0
     refine ⟨rfl,fun i k' hk=>?_⟩
     cases i with
     | zero=>simp at hk; subst hk; exact ⟨_,.v _,rfl,⟨_,rfl,n,rfl,wn⟩,rfl⟩
     | succ i=>simp at hk
    case bool =>
     cases h
     obtain ⟨b,e0,_⟩:=DataW.trod_bool hu hx
     subst e0
     refine ⟨rfl,fun i k' hk=>?_⟩
     cases i with
     | zero=>simp at hk; subst hk; exact ⟨_,.v _,rfl,⟨_,rfl,b,rfl⟩,rfl⟩
     | succ i=>simp at hk
    case slice e =>
     cases hn:nest P d e with
     | none=>rw [hn] at h; cases h
     | some k1 =>
      rw [hn] at h
      simp only at h
      split at h
      rotate_left
      ·cases h
      rename_i hc
      cases h
      rcases open_slice hu hx with ⟨h0,_⟩ | ⟨a,len,cap,m,nn,D,Pl,h0,_,hl,hm,hmm,_,hel⟩
      ·subst h0
       refine ⟨rfl,fun i k' hk=>?_⟩
       cases i with
       | succ i=>simp at hk
       | zero =>
        simp at hk; subst hk
        exact ⟨_,.s ⟨0,0,none⟩ 0 0 (0*k1.length) (rowF k1.length fun _=>[]),rfl,⟨0,0,0,0,fun _=>[],rfl,by omega,by omega,fun i hi=>absurd hi (by omega)⟩,   .inr ⟨rfl,rfl,_,rfl⟩,fun h0=>absurd h0 (by omega)⟩
      ·subst h0
       have hm':m=cap:=by rw [hmm]; simp
       subst hm'
       have hmax:m≤9223372036854775807:=by unfold maxLen at hm; omega
       obtain ⟨F,h1,h2,h3⟩:=slice_av (d:=d) hc.1 hc.2 hl hel fun cs x hx=>ih e k1 hn nn cs x hx
       refine ⟨rfl,fun i k' hk=>?_⟩
       cases i with
       | succ i=>simp at hk
       | zero =>
        simp at hk; subst hk
        obtain ⟨b,o,sp⟩:=a
        rcases Nat.eq_zero_or_pos m with h0 | h0
        ·subst h0
         obtain rfl:len=0:=by omega
         exact ⟨_,.s ⟨b,o,none⟩ 0 0 (0*k1.length) (rowF k1.length fun _=>[]),rfl,⟨b,o,0,0,fun _=>[],rfl,by omega,by omega,fun i hi=>absurd hi (by omega)⟩,.inr ⟨rfl,rfl,_,rfl⟩,fun h0=>absurd h0 (by omega)⟩
        ·obtain ⟨rfl,hb⟩:=h1 h0
         have hle:len*k1.length≤m*k1.length:=Nat.mul_le_mul_right _ hl
         exact ⟨_,.s ⟨b,o,none⟩ len m (len*k1.length) (rowF k1.length F),rfl,⟨b,o,len,m,F,rfl,hl,hmax,fun i hi=>h2 i (by omega)⟩,.inl rfl,fun _=>⟨hb,fun x=>x,fun i hi=>h3 i (by omega)⟩⟩
    case struct fs =>
     cases hf:nestF P (nest P d) fs.toList 0 with
     | none=>rw [hf] at h; cases h
     | some k1 =>
      rw [hf] at h
      simp only at h
      split at h
      ·rename_i hc
       cases h
       have hx':(if cs.length=P.cellsOf t then (fs.toList.mapM fun f=>DataW.trod enc P w 0 (fun _=>true) true fuel f.type ((cs.drop f.offset).take (P.cellsOf f.type))).map fun xs=>((DataW.agg (xs.map (·.1)),xs.flatMap (·.2)):DataW H × List MemPlace) else none)=some x:=by
        rw [← hx]; simp only [DataW.trod,hu]
       split at hx'
       ·rename_i hl
        rw [Option.map_eq_some_iff] at hx'
        obtain ⟨xs,hxs,_⟩:=hx'
        refine ⟨by rw [hl,hc],fun i k hk=>?_⟩
        obtain ⟨v,a,h1,h2,h3⟩:=nestF_fits (enc:=enc) (w:=w) (fuel:=fuel) (fun t ks h cs x hx=>ih t ks h fuel cs x hx) fs.toList 0 _ cs xs hf hxs i k hk
        exact ⟨v,a,by simpa using h1,h2.up,h3⟩
       ·cases hx'
      ·cases h
def SlInN (w:World) (sz:Nat) (v:Value) (n:Nat) (F:Nat→List AV):Prop :=
 n≤9223372036854775807∧∃ r:Nat × Nat × Nat,∀ (E:Emb) (k:Nat),E[k]?=some r→VR E (.slice (some ⟨k,0,none⟩) n n) v∧ArgAt (fun _=>False) w E k (n*sz) (rowF sz F)
theorem open_inN {t e:TypeId} {d:Nat} {ks:List CN} {v:Value} {dd:DataW H} {p:List MemPlace} (ht:P.underlying t=some (.slice e)) (hk:nest P d e=some ks) (hc:P.cellsOf e=ks.length) (hpos:0<ks.length)
  (hv:∃ a len cap,v=.slice a len cap) (h:DataW.Trod enc P w 0 (fun _=>true) true t v dd p):∃ n F,SlInN w ks.length v n F∧∀ i,i<n→(F i).length=ks.length∧∀ (j:Nat) (k:CN),ks[j]?=some k→∃ a,(F i)[j]?=some a∧CnOk d k a:=by
 obtain ⟨a0,len,cap,rfl⟩:=hv
 obtain ⟨fuel,hf⟩:=h
 have hf':DataW.trod enc P w 0 (fun _=>true) true fuel t [.slice a0 len cap]=some (dd,p):=hf
 rcases open_slice ht hf' with ⟨h0,_⟩ | ⟨a,len',cap',m,nn,D,Pl,h0,_,hl,hm,hmm,hx,hel⟩
 ·cases h0
  exact ⟨0,fun _=>[],⟨by omega,(0,0,0),fun E k hE=>⟨⟨rfl,_,hE,.inr ⟨rfl,rfl,_,rfl⟩⟩,fun h0=>by omega⟩⟩,fun i hi=>absurd hi (by omega)⟩
 ·cases h0
  have hm':m=cap:=by rw [hmm]; simp
  subst hm'
  have hmax:len≤9223372036854775807:=by unfold maxLen at hm; omega
  obtain ⟨F,h1,h2,h3⟩:=slice_av (d:=d) hc hpos hl hel fun cs x hx=>nest_fits d e ks hk nn cs x hx
  obtain ⟨b,o,sp⟩:=a
  rcases Nat.eq_zero_or_pos m with hm0 | hm0
  ·subst hm0
   have hl0:len=0:=by omega
   subst hl0
   exact ⟨0,F,⟨by omega,(0,0,0),fun E k hE=>⟨⟨rfl,_,hE,.inr ⟨rfl,rfl,_,rfl⟩⟩,fun h0=>by omega⟩⟩,fun i hi=>absurd hi (by omega)⟩
  ·obtain ⟨rfl,hb⟩:=h1 hm0
   have hle:len*ks.length≤m*ks.length:=Nat.mul_le_mul_right _ hl
   exact ⟨len,F,⟨hmax,(b,o,m-len),fun E k hE=>⟨⟨rfl,_,hE,.inl ⟨_,_,rfl,.inl ⟨by simp,by simp; omega⟩⟩⟩,fun h0=>⟨_,hE,hb,fun x=>x,fun i hi=>h3 i (by omega)⟩⟩⟩,fun i hi=>h2 i (by omega)⟩
end
end Go.Tum
end
section
namespace Go.Tum
open Go
section
variable {P:Program} {n0:NA} {l:Env} {L:LH} {X:Nat→Prop} {w0 w w':World} {E:Emb}
theorem rd_gro {b n sz:Nat} {gs:List Value} {v':Value} (hR:Rep X w0 E L w) (hb:L[b]?=some (.gro sz gs)) (hl:gs.length=n*sz) (ho:∀ u∈gs,one u=true) (hz:0<sz) (hv:VR E (.slice (some ⟨b,0,none⟩) n n) v'):Rd w sz v' n gs:=by
 refine ⟨hl,ho,?_⟩
 obtain ⟨_,r,hr,hcase⟩:=hv
 by_cases h0:n=0
 ·subst h0
  left
  rcases hcase with ⟨a',c',rfl,_⟩ | ⟨_,_,a',rfl⟩
  ·exact ⟨⟨_,_,rfl⟩,rfl⟩
  ·exact ⟨⟨_,_,rfl⟩,rfl⟩
 ·right
  obtain ⟨c',rfl⟩:∃ c',v'=.slice (some ⟨r.1,0+r.2.1,none⟩) n c':=by
   rcases hcase with ⟨a',c',h1,⟨h2,_⟩ | ⟨h2,_⟩⟩ | ⟨h1,_⟩
   ·exact ⟨c',by rw [h1,h2]⟩
   ·exact absurd h2 h0
   ·exact absurd h1 h0
  rcases hR.blk b _ r hb hr with ⟨h1,_⟩ | ⟨_,_,cs,hB,h3,h4⟩
  ·subst h1
   have:=Nat.mul_pos (Nat.pos_of_ne_zero h0) hz
   simp at hl; omega
  ·exact ⟨_,_,c',cs,rfl,hB,by rw [← hl]; omega,by rw [← hl,Nat.zero_add]; exact h3⟩
theorem EW.appX {Q:List Value→Prop} {o:Oper} {s x:Operand} {sT xT:TypeId} {sz bytes b n m:Nat} {gs:List Value} (ho:o.op=.call ⟨.builtin .append,⟨[s,x]⟩,⟨[sT,xT]⟩⟩) (ht:appT P sT xT=some (sz,bytes))
  (hs:lv l s=some (.slice (some ⟨b,0,none⟩) n n)) (hb:L[b]?=some (.gro sz gs)) (hgl:gs.length=n*sz) (hone:∀ u∈gs,one u=true) (hbd:(2*(n+m)+2048)*bytes≤281474976710656)
  (hrd:∀ (X:Nat→Prop) (w0:World) (E0:Emb) (w:World) (E:Emb) (l':Env),n0.Ok P X w0 E0→n0.Ext E0 E→Rep X w0 E L w→ER E l l'→∃ vx' us2,ev l' x=some vx'∧RdC w sz vx' m us2∧Q us2) :
  EW P n0 L l (.raw o) (fun v K=>∃ us2,Q us2∧v=.slice (some ⟨L.length,0,none⟩) (n+m) (n+m)∧K=L.set b .dead++[.gro sz (gs++us2)]):=by
 intro X w0 E0 w E l' Kf h0 hE hR hl hK
 unfold appT at ht
 split at ht
 rotate_left
 ·cases ht
 rename_i e i z he
 cases hc:(isSl P xT && Nat.beq z.cells.toList.length i.size && z.cells.toList.all one && Nat.blt 0 i.bytes && Nat.blt 0 i.size)
 ·rw [hc] at ht; cases ht
 rw [hc] at ht
 cases ht
 simp only [Bool.and_eq_true] at hc
 obtain ⟨hu,hi,hz'⟩:=elemOf_ok he
 have he':ElemT P sT e i.size i.bytes:=⟨hu,i,z,hi,rfl,rfl,hz',by simpa using Nat.eq_of_beq_eq_true hc.1.1.1.2,fun u hu=>List.all_eq_true.1 hc.1.1.2 u hu⟩
 have hz:0<i.size:=Nat.le_of_ble_eq_true hc.2
 obtain ⟨d,opp,ty,pos,af,g'⟩:=o
 simp only at ho
 subst ho
 obtain ⟨vs',h1,hsr⟩:=lv_ev hl hs
 obtain ⟨vx',us2,h3,hrd2,hq⟩:=hrd X w0 E0 w E l' h0 hE hR hl
 exact appG_ok he' (isSl_ok hc.1.1.1.1) (Nat.le_of_ble_eq_true hc.1.2) hz hR h1 h3 hsr hb hgl (rd_gro hR hb hgl hone hz hsr) hrd2 hbd (fun w' E' v' hX hR' hv=>hK w' E' v' _ _ ⟨us2,hq,rfl,rfl⟩ hX hR' hv)
theorem one_intC {ys:List Int}:∀ u∈rowsC intC ys,one u=true:=fun u hu=>(SR.still (E:=[]) (List.all_eq_true.1 (rowsC_still intC_ok ys) u hu)).one.1
theorem rowsI_len (ys:List Int):(rowsC intC ys).length=ys.length*1:=rowsC_length intC_ok ys
theorem rowsI_get {ys:List Int} {j:Nat}:(rowsC intC ys)[j]?=ys[j]?.map (Value.int .i64):=by
 induction ys generalizing j with
 | nil=>simp [rowsC]
 | cons a r ih =>
  cases j with
  | zero=>simp [rowsC,intC]
  | succ j=>simp only [rowsC,intC,List.cons_append,List.nil_append,List.getElem?_cons_succ]; exact ih
theorem Rep.merge {b k:Nat} {x y z:LB} {r q:Nat × Nat × Nat} (h:Rep X w0 E L w) (hne:b≠k) (hy:L[b]?=some y) (hr:E[b]?=some r) (hz:L[k]?=some z) (hq:E[k]?=some q) (hf:Fr (foot r y) w w') (hx:LBis E w' r x)
  (hft:∀ c,foot r x c→foot r y c∨foot q z c∨(w.heap.size≤c∧c<w'.heap.size)):Rep X w0 E ((L.set b x).set k .dead) w':=by
 have hltb:=(List.getElem?_eq_some_iff.1 hy).1
 have hltk:=(List.getElem?_eq_some_iff.1 hz).1
 have cut:∀ (i:Nat) (u:LB),((L.set b x).set k .dead)[i]?=some u→(i=k∧u=.dead)∨(i=b∧u=x)∨(i≠b∧i≠k∧L[i]?=some u):=by
  intro i u hu
  rw [List.getElem?_set] at hu
  by_cases e:k=i
  ·subst e
   rw [if_pos rfl,if_pos (by rw [List.length_set]; exact hltk)] at hu; cases hu
   exact .inl ⟨rfl,rfl⟩
  ·rw [if_neg e,List.getElem?_set] at hu
   by_cases e':b=i
   ·subst e'
    rw [if_pos rfl,if_pos hltb] at hu; cases hu
    exact .inr (.inl ⟨rfl,rfl⟩)
   ·rw [if_neg e'] at hu
    exact .inr (.inr ⟨fun q=>e' q.symm,fun q=>e q.symm,hu⟩)
 have frs:=h.fr.size
 have key:∀ (i:Nat) (u:LB) (r':Nat × Nat × Nat) (c:Nat),i≠b→i≠k→L[i]?=some u→E[i]?=some r'→foot r' u c→foot r x c→False:=by
  intro i u r' c hib hik hu hr' hc hcx
  rcases hft c hcx with h1 | h1 | h1
  ·exact hib (h.inj i b u y r' r c hu hy hr' hr hc h1)
  ·exact hik (h.inj i k u z r' q c hu hz hr' hq hc h1)
  ·have:=(h.rng i u r' hu hr' c hc).2; omega
 refine ⟨h.frT hy hr hf,by rw [h.len,List.length_set,List.length_set],fun i u r' hu hr' c hc=>?_,fun i u r' hu hr'=>?_,fun i i' u u' r1 r2 c hu hu' h1 h2 e1 e2=>?_⟩
 ·rcases cut i u hu with ⟨rfl,rfl⟩ | ⟨rfl,rfl⟩ | ⟨hib,hik,hu⟩
  ·exact hc.elim
  ·rw [hr] at hr'; cases hr'
   rcases hft c hc with h1 | h1 | h1
   ·have:=h.rng i y _ hy hr c h1; exact ⟨this.1,Nat.lt_of_lt_of_le this.2 hf.size⟩
   ·have:=h.rng k z _ hz hq c h1; exact ⟨this.1,Nat.lt_of_lt_of_le this.2 hf.size⟩
   ·exact ⟨.inl (by omega),h1.2⟩
  ·have:=h.rng i u r' hu hr' c hc; exact ⟨this.1,Nat.lt_of_lt_of_le this.2 hf.size⟩
 ·rcases cut i u hu with ⟨rfl,rfl⟩ | ⟨rfl,rfl⟩ | ⟨hib,hik,hu⟩
  ·trivial
  ·rw [hr] at hr'; cases hr'; exact hx
  ·exact (h.blk i u r' hu hr').fr hf (fun c hc=>(h.rng i u r' hu hr' c hc).2) fun c hc hc'=>hib (h.inj i b u y r' r c hu hy hr' hr hc hc')
 ·rcases cut i u hu with ⟨rfl,rfl⟩ | ⟨rfl,rfl⟩ | ⟨hib,hik,hu⟩
  ·exact e1.elim
  ·rcases cut i' u' hu' with ⟨rfl,rfl⟩ | ⟨rfl,rfl⟩ | ⟨hib',hik',hu'⟩
   ·exact e2.elim
   ·rfl
   ·rw [hr] at h1; cases h1
    exact (key i' u' r2 c hib' hik' hu' h2 e2 e1).elim
  ·rcases cut i' u' hu' with ⟨rfl,rfl⟩ | ⟨rfl,rfl⟩ | ⟨hib',hik',hu2⟩
   ·exact e2.elim
   ·rw [hr] at h2; cases h2
    exact (key i u r1 c hib hik ‹L[i]?=some u› h1 e1 e2).elim
   ·exact h.inj i i' u u' r1 r2 c ‹L[i]?=some u› hu2 h1 h2 e1 e2
end
structure GE where
 id:Int
 xs:List Int
 p:Nat
 o:Nat
 c:Nat
 z:Value
 born:Nat
def GE.sv (e:GE):Value:=match e.xs with
 | []=>e.z
 | _=>.slice (some ⟨e.p,e.o,none⟩) e.xs.length e.c
def GE.ok (w:World) (e:GE):Prop:=match e.xs with
 | []=>∃ a,e.z=.slice a 0 0
 | _=>∃ cs,Blk w e.p cs∧(cs.drop e.o).take e.xs.length=e.xs.map (Value.int .i64)
def GE.sym (e:GE):Value:=.slice (some ⟨e.p,e.o,some 0⟩) e.xs.length (if e.xs=[] then 0 else e.c)
def ge (e:GE):Int × Value × Nat:=(e.id,e.sv,e.born)
def gF (b0:Nat) (es:List GE) (b:Nat):Prop:=b=b0∨∃ e∈es,e.xs≠[]∧e.p=b
def gB (b0:Nat) (es:List GE) (c:Nat):LB:=.abs (fun r w=>r=b0∧Mp (Value.int .i64) w r (es.map ge) c∧Wf (es.map ge) c∧∀ e∈es,e.ok w) (gF b0 es)
def gfe (es:List GE) (a:Int):Option GE:=es.find? fun e=>decide (e.id=a)
def gputE (es:List GE) (e:GE) (c:Nat):List GE × Nat:=match gfe es e.id with
 | some _=>(es.map fun x=>if x.id=e.id then { e with born:=x.born } else x,c)
 | none=>(es++[{ e with born:=c }],c+1)
theorem gputE_mem {es:List GE} {e e':GE} {c:Nat} (h:e'∈(gputE es e c).1):e'∈es∨∃ b,e'={ e with born:=b }:=by
 unfold gputE at h
 split at h
 ·obtain ⟨y,hy,rfl⟩:=List.mem_map.1 h
  split
  ·exact .inr ⟨_,rfl⟩
  ·exact .inl hy
 ·rcases List.mem_append.1 h with h | h
  ·exact .inl h
  ·exact .inr ⟨c,List.mem_singleton.1 h⟩
theorem mfind_ge (es:List GE) (a:Int):mfind (es.map ge) a=(gfe es a).map ge:=by
 simp only [mfind,gfe,List.find?_map]
 rfl
theorem ge_born (e:GE) (b:Nat):ge { e with born:=b }=(e.id,e.sv,b):=rfl
theorem mset_ge (es:List GE) (e:GE) (c:Nat):mset (es.map ge) e.id e.sv c=((gputE es e c).1.map ge,(gputE es e c).2):=by
 unfold mset gputE
 rw [mfind_ge]
 cases h:gfe es e.id with
 | none=>simp [ge_born]
 | some x =>
  simp only [Option.map_some,mput,List.map_map]
  congr 1
  apply List.map_congr_left
  intro y _
  simp only [Function.comp]
  by_cases hy:y.id=e.id
  ·have hy':(ge y).1=e.id:=hy
   rw [if_pos hy',if_pos hy,hy']; rfl
  ·have hy':¬ (ge y).1=e.id:=hy
   rw [if_neg hy',if_neg hy]
theorem GE.ok_fr {w w':World} {F:Nat→Prop} {e:GE} (h:e.ok w) (hf:Fr F w w') (hn:e.xs≠[]→¬ F e.p):e.ok w':=by
 unfold GE.ok at h ⊢
 split
 ·rename_i hx; rw [hx] at h; exact h
 ·rename_i hx
  split at h
  ·rename_i hx'; exact absurd hx' (by assumption)
  ·obtain ⟨cs,h1,h2⟩:=h
   exact ⟨cs,hf.blk h1 (hn (by assumption)),h2⟩
theorem GE.ok_born {w:World} {e:GE} {b:Nat}:({ e with born:=b }:GE).ok w↔e.ok w:=Iff.rfl
section
variable {P:Program} {n0:NA} {l:Env} {L:LH} {X:Nat→Prop} {w0 w w':World} {E:Emb}
theorem gB_is {r:Nat × Nat × Nat} {b0 c:Nat} {es:List GE} (h:Mp (Value.int .i64) w r.1 (es.map ge) c) (hw:Wf (es.map ge) c) (he:∀ e∈es,e.ok w) (h1:r.1=b0) (h2:r.2=(0,0)):LBis E w r (gB b0 es c) :=
 ⟨⟨h1,h,hw,he⟩,h2,fun _ _ _ ⟨g1,g2,g3,g4⟩ hf hn=>⟨g1,g2.fr hf (hn _ (.inl g1)),g3,fun e hm=>GE.ok_fr (g4 e hm) hf fun hx=>hn _ (.inr ⟨e,hm,hx,rfl⟩)⟩⟩
theorem gB_at {l':Env} {x:Operand} {b b0 c:Nat} {es:List GE} (hR:Rep X w0 E L w) (hl:ER E l l') (hx:lv l x=some (.map (some b))) (hb:L[b]?=some (gB b0 es c)) :
  ∃ r,E[b]?=some r∧ev l' x=some (.map (some r.1))∧(Mp (Value.int .i64) w r.1 (es.map ge) c∧Wf (es.map ge) c∧∀ e∈es,e.ok w)∧r.1=b0∧r.2=(0,0):=by
 obtain ⟨_,h1,r,h2,rfl⟩:=lv_ev hl hx
 obtain ⟨⟨h3,h4⟩,h5,_⟩:=hR.blk b _ r hb h2
 exact ⟨r,h2,h1,h4,h3,h5⟩
theorem GE.sv_nil {e:GE} (h:e.xs=[]):e.sv=e.z:=by unfold GE.sv; rw [h]
theorem GE.sv_ne {e:GE} (h:e.xs≠[]):e.sv=.slice (some ⟨e.p,e.o,none⟩) e.xs.length e.c:=by
 unfold GE.sv
 split
 ·rename_i h0; exact absurd h0 h
 ·rfl
theorem GE.sym_ok {e:GE} (h:e.ok w):S0 E e.sym e.sv:=by
 unfold GE.sym
 by_cases hx:e.xs=[]
 ·unfold GE.ok at h
  rw [hx] at h
  obtain ⟨a,h⟩:=h
  rw [GE.sv_nil hx]
  exact .inr ⟨by rw [hx]; rfl,if_pos hx,a,h⟩
 ·rw [GE.sv_ne hx,if_neg hx]
  exact .inl rfl
def gsym:Option GE→Value
 | none=>.slice (some ⟨0,0,some 0⟩) 0 0
 | some e=>e.sym
theorem QY.glook {o:Oper} {mT kt et:TypeId} {x y:Operand} {b b0 c:Nat} {es:List GE} {a:Int} {q:Option GE} (ho:o.op=.lookup mT x y true) (hT:P.underlying mT=some (.map kt et)) (hkt:P.underlying kt=some (.int .i64)) (hz:zeroOf P et=some (.slice none 0 0))
  (hx:lv l x=some (.map (some b))) (hy:lv l y=some (.int .i64 a)) (hb:L[b]?=some (gB b0 es c)) (hq:gfe es a=q):QY P n0 L l (.raw o) (.tuple ⟨[gsym q,.bool q.isSome]⟩):=by
 intro X w0 E0 w E l' _ hE hR hl
 obtain ⟨r,h2,h3,⟨h4,h5,h6⟩,_⟩:=gB_at hR hl hx hb
 obtain ⟨_,h7,rfl⟩:=lv_ev hl hy
 obtain ⟨d,op,ty,pos,af,g⟩:=o
 simp only at ho
 subst ho
 refine ⟨_,lookupOk_Y (ty:=ty) (k:=a) hT (keyLaw_int hkt) (zeroOf_ok hz) h3 h7 h4 rfl,?_⟩
 rw [mfind_ge]
 subst hq
 cases hq:gfe es a with
 | none=>exact ⟨_,rfl,.inr ⟨rfl,rfl,none,rfl⟩,rfl,trivial⟩
 | some e =>
  have:=GE.sym_ok (E:=E) (h6 e (List.mem_of_find?_eq_some hq))
  exact ⟨_,rfl,this,rfl,trivial⟩
theorem QY.glook1 {o:Oper} {mT kt et:TypeId} {x y:Operand} {b b0 c:Nat} {es:List GE} {a:Int} {q:Option GE} (ho:o.op=.lookup mT x y false) (hT:P.underlying mT=some (.map kt et)) (hkt:P.underlying kt=some (.int .i64)) (hz:zeroOf P et=some (.slice none 0 0))
  (hx:lv l x=some (.map (some b))) (hy:lv l y=some (.int .i64 a)) (hb:L[b]?=some (gB b0 es c)) (hq:gfe es a=q):QY P n0 L l (.raw o) (gsym q):=by
 intro X w0 E0 w E l' _ hE hR hl
 obtain ⟨r,h2,h3,⟨h4,h5,h6⟩,_⟩:=gB_at hR hl hx hb
 obtain ⟨_,h7,rfl⟩:=lv_ev hl hy
 obtain ⟨d,op,ty,pos,af,g⟩:=o
 simp only at ho
 subst ho
 refine ⟨_,lookup_Y (ty:=ty) (k:=a) hT (keyLaw_int hkt) (zeroOf_ok hz) h3 h7 h4 rfl,?_⟩
 rw [mfind_ge]
 subst hq
 cases hq:gfe es a with
 | none=>exact .inr ⟨rfl,rfl,none,rfl⟩
 | some e =>
  have:=GE.sym_ok (E:=E) (h6 e (List.mem_of_find?_eq_some hq))
  exact this
theorem EW.gmake {o:Oper} {mT:TypeId} (ho:o.op=.makeMap mT none):EW P n0 L l (.raw o) (fun w K=>∃ b0,w=.map (some L.length)∧K=L++[gB b0 [] 0]):=by
 intro X w0 E0 w E l' Kf h0 hE hR hl hK
 obtain ⟨d,op,ty,pos,af,g⟩:=o
 simp only at ho
 subst ho
 refine makeMap_W (ty:=ty) (Value.int .i64) fun w' hM hf hsz=>hK w' (E++[(w.heap.size,0,0)]) _ _ _ ⟨w.heap.size,rfl,rfl⟩ (Ext.push E _) (hR.push hf (fun b hb=>?_) (gB_is hM ⟨by simp,by simp,by simp⟩ (by simp) rfl rfl)) ?_
 ·rcases hb with hb | ⟨e,he,_⟩
  ·rw [hb]; omega
  ·cases he
 ·exact ⟨_,hR.last _,rfl⟩
theorem EW.gput {o:Oper} {mT kt et:TypeId} {x y u:Operand} {b k b0 c n:Nat} {es:List GE} {a:Int} {ys:List Int} (ho:o.op=.mapUpdate mT x y u) (hT:P.underlying mT=some (.map kt et)) (hkt:P.underlying kt=some (.int .i64))
  (hx:lv l x=some (.map (some b))) (hy:lv l y=some (.int .i64 a)) (hu:lv l u=some (.slice (some ⟨k,0,none⟩) n n)) (hb:L[b]?=some (gB b0 es c)) (hk:L[k]?=some (.gro 1 (rowsC intC ys))) (hn:ys.length=n) :
  EW P n0 L l (.raw o) (fun w K=>∃ e:GE,(e.id=a∧e.xs=ys)∧w=undef∧K=(L.set b (gB b0 (gputE es e c).1 (gputE es e c).2)).set k .dead):=by
 intro X w0 E0 w E l' Kf h0 hE hR hl hK
 obtain ⟨r,h2,h3,⟨h4,h5,h6⟩,h7,h8⟩:=gB_at hR hl hx hb
 obtain ⟨_,h9,rfl⟩:=lv_ev hl hy
 obtain ⟨v',h10,_,q,hq,hcase⟩:=lv_ev hl hu
 obtain ⟨d,op,ty,pos,af,g⟩:=o
 simp only at ho
 subst ho
 have hq:E[k]?=some q:=hq
 have hne:b≠k:=by rintro rfl; rw [hb] at hk; cases hk
 obtain ⟨e,he1,he2,he3,he4,he5⟩:∃ e:GE,e.id=a∧e.xs=ys∧e.sv=v'∧e.ok w∧(e.xs≠[]→foot q (.gro 1 (rowsC intC ys)) e.p):=by
  by_cases h0:ys=[]
  ·subst h0
   have:n=0:=by rw [← hn]; rfl
   subst this
   have:∃ a',v'=.slice a' 0 0:=by
    rcases hR.blk k _ q hk hq with ⟨_,h1⟩ | ⟨h1,_⟩
    rotate_left
    ·exact absurd rfl h1
    rcases hcase with ⟨a',c',rfl,⟨_,rfl⟩ | ⟨_,_,rfl,_⟩⟩ | ⟨_,_,a',rfl⟩
    ·exact ⟨some a',by rw [h1]⟩
    ·exact ⟨_,rfl⟩
    ·exact ⟨_,rfl⟩
   exact ⟨⟨a,[],0,0,0,v',0⟩,rfl,rfl,rfl,this,fun h=>absurd rfl h⟩
  ·have hn0:n≠0:=by rw [← hn]; exact fun h=>h0 (List.length_eq_zero_iff.1 h)
   obtain ⟨c',rfl⟩:∃ c',v'=.slice (some ⟨q.1,0+q.2.1,none⟩) n c':=by
    rcases hcase with ⟨a',c',h1,⟨h2,_⟩ | ⟨h2,_⟩⟩ | ⟨h1,_⟩
    ·exact ⟨c',by rw [h1,h2]⟩
    ·exact absurd h2 hn0
    ·exact absurd h1 hn0
   rcases hR.blk k _ q hk hq with ⟨h1,_⟩ | ⟨h1,_,cs,hB,h3,_⟩
   ·cases ys with
    | nil=>exact absurd rfl h0
    | cons=>simp [rowsC,intC] at h1
   ·refine ⟨⟨a,ys,q.1,0+q.2.1,c',undef,0⟩,rfl,rfl,?_,?_,fun _=>?_⟩
    ·unfold GE.sv
     split
     ·rename_i h; exact absurd h h0
     ·simp only [hn]
    ·unfold GE.ok
     split
     ·rename_i h; exact absurd h h0
     ·refine ⟨cs,hB,?_⟩
      rw [rowsI_len,Nat.mul_one] at h3
      simp only [Nat.zero_add]
      rw [h3]
      apply List.ext_getElem?
      intro j
      rw [rowsI_get,List.getElem?_map]
    ·revert h1
     cases rowsC intC ys with
     | nil=>intro h1; exact absurd rfl h1
     | cons=>intro _; rfl
 subst he1 he3
 have hs:=mset_ge es e c
 have hwf:=h5.mset (k:=e.id) e.sv
 rw [hs] at hwf
 refine mapUpdate_W (ty:=ty) (k:=e.id) hT (keyLaw_int hkt) h3 h9 h10 h4 h5 (fun w' hM hf hsz=>?_)
 rw [hs] at hM
 have hlt:r.1<w.heap.size:=h4.lt
 refine hK w' E _ _ _ ⟨e,⟨rfl,he2⟩,rfl,rfl⟩ (Ext.refl E) (hR.merge hne hb h2 hk hq (hf.mono fun c' _ e'=>.inl (e'.trans h7)) (gB_is hM hwf (fun e' he'=>?_) h7 h8) (fun c' hc'=>?_)) VR.undef
 ·have hst:∀ e'':GE,e''.ok w→(e''.xs≠[]→e''.p≠r.1)→e''.ok w':=fun e'' h h'=>GE.ok_fr h hf fun hx he=>h' hx he
  have hold:∀ e''∈es,e''.xs≠[]→e''.p≠r.1:=fun e'' hm hx' hp=>by
   obtain ⟨cs,hB,_⟩:∃ cs,Blk w e''.p cs∧True:=by
    have:=h6 e'' hm
    unfold GE.ok at this
    split at this
    ·rename_i hx''; exact absurd hx'' hx'
    ·obtain ⟨cs,hB,_⟩:=this; exact ⟨cs,hB,trivial⟩
   obtain ⟨t,hB⟩:=hB
   rw [hp,show w.heap[r.1]?=_ from h4] at hB
   cases hB
  have hnew:e.xs≠[]→e.p≠r.1:=fun hx' hp=>by
   have:=he5 hx'
   rw [hp] at this
   exact hne (hR.inj b k _ _ _ _ r.1 hb hk h2 hq (.inl h7) this)
  rcases gputE_mem he' with h1 | ⟨b',rfl⟩
  ·exact hst e' (h6 e' h1) (hold e' h1)
  ·exact GE.ok_born.2 (hst e he4 hnew)
 ·rcases hc' with h1 | ⟨e',he',hx',hp⟩
  ·exact .inl (.inl h1)
  ·rcases gputE_mem he' with h1 | ⟨b',rfl⟩
   ·exact .inl (.inr ⟨e',h1,hx',hp⟩)
   ·exact .inr (.inl (by rw [← hp]; exact he5 hx'))
theorem EW.appH {o:Oper} {s x:Operand} {sT xT:TypeId} {bytes b n k b0 c:Nat} {xs:List Int} {es:List GE} {e:GE} (he:e∈es) (ho:o.op=.call ⟨.builtin .append,⟨[s,x]⟩,⟨[sT,xT]⟩⟩) (ht:appT P sT xT=some (1,bytes))
  (hs:lv l s=some (.slice (some ⟨b,0,none⟩) n n)) (hx:lv l x=some e.sym) (hb:L[b]?=some (.gro 1 (rowsC intC xs))) (hk:L[k]?=some (gB b0 es c)) (hn:xs.length=n) (hbd:(2*(n+e.xs.length)+2048)*bytes≤281474976710656) :
  EW P n0 L l (.raw o) (fun v K=>v=.slice (some ⟨L.length,0,none⟩) (n+e.xs.length) (n+e.xs.length)∧K=L.set b .dead++[.gro 1 (rowsC intC (xs++e.xs))]):=by
 refine EW.mono (EW.appX (Q:=fun us=>us=rowsC intC e.xs) (m:=e.xs.length) ho ht hs hb (by rw [rowsI_len,hn]) one_intC hbd fun X w0 E0 w E l' h0 hE hR hl=>?_) ?_
 ·obtain ⟨vx',h3,hxr⟩:=lv_ev hl hx
  refine ⟨vx',_,h3,⟨rowsI_len _,one_intC,?_⟩,rfl⟩
  have hek:e.ok w:=by
   obtain ⟨r,hr⟩:=hR.ent hk
   exact (hR.blk k _ r hk hr).1.2.2.2 e he
  unfold GE.ok at hek
  unfold GE.sym at hxr
  split at hek
  ·rename_i h0'
   rw [h0'] at hxr ⊢
   rcases hxr with rfl | ⟨_,_,a',rfl⟩
   ·exact .inl ⟨⟨_,_,rfl⟩,rfl⟩
   ·exact .inl ⟨⟨_,_,rfl⟩,rfl⟩
  ·rename_i h0'
   obtain ⟨cs,⟨t,hB⟩,hcs⟩:=hek
   have hx2:=hxr
   have hln:e.xs.length≠0:=fun h=>h0' (List.length_eq_zero_iff.1 h)
   rcases hx2 with rfl | ⟨h1,_⟩
   rotate_left
   ·exact absurd h1 hln
   refine .inr ⟨_,_,rfl,fun j hj=>?_⟩
   rw [Nat.mul_one] at hj
   rw [add_none,rowsI_get]
   simp only [World.cell?,hB]
   have:=congrArg (·[j]?) hcs
   simp only [List.getElem?_take_of_lt hj,List.getElem?_drop,List.getElem?_map] at this
   rw [← this]
   simp [Nat.add_comm]
 ·rintro v K ⟨us,rfl,rfl,rfl⟩
  exact ⟨rfl,by rw [rowsC_append]⟩
end
end Go.Tum
end
