/-
  What the proof leans on, part 4: of the texts Join2, Lw, Ov, Lw2, Lw3, Lw4, Lw5, Lw6, Obj.
-/
import Derived.Test.YtblibdfcnplfhaaGreatPkC
set_option linter.unusedVariables false
set_option linter.unusedSimpArgs false
set_option linter.unusedSectionVars false
section
namespace Go.Tum
open Go
def inL (t:Nat):List Nat→Bool
 | []=>false
 | a::r=>bif Nat.beq a t then true else inL t r
def ExtD (dr:List Nat) (E E':Emb):Prop:=∀ (k:Nat) (r:Nat × Nat × Nat),inL k dr=false→E[k]?=some r→E'[k]?=some r
def nm0 (dr:List Nat):Value→Bool
 | .pointer (some a)=>(match a.spot with
  | none => !inL a.block dr
  | some _=>true)
 | .slice (some a) _ _=>(match a.spot with
  | none => !inL a.block dr
  | some _=>true)
 | .map (some b) => !inL b dr
 | _=>true
def nmS (dr:List Nat):Value→Bool
 | .func _ ⟨a⟩ ⟨c⟩=>a.all (nm0 dr) && c.all (nm0 dr)
 | v=>nm0 dr v
def nm1 (dr:List Nat):Value→Bool
 | .agg ⟨cs⟩=>cs.all (nmS dr)
 | v=>nmS dr v
def nmV (dr:List Nat):Value→Bool
 | .tuple ⟨vs⟩=>vs.all (nm1 dr)
 | v=>nm1 dr v
def nmB (dr:List Nat):LB→Bool
 | .cells _ vs=>vs.all (nmS dr)
 | .map m _=>m.all fun x=>nm1 dr x.1 && nm1 dr x.2.1
 | .iter (some b) _ _ _ => !inL b dr
 | _=>true
def nmE (dr:List Nat):Env→Bool
 | []=>true
 | (_,v)::r=>nmV dr v && nmE dr r
def nmT (dr:List Nat):Taken→Bool
 | []=>true
 | (_,_,l,v)::r=>nmE dr l && nmV dr v && nmT dr r
section
variable {E E':Emb} {dr:List Nat}
theorem S0.extD (h:ExtD dr E E') {v v':Value} (hn:nm0 dr v=true) (k:S0 E v v'):S0 E' v v':=by
 cases v <;> first|exact k | skip
 case pointer a =>
  cases a with
  | none=>exact k
  | some a=>rcases a with ⟨b,o,_ | s⟩ <;> first|exact k | (simp only [nm0,Bool.not_eq_true'] at hn; obtain ⟨a',h1,h2,r,h3,h4⟩:=k; exact ⟨a',h1,h2,r,h _ _ hn h3,h4⟩)
 case slice a n c =>
  cases a with
  | none=>exact k
  | some a=>rcases a with ⟨b,o,_ | s⟩ <;> first|exact k | (simp only [nm0,Bool.not_eq_true'] at hn; obtain ⟨h0,r,h1,h2⟩:=k; exact ⟨h0,r,h _ _ hn h1,h2⟩)
 case map a =>
  cases a with
  | none=>exact k
  | some a=>simp only [nm0,Bool.not_eq_true'] at hn; obtain ⟨r,h1,h2⟩:=k; exact ⟨r,h _ _ hn h1,h2⟩
theorem L2.monoM {R S:Value→Value→Prop} {p:Value→Bool} (h:∀ a b,p a=true→R a b→S a b):∀ {x y:List Value},x.all p=true→L2 R x y→L2 S x y
 | [],[],_,_=>trivial
 | a::r,b::s,hp,k=>by
  simp only [List.all_cons,Bool.and_eq_true] at hp
  exact ⟨h _ _ hp.1 k.1,L2.monoM h hp.2 k.2⟩
 | [],_::_,_,k=>k.elim
 | _::_,[],_,k=>k.elim
theorem SR.extD (h:ExtD dr E E') {v v':Value} (hn:nmS dr v=true) (k:SR E v v'):SR E' v v':=by
 cases v <;> first|exact k | skip
 case pointer a=>exact S0.extD h (v:=.pointer a) hn k
 case slice a n c=>exact S0.extD h (v:=.slice a n c) hn k
 case map a=>exact S0.extD h (v:=.map a) hn k
 case func f a c =>
  obtain ⟨a⟩:=a; obtain ⟨c⟩:=c; obtain ⟨a',c',h1,h2,h3⟩:=k
  simp only [nmS,Bool.and_eq_true] at hn
  exact ⟨a',c',h1,L2.monoM (p:=nm0 dr) (fun _ _ hp k=>S0.extD h hp k) hn.1 h2,L2.monoM (p:=nm0 dr) (fun _ _ hp k=>S0.extD h hp k) hn.2 h3⟩
theorem V1.extD (h:ExtD dr E E') {v v':Value} (hn:nm1 dr v=true) (k:V1 E v v'):V1 E' v v':=by
 cases v <;> first|exact k | skip
 case pointer a=>exact SR.extD h (v:=.pointer a) hn k
 case slice a n c=>exact SR.extD h (v:=.slice a n c) hn k
 case map a=>exact SR.extD h (v:=.map a) hn k
 case func f a c=>exact SR.extD h (v:=.func f a c) hn k
 case agg cs=>obtain ⟨cs⟩:=cs; obtain ⟨cs',h1,h2⟩:=k; exact ⟨cs',h1,L2.monoM (p:=nmS dr) (fun _ _ hp k=>SR.extD h hp k) hn h2⟩
theorem VR.extD (h:ExtD dr E E') {v v':Value} (hn:nmV dr v=true) (k:VR E v v'):VR E' v v':=by
 cases v <;> first|exact k | skip
 case pointer a=>exact V1.extD h (v:=.pointer a) hn k
 case slice a n c=>exact V1.extD h (v:=.slice a n c) hn k
 case map a=>exact V1.extD h (v:=.map a) hn k
 case func f a c=>exact V1.extD h (v:=.func f a c) hn k
 case agg cs=>exact V1.extD h (v:=.agg cs) hn k
 case tuple cs=>obtain ⟨cs⟩:=cs; obtain ⟨cs',h1,h2⟩:=k; exact ⟨cs',h1,L2.monoM (p:=nm1 dr) (fun _ _ hp k=>V1.extD h hp k) hn h2⟩
theorem nmE_get {dr:List Nat}:∀ {l:Env} {t:Nat} {v:Value},nmE dr l=true→eget l t=some v→nmV dr v=true
 | [],t,v,_,h=>by cases h
 | (k,u)::r,t,v,hn,h=>by
  simp only [nmE,Bool.and_eq_true] at hn
  rw [eget_cons] at h
  by_cases e:k=t
  ·rw [if_pos e] at h; cases h; exact hn.1
  ·rw [if_neg e] at h; exact nmE_get hn.2 h
theorem ER.extD (h:ExtD dr E E') {l l':Env} (hn:nmE dr l=true) (k:ER E l l'):ER E' l l':=fun t v ht=>let ⟨v',h1,h2⟩:=k t v ht; ⟨v',h1,h2.extD h (nmE_get hn ht)⟩
theorem M2.extD (h:ExtD dr E E'):∀ {m:List (Value × Value × Nat)} {es:List MapEntry},(m.all fun x=>nm1 dr x.1 && nm1 dr x.2.1)=true→M2 E m es→M2 E' m es
 | [],[],_,_=>trivial
 | _::_,_::_,hn,k=>by
  simp only [List.all_cons,Bool.and_eq_true] at hn
  exact ⟨⟨k.1.1.extD h hn.1.1,k.1.2.1.extD h hn.1.2,k.1.2.2⟩,k.2.extD h hn.2⟩
 | [],_::_,_,k=>k.elim
 | _::_,[],_,k=>k.elim
theorem LBis.extD {w:World} {r:Nat × Nat × Nat} {x:LB} (h:LBis E w r x) (hn:nmB dr x=true) (he:ExtD dr E E'):LBis E' w r x:=by
 cases x with
 | cells sz vs=>obtain ⟨cs,h1,h2,h3⟩:=h; exact ⟨cs,h1,L2.monoM (p:=nmS dr) (fun _ _ hp k=>SR.extD he hp k) hn h2,h3⟩
 | data vs=>exact h
 | bytes n x=>exact h
 | gro sz vs=>exact h
 | map m c=>obtain ⟨es,h1,h2⟩:=h; exact ⟨es,h1,h2.extD he hn⟩
 | iter m a b c =>
  obtain ⟨h0,es,h1,h2⟩:=h
  refine ⟨h0,es,h1,?_⟩
  cases m with
  | none=>exact h2
  | some b=>simp only [nmB,Bool.not_eq_true'] at hn; obtain ⟨q,h3,h4⟩:=h2; exact ⟨q,he _ _ hn h3,h4⟩
 | dead=>trivial
 | abs A F=>exact h
 | imap G c=>exact h
theorem TR.extD {P:Program} (h:ExtD dr E E'):∀ {T:Taken} {F:Facts},nmT dr T=true→TR P E T F→TR P E' T F
 | [],[],_,_=>trivial
 | (_,_,_,_)::_,(_,_)::_,hn,k=>by
  simp only [nmT,Bool.and_eq_true] at hn
  obtain ⟨h1,⟨l',v',h2,h3,h4⟩,h5⟩:=k
  exact ⟨h1,⟨l',v',h2,h3.extD h hn.1.1,h4.extD h hn.1.2⟩,h5.extD h hn.2⟩
 | [],_::_,_,k=>k.elim
 | _::_,[],_,k=>k.elim
end
def eset:Emb→List Nat→Emb→Emb
 | E,k::φ,x::r=>eset (E.set k x) φ r
 | E,_,_=>E
theorem eset_length:∀ (φ:List Nat) (E r:Emb),(eset E φ r).length=E.length
 | [],E,r=>by simp [eset]
 | k::φ,E,[]=>by simp [eset]
 | k::φ,E,x::r=>by simp only [eset]; rw [eset_length φ]; simp
theorem eset_other:∀ (φ:List Nat) (E r:Emb) (k:Nat),k∉φ→(eset E φ r)[k]?=E[k]?
 | [],E,r,k,_=>by simp [eset]
 | j::φ,E,[],k,_=>by simp [eset]
 | j::φ,E,x::r,k,h=>by
  simp only [List.mem_cons,not_or] at h
  simp only [eset]
  rw [eset_other φ _ r k h.2,List.getElem?_set,if_neg (fun e=>h.1 e.symm)]
theorem eset_at:∀ (φ:List Nat) (E r:Emb) (j k:Nat) (x:Nat × Nat × Nat),φ.Nodup→φ[j]?=some k→r[j]?=some x→k<E.length→(eset E φ r)[k]?=some x
 | [],E,r,j,k,x,_,h,_,_=>by simp at h
 | i::φ,E,[],j,k,x,_,_,h,_=>by simp at h
 | i::φ,E,y::r,0,k,x,hn,h1,h2,hk=>by
  simp at h1 h2; subst h1; subst h2
  simp only [eset]
  rw [eset_other φ _ r i (List.nodup_cons.1 hn).1,List.getElem?_set,if_pos rfl,if_pos hk]
 | i::φ,E,y::r,j+1,k,x,hn,h1,h2,hk=>by
  simp at h1 h2
  simp only [eset]
  exact eset_at φ _ r j k x (List.nodup_cons.1 hn).2 h1 h2 (by simpa using hk)
def dropped (keep:List Nat):Nat→List Nat→List Nat
 | _,[]=>[]
 | i,k::φ=>bif inL i keep then dropped keep (i+1) φ else k::dropped keep (i+1) φ
theorem inL_mem:∀ {t:Nat} {l:List Nat},inL t l=true↔t∈l
 | t,[]=>by simp [inL]
 | t,a::r=>by
  simp only [inL,List.mem_cons]
  cases h:Nat.beq a t
  ·have:¬ t=a:=by intro e; subst e; simp at h
   simp [this,inL_mem (l:=r)]
  ·have:=Nat.eq_of_beq_eq_true h
   simp [this]
theorem dropped_no {keep:List Nat}:∀ {φ:List Nat} {i j k:Nat},φ[j]?=some k→inL k (dropped keep i φ)=false→inL (i+j) keep=true
 | [],i,j,k,h,_=>by simp at h
 | a::φ,i,0,k,h,hd=>by
  simp at h; subst h
  simp only [dropped] at hd
  cases hk:inL i keep
  ·rw [hk] at hd; simp [inL] at hd
  ·rfl
 | a::φ,i,j+1,k,h,hd=>by
  simp at h
  simp only [dropped] at hd
  have hd':inL k (dropped keep (i+1) φ)=false:=by
   cases hk:inL i keep
   ·rw [hk] at hd
    simp only [cond_false,inL] at hd
    cases hq:Nat.beq a k
    ·rw [hq] at hd; exact hd
    ·rw [hq] at hd; cases hd
   ·rw [hk] at hd; exact hd
  have:=dropped_no h hd'
  rwa [show i+1+j=i+(j+1) by omega] at this
def nmL (dr φ:List Nat):Nat→LH→Bool
 | _,[]=>true
 | i,x::r=>(inL i φ || nmB dr x) && nmL dr φ (i+1) r
theorem nmL_ok {dr φ:List Nat}:∀ {L:LH} {i k:Nat} {x:LB},nmL dr φ i L=true→L[k]?=some x→i+k∉φ→nmB dr x=true
 | [],i,k,x,_,h,_=>by simp at h
 | y::r,i,0,x,h,hx,hn=>by
  simp at hx; subst hx
  simp only [nmL,Bool.and_eq_true,Bool.or_eq_true] at h
  rcases h.1 with h1 | h1
  ·exact absurd (inL_mem.1 h1) hn
  ·exact h1
 | y::r,i,k+1,x,h,hx,hn=>by
  simp at hx
  simp only [nmL,Bool.and_eq_true] at h
  exact nmL_ok h.2 hx (by rwa [show i+1+k=i+(k+1) by omega])
theorem Rep.joinW {X:Nat→Prop} {w0 w w':World} {E E1:Emb} {M L L1:LH} {φ keep:List Nat} (hp:Part φ M L) (h:Rep X w0 E M w) (hx:∀ k r,inL k keep=true→(subE E φ)[k]?=some r→E1[k]?=some r) (hlen1:L.length≤L1.length) (hm:nmL (dropped keep 0 φ) φ 0 M=true)
  (h1:Rep (footL (subE E φ) L) w E1 L1 w') :
  ∃ E',ExtD (dropped keep 0 φ) E E'∧Into E1 E' (M.length+L1.length) (phi2 φ M.length L1)∧Rep X w0 E' (joinL φ M L1) w':=by
 have hL1:φ.length≤L1.length:=by rw [hp.len]; exact hlen1
 have hE1:φ.length≤E1.length:=by rw [h1.len]; exact hL1
 have atφ:∀ (j k:Nat),φ[j]?=some k→∃ r,E[k]?=some r∧(subE E φ)[j]?=some r∧k<M.length:=by
  intro j k hj
  have hjl:j<L.length:=by rw [← hp.len]; exact (List.getElem?_eq_some_iff.1 hj).1
  obtain ⟨k',hk',hM⟩:=hp.blk j _ (List.getElem?_eq_getElem hjl)
  rw [hj] at hk'; cases hk'
  obtain ⟨r,hr⟩:=h.ent hM
  exact ⟨r,hr,by simp [subE,hj,hr],(List.getElem?_eq_some_iff.1 hM).1⟩
 let E':=eset E φ E1++E1.drop φ.length
 have hlenE:(eset E φ E1).length=M.length:=by rw [eset_length,h.len]
 have old:∀ k,k<M.length→E'[k]?=(eset E φ E1)[k]?:=fun k hk=>by
  show (eset E φ E1++E1.drop φ.length)[k]?=_
  rw [List.getElem?_append_left (by rw [hlenE]; exact hk)]
 have atφ':∀ (j k:Nat) (r:Nat × Nat × Nat),φ[j]?=some k→E1[j]?=some r→E'[k]?=some r:=by
  intro j k r hj hr
  obtain ⟨_,_,_,hk⟩:=atφ j k hj
  rw [old k hk]
  exact eset_at φ E E1 j k r hp.nodup hj hr (by rw [h.len]; exact hk)
 have hEE:ExtD (dropped keep 0 φ) E E':=by
  intro k r hn hk
  have hkl:k<M.length:=by rw [← h.len]; exact (List.getElem?_eq_some_iff.1 hk).1
  by_cases hmem:k∈φ
  ·obtain ⟨j,hj⟩:=List.getElem?_of_mem hmem
   obtain ⟨r',e1,e2,_⟩:=atφ j k hj
   rw [hk] at e1; cases e1
   have:=dropped_no hj hn
   rw [Nat.zero_add] at this
   exact atφ' j k r hj (hx j r this e2)
  ·rw [old k hkl,eset_other φ E E1 k hmem]; exact hk
 have hnew:∀ (i:Nat),E'[M.length+i]?=E1[φ.length+i]?:=by
  intro i
  show (eset E φ E1++E1.drop φ.length)[M.length+i]?=_
  rw [List.getElem?_append_right (by rw [hlenE]; omega),hlenE,List.getElem?_drop]
  congr 1; omega
 have rnv:∀ (b:Nat),b<L1.length→(b<φ.length∧φ[b]?=some (rn (M.length+L1.length) (phi2 φ M.length L1) b))∨(φ.length≤b∧rn (M.length+L1.length) (phi2 φ M.length L1) b=M.length+(b-φ.length)):=by
  intro b hb
  unfold rn phi2
  rcases Nat.lt_or_ge b φ.length with hlt | hge
  ·left
   refine ⟨hlt,?_⟩
   rw [List.getElem?_append_left hlt,List.getElem?_eq_getElem hlt]
   rfl
  ·right
   refine ⟨hge,?_⟩
   rw [List.getElem?_append_right hge,seqN_get _ _ _ (by omega)]
   rfl
 have hinto:Into E1 E' (M.length+L1.length) (phi2 φ M.length L1):=by
  intro b r hb
  have hbl:b<L1.length:=by rw [← h1.len]; exact (List.getElem?_eq_some_iff.1 hb).1
  rcases rnv b hbl with ⟨hlt,hφ⟩ | ⟨hge,hφ⟩
  ·exact atφ' b _ r hφ hb
  ·rw [hφ,hnew]
   rw [show φ.length+(b-φ.length)=b by omega]; exact hb
 have hlenJ:(joinL φ M L1).length=M.length+(L1.length-φ.length):=by
  unfold joinL
  simp only [List.length_append,jset_length,List.length_map,List.length_drop]
 have cut:∀ (k:Nat) (z:LB) (r:Nat × Nat × Nat),(joinL φ M L1)[k]?=some z→E'[k]?=some r →
   (∃ j x,L1[j]?=some x∧E1[j]?=some r∧z=rnB (M.length+L1.length) (phi2 φ M.length L1) x∧k=rn (M.length+L1.length) (phi2 φ M.length L1) j)∨(k∉φ∧M[k]?=some z∧E[k]?=some r):=by
  intro k z r hz hr
  unfold joinL at hz
  rcases Nat.lt_or_ge k M.length with hlt | hge
  ·rw [List.getElem?_append_left (by rw [jset_length]; exact hlt)] at hz
   rw [old k hlt] at hr
   by_cases hmm:k∈φ
   ·left
    obtain ⟨j,hj⟩:=List.getElem?_of_mem hmm
    have hjφ:=(List.getElem?_eq_some_iff.1 hj).1
    have hjl:j<L1.length:=by omega
    have hje:j<E1.length:=by omega
    refine ⟨j,L1[j],List.getElem?_eq_getElem hjl,?_,?_,?_⟩
    ·have:=eset_at φ E E1 j k E1[j] hp.nodup hj (List.getElem?_eq_getElem hje) (by rw [h.len]; exact hlt)
     rw [this] at hr; cases hr
     exact List.getElem?_eq_getElem hje
    ·have:=jset_at φ M ((L1.take φ.length).map (rnB (M.length+L1.length) (phi2 φ M.length L1))) j k (rnB (M.length+L1.length) (phi2 φ M.length L1) L1[j]) hp.nodup hj (by simp [hjφ,hjl]) hlt
     rw [this] at hz; cases hz; rfl
    ·rcases rnv j hjl with ⟨_,e⟩ | ⟨e,_⟩
     ·rw [hj] at e; cases e; rfl
     ·omega
   ·right
    rw [jset_other φ M _ k hmm] at hz
    rw [eset_other φ E E1 k hmm] at hr
    exact ⟨hmm,hz,hr⟩
  ·left
   rw [List.getElem?_append_right (by rw [jset_length]; exact hge),jset_length] at hz
   simp only [List.getElem?_map,List.getElem?_drop] at hz
   cases hq:L1[φ.length+(k-M.length)]? with
   | none=>rw [hq] at hz; cases hz
   | some x =>
    rw [hq] at hz; cases hz
    have hjl:=(List.getElem?_eq_some_iff.1 hq).1
    refine ⟨φ.length+(k-M.length),x,hq,?_,rfl,?_⟩
    ·have:=hnew (k-M.length)
     rw [show M.length+(k-M.length)=k by omega] at this
     rw [← this]; exact hr
    ·rcases rnv _ hjl with ⟨e,_⟩ | ⟨_,e⟩
     ·omega
     ·rw [e]; omega
 have own:∀ b,footL (subE E φ) L b→∃ k x r,k∈φ∧M[k]?=some x∧E[k]?=some r∧foot r x b:=by
  rintro b ⟨k,x,r,hx,hr,hf⟩
  obtain ⟨j,hj,hM⟩:=hp.blk k x hx
  obtain ⟨r',e1,e2,_⟩:=atφ k j hj
  rw [hr] at e2; cases e2
  exact ⟨j,_,r,List.mem_of_getElem? hj,hM,e1,by rw [foot_rn]; exact hf⟩
 have hbsize:w.heap.size≤w'.heap.size:=h1.fr.size
 refine ⟨E',hEE,hinto,⟨h.fr.trans h1.fr fun b hb hf=>?_,?_,fun k z r hz hr b hf=>?_,fun k z r hz hr=>?_,fun k k' z z' r r' b hz hz' hr hr' hf hf'=>?_⟩⟩
 ·obtain ⟨k,x,r,_,hM,hE,hf⟩:=own b hf
  rcases (h.rng k x r hM hE b hf).1 with h2 | h2
  ·omega
  ·exact h2
 ·show (eset E φ E1++E1.drop φ.length).length=_
  rw [hlenJ,List.length_append,List.length_drop,hlenE,h1.len]
 ·rcases cut k z r hz hr with ⟨j,x,hx',hr1,rfl,_⟩ | ⟨_,hM,hE⟩
  ·rw [foot_rn] at hf
   have:=h1.rng j x r hx' hr1 b hf
   refine ⟨?_,this.2⟩
   rcases this.1 with h2 | h2
   ·have:=h.fr.size; exact .inl (by omega)
   ·obtain ⟨k2,x2,r2,_,hM2,hE2,hf2⟩:=own b h2
    exact (h.rng k2 x2 r2 hM2 hE2 b hf2).1
  ·have:=h.rng k z r hM hE b hf
   exact ⟨this.1,by omega⟩
 ·rcases cut k z r hz hr with ⟨j,x,hx',hr1,rfl,_⟩ | ⟨hmm,hM,hE⟩
  ·exact (h1.blk j x r hx' hr1).into hinto
  ·refine LBis.extD ((h.blk k z r hM hE).fr h1.fr (fun b hb=>(h.rng k z r hM hE b hb).2) fun b hb hf=>?_) (nmL_ok hm hM (by rw [Nat.zero_add]; exact hmm)) hEE
   obtain ⟨k2,x2,r2,hm2,hM2,hE2,hf2⟩:=own b hf
   have:=h.inj k k2 z x2 r r2 b hM hM2 hE hE2 hb hf2
   subst this; exact hmm hm2
 ·have mixed:∀ (j:Nat) (x:LB) (r1:Nat × Nat × Nat) (k:Nat) (z:LB) (r2:Nat × Nat × Nat),L1[j]?=some x→E1[j]?=some r1→foot r1 x b→k∉φ→M[k]?=some z→E[k]?=some r2→foot r2 z b→False:=by
   intro j x r1 k z r2 hx' hr1 hf1 hmm hM hE hf2
   rcases (h1.rng j x r1 hx' hr1 b hf1).1 with h2 | h2
   ·have:=(h.rng k z r2 hM hE b hf2).2; omega
   ·obtain ⟨k2,x2,r3,hm2,hM2,hE2,hf3⟩:=own b h2
    have:=h.inj k k2 z x2 r2 r3 b hM hM2 hE hE2 hf2 hf3
    subst this; exact hmm hm2
  rcases cut k z r hz hr with ⟨j,x,hx',hr1,rfl,hk⟩ | ⟨hmm,hM,hE⟩
  ·rw [foot_rn] at hf
   rcases cut k' z' r' hz' hr' with ⟨j',x',hx2,hr2,rfl,hk'⟩ | ⟨hm',hM',hE'⟩
   ·rw [foot_rn] at hf'
    have:=h1.inj j j' x x' r r' b hx' hx2 hr1 hr2 hf hf'
    subst this; rw [hk,hk']
   ·exact (mixed j x r k' z' r' hx' hr1 hf hm' hM' hE' hf').elim
  ·rcases cut k' z' r' hz' hr' with ⟨j',x',hx2,hr2,rfl,hk'⟩ | ⟨hm',hM',hE'⟩
   ·rw [foot_rn] at hf'
    exact (mixed j' x' r' k z r hx2 hr2 hf' hmm hM hE hf).elim
   ·exact h.inj k k' z z' r r' b hM hM' hE hE' hf hf'
end Go.Tum
end
section
namespace Go.Tum
open Go
inductive AV where
 | v (u:Value)
 | s (a:Addr) (n c m:Nat) (get:Nat→AV)
def AV.is (X:Nat→Prop) (w0:World):AV→Value→Prop
 | .v u,x=>x=u
 | .s a n c m get,x=>(x=.slice (some ⟨a.block,a.off,none⟩) n c∨(n=0∧c=0∧∃ a',x=.slice a' 0 0))∧(0<m→a.block<w0.heap.size∧¬ X a.block∧∀ i,i<m→∃ y,w0.cell? ⟨a.block,a.off+i,none⟩=some y∧(get i).is X w0 y)
abbrev Args:=List (Nat × Nat × (Nat→AV))
def ArgAt (X:Nat→Prop) (w0:World) (E0:Emb) (k m:Nat) (get:Nat→AV):Prop :=
 0<m→∃ r,E0[k]?=some r∧r.1<w0.heap.size∧¬ X r.1∧∀ i,i<m→∃ y,w0.cell? ⟨r.1,r.2.1+i,none⟩=some y∧(get i).is X w0 y
structure NA where
 n:Nat
 A:Args
 /-- the names that must stay what they are -/
 keep:List Nat
def tabTz:List Int:=[0,1,56,2,57,49,28,3,61,58,42,50,38,29,17,4,62,47,59,36,45,43,51,22,53,39,33,30,24,18,12,5,63,55,48,27,60,41,37,16,46,35,44,21,52,32,23,11,54,26,40,15,34,20,31,10,25,14,19,9,13,8,7,6]
def tabG (P:Program):Option Nat:=P.globalNamed "math/bits.deBruijn64tab"
def TabOk (P:Program) (X:Nat→Prop) (w:World):Prop:=∀ g,tabG P=some g→(∀ (i:Nat) (x:Int),tabTz[i]?=some x→w.cell? ⟨g,i,none⟩=some (.int .u8 x))∧¬ X g∧g<w.heap.size
theorem TabOk.none {P:Program} {X:Nat→Prop} {w:World} (h:tabG P=Option.none):TabOk P X w:=fun g hg=>by rw [h] at hg; cases hg
def NA.Ok (n0:NA) (P:Program) (X:Nat→Prop) (w0:World) (E0:Emb):Prop:=E0.length=n0.n∧(∀ x∈n0.A,inL x.1 n0.keep=true∧ArgAt X w0 E0 x.1 x.2.1 x.2.2)∧TabOk P X w0
def NA.Ext (n0:NA) (E0 E:Emb):Prop:=∀ (k:Nat) (r:Nat × Nat × Nat),inL k n0.keep=true→E0[k]?=some r→E[k]?=some r
theorem NA.Ext.trans {n0:NA} {E0 E E1:Emb} (h:n0.Ext E0 E) (k:Tum.Ext E E1):n0.Ext E0 E1:=fun i r hi hr=>k i r (h i r hi hr)
theorem NA.Ext.refl (n0:NA) (E:Emb):n0.Ext E E:=fun _ _ _ h=>h
def keepOk (sel:List Nat):List Nat→Bool
 | []=>true
 | k::ks=>(match sel[k]? with
  | some j=>Nat.beq j k
  | none=>false) && keepOk sel ks
theorem keepOk_ok {sel:List Nat}:∀ {ks:List Nat} {k:Nat},keepOk sel ks=true→inL k ks=true→sel[k]?=some k
 | [],k,_,h=>by cases h
 | a::ks,k,h,hk=>by
  simp only [keepOk,Bool.and_eq_true] at h
  simp only [inL] at hk
  cases hq:Nat.beq a k
  ·rw [hq] at hk; exact keepOk_ok h.2 hk
  ·have:=Nat.eq_of_beq_eq_true hq
   subst this
   have h1:=h.1
   split at h1
   ·rename_i j hj; rw [hj,Nat.eq_of_beq_eq_true h1]
   ·cases h1
theorem NA.Ext.sub {n0:NA} {E0 E:Emb} {sel:List Nat} (h:n0.Ext E0 E) (hs:keepOk sel n0.keep=true):n0.Ext E0 (subE E sel):=by
 intro k r hk hr
 have h1:=keepOk_ok hs hk
 have h2:=h k r hk hr
 simp [subE,h1,h2]
def Fin (n0:NA) (X:Nat→Prop) (w0:World) (E0:Emb) (Q:Env→LH→Prop) (l':Env) (w:World):Prop:=∃ E l L,n0.Ext E0 E∧Rep X w0 E L w∧ER E l l'∧Q l L
structure LWp (P:Program) (n0:NA) (m:MC) (Q:Exit→Env→LH→Prop) (l:Env) (L:LH):Prop where
 go:∀ (X:Nat→Prop) (w0:World) (E0:Emb) (w:World) (E:Emb) (l':Env),n0.Ok P X w0 E0→n0.Ext E0 E→Rep X w0 E L w→ER E l l'→MWp P m (fun e=>Fin n0 X w0 E0 (Q e)) l' w
structure LSt (P:Program) (n0:NA) (ss:List Step) (K:Env→LH→Prop) (l:Env) (T:Taken) (L:LH):Prop where
 go:∀ (X:Nat→Prop) (w0:World) (E0:Emb) (w:World) (E:Emb) (l':Env) (F:Facts),n0.Ok P X w0 E0→n0.Ext E0 E→Rep X w0 E L w→ER E l l'→TR P E T F→stepsWp P ss (Fin n0 X w0 E0 K) l' F w
def LPt (P:Program) (n0:NA) (t:PT) (K:Env→LH→Prop) (l:Env) (T:Taken) (L:LH):Prop :=
 ∀ (X:Nat→Prop) (w0:World) (E0:Emb) (w:World) (E:Emb) (l':Env) (F:Facts),n0.Ok P X w0 E0→n0.Ext E0 E→Rep X w0 E L w→ER E l l'→TR P E T F→ptWp P t (Fin n0 X w0 E0 K) l' F w
def Nx (n0:NA) (k:Env→LH→Prop) (l:Env) (L:LH):Prop :=
 ∀ (X:Nat→Prop) (w0:World) (E0:Emb) (w:World) (E:Emb) (l':Env),n0.Ext E0 E→Rep X w0 E L w→ER E l l'→∃ l'',Sub l'' l'∧Fin n0 X w0 E0 k l'' w
abbrev thenL (next:Env→LH→Prop) (Q:Exit→Env→LH→Prop):Exit→Env→LH→Prop
 | .normal,l,L=>next l L
 | e,l,L=>Q e l L
abbrev blkL (id:Nat) (Q:Exit→Env→LH→Prop):Exit→Env→LH→Prop
 | .exit id',l,L=>if id'=id then Q .normal l L else Q (.exit id') l L
 | e,l,L=>Q e l L
section
variable {P:Program} {n0:NA} {Q:Exit→Env→LH→Prop} {K:Env→LH→Prop} {l:Env} {L:LH} {T:Taken}
theorem Nx.go {k:Env→LH→Prop} (h:k l L):Nx n0 k l L:=fun _ _ _ _ E l' hE hR hl=>⟨l',Sub.refl _,E,l,L,hE,hR,hl,h⟩
theorem Nx.pickN {k:Env→LH→Prop} {l1:Env} {L1:LH} (ks sel:List Nat) (g0:keepOk sel n0.keep=true) (g1:letGoE sel L (repick l ks)=some l1) (g2:letGo sel L=some L1) (h:Nx n0 k l1 L1):Nx n0 k l L:=by
 intro X w0 E0 w E l' hE hR hl
 obtain ⟨l2,h5,h6⟩:=repick_ok hl ks
 obtain ⟨l3,h7,h8⟩:=h X w0 E0 w (subE E sel) l2 (hE.sub g0) (letGo_ok g2 hR) (letGoE_ok g1 hR h6)
 exact ⟨l3,fun t v ht=>h5 t v (h7 t v ht),h8⟩
theorem Nx.pick {k:Env→LH→Prop} {l1:Env} {L1:LH} (ks sel:List Nat) (h0:keepOk sel n0.keep=true) (h1:letGoE sel L (repick l ks)=some l1) (h2:letGo sel L=some L1) (h:k l1 L1):Nx n0 k l L:=Nx.pickN ks sel h0 h1 h2 (Nx.go h)
theorem Nx.fin {k:Env→LH→Prop} {X:Nat→Prop} {w0 w:World} {E0 E:Emb} {l':Env} (h:Nx n0 k l L) (hE:n0.Ext E0 E) (hR:Rep X w0 E L w) (hl:ER E l l'):∃ l'',Sub l'' l'∧Fin n0 X w0 E0 k l'' w:=h X w0 E0 w E l' hE hR hl
theorem Fin.mono {X:Nat→Prop} {w0 w:World} {E0:Emb} {K K':Env→LH→Prop} {l':Env} (h:Fin n0 X w0 E0 K l' w) (hk:∀ l L,K l L→K' l L):Fin n0 X w0 E0 K' l' w:=by
 obtain ⟨E,l,L,h1,h2,h3,h4⟩:=h; exact ⟨E,l,L,h1,h2,h3,hk _ _ h4⟩
theorem Nx.mono {k k':Env→LH→Prop} (h:Nx n0 k l L) (hk:∀ l L,k l L→k' l L):Nx n0 k' l L:=fun X w0 E0 w E l' hE hR hl=>let ⟨l'',h1,h2⟩:=h X w0 E0 w E l' hE hR hl; ⟨l'',h1,h2.mono hk⟩
theorem LWp.pick {m:MC} {l1:Env} {L1:LH} (ks sel:List Nat) (g0:keepOk sel n0.keep=true) (g1:letGoE sel L (repick l ks)=some l1) (g2:letGo sel L=some L1) (h:LWp P n0 m Q l1 L1):LWp P n0 m Q l L :=
 ⟨fun X w0 E0 w E l' h0 hE hR hl=>h.go X w0 E0 w (subE E sel) l' h0 (hE.sub g0) (letGo_ok g2 hR) (letGoE_ok g1 hR (hl.repick ks))⟩
theorem L_skip (h:Q .normal l L):LWp P n0 .skip Q l L:=⟨fun _ _ _ _ E _ _ hE hR hl=>⟨E,l,L,hE,hR,hl,h⟩⟩
theorem L_ret (h:Q .ret l L):LWp P n0 .ret Q l L:=⟨fun _ _ _ _ E _ _ hE hR hl=>⟨E,l,L,hE,hR,hl,h⟩⟩
theorem L_exit {id:Nat} (h:Q (.exit id) l L):LWp P n0 (.exit id) Q l L:=⟨fun _ _ _ _ E _ _ hE hR hl=>⟨E,l,L,hE,hR,hl,h⟩⟩
theorem LWp.mono {m:MC} {Q':Exit→Env→LH→Prop} (h:LWp P n0 m Q l L) (hq:∀ e l L,Q e l L→Q' e l L):LWp P n0 m Q' l L :=
 ⟨fun X w0 E0 w E l' h0 hE hR hl=>MWp.mono m (fun e _ _ hf=>hf.mono (hq e)) (h.go X w0 E0 w E l' h0 hE hR hl)⟩
theorem L_reg {ss:List Step} (h:LSt P n0 ss (Q .normal) l [] L):LWp P n0 (.reg ss) Q l L:=⟨fun X w0 E0 w E l' h0 hE hR hl=>h.go X w0 E0 w E l' [] h0 hE hR hl trivial⟩
theorem L_regT {t:PT} (h:LPt P n0 t (Q .normal) l [] L):LWp P n0 (.regT t) Q l L:=⟨fun X w0 E0 w E l' h0 hE hR hl=>h X w0 E0 w E l' [] h0 hE hR hl trivial⟩
theorem L_seq {a b:MC} (h:LWp P n0 a (thenL (Nx n0 (LWp P n0 b Q)) Q) l L):LWp P n0 (.seq a b) Q l L:=by
 refine ⟨fun X w0 E0 w E l' h0 hE hR hl=>?_⟩
 refine MWp.mono a (fun e l1 w1 hf=>?_) (h.go X w0 E0 w E l' h0 hE hR hl)
 obtain ⟨E1,l2,L2,k1,k2,k3,k4⟩:=hf
 cases e with
 | normal =>
  obtain ⟨l3,h3,E3,l4,L4,g1,g2,g3,g4⟩:=Nx.fin k4 k1 k2 k3
  exact ⟨l3,h3,g4.go X w0 E0 w1 E3 l3 h0 g1 g2 g3⟩
 | ret=>exact ⟨E1,l2,L2,k1,k2,k3,k4⟩
 | exit i=>exact ⟨E1,l2,L2,k1,k2,k3,k4⟩
 | goto i=>exact ⟨E1,l2,L2,k1,k2,k3,k4⟩
 | panic c=>exact ⟨E1,l2,L2,k1,k2,k3,k4⟩
 | outgrown=>exact ⟨E1,l2,L2,k1,k2,k3,k4⟩
theorem L_rs {ss:List Step} {b:MC} (h:LSt P n0 ss (Nx n0 (LWp P n0 b Q)) l [] L):LWp P n0 (.seq (.reg ss) b) Q l L:=L_seq (L_reg h)
theorem L_rT {t:PT} {b:MC} (h:LPt P n0 t (Nx n0 (LWp P n0 b Q)) l [] L):LWp P n0 (.seq (.regT t) b) Q l L:=L_seq (L_regT h)
theorem L_if {c:Operand} {x y:MC} {t:Bool} (hc:lv l c=some (.bool t)) (ht:t=true→LWp P n0 x Q (knows c true l) L) (hf:t=false→LWp P n0 y Q (knows c false l) L):LWp P n0 (.cond c x y) Q l L:=by
 refine ⟨fun X w0 E0 w E l' h0 hE hR hl=>?_⟩
 obtain ⟨_,h1,rfl⟩:=lv_ev hl hc
 exact ⟨t,h1,fun e=>(ht e).go X w0 E0 w E _ h0 hE hR (hl.knows c true),fun e=>(hf e).go X w0 E0 w E _ h0 hE hR (hl.knows c false)⟩
theorem L_true {c:Operand} {x y:MC} (hc:lv l c=some (.bool true)) (h:LWp P n0 x Q (knows c true l) L):LWp P n0 (.cond c x y) Q l L:=L_if hc (fun _=>h) (fun e=>by cases e)
theorem L_false {c:Operand} {x y:MC} (hc:lv l c=some (.bool false)) (h:LWp P n0 y Q (knows c false l) L):LWp P n0 (.cond c x y) Q l L:=L_if hc (fun e=>by cases e) (fun _=>h)
theorem L_block {id:Nat} {b:MC} (h:LWp P n0 b (blkL id Q) l L):LWp P n0 (.block id b) Q l L:=by
 refine ⟨fun X w0 E0 w E l' h0 hE hR hl=>?_⟩
 refine MWp.mono b (fun e l1 w1 hf=>?_) (h.go X w0 E0 w E l' h0 hE hR hl)
 obtain ⟨E1,l2,L2,k1,k2,k3,k4⟩:=hf
 cases e with
 | exit i =>
  simp only [blkQ]
  simp only [blkL] at k4
  by_cases e:i=id
  ·rw [if_pos e] at k4 ⊢; exact ⟨E1,l2,L2,k1,k2,k3,k4⟩
  ·rw [if_neg e] at k4 ⊢; exact ⟨E1,l2,L2,k1,k2,k3,k4⟩
 | normal=>exact ⟨E1,l2,L2,k1,k2,k3,k4⟩
 | ret=>exact ⟨E1,l2,L2,k1,k2,k3,k4⟩
 | goto i=>exact ⟨E1,l2,L2,k1,k2,k3,k4⟩
 | panic c=>exact ⟨E1,l2,L2,k1,k2,k3,k4⟩
 | outgrown=>exact ⟨E1,l2,L2,k1,k2,k3,k4⟩
theorem L_loop {b:MC} (I:Nat→Env→LH→Prop) (n:Nat) (h0:I n l L) (h:∀ n l L,I n l L→LWp P n0 b (thenL (Nx n0 (fun l L=>∃ m,m<n∧I m l L)) Q) l L):LWp P n0 (.loop b) Q l L:=by
 refine ⟨fun X w0 E0 w E l' hn hE hR hl=>?_⟩
 refine ⟨fun n l' w=>Fin n0 X w0 E0 (I n) l' w,n,⟨E,l,L,hE,hR,hl,h0⟩,?_⟩
 rintro n l' w ⟨E,l,L,hE,hR,hl,hI⟩
 refine MWp.mono b (fun e l1 w1 hf=>?_) ((h n l L hI).go X w0 E0 w E l' hn hE hR hl)
 obtain ⟨E1,l2,L2,k1,k2,k3,k4⟩:=hf
 cases e with
 | normal =>
  obtain ⟨l3,h3,E3,l4,L4,g1,g2,g3,m,g4,g5⟩:=Nx.fin k4 k1 k2 k3
  exact ⟨m,g4,l3,h3,E3,l4,L4,g1,g2,g3,g5⟩
 | ret=>exact ⟨E1,l2,L2,k1,k2,k3,k4⟩
 | exit i=>exact ⟨E1,l2,L2,k1,k2,k3,k4⟩
 | goto i=>exact ⟨E1,l2,L2,k1,k2,k3,k4⟩
 | panic c=>exact ⟨E1,l2,L2,k1,k2,k3,k4⟩
 | outgrown=>exact ⟨E1,l2,L2,k1,k2,k3,k4⟩
def QY (P:Program) (n0:NA) (L:LH) (l:Env) (q:QOp) (v:Value):Prop :=
 ∀ (X:Nat→Prop) (w0:World) (E0:Emb) (w:World) (E:Emb) (l':Env),n0.Ok P X w0 E0→n0.Ext E0 E→Rep X w0 E L w→ER E l l'→∃ v',q.Y P l' v' w∧VR E v v'
theorem QY.of {q:QOp} {v:Value} (h:lq (rawQ1 P) L l q=some v):QY P n0 L l q v:=fun _ _ _ _ _ _ _ _ hR hl=>lq_ok (rawQ1_ok P) h hR hl
def Sure (v:Value):Prop:=∀ (E:Emb) (a b:Value),VR E v a→VR E v b→a=b
theorem Sure.of {v:Value} (h:sure v=true):Sure v:=fun _ _ _ h1 h2=>VR.fn h h1 h2
theorem Sure.slice {a:Option Addr} {n c:Nat} (h:n≠0):Sure (.slice a n c):=by
 intro E x y hx hy
 have:sureS (.slice a n c)=true:=by cases a <;> cases n <;> first | rfl|exact absurd rfl h
 exact SR.fn this (hx.sr rfl) (hy.sr rfl)
def chkP (P:Program) (n0:NA) (T:Taken) (L:LH):List Nat→Prop
 | []=>True
 | k::ks=>(match tfind T k with
  | some (q,l,v)=>QY P n0 L l q v∧Sure v
  | none=>True)∧chkP P n0 T L ks
theorem chkP_ok {X:Nat→Prop} {w0 w w':World} {E0 E:Emb} {F:Facts} (h0:n0.Ok P X w0 E0) (hE:n0.Ext E0 E) (hR:Rep X w0 E L w') (hT:TR P E T F):∀ (ks:List Nat),chkP P n0 T L ks→pendOk F w w' ks
 | [],_=>trivial
 | k::ks,h=>by
  refine ⟨?_,chkP_ok h0 hE hR hT ks h.2⟩
  rcases hT.find k with ⟨h1,h2⟩ | ⟨q,l,v,l',v',h1,h2,h3,h4⟩
  ·rw [h2]; trivial
  ·rw [h2]
   have h5:=h.1
   rw [h1] at h5
   intro _
   obtain ⟨v'',h6,h7⟩:=h5.1 X w0 E0 w' E l' h0 hE hR h3
   rw [h5.2 E _ _ h4 h7]
   exact h6
def EW (P:Program) (n0:NA) (L:LH) (l:Env) (e:EOp) (R:Value→LH→Prop):Prop :=
 ∀ (X:Nat→Prop) (w0:World) (E0:Emb) (w:World) (E:Emb) (l':Env) (Kf:Value→World→Prop),n0.Ok P X w0 E0→n0.Ext E0 E→Rep X w0 E L w→ER E l l'→(∀ w' E' v' v L',R v L'→Ext E E'→Rep X w0 E' L' w'→VR E' v v'→Kf v' w')→e.W P Kf l' w
theorem EW.of {e:EOp} {v:Value} {L':LH} (h:le (fun _ _ _=>none) (rawE2 P) L l e=some (v,L')):EW P n0 L l e (fun u K=>u=v∧K=L'):=by
 intro X w0 E0 w E l' Kf h0 hE hR hl hK
 refine le_ok (P:=P) (X:=X) (w0:=w0) (fun _ _ _ _ _ _ _ _ h=>by cases h) (rawE2_ok P) h hR hl fun w' E' v' h1 h2 h3=>hK w' E' v' v L' ⟨rfl,rfl⟩ h1 h2 h3
theorem EW.mono {e:EOp} {R R':Value→LH→Prop} (h:EW P n0 L l e R) (hr:∀ v L',R v L'→R' v L'):EW P n0 L l e R' :=
 fun X w0 E0 w E l' Kf h0 hE hR hl hK=>h X w0 E0 w E l' Kf h0 hE hR hl fun w' E' v' v L' h1=>hK w' E' v' v L' (hr v L' h1)
variable {k:Nat} {d:Option Nat} {g:Option (Nat × Bool)} {op:QOp} {eo:EOp} {rd:Bool} {r:List Step} {pend:List Nat} {v:Value}
theorem S_end (h:K l L):LSt P n0 [] K l T L:=⟨fun _ _ _ _ E _ _ _ hE hR hl _=>⟨E,l,L,hE,hR,hl,h⟩⟩
theorem S_q (hg:gw g l=some true) (hy:QY P n0 L l op v) (h:LSt P n0 r K (dpush d v l) (bif rd then (k,op,l,v)::T else T) L):LSt P n0 (.q k d g op rd::r) K l T L:=by
 refine ⟨fun X w0 E0 w E l' F h0 hE hR hl hT=>?_⟩
 simp only [stepsWp]
 refine gw_ok hl hg (fun _=>?_) (fun e=>by cases e)
 obtain ⟨v',h1,h2⟩:=hy X w0 E0 w E l' h0 hE hR hl
 refine ⟨v',h1,?_⟩
 cases rd
 ·exact h.go X w0 E0 w E _ _ h0 hE hR (hl.dpush h2 d) hT
 ·exact h.go X w0 E0 w E _ _ h0 hE hR (hl.dpush h2 d) ⟨rfl,⟨l',v',rfl,hl,h2⟩,hT⟩
theorem S_e {R:Value→LH→Prop} (hg:gw g l=some true) (hw:EW P n0 L l eo R) (h:∀ v L',R v L'→chkP P n0 T L' pend∧LSt P n0 r K (dpush d v l) T L'):LSt P n0 (.e d g eo pend::r) K l T L:=by
 refine ⟨fun X w0 E0 w E l' F h0 hE hR hl hT=>?_⟩
 simp only [stepsWp]
 refine gw_ok hl hg (fun _=>?_) (fun e=>by cases e)
 refine hw X w0 E0 w E l' _ h0 hE hR hl fun w' E' v' v L' hr h1 h2 h3=>?_
 obtain ⟨hc,hn⟩:=h v L' hr
 exact ⟨chkP_ok h0 (hE.trans h1) h2 (hT.ext h1) _ hc,hn.go X w0 E0 w' E' _ _ h0 (hE.trans h1) h2 ((hl.ext h1).dpush h3 d) (hT.ext h1)⟩
theorem S_qno (hg:gw g l=some false) (h:LSt P n0 r K (dpush d undef l) T L):LSt P n0 (.q k d g op rd::r) K l T L:=by
 refine ⟨fun X w0 E0 w E l' F h0 hE hR hl hT=>?_⟩
 simp only [stepsWp]
 exact gw_ok hl hg (fun e=>by cases e) (fun _=>h.go X w0 E0 w E _ _ h0 hE hR (hl.dpush VR.undef d) hT)
theorem S_eno (hg:gw g l=some false) (h:LSt P n0 r K (dpush d undef l) T L):LSt P n0 (.e d g eo pend::r) K l T L:=by
 refine ⟨fun X w0 E0 w E l' F h0 hE hR hl hT=>?_⟩
 simp only [stepsWp]
 exact gw_ok hl hg (fun e=>by cases e) (fun _=>h.go X w0 E0 w E _ _ h0 hE hR (hl.dpush VR.undef d) hT)
def noRaw:RawQ:=fun _ _ _=>none
theorem noRaw_ok (P:Program):RawOk P noRaw:=fun _ _ _ _ _ _ _ _ _ h=>by cases h
def qsafe (st:List Nat) (L:LH) (l:Env):QOp→Option Value
 | .mov x=>lv l x
 | .pick c a b=>match c with
  | .tmp t=>match inL t st with
   | true=>none
   | false=>match lv l (.tmp t) with
    | some (.bool true)=>lv l a
    | some (.bool false)=>lv l b
    | _=>none
  | _=>none
 | .nilc x=>lq noRaw L l (.nilc x)
 | .fld x off=>match lptr l x with
  | some ⟨b,o,none⟩=>some (.pointer (some ⟨b,o+off,none⟩))
  | _=>none
 | .fldv x off=>lq noRaw L l (.fldv x off)
 | .fldn x off n=>lq noRaw L l (.fldn x off n)
 | .ext x k=>lq noRaw L l (.ext x k)
 | .bin op x y=>match op with
  | .quo=>none
  | .rem=>none
  | .add=>none
  | .sub=>none
  | .mul=>none
  | .and=>none
  | .or=>none
  | .xor=>none
  | .andNot=>none
  | op=>lq noRaw L l (.bin op x y)
 | .nilp neg x=>match lv l x with
  | some (.pointer (some _))=>match neg with
   | true=>some (.bool true)
   | false=>some (.bool false)
  | some (.pointer none)=>match neg with
   | true=>some (.bool false)
   | false=>some (.bool true)
  | _=>none
 | .un op x=>lq noRaw L l (.un op x)
 | .len x=>lq noRaw L l (.len x)
 | .bld z ps=>lq noRaw L l (.bld z ps)
 | .mm mx x y=>lq noRaw L l (.mm mx x y)
 | .xorn x=>lq noRaw L l (.xorn x)
 | .mkf f a c=>lq noRaw L l (.mkf f a c)
 | .ld x=>match lptr l x with
  | some ⟨b,o,none⟩=>match L[b]? with
   | some (.cells _ vs)=>vs[o]?
   | _=>none
  | _=>none
 | .ldn x n=>match lptr l x with
  | some ⟨b,o,none⟩=>match L[b]? with
   | some (.cells _ vs)=>bif Nat.ble (o+n) vs.length then some (.agg ⟨(vs.drop o).take n⟩) else none
   | _=>none
  | _=>none
 | _=>none
theorem qsafe_ok {st:List Nat} (h:qsafe st L l op=some v):QY P n0 L l op v:=by
 intro X w0 E0 w E l' h0 hE hR hl
 have via:lq noRaw L l op=some v→∃ v',op.Y P l' v' w∧VR E v v':=fun h=>lq_ok (noRaw_ok P) h hR hl
 cases op <;> simp only [qsafe] at h <;> first|exact via h | (cases h; done) | skip
 case pick c a b =>
  cases c <;> first | (cases h; done) | skip
  case tmp t =>
  simp only at h
  split at h <;> first | (cases h; done) | skip
  split at h <;> first | (cases h; done) | skip
  ·rename_i hc; exact via (by simp only [lq,hc]; exact h)
  ·rename_i hc; exact via (by simp only [lq,hc]; exact h)
 case fld x off =>
  split at h <;> first | (cases h; done) | skip
  rename_i b o hp
  cases h
  exact via (by simp only [lq,hp,add_none])
 case bin op x y=>cases op <;> first|exact via h | cases h
 case nilp neg x =>
  split at h <;> first | (cases h; done) | skip
  ·rename_i p hp; cases neg <;> cases h <;> exact via (by simp [lq,hp])
  ·rename_i hp; cases neg <;> cases h <;> exact via (by simp [lq,hp])
 case ld x =>
  split at h <;> first | (cases h; done) | skip
  rename_i b o hp
  split at h <;> first | (cases h; done) | skip
  rename_i sz vs hb
  exact via (by simp only [lq,hp,lcell,hb]; exact h)
 case ldn x n =>
  split at h <;> first | (cases h; done) | skip
  rename_i b o hp
  split at h <;> first | (cases h; done) | skip
  rename_i sz vs hb
  cases hc:Nat.ble (o+n) vs.length
  ·rw [hc] at h; cases h
  rw [hc] at h; cases h
  exact via (by simp only [lq,hp,lcells,hb,hc,cond_true])
def esafe (L:LH) (l:Env):EOp→Option (Value × LH)
 | .st x v=>match lptr l x,lv l v with
  | some ⟨b,o,none⟩,some u=>match one u with
   | true=>match L[b]? with
    | some (.cells sz vs)=>bif Nat.blt o vs.length then some (undef,L.set b (.cells sz (vs.set o u))) else none
    | _=>none
   | false=>none
  | _,_=>none
 | .stn x v n=>match lptr l x,lv l v with
  | some ⟨b,o,none⟩,some (.agg ⟨us⟩)=>bif Nat.beq us.length n then (match L[b]? with
   | some (.cells sz vs)=>bif Nat.ble (o+n) vs.length then some (undef,L.set b (.cells sz (lspl vs o us))) else none
   | _=>none) else none
  | _,_=>none
 | .new _ zero=>bif zero.all stillS then some (.pointer (some ⟨L.length,0,none⟩),L++[.cells 0 zero]) else none
 | .box _ x=>match lv l x with
  | some u=>bif notTup u then some (.pointer (some ⟨L.length,0,none⟩),L++[.cells 0 u.cells.toList]) else none
  | none=>none
 | .bs0 _=>some (.slice (some ⟨L.length,0,none⟩) 0 0,L++[.cells 0 []])
 | .bs1 _ n x=>match lv l x with
  | some u=>bif notTup u && Nat.beq u.cells.toList.length n then some (.slice (some ⟨L.length,0,none⟩) 1 1,L++[.cells 0 u.cells.toList]) else none
  | none=>none
 | _=>none
theorem esafe_ok {L':LH} (h:esafe L l eo=some (v,L')):EW P n0 L l eo (fun u K=>u=v∧K=L'):=by
 refine EW.of ?_
 cases eo <;> simp only [esafe] at h <;> first | (cases h; done) | skip
 case st x y =>
  simp only [le,fL_eq]
  split at h <;> first | (cases h; done) | skip
  rename_i b o u hx hy
  rw [hx,hy]
  simp only
  split at h <;> first | (cases h; done) | skip
  rename_i h1
  rw [h1]
  simp only [cond_true]
  split at h <;> first | (cases h; done) | skip
  rename_i sz vs hb
  rw [hb]
  exact h
 case stn x y n=>simp only [le,fL_eq]; exact h
 case new t z=>simp only [le,fL_eq,fV_eq]; exact h
 case box t x=>simp only [le,fL_eq,fV_eq]; exact h
 case bs0 t=>exact h
 case bs1 t n x=>exact h
def gsafe (st:List Nat) (g:Option (Nat × Bool)) (l:Env):Option Bool :=
 match g with
 | none=>some true
 | some (s,want)=>match inL s st with
  | true=>none
  | false=>match eget l s with
   | some (.bool true)=>some want
   | some (.bool false)=>some (!want)
   | some (.tuple _)=>some false
   | _=>none
theorem gsafe_ok {st:List Nat} {b:Bool} (h:gsafe st g l=some b):gw g l=some b:=by
 cases g with
 | none=>exact h
 | some sw =>
  obtain ⟨s,want⟩:=sw
  simp only [gsafe] at h
  split at h <;> first | (cases h; done) | skip
  split at h <;> first | (cases h; done) | skip
  ·rename_i hs; cases h; simp only [gw,hs]; cases b <;> rfl
  ·rename_i hs; cases h; simp only [gw,hs]; cases want <;> rfl
  ·rename_i hs; cases h; simp only [gw,hs]
def arun (st:List Nat):List Step→Env→Taken→LH→List Step × Env × Taken × LH
 | [],l,T,L=>([],l,T,L)
 | .q k d g op rd::r,l,T,L=>match gsafe st g l with
  | some true=>match qsafe st L l op with
   | some v=>match rd with
    | true=>arun st r (dpush d v l) ((k,op,l,v)::T) L
    | false=>arun st r (dpush d v l) T L
   | none=>(.q k d g op rd::r,l,T,L)
  | some false=>arun st r (dpush d undef l) T L
  | none=>(.q k d g op rd::r,l,T,L)
 | .e d g op pend::r,l,T,L=>match gsafe st g l with
  | some true=>match pend with
   | []=>match esafe L l op with
    | some (v,L')=>arun st r (dpush d v l) T L'
    | none=>(.e d g op pend::r,l,T,L)
   | _::_=>(.e d g op pend::r,l,T,L)
  | some false=>arun st r (dpush d undef l) T L
  | none=>(.e d g op pend::r,l,T,L)
theorem arun_ok (st:List Nat):∀ (ss:List Step) (l:Env) (T:Taken) (L:LH) {ss1:List Step} {l1:Env} {T1:Taken} {L1:LH},arun st ss l T L=(ss1,l1,T1,L1)→LSt P n0 ss1 K l1 T1 L1→LSt P n0 ss K l T L
 | [],l,T,L,_,_,_,_,h,k=>by cases h; exact k
 | .q k d g op rd::r,l,T,L,_,_,_,_,h,hk=>by
  simp only [arun] at h
  split at h
  ·rename_i hg
   split at h
   ·rename_i v hv
    split at h
    ·exact S_q (gsafe_ok hg) (qsafe_ok hv) (arun_ok st r _ _ L h hk)
    ·exact S_q (gsafe_ok hg) (qsafe_ok hv) (arun_ok st r _ _ L h hk)
   ·cases h; exact hk
  ·rename_i hg; exact S_qno (gsafe_ok hg) (arun_ok st r _ _ L h hk)
  ·cases h; exact hk
 | .e d g op pend::r,l,T,L,_,_,_,_,h,hk=>by
  simp only [arun] at h
  split at h
  ·rename_i hg
   split at h
   ·split at h
    ·rename_i v L' hv
     exact S_e (gsafe_ok hg) (esafe_ok hv) fun v L' ⟨e1,e2⟩=>by subst e1; subst e2; exact ⟨trivial,arun_ok st r _ _ _ h hk⟩
    ·cases h; exact hk
   ·cases h; exact hk
  ·rename_i hg; exact S_eno (gsafe_ok hg) (arun_ok st r _ _ L h hk)
  ·cases h; exact hk
variable {ss ss1:List Step} {l1:Env} {T1:Taken} {L1:LH}
theorem S_done (st:List Nat) (h:arun st ss l T L=([],l1,T1,L1)) (hk:K l1 L1):LSt P n0 ss K l T L:=arun_ok st ss l T L h (S_end hk)
theorem S_Q (st:List Nat) (h:arun st ss l T L=(.q k d g op rd::r,l1,T1,L1)) (hg:gw g l1=some true) (hy:QY P n0 L1 l1 op v) (hn:LSt P n0 r K (dpush d v l1) (bif rd then (k,op,l1,v)::T1 else T1) L1):LSt P n0 ss K l T L :=
 arun_ok st ss l T L h (S_q hg hy hn)
theorem S_E (st:List Nat) {R:Value→LH→Prop} (h:arun st ss l T L=(.e d g eo pend::r,l1,T1,L1)) (hg:gw g l1=some true) (hw:EW P n0 L1 l1 eo R) (hn:∀ v L',R v L'→chkP P n0 T1 L' pend∧LSt P n0 r K (dpush d v l1) T1 L'):LSt P n0 ss K l T L :=
 arun_ok st ss l T L h (S_e hg hw hn)
theorem S_split (s:Nat) {b:Bool} (h0:arun [s] ss l T L=(ss1,l1,T1,L1)) (hh:headGuard ss1=some s) (hb:eget l1 s=some (.bool b))
  (ht:b=true→LSt P n0 ss1 K ((s,.bool true)::l1) T1 L1) (hf:b=false→LSt P n0 ss1 K ((s,.bool false)::l1) T1 L1):LSt P n0 ss K l T L:=by
 refine arun_ok [s] ss l T L h0 ?_
 refine ⟨fun X w0 E0 w E l' F hn hE hR hl hT=>?_⟩
 obtain ⟨_,hb',rfl⟩:=hl.get hb
 have key:stepsWp P ss1 (Fin n0 X w0 E0 K) ((s,.bool b)::l') F w:=by
  cases b
  ·exact (hf rfl).go X w0 E0 w E _ F hn hE hR (ER.cons _ rfl hl) hT
  ·exact (ht rfl).go X w0 E0 w E _ F hn hE hR (ER.cons _ rfl hl) hT
 cases ss1 with
 | nil=>cases hh
 | cons st r =>
  cases st with
  | q k d g op rd =>
   cases g with
   | none=>cases hh
   | some sw=>obtain ⟨s',want⟩:=sw; cases hh; simp only [stepsWp] at *; exact gcase_sub hb' key
  | e d g op pend =>
   cases g with
   | none=>cases hh
   | some sw=>obtain ⟨s',want⟩:=sw; cases hh; simp only [stepsWp] at *; exact gcase_sub hb' key
theorem QY.idx {x i:Operand} {size b o n c:Nat} {kd:IntKind} {j:Int} (hx:lv l x=some (.slice (some ⟨b,o,none⟩) n c)) (hi:lv l i=some (.int kd j)) (hj:0≤j) (h1:j<(n:Int)):QY P n0 L l (.idx x i size) (.pointer (some ⟨b,o+j.toNat*size,none⟩)):=by
 intro X w0 E0 w E l' h0 hE hR hl
 obtain ⟨_,g1,g2,r,g3,⟨a',c',rfl,g4⟩ | ⟨g4,_⟩⟩:=lv_ev hl hx
 ·obtain ⟨_,g5,rfl⟩:=lv_ev hl hi
  rcases g4 with ⟨g4,_⟩ | ⟨g4,_⟩
  ·refine ⟨_,⟨_,n,_,kd,j,g1,g5,hj,h1,rfl⟩,_,rfl,?_⟩
   have:=AR.add (a:=⟨b,o,none⟩) (a':=a') ⟨rfl,r,g3,g4⟩ (j.toNat*size)
   rwa [add_none] at this
  ·omega
 ·omega
theorem QY.ldg {x:Operand} {b o sz:Nat} {vs:List Value} (hx:lv l x=some (.pointer (some ⟨b,o,none⟩))) (hb:L[b]?=some (.gro sz vs)) (hv:vs[o]?=some v) (hs:stillS v=true):QY P n0 L l (.ld x) v :=
 QY.of (by simp [lq,lptr,hx,lcell,hb,hv,hs])
theorem QY.arith {x y:Operand} {bop:BinOp} {kd:IntKind} {a b:Int} {c:Value} (hx:lv l x=some (.int kd a)) (hy:lv l y=some (.int kd b)) (hc:ibin bop kd a b=some c) (hs:still c=true):QY P n0 L l (.bin bop x y) c:=by
 refine QY.of ?_
 have:ikEq kd kd=true:=by simp [ikEq]
 simp only [lq,hx,hy,this,cond_true,hc,hs]
theorem QY.add {x y:Operand} {a b c:Int} (hx:lv l x=some (.int .i64 a)) (hy:lv l y=some (.int .i64 b)) (hc:a+b=c) (h0 : -9223372036854775808≤c) (h1:c≤9223372036854775807):QY P n0 L l (.bin .add x y) (.int .i64 c) :=
 QY.arith hx hy (by simp only [ibin]; rw [hc,wrap64_id h0 h1]) rfl
theorem QY.sub {x y:Operand} {a b c:Int} (hx:lv l x=some (.int .i64 a)) (hy:lv l y=some (.int .i64 b)) (hc:a-b=c) (h0 : -9223372036854775808≤c) (h1:c≤9223372036854775807):QY P n0 L l (.bin .sub x y) (.int .i64 c) :=
 QY.arith hx hy (by simp only [ibin]; rw [hc,wrap64_id h0 h1]) rfl
theorem QY.mul {x y:Operand} {a b c:Int} (hx:lv l x=some (.int .i64 a)) (hy:lv l y=some (.int .i64 b)) (hc:a*b=c) (h0 : -9223372036854775808≤c) (h1:c≤9223372036854775807):QY P n0 L l (.bin .mul x y) (.int .i64 c) :=
 QY.arith hx hy (by simp only [ibin]; rw [hc,wrap64_id h0 h1]) rfl
theorem QY.quo {x y:Operand} {a b c:Int} (hx:lv l x=some (.int .i64 a)) (hy:lv l y=some (.int .i64 b)) (hb:b≠0) (hc:a.tdiv b=c) (h0 : -9223372036854775808≤c) (h1:c≤9223372036854775807):QY P n0 L l (.bin .quo x y) (.int .i64 c) :=
 QY.arith hx hy (by simp only [ibin]; rw [if_neg hb,hc,wrap64_id h0 h1]) rfl
theorem QY.rem {x y:Operand} {a b c:Int} (hx:lv l x=some (.int .i64 a)) (hy:lv l y=some (.int .i64 b)) (hb:b≠0) (hc:a.tmod b=c):QY P n0 L l (.bin .rem x y) (.int .i64 c) :=
 QY.arith hx hy (by simp only [ibin]; rw [if_neg hb,hc]) rfl
theorem QY.shift {lft:Bool} {x y:Operand} {kd k':IntKind} {a n c:Int} (hx:lv l x=some (.int kd a)) (hy:lv l y=some (.int k' n)) (hn:0≤n) (hc:ishift lft kd a n=c):QY P n0 L l (.sh lft x y) (.int kd c):=by
 intro X w0 E0 w E l' h0 hE hR hl
 obtain ⟨_,g1,rfl⟩:=lv_ev hl hx
 obtain ⟨_,g2,rfl⟩:=lv_ev hl hy
 exact ⟨_,⟨kd,a,k',n,g1,g2,hn,rfl⟩,by rw [hc]; rfl⟩
theorem QY.slc {x:Operand} {lo hi:Option Operand} {size b o n c lo' hi':Nat} (hx:lv l x=some (.slice (some ⟨b,o,none⟩) n c)) (h1:lbound l lo 0=some lo') (h2:lbound l hi n=some hi') (h3:lo'≤hi') (h4:hi'≤c) :
  QY P n0 L l (.slc x lo hi size) (.slice (some ⟨b,o+lo'*size,none⟩) (hi'-lo') (c-lo')):=by
 refine QY.of ?_
 have e1:Nat.ble lo' hi'=true:=Nat.ble_eq_true_of_le h3
 have e2:Nat.ble hi' c=true:=Nat.ble_eq_true_of_le h4
 simp only [lq,hx,h1,h2,e1,e2,Bool.and_self,cond_true,add_none]
def TrK (P:Program) (A:Args) (keep:List Nat) (f:FuncId) (vs:List Value) (L:LH) (R:Value→LH→Prop):Prop :=
 ∀ (X:Nat→Prop) (w0 w:World) (E:Emb) (vs':List Value),(NA.mk L.length A keep).Ok P X w0 E→Rep X w0 E L w→L2 (VR E) vs vs'→callable P f=true∧Does P f vs'.toArray w fun v' w'=>∃ E' v L',(NA.mk L.length A keep).Ext E E'∧L.length≤L'.length∧VR E' v v'∧Rep X w0 E' L' w'∧R v L'
abbrev Tr (P:Program) (f:FuncId) (vs:List Value) (L:LH) (R:Value→LH→Prop):Prop:=TrK P [] (seqN 0 L.length) f vs L R
theorem Tr.mono {A:Args} {keep:List Nat} {f:FuncId} {vs:List Value} {R R':Value→LH→Prop} (h:TrK P A keep f vs L R) (hr:∀ v L',R v L'→R' v L'):TrK P A keep f vs L R' :=
 fun X w0 w E vs' hA hR hv=>⟨(h X w0 w E vs' hA hR hv).1,(h X w0 w E vs' hA hR hv).2.mono fun _ _ ⟨E',v,L',h1,h0,h2,h3,h4⟩=>⟨E',v,L',h1,h0,h2,h3,hr _ _ h4⟩⟩
def RetQ (n0:NA) (res:List RV) (R:Value→LH→Prop) (e:Exit) (l:Env) (L:LH):Prop :=
 (e=.ret∨e=.normal)∧∃ us,lres l L res=some us∧((Nat.ble n0.n L.length=true∧R (lret us) L)∨∃ sel v L1,Nat.ble n0.n sel.length=true∧keepOk sel n0.keep=true∧letGoV sel L (lret us)=some v∧letGo sel L=some L1∧R v L1)
theorem RetQ.pick {res:List RV} {R:Value→LH→Prop} {us:List Value} (sel:List Nat) (h:lres l L res=some us) (h0:keepOk sel n0.keep=true) (h1:letGoV sel L (lret us)=some v) (h2:letGo sel L=some L1) (hr:R v L1) (hn:Nat.ble n0.n sel.length=true:=by rfl):RetQ n0 res R .ret l L:=⟨.inl rfl,us,h,.inr ⟨sel,v,L1,hn,h0,h1,h2,hr⟩⟩
theorem RetQ.end {res:List RV} {R:Value→LH→Prop} {us:List Value} (sel:List Nat) (h:lres l L res=some us) (h0:keepOk sel n0.keep=true) (h1:letGoV sel L (lret us)=some v) (h2:letGo sel L=some L1) (hr:R v L1) (hn:Nat.ble n0.n sel.length=true:=by rfl):RetQ n0 res R .normal l L:=⟨.inr rfl,us,h,.inr ⟨sel,v,L1,hn,h0,h1,h2,hr⟩⟩
theorem letGo_length {sel:List Nat} {L K:LH} (h:letGo sel L=some K):K.length=sel.length:=by
 unfold letGo at h
 split at h <;> first | (cases h; done) | skip
 rename_i t ht
 cases hc:(t.all (okB (invN sel sel.length 0 L.length) sel.length) && ndup sel)
 ·rw [hc] at h; cases h
 rw [hc] at h; cases h
 simp [(pickG_ok ht).1]
theorem Tr.of {A:Args} {keep:List Nat} {x:FnRow} {vs:List Value} {R:Value→LH→Prop} (hx:x.Ok P) (hn:Nat.ble vs.length x.np=true) (h:LWp P ⟨L.length,A,keep⟩ x.m (RetQ ⟨L.length,A,keep⟩ x.res R) (initEnv 0 vs) L):TrK P A keep x.f vs L R:=by
 intro X w0 w E vs' hA hR hvs
 obtain ⟨hcl,fn,hl,hr,hrk,hd⟩:=hx
 refine ⟨hcl,hd _ w _ (by rw [hvs.length]; exact hn) ?_⟩
 refine MWp.mono x.m (fun e l' w' hf=>?_) (h.go X w0 E w E _ hA (NA.Ext.refl _ E) hR (ER.init 0 hvs))
 obtain ⟨E1,l1,L1,k1,k2,k3,he,us,hus,hcase⟩:=hf
 rcases hcase with ⟨hn1,hr1⟩ | ⟨sel,v,L2,hn1,g0,g1,g2,g3⟩
 ·exact lret_ok hl hr hrk k2 k3 he hus fun v' hv'=>⟨E1,_,L1,k1,Nat.le_of_ble_eq_true hn1,hv',k2,hr1⟩
 ·exact lret_ok hl hr hrk k2 k3 he hus fun v' hv'=>⟨subE E1 sel,v,L2,k1.sub g0,by rw [letGo_length g2]; exact Nat.le_of_ble_eq_true hn1,letGoV_ok g1 k2 hv',letGo_ok g2 k2,g3⟩
def handed (φ keep:List Nat) (A A':Args):Prop:=∀ x∈A',inL x.1 keep=true∧∃ k,φ[x.1]?=some k∧(k,x.2)∈A
theorem AV.keep {X X':Nat→Prop} {w0 w:World} (hf:Fr X w0 w) (hX:∀ b,b<w0.heap.size→¬ X b→¬ X' b):∀ (a:AV) (y:Value),a.is X w0 y→a.is X' w y:=by
 intro a
 induction a with
 | v u=>intro y h; exact h
 | s a n c m get ih =>
  rintro y ⟨e,h⟩
  refine ⟨e,fun hm=>?_⟩
  obtain ⟨h2,h3,h4⟩:=h hm
  refine ⟨Nat.lt_of_lt_of_le h2 hf.size,hX _ h2 h3,fun i hi=>?_⟩
  obtain ⟨y,h5,h6⟩:=h4 i hi
  exact ⟨y,by rw [← h5]; simp only [World.cell?,hf.keep _ h2 h3],ih i y h6⟩
theorem handed_ok {P:Program} {n0:NA} {A':Args} {φ keep:List Nat} {X:Nat→Prop} {w0 w:World} {E0 E:Emb} {M Lc:LH} (hd:handed φ keep n0.A A') (hp:Part φ M Lc) (h0:n0.Ok P X w0 E0) (hE:n0.Ext E0 E) (hR:Rep X w0 E M w):(NA.mk Lc.length A' keep).Ok P (footL (subE E φ) Lc) w (subE E φ):=by
 have hX:∀ b,b<w0.heap.size→¬ X b→¬ footL (subE E φ) Lc b:=by
  rintro b hb hx ⟨k,x,r,h7,h8,h9⟩
  rcases ((hp.sub hR).rng k x r h7 h8 b h9).1 with h | h
  ·omega
  ·exact hx h
 refine ⟨by rw [(hp.sub hR).len],fun x hx=>⟨(hd x hx).1,fun hm=>?_⟩,fun g hg=>?_⟩
 ·obtain ⟨_,k,h1,h2⟩:=hd x hx
  obtain ⟨hk0,hA0⟩:=h0.2.1 _ h2
  obtain ⟨r,h3,h4,h5,h6⟩:=hA0 hm
  refine ⟨r,?_,Nat.lt_of_lt_of_le h4 hR.fr.size,hX _ h4 h5,fun i hi=>?_⟩
  ·simp [subE,h1,hE _ _ hk0 h3]
  ·obtain ⟨y,h7,h8⟩:=h6 i hi
   exact ⟨y,by rw [← h7]; simp only [World.cell?,hR.fr.keep _ h4 h5],AV.keep hR.fr hX _ _ h8⟩
 ·obtain ⟨h1,h2,h3⟩:=h0.2.2 g hg
  exact ⟨fun i x hx=>by rw [← h1 i x hx]; simp only [World.cell?,hR.fr.keep _ h3 h2],hX g h3 h2,Nat.lt_of_lt_of_le h3 hR.fr.size⟩
theorem handed_nil {φ keep:List Nat} {A:Args}:handed φ keep A []:=fun x hx=>by cases hx
def Left (fr:List Nat) (E:Emb) (L:LH) (w w':World):Prop:=∀ (k:Nat) (x:LB) (r:Nat × Nat × Nat) (b:Nat),inL k fr=false→L[k]?=some x→E[k]?=some r→foot r x b→w'.heap[b]?=w.heap[b]?
def EWd (P:Program) (n0:NA) (fr dr:List Nat) (L:LH) (l:Env) (e:EOp) (R:Value→LH→Prop):Prop :=
 ∀ (X:Nat→Prop) (w0:World) (E0:Emb) (w:World) (E:Emb) (l':Env) (Kf:Value→World→Prop),n0.Ok P X w0 E0→n0.Ext E0 E→Rep X w0 E L w→ER E l l'→(∀ w' E' v' v L',R v L'→ExtD dr E E'→Left fr E L w w'→Rep X w0 E' L' w'→VR E' v v'→Kf v' w')→e.W P Kf l' w
theorem EWd.mono {fr dr:List Nat} {e:EOp} {R R':Value→LH→Prop} (h:EWd P n0 fr dr L l e R) (hr:∀ v L',R v L'→R' v L'):EWd P n0 fr dr L l e R' :=
 fun X w0 E0 w E l' Kf h0 hE hR hl hK=>h X w0 E0 w E l' Kf h0 hE hR hl fun w' E' v' v L' h1=>hK w' E' v' v L' (hr v L' h1)
def frOk (fr:List Nat) (T:Taken) (L:LH) (k:Nat):Bool:=match tfind T k with
 | some (.ld x,l,_)=>(match lptr l x with
  | some ⟨b,_,none⟩ => !inL b fr && (match L[b]? with
   | some (.cells _ _)=>true
   | _=>false)
  | _=>false)
 | some (.ldn x _,l,_)=>(match lptr l x with
  | some ⟨b,_,none⟩ => !inL b fr && (match L[b]? with
   | some (.cells _ _)=>true
   | _=>false)
  | _=>false)
 | some _=>false
 | none=>true
def chkG (P:Program) (n0:NA) (fr:List Nat) (T:Taken) (L L':LH):List Nat→Prop
 | []=>True
 | k::ks=>(frOk fr T L k=true∨(match tfind T k with
  | some (q,l,v)=>QY P n0 L' l q v∧Sure v
  | none=>True))∧chkG P n0 fr T L L' ks
theorem left_ld {fr:List Nat} {w w':World} {E:Emb} {l l':Env} {x:Operand} {b o:Nat} {sz:Nat} {vs:List Value} (hL:Left fr E L w w') (hl:ER E l l') (hx:lptr l x=some ⟨b,o,none⟩) (hb:inL b fr=false) (hc:L[b]?=some (.cells sz vs)) :
  ∃ p,ev l' x=some (.pointer (some p))∧w'.heap[p.block]?=w.heap[p.block]?:=by
 obtain ⟨p',h1,_,r,h3,rfl⟩:=lptr_ok hl hx
 exact ⟨_,h1,hL b _ r r.1 hb hc h3 rfl⟩
theorem chkG_ok {fr:List Nat} {X:Nat→Prop} {w0 w w':World} {E0 E E':Emb} {L':LH} {F:Facts} (h0:n0.Ok P X w0 E0) (hE':n0.Ext E0 E') (hL:Left fr E L w w') (hR':Rep X w0 E' L' w') (hT:TR P E T F) (hT':TR P E' T F):∀ (ks:List Nat),chkG P n0 fr T L L' ks→pendOk F w w' ks
 | [],_=>trivial
 | k::ks,h=>by
  refine ⟨?_,chkG_ok h0 hE' hL hR' hT hT' ks h.2⟩
  rcases h.1 with h5 | h5
  ·rcases hT.find k with ⟨h1,h2⟩ | ⟨q,l,v,l',v',h1,h2,h3,h4⟩
   ·rw [h2]; trivial
   ·rw [h2]
    intro hF
    unfold frOk at h5
    rw [h1] at h5
    cases q <;> simp only [reduceCtorEq] at h5 <;> first | (cases h5; done) | skip
    case ld x =>
     split at h5 <;> first | (cases h5; done) | skip
     rename_i b o hp
     simp only [Bool.and_eq_true,Bool.not_eq_true'] at h5
     split at h5
     ·rename_i sz vs hb
      obtain ⟨p,g1,g2⟩:=left_ld hL h3 hp h5.1 hb
      obtain ⟨p2,g3,g4⟩:=hF
      rw [g1] at g3; cases g3
      exact ⟨p,g1,by rw [← g4]; simp only [World.cell?,g2]⟩
     ·cases h5.2
    case ldn x n =>
     split at h5 <;> first | (cases h5; done) | skip
     rename_i b o hp
     simp only [Bool.and_eq_true,Bool.not_eq_true'] at h5
     split at h5
     ·rename_i sz vs hb
      obtain ⟨p,g1,g2⟩:=left_ld hL h3 hp h5.1 hb
      obtain ⟨p2,us,g3,g4,g5,g6⟩:=hF
      rw [g1] at g3; cases g3
      have hpb:∀ i,(p.add i).block=p.block:=fun i=>by unfold Addr.add; split <;> rfl
      exact ⟨p,us,g1,g4,fun i hi=>by rw [← g5 i hi]; simp only [World.cell?,hpb,g2],g6⟩
     ·cases h5.2
  ·rcases hT'.find k with ⟨h1,h2⟩ | ⟨q,l,v,l',v',h1,h2,h3,h4⟩
   ·rw [h2]; trivial
   ·rw [h2]
    rw [h1] at h5
    intro _
    obtain ⟨v'',h6,h7⟩:=h5.1 X w0 E0 w' E' l' h0 hE' hR' h3
    rw [h5.2 E' _ _ h4 h7]
    exact h6
def disj (dr:List Nat):List Nat→Bool
 | []=>true
 | k::ks => !inL k dr && disj dr ks
theorem disj_ok {dr:List Nat}:∀ {ks:List Nat} {k:Nat},disj dr ks=true→inL k ks=true→inL k dr=false
 | [],k,_,h=>by cases h
 | a::ks,k,h,hk=>by
  simp only [disj,Bool.and_eq_true,Bool.not_eq_true'] at h
  simp only [inL] at hk
  cases hq:Nat.beq a k
  ·rw [hq] at hk; exact disj_ok h.2 hk
  ·have:=Nat.eq_of_beq_eq_true hq; subst this; exact h.1
theorem S_ed {fr dr:List Nat} {R:Value→LH→Prop} (hg:gw g l=some true) (hw:EWd P n0 fr dr L l eo R) (hd:disj dr n0.keep=true) (hn:nmE dr l=true) (ht:nmT dr T=true) (h:∀ v L',R v L'→chkG P n0 fr T L L' pend∧LSt P n0 r K (dpush d v l) T L'):LSt P n0 (.e d g eo pend::r) K l T L:=by
 refine ⟨fun X w0 E0 w E l' F h0 hE hR hl hT=>?_⟩
 simp only [stepsWp]
 refine gw_ok hl hg (fun _=>?_) (fun e=>by cases e)
 refine hw X w0 E0 w E l' _ h0 hE hR hl fun w' E' v' v L' hr h1 hL h2 h3=>?_
 obtain ⟨hc,hn'⟩:=h v L' hr
 have hE':n0.Ext E0 E':=fun k r hk hr=>h1 k r (disj_ok hd hk) (hE k r hk hr)
 exact ⟨chkG_ok h0 hE' hL h2 hT (hT.extD h1 ht) _ hc,hn'.go X w0 E0 w' E' _ _ h0 hE' h2 ((hl.extD h1 hn).dpush h3 d) (hT.extD h1 ht)⟩
theorem S_Ed (st:List Nat) {fr dr:List Nat} {R:Value→LH→Prop} (h:arun st ss l T L=(.e d g eo pend::r,l1,T1,L1)) (hg:gw g l1=some true) (hw:EWd P n0 fr dr L1 l1 eo R) (hd:disj dr n0.keep=true) (hn:nmE dr l1=true) (ht:nmT dr T1=true) (hk:∀ v L',R v L'→chkG P n0 fr T1 L1 L' pend∧LSt P n0 r K (dpush d v l1) T1 L'):LSt P n0 ss K l T L :=
 arun_ok st ss l T L h (S_ed hg hw hd hn ht hk)
theorem call_core {A:Args} {keep:List Nat} {f:FuncId} {vs' us:List Value} {Lc:LH} {R:Value→LH→Prop} {φ:List Nat} (ht:TrK P A keep f us Lc R) (hp:Part φ L Lc) (hd:handed φ keep n0.A A) (hm:nmL (dropped keep 0 φ) φ 0 L=true)
  {X:Nat→Prop} {w0 w:World} {E0 E:Emb} {Kf:Value→World→Prop} (h0:n0.Ok P X w0 E0) (hE:n0.Ext E0 E) (hR:Rep X w0 E L w) (h3:L2 (VR (subE E φ)) us vs')
  (hK:∀ w' E' v' v L',(∃ v1 L1,R v1 L1∧v=rnV (L.length+L1.length) (phi2 φ L.length L1) v1∧L'=joinL φ L L1)→ExtD (dropped keep 0 φ) E E'→Left φ E L w w'→Rep X w0 E' L' w'→VR E' v v'→Kf v' w'):callable P f=true∧Does P f vs'.toArray w Kf:=by
 have hsub:=(hp.sub hR).base
 have hc:=ht _ _ _ _ _ (handed_ok hd hp h0 hE hR) hsub h3
 refine ⟨hc.1,hc.2.mono ?_⟩
 rintro v' w' ⟨E1,v1,L1,g1,g0,g2,g3,g4⟩
 obtain ⟨E',k1,k2,k3⟩:=Rep.joinW (keep:=keep) hp hR (fun k r hk hr=>g1 k r hk hr) g0 hm g3
 refine hK w' E' v' _ _ ⟨v1,L1,g4,rfl,rfl⟩ k1 (fun k x r b hk hx hr hb=>?_) k3 (g2.into k2)
 refine g3.fr.keep b (hR.rng k x r hx hr b hb).2 ?_
 rintro ⟨k2,x2,r2,e1,e2,e3⟩
 obtain ⟨j,e4,e5⟩:=hp.blk k2 x2 e1
 obtain ⟨rj,e6⟩:=hR.ent e5
 have e7:(subE E φ)[k2]?=some rj:=by simp [subE,e4,e6]
 rw [e2] at e7; cases e7
 have e8:=hR.inj k j x _ r r2 b hx e5 hr e6 hb (by rw [foot_rn]; exact e3)
 subst e8
 have:=inL_mem.2 (List.mem_of_getElem? e4)
 rw [hk] at this; cases this
theorem EWd.call {A:Args} {keep:List Nat} {f:FuncId} {args:List Operand} {vs us:List Value} {Lc:LH} {R:Value→LH→Prop} (φ:List Nat) (ht:TrK P A keep f us Lc R) (hv:lvs l args=some vs) (he:us.map (rnV L.length φ)=vs) (hp:Part φ L Lc) (hd:handed φ keep n0.A A) (hm:nmL (dropped keep 0 φ) φ 0 L=true) :
  EWd P n0 φ (dropped keep 0 φ) L l (.call f args) (fun v K=>∃ v1 L1,R v1 L1∧v=rnV (L.length+L1.length) (phi2 φ L.length L1) v1∧K=joinL φ L L1):=by
 intro X w0 E0 w E l' Kf h0 hE hR hl hK
 obtain ⟨vs',h1,h2⟩:=lvs_evs hl hv
 have h3:L2 (VR (subE E φ)) us vs':=by
  subst he
  rw [← hR.len] at h2
  exact L2.sub (f:=rnV E.length φ) (fun _ _ h=>VR.sub h) h2
 exact ⟨vs',h1,(call_core ht hp hd hm h0 hE hR h3 hK).2⟩
theorem EWd.callv {A:Args} {keep:List Nat} {f:FuncId} {x:Operand} {args:List Operand} {a c vs us:List Value} {Lc:LH} {R:Value→LH→Prop} (φ:List Nat) (ht:TrK P A keep f us Lc R) (hx:lv l x=some (.func (.func f) ⟨a⟩ ⟨c⟩)) (hv:lvs l args=some vs) (he:us.map (rnV L.length φ)=a++vs++c) (hp:Part φ L Lc) (hd:handed φ keep n0.A A) (hm:nmL (dropped keep 0 φ) φ 0 L=true) :
  EWd P n0 φ (dropped keep 0 φ) L l (.callv x args) (fun v K=>∃ v1 L1,R v1 L1∧v=rnV (L.length+L1.length) (phi2 φ L.length L1) v1∧K=joinL φ L L1):=by
 intro X w0 E0 w E l' Kf h0 hE hR hl hK
 obtain ⟨vs',h1,h2⟩:=lvs_evs hl hv
 obtain ⟨_,h4,a',c',rfl,h5,h6⟩:=lv_ev hl hx
 have h3:L2 (VR (subE E φ)) us (a'++vs'++c'):=by
  have:L2 (VR E) (us.map (rnV E.length φ)) (a'++vs'++c'):=by
   rw [hR.len,he]
   exact ((h5.mono fun _ _=>S0.vr).append h2).append (h6.mono fun _ _=>S0.vr)
  exact L2.sub (f:=rnV E.length φ) (fun _ _ h=>VR.sub h) this
 have:=call_core ht hp hd hm h0 hE hR h3 hK
 refine ⟨f,⟨a'⟩,⟨c'⟩,vs',h4,h1,this.1,?_⟩
 have e:(⟨a'⟩:Array Value)++vs'.toArray++⟨c'⟩=(a'++vs'++c').toArray:=by simp
 rw [e]; exact this.2
theorem dropped_seq:∀ (φ:List Nat) (i n:Nat),i+φ.length≤n→dropped (seqN 0 n) i φ=[]
 | [],_,_,_=>rfl
 | k::φ,i,n,h=>by
  simp only [List.length_cons] at h
  have hi:inL i (seqN 0 n)=true:=by
   rw [inL_mem]
   have:=seqN_get n 0 i (by omega)
   rw [Nat.zero_add] at this
   exact List.mem_of_getElem? this
  simp only [dropped,hi,cond_true]
  exact dropped_seq φ (i+1) n (by omega)
theorem nm_nil0 (v:Value):nm0 [] v=true:=by
 cases v <;> first | rfl | skip
 case pointer a=>rcases a with _ | ⟨b,o,_ | s⟩ <;> rfl
 case slice a _ _=>rcases a with _ | ⟨b,o,_ | s⟩ <;> rfl
 case map a=>cases a <;> rfl
theorem nm_nilS (v:Value):nmS [] v=true:=by
 unfold nmS
 split
 ·simp [nm_nil0]
 ·exact nm_nil0 _
theorem nm_nil1 (v:Value):nm1 [] v=true:=by
 unfold nm1
 split
 ·simp [nm_nilS]
 ·exact nm_nilS _
theorem nm_nilB (x:LB):nmB [] x=true:=by
 cases x <;> first | rfl | skip
 case cells sz vs=>simp [nmB,nm_nilS]
 case map m c=>simp [nmB,nm_nil1]
 case iter m a b c=>cases m <;> rfl
theorem nm_nilL (φ:List Nat):∀ (i:Nat) (L:LH),nmL [] φ i L=true
 | _,[]=>rfl
 | i,x::r=>by simp [nmL,nm_nilB,nm_nilL φ]
theorem EW.callA {A:Args} {f:FuncId} {args:List Operand} {vs us:List Value} {Lc:LH} {R:Value→LH→Prop} (φ:List Nat) (ht:TrK P A (seqN 0 Lc.length) f us Lc R) (hv:lvs l args=some vs) (he:us.map (rnV L.length φ)=vs) (hp:Part φ L Lc) (hd:handed φ (seqN 0 Lc.length) n0.A A) :
  EW P n0 L l (.call f args) (fun v K=>∃ v1 L1,R v1 L1∧v=rnV (L.length+L1.length) (phi2 φ L.length L1) v1∧K=joinL φ L L1):=by
 have e:=dropped_seq φ 0 Lc.length (by rw [hp.len]; omega)
 have h:=EWd.call φ ht hv he hp hd (by rw [e]; exact nm_nilL φ 0 L)
 rw [e] at h
 exact fun X w0 E0 w E l' Kf h0 hE hR hl hK=>h X w0 E0 w E l' Kf h0 hE hR hl fun w' E' v' v L' hr hx _=>hK w' E' v' v L' hr fun k r hk=>hx k r rfl hk
end
end Go.Tum
end
section
namespace Go.Tum
open Go
theorem Rep.keep {X:Nat→Prop} {w0 w w':World} {E:Emb} {L:LH} (h:Rep X w0 E L w) (hf:Fr (fun _=>False) w w'):Rep X w0 E L w' :=
 ⟨h.fr.trans hf fun _ _ e=>e.elim,h.len,fun k x r hx hr b hb=>⟨(h.rng k x r hx hr b hb).1,Nat.lt_of_lt_of_le (h.rng k x r hx hr b hb).2 hf.size⟩,
  fun k x r hx hr=>(h.blk k x r hx hr).fr hf (fun b hb=>(h.rng k x r hx hr b hb).2) fun _ _ e=>e,h.inj⟩
theorem L2.vr_still {E:Emb}:∀ {vs vs':List Value},vs.all stillS=true→L2 (VR E) vs vs'→vs'=vs
 | [],[],_,_=>rfl
 | a::r,b::s,h,k=>by
  simp only [List.all_cons,Bool.and_eq_true] at h
  have h1:=SR.still (E:=E) h.1
  rw [SR.eq_still h.1 (k.1.sr h1.one.1),L2.vr_still h.2 k.2]
 | [],_::_,_,k=>k.elim
 | _::_,[],_,k=>k.elim
def stillT:Value→Bool
 | .tuple ⟨vs⟩=>vs.all still
 | v=>still v
theorem still_notTup {v:Value} (h:still v=true):notTup v=true:=by
 cases v <;> first | rfl | cases h
theorem VR.selfT {E:Emb} {v:Value} (h:stillT v=true):VR E v v:=by
 cases v <;> first|exact VR.still h | skip
 case tuple vs =>
  obtain ⟨vs⟩:=vs
  exact ⟨vs,rfl,L2.self fun a ha=>(VR.still (List.all_eq_true.1 h a ha)).v1 (still_notTup (List.all_eq_true.1 h a ha))⟩
end Go.Tum
end
section
namespace Go.Tum
open Go
section
variable {P:Program} {n0:NA} {Q:Exit→Env→LH→Prop} {l:Env} {L:LH}
theorem QY.ldng {x:Operand} {b o n sz:Nat} {vs us:List Value} (hx:lv l x=some (.pointer (some ⟨b,o,none⟩))) (hb:L[b]?=some (.gro sz vs)) (hle:o+n≤vs.length) (hn:0<n) (hv:(vs.drop o).take n=us) (hs:us.all stillS=true):QY P n0 L l (.ldn x n) (.agg ⟨us⟩):=by
 refine QY.of ?_
 have h1:Nat.ble (o+n) vs.length=true:=Nat.ble_eq_true_of_le hle
 have h2:vs.isEmpty=false:=by cases vs with
  | nil=>simp at hle; omega
  | cons=>rfl
 simp only [lq,lptr,hx,lcells,hb,hv,h1,hs,h2,Bool.and_self,Bool.not_false,cond_true]
theorem gro_foot {r:Nat × Nat × Nat} {sz:Nat} {vs:List Value} (h:vs≠[]):foot r (.gro sz vs)=(·=r.1):=by
 cases vs with
 | nil=>exact absurd rfl h
 | cons=>rfl
theorem EW.stg {x y:Operand} {b o sz:Nat} {vs:List Value} {u:Value} (hx:lv l x=some (.pointer (some ⟨b,o,none⟩))) (hy:lv l y=some u) (hb:L[b]?=some (.gro sz vs)) (hu:stillS u=true) (ho:o<vs.length) :
  EW P n0 L l (.st x y) (fun w K=>w=undef∧K=L.set b (.gro sz (vs.set o u))):=by
 intro X w0 E0 w E l' Kf h0 hE hR hl hK
 obtain ⟨_,h1,a',rfl,_,r,hr,rfl⟩:=lv_ev hl hx
 obtain ⟨u',h2,h3⟩:=lv_ev hl hy
 have h1':=SR.still (E:=E) hu
 obtain rfl:u'=u:=SR.eq_still hu (h3.sr h1'.one.1)
 rcases hR.blk b _ r hb hr with ⟨rfl,_⟩ | ⟨hne,hsz,cs,hB,hcs,hroom⟩
 ·simp at ho
 ·have hne2:vs.set o u'≠[]:=by intro e; apply hne; have:=congrArg List.length e; simp at this; exact this
  have hoc:o+r.2.1<cs.length:=by omega
  refine ⟨_,_,h1,h2,h1'.one.1,hB.some hoc,hB.frozen _,hK _ E _ _ _ ⟨rfl,rfl⟩ (Ext.refl E) (hR.upd hb hr ?_ (.inr ⟨hne2,hsz,cs.set (o+r.2.1) u',hB.set _ _,?_,?_⟩) ?_) VR.undef⟩
  ·rw [gro_foot hne]; exact Fr.setCell w ⟨r.1,o+r.2.1,none⟩ u'
  ·rw [List.length_set,List.drop_set,if_neg (by omega),List.take_set,hcs]
   congr 1; omega
  ·simp only [List.length_set]; exact hroom
  ·rw [gro_foot hne,gro_foot hne2]; exact fun _ h=>.inl h
theorem EW.stng {x y:Operand} {b o n sz:Nat} {vs us:List Value} (hx:lv l x=some (.pointer (some ⟨b,o,none⟩))) (hy:lv l y=some (.agg ⟨us⟩)) (hn:us.length=n) (hb:L[b]?=some (.gro sz vs)) (hu:us.all stillS=true) (ho:o+n≤vs.length) (hn0:0<n) :
  EW P n0 L l (.stn x y n) (fun w K=>w=undef∧K=L.set b (.gro sz (splice vs o us))):=by
 intro X w0 E0 w E l' Kf h0 hE hR hl hK
 obtain ⟨_,h1,a',rfl,_,r,hr,rfl⟩:=lv_ev hl hx
 obtain ⟨u',h2,us',rfl,h3⟩:=lv_ev hl hy
 obtain rfl:us'=us:=L2.eq_still hu h3
 rcases hR.blk b _ r hb hr with ⟨rfl,_⟩ | ⟨hne,hsz,cs,hB,hcs,hroom⟩
 ·simp at ho; omega
 ·have hcl:o+r.2.1+us'.length≤cs.length:=by omega
  have hls:(splice vs o us').length=vs.length:=splice_length (by omega)
  have hne2:splice vs o us'≠[]:=by intro e; apply hne; have:=congrArg List.length e; rw [hls] at this; exact List.length_eq_zero_iff.1 (by simpa using this)
  have hpb:=putCells_blk (o:=o+r.2.1) us' 0 w _ hB (by omega)
  refine ⟨_,_,h1,h2,by simpa using hn,fun u hu'=>(SR.still (E:=E) (List.all_eq_true.1 hu u (by simpa using hu'))).one.1,fun i hi=>by rw [add_none]; exact ⟨hB.some (by show o+r.2.1+i<cs.length; omega),hB.frozen _⟩,hK _ E _ _ _ ⟨rfl,rfl⟩ (Ext.refl E) (hR.upd hb hr ?_ (.inr ⟨hne2,hsz,_,hpb,?_,?_⟩) ?_) VR.undef⟩
  ·rw [gro_foot hne]; exact putCells_fr (p:=⟨r.1,o+r.2.1,none⟩) us' 0 w
  ·rw [hls,Nat.add_zero,splice_drop hcl (by omega),show o+r.2.1-r.2.1=o by omega,splice_take (by omega) (by simp; omega),hcs]
  ·rw [hls,Nat.add_zero,splice_length hcl]; exact hroom
  ·rw [gro_foot hne,gro_foot hne2]; exact fun _ h=>.inl h
def appT (P:Program) (sT xT:TypeId):Option (Nat × Nat) :=
 match elemOf P sT with
 | some (_,i,z)=>bif isSl P xT && Nat.beq z.cells.toList.length i.size && z.cells.toList.all one && Nat.blt 0 i.bytes && Nat.blt 0 i.size then some (i.size,i.bytes) else none
 | none=>none
theorem appT_raw {o:Oper} {s x:Operand} {sT xT:TypeId} {sz bytes:Nat} {vs vx:Value} (ho:o.op=.call ⟨.builtin .append,⟨[s,x]⟩,⟨[sT,xT]⟩⟩) (ht:appT P sT xT=some (sz,bytes)) (hs:lv l s=some vs) (hx:lv l x=some vx):rawE2 P L l o=lapp L sz bytes vs vx:=by
 unfold appT at ht
 have h1:rawE2 P L l o=rawE0 P L l o:=by unfold rawE2 rawE1; rw [ho]
 rw [h1]
 unfold rawE0
 rw [ho]
 simp only [hs,hx]
 split at ht
 ·rename_i e i z he
  rw [he]
  simp only
  cases hc:(isSl P xT && Nat.beq z.cells.toList.length i.size && z.cells.toList.all one && Nat.blt 0 i.bytes && Nat.blt 0 i.size)
  ·rw [hc] at ht; cases ht
  ·rw [hc] at ht; cases ht; rfl
 ·cases ht
theorem EW.appg {o:Oper} {s x:Operand} {sT xT:TypeId} {sz bytes b n m cx:Nat} {bx:Option Addr} {vs us:List Value} (ho:o.op=.call ⟨.builtin .append,⟨[s,x]⟩,⟨[sT,xT]⟩⟩) (ht:appT P sT xT=some (sz,bytes)) (hs:lv l s=some (.slice (some ⟨b,0,none⟩) n n)) (hx:lv l x=some (.slice bx m cx))
  (hb:L[b]?=some (.gro sz vs)) (hn:vs.length=n*sz) (hv:vs.all stillS=true) (hsrc:lslc L sz (.slice bx m cx)=some us) (hus:us.all stillS=true) (hbd:(2*(n+m)+2048)*bytes≤281474976710656) :
  EW P n0 L l (.raw o) (fun v K=>v=.slice (some ⟨L.length,0,none⟩) (n+m) (n+m)∧K=L.set b .dead++[.gro sz (vs++us)]):=by
 refine EW.of ?_
 have hc:∃ cells,lslc L sz (.slice (some ⟨b,0,none⟩) n n)=some cells:=by
  cases n with
  | zero=>exact ⟨[],rfl⟩
  | succ n =>
   have h1:Nat.ble (0+(n+1)*sz) vs.length=true:=Nat.ble_eq_true_of_le (by omega)
   by_cases h0:vs=[]
   ·subst h0
    have hz:sz=0:=by
     rcases Nat.eq_zero_or_pos sz with h | h
     ·exact h
     ·have:0<(n+1)*sz:=Nat.mul_pos (by omega) h
      simp at hn; omega
    -- an element has a size
    unfold appT at ht
    split at ht
    ·rename_i e i z he
     cases hc:(isSl P xT && Nat.beq z.cells.toList.length i.size && z.cells.toList.all one && Nat.blt 0 i.bytes && Nat.blt 0 i.size)
     ·rw [hc] at ht; cases ht
     ·rw [hc] at ht; cases ht
      simp only [Bool.and_eq_true] at hc
      have:0<i.size:=Nat.le_of_ble_eq_true hc.2
      omega
    ·cases ht
   ·have h2:vs.isEmpty=false:=by cases vs with
     | nil=>exact absurd rfl h0
     | cons=>rfl
    have h3:((vs.drop 0).take ((n+1)*sz)).all stillS=true:=List.all_eq_true.2 fun a ha=>List.all_eq_true.1 hv a (List.mem_of_mem_drop (List.mem_of_mem_take ha))
    exact ⟨(vs.drop 0).take ((n+1)*sz),by simp only [lslc,lcells,hb,h1,h2,h3,Bool.and_self,Bool.not_false,cond_true]⟩
 obtain ⟨cells,hc⟩:=hc
 have e1:Nat.ble ((2*(n+m)+2048)*bytes) 281474976710656=true:=Nat.ble_eq_true_of_le hbd
 have e2:Nat.beq vs.length (n*sz)=true:=by rw [hn]; exact Nat.beq_refl _
 show rawE2 P L l o=_
 rw [appT_raw ho ht hs hx]
 unfold lapp
 simp only [hc,hsrc,e1,hb,Nat.beq_refl,e2,hv,hus,Bool.and_self,cond_true]
theorem LWp.wk {m:MC} {L':LH} (hw:∀ X w0 E w,Rep X w0 E L w→Rep X w0 E L' w) (h:LWp P n0 m Q l L'):LWp P n0 m Q l L :=
 ⟨fun X w0 E0 w E l' h0 hE hR hl=>h.go X w0 E0 w E l' h0 hE (hw _ _ _ _ hR) hl⟩
def mkT (P:Program) (sT:TypeId):Option (Nat × Nat × List Value) :=
 match elemOf P sT with
 | some (_,i,z)=>bif Nat.beq z.cells.toList.length i.size && Nat.blt 0 i.size && z.cells.toList.all stillS then some (i.size,i.bytes,z.cells.toList) else none
 | none=>none
theorem EW.mk {o:Oper} {n c:Operand} {sT:TypeId} {sz bytes k:Nat} {zs:List Value} (ho:o.op=.makeSlice sT n c) (ht:mkT P sT=some (sz,bytes,zs)) (hn:lv l n=some (.int .i64 k)) (hc:lv l c=some (.int .i64 k)) (hk:bytes*k≤140737488355328) (hk2:k≤9223372036854775807) :
  EW P n0 L l (.raw o) (fun v K=>v=.slice (some ⟨L.length,0,none⟩) k k∧K=L++[.gro sz (repC k zs)]):=by
 intro X w0 E0 w E l' Kf h0 hE hR hl hK
 unfold mkT at ht
 split at ht
 rotate_left
 ·cases ht
 rename_i e i z he
 cases hq:(Nat.beq z.cells.toList.length i.size && Nat.blt 0 i.size && z.cells.toList.all stillS)
 ·rw [hq] at ht; cases ht
 rw [hq] at ht; cases ht
 simp only [Bool.and_eq_true] at hq
 obtain ⟨hu,hi,hz⟩:=elemOf_ok he
 obtain ⟨_,h1,rfl⟩:=lv_ev hl hn
 obtain ⟨_,h3,rfl⟩:=lv_ev hl hc
 obtain ⟨d,op,ty,pos,af,g⟩:=o
 simp only at ho
 subst ho
 have hzl:=Nat.eq_of_beq_eq_true hq.1.1
 have hsz:0<i.size:=Nat.le_of_ble_eq_true hq.1.2
 refine makeSlice_any (ty:=ty) hu hi hz (by simpa using hzl) hsz (Nat.le_refl _) hk hk2 h1 h3
  (hK _ (E++[(w.heap.size,0,0)]) _ _ _ ⟨rfl,rfl⟩ (Ext.push E _) (hR.push1 (Fr.alloc _ w _) rfl (alloc_size _ _) (fun b hb=>?_) ?_) ⟨rfl,_,hR.last _,.inl ⟨_,_,rfl,.inl ⟨by simp,by simp⟩⟩⟩)
 ·cases hrc:repC k z.cells.toList with
  | nil=>rw [hrc] at hb; exact hb.elim
  | cons=>rw [hrc] at hb; exact hb
 ·by_cases h0:repC k z.cells.toList=[]
  ·rw [h0]; exact .inl ⟨rfl,rfl⟩
  ·exact .inr ⟨h0,hsz,_,Blk.new w _ _,by simp,by simp⟩
def partL (M:LH) (Φ:List Nat):List Nat→LH→Prop
 | [],[]=>True
 | j::φ,x::L=>M[j]?=some (rnB M.length Φ x)∧partL M Φ φ L
 | _,_=>False
theorem partL_get {M:LH} {Φ:List Nat}:∀ {φ:List Nat} {L:LH},partL M Φ φ L→φ.length=L.length∧∀ (k:Nat) (x:LB),L[k]?=some x→∃ j,φ[k]?=some j∧M[j]?=some (rnB M.length Φ x)
 | [],[],_=>⟨rfl,fun k x h=>by simp at h⟩
 | j::φ,y::L,h=>by
  obtain ⟨h1,h2⟩:=h
  obtain ⟨h3,h4⟩:=partL_get h2
  refine ⟨by simp [h3],fun k x hk=>?_⟩
  cases k with
  | zero=>simp at hk; subst hk; exact ⟨j,rfl,h1⟩
  | succ k=>simp only [List.getElem?_cons_succ] at hk ⊢; exact h4 k x hk
 | [],_::_,h=>h.elim
 | _::_,[],h=>h.elim
theorem Part.of {φ:List Nat} {M L:LH} (hn:φ.Nodup) (h:partL M φ φ L):Part φ M L:=⟨(partL_get h).1,hn,(partL_get h).2⟩
theorem EW.callF {f:FuncId} {args:List Operand} {vs us:List Value} {Lc L1 K2:LH} {v1 v2:Value} (φ:List Nat) (ht:Tr P f us Lc (fun v K=>v=v1∧K=L1)) (hv:lvs l args=some vs) (he:us.map (rnV L.length φ)=vs) (hn:φ.Nodup) (hp:partL L φ φ Lc)
  (h2:rnV (L.length+L1.length) (phi2 φ L.length L1) v1=v2) (hK:joinL φ L L1=K2):EW P n0 L l (.call f args) (fun v K=>v=v2∧K=K2) :=
 (EW.callA φ ht hv he (Part.of hn hp) handed_nil).mono fun v K ⟨v',L',⟨h3,h4⟩,h5,h6⟩=>by subst h3; subst h4; exact ⟨h5.trans h2,h6.trans hK⟩
end
end Go.Tum
end
section
namespace Go.Tum
open Go
section
variable {P:Program} {n0:NA} {Q:Exit→Env→LH→Prop} {l:Env} {L:LH} {K:Env→LH→Prop}
def rowG (sz:Nat) (f:Nat→List Value):Nat→AV:=fun i=>.v ((f (i / sz)).getD (i % sz) undef)
theorem L_cut {a b:MC} (K:Env→LH→Prop) (ha:LWp P n0 a (thenL (Nx n0 K) Q) l L) (hb:∀ l L,K l L→LWp P n0 b Q l L):LWp P n0 (.seq a b) Q l L:=by
 refine L_seq (ha.mono fun e l L h=>?_)
 cases e with
 | normal=>exact Nx.mono h hb
 | ret=>exact h
 | exit i=>exact h
 | goto i=>exact h
 | panic c=>exact h
 | outgrown=>exact h
end
end Go.Tum
end
section
namespace Go.Tum
open Go
section
variable {α:Type} {g:α→List Value} {sz:Nat}
def rowsC (g:α→List Value):List α→List Value
 | []=>[]
 | x::r=>g x++rowsC g r
structure RowOk (g:α→List Value) (sz:Nat):Prop where
 len:∀ x,(g x).length=sz
 still:∀ x,(g x).all stillS=true
theorem rowsC_length (h:RowOk g sz):∀ l,(rowsC g l).length=l.length*sz
 | []=>by simp [rowsC]
 | x::r=>by simp only [rowsC,List.length_append,h.len,rowsC_length h r,List.length_cons,Nat.add_mul]; omega
theorem rowsC_still (h:RowOk g sz):∀ l,(rowsC g l).all stillS=true
 | []=>rfl
 | x::r=>by simp only [rowsC,List.all_append,h.still,rowsC_still h r,Bool.and_self]
theorem rowsC_append:∀ a b,rowsC g (a++b)=rowsC g a++rowsC g b
 | [],b=>rfl
 | x::r,b=>by simp only [List.cons_append,rowsC,rowsC_append r b,List.append_assoc]
theorem rowsC_one (x:α):rowsC g [x]=g x:=by simp [rowsC]
theorem rowsC_drop (h:RowOk g sz):∀ (l:List α) (k:Nat),(rowsC g l).drop (k*sz)=rowsC g (l.drop k)
 | l,0=>by simp
 | [],k+1=>by simp [rowsC]
 | x::r,k+1=>by
  have e:(k+1)*sz=(g x).length+k*sz:=by rw [h.len,Nat.add_mul]; omega
  rw [rowsC,e,List.drop_append,List.drop_of_length_le (by omega),Nat.add_sub_cancel_left,List.nil_append,List.drop_succ_cons,rowsC_drop h r k]
theorem rowsC_take (h:RowOk g sz):∀ (l:List α) (k:Nat),(rowsC g l).take (k*sz)=rowsC g (l.take k)
 | l,0=>by simp [rowsC]
 | [],k+1=>by simp [rowsC]
 | x::r,k+1=>by
  have e:(k+1)*sz=(g x).length+k*sz:=by rw [h.len,Nat.add_mul]; omega
  rw [rowsC,e,List.take_append,List.take_of_length_le (by omega),Nat.add_sub_cancel_left,List.take_succ_cons,rowsC,rowsC_take h r k]
theorem rowsC_get (h:RowOk g sz) {l:List α} {k:Nat} {x:α} (hx:l[k]?=some x):((rowsC g l).drop (k*sz)).take sz=g x:=by
 have hk:=(List.getElem?_eq_some_iff.1 hx).1
 have e:l[k]=x:=by rw [List.getElem?_eq_getElem hk] at hx; exact Option.some.inj hx
 rw [rowsC_drop h,List.drop_eq_getElem_cons hk,rowsC,e,← h.len x,List.take_left]
theorem rowsC_cell (h:RowOk g sz) {l:List α} {k j:Nat} {x:α} (hx:l[k]?=some x) (hj:j<sz):(rowsC g l)[k*sz+j]?=(g x)[j]?:=by
 have:=congrArg (fun l=>l[j]?) (rowsC_get h hx)
 simpa [hj] using this
theorem rowsC_set (h:RowOk g sz) {l:List α} {k:Nat} (x:α) (hk:k<l.length):splice (rowsC g l) (k*sz) (g x)=rowsC g (l.set k x):=by
 have e:k*sz+(g x).length=(k+1)*sz:=by rw [h.len,Nat.add_mul]; omega
 rw [splice,e,rowsC_take h,rowsC_drop h]
 have e2:l.set k x=l.take k++x::l.drop (k+1):=List.set_eq_take_append_cons_drop .. |>.trans (by rw [if_pos hk])
 rw [e2,rowsC_append]
 simp [rowsC]
theorem rowsC_setF (h:RowOk g sz) {l:List α} {k j:Nat} {x y:α} {u:Value} (hx:l[k]?=some x) (hj:j<sz) (hy:g y=(g x).set j u):(rowsC g l).set (k*sz+j) u=rowsC g (l.set k y):=by
 have hk:=(List.getElem?_eq_some_iff.1 hx).1
 rw [← rowsC_set h y hk,hy]
 have e:=rowsC_get h hx
 have hlen:(rowsC g l).length=l.length*sz:=rowsC_length h l
 have hle:(k+1)*sz≤l.length*sz:=Nat.mul_le_mul_right _ hk
 rw [Nat.add_mul,Nat.one_mul] at hle
 apply List.ext_getElem?
 intro i
 rw [List.getElem?_set,splice,List.length_set,h.len]
 by_cases h1:i<k*sz
 ·rw [if_neg (by omega),List.append_assoc,List.getElem?_append_left (by simp; omega),List.getElem?_take,if_pos h1]
 ·by_cases h2:i<k*sz+sz
  ·rw [List.append_assoc,List.getElem?_append_right (by simp; omega),List.getElem?_append_left (by simp [h.len]; omega),List.getElem?_set]
   simp only [List.length_take,hlen,h.len]
   rw [Nat.min_eq_left (by omega)]
   by_cases h3:k*sz+j=i
   ·rw [if_pos h3,if_pos (by omega),if_pos (by omega),if_pos (by omega)]
   ·rw [if_neg h3,if_neg (by omega)]
    have:=rowsC_cell h hx (j:=i-k*sz) (by omega)
    rw [← this]; congr 1; omega
  ·rw [if_neg (by omega),List.getElem?_append_right (by simp [h.len]; omega)]
   simp only [List.length_append,List.length_take,List.length_set,hlen,h.len,List.getElem?_drop]
   rw [Nat.min_eq_left (by omega)]
   congr 1; omega
end
def intC (x:Int):List Value:=[.int .i64 x]
theorem intC_ok:RowOk intC 1:=⟨fun _=>rfl,fun _=>rfl⟩
theorem repC_rows {α:Type} {g:α→List Value} (x:α):∀ n,repC n (g x)=rowsC g (List.replicate n x)
 | 0=>rfl
 | n+1=>by simp only [repC,List.replicate_succ,rowsC,repC_rows x n]
section
variable {P:Program} {n0:NA} {Q:Exit→Env→LH→Prop} {l:Env} {L:LH} {K:Env→LH→Prop}
variable {α:Type} {g:α→List Value} {sz:Nat}
theorem QY.idxN {x i:Operand} {b n c k:Nat} {kd:IntKind} (hx:lv l x=some (.slice (some ⟨b,0,none⟩) n c)) (hi:lv l i=some (.int kd (k:Int))) (h1:k<n):QY P n0 L l (.idx x i sz) (.pointer (some ⟨b,k*sz,none⟩)):=by
 have:=QY.idx (P:=P) (n0:=n0) (L:=L) (size:=sz) hx hi (by omega) (by omega)
 simpa using this
theorem QY.ldRow {x:Operand} {b k:Nat} {xs:List α} {a:α} (h:RowOk g sz) (hx:lv l x=some (.pointer (some ⟨b,k*sz,none⟩))) (hb:L[b]?=some (.gro sz (rowsC g xs))) (hk:xs[k]?=some a) (hz:0<sz):QY P n0 L l (.ldn x sz) (.agg ⟨g a⟩):=by
 have hlt:=(List.getElem?_eq_some_iff.1 hk).1
 have hle:(k+1)*sz≤xs.length*sz:=Nat.mul_le_mul_right _ hlt
 rw [Nat.add_mul,Nat.one_mul] at hle
 exact QY.ldng hx hb (by rw [rowsC_length h]; omega) hz (rowsC_get h hk) (h.still a)
theorem QY.ldF {x:Operand} {b k j:Nat} {xs:List α} {a:α} {u:Value} (h:RowOk g sz) (hx:lv l x=some (.pointer (some ⟨b,k*sz+j,none⟩))) (hb:L[b]?=some (.gro sz (rowsC g xs))) (hk:xs[k]?=some a) (hu:(g a)[j]?=some u) (hs:stillS u=true):QY P n0 L l (.ld x) u:=by
 have hj:j<sz:=by rw [← h.len a]; exact (List.getElem?_eq_some_iff.1 hu).1
 exact QY.ldg hx hb (by rw [rowsC_cell h hk hj]; exact hu) hs
theorem EW.stRow {x y:Operand} {b k:Nat} {xs:List α} {a:α} (h:RowOk g sz) (hx:lv l x=some (.pointer (some ⟨b,k*sz,none⟩))) (hy:lv l y=some (.agg ⟨g a⟩)) (hb:L[b]?=some (.gro sz (rowsC g xs))) (hk:k<xs.length) (hz:0<sz) :
  EW P n0 L l (.stn x y sz) (fun w K=>w=undef∧K=L.set b (.gro sz (rowsC g (xs.set k a)))):=by
 have hle:(k+1)*sz≤xs.length*sz:=Nat.mul_le_mul_right _ hk
 rw [Nat.add_mul,Nat.one_mul] at hle
 have:=EW.stng (P:=P) (n0:=n0) hx hy (h.len a) hb (h.still a) (by rw [rowsC_length h]; omega) hz
 rwa [rowsC_set h a hk] at this
theorem EW.stF {x y:Operand} {b k j:Nat} {xs:List α} {a a':α} {u:Value} (h:RowOk g sz) (hx:lv l x=some (.pointer (some ⟨b,k*sz+j,none⟩))) (hy:lv l y=some u) (hb:L[b]?=some (.gro sz (rowsC g xs))) (hk:xs[k]?=some a) (hj:j<sz) (hu:stillS u=true) (ha:g a'=(g a).set j u) :
  EW P n0 L l (.st x y) (fun w K=>w=undef∧K=L.set b (.gro sz (rowsC g (xs.set k a')))):=by
 have hlt:=(List.getElem?_eq_some_iff.1 hk).1
 have hle:(k+1)*sz≤xs.length*sz:=Nat.mul_le_mul_right _ hlt
 rw [Nat.add_mul,Nat.one_mul] at hle
 have:=EW.stg (P:=P) (n0:=n0) hx hy hb hu (by rw [rowsC_length h]; omega)
 rwa [rowsC_setF h hk hj ha] at this
theorem bD {p:Prop} [Decidable p]:decide p=true↔p:=decide_eq_true_iff
theorem bN {a b:Int}:(a != b)=true↔a≠b:=bne_iff_ne
theorem bNot {b:Bool} {p:Prop} (h:b=true↔p):(!b)=true↔¬ p:=by rw [← h]; cases b <;> simp
theorem L_ifp {c:Operand} {x y:MC} {t:Bool} {p:Prop} (hc:lv l c=some (.bool t)) (hp:t=true↔p) (ht:p→LWp P n0 x Q (knows c true l) L) (hf:¬ p→LWp P n0 y Q (knows c false l) L):LWp P n0 (.cond c x y) Q l L :=
 L_if hc (fun e=>ht (hp.1 e)) (fun e=>hf fun h=>by rw [hp.2 h] at e; cases e)
theorem S_splitp (s:Nat) {b:Bool} {p:Prop} {ss ss1:List Step} {l1:Env} {T T1:Taken} {L1:LH} (h0:arun [s] ss l T L=(ss1,l1,T1,L1)) (hh:headGuard ss1=some s) (hb:eget l1 s=some (.bool b)) (hp:b=true↔p)
  (ht:p→LSt P n0 ss1 K ((s,.bool true)::l1) T1 L1) (hf:¬ p→LSt P n0 ss1 K ((s,.bool false)::l1) T1 L1):LSt P n0 ss K l T L :=
 S_split s h0 hh hb (fun e=>ht (hp.1 e)) (fun e=>hf fun h=>by rw [hp.2 h] at e; cases e)
def boolT (P:Program) (t:TypeId):Bool:=match P.underlying t with
 | some .bool => !P.eqGuardType P.depth t
 | _=>false
theorem leqv_bool {t:TypeId} {a b:Bool} (h:boolT P t=true):leqv P 20 t (.bool a) (.bool b)=some (a == b)∧P.eqGuardType P.depth t=false:=by
 unfold boolT at h
 split at h
 ·rename_i hu
  simp only [Bool.not_eq_true'] at h
  exact ⟨by simp only [leqv,hu],h⟩
 ·cases h
theorem QY.eqlB {o:Oper} {t ty:TypeId} {x y:Operand} {a b:Bool} (ho:o.op=.binOp .eql t x y ty) (ht:boolT P t=true) (hx:lv l x=some (.bool a)) (hy:lv l y=some (.bool b)):QY P n0 L l (.raw o) (.bool (a == b)):=by
 refine QY.of ?_
 obtain ⟨h1,h2⟩:=leqv_bool (a:=a) (b:=b) ht
 show rawQ1 P L l o=_
 unfold rawQ1
 rw [ho]
 show rawQ0 P L l o=_
 unfold rawQ0
 rw [ho]
 simp only [hx,hy,noInt,h1,h2,Bool.not_false,Bool.and_self,cond_true]
def leqs (P:Program) (xs ys:List Value):List Field→Option (List Bool)
 | []=>some []
 | f::fs=>bif decide (f.name = "_") then none else match P.underlying f.type,xs[f.offset]?,ys[f.offset]? with
  | some .bool,some (.bool a),some (.bool b)=>match leqs P xs ys fs with
   | some r=>some ((a == b)::r)
   | none=>none
  | some (.int _),some (.int k a),some (.int k' b)=>bif ikEq k k' then (match leqs P xs ys fs with
   | some r=>some ((a == b)::r)
   | none=>none) else none
  | _,_,_=>none
theorem leqs_ok {xs ys:List Value}:∀ {fs:List Field} {bs:List Bool},leqs P xs ys fs=some bs→leqf P (leqv P 19) xs ys fs=some (bs.all id)
 | [],bs,h=>by cases h; rfl
 | f::fs,bs,h=>by
  simp only [leqs] at h
  simp only [leqf]
  cases hn:decide (f.name = "_")
  rotate_left
  ·rw [hn] at h; cases h
  rw [hn] at h
  simp only [cond_false] at h ⊢
  have key:∀ (a b:Value) (r:Bool) (bs':List Bool),xs[f.offset]?=some a→ys[f.offset]?=some b→scalarT P f.type=true→leqv P 19 f.type a b=some r→leqs P xs ys fs=some bs' →
    (match lpart P f.type xs f.offset,lpart P f.type ys f.offset with
     | some a,some b=>match leqv P 19 f.type a b with
      | some true=>leqf P (leqv P 19) xs ys fs
      | some false=>some false
      | none=>none
     | _,_=>none)=some ((r::bs').all id):=by
   intro a b r bs' h1 h2 h3 h4 h5
   simp only [lpart,h3,cond_true,h1,h2,h4]
   cases r
   ·rfl
   ·rw [leqs_ok h5]; rfl
  split at h <;> first | (cases h; done) | skip
  ·rename_i a b hu hx hy
   split at h <;> cases h
   rename_i r hr
   exact key _ _ _ _ hx hy (by simp [scalarT,hu]) (by simp only [leqv,hu]) hr
  ·rename_i k k' a k'' b hu hx hy
   cases hk:ikEq k' k''
   ·rw [hk] at h; cases h
   rw [hk] at h
   simp only [cond_true] at h
   split at h <;> cases h
   rename_i r hr
   exact key _ _ _ _ hx hy (by simp [scalarT,hu]) (by simp only [leqv,hu,hk,cond_true]) hr
def structT (P:Program) (t:TypeId) (xs ys:List Value):Option (List Bool):=match P.underlying t with
 | some (.struct fs)=>bif !P.stoodInHeld t && !P.eqGuardType P.depth t then leqs P xs ys fs.toList else none
 | _=>none
theorem structT_ok {t:TypeId} {xs ys:List Value} {bs:List Bool} (h:structT P t xs ys=some bs):leqv P 20 t (.agg ⟨xs⟩) (.agg ⟨ys⟩)=some (bs.all id)∧P.eqGuardType P.depth t=false:=by
 unfold structT at h
 split at h
 ·rename_i fs hu
  cases hc:(!P.stoodInHeld t && !P.eqGuardType P.depth t)
  ·rw [hc] at h; cases h
  rw [hc] at h
  simp only [Bool.and_eq_true,Bool.not_eq_true'] at hc
  exact ⟨by simp only [leqv,hu,hc.1,cond_false]; exact leqs_ok h,hc.2⟩
 ·cases h
theorem QY.eqlS {o:Oper} {t ty:TypeId} {x y:Operand} {xs ys:List Value} {bs:List Bool} (ho:o.op=.binOp .eql t x y ty) (hx:lv l x=some (.agg ⟨xs⟩)) (hy:lv l y=some (.agg ⟨ys⟩)) (ht:structT P t xs ys=some bs):QY P n0 L l (.raw o) (.bool (bs.all id)):=by
 refine QY.of ?_
 obtain ⟨h1,h2⟩:=structT_ok ht
 show rawQ1 P L l o=_
 unfold rawQ1
 rw [ho]
 show rawQ0 P L l o=_
 unfold rawQ0
 rw [ho]
 simp only [hx,hy,noInt,h1,h2,Bool.not_false,Bool.and_self,cond_true]
theorem EW.appR1 {o:Oper} {s x:Operand} {sT xT:TypeId} {bytes b n bx:Nat} {xs:List α} {a:α} (h:RowOk g sz) (ho:o.op=.call ⟨.builtin .append,⟨[s,x]⟩,⟨[sT,xT]⟩⟩) (ht:appT P sT xT=some (sz,bytes)) (hs:lv l s=some (.slice (some ⟨b,0,none⟩) n n)) (hx:lv l x=some (.slice (some ⟨bx,0,none⟩) 1 1))
  (hb:L[b]?=some (.gro sz (rowsC g xs))) (hbx:L[bx]?=some (.cells 0 (g a))) (hn:xs.length=n) (hbd:(2*(n+1)+2048)*bytes≤281474976710656) :
  EW P n0 L l (.raw o) (fun v K=>v=.slice (some ⟨L.length,0,none⟩) (n+1) (n+1)∧K=L.set b .dead++[.gro sz (rowsC g (xs++[a]))]):=by
 rw [rowsC_append,rowsC_one]
 refine EW.appg ho ht hs hx hb (by rw [rowsC_length h,hn]) (rowsC_still h xs) ?_ (h.still a) hbd
 have h1:Nat.ble (0+(0+1)*sz) (g a).length=true:=Nat.ble_eq_true_of_le (by rw [h.len]; omega)
 have h3:((g a).drop 0).take ((0+1)*sz)=g a:=by rw [List.drop_zero,List.take_of_length_le]; rw [h.len]; omega
 simp only [lslc,lcells,hbx,h1,h3,cond_true]
theorem Nx.goL {b:MC} (h:LWp P n0 b Q l L):Nx n0 (LWp P n0 b Q) l L:=Nx.go h
theorem seqN_keep:∀ (ks:List Nat) (n:Nat),(ks.all fun k=>Nat.blt k n)=true→keepOk (seqN 0 n) ks=true
 | [],_,_=>rfl
 | k::ks,n,h=>by
  simp only [List.all_cons,Bool.and_eq_true] at h
  have hk:k<n:=Nat.le_of_ble_eq_true h.1
  simp only [keepOk,seqN_get n 0 k hk,Nat.zero_add,Nat.beq_refl,seqN_keep ks n h.2,Bool.and_self]
theorem RetQ.keep {res:List RV} {R:Value→LH→Prop} {us:List Value} {v:Value} {L1:LH} (h:lres l L res=some us) (h0:(n0.keep.all fun k=>Nat.blt k n0.n)=true) (h1:letGoV (seqN 0 n0.n) L (lret us)=some v) (h2:letGo (seqN 0 n0.n) L=some L1) (hr:R v L1):RetQ n0 res R .ret l L :=
 RetQ.pick (seqN 0 n0.n) h (seqN_keep _ _ h0) h1 h2 hr (by rw [seqN_length]; exact Nat.ble_eq_true_of_le (Nat.le_refl _))
theorem RetQ.keepN {res:List RV} {R:Value→LH→Prop} {us:List Value} {v:Value} {L1:LH} (h:lres l L res=some us) (h0:(n0.keep.all fun k=>Nat.blt k n0.n)=true) (h1:letGoV (seqN 0 n0.n) L (lret us)=some v) (h2:letGo (seqN 0 n0.n) L=some L1) (hr:R v L1):RetQ n0 res R .normal l L :=
 RetQ.end (seqN 0 n0.n) h (seqN_keep _ _ h0) h1 h2 hr (by rw [seqN_length]; exact Nat.ble_eq_true_of_le (Nat.le_refl _))
theorem EWd.callF {keep:List Nat} {f:FuncId} {args:List Operand} {vs us:List Value} {Lc L1 K2:LH} {v1 v2:Value} (φ:List Nat) (ht:TrK P [] keep f us Lc (fun v K=>v=v1∧K=L1)) (hv:lvs l args=some vs) (he:us.map (rnV L.length φ)=vs) (hn:φ.Nodup) (hp:partL L φ φ Lc) (hm:nmL (dropped keep 0 φ) φ 0 L=true)
  (h2:rnV (L.length+L1.length) (phi2 φ L.length L1) v1=v2) (hK:joinL φ L L1=K2):EWd P n0 φ (dropped keep 0 φ) L l (.call f args) (fun v K=>v=v2∧K=K2) :=
 (EWd.call φ ht hv he (Part.of hn hp) handed_nil hm).mono fun v K ⟨v',L',⟨h3,h4⟩,h5,h6⟩=>by subst h3; subst h4; exact ⟨h5.trans h2,h6.trans hK⟩
end
def fNp {β:Sort _}:Nat→(Nat→β)→β
 | 0,k=>k 0
 | n+1,k=>k (n+1)
theorem fNp_eq {β:Sort _} (n:Nat) (k:Nat→β):fNp n k=k n:=by cases n <;> rfl
theorem rn0_still {v:Value} {N:Nat} {φ:List Nat} (h:stillS v=true):rn0 N φ v=v:=by
 cases v <;> first | rfl | skip
 case pointer a=>cases a <;> first | rfl | cases h
 case slice a _ _=>cases a <;> first | rfl | cases h
 case map a=>cases a <;> first | rfl | cases h
theorem rnS_still {v:Value} {N:Nat} {φ:List Nat} (h:stillS v=true):rnS N φ v=v:=by
 unfold rnS
 split
 ·rename_i f a c
  simp only [stillS,Bool.and_eq_true] at h
  have h1:a=[]:=by cases a with
   | nil=>rfl
   | cons=>cases h.1
  have h2:c=[]:=by cases c with
   | nil=>rfl
   | cons=>cases h.2
  subst h1; subst h2; rfl
 ·exact rn0_still h
theorem rn1_still {v:Value} {N:Nat} {φ:List Nat} (h:still v=true):rn1 N φ v=v:=by
 unfold rn1
 split
 ·rename_i cs
  have h:cs.all stillS=true:=h
  congr 2
  exact List.map_congr_left (g:=id) (fun a ha=>rnS_still (List.all_eq_true.1 h a ha)) |>.trans (by simp)
 ·rename_i hn
  have:stillS v=true:=by
   unfold still at h
   split at h
   ·rename_i cs; exact absurd rfl (hn cs)
   ·exact h
  exact rnS_still this
theorem rnV_still {v:Value} {N:Nat} {φ:List Nat} (h:stillT v=true):rnV N φ v=v:=by
 unfold rnV
 split
 ·rename_i vs
  have h:vs.all still=true:=h
  congr 2
  exact List.map_congr_left (g:=id) (fun a ha=>rn1_still (List.all_eq_true.1 h a ha)) |>.trans (by simp)
 ·rename_i hn
  have:still v=true:=by
   unfold stillT at h
   split at h
   ·rename_i cs; exact absurd rfl (hn cs)
   ·exact h
  exact rn1_still this
section
variable {φ:List Nat} {n N N':Nat}
theorem rn_same {b:Nat} (hφ:φ.length=n) (h:okN (seqN 0 n) n b=true):rn N φ b=rn N' φ b:=by
 have hb:b<n:=by
  unfold okN at h
  split at h
  ·rename_i k hk
   have:=(List.getElem?_eq_some_iff.1 hk).1
   rwa [seqN_length] at this
  ·cases h
 unfold rn
 rw [List.getElem?_eq_getElem (by omega)]
 rfl
theorem rn0_same {v:Value} (hφ:φ.length=n) (h:ok0 (seqN 0 n) n v=true):rn0 N φ v=rn0 N' φ v:=by
 cases v <;> first | rfl | skip
 case pointer a=>rcases a with _ | ⟨b,o,_ | s⟩ <;> first | rfl | (simp only [rn0,rnA,rn_same (N:=N) (N':=N') hφ h])
 case slice a _ _=>rcases a with _ | ⟨b,o,_ | s⟩ <;> first | rfl | (simp only [rn0,rnA,rn_same (N:=N) (N':=N') hφ h])
 case map a=>cases a <;> first | rfl | (simp only [rn0,rn_same (N:=N) (N':=N') hφ h])
theorem rnS_same {v:Value} (hφ:φ.length=n) (h:okS (seqN 0 n) n v=true):rnS N φ v=rnS N' φ v:=by
 unfold rnS
 split
 ·rename_i f a c
  simp only [okS,Bool.and_eq_true] at h
  congr 2
  ·exact List.map_congr_left fun x hx=>rn0_same hφ (List.all_eq_true.1 h.1 x hx)
  ·exact List.map_congr_left fun x hx=>rn0_same hφ (List.all_eq_true.1 h.2 x hx)
 ·rename_i hn
  refine rn0_same hφ ?_
  unfold okS at h
  split at h
  ·rename_i f a c; exact absurd rfl (hn f a c)
  ·exact h
theorem rn1_same {v:Value} (hφ:φ.length=n) (h:ok1 (seqN 0 n) n v=true):rn1 N φ v=rn1 N' φ v:=by
 unfold rn1
 split
 ·rename_i cs
  congr 2
  exact List.map_congr_left fun x hx=>rnS_same hφ (List.all_eq_true.1 h x hx)
 ·rename_i hn
  refine rnS_same hφ ?_
  unfold ok1 at h
  split at h
  ·rename_i cs; exact absurd rfl (hn cs)
  ·exact h
theorem rnB_same {x:LB} (hφ:φ.length=n) (h:okB (seqN 0 n) n x=true):rnB N φ x=rnB N' φ x:=by
 cases x <;> first | rfl | skip
 case cells sz vs =>
  simp only [rnB]
  congr 1
  exact List.map_congr_left fun y hy=>rnS_same hφ (List.all_eq_true.1 h y hy)
 case map m c =>
  simp only [rnB]
  congr 1
  refine List.map_congr_left fun y hy=>?_
  have:=List.all_eq_true.1 h y hy
  simp only [Bool.and_eq_true] at this
  rw [rn1_same (N':=N') hφ this.1,rn1_same (N':=N') hφ this.2]
 case iter m a b c =>
  cases m with
  | none=>rfl
  | some q=>simp only [rnB,Option.map_some]; rw [rn_same (N:=N) (N':=N') hφ h]
end
def closedL (L:LH):Bool:=L.all (okB (seqN 0 L.length) L.length)
theorem jset_self {M:LH}:∀ (φ:List Nat) (r:LH),(∀ (k:Nat) (x:LB),r[k]?=some x→∃ j,φ[k]?=some j∧M[j]?=some x)→jset M φ r=M
 | [],r,_=>by simp [jset]
 | k::φ,[],_=>by simp [jset]
 | k::φ,x::r,h=>by
  obtain ⟨j,h1,h2⟩:=h 0 x rfl
  simp at h1; subst h1
  have e:M.set k x=M:=by
   apply List.ext_getElem?
   intro i
   rw [List.getElem?_set]
   split
   ·rename_i e; subst e; rw [h2,if_pos (List.getElem?_eq_some_iff.1 h2).1]
   ·rfl
  simp only [jset,e]
  exact jset_self φ r fun i y hy=>by simpa using h (i+1) y (by simpa using hy)
theorem joinL_self {φ:List Nat} {M L:LH} (hp:Part φ M L) (hc:closedL L=true):joinL φ M L=M:=by
 unfold joinL phi2
 rw [hp.len,Nat.sub_self,List.drop_length,List.take_length]
 simp only [seqN,List.append_nil,List.map_nil]
 refine jset_self φ _ fun k x hx=>?_
 rw [List.getElem?_map] at hx
 cases hq:L[k]? with
 | none=>rw [hq] at hx; cases hx
 | some y =>
  rw [hq] at hx; cases hx
  obtain ⟨j,h1,h2⟩:=hp.blk k y hq
  refine ⟨j,h1,?_⟩
  rw [h2,rnB_same (N':=M.length+L.length) hp.len (List.all_eq_true.1 hc y (List.mem_of_getElem? hq))]
section
variable {P:Program} {n0:NA} {Q:Exit→Env→LH→Prop} {l:Env} {L:LH} {K:Env→LH→Prop}
theorem EWd.callP {f:FuncId} {args:List Operand} {vs us:List Value} {Lc:LH} {v1:Value} (φ:List Nat) (ht:Tr P f us Lc (fun v K=>v=v1∧K=Lc)) (hv:lvs l args=some vs) (he:us.map (rnV L.length φ)=vs) (hn:φ.Nodup) (hp:partL L φ φ Lc) (hc:closedL Lc=true) (hs:stillT v1=true) :
  EWd P n0 φ [] L l (.call f args) (fun v K=>v=v1∧K=L):=by
 have e:=dropped_seq φ 0 Lc.length (by rw [(Part.of hn hp).len]; omega)
 have h:=EWd.call (n0:=n0) φ ht hv he (Part.of hn hp) handed_nil (by rw [e]; exact nm_nilL φ 0 L)
 rw [e] at h
 exact h.mono fun v K ⟨v',L',⟨h3,h4⟩,h5,h6⟩=>by
  subst h3; subst h4
  exact ⟨h5.trans (rnV_still hs),h6.trans (joinL_self (Part.of hn hp) hc)⟩
theorem nm_nilV (v:Value):nmV [] v=true:=by
 unfold nmV
 split
 ·simp [nm_nil1]
 ·exact nm_nil1 _
theorem nm_nilE:∀ (l:Env),nmE [] l=true
 | []=>rfl
 | (_,v)::r=>by simp [nmE,nm_nilV,nm_nilE r]
theorem nm_nilT:∀ (T:Taken),nmT [] T=true
 | []=>rfl
 | (_,_,l,v)::r=>by simp [nmT,nm_nilV,nm_nilE,nm_nilT r]
theorem disj_nil:∀ (ks:List Nat),disj [] ks=true
 | []=>rfl
 | k::ks=>by simp [disj,inL,disj_nil ks]
def nV {β:Sort _}:Value→(Value→β)→β
 | .pointer (some ⟨b,o,none⟩),k=>fNp b fun b=>k (.pointer (some ⟨b,o,none⟩))
 | .slice (some ⟨b,o,none⟩) n c,k=>fNp b fun b=>k (.slice (some ⟨b,o,none⟩) n c)
 | .map (some b),k=>fNp b fun b=>k (.map (some b))
 | .int i n,k=>k (.int i n)
 | .bool b,k=>k (.bool b)
 | .agg ⟨cs⟩,k=>k (.agg ⟨cs⟩)
 | .tuple ⟨cs⟩,k=>k (.tuple ⟨cs⟩)
 | v,k=>k v
theorem nV_eq {β:Sort _} (v:Value) (k:Value→β):nV v k=k v:=by
 unfold nV; split <;> first | rfl | simp only [fNp_eq]
def nVs {β:Sort _}:List Value→(List Value→β)→β
 | [],k=>k []
 | v::r,k=>nV v fun v=>nVs r fun r=>k (v::r)
theorem nVs_eq {β:Sort _}:∀ (l:List Value) (k:List Value→β),nVs l k=k l
 | [],k=>rfl
 | v::r,k=>by simp only [nVs,nV_eq,nVs_eq r]
def nB {β:Sort _}:LB→(LB→β)→β
 | .cells sz vs,k=>nVs vs fun vs=>k (.cells sz vs)
 | .gro sz vs,k=>k (.gro sz vs)
 | .dead,k=>k .dead
 | .map m c,k=>k (.map m c)
 | .abs A F,k=>k (.abs A F)
 | x,k=>k x
theorem nB_eq {β:Sort _} (x:LB) (k:LB→β):nB x k=k x:=by
 unfold nB; split <;> first | rfl | simp only [nVs_eq]
def nL {β:Sort _}:LH→(LH→β)→β
 | [],k=>k []
 | x::r,k=>nB x fun x=>nL r fun r=>k (x::r)
theorem nL_eq {β:Sort _}:∀ (l:LH) (k:LH→β),nL l k=k l
 | [],k=>rfl
 | v::r,k=>by simp only [nL,nB_eq,nL_eq r]
def nE {β:Sort _}:Env→(Env→β)→β
 | [],k=>k []
 | (t,v)::r,k=>nV v fun v=>nE r fun r=>k ((t,v)::r)
theorem nE_eq {β:Sort _}:∀ (l:Env) (k:Env→β),nE l k=k l
 | [],k=>rfl
 | (t,v)::r,k=>by simp only [nE,nV_eq,nE_eq r]
theorem LSt.nf {ss:List Step} {T:Taken} (h:nE l fun l=>nL L fun L=>LSt P n0 ss K l T L):LSt P n0 ss K l T L:=by rw [nE_eq,nL_eq] at h; exact h
end
end Go.Tum
end
section
namespace Go.Tum
open Go Go.RowKit Go.WideShapes Go.ChangeShapes Go.Deep
section
variable {P:Program}
theorem Tr.closed {f:FuncId} {vs:List Value} {v:Value} (hc:callable P f=true) (hvs:vs.all stillS=true) (hs:stillT v=true) (h:∀ w,Does P f vs.toArray w fun v' w'=>v'=v∧Fr (fun _=>False) w w'):Tr P f vs [] (fun u K=>u=v∧K=[]):=by
 intro X w0 w E vs' hA hR hv
 obtain rfl:=L2.vr_still hvs hv
 refine ⟨hc,(h w).mono ?_⟩
 rintro _ w' ⟨rfl,hf⟩
 exact ⟨E,_,[],NA.Ext.refl _ E,Nat.le_refl _,VR.selfT hs,hR.keep hf,rfl,rfl⟩
theorem Rep.deads (X:Nat→Prop) (w:World) (E:Emb):Rep X w E (List.replicate E.length .dead) w :=
 ⟨Fr.refl _ w,by simp,fun k x r hx hr b hf=>by
   have:=List.mem_of_getElem? hx
   rw [List.eq_of_mem_replicate this] at hf; exact hf.elim,fun k x r hx hr=>by
   have:=List.mem_of_getElem? hx
   rw [List.eq_of_mem_replicate this]; trivial,fun k k' x x' r r' b hx _ _ _ hf _=>by
   have:=List.mem_of_getElem? hx
   rw [List.eq_of_mem_replicate this] at hf; exact hf.elim⟩
theorem TrK.does {A:Args} {keep:List Nat} {f:FuncId} {vs vs':List Value} {L:LH} {R:Value→LH→Prop} (h:TrK P A keep f vs L R) (E:Emb) (w:World) (hL:L=List.replicate E.length .dead) (hA:∀ x∈A,inL x.1 keep=true∧ArgAt (fun _=>False) w E x.1 x.2.1 x.2.2) (hv:L2 (VR E) vs vs') (hT:TabOk P (fun _=>False) w:=by exact TabOk.none (by kernel_rfl)) :
  Does P f vs'.toArray w fun v' w'=>∃ E' v L',VR E' v v'∧R v L'∧Fr (fun _=>False) w w':=by
 subst hL
 refine (h (fun _=>False) w w E vs' ⟨by simp,hA,hT⟩ (Rep.deads _ w E) hv).2.mono ?_
 rintro v' w' ⟨E',v,L',_,_,h3,h4,h5⟩
 exact ⟨E',v,L',h3,h5,h4.fr⟩
theorem TrK.law {A:Args} {keep:List Nat} {f:FuncId} {vs vs':List Value} {L:LH} (h:TrK P A keep f vs L (fun v _=>v=.bool true)) (E:Emb) (w:World) (hL:L=List.replicate E.length .dead) (hA:∀ x∈A,inL x.1 keep=true∧ArgAt (fun _=>False) w E x.1 x.2.1 x.2.2) (hv:L2 (VR E) vs vs') (hT:TabOk P (fun _=>False) w:=by exact TabOk.none (by kernel_rfl)) :
  Does P f vs'.toArray w fun v' w'=>v'=.bool true∧Fr (fun _=>False) w w' :=
 (h.does E w hL hA hv hT).mono fun v' w' ⟨E',v,L',h1,h2,h3⟩=>by
  subst h2
  exact ⟨h1,h3⟩
end
end Go.Tum
end
section
namespace Go.Tum
open Go
section
variable {P:Program} {n0:NA} {l:Env} {L:LH}
theorem QY.idxa {x i:Operand} {b o n sz:Nat} {kd:IntKind} {j:Int} (hx:lv l x=some (.pointer (some ⟨b,o,none⟩))) (hi:lv l i=some (.int kd j)) (h0:0≤j) (h1:j<(n:Int)):QY P n0 L l (.idxa x i n sz) (.pointer (some ⟨b,o+j.toNat*sz,none⟩)):=by
 intro X w0 E0 w E l' _ hE hR hl
 obtain ⟨_,g1,a',rfl,_,r,g3,rfl⟩:=lv_ev hl hx
 obtain ⟨_,g5,rfl⟩:=lv_ev hl hi
 refine ⟨_,⟨_,kd,j,g1,g5,h0,h1,rfl⟩,_,rfl,?_⟩
 have:=AR.add (a:=⟨b,o,none⟩) (E:=E) ⟨rfl,r,g3,rfl⟩ (j.toNat*sz)
 rwa [add_none] at this
theorem QY.idxaN {x i:Operand} {b n sz k:Nat} {kd:IntKind} (hx:lv l x=some (.pointer (some ⟨b,0,none⟩))) (hi:lv l i=some (.int kd (k:Int))) (h1:k<n):QY P n0 L l (.idxa x i n sz) (.pointer (some ⟨b,k*sz,none⟩)):=by
 have:=QY.idxa (P:=P) (n0:=n0) (L:=L) (sz:=sz) (n:=n) hx hi (by omega) (by omega)
 simpa using this
theorem wk_new {b:Nat} {vs:List Value} (sz:Nat) (hb:L[b]?=some (.cells 0 vs)) (hne:vs≠[]) (hsz:0<sz) (hs:vs.all stillS=true):∀ X w0 E w,Rep X w0 E L w→Rep X w0 E (L.set b (.gro sz vs)) w:=by
 intro X w0 E w hR
 obtain ⟨r,hr⟩:=hR.ent hb
 obtain ⟨cs,hB,hl2,hroom,hz⟩:=hR.blk b _ r hb hr
 have h0:=hz rfl
 refine hR.upd hb hr (Fr.refl _ w) (.inr ⟨hne,hsz,cs,hB,L2.eq_still hs hl2,?_⟩) (by rw [gro_foot hne]; exact fun _ h=>.inl h)
 rw [h0] at hroom ⊢
 simpa using hroom
theorem lslc_rows {α:Type} {g:α→List Value} {sz:Nat} {b o i m c:Nat} {ys:List α} (h:RowOk g sz) (hb:L[b]?=some (.gro sz (rowsC g ys))) (ho:o=i*sz) (hm:i+m≤ys.length) (hz:0<sz):lslc L sz (.slice (some ⟨b,o,none⟩) m c)=some (rowsC g ((ys.drop i).take m)):=by
 subst ho
 cases m with
 | zero=>simp [lslc,rowsC]
 | succ m =>
  have hle:(i+(m+1))*sz≤ys.length*sz:=Nat.mul_le_mul_right _ hm
  have hpos:0<(m+1)*sz:=Nat.mul_pos (by omega) hz
  rw [Nat.add_mul] at hle
  have hlen:=rowsC_length h ys
  have h1:Nat.ble (i*sz+(m+1)*sz) (rowsC g ys).length=true:=Nat.ble_eq_true_of_le (by omega)
  have h2:(rowsC g ys).isEmpty=false:=by
   cases hq:rowsC g ys with
   | nil=>rw [hq] at hlen; simp at hlen; omega
   | cons=>rfl
  have h3:((rowsC g ys).drop (i*sz)).take ((m+1)*sz)=rowsC g ((ys.drop i).take (m+1)):=by rw [rowsC_drop h,rowsC_take h]
  have h4:=rowsC_still h ((ys.drop i).take (m+1))
  simp only [lslc,lcells,hb,h1,h2,h3,h4,Bool.and_self,Bool.not_false,cond_true]
end
end Go.Tum
end
section
namespace Go.Tum
open Go
section
variable {P:Program} {A:Nat→World→Prop} {G:Nat→Prop}
structure ObjOk (A:Nat→World→Prop) (G:Nat→Prop):Prop where
 own:∀ p w,A p w→∀ b,G b→b<w.heap.size
 fr:∀ p w1 w2 H,A p w1→Fr H w1 w2→(∀ b,G b→¬ H b)→A p w2
theorem obj_open {X:Nat→Prop} {w0 w:World} {E:Emb} (hR:Rep X w0 E [.abs A G] w) {v':Value} (hv:VR E (.pointer (some ⟨0,0,none⟩)) v'):∃ p,v'=.pointer (some ⟨p,0,none⟩)∧A p w∧E=[(p,0,0)]:=by
 obtain ⟨a',rfl,_,r,hr,rfl⟩:=hv
 obtain ⟨h1,h2,h3⟩:=hR.blk 0 _ r rfl hr
 obtain ⟨r1,r2⟩:=r
 simp only at h2; subst h2
 refine ⟨r1,rfl,h1,?_⟩
 have hl:=hR.len
 cases E with
 | nil=>cases hl
 | cons a t =>
  cases t with
  | nil=>simp at hr; rw [hr]
  | cons=>simp at hl
theorem Tr.ofObjP {f:FuncId} {vs:List Value} {v1:Value} (hc:callable P f=true) (hvs:vs.all stillS=true) (hv1:stillT v1=true)
  (h:∀ w p,A p w→Does P f (.pointer (some ⟨p,0,none⟩)::vs).toArray w fun v w'=>v=v1∧w'=w) :
  Tr P f (.pointer (some ⟨0,0,none⟩)::vs) [.abs A G] (fun v K=>v=v1∧K=[.abs A G]):=by
 intro X w0 w E vs' hA hR hv
 cases vs' with
 | nil=>exact hv.elim
 | cons a r =>
  obtain ⟨p,rfl,hAp,rfl⟩:=obj_open hR hv.1
  obtain rfl:=L2.vr_still hvs hv.2
  refine ⟨hc,(h w p hAp).mono ?_⟩
  rintro _ _ ⟨rfl,rfl⟩
  exact ⟨_,_,_,NA.Ext.refl _ _,Nat.le_refl _,VR.selfT hv1,hR,rfl,rfl⟩
theorem Tr.ofObj {f:FuncId} {vs:List Value} {v1:Value} {A':(Nat→Prop)→Nat→World→Prop} (hc:callable P f=true) (hvs:vs.all stillS=true) (hv1:stillT v1=true) (ho:∀ G',ObjOk (A' G') G')
  (h:∀ w p,A p w→Does P f (.pointer (some ⟨p,0,none⟩)::vs).toArray w fun v w'=>v=v1∧∃ G',A' G' p w'∧Grow G G' w w') :
  Tr P f (.pointer (some ⟨0,0,none⟩)::vs) [.abs A G] (fun v K=>v=v1∧∃ G',K=[.abs (A' G') G']):=by
 intro X w0 w E vs' hA hR hv
 cases vs' with
 | nil=>exact hv.elim
 | cons a r =>
  obtain ⟨p,rfl,hAp,rfl⟩:=obj_open hR hv.1
  obtain rfl:=L2.vr_still hvs hv.2
  refine ⟨hc,(h w p hAp).mono ?_⟩
  rintro _ w' ⟨rfl,G',hA',hg⟩
  refine ⟨_,_,[.abs (A' G') G'],NA.Ext.refl _ _,Nat.le_refl _,VR.selfT hv1,?_,rfl,G',rfl⟩
  have:=hR.upd (b:=0) (x:=.abs (A' G') G') rfl rfl hg.fr ⟨hA',rfl,(ho G').fr p⟩ (fun c hcx=>by
   rcases hg.sub c hcx with h1 | h1
   ·exact .inl h1
   ·exact .inr ⟨h1,(ho G').own p w' hA' c hcx⟩)
  exact this
theorem Tr.newObj {f:FuncId} {vs:List Value} {A':(Nat→Prop)→Nat→World→Prop} (hc:callable P f=true) (hvs:vs.all stillS=true) (ho:∀ G',ObjOk (A' G') G')
  (h:∀ w,Does P f vs.toArray w fun v w'=>∃ p G',v=.pointer (some ⟨p,0,none⟩)∧A' G' p w'∧Fr (fun _=>False) w w'∧∀ b,G' b→w.heap.size≤b) :
  Tr P f vs [] (fun v K=>v=.pointer (some ⟨0,0,none⟩)∧∃ G',K=[.abs (A' G') G']):=by
 intro X w0 w E vs' hA hR hv
 obtain rfl:=L2.vr_still hvs hv
 have hE:E=[]:=List.length_eq_zero_iff.1 (by rw [hR.len]; rfl)
 subst hE
 refine ⟨hc,(h w).mono ?_⟩
 rintro _ w' ⟨p,G',rfl,hA',hf,hG⟩
 refine ⟨[(p,0,0)],.pointer (some ⟨0,0,none⟩),[.abs (A' G') G'],fun k r _ hk=>(by simp at hk),by simp,⟨_,rfl,rfl,(p,0,0),rfl,rfl⟩,?_,rfl,G',rfl⟩
 exact hR.push (r:=(p,0,0)) hf (fun b hb=>⟨hG b hb,(ho G').own p w' hA' b hb⟩) ⟨hA',rfl,(ho G').fr p⟩
end
end Go.Tum
end
