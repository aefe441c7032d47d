/-
  What the proof leans on, part 3: of the texts Sub.
-/
import Derived.Test.YthmdialagibpfaaGreatDoorPkB
set_option linter.unusedVariables false
set_option linter.unusedSimpArgs false
set_option linter.unusedSectionVars false
section
namespace Go.Tum
open Go
def fL {α β:Type}:List α→(List α→β)→β
 | [],k=>k []
 | a::r,k=>fL r fun r'=>k (a::r')
theorem fL_eq {α β:Type}:∀ (l:List α) (k:List α→β),fL l k=k l
 | [],_=>rfl
 | a::r,k=>by simp only [fL]; rw [fL_eq r]
def fN {β:Type}:Nat→(Nat→β)→β
 | 0,k=>k 0
 | n+1,k=>k (n+1)
theorem fN_eq {β:Type}:∀ (n:Nat) (k:Nat→β),fN n k=k n
 | 0,_=>rfl
 | _+1,_=>rfl
def fV {β:Type}:Value→(Value→β)→β
 | .int k (.ofNat n),c=>fN n fun n=>c (.int k (.ofNat n))
 | .int k (.negSucc n),c=>fN n fun n=>c (.int k (.negSucc n))
 | .pointer (some ⟨b,o,s⟩),c=>fN b fun b=>fN o fun o=>c (.pointer (some ⟨b,o,s⟩))
 | .slice (some ⟨b,o,s⟩) n m,c=>fN o fun o=>fN n fun n=>fN m fun m=>c (.slice (some ⟨b,o,s⟩) n m)
 | v,c=>c v
theorem fV_eq {β:Type} (v:Value) (k:Value→β):fV v k=k v:=by
 unfold fV
 split <;> simp only [fN_eq]
def fQ {β:Type}:QOp→Value→(Value→β)→β
 | .mov _,v,c=>c v
 | .pick _ _ _,v,c=>c v
 | .ld _,v,c=>c v
 | .ldn _ _,v,c=>c v
 | .ext _ _,v,c=>c v
 | .bld _ _,v,c=>c v
 | .fldv _ _,v,c=>c v
 | .fldn _ _ _,v,c=>c v
 | .raw _,v,c=>c v
 | _,v,c=>fV v c
theorem fQ_eq {β:Type} (q:QOp) (v:Value) (k:Value→β):fQ q v k=k v:=by
 unfold fQ
 split <;> first | rfl|exact fV_eq v k
def addrEq (a b:Addr):Bool :=
 match a,b with
 | ⟨b,o,none⟩,⟨b',o',none⟩=>Nat.beq b b' && Nat.beq o o'
 | _,_=>false
theorem addrEq_ok {a b:Addr} (h:addrEq a b=true):a=b:=by
 obtain ⟨i,o,s⟩:=a
 obtain ⟨i',o',s'⟩:=b
 cases s <;> cases s' <;> first | (cases h; done) | skip
 simp only [addrEq,Bool.and_eq_true] at h
 rw [Nat.eq_of_beq_eq_true h.1,Nat.eq_of_beq_eq_true h.2]
def veq0:Value→Value→Bool
 | .bool a,.bool b=>a == b
 | .int k a,.int k' b=>ikEq k k' && decide (a=b)
 | .float k a,.float k' b=>decide (k=k') && Nat.beq a b
 | .string a,.string b=>a.data.toList == b.data.toList
 | .pointer none,.pointer none=>true
 | .pointer (some a),.pointer (some b)=>addrEq a b
 | .slice none n c,.slice none n' c'=>Nat.beq n n' && Nat.beq c c'
 | .slice (some a) n c,.slice (some b) n' c'=>addrEq a b && Nat.beq n n' && Nat.beq c c'
 | .map none,.map none=>true
 | .map (some a),.map (some b)=>Nat.beq a b
 | .nilFunc,.nilFunc=>true
 | .nilIface,.nilIface=>true
 | _,_=>false
theorem veq0_ok {a b:Value} (h:veq0 a b=true):a=b:=by
 unfold veq0 at h
 split at h <;> first | (cases h; done) | rfl | skip
 ·rw [eq_of_beq h]
 ·rw [Bool.and_eq_true] at h; rw [of_decide_eq_true h.1,of_decide_eq_true h.2]
 ·rw [Bool.and_eq_true] at h; rw [of_decide_eq_true h.1,Nat.eq_of_beq_eq_true h.2]
 ·rename_i x y
  have:=eq_of_beq h
  obtain ⟨⟨x⟩⟩:=x
  obtain ⟨⟨y⟩⟩:=y
  simp only at this
  rw [this]
 ·rw [addrEq_ok h]
 ·rw [Bool.and_eq_true] at h; rw [Nat.eq_of_beq_eq_true h.1,Nat.eq_of_beq_eq_true h.2]
 ·rw [Bool.and_eq_true,Bool.and_eq_true] at h; rw [addrEq_ok h.1.1,Nat.eq_of_beq_eq_true h.1.2,Nat.eq_of_beq_eq_true h.2]
 ·rw [Nat.eq_of_beq_eq_true h]
def veqG (f:Value→Value→Bool):List Value→List Value→Bool
 | [],[]=>true
 | a::r,b::s=>f a b && veqG f r s
 | _,_=>false
theorem veqG_ok {f:Value→Value→Bool} (hf:∀ a b,f a b=true→a=b):∀ {a b:List Value},veqG f a b=true→a=b
 | [],[],_=>rfl
 | a::r,b::s,h=>by
  simp only [veqG,Bool.and_eq_true] at h
  rw [hf _ _ h.1,veqG_ok hf h.2]
 | [],_::_,h=>by cases h
 | _::_,[],h=>by cases h
def veqS:Value→Value→Bool
 | .func f ⟨a⟩ ⟨c⟩,.func f' ⟨a'⟩ ⟨c'⟩=>decide (f=f') && veqG veq0 a a' && veqG veq0 c c'
 | a,b=>veq0 a b
theorem veqS_ok {a b:Value} (h:veqS a b=true):a=b:=by
 unfold veqS at h
 split at h
 ·simp only [Bool.and_eq_true] at h
  rw [of_decide_eq_true h.1.1,veqG_ok (fun _ _=>veq0_ok) h.1.2,veqG_ok (fun _ _=>veq0_ok) h.2]
 ·exact veq0_ok h
def veq1:Value→Value→Bool
 | .agg ⟨a⟩,.agg ⟨b⟩=>veqG veqS a b
 | a,b=>veqS a b
theorem veq1_ok {a b:Value} (h:veq1 a b=true):a=b:=by
 unfold veq1 at h
 split at h
 ·rw [veqG_ok (fun _ _=>veqS_ok) h]
 ·exact veqS_ok h
def veq:Value→Value→Bool
 | .tuple ⟨a⟩,.tuple ⟨b⟩=>veqG veq1 a b
 | a,b=>veq1 a b
theorem veq_ok {a b:Value} (h:veq a b=true):a=b:=by
 unfold veq at h
 split at h
 ·rw [veqG_ok (fun _ _=>veq1_ok) h]
 ·exact veq1_ok h
def veqM:List (Value × Value × Nat)→List (Value × Value × Nat)→Bool
 | [],[]=>true
 | (k,v,b)::r,(k',v',b')::s=>veq1 k k' && veq1 v v' && Nat.beq b b' && veqM r s
 | _,_=>false
theorem veqM_ok:∀ {a b:List (Value × Value × Nat)},veqM a b=true→a=b
 | [],[],_=>rfl
 | (k,v,b)::r,(k',v',b')::s,h=>by
  simp only [veqM,Bool.and_eq_true] at h
  rw [veq1_ok h.1.1.1,veq1_ok h.1.1.2,Nat.eq_of_beq_eq_true h.1.2,veqM_ok h.2]
 | [],_::_,h=>by cases h
 | _::_,[],h=>by cases h
def lbEq:LB→LB→Bool
 | .cells a vs,.cells b us=>Nat.beq a b && veqG veqS vs us
 | .data vs,.data us=>veqG veqS vs us
 | .bytes n x,.bytes m y=>Nat.beq n m && Nat.beq x y
 | .gro a vs,.gro b us=>Nat.beq a b && veqG veqS vs us
 | .map m c,.map m' c'=>veqM m m' && Nat.beq c c'
 | .iter m a l b,.iter m' a' l' b'=>decide (m=m') && Nat.beq a a' && (l == l') && Nat.beq b b'
 | .dead,.dead=>true
 | _,_=>false
theorem lbEq_ok {a b:LB} (h:lbEq a b=true):a=b:=by
 unfold lbEq at h
 split at h <;> first | (cases h; done) | rfl | skip
 ·rw [Bool.and_eq_true] at h; rw [Nat.eq_of_beq_eq_true h.1,veqG_ok (fun _ _=>veqS_ok) h.2]
 ·rw [veqG_ok (fun _ _=>veqS_ok) h]
 ·rw [Bool.and_eq_true] at h; rw [Nat.eq_of_beq_eq_true h.1,Nat.eq_of_beq_eq_true h.2]
 ·rw [Bool.and_eq_true] at h; rw [Nat.eq_of_beq_eq_true h.1,veqG_ok (fun _ _=>veqS_ok) h.2]
 ·rw [Bool.and_eq_true] at h; rw [veqM_ok h.1,Nat.eq_of_beq_eq_true h.2]
 ·simp only [Bool.and_eq_true] at h; rw [of_decide_eq_true h.1.1.1,Nat.eq_of_beq_eq_true h.1.1.2,eq_of_beq h.1.2,Nat.eq_of_beq_eq_true h.2]
def rn (N:Nat) (φ:List Nat) (b:Nat):Nat:=(φ[b]?).getD N
def rnA (N:Nat) (φ:List Nat) (a:Addr):Addr:=match a.spot with
 | none=>⟨rn N φ a.block,a.off,none⟩
 | some s=>⟨a.block,a.off,some s⟩
def rn0 (N:Nat) (φ:List Nat):Value→Value
 | .pointer (some a)=>.pointer (some (rnA N φ a))
 | .slice (some a) n c=>.slice (some (rnA N φ a)) n c
 | .map (some b)=>.map (some (rn N φ b))
 | v=>v
def rnS (N:Nat) (φ:List Nat):Value→Value
 | .func f ⟨a⟩ ⟨c⟩=>.func f ⟨a.map (rn0 N φ)⟩ ⟨c.map (rn0 N φ)⟩
 | v=>rn0 N φ v
def rn1 (N:Nat) (φ:List Nat):Value→Value
 | .agg ⟨cs⟩=>.agg ⟨cs.map (rnS N φ)⟩
 | v=>rnS N φ v
def rnV (N:Nat) (φ:List Nat):Value→Value
 | .tuple ⟨vs⟩=>.tuple ⟨vs.map (rn1 N φ)⟩
 | v=>rn1 N φ v
def rnB (N:Nat) (φ:List Nat):LB→LB
 | .cells sz vs=>.cells sz (vs.map (rnS N φ))
 | .map m c=>.map (m.map fun x=>(rn1 N φ x.1,rn1 N φ x.2.1,x.2.2)) c
 | .iter m a l b=>.iter (m.map (rn N φ)) a l b
 | x=>x
def rnE (N:Nat) (φ:List Nat):Env→Env
 | []=>[]
 | (k,v)::r=>(k,rnV N φ v)::rnE N φ r
def subE (E:Emb) (φ:List Nat):Emb:=φ.map fun k=>E.getD k (0,0,0)
section
variable {E:Emb} {φ:List Nat}
theorem subE_get {b:Nat} {r:Nat × Nat × Nat} (h:E[rn E.length φ b]?=some r):(subE E φ)[b]?=some r:=by
 unfold rn at h
 unfold subE
 cases hb:φ[b]? with
 | none=>rw [hb] at h; simp at h
 | some k =>
  rw [hb] at h
  simp only [Option.getD_some] at h
  simp [hb,h]
theorem S0.sub {v v':Value} (h:S0 E (rn0 E.length φ v) v'):S0 (subE E φ) v v':=by
 cases v <;> first|exact h | skip
 case pointer a =>
  cases a with
  | none=>exact h
  | some a=>rcases a with ⟨b,o,_ | s⟩ <;> first|exact h | (obtain ⟨a',h1,h2,r,h3,h4⟩:=h; exact ⟨a',h1,h2,r,subE_get h3,h4⟩)
 case slice a n c =>
  cases a with
  | none=>exact h
  | some a=>rcases a with ⟨b,o,_ | s⟩ <;> first|exact h | (obtain ⟨h1,r,h2,h3⟩:=h; exact ⟨h1,r,subE_get h2,h3⟩)
 case map a =>
  cases a with
  | none=>exact h
  | some a=>obtain ⟨r,h1,h2⟩:=h; exact ⟨r,subE_get h1,h2⟩
theorem L2.sub {R S:Value→Value→Prop} {f:Value→Value} (h:∀ v v',R (f v) v'→S v v'):∀ {x y:List Value},L2 R (x.map f) y→L2 S x y
 | [],[],_=>trivial
 | _::_,_::_,k=>⟨h _ _ k.1,L2.sub h k.2⟩
 | [],_::_,k=>k.elim
 | _::_,[],k=>k.elim
theorem SR.sub {v v':Value} (h:SR E (rnS E.length φ v) v'):SR (subE E φ) v v':=by
 cases v <;> first|exact h | skip
 case pointer a=>(cases a with | none=>exact S0.sub (E:=E) (φ:=φ) (v:=.pointer none) h | some a=>exact S0.sub (E:=E) (φ:=φ) (v:=.pointer (some a)) h)
 case slice a n c=>(cases a with | none=>exact S0.sub (E:=E) (φ:=φ) (v:=.slice none n c) h | some a=>exact S0.sub (E:=E) (φ:=φ) (v:=.slice (some a) n c) h)
 case map a=>(cases a with | none=>exact S0.sub (E:=E) (φ:=φ) (v:=.map none) h | some a=>exact S0.sub (E:=E) (φ:=φ) (v:=.map (some a)) h)
 case func f a c =>
  obtain ⟨a⟩:=a
  obtain ⟨c⟩:=c
  obtain ⟨a',c',h1,h2,h3⟩:=h
  exact ⟨a',c',h1,L2.sub (fun _ _=>S0.sub) h2,L2.sub (fun _ _=>S0.sub) h3⟩
theorem V1.sub {v v':Value} (h:V1 E (rn1 E.length φ v) v'):V1 (subE E φ) v v':=by
 cases v <;> first|exact h | skip
 case pointer a=>(cases a with | none=>exact SR.sub (E:=E) (φ:=φ) (v:=.pointer none) h | some a=>exact SR.sub (E:=E) (φ:=φ) (v:=.pointer (some a)) h)
 case slice a n c=>(cases a with | none=>exact SR.sub (E:=E) (φ:=φ) (v:=.slice none n c) h | some a=>exact SR.sub (E:=E) (φ:=φ) (v:=.slice (some a) n c) h)
 case map a=>(cases a with | none=>exact SR.sub (E:=E) (φ:=φ) (v:=.map none) h | some a=>exact SR.sub (E:=E) (φ:=φ) (v:=.map (some a)) h)
 case func f a c=>exact SR.sub (v:=.func f a c) h
 case agg cs=>obtain ⟨cs⟩:=cs; obtain ⟨cs',h1,h2⟩:=h; exact ⟨cs',h1,L2.sub (fun _ _=>SR.sub) h2⟩
theorem VR.sub {v v':Value} (h:VR E (rnV E.length φ v) v'):VR (subE E φ) v v':=by
 cases v <;> first|exact h | skip
 case pointer a=>(cases a with | none=>exact V1.sub (E:=E) (φ:=φ) (v:=.pointer none) h | some a=>exact V1.sub (E:=E) (φ:=φ) (v:=.pointer (some a)) h)
 case slice a n c=>(cases a with | none=>exact V1.sub (E:=E) (φ:=φ) (v:=.slice none n c) h | some a=>exact V1.sub (E:=E) (φ:=φ) (v:=.slice (some a) n c) h)
 case map a=>(cases a with | none=>exact V1.sub (E:=E) (φ:=φ) (v:=.map none) h | some a=>exact V1.sub (E:=E) (φ:=φ) (v:=.map (some a)) h)
 case func f a c=>exact V1.sub (v:=.func f a c) h
 case agg cs=>exact V1.sub (v:=.agg cs) h
 case tuple cs=>obtain ⟨cs⟩:=cs; obtain ⟨cs',h1,h2⟩:=h; exact ⟨cs',h1,L2.sub (fun _ _=>V1.sub) h2⟩
theorem eget_rnE (N:Nat) (φ:List Nat):∀ (l:Env) (t:Nat) (v:Value),eget l t=some v→eget (rnE N φ l) t=some (rnV N φ v)
 | [],t,v,h=>by cases h
 | (k,u)::r,t,v,h=>by
  simp only [rnE]
  rw [eget_cons] at h ⊢
  by_cases e:k=t
  ·rw [if_pos e] at h ⊢; cases h; rfl
  ·rw [if_neg e] at h ⊢; exact eget_rnE N φ r t v h
theorem ER.sub {l l':Env} (h:ER E (rnE E.length φ l) l'):ER (subE E φ) l l':=fun t v ht=>let ⟨v',h1,h2⟩:=h t _ (eget_rnE _ _ l t v ht); ⟨v',h1,h2.sub⟩
theorem M2.sub:∀ {m:List (Value × Value × Nat)} {es:List MapEntry},M2 E (m.map fun x=>(rn1 E.length φ x.1,rn1 E.length φ x.2.1,x.2.2)) es→M2 (subE E φ) m es
 | [],[],_=>trivial
 | _::_,_::_,k=>⟨⟨k.1.1.sub,k.1.2.1.sub,k.1.2.2⟩,M2.sub k.2⟩
 | [],_::_,k=>k.elim
 | _::_,[],k=>k.elim
theorem foot_rn (N:Nat) (r:Nat × Nat × Nat) (x:LB):foot r (rnB N φ x)=foot r x:=by
 cases x <;> rfl
theorem LBis.sub {w:World} {r:Nat × Nat × Nat} {x:LB} (h:LBis E w r (rnB E.length φ x)):LBis (subE E φ) w r x:=by
 cases x with
 | cells sz vs =>
  obtain ⟨cs,h1,h2,h3⟩:=h
  simp only [List.length_map] at h2 h3
  exact ⟨cs,h1,L2.sub (fun _ _=>SR.sub) h2,h3⟩
 | map m c=>obtain ⟨es,h1,h2⟩:=h; exact ⟨es,h1,h2.sub⟩
 | iter m a l b =>
  obtain ⟨h0,m',h1,h2⟩:=h
  refine ⟨h0,m',h1,?_⟩
  cases m with
  | none=>exact h2
  | some b=>obtain ⟨q,h3,h4⟩:=h2; exact ⟨q,subE_get h3,h4⟩
 | data vs=>exact h
 | bytes n x=>exact h
 | gro sz vs=>exact h
 | dead=>exact h
 | abs A F=>exact h
 | imap G c=>exact h
end
section
variable {X:Nat→Prop} {w0 w:World} {E:Emb} {L M:LH} {φ:List Nat}
theorem Rep.sub (h:Rep X w0 E M w) (hlen:φ.length=L.length) (hb:∀ (k:Nat) (x:LB),L[k]?=some x→x=.dead∨∃ j,φ[k]?=some j∧M[j]?=some (rnB M.length φ x))
  (hinj:∀ (k k' j:Nat) (x x':LB),φ[k]?=some j→φ[k']?=some j→L[k]?=some x→L[k']?=some x'→x≠.dead→x'≠.dead→k=k'):Rep X w0 (subE E φ) L w:=by
 have key:∀ (k:Nat) (x:LB) (r:Nat × Nat × Nat),L[k]?=some x→(subE E φ)[k]?=some r→x=.dead∨∃ j,φ[k]?=some j∧M[j]?=some (rnB E.length φ x)∧E[j]?=some r:=by
  intro k x r hx hr
  rcases hb k x hx with h1 | ⟨j,h1,h2⟩
  ·exact .inl h1
  ·refine .inr ⟨j,h1,by rw [h.len]; exact h2,?_⟩
   obtain ⟨r',hr'⟩:=h.ent h2
   unfold subE at hr
   simp only [List.getElem?_map,h1,Option.map_some,Option.some.injEq] at hr
   rw [← hr]
   simp [hr']
 refine ⟨h.fr,by simp [subE,hlen],fun k x r hx hr b hf=>?_,fun k x r hx hr=>?_,fun k k' x x' r r' b hx hx' hr hr' hf hf'=>?_⟩
 ·rcases key k x r hx hr with rfl | ⟨j,h1,h2,h3⟩
  ·exact hf.elim
  ·exact h.rng j _ r h2 h3 b (by rw [foot_rn]; exact hf)
 ·rcases key k x r hx hr with rfl | ⟨j,h1,h2,h3⟩
  ·trivial
  ·exact (h.blk j _ r h2 h3).sub
 ·rcases key k x r hx hr with rfl | ⟨j,h1,h2,h3⟩
  ·exact hf.elim
  ·rcases key k' x' r' hx' hr' with rfl | ⟨j',h1',h2',h3'⟩
   ·exact hf'.elim
   ·have:=h.inj j j' _ _ r r' b h2 h2' h3 h3' (by rw [foot_rn]; exact hf) (by rw [foot_rn]; exact hf')
    subst this
    exact hinj k k' j x x' h1 h1' hx hx' (fun e=>by subst e; exact hf) (fun e=>by subst e; exact hf')
end
abbrev USt:=List (Nat × Nat) × List (Nat × Nat)
def passoc:List (Nat × Nat)→Nat→Option Nat
 | [],_=>none
 | (a,b)::r,k=>bif Nat.beq a k then some b else passoc r k
def uadd (n b c:Nat) (s:USt):USt :=
 bif Nat.blt b n then s else match passoc s.1 b with
  | some _=>s
  | none=>((b,c)::s.1,(b,c)::s.2)
def u0 (n:Nat):Value→Value→USt→USt
 | .pointer (some a),.pointer (some b),s=>uadd n a.block b.block s
 | .slice (some a) _ _,.slice (some b) _ _,s=>uadd n a.block b.block s
 | .map (some a),.map (some b),s=>uadd n a b s
 | _,_,s=>s
def uL (f:Value→Value→USt→USt):List Value→List Value→USt→USt
 | a::r,b::t,s=>uL f r t (f a b s)
 | _,_,s=>s
def uS (n:Nat):Value→Value→USt→USt
 | .func _ ⟨a⟩ ⟨c⟩,.func _ ⟨a'⟩ ⟨c'⟩,s=>uL (u0 n) c c' (uL (u0 n) a a' s)
 | a,b,s=>u0 n a b s
def u1 (n:Nat):Value→Value→USt→USt
 | .agg ⟨a⟩,.agg ⟨b⟩,s=>uL (uS n) a b s
 | a,b,s=>uS n a b s
def uV (n:Nat):Value→Value→USt→USt
 | .tuple ⟨a⟩,.tuple ⟨b⟩,s=>uL (u1 n) a b s
 | a,b,s=>u1 n a b s
def uM (n:Nat):List (Value × Value × Nat)→List (Value × Value × Nat)→USt→USt
 | (k,v,_)::r,(k',v',_)::t,s=>uM n r t (u1 n v v' (u1 n k k' s))
 | _,_,s=>s
def uB (n:Nat):LB→LB→USt→USt
 | .cells _ a,.cells _ b,s=>uL (uS n) a b s
 | .map a _,.map b _,s=>uM n a b s
 | .iter (some a) _ _ _,.iter (some b) _ _ _,s=>uadd n a b s
 | _,_,s=>s
def uE (n:Nat):Env→Env→USt→USt
 | (_,v)::r,(_,u)::t,s=>uE n r t (uV n v u s)
 | _,_,s=>s
def uOld (n:Nat):Nat→LH→LH→USt→USt
 | 0,_,_,s=>s
 | k+1,x::r,y::t,s=>uOld n k r t (uB n x y s)
 | _,_,_,s=>s
def uRun (n:Nat) (L1 L2:LH):Nat→USt→List (Nat × Nat)
 | 0,s=>s.1
 | f+1,(p,todo)=>match todo with
  | []=>p
  | (a,b)::r=>match L1[a]?,L2[b]? with
   | some x,some y=>uRun n L1 L2 f (uB n x y (p,r))
   | _,_=>uRun n L1 L2 f (p,r)
def uPhi (n:Nat) (p:List (Nat × Nat)):Nat→LH→List Nat
 | _,[]=>[]
 | k,_::r=>(bif Nat.blt k n then k else match passoc p k with
  | some j=>j
  | none=>k)::uPhi n p (k+1) r
def uKill (n:Nat) (p:List (Nat × Nat)):Nat→LH→LH
 | _,[]=>[]
 | k,x::r=>(bif Nat.blt k n then x else match passoc p k with
  | some _=>x
  | none=>.dead)::uKill n p (k+1) r
def isDead:LB→Bool
 | .dead=>true
 | _=>false
def ckB (φ:List Nat) (M:LH):Nat→LH→Bool
 | _,[]=>true
 | k,x::r=>(isDead x || (match φ[k]? with
  | some j=>match M[j]? with
   | some y=>lbEq y (rnB M.length φ x)
   | none=>false
  | none=>false)) && ckB φ M (k+1) r
def liveN:List Nat→LH→List Nat
 | j::r,x::t=>bif isDead x then liveN r t else j::liveN r t
 | _,_=>[]
def ndup:List Nat→Bool
 | []=>true
 | a::r => !(r.any (Nat.beq a)) && ndup r
def ckE:Env→Env→Bool
 | [],[]=>true
 | (k,v)::r,(k',v')::s=>Nat.beq k k' && veq v v' && ckE r s
 | _,_=>false
theorem ckE_ok:∀ {a b:Env},ckE a b=true→a=b
 | [],[],_=>rfl
 | (k,v)::r,(k',v')::s,h=>by
  simp only [ckE,Bool.and_eq_true] at h
  rw [Nat.eq_of_beq_eq_true h.1.1,veq_ok h.1.2,ckE_ok h.2]
 | [],_::_,h=>by cases h
 | _::_,[],h=>by cases h
def idUpto:Nat→Nat→List Nat→Bool
 | 0,_,_=>true
 | n+1,k,j::r=>Nat.beq j k && idUpto n (k+1) r
 | _+1,_,[]=>false
def same2 (n:Nat) (l1:Env) (L1:LH) (l2:Env) (L2:LH):Option LH :=
 let p:=uRun n L1 L2 1000 (uOld n n L1 L2 (uE n l1 l2 ([],[])))
 let φ:=uPhi n p 0 L1
 let K:=uKill n p 0 L1
 bif Nat.beq φ.length K.length && ckB φ L2 0 K && ndup (liveN φ K) && ckE l2 (rnE L2.length φ l1) && idUpto n 0 φ then some K else none
theorem ckB_ok {φ:List Nat} {M:LH}:∀ (L:LH) (i:Nat),ckB φ M i L=true→∀ (k:Nat) (x:LB),L[k]?=some x→x=.dead∨∃ j,φ[i+k]?=some j∧M[j]?=some (rnB M.length φ x)
 | [],_,_,k,x,hx=>by simp at hx
 | y::r,i,h,k,x,hx=>by
  simp only [ckB,Bool.and_eq_true,Bool.or_eq_true] at h
  cases k with
  | zero =>
   simp at hx; subst hx
   rcases h.1 with h1 | h1
   ·cases y <;> first | (cases h1; done)|exact .inl rfl
   ·right
    cases hj:φ[i]? with
    | none=>rw [hj] at h1; cases h1
    | some j =>
     rw [hj] at h1
     simp only at h1
     cases hm:M[j]? with
     | none=>rw [hm] at h1; cases h1
     | some z=>rw [hm] at h1; exact ⟨j,by simp,by rw [hm,lbEq_ok h1]⟩
  | succ k =>
   simp at hx
   have:=ckB_ok r (i+1) h.2 k x hx
   rwa [show i+1+k=i+(k+1) by omega] at this
theorem ndup_ok:∀ {l:List Nat},ndup l=true→l.Nodup
 | [],_=>List.nodup_nil
 | a::r,h=>by
  simp only [ndup,Bool.and_eq_true,Bool.not_eq_true'] at h
  refine List.nodup_cons.2 ⟨fun hm=>?_,ndup_ok h.2⟩
  have:=List.any_eq_false.1 h.1 a hm
  rw [Nat.beq_refl] at this; exact this rfl
theorem liveN_mem:∀ {φ:List Nat} {L:LH} {k j:Nat} {x:LB},φ[k]?=some j→L[k]?=some x→x≠.dead→j∈liveN φ L
 | [],_,_,_,_,h,_,_=>by simp at h
 | _::_,[],_,_,_,_,h,_=>by simp at h
 | a::r,y::t,0,j,x,h1,h2,h3=>by
  simp at h1 h2; subst h1; subst h2
  simp only [liveN]
  cases hd:isDead y
  ·exact List.mem_cons_self ..
  ·cases y <;> first | (cases hd; done)|exact absurd rfl h3
 | a::r,y::t,k+1,j,x,h1,h2,h3=>by
  simp at h1 h2
  have:=liveN_mem h1 h2 h3
  simp only [liveN]
  cases isDead y
  ·exact List.mem_cons_of_mem _ this
  ·exact this
theorem liveN_inj:∀ {φ:List Nat} {L:LH},(liveN φ L).Nodup→∀ (k k' j:Nat) (x x':LB),φ[k]?=some j→φ[k']?=some j→L[k]?=some x→L[k']?=some x'→x≠.dead→x'≠.dead→k=k'
 | [],_,_,_,_,_,_,_,h,_,_,_,_,_=>by simp at h
 | _::_,[],_,_,_,_,_,_,_,_,h,_,_,_=>by simp at h
 | a::r,y::t,hn,0,0,j,x,x',_,_,_,_,_,_=>rfl
 | a::r,y::t,hn,0,k'+1,j,x,x',h1,h2,h3,h4,h5,h6=>by
  simp at h1 h2 h3 h4; subst h1; subst h3
  have:=liveN_mem h2 h4 h6
  simp only [liveN] at hn
  cases hd:isDead y
  ·rw [hd] at hn
   exact absurd this (List.nodup_cons.1 hn).1
  ·cases y <;> first | (cases hd; done)|exact absurd rfl h5
 | a::r,y::t,hn,k+1,0,j,x,x',h1,h2,h3,h4,h5,h6=>by
  simp at h1 h2 h3 h4; subst h2; subst h4
  have:=liveN_mem h1 h3 h5
  simp only [liveN] at hn
  cases hd:isDead y
  ·rw [hd] at hn
   exact absurd this (List.nodup_cons.1 hn).1
  ·cases y <;> first | (cases hd; done)|exact absurd rfl h6
 | a::r,y::t,hn,k+1,k'+1,j,x,x',h1,h2,h3,h4,h5,h6=>by
  simp at h1 h2 h3 h4
  have hn':(liveN r t).Nodup:=by
   simp only [liveN] at hn
   cases hd:isDead y
   ·rw [hd] at hn; exact (List.nodup_cons.1 hn).2
   ·rw [hd] at hn; exact hn
  rw [liveN_inj hn' k k' j x x' h1 h2 h3 h4 h5 h6]
theorem idUpto_ok:∀ (n i:Nat) (φ:List Nat),idUpto n i φ=true→∀ k,k<n→φ[k]?=some (i+k)
 | 0,_,_,_,k,hk=>by omega
 | n+1,i,[],h,_,_=>by cases h
 | n+1,i,j::r,h,k,hk=>by
  simp only [idUpto,Bool.and_eq_true] at h
  cases k with
  | zero=>simp [Nat.eq_of_beq_eq_true h.1]
  | succ k =>
   have:=idUpto_ok n (i+1) r h.2 k (by omega)
   simp only [List.getElem?_cons_succ,this]
   congr 1; omega
theorem subE_ext {E0 E:Emb} {φ:List Nat} (h:Ext E0 E) (hi:idUpto E0.length 0 φ=true):Ext E0 (subE E φ):=by
 intro k r hk
 have hlt:=(List.getElem?_eq_some_iff.1 hk).1
 have:=idUpto_ok _ _ _ hi k hlt
 unfold subE
 simp [this,h k r hk]
theorem Rep.weak {X:Nat→Prop} {w0 w:World} {E:Emb} {L K:LH} (h:Rep X w0 E L w) (hlen:K.length=L.length) (hk:∀ (k:Nat) (x:LB),K[k]?=some x→x=.dead∨L[k]?=some x):Rep X w0 E K w:=by
 refine ⟨h.fr,by rw [h.len,hlen],fun k x r hx hr b hf=>?_,fun k x r hx hr=>?_,fun k k' x x' r r' b hx hx' hr hr' hf hf'=>?_⟩
 ·rcases hk k x hx with rfl | h1
  ·exact hf.elim
  ·exact h.rng k x r h1 hr b hf
 ·rcases hk k x hx with rfl | h1
  ·trivial
  ·exact h.blk k x r h1 hr
 ·rcases hk k x hx with rfl | h1
  ·exact hf.elim
  ·rcases hk k' x' hx' with rfl | h1'
   ·exact hf'.elim
   ·exact h.inj k k' x x' r r' b h1 h1' hr hr' hf hf'
theorem uKill_length (n:Nat) (p:List (Nat × Nat)):∀ (i:Nat) (L:LH),(uKill n p i L).length=L.length
 | _,[]=>rfl
 | i,x::r=>by simp [uKill,uKill_length n p (i+1) r]
theorem uKill_get (n:Nat) (p:List (Nat × Nat)):∀ (i:Nat) (L:LH) (k:Nat) (x:LB),(uKill n p i L)[k]?=some x→x=.dead∨L[k]?=some x
 | _,[],k,x,h=>by simp [uKill] at h
 | i,y::r,0,x,h=>by
  simp only [uKill,List.getElem?_cons_zero,Option.some.injEq] at h
  cases hb:Nat.blt i n
  ·rw [hb] at h
   simp only [cond_false] at h
   split at h
   ·exact .inr (by simp [h])
   ·exact .inl h.symm
  ·rw [hb] at h; exact .inr (by simpa using h)
 | i,y::r,k+1,x,h=>by
  simp only [uKill,List.getElem?_cons_succ] at h
  simpa using uKill_get n p (i+1) r k x h
theorem same2_kill {X:Nat→Prop} {w0 w:World} {E:Emb} {n:Nat} {l1 l2:Env} {L1 L2 K:LH} (h:same2 n l1 L1 l2 L2=some K) (hR:Rep X w0 E L1 w):Rep X w0 E K w:=by
 unfold same2 at h
 simp only at h
 generalize uRun n L1 L2 1000 (uOld n n L1 L2 (uE n l1 l2 ([],[])))=p at h
 generalize uPhi n p 0 L1=φ at h
 have key:uKill n p 0 L1=K:=by
  revert h
  cases (Nat.beq φ.length (uKill n p 0 L1).length && ckB φ L2 0 (uKill n p 0 L1) && ndup (liveN φ (uKill n p 0 L1)) && ckE l2 (rnE L2.length φ l1) && idUpto n 0 φ)
  ·intro h; cases h
  ·intro h; cases h; rfl
 subst key
 exact hR.weak (uKill_length n p 0 L1) (fun k x=>uKill_get n p 0 L1 k x)
theorem same2_ok {X:Nat→Prop} {w0 w:World} {E0 E:Emb} {l1 l2 l':Env} {L1 L2 K:LH} (h:same2 E0.length l1 L1 l2 L2=some K) (hE:Ext E0 E) (hR:Rep X w0 E L2 w) (hl:ER E l2 l'):∃ E',Ext E0 E'∧Rep X w0 E' K w∧ER E' l1 l':=by
 unfold same2 at h
 simp only at h
 generalize uRun E0.length L1 L2 1000 (uOld E0.length E0.length L1 L2 (uE E0.length l1 l2 ([],[])))=p at h
 generalize uPhi E0.length p 0 L1=φ at h
 generalize uKill E0.length p 0 L1=K' at h
 cases hc:(Nat.beq φ.length K'.length && ckB φ L2 0 K' && ndup (liveN φ K') && ckE l2 (rnE L2.length φ l1) && idUpto E0.length 0 φ)
 ·rw [hc] at h; cases h
 rw [hc] at h
 cases h
 simp only [Bool.and_eq_true] at hc
 obtain ⟨⟨⟨⟨h1,h2⟩,h3⟩,h4⟩,h5⟩:=hc
 refine ⟨subE E φ,subE_ext hE h5,hR.sub (Nat.eq_of_beq_eq_true h1) (fun k x hx=>by simpa using ckB_ok K 0 h2 k x hx) (liveN_inj (ndup_ok h3)),ER.sub ?_⟩
 rw [hR.len,← ckE_ok h4]
 exact hl
end Go.Tum
end
