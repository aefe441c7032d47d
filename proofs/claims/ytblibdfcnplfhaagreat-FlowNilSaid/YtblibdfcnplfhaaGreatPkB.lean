/-
  What the proof leans on, part 2: of the texts Run, RunOps, Sub.
-/
import Derived.Test.YtblibdfcnplfhaaGreatPkA
set_option linter.unusedVariables false
set_option linter.unusedSimpArgs false
set_option linter.unusedSectionVars false
section
namespace Go.Tum
open Go
def L2 (R:Value→Value→Prop):List Value→List Value→Prop
 | [],[]=>True
 | a::r,b::s=>R a b∧L2 R r s
 | _,_=>False
section
variable {R S:Value→Value→Prop}
theorem L2.mono (h:∀ a b,R a b→S a b):∀ {x y:List Value},L2 R x y→L2 S x y
 | [],[],_=>trivial
 | _::_,_::_,k=>⟨h _ _ k.1,L2.mono h k.2⟩
 | [],_::_,k=>k.elim
 | _::_,[],k=>k.elim
theorem L2.length:∀ {x y:List Value},L2 R x y→y.length=x.length
 | [],[],_=>rfl
 | _::_,_::_,k=>by simp [L2.length k.2]
 | [],_::_,k=>k.elim
 | _::_,[],k=>k.elim
theorem L2.get:∀ {x y:List Value} {i:Nat} {a:Value},L2 R x y→x[i]?=some a→∃ b,y[i]?=some b∧R a b
 | [],_,i,a,_,h=>by simp at h
 | _::_,[],_,_,k,_=>k.elim
 | a::r,b::s,0,c,k,h=>by simp at h; subst h; exact ⟨b,rfl,k.1⟩
 | a::r,b::s,i+1,c,k,h=>by
  simp at h
  obtain ⟨d,h1,h2⟩:=L2.get k.2 h
  exact ⟨d,by simpa using h1,h2⟩
theorem L2.take:∀ {x y:List Value} (n:Nat),L2 R x y→L2 R (x.take n) (y.take n)
 | _,_,0,_=>by simp [L2]
 | [],[],_+1,_=>by simp [L2]
 | _::_,_::_,n+1,k=>⟨k.1,L2.take n k.2⟩
 | [],_::_,_+1,k=>k.elim
 | _::_,[],_+1,k=>k.elim
theorem L2.drop:∀ {x y:List Value} (n:Nat),L2 R x y→L2 R (x.drop n) (y.drop n)
 | _,_,0,k=>by simpa using k
 | [],[],_+1,_=>by simp [L2]
 | _::_,_::_,n+1,k=>by simpa using L2.drop n k.2
 | [],_::_,_+1,k=>k.elim
 | _::_,[],_+1,k=>k.elim
theorem L2.append:∀ {x y x' y':List Value},L2 R x y→L2 R x' y'→L2 R (x++x') (y++y')
 | [],[],_,_,_,h=>h
 | _::_,_::_,_,_,k,h=>⟨k.1,L2.append k.2 h⟩
 | [],_::_,_,_,k,_=>k.elim
 | _::_,[],_,_,k,_=>k.elim
theorem L2.set:∀ {x y:List Value} (n:Nat) {a b:Value},L2 R x y→R a b→L2 R (x.set n a) (y.set n b)
 | [],[],n,_,_,_,_=>by simp [L2]
 | _::_,_::_,0,_,_,k,h=>⟨h,k.2⟩
 | _::_,_::_,n+1,_,_,k,h=>⟨k.1,L2.set n k.2 h⟩
 | [],_::_,_,_,_,k,_=>k.elim
 | _::_,[],_,_,_,k,_=>k.elim
theorem L2.mem:∀ {x y:List Value},L2 R x y→∀ b∈y,∃ a∈x,R a b
 | [],[],_,b,h=>by cases h
 | a::r,b::s,k,c,h=>by
  rcases List.mem_cons.1 h with rfl | h
  ·exact ⟨a,List.mem_cons_self ..,k.1⟩
  ·obtain ⟨d,h1,h2⟩:=L2.mem k.2 c h; exact ⟨d,List.mem_cons_of_mem _ h1,h2⟩
 | [],_::_,k,_,_=>k.elim
 | _::_,[],k,_,_=>k.elim
theorem L2.self {x:List Value} (h:∀ a∈x,R a a):L2 R x x:=by
 induction x with
 | nil=>trivial
 | cons a r ih=>exact ⟨h a (List.mem_cons_self ..),ih fun b hb=>h b (List.mem_cons_of_mem _ hb)⟩
end
abbrev Emb:=List (Nat × Nat × Nat)
def AR (E:Emb) (a a':Addr):Prop:=a.spot=none∧∃ r,E[a.block]?=some r∧a'=⟨r.1,a.off+r.2.1,none⟩
def S0 (E:Emb) (v v':Value):Prop :=
 match v with
 | .pointer (some a)=>(match a.spot with
  | some _=>v'=.pointer (some ⟨a.block,a.off,none⟩)
  | none=>∃ a',v'=.pointer (some a')∧AR E a a')
 | .slice (some a) n c=>(match a.spot with
  | some _=>v'=.slice (some ⟨a.block,a.off,none⟩) n c∨(n=0∧c=0∧∃ a',v'=.slice a' 0 0)
  | none=>a.spot=none∧∃ r,E[a.block]?=some r∧((∃ a' c',v'=.slice (some a') n c'∧((a'=⟨r.1,a.off+r.2.1,none⟩∧c'=c+r.2.2)∨(n=0∧c=0∧c'=0∧∃ o',a'=⟨r.1,o',none⟩∧o'≤a.off+r.2.1)))∨(n=0∧c=0∧∃ a',v'=.slice a' 0 0)))
 | .map (some b)=>∃ r,E[b]?=some r∧v'=.map (some r.1)
 | .func _ _ _=>False
 | .agg _=>False
 | .tuple _=>False
 | v=>v'=v
def SR (E:Emb) (v v':Value):Prop :=
 match v with
 | .func f ⟨a⟩ ⟨c⟩=>∃ a' c',v'=.func f ⟨a'⟩ ⟨c'⟩∧L2 (S0 E) a a'∧L2 (S0 E) c c'
 | v=>S0 E v v'
def V1 (E:Emb) (v v':Value):Prop :=
 match v with
 | .agg ⟨cs⟩=>∃ cs',v'=.agg ⟨cs'⟩∧L2 (SR E) cs cs'
 | v=>SR E v v'
def VR (E:Emb) (v v':Value):Prop :=
 match v with
 | .tuple ⟨vs⟩=>∃ vs',v'=.tuple ⟨vs'⟩∧L2 (V1 E) vs vs'
 | v=>V1 E v v'
def Ext (E E':Emb):Prop:=∀ (k:Nat) (r:Nat × Nat × Nat),E[k]?=some r→E'[k]?=some r
theorem Ext.refl (E:Emb):Ext E E:=fun _ _ h=>h
theorem Ext.trans {A B C:Emb} (h:Ext A B) (k:Ext B C):Ext A C:=fun i r hi=>k i r (h i r hi)
theorem Ext.push (E:Emb) (r:Nat × Nat × Nat):Ext E (E++[r]):=fun k x hk=>by rw [List.getElem?_append_left (List.getElem?_eq_some_iff.1 hk).1]; exact hk
section
variable {E E':Emb}
theorem AR.ext (h:Ext E E') {a a':Addr} (k:AR E a a'):AR E' a a':=by obtain ⟨h1,r,h2,h3⟩:=k; exact ⟨h1,r,h _ _ h2,h3⟩
theorem S0.ext (h:Ext E E') {v v':Value} (k:S0 E v v'):S0 E' v v':=by
 cases v <;> first|exact k | skip
 case pointer a=>rcases a with _ | ⟨b,o,_ | s⟩ <;> first|exact k | (obtain ⟨a',h1,h2⟩:=k; exact ⟨a',h1,h2.ext h⟩)
 case slice a n c=>rcases a with _ | ⟨b,o,_ | s⟩ <;> first|exact k | (obtain ⟨h0,r,h1,h2⟩:=k; exact ⟨h0,r,h _ _ h1,h2⟩)
 case map a=>cases a <;> first|exact k | (obtain ⟨r,h1,h2⟩:=k; exact ⟨r,h _ _ h1,h2⟩)
theorem SR.ext (h:Ext E E') {v v':Value} (k:SR E v v'):SR E' v v':=by
 cases v <;> first|exact k | skip
 case pointer a=>exact S0.ext h (v:=.pointer a) k
 case slice a n c=>exact S0.ext h (v:=.slice a n c) k
 case map a=>exact S0.ext h (v:=.map a) k
 case func f a c=>obtain ⟨a⟩:=a; obtain ⟨c⟩:=c; obtain ⟨a',c',h1,h2,h3⟩:=k; exact ⟨a',c',h1,h2.mono fun _ _=>S0.ext h,h3.mono fun _ _=>S0.ext h⟩
theorem V1.ext (h:Ext E E') {v v':Value} (k:V1 E v v'):V1 E' v v':=by
 cases v <;> first|exact k | skip
 case pointer a=>exact SR.ext h (v:=.pointer a) k
 case slice a n c=>exact SR.ext h (v:=.slice a n c) k
 case map a=>exact SR.ext h (v:=.map a) k
 case func f a c=>exact SR.ext h (v:=.func f a c) k
 case agg cs=>obtain ⟨cs⟩:=cs; obtain ⟨cs',h1,h2⟩:=k; exact ⟨cs',h1,h2.mono fun _ _=>SR.ext h⟩
theorem VR.ext (h:Ext E E') {v v':Value} (k:VR E v v'):VR E' v v':=by
 cases v <;> first|exact k | skip
 case pointer a=>exact SR.ext h (v:=.pointer a) k
 case slice a n c=>exact SR.ext h (v:=.slice a n c) k
 case map a=>exact SR.ext h (v:=.map a) k
 case func f a c=>exact SR.ext h (v:=.func f a c) k
 case agg cs=>exact V1.ext h (v:=.agg cs) k
 case tuple cs=>obtain ⟨cs⟩:=cs; obtain ⟨cs',h1,h2⟩:=k; exact ⟨cs',h1,h2.mono fun _ _=>V1.ext h⟩
theorem SR.one {v v':Value} (h:SR E v v'):one v=true∧one v'=true:=by
 cases v <;> first|exact h.elim | skip
 case pointer a=>rcases a with _ | ⟨b,o,_ | s⟩ <;> first | (cases h; exact ⟨rfl,rfl⟩) | (obtain ⟨a',rfl,_⟩:=h; exact ⟨rfl,rfl⟩)
 case slice a _ _=>rcases a with _ | ⟨b,o,_ | s⟩ <;> first | (cases h; exact ⟨rfl,rfl⟩) | (obtain ⟨_,r,_,⟨a',c',rfl,_⟩ | ⟨_,_,_,rfl⟩⟩:=h <;> exact ⟨rfl,rfl⟩) | (rcases h with rfl | ⟨_,_,_,rfl⟩ <;> exact ⟨rfl,rfl⟩)
 case map a=>cases a <;> first | (cases h; exact ⟨rfl,rfl⟩) | (obtain ⟨r,_,rfl⟩:=h; exact ⟨rfl,rfl⟩)
 case func f a c=>obtain ⟨a⟩:=a; obtain ⟨c⟩:=c; obtain ⟨a',c',rfl,_⟩:=h; exact ⟨rfl,rfl⟩
 all_goals (cases h; exact ⟨rfl,rfl⟩)
theorem SR.vr {v v':Value} (h:SR E v v'):VR E v v':=by
 cases v <;> first|exact h|exact h.elim
theorem VR.sr {v v':Value} (h:VR E v v') (h1:Tum.one v=true):SR E v v':=by
 cases v <;> first|exact h | cases h1
theorem V1.vr {v v':Value} (h:V1 E v v'):VR E v v':=by
 cases v <;> first|exact h|exact h.elim
end
def stillS:Value→Bool
 | .pointer (some _)=>false
 | .slice (some _) _ _=>false
 | .map (some _)=>false
 | .func _ ⟨a⟩ ⟨c⟩=>a.isEmpty && c.isEmpty
 | .agg _=>false
 | .tuple _=>false
 | _=>true
def still:Value→Bool
 | .agg ⟨cs⟩=>cs.all stillS
 | v=>stillS v
def notTup:Value→Bool
 | .tuple _=>false
 | _=>true
section
variable {E:Emb}
theorem SR.still {v:Value} (h:stillS v=true):SR E v v:=by
 cases v <;> first | rfl | skip
 case pointer a=>cases a <;> first | rfl | cases h
 case slice a _ _=>cases a <;> first | rfl | cases h
 case map a=>cases a <;> first | rfl | cases h
 case func f a c =>
  obtain ⟨a⟩:=a; obtain ⟨c⟩:=c
  cases a with
  | cons=>cases h
  | nil=>cases c with
   | cons=>cases h
   | nil=>exact ⟨[],[],rfl,trivial,trivial⟩
 case agg=>cases h
 case tuple=>cases h
theorem SR.eq_still {v v':Value} (h:stillS v=true) (k:SR E v v'):v'=v:=by
 cases v <;> first|exact k | skip
 case pointer a=>cases a <;> first|exact k | cases h
 case slice a _ _=>cases a <;> first|exact k | cases h
 case map a=>cases a <;> first|exact k | cases h
 case func f a c =>
  obtain ⟨a⟩:=a; obtain ⟨c⟩:=c
  cases a with
  | cons=>cases h
  | nil=>cases c with
   | cons=>cases h
   | nil =>
    obtain ⟨a',c',rfl,h1,h2⟩:=k
    cases a' with
    | cons=>exact h1.elim
    | nil=>cases c' with
     | cons=>exact h2.elim
     | nil=>rfl
 case agg=>cases h
 case tuple=>cases h
theorem L2.eq_still:∀ {x y:List Value},x.all stillS=true→L2 (SR E) x y→y=x
 | [],[],_,_=>rfl
 | a::r,b::s,h,k=>by
  simp only [List.all_cons,Bool.and_eq_true] at h
  rw [SR.eq_still h.1 k.1,L2.eq_still h.2 k.2]
 | [],_::_,_,k=>k.elim
 | _::_,[],_,k=>k.elim
theorem VR.still {v:Value} (h:Tum.still v=true):VR E v v:=by
 cases v <;> first | rfl | skip
 case pointer a=>exact SR.still (v:=.pointer a) h
 case slice a n c=>exact SR.still (v:=.slice a n c) h
 case map a=>exact SR.still (v:=.map a) h
 case func f a c=>exact SR.still (v:=.func f a c) h
 case agg cs=>obtain ⟨cs⟩:=cs; exact ⟨cs,rfl,L2.self fun a ha=>SR.still (List.all_eq_true.1 h a ha)⟩
 case tuple=>cases h
theorem VR.v1 {v v':Value} (h:VR E v v') (hf:notTup v=true):V1 E v v':=by
 cases v <;> first|exact h | cases hf
theorem VR.undef:VR E undef undef:=⟨[],rfl,trivial⟩
theorem VR.cells {v v':Value} (h:VR E v v') (hf:notTup v=true):L2 (SR E) v.cells.toList v'.cells.toList:=by
 cases v <;> first | (cases hf; done) | skip
 case agg cs=>obtain ⟨cs⟩:=cs; obtain ⟨cs',rfl,h⟩:=h; exact h
 all_goals (have hs:=VR.sr h rfl; have h1:=hs.one.2; rw [one_cells h1,one_cells hs.one.1]; exact ⟨hs,trivial⟩)
theorem VR.cellsL {v v':Value} (h:VR E v v') (hf:notTup v=true):L2 (SR E) (cellsL v) (cellsL v'):=by
 have:=h.cells hf
 have e:∀ u:Value,Tum.cellsL u=u.cells.toList:=by intro u; cases u <;> rfl
 rw [e,e]; exact this
theorem AR.add {a a':Addr} (h:AR E a a') (k:Nat):AR E (a.add k) (a'.add k):=by
 obtain ⟨b,o,s⟩:=a
 obtain ⟨h1,r,h2,rfl⟩:=h
 cases h1
 rw [add_none,add_none]
 exact ⟨rfl,r,h2,by simp; omega⟩
end
def ER (E:Emb) (l l':Env):Prop:=∀ (t:Nat) (v:Value),eget l t=some v→∃ v',eget l' t=some v'∧VR E v v'
theorem ER.ext {E E':Emb} (h:Ext E E') {l l':Env} (k:ER E l l'):ER E' l l':=fun t v ht=>let ⟨v',h1,h2⟩:=k t v ht; ⟨v',h1,h2.ext h⟩
theorem ER.get {E:Emb} {l l':Env} {t:Nat} {v:Value} (k:ER E l l') (h:eget l t=some v):∃ v',eget l' t=some v'∧VR E v v':=k t v h
theorem ER.nil (E:Emb) (l':Env):ER E [] l':=fun _ _ h=>by cases h
theorem ER.cons {E:Emb} {l l':Env} {v v':Value} (d:Nat) (hv:VR E v v') (h:ER E l l'):ER E ((d,v)::l) ((d,v')::l'):=by
 intro t u ht
 rw [eget_cons] at ht ⊢
 by_cases e:d=t
 ·rw [if_pos e] at ht ⊢; cases ht; exact ⟨v',rfl,hv⟩
 ·rw [if_neg e] at ht ⊢; exact h t u ht
theorem ER.dpush {E:Emb} {l l':Env} {v v':Value} (h:ER E l l') (hv:VR E v v') (d:Option Nat):ER E (dpush d v l) (dpush d v' l'):=by
 cases d with
 | none=>exact h
 | some d=>exact ER.cons d hv h
def lv (l:Env):Operand→Option Value
 | .tmp t=>eget l t
 | .const v=>bif still v then some v else none
 | .global _=>none
 | .func f=>some (.func (.func f) #[] #[])
theorem lv_ev {E:Emb} {l l':Env} {x:Operand} {v:Value} (hl:ER E l l') (h:lv l x=some v):∃ v',ev l' x=some v'∧VR E v v':=by
 cases x with
 | tmp t=>exact hl.get h
 | const u =>
  simp only [lv] at h
  cases hs:still u
  ·rw [hs] at h; cases h
  ·rw [hs] at h; cases h; exact ⟨v,rfl,VR.still hs⟩
 | global g=>cases h
 | func f=>cases h; exact ⟨_,rfl,[],[],rfl,trivial,trivial⟩
def lvs (l:Env):List Operand→Option (List Value)
 | []=>some []
 | x::r=>match lv l x with
  | some v=>match lvs l r with
   | some vs=>some (v::vs)
   | none=>none
  | none=>none
theorem lvs_evs {E:Emb} {l l':Env} (hl:ER E l l'):∀ {xs:List Operand} {vs:List Value},lvs l xs=some vs→∃ vs',evs l' xs=some vs'∧L2 (VR E) vs vs'
 | [],vs,h=>by cases h; exact ⟨[],rfl,trivial⟩
 | x::r,vs,h=>by
  simp only [lvs] at h
  cases hx:lv l x with
  | none=>rw [hx] at h; cases h
  | some v =>
   rw [hx] at h
   cases hr:lvs l r with
   | none=>rw [hr] at h; cases h
   | some us =>
    rw [hr] at h; cases h
    obtain ⟨v',h1,h2⟩:=lv_ev hl hx
    obtain ⟨us',h3,h4⟩:=lvs_evs hl hr
    exact ⟨v'::us',by simp only [evs,h1,h3],h2,h4⟩
def bv (x i:Nat):Value:=.int .u8 (.ofNat (Nat.mod (Nat.shiftRight x (Nat.mul 8 i)) 256))
def bl (n x:Nat):List Value:=(List.range n).map (bv x)
def blF (x:Nat):Nat→Nat→List Value
 | _,0=>[]
 | o,n+1=>bv x o::blF x (o+1) n
def bset (x i u:Nat):Nat:=Nat.xor x (Nat.shiftLeft (Nat.xor (Nat.mod (Nat.shiftRight x (Nat.mul 8 i)) 256) u) (Nat.mul 8 i))
theorem bl_length (n x:Nat):(bl n x).length=n:=by simp [bl]
theorem bl_get {n x i:Nat} (h:i<n):(bl n x)[i]?=some (bv x i):=by simp [bl,h]
theorem blF_eq {x N:Nat}:∀ n o,o+n≤N→((bl N x).drop o).take n=blF x o n
 | 0,_,_=>by simp [blF]
 | n+1,o,h=>by
  have h1:o<(bl N x).length:=by rw [bl_length]; omega
  rw [List.drop_eq_getElem_cons h1,List.take_succ_cons,blF_eq n (o+1) (by omega),blF]
  congr 1
  have:=bl_get (n:=N) (x:=x) (i:=o) (by omega)
  rw [List.getElem?_eq_getElem h1] at this
  exact Option.some.inj this
theorem bl_still (n x:Nat):(bl n x).all stillS=true:=by
 rw [List.all_eq_true]; intro u hu; obtain ⟨i,_,rfl⟩:=List.mem_map.1 hu; rfl
theorem bset_bv {x i u j:Nat} (hu:u<256):bv (bset x i u) j=if j=i then .int .u8 (.ofNat u) else bv x j:=by
 show Value.int .u8 (.ofNat (((x ^^^ (((x >>> (8*i)) % 256 ^^^ u) <<< (8*i))) >>> (8*j)) % 256))=if j=i then .int .u8 (.ofNat u) else .int .u8 (.ofNat ((x >>> (8*j)) % 256))
 have h8:(256:Nat)=2 ^ 8:=rfl
 have hlt:((x >>> (8*i)) % 256 ^^^ u)<2 ^ 8:=Nat.xor_lt_two_pow (Nat.mod_lt _ (by decide)) hu
 by_cases e:j=i
 ·subst e
  rw [if_pos rfl]
  congr 2
  apply Nat.eq_of_testBit_eq
  intro k
  rw [h8]
  simp only [Nat.testBit_mod_two_pow,Nat.testBit_shiftRight,Nat.testBit_xor,Nat.testBit_shiftLeft]
  by_cases hk:k<8
  ·have h1:8*j+k≥8*j:=by omega
   have h2:8*j+k-8*j=k:=by omega
   simp [hk,h2]
  ·have:u.testBit k=false:=Nat.testBit_lt_two_pow (Nat.lt_of_lt_of_le hu (by rw [h8]; exact Nat.pow_le_pow_right (by decide) (by omega)))
   simp [hk,this]
 ·rw [if_neg e]
  congr 2
  apply Nat.eq_of_testBit_eq
  intro k
  rw [h8] at hlt ⊢
  simp only [Nat.testBit_mod_two_pow,Nat.testBit_shiftRight]
  by_cases hk:k<8
  ·rw [Nat.testBit_xor,Nat.testBit_shiftLeft]
   by_cases hji:j<i
   ·have:¬ (8*i≤8*j+k):=by omega
    simp [this]
   ·have:((x >>> (8*i)) % 2 ^ 8 ^^^ u).testBit (8*j+k-8*i)=false:=Nat.testBit_lt_two_pow (Nat.lt_of_lt_of_le hlt (Nat.pow_le_pow_right (by decide) (by omega)))
    rw [this]; simp
  ·simp [hk]
theorem bset_bl {n x i u:Nat} (hu:u<256):bl n (bset x i u)=(bl n x).set i (.int .u8 (.ofNat u)):=by
 apply List.ext_getElem?
 intro j
 rw [List.getElem?_set]
 by_cases hj:j<n
 ·rw [bl_get hj,bl_get hj,bset_bv hu,bl_length]
  by_cases e:j=i
  ·subst e; simp [hj]
  ·rw [if_neg e,if_neg (Ne.symm e)]
 ·rw [List.getElem?_eq_none (by rw [bl_length]; omega),List.getElem?_eq_none (l:=bl n x) (by rw [bl_length]; omega),bl_length]
  split
  ·rw [if_neg (by omega)]
  ·rfl
inductive LB where
 /-- cells; sz: the size of an element,if there may be room behind them (else 0) -/
 | cells (sz:Nat) (vs:List Value)
 /-- a whole block without addresses in it -/
 | data (vs:List Value)
 /-- a whole block of n bytes -/
 | bytes (n x:Nat)
 /-- what grows by append,without addresses in it; if it is empty there need be no block -/
 | gro (sz:Nat) (vs:List Value)
 | map (m:List (Value × Value × Nat)) (c:Nat)
 | iter (m:Option Nat) (since:Nat) (seen:List Nat) (last:Nat)
 | dead
 /-- whatever else is kept in the blocks F,of which its own one is the first -/
 | abs (A:Nat→World→Prop) (F:Nat→Prop)
 /-- a map of whole numbers: keys,elements,when they came -/
 | imap (G:List (Int × Int × Nat)) (c:Nat)
abbrev LH:=List LB
def mI (G:List (Int × Int × Nat)):List (Int × Value × Nat):=G.map fun x=>(x.1,.int .i64 x.2.1,x.2.2)
def ME (E:Emb) (x:Value × Value × Nat) (e:MapEntry):Prop:=V1 E x.1 e.key∧V1 E x.2.1 e.val∧e.born=x.2.2
def M2 (E:Emb):List (Value × Value × Nat)→List MapEntry→Prop
 | [],[]=>True
 | a::r,b::s=>ME E a b∧M2 E r s
 | _,_=>False
theorem M2.ext {E E':Emb} (h:Ext E E'):∀ {m:List (Value × Value × Nat)} {es:List MapEntry},M2 E m es→M2 E' m es
 | [],[],_=>trivial
 | _::_,_::_,k=>⟨⟨k.1.1.ext h,k.1.2.1.ext h,k.1.2.2⟩,k.2.ext h⟩
 | [],_::_,k=>k.elim
 | _::_,[],k=>k.elim
theorem M2.length {E:Emb}:∀ {m:List (Value × Value × Nat)} {es:List MapEntry},M2 E m es→es.length=m.length
 | [],[],_=>rfl
 | _::_,_::_,k=>by simp [M2.length k.2]
 | [],_::_,k=>k.elim
 | _::_,[],k=>k.elim
def foot (r:Nat × Nat × Nat):LB→Nat→Prop
 | .dead=>fun _=>False
 | .abs _ F=>F
 | .gro _ []=>fun _=>False
 | _=>(·=r.1)
def LBis (E:Emb) (w:World) (r:Nat × Nat × Nat):LB→Prop
 | .cells sz vs=>∃ cs,Blk w r.1 cs∧L2 (SR E) vs ((cs.drop r.2.1).take vs.length)∧r.2.1+vs.length+r.2.2*sz≤cs.length∧(sz=0→r.2.2=0)
 | .data vs=>Blk w r.1 vs∧r.2=(0,0)
 | .bytes n x=>Blk w r.1 (bl n x)∧r.2=(0,0)
 | .gro sz vs=>(vs=[]∧r.2.2=0)∨(vs≠[]∧0<sz∧∃ cs,Blk w r.1 cs∧(cs.drop r.2.1).take vs.length=vs∧r.2.1+vs.length+r.2.2*sz≤cs.length)
 | .map m c=>∃ es:List MapEntry,w.heap[r.1]?=some (.map es.toArray c)∧M2 E m es
 | .iter m since seen last=>r.2=(0,0)∧∃ m',w.heap[r.1]?=some (.mapIter m' since seen.toArray last)∧(match m with
  | none=>m'=none
  | some b=>∃ q,E[b]?=some q∧m'=some q.1)
 | .dead=>True
 | .abs A F=>A r.1 w∧r.2=(0,0)∧∀ w1 w2 G,A r.1 w1→Fr G w1 w2→(∀ b,F b→¬ G b)→A r.1 w2
 | .imap G c=>Mp (Value.int .i64) w r.1 (mI G) c∧Wf (mI G) c
theorem LBis.fr {E:Emb} {w w':World} {r:Nat × Nat × Nat} {x:LB} {F:Nat→Prop} (h:LBis E w r x) (hf:Fr F w w') (hlt:∀ b,foot r x b→b<w.heap.size) (hn:∀ b,foot r x b→¬ F b):LBis E w' r x:=by
 cases x with
 | cells sz vs=>obtain ⟨cs,h1,h2⟩:=h; exact ⟨cs,hf.blk h1 (hn _ rfl),h2⟩
 | data vs=>exact ⟨hf.blk h.1 (hn _ rfl),h.2⟩
 | bytes n x=>exact ⟨hf.blk h.1 (hn _ rfl),h.2⟩
 | gro sz vs =>
  rcases h with h | ⟨h0,h1,cs,h2,h3⟩
  ·exact .inl h
  ·refine .inr ⟨h0,h1,cs,hf.blk h2 (hn _ ?_),h3⟩
   cases vs with
   | nil=>exact absurd rfl h0
   | cons=>rfl
 | map m c=>obtain ⟨es,h1,h2⟩:=h; exact ⟨es,(hf.keep _ (Array.getElem?_eq_some_iff.1 h1).1 (hn _ rfl)).trans h1,h2⟩
 | iter m a b c=>obtain ⟨h0,es,h1,h2⟩:=h; exact ⟨h0,es,(hf.keep _ (Array.getElem?_eq_some_iff.1 h1).1 (hn _ rfl)).trans h1,h2⟩
 | dead=>trivial
 | abs A F=>exact ⟨h.2.2 _ _ _ h.1 hf (fun b hb=>hn b hb),h.2⟩
 | imap G c=>exact ⟨h.1.fr hf (hn _ rfl),h.2⟩
theorem LBis.ext {E E':Emb} {w:World} {r:Nat × Nat × Nat} {x:LB} (h:LBis E w r x) (he:Ext E E'):LBis E' w r x:=by
 cases x with
 | cells sz vs=>obtain ⟨cs,h1,h2,h3⟩:=h; exact ⟨cs,h1,h2.mono fun _ _=>SR.ext he,h3⟩
 | data vs=>exact h
 | bytes n x=>exact h
 | gro sz vs=>exact h
 | map m c=>obtain ⟨es,h1,h2⟩:=h; exact ⟨es,h1,h2.ext he⟩
 | iter m a b c =>
  obtain ⟨h0,es,h1,h2⟩:=h
  refine ⟨h0,es,h1,?_⟩
  cases m with
  | none=>exact h2
  | some b=>obtain ⟨q,h3,h4⟩:=h2; exact ⟨q,he _ _ h3,h4⟩
 | dead=>trivial
 | abs A F=>exact h
 | imap G c=>exact h
structure Rep (X:Nat→Prop) (w0:World) (E:Emb) (L:LH) (w:World):Prop where
 fr:Fr X w0 w
 len:E.length=L.length
 rng:∀ (k:Nat) (x:LB) (r:Nat × Nat × Nat),L[k]?=some x→E[k]?=some r→∀ b,foot r x b→(w0.heap.size≤b∨X b)∧b<w.heap.size
 blk:∀ (k:Nat) (x:LB) (r:Nat × Nat × Nat),L[k]?=some x→E[k]?=some r→LBis E w r x
 inj:∀ (k k':Nat) (x x':LB) (r r':Nat × Nat × Nat) (b:Nat),L[k]?=some x→L[k']?=some x'→E[k]?=some r→E[k']?=some r'→foot r x b→foot r' x' b→k=k'
theorem Rep.nil (X:Nat→Prop) (w:World):Rep X w [] [] w:=⟨Fr.refl _ w,rfl,fun k x r h=>by simp at h,fun k x r h=>by simp at h,fun k k' x x' r r' b h=>by simp at h⟩
section
variable {X:Nat→Prop} {w0 w w':World} {E:Emb} {L:LH}
theorem Rep.ent (h:Rep X w0 E L w) {b:Nat} {x:LB} (hx:L[b]?=some x):∃ r,E[b]?=some r :=
 ⟨_,List.getElem?_eq_getElem (by rw [h.len]; exact (List.getElem?_eq_some_iff.1 hx).1)⟩
theorem Rep.frT (h:Rep X w0 E L w) {b:Nat} {y:LB} {r:Nat × Nat × Nat} (hy:L[b]?=some y) (hr:E[b]?=some r) (hf:Fr (foot r y) w w'):Fr X w0 w' :=
 h.fr.trans hf fun c hc e=>by rcases (h.rng b y r hy hr c e).1 with h1 | h1 <;> first | omega|exact h1
theorem Rep.upd {b:Nat} {x y:LB} {r:Nat × Nat × Nat} (h:Rep X w0 E L w) (hy:L[b]?=some y) (hr:E[b]?=some r) (hf:Fr (foot r y) w w') (hx:LBis E w' r x) (hft:∀ c,foot r x c→foot r y c∨(w.heap.size≤c∧c<w'.heap.size)):Rep X w0 E (L.set b x) w':=by
 have hlt:=(List.getElem?_eq_some_iff.1 hy).1
 have cut:∀ (k:Nat) (z:LB),(L.set b x)[k]?=some z→(k=b∧z=x)∨(k≠b∧L[k]?=some z):=by
  intro k z hz
  rw [List.getElem?_set] at hz
  by_cases e:b=k
  ·subst e
   rw [if_pos rfl,if_pos hlt] at hz; cases hz
   exact .inl ⟨rfl,rfl⟩
  ·rw [if_neg e] at hz; exact .inr ⟨fun e'=>e e'.symm,hz⟩
 have frs:=h.fr.size
 refine ⟨h.frT hy hr hf,by rw [h.len,List.length_set],fun k z r' hz hr' c hc=>?_,fun k z r' hz hr'=>?_,fun k k' z z' r1 r2 c hz hz' h1 h2 e1 e2=>?_⟩
 ·rcases cut k z hz with ⟨rfl,rfl⟩ | ⟨_,hz⟩
  ·rw [hr] at hr'; cases hr'
   rcases hft c hc with h1 | h1
   ·have:=h.rng _ y _ hy hr c h1; exact ⟨this.1,Nat.lt_of_lt_of_le this.2 hf.size⟩
   ·exact ⟨.inl (by omega),h1.2⟩
  ·have:=h.rng k z r' hz hr' c hc; exact ⟨this.1,Nat.lt_of_lt_of_le this.2 hf.size⟩
 ·rcases cut k z hz with ⟨rfl,rfl⟩ | ⟨hne,hz⟩
  ·rw [hr] at hr'; cases hr'; exact hx
  ·exact (h.blk k z r' hz hr').fr hf (fun c hc=>(h.rng k z r' hz hr' c hc).2) fun c hc hc'=>hne (h.inj k b z y r' r c hz hy hr' hr hc hc')
 ·rcases cut k z hz with ⟨rfl,rfl⟩ | ⟨hne,hz0⟩
  ·rcases cut k' z' hz' with ⟨rfl,rfl⟩ | ⟨hne',hz'⟩
   ·rfl
   ·rw [hr] at h1; cases h1
    rcases hft c e1 with h3 | h3
    ·exact absurd (h.inj _ _ y z' _ _ c hy hz' hr h2 h3 e2).symm hne'
    ·have:=(h.rng _ _ _ hz' h2 c e2).2; omega
  ·rcases cut k' z' hz' with ⟨rfl,rfl⟩ | ⟨hne',hz1⟩
   ·rw [hr] at h2; cases h2
    rcases hft c e2 with h3 | h3
    ·exact absurd (h.inj _ _ z y _ _ c hz0 hy h1 hr e1 h3) hne
    ·have:=(h.rng _ _ _ hz0 h1 c e1).2; omega
   ·exact h.inj k k' z z' r1 r2 c hz0 hz1 h1 h2 e1 e2
theorem Rep.push {x:LB} {r:Nat × Nat × Nat} (h:Rep X w0 E L w) (hf:Fr (fun _=>False) w w') (hft:∀ b,foot r x b→w.heap.size≤b∧b<w'.heap.size) (hx:LBis (E++[r]) w' r x):Rep X w0 (E++[r]) (L++[x]) w':=by
 have cut:∀ (k:Nat) (z:LB) (r':Nat × Nat × Nat),(L++[x])[k]?=some z→(E++[r])[k]?=some r'→(L[k]?=some z∧E[k]?=some r')∨(k=E.length∧z=x∧r'=r):=by
  intro k z r' hz hk
  rw [List.getElem?_append] at hk hz
  rw [h.len] at hk
  split at hk
  ·rename_i hlt; rw [if_pos hlt] at hz; exact .inl ⟨hz,hk⟩
  ·rename_i hlt
   rw [if_neg hlt] at hz
   have:k=E.length:=by
    have:=(List.getElem?_eq_some_iff.1 hk).1
    simp at this; rw [h.len]; omega
   subst this
   rw [h.len] at hk hz
   simp at hk hz
   exact .inr ⟨rfl,hz.symm,hk.symm⟩
 refine ⟨h.fr.trans hf fun _ _ e=>e.elim,by simp [h.len],fun k z r' hz hk c hc=>?_,fun k z r' hz hk=>?_,fun k k' z z' r1 r2 c hz hz' h1 h2 e1 e2=>?_⟩
 ·rcases cut k z r' hz hk with ⟨a0,a1⟩ | ⟨_,rfl,rfl⟩
  ·have h1:=h.rng k z r' a0 a1 c hc; have:=hf.size; exact ⟨h1.1,by omega⟩
  ·have:=h.fr.size; have:=hft c hc; exact ⟨.inl (by omega),by omega⟩
 ·rcases cut k z r' hz hk with ⟨a0,a1⟩ | ⟨_,rfl,rfl⟩
  ·exact ((h.blk k z r' a0 a1).fr hf (fun c hc=>(h.rng k z r' a0 a1 c hc).2) fun _ _ e=>e).ext (Ext.push E r)
  ·exact hx
 ·rcases cut k z r1 hz h1 with ⟨a0,a1⟩ | ⟨rfl,rfl,rfl⟩
  ·rcases cut k' z' r2 hz' h2 with ⟨b0,b1⟩ | ⟨rfl,rfl,rfl⟩
   ·exact h.inj k k' z z' r1 r2 c a0 b0 a1 b1 e1 e2
   ·have:=(h.rng k z r1 a0 a1 c e1).2; have:=hft c e2; omega
  ·rcases cut k' z' r2 hz' h2 with ⟨b0,b1⟩ | ⟨rfl,rfl,rfl⟩
   ·have:=(h.rng k' z' r2 b0 b1 c e2).2; have:=hft c e1; omega
   ·rfl
theorem Rep.push1 {x:LB} {r:Nat × Nat × Nat} (h:Rep X w0 E L w) (hf:Fr (fun _=>False) w w') (hr:r.1=w.heap.size) (hs:w'.heap.size=w.heap.size+1) (hft:∀ b,foot r x b→b=r.1) (hx:LBis (E++[r]) w' r x):Rep X w0 (E++[r]) (L++[x]) w' :=
 h.push hf (fun b hb=>by have:=hft b hb; omega) hx
def LB.vals:LB→Option (List Value)
 | .cells _ vs=>some vs
 | .data vs=>bif vs.all stillS then some vs else none
 | .bytes n x=>some (bl n x)
 | .gro _ vs=>bif vs.all stillS then some vs else none
 | _=>none
def lcell (L:LH) (a:Addr):Option Value :=
 match a with
 | ⟨b,o,none⟩=>match L[b]? with
  | some (.cells _ vs)=>vs[o]?
  | some (.data vs)=>match vs[o]? with
   | some v=>bif stillS v then some v else none
   | none=>none
  | some (.bytes n x)=>bif Nat.blt o n then (match Nat.mod (Nat.shiftRight x (Nat.mul 8 o)) 256 with
   | 0=>some (.int .u8 (.ofNat 0))
   | k+1=>some (.int .u8 (.ofNat (k+1)))) else none
  | some (.gro _ vs)=>match vs[o]? with
   | some v=>bif stillS v then some v else none
   | none=>none
  | _=>none
 | _=>none
theorem lcell_ok (h:Rep X w0 E L w) {a a':Addr} {v:Value} (ha:AR E a a') (hc:lcell L a=some v):∃ v',w.cell? a'=some v'∧SR E v v':=by
 obtain ⟨b,o,s⟩:=a
 obtain ⟨h1,r,h2,rfl⟩:=ha
 cases h1
 simp only [lcell] at hc
 cases hb:L[b]? with
 | none=>rw [hb] at hc; cases hc
 | some x =>
  rw [hb] at hc
  cases x <;> first | (cases hc; done) | skip
  case cells sz vs =>
   obtain ⟨cs,hB,hl,_,_⟩:=h.blk b _ r hb h2
   obtain ⟨v',h3,h4⟩:=hl.get hc
   refine ⟨v',hB.cell ?_,h4⟩
   rw [List.getElem?_take] at h3
   split at h3
   ·rw [List.getElem?_drop] at h3; rw [← h3]; congr 1; simp; omega
   ·cases h3
  case data vs =>
   obtain ⟨hB,hr0⟩:=h.blk b _ r hb h2
   obtain ⟨r1,r2⟩:=r
   simp only at hr0; subst hr0
   simp only at hc
   cases hv:vs[o]? with
   | none=>rw [hv] at hc; cases hc
   | some u =>
    rw [hv] at hc
    simp only at hc
    cases hs:stillS u
    ·rw [hs] at hc; cases hc
    ·rw [hs] at hc; cases hc
     exact ⟨v,hB.cell (by simpa using hv),SR.still hs⟩
  case bytes n x =>
   obtain ⟨hB,hr0⟩:=h.blk b _ r hb h2
   obtain ⟨r1,r2⟩:=r
   simp only at hr0; subst hr0
   simp only at hc
   cases hlt:Nat.blt o n
   ·rw [hlt] at hc; cases hc
   ·rw [hlt] at hc
    have hc:some (bv x o)=some v:=by
     rw [← hc]
     show some (Value.int .u8 (.ofNat (Nat.mod (Nat.shiftRight x (Nat.mul 8 o)) 256)))=_
     cases Nat.mod (Nat.shiftRight x (Nat.mul 8 o)) 256 <;> rfl
    cases hc
    have hlt:o<n:=Nat.le_of_ble_eq_true hlt
    exact ⟨_,hB.cell (by simpa using bl_get hlt),rfl⟩
  case gro sz vs =>
   simp only at hc
   cases hv:vs[o]? with
   | none=>rw [hv] at hc; cases hc
   | some u =>
    rw [hv] at hc
    simp only at hc
    cases hs:stillS u
    ·rw [hs] at hc; cases hc
    ·rw [hs] at hc; cases hc
     rcases h.blk b _ r hb h2 with ⟨rfl,_⟩ | ⟨_,_,cs,hB,hcs,hle⟩
     ·simp at hv
     ·refine ⟨v,hB.cell ?_,SR.still hs⟩
      rw [← hcs] at hv
      rw [List.getElem?_take] at hv
      split at hv
      ·rw [List.getElem?_drop] at hv; rw [← hv]; congr 1; simp; omega
      ·cases hv
def lcells (L:LH) (a:Addr) (n:Nat):Option (List Value) :=
 match a with
 | ⟨b,o,none⟩=>match L[b]? with
  | some (.cells _ vs)=>bif Nat.ble (o+n) vs.length then some ((vs.drop o).take n) else none
  | some (.data vs)=>bif Nat.ble (o+n) vs.length && ((vs.drop o).take n).all stillS then some ((vs.drop o).take n) else none
  | some (.bytes N x)=>bif Nat.ble (o+n) N then some (blF x o n) else none
  | some (.gro _ vs)=>bif Nat.ble (o+n) vs.length && ((vs.drop o).take n).all stillS && !vs.isEmpty then some ((vs.drop o).take n) else none
  | _=>none
 | _=>none
theorem lcells_ok (h:Rep X w0 E L w) {a a':Addr} {n:Nat} {vs:List Value} (ha:AR E a a') (hc:lcells L a n=some vs) :
  ∃ cs vs':List Value,Blk w a'.block cs∧a'.spot=none∧a'.off+n≤cs.length∧vs'=(cs.drop a'.off).take n∧L2 (SR E) vs vs'∧vs'.length=n:=by
 obtain ⟨b,o,s⟩:=a
 obtain ⟨h1,r,h2,rfl⟩:=ha
 cases h1
 simp only [lcells] at hc
 cases hb:L[b]? with
 | none=>rw [hb] at hc; cases hc
 | some x =>
  rw [hb] at hc
  cases x <;> first | (cases hc; done) | skip
  case cells sz us =>
   simp only at hc
   cases hl:Nat.ble (o+n) us.length
   ·rw [hl] at hc; cases hc
   ·rw [hl] at hc; cases hc
    have hle:=Nat.le_of_ble_eq_true hl
    obtain ⟨cs,hB,h3,h4,_⟩:=h.blk b _ r hb h2
    have h5:=(h3.drop o).take n
    have e:(((cs.drop r.2.1).take us.length).drop o).take n=(cs.drop (o+r.2.1)).take n:=by
     rw [List.drop_take,List.take_take,List.drop_drop]
     congr 1
     ·omega
     ·rw [Nat.add_comm]
    rw [e] at h5
    exact ⟨cs,_,hB,rfl,by simp; omega,rfl,h5,by simp; omega⟩
  case data us =>
   simp only at hc
   cases hl:(Nat.ble (o+n) us.length && ((us.drop o).take n).all stillS)
   ·rw [hl] at hc; cases hc
   ·rw [hl] at hc; cases hc
    rw [Bool.and_eq_true] at hl
    have hle:=Nat.le_of_ble_eq_true hl.1
    obtain ⟨hB,hr0⟩:=h.blk b _ r hb h2
    obtain ⟨r1,r2⟩:=r
    simp only at hr0; subst hr0
    exact ⟨us,_,hB,rfl,by simp; omega,rfl,by simpa using L2.self fun a ha=>SR.still (List.all_eq_true.1 hl.2 a ha),by simp; omega⟩
  case bytes N y =>
   simp only at hc
   cases hl:Nat.ble (o+n) N
   ·rw [hl] at hc; cases hc
   ·rw [hl] at hc; cases hc
    have hle:=Nat.le_of_ble_eq_true hl
    obtain ⟨hB,hr0⟩:=h.blk b _ r hb h2
    obtain ⟨r1,r2⟩:=r
    simp only at hr0; subst hr0
    have hq:=blF_eq (x:=y) n o hle
    refine ⟨_,_,hB,rfl,by rw [bl_length]; simpa using hle,rfl,?_,by simp [bl_length]; omega⟩
    simp only [Nat.add_zero]
    rw [hq]
    exact L2.self fun a ha=>SR.still (List.all_eq_true.1 (bl_still N y) a (List.mem_of_mem_drop (List.mem_of_mem_take (hq ▸ ha))))
  case gro sz us =>
   simp only at hc
   cases hl:(Nat.ble (o+n) us.length && ((us.drop o).take n).all stillS && !us.isEmpty)
   ·rw [hl] at hc; cases hc
   ·rw [hl] at hc; cases hc
    simp only [Bool.and_eq_true] at hl
    have hle:=Nat.le_of_ble_eq_true hl.1.1
    rcases h.blk b _ r hb h2 with ⟨rfl,_⟩ | ⟨_,_,cs,hB,hcs,hle2⟩
    ·simp at hl
    ·have e:(cs.drop (o+r.2.1)).take n=(us.drop o).take n:=by
      have h6:(us.drop o).take n=(((cs.drop r.2.1).take us.length).drop o).take n:=by rw [hcs]
      rw [h6,List.drop_take,List.take_take,List.drop_drop]
      congr 1
      ·omega
      ·rw [Nat.add_comm]
     refine ⟨cs,_,hB,rfl,by simp; omega,rfl,?_,by simp; omega⟩
     simp only [e]
     exact L2.self fun a ha=>SR.still (List.all_eq_true.1 hl.1.2 a ha)
end
end Go.Tum
end
section
namespace Go.Tum
open Go
def bldL (l:Env):List Value→List (Nat × Nat × Operand)→Option (List Value)
 | zero,[]=>some zero
 | zero,(off,sz,x)::r=>match lv l x with
  | some u=>bif notTup u && Nat.beq (cellsL u).length sz then (match setL zero off (cellsL u) with
   | some z=>bldL l z r
   | none=>none) else none
  | none=>none
theorem setL_L2 {R:Value→Value→Prop}:∀ (z:List Value) (o:Nat) (vs:List Value) {r z' vs':List Value},setL z o vs=some r→L2 R z z'→L2 R vs vs'→∃ r',setL z' o vs'=some r'∧L2 R r r'
 | z,o,[],r,z',vs',h,hz,hv=>by
  cases vs' with
  | cons=>exact hv.elim
  | nil=>simp only [setL] at h; cases h; exact ⟨z',by simp [setL],hz⟩
 | [],o,v::vs,r,z',vs',h,hz,hv=>by simp only [setL] at h; cases h
 | a::z,0,v::vs,r,z',vs',h,hz,hv=>by
  cases z' with
  | nil=>exact hz.elim
  | cons a' z' =>
   cases vs' with
   | nil=>exact hv.elim
   | cons v' vs' =>
    simp only [setL] at h
    cases hq:setL z 0 vs with
    | none=>rw [hq] at h; cases h
    | some r1 =>
     rw [hq] at h; cases h
     obtain ⟨r',h1,h2⟩:=setL_L2 z 0 vs hq hz.2 hv.2
     exact ⟨v'::r',by simp only [setL,h1],hv.1,h2⟩
 | a::z,o+1,v::vs,r,z',vs',h,hz,hv=>by
  cases z' with
  | nil=>exact hz.elim
  | cons a' z' =>
   cases vs' with
   | nil=>exact hv.elim
   | cons v' vs' =>
    simp only [setL] at h
    cases hq:setL z o (v::vs) with
    | none=>rw [hq] at h; cases h
    | some r1 =>
     rw [hq] at h; cases h
     obtain ⟨r',h1,h2⟩:=setL_L2 z o (v::vs) hq hz.2 hv
     exact ⟨a'::r',by simp only [setL,h1],hz.1,h2⟩
theorem bldL_ok {E:Emb} {l l':Env} (hl:ER E l l'):∀ (ps:List (Nat × Nat × Operand)) (z z':List Value) {vs:List Value},bldL l z ps=some vs→L2 (SR E) z z'→∃ vs',bldv l' z' ps=some vs'∧L2 (SR E) vs vs'
 | [],z,z',vs,h,hz=>by cases h; exact ⟨z',rfl,hz⟩
 | (off,sz,x)::r,z,z',vs,h,hz=>by
  simp only [bldL] at h
  cases hx:lv l x with
  | none=>rw [hx] at h; cases h
  | some u =>
   rw [hx] at h
   simp only at h
   cases hb:(notTup u && Nat.beq (cellsL u).length sz)
   ·rw [hb] at h; cases h
   ·rw [hb] at h
    simp only [cond_true] at h
    rw [Bool.and_eq_true] at hb
    cases hq:setL z off (cellsL u) with
    | none=>rw [hq] at h; cases h
    | some z1 =>
     rw [hq] at h
     obtain ⟨u',h1,h2⟩:=lv_ev hl hx
     have hc:=h2.cellsL hb.1
     obtain ⟨z2,h3,h4⟩:=setL_L2 _ _ _ hq hz hc
     obtain ⟨vs',h5,h6⟩:=bldL_ok hl r z1 z2 h h4
     refine ⟨vs',?_,h6⟩
     simp only [bldv,h1,hc.length,hb.2,cond_true,h3,h5]
def lint (l:Env) (x:Operand):Option Int :=
 match lv l x with
 | some (.int _ i)=>some i
 | _=>none
theorem lint_ok {E:Emb} {l l':Env} {x:Operand} {i:Int} (hl:ER E l l') (h:lint l x=some i):∃ k,ev l' x=some (.int k i):=by
 unfold lint at h
 cases hx:lv l x with
 | none=>rw [hx] at h; cases h
 | some v =>
  rw [hx] at h
  cases v <;> first | (cases h; done) | skip
  case int k j=>cases h; obtain ⟨v',h1,rfl⟩:=lv_ev hl hx; exact ⟨k,h1⟩
def lbound (l:Env) (x:Option Operand) (d:Nat):Option Nat :=
 match x with
 | none=>some d
 | some x=>match lint l x with
  | some (.ofNat i)=>some i
  | _=>none
theorem lbound_ok {E:Emb} {l l':Env} {x:Option Operand} {d k:Nat} (hl:ER E l l') (h:lbound l x d=some k):obound l' x d k:=by
 cases x with
 | none=>cases h; rfl
 | some x =>
  simp only [lbound] at h
  cases hi:lint l x with
  | none=>rw [hi] at h; cases h
  | some i =>
   rw [hi] at h
   cases i with
   | negSucc i=>cases h
   | ofNat i=>cases h; obtain ⟨kd,hk⟩:=lint_ok hl hi; exact ⟨kd,_,hk,Int.natCast_nonneg _,rfl⟩
def lptr (l:Env) (x:Operand):Option Addr :=
 match lv l x with
 | some (.pointer (some p))=>(match p.spot with
  | none=>some p
  | some _=>none)
 | _=>none
theorem lptr_ok {E:Emb} {l l':Env} {x:Operand} {p:Addr} (hl:ER E l l') (h:lptr l x=some p):∃ p',ev l' x=some (.pointer (some p'))∧AR E p p':=by
 unfold lptr at h
 cases hx:lv l x with
 | none=>rw [hx] at h; cases h
 | some v =>
  rw [hx] at h
  cases v <;> first | (cases h; done) | skip
  case pointer a =>
  rcases a with _ | ⟨b,o,_ | s⟩ <;> cases h
  obtain ⟨v',h1,a',rfl,h2⟩:=lv_ev hl hx
  exact ⟨a',h1,h2⟩
theorem AR.vr {E:Emb} {a a':Addr} (h:AR E a a'):VR E (.pointer (some a)) (.pointer (some a')):=by
 rcases a with ⟨b,o,_ | s⟩
 ·exact ⟨a',rfl,h⟩
 ·cases h.1
def ikEq (a b:IntKind):Bool:=decide (a=b)
def s0:Value→Bool
 | .func _ _ _=>false
 | .agg _=>false
 | .tuple _=>false
 | _=>true
theorem VR.s0 {E:Emb} {v v':Value} (h:VR E v v') (h0:Tum.s0 v=true):S0 E v v':=by
 cases v <;> first|exact h | cases h0
theorem L2.s0 {E:Emb}:∀ {x y:List Value},x.all Tum.s0=true→L2 (VR E) x y→L2 (S0 E) x y
 | [],[],_,_=>trivial
 | _::_,_::_,h,k=>by
  simp only [List.all_cons,Bool.and_eq_true] at h
  exact ⟨k.1.s0 h.1,L2.s0 h.2 k.2⟩
 | [],_::_,_,k=>k.elim
 | _::_,[],_,k=>k.elim
def lq (lraw:LH→Env→Oper→Option Value) (L:LH) (l:Env):QOp→Option Value
 | .mov x=>lv l x
 | .pick c a b=>match lv l c with
  | some (.bool t)=>bif t then lv l a else lv l b
  | _=>none
 | .nilc x=>match lv l x with
  | some (.pointer (some p))=>some (.pointer (some p))
  | some (.func (.func f) a c)=>some (.func (.func f) a c)
  | _=>none
 | .fld x off=>match lptr l x with
  | some p=>some (.pointer (some (p.add off)))
  | none=>none
 | .fldv x off=>match lv l x with
  | some (.agg ⟨cs⟩)=>cs[off]?
  | _=>none
 | .fldn x off k=>match lv l x with
  | some (.agg ⟨cs⟩)=>some (.agg ⟨(cs.take (off+k)).drop off⟩)
  | _=>none
 | .idx x i size=>match lv l x,lint l i with
  | some (.slice (some p) n _),some (.ofNat j)=>bif Nat.blt j n then (match p.spot with
   | none=>some (.pointer (some (p.add (j*size))))
   | some s=>some (.pointer (some ⟨p.block,p.off+j*size,some s⟩))) else none
  | _,_=>none
 | .idxa x i n size=>match lptr l x,lint l i with
  | some p,some (.ofNat j)=>bif Nat.blt j n then some (.pointer (some (p.add (j*size)))) else none
  | _,_=>none
 | .ext x k=>match lv l x with
  | some (.tuple ⟨vs⟩)=>vs[k]?
  | _=>none
 | .bin op x y=>match lv l x,lv l y with
  | some (.int k a),some (.int k' b)=>bif ikEq k k' then (match ibin op k a b with
   | some v=>bif still v then some v else none
   | none=>none) else none
  | _,_=>none
 | .nilp neg x=>match lv l x with
  | some (.pointer p)=>some (.bool (if neg then p.isSome else p.isNone))
  | _=>none
 | .un op x=>match op,lv l x with
  | .not,some (.bool b)=>some (.bool (!b))
  | .neg,some (.int k n)=>some (.int k (k.wrap (0-n)))
  | _,_=>none
 | .cvi k x=>match lint l x with
  | some i=>some (.int k (k.wrap i))
  | none=>none
 | .len x=>match lv l x with
  | some (.slice _ n _)=>some (.int .i64 n)
  | _=>none
 | .slc x lo hi size=>match lv l x with
  | some (.slice p n c)=>match lbound l lo 0,lbound l hi n with
   | some lo',some hi'=>bif Nat.ble lo' hi' && Nat.ble hi' c then (match p with
    | none=>some (.slice none (hi'-lo') (c-lo'))
    | some p=>match p.spot with
     | none=>some (.slice (some (p.add (lo'*size))) (hi'-lo') (c-lo'))
     | some _=>bif Nat.beq lo' 0 then some (.slice (some p) hi' c) else none) else none
   | _,_=>none
  | _=>none
 | .bld zero parts=>bif zero.all stillS then (match bldL l zero parts with
   | some vs=>some (.agg ⟨vs⟩)
   | none=>none) else none
 | .ld x=>match lptr l x with
  | some p=>lcell L p
  | none=>none
 | .ldn x n=>match lptr l x with
  | some p=>match lcells L p n with
   | some vs=>some (.agg ⟨vs⟩)
   | none=>none
  | none=>none
 | .sh lft x y=>match lv l x,lv l y with
  | some (.int k a),some (.int _ (.ofNat n))=>some (.int k (ishift lft k a (.ofNat n)))
  | _,_=>none
 | .xorn x=>match lv l x with
  | some (.int k n)=>some (.int k (ixorn k n))
  | _=>none
 | .mm mx x y=>match lv l x,lv l y with
  | some (.int k a),some (.int k' b)=>bif ikEq k k' then some (.int k (imm mx a b)) else none
  | _,_=>none
 | .mkf fn first cap=>match lvs l first,lvs l cap with
  | some a,some c=>bif a.all s0 && c.all s0 then some (.func fn ⟨a⟩ ⟨c⟩) else none
  | _,_=>none
 | .raw o=>lraw L l o
def RawOk (P:Program) (lraw:LH→Env→Oper→Option Value):Prop :=
 ∀ X w0 w E L l l' o v,lraw L l o=some v→Rep X w0 E L w→ER E l l'→∃ v',(QOp.raw o).Y P l' v' w∧VR E v v'
theorem lq_ok {P:Program} {lraw:LH→Env→Oper→Option Value} (hr:RawOk P lraw) {X:Nat→Prop} {w0 w:World} {E:Emb} {L:LH} {l l':Env} {q:QOp} {v:Value} (h:lq lraw L l q=some v) (hR:Rep X w0 E L w) (hl:ER E l l') :
  ∃ v',q.Y P l' v' w∧VR E v v':=by
 cases q with
 | mov x=>exact lv_ev hl h
 | pick c a b =>
  simp only [lq] at h
  cases hc:lv l c with
  | none=>rw [hc] at h; cases h
  | some t =>
   rw [hc] at h
   cases t <;> first | (cases h; done) | skip
   case bool t =>
   obtain ⟨t',h1,rfl⟩:=lv_ev hl hc
   cases t
   ·obtain ⟨v',h2,h3⟩:=lv_ev hl h; exact ⟨v',⟨false,h1,h2⟩,h3⟩
   ·obtain ⟨v',h2,h3⟩:=lv_ev hl h; exact ⟨v',⟨true,h1,h2⟩,h3⟩
 | nilc x =>
  simp only [lq] at h
  cases hx:lv l x with
  | none=>rw [hx] at h; cases h
  | some u =>
   rw [hx] at h
   obtain ⟨u',h1,h2⟩:=lv_ev hl hx
   split at h <;> first | (cases h; done) | skip
   ·rename_i p hp
    cases hp; cases h
    rcases p with ⟨b,o,_ | s⟩
    ·obtain ⟨p',rfl,h3⟩:=h2
     exact ⟨_,.inl ⟨p',h1,rfl⟩,p',rfl,h3⟩
    ·have h2:_=_:=h2
     subst h2
     exact ⟨_,.inl ⟨_,h1,rfl⟩,rfl⟩
   ·rename_i f a c hp
    cases hp; cases h
    obtain ⟨a⟩:=a
    obtain ⟨c⟩:=c
    obtain ⟨a',c',rfl,h3⟩:=h2
    exact ⟨_,.inr ⟨f,⟨a'⟩,⟨c'⟩,h1,rfl⟩,a',c',rfl,h3⟩
 | fld x off =>
  simp only [lq] at h
  cases hx:lptr l x with
  | none=>rw [hx] at h; cases h
  | some p=>rw [hx] at h; cases h; obtain ⟨⟨b,o,s⟩,h1,h2⟩:=lptr_ok hl hx; exact ⟨_,⟨b,o,s,h1,rfl⟩,(h2.add off).vr⟩
 | fldv x off =>
  simp only [lq] at h
  cases hx:lv l x with
  | none=>rw [hx] at h; cases h
  | some u =>
   rw [hx] at h
   cases u <;> first | (cases h; done) | skip
   case agg cs =>
   obtain ⟨cs⟩:=cs
   obtain ⟨u',h1,cs',rfl,h2⟩:=lv_ev hl hx
   obtain ⟨v',h3,h4⟩:=h2.get h
   exact ⟨v',⟨_,h1,by simpa using h3⟩,h4.vr⟩
 | fldn x off k =>
  simp only [lq] at h
  cases hx:lv l x with
  | none=>rw [hx] at h; cases h
  | some u =>
   rw [hx] at h
   cases u <;> first | (cases h; done) | skip
   case agg cs =>
   obtain ⟨cs⟩:=cs
   cases h
   obtain ⟨u',h1,cs',rfl,h2⟩:=lv_ev hl hx
   refine ⟨_,⟨_,h1,rfl⟩,((cs'.take (off+k)).drop off),?_,(h2.take (off+k)).drop off⟩
   simp [List.drop_take]
 | idx x i size =>
  simp only [lq] at h
  cases hx:lv l x with
  | none=>rw [hx] at h; cases h
  | some u =>
   rw [hx] at h
   cases u <;> first | (cases h; done) | skip
   case slice p n c =>
   cases p <;> first | (cases h; done) | skip
   case some p =>
   cases hi:lint l i with
   | none=>rw [hi] at h; cases h
   | some j =>
    rw [hi] at h
    cases j <;> first | (cases h; done) | skip
    case ofNat j =>
    simp only at h
    cases hb:Nat.blt j n
    ·rw [hb] at h; cases h
    ·rw [hb] at h
     have hlt:j<n:=Nat.le_of_ble_eq_true hb
     obtain ⟨k,hk⟩:=lint_ok hl hi
     rcases p with ⟨pb,po,_ | s⟩
     rotate_left
     ·cases h
      obtain ⟨u',h1,rfl | ⟨h2,_,_⟩⟩:=lv_ev hl hx
      rotate_left
      ·omega
      refine ⟨_,⟨_,n,_,k,_,h1,hk,Int.natCast_nonneg _,by simpa using hlt,rfl⟩,?_⟩
      show Value.pointer (some (Addr.add _ _))=_
      rw [add_none]; rfl
     cases h
     obtain ⟨u',h1,h2,r,h3,⟨a',c',rfl,h4⟩ | ⟨h4,_⟩⟩:=lv_ev hl hx
     rotate_left
     ·omega
     rcases h4 with ⟨h4,h5⟩ | ⟨h4,_⟩
     ·exact ⟨_,⟨_,n,_,k,_,h1,hk,Int.natCast_nonneg _,by simpa using hlt,rfl⟩,(AR.add (a:=⟨pb,po,none⟩) ⟨h2,r,h3,h4⟩ _).vr⟩
     ·omega
 | idxa x i n size =>
  simp only [lq] at h
  cases hx:lptr l x with
  | none=>rw [hx] at h; cases h
  | some p =>
   rw [hx] at h
   cases hi:lint l i with
   | none=>rw [hi] at h; cases h
   | some j =>
    rw [hi] at h
    cases j <;> first | (cases h; done) | skip
    case ofNat j =>
    simp only at h
    cases hb:Nat.blt j n
    ·rw [hb] at h; cases h
    ·rw [hb] at h; cases h
     have hlt:j<n:=Nat.le_of_ble_eq_true hb
     obtain ⟨k,hk⟩:=lint_ok hl hi
     obtain ⟨p',h1,h2⟩:=lptr_ok hl hx
     exact ⟨_,⟨_,k,_,h1,hk,Int.natCast_nonneg _,by simpa using hlt,rfl⟩,(h2.add _).vr⟩
 | ext x k =>
  simp only [lq] at h
  cases hx:lv l x with
  | none=>rw [hx] at h; cases h
  | some u =>
   rw [hx] at h
   cases u <;> first | (cases h; done) | skip
   case tuple cs =>
   obtain ⟨cs⟩:=cs
   obtain ⟨u',h1,cs',rfl,h2⟩:=lv_ev hl hx
   obtain ⟨v',h3,h4⟩:=h2.get h
   exact ⟨v',⟨_,h1,by simpa using h3⟩,h4.vr⟩
 | bin op x y =>
  simp only [lq] at h
  cases hx:lv l x with
  | none=>rw [hx] at h; cases h
  | some u =>
   rw [hx] at h
   cases u <;> first | (cases h; done) | skip
   case int k a =>
   cases hy:lv l y with
   | none=>rw [hy] at h; cases h
   | some u =>
    rw [hy] at h
    cases u <;> first | (cases h; done) | skip
    case int k' b =>
    simp only at h
    cases he:ikEq k k'
    ·rw [he] at h; cases h
    ·rw [he] at h
     have he:=of_decide_eq_true he
     subst he
     simp only [cond_true] at h
     cases hb:ibin op k a b with
     | none=>rw [hb] at h; cases h
     | some u =>
      rw [hb] at h
      simp only at h
      cases hs:still u
      ·rw [hs] at h; cases h
      ·rw [hs] at h; cases h
       obtain ⟨_,h1,rfl⟩:=lv_ev hl hx
       obtain ⟨_,h2,rfl⟩:=lv_ev hl hy
       exact ⟨v,⟨k,a,b,h1,h2,hb⟩,VR.still hs⟩
 | nilp neg x =>
  simp only [lq] at h
  cases hx:lv l x with
  | none=>rw [hx] at h; cases h
  | some u =>
   rw [hx] at h
   cases u <;> first | (cases h; done) | skip
   case pointer p =>
   cases h
   cases p with
   | none=>obtain ⟨_,h1,rfl⟩:=lv_ev hl hx; exact ⟨_,⟨_,h1,rfl⟩,rfl⟩
   | some p =>
    rcases p with ⟨b,o,_ | s⟩
    ·obtain ⟨_,h1,p',rfl,_⟩:=lv_ev hl hx; exact ⟨_,⟨_,h1,rfl⟩,rfl⟩
    ·obtain ⟨_,h1,h2⟩:=lv_ev hl hx
     have h2:_=Value.pointer _:=h2
     subst h2; exact ⟨_,⟨_,h1,rfl⟩,rfl⟩
 | un op x =>
  simp only [lq] at h
  cases hx:lv l x with
  | none=>rw [hx] at h; cases op <;> cases h
  | some u =>
   rw [hx] at h
   cases op <;> first | (cases h; done) | skip
   case not =>
    cases u <;> first | (cases h; done) | skip
    cases h; obtain ⟨_,h1,rfl⟩:=lv_ev hl hx; exact ⟨_,.inl ⟨_,rfl,h1,rfl⟩,rfl⟩
   case neg =>
    cases u <;> first | (cases h; done) | skip
    cases h; obtain ⟨_,h1,rfl⟩:=lv_ev hl hx; exact ⟨_,.inr ⟨_,_,rfl,h1,rfl⟩,rfl⟩
 | cvi k x =>
  simp only [lq] at h
  cases hx:lint l x with
  | none=>rw [hx] at h; cases h
  | some i=>rw [hx] at h; cases h; obtain ⟨k',hk⟩:=lint_ok hl hx; exact ⟨_,⟨k',i,hk,rfl⟩,rfl⟩
 | len x =>
  simp only [lq] at h
  cases hx:lv l x with
  | none=>rw [hx] at h; cases h
  | some u =>
   rw [hx] at h
   cases u <;> first | (cases h; done) | skip
   case slice p n c =>
   cases h
   cases p with
   | none=>obtain ⟨_,h1,rfl⟩:=lv_ev hl hx; exact ⟨_,⟨_,_,_,h1,rfl⟩,rfl⟩
   | some p =>
    rcases p with ⟨b,o,_ | s⟩
    ·obtain ⟨_,h1,_,r,_,⟨a',c',rfl,_⟩ | ⟨rfl,_,_,rfl⟩⟩:=lv_ev hl hx <;> exact ⟨_,⟨_,_,_,h1,rfl⟩,rfl⟩
    ·obtain ⟨_,h1,rfl | ⟨rfl,_,_,rfl⟩⟩:=lv_ev hl hx <;> exact ⟨_,⟨_,_,_,h1,rfl⟩,rfl⟩
 | slc x lo hi size =>
  simp only [lq] at h
  cases hx:lv l x with
  | none=>rw [hx] at h; cases h
  | some u =>
   rw [hx] at h
   cases u <;> first | (cases h; done) | skip
   case slice p n c =>
   simp only at h
   cases hlo:lbound l lo 0 with
   | none=>rw [hlo] at h; cases h
   | some lo' =>
    rw [hlo] at h
    cases hhi:lbound l hi n with
    | none=>rw [hhi] at h; cases h
    | some hi' =>
     rw [hhi] at h
     simp only at h
     cases hb:(Nat.ble lo' hi' && Nat.ble hi' c)
     ·rw [hb] at h; cases h
     ·rw [hb] at h
      simp only [cond_true] at h
      rw [Bool.and_eq_true] at hb
      have h1:=Nat.le_of_ble_eq_true hb.1
      have h2:=Nat.le_of_ble_eq_true hb.2
      have b1:=lbound_ok hl hlo
      have b2:=lbound_ok hl hhi
      cases p with
      | none =>
       cases h
       obtain ⟨_,h3,rfl⟩:=lv_ev hl hx
       refine ⟨_,⟨none,n,c,lo',hi',h3,b1,b2,h1,h2,rfl⟩,?_⟩
       show Value.slice _ _ _=Value.slice _ _ _
       congr 1
       split <;> rfl
      | some p =>
       rcases p with ⟨b,o,s⟩
       cases s with
       | some s =>
        simp only at h
        cases he:Nat.beq lo' 0
        ·rw [he] at h; cases h
        ·rw [he] at h; cases h
         obtain rfl:=Nat.eq_of_beq_eq_true he
         obtain ⟨_,h3,rfl | ⟨rfl,rfl,ax,rfl⟩⟩:=lv_ev hl hx
         ·refine ⟨_,⟨some ⟨b,o,none⟩,n,c,0,hi',h3,b1,b2,h1,h2,rfl⟩,.inl ?_⟩
          show Value.slice _ _ _=Value.slice _ _ _
          congr 1
          simp [Addr.add]
         ·obtain rfl:hi'=0:=by omega
          exact ⟨_,⟨ax,0,0,0,0,h3,b1,b2,h1,h2,rfl⟩,.inr ⟨rfl,rfl,ax,by simp⟩⟩
       | none =>
       cases h
       obtain ⟨_,h3,hs,r,h4,⟨a',c',rfl,h5⟩ | ⟨rfl,rfl,ax,rfl⟩⟩:=lv_ev hl hx
       ·cases hs
        refine ⟨_,⟨some a',n,c',lo',hi',h3,b1,b2,h1,by rcases h5 with ⟨_,h5⟩ | ⟨h5,h6,h7,_⟩ <;> omega,rfl⟩,?_⟩
        rw [add_none]
        rcases h5 with ⟨rfl,rfl⟩ | ⟨rfl,rfl,rfl,o',rfl,ho'⟩
        ·refine ⟨rfl,r,h4,.inl ⟨(if c+r.2.2=lo' then ⟨r.1,o+r.2.1,none⟩ else Addr.add ⟨r.1,o+r.2.1,none⟩ (lo'*size)),c+r.2.2-lo',by split <;> rfl,?_⟩⟩
         by_cases e:c+r.2.2=lo'
         ·right
          rw [if_pos e]
          exact ⟨by omega,by omega,by omega,_,rfl,by simp⟩
         ·left
          rw [if_neg e,add_none]
          exact ⟨by simp; omega,by omega⟩
        ·have e1:lo'=0:=by omega
         subst e1
         refine ⟨rfl,r,h4,.inl ⟨⟨r.1,o',none⟩,0,by simp,.inr ⟨by omega,by omega,rfl,o',rfl,by simpa using ho'⟩⟩⟩
       ·cases hs
        have e1:lo'=0:=by omega
        have e2:hi'=0:=by omega
        subst e1; subst e2
        refine ⟨_,⟨ax,0,0,0,0,h3,b1,b2,h1,by omega,rfl⟩,?_⟩
        rw [add_none]
        exact ⟨rfl,r,h4,.inr ⟨rfl,rfl,ax,by simp⟩⟩
 | bld zero parts =>
  simp only [lq] at h
  cases hz:zero.all stillS
  ·rw [hz] at h; cases h
  ·rw [hz] at h
   simp only [cond_true] at h
   cases hb:bldL l zero parts with
   | none=>rw [hb] at h; cases h
   | some vs =>
    rw [hb] at h; cases h
    obtain ⟨vs',h1,h2⟩:=bldL_ok hl parts zero zero hb (L2.self fun a ha=>SR.still (List.all_eq_true.1 hz a ha))
    exact ⟨_,⟨vs',h1,rfl⟩,vs',rfl,h2⟩
 | ld x =>
  simp only [lq] at h
  cases hx:lptr l x with
  | none=>rw [hx] at h; cases h
  | some p =>
   rw [hx] at h
   obtain ⟨p',h1,h2⟩:=lptr_ok hl hx
   obtain ⟨v',h3,h4⟩:=lcell_ok hR h2 h
   exact ⟨v',⟨p',h1,h3⟩,h4.vr⟩
 | ldn x n =>
  simp only [lq] at h
  cases hx:lptr l x with
  | none=>rw [hx] at h; cases h
  | some p =>
   rw [hx] at h
   simp only at h
   cases hc:lcells L p n with
   | none=>rw [hc] at h; cases h
   | some vs =>
    rw [hc] at h; cases h
    obtain ⟨⟨b,o,s⟩,h1,h2⟩:=lptr_ok hl hx
    obtain ⟨cs,vs',hB,hs,hle,rfl,h3,h4⟩:=lcells_ok hR h2 hc
    cases hs
    refine ⟨_,⟨_,((cs.drop o).take n).toArray,h1,by simpa using h4,fun i hi=>?_,rfl⟩,_,rfl,h3⟩
    rw [add_none,hB.cellEq]
    simp [hi]
 | sh lft x y =>
  simp only [lq] at h
  split at h <;> first | (cases h; done) | skip
  rename_i k a k' n hx hy
  cases h
  obtain ⟨_,h1,rfl⟩:=lv_ev hl hx
  obtain ⟨_,h2,rfl⟩:=lv_ev hl hy
  exact ⟨_,⟨k,a,k',_,h1,h2,Int.natCast_nonneg _,rfl⟩,rfl⟩
 | xorn x =>
  simp only [lq] at h
  split at h <;> first | (cases h; done) | skip
  rename_i k n hx
  cases h
  obtain ⟨_,h1,rfl⟩:=lv_ev hl hx
  exact ⟨_,⟨k,n,h1,rfl⟩,rfl⟩
 | mm mx x y =>
  simp only [lq] at h
  split at h <;> first | (cases h; done) | skip
  rename_i k a k' b hx hy
  cases he:ikEq k k'
  ·rw [he] at h; cases h
  rw [he] at h; cases h
  have he:=of_decide_eq_true he
  subst he
  obtain ⟨_,h1,rfl⟩:=lv_ev hl hx
  obtain ⟨_,h2,rfl⟩:=lv_ev hl hy
  exact ⟨_,⟨k,a,b,h1,h2,rfl⟩,rfl⟩
 | mkf fn first cap =>
  simp only [lq] at h
  split at h <;> first | (cases h; done) | skip
  rename_i a c ha hc
  cases hs:(a.all s0 && c.all s0)
  ·rw [hs] at h; cases h
  rw [hs] at h; cases h
  rw [Bool.and_eq_true] at hs
  obtain ⟨a',h1,h2⟩:=lvs_evs hl ha
  obtain ⟨c',h3,h4⟩:=lvs_evs hl hc
  exact ⟨_,⟨a',c',h1,h3,rfl⟩,a',c',rfl,L2.s0 hs.1 h2,L2.s0 hs.2 h4⟩
 | raw o=>exact hr _ _ _ _ _ _ _ _ _ h hR hl
end Go.Tum
end
section
namespace Go.Tum
open Go
def fL {α β:Type}:List α→(List α→β)→β
 | [],k=>k []
 | a::r,k=>fL r fun r'=>k (a::r')
theorem fL_eq {α β:Type}:∀ (l:List α) (k:List α→β),fL l k=k l
 | [],_=>rfl
 | a::r,k=>by simp only [fL]; rw [fL_eq r]
def fN {β:Type}:Nat→(Nat→β)→β
 | 0,k=>k 0
 | n+1,k=>k (n+1)
theorem fN_eq {β:Type}:∀ (n:Nat) (k:Nat→β),fN n k=k n
 | 0,_=>rfl
 | _+1,_=>rfl
def fV {β:Type}:Value→(Value→β)→β
 | .int k (.ofNat n),c=>fN n fun n=>c (.int k (.ofNat n))
 | .int k (.negSucc n),c=>fN n fun n=>c (.int k (.negSucc n))
 | .pointer (some ⟨b,o,s⟩),c=>fN b fun b=>fN o fun o=>c (.pointer (some ⟨b,o,s⟩))
 | .slice (some ⟨b,o,s⟩) n m,c=>fN o fun o=>fN n fun n=>fN m fun m=>c (.slice (some ⟨b,o,s⟩) n m)
 | v,c=>c v
theorem fV_eq {β:Type} (v:Value) (k:Value→β):fV v k=k v:=by
 unfold fV
 split <;> simp only [fN_eq]
def fQ {β:Type}:QOp→Value→(Value→β)→β
 | .mov _,v,c=>c v
 | .pick _ _ _,v,c=>c v
 | .ld _,v,c=>c v
 | .ldn _ _,v,c=>c v
 | .ext _ _,v,c=>c v
 | .bld _ _,v,c=>c v
 | .fldv _ _,v,c=>c v
 | .fldn _ _ _,v,c=>c v
 | .raw _,v,c=>c v
 | _,v,c=>fV v c
theorem fQ_eq {β:Type} (q:QOp) (v:Value) (k:Value→β):fQ q v k=k v:=by
 unfold fQ
 split <;> first | rfl|exact fV_eq v k
def addrEq (a b:Addr):Bool :=
 match a,b with
 | ⟨b,o,none⟩,⟨b',o',none⟩=>Nat.beq b b' && Nat.beq o o'
 | _,_=>false
theorem addrEq_ok {a b:Addr} (h:addrEq a b=true):a=b:=by
 obtain ⟨i,o,s⟩:=a
 obtain ⟨i',o',s'⟩:=b
 cases s <;> cases s' <;> first | (cases h; done) | skip
 simp only [addrEq,Bool.and_eq_true] at h
 rw [Nat.eq_of_beq_eq_true h.1,Nat.eq_of_beq_eq_true h.2]
def veq0:Value→Value→Bool
 | .bool a,.bool b=>a == b
 | .int k a,.int k' b=>ikEq k k' && decide (a=b)
 | .float k a,.float k' b=>decide (k=k') && Nat.beq a b
 | .string a,.string b=>a.data.toList == b.data.toList
 | .pointer none,.pointer none=>true
 | .pointer (some a),.pointer (some b)=>addrEq a b
 | .slice none n c,.slice none n' c'=>Nat.beq n n' && Nat.beq c c'
 | .slice (some a) n c,.slice (some b) n' c'=>addrEq a b && Nat.beq n n' && Nat.beq c c'
 | .map none,.map none=>true
 | .map (some a),.map (some b)=>Nat.beq a b
 | .nilFunc,.nilFunc=>true
 | .nilIface,.nilIface=>true
 | _,_=>false
theorem veq0_ok {a b:Value} (h:veq0 a b=true):a=b:=by
 unfold veq0 at h
 split at h <;> first | (cases h; done) | rfl | skip
 ·rw [eq_of_beq h]
 ·rw [Bool.and_eq_true] at h; rw [of_decide_eq_true h.1,of_decide_eq_true h.2]
 ·rw [Bool.and_eq_true] at h; rw [of_decide_eq_true h.1,Nat.eq_of_beq_eq_true h.2]
 ·rename_i x y
  have:=eq_of_beq h
  obtain ⟨⟨x⟩⟩:=x
  obtain ⟨⟨y⟩⟩:=y
  simp only at this
  rw [this]
 ·rw [addrEq_ok h]
 ·rw [Bool.and_eq_true] at h; rw [Nat.eq_of_beq_eq_true h.1,Nat.eq_of_beq_eq_true h.2]
 ·rw [Bool.and_eq_true,Bool.and_eq_true] at h; rw [addrEq_ok h.1.1,Nat.eq_of_beq_eq_true h.1.2,Nat.eq_of_beq_eq_true h.2]
 ·rw [Nat.eq_of_beq_eq_true h]
def veqG (f:Value→Value→Bool):List Value→List Value→Bool
 | [],[]=>true
 | a::r,b::s=>f a b && veqG f r s
 | _,_=>false
theorem veqG_ok {f:Value→Value→Bool} (hf:∀ a b,f a b=true→a=b):∀ {a b:List Value},veqG f a b=true→a=b
 | [],[],_=>rfl
 | a::r,b::s,h=>by
  simp only [veqG,Bool.and_eq_true] at h
  rw [hf _ _ h.1,veqG_ok hf h.2]
 | [],_::_,h=>by cases h
 | _::_,[],h=>by cases h
def veqS:Value→Value→Bool
 | .func f ⟨a⟩ ⟨c⟩,.func f' ⟨a'⟩ ⟨c'⟩=>decide (f=f') && veqG veq0 a a' && veqG veq0 c c'
 | a,b=>veq0 a b
theorem veqS_ok {a b:Value} (h:veqS a b=true):a=b:=by
 unfold veqS at h
 split at h
 ·simp only [Bool.and_eq_true] at h
  rw [of_decide_eq_true h.1.1,veqG_ok (fun _ _=>veq0_ok) h.1.2,veqG_ok (fun _ _=>veq0_ok) h.2]
 ·exact veq0_ok h
def veq1:Value→Value→Bool
 | .agg ⟨a⟩,.agg ⟨b⟩=>veqG veqS a b
 | a,b=>veqS a b
theorem veq1_ok {a b:Value} (h:veq1 a b=true):a=b:=by
 unfold veq1 at h
 split at h
 ·rw [veqG_ok (fun _ _=>veqS_ok) h]
 ·exact veqS_ok h
def veq:Value→Value→Bool
 | .tuple ⟨a⟩,.tuple ⟨b⟩=>veqG veq1 a b
 | a,b=>veq1 a b
theorem veq_ok {a b:Value} (h:veq a b=true):a=b:=by
 unfold veq at h
 split at h
 ·rw [veqG_ok (fun _ _=>veq1_ok) h]
 ·exact veq1_ok h
def veqM:List (Value × Value × Nat)→List (Value × Value × Nat)→Bool
 | [],[]=>true
 | (k,v,b)::r,(k',v',b')::s=>veq1 k k' && veq1 v v' && Nat.beq b b' && veqM r s
 | _,_=>false
theorem veqM_ok:∀ {a b:List (Value × Value × Nat)},veqM a b=true→a=b
 | [],[],_=>rfl
 | (k,v,b)::r,(k',v',b')::s,h=>by
  simp only [veqM,Bool.and_eq_true] at h
  rw [veq1_ok h.1.1.1,veq1_ok h.1.1.2,Nat.eq_of_beq_eq_true h.1.2,veqM_ok h.2]
 | [],_::_,h=>by cases h
 | _::_,[],h=>by cases h
def lbEq:LB→LB→Bool
 | .cells a vs,.cells b us=>Nat.beq a b && veqG veqS vs us
 | .data vs,.data us=>veqG veqS vs us
 | .bytes n x,.bytes m y=>Nat.beq n m && Nat.beq x y
 | .gro a vs,.gro b us=>Nat.beq a b && veqG veqS vs us
 | .map m c,.map m' c'=>veqM m m' && Nat.beq c c'
 | .iter m a l b,.iter m' a' l' b'=>decide (m=m') && Nat.beq a a' && (l == l') && Nat.beq b b'
 | .dead,.dead=>true
 | _,_=>false
theorem lbEq_ok {a b:LB} (h:lbEq a b=true):a=b:=by
 unfold lbEq at h
 split at h <;> first | (cases h; done) | rfl | skip
 ·rw [Bool.and_eq_true] at h; rw [Nat.eq_of_beq_eq_true h.1,veqG_ok (fun _ _=>veqS_ok) h.2]
 ·rw [veqG_ok (fun _ _=>veqS_ok) h]
 ·rw [Bool.and_eq_true] at h; rw [Nat.eq_of_beq_eq_true h.1,Nat.eq_of_beq_eq_true h.2]
 ·rw [Bool.and_eq_true] at h; rw [Nat.eq_of_beq_eq_true h.1,veqG_ok (fun _ _=>veqS_ok) h.2]
 ·rw [Bool.and_eq_true] at h; rw [veqM_ok h.1,Nat.eq_of_beq_eq_true h.2]
 ·simp only [Bool.and_eq_true] at h; rw [of_decide_eq_true h.1.1.1,Nat.eq_of_beq_eq_true h.1.1.2,eq_of_beq h.1.2,Nat.eq_of_beq_eq_true h.2]
def rn (N:Nat) (φ:List Nat) (b:Nat):Nat:=(φ[b]?).getD N
def rnA (N:Nat) (φ:List Nat) (a:Addr):Addr:=match a.spot with
 | none=>⟨rn N φ a.block,a.off,none⟩
 | some s=>⟨a.block,a.off,some s⟩
def rn0 (N:Nat) (φ:List Nat):Value→Value
 | .pointer (some a)=>.pointer (some (rnA N φ a))
 | .slice (some a) n c=>.slice (some (rnA N φ a)) n c
 | .map (some b)=>.map (some (rn N φ b))
 | v=>v
def rnS (N:Nat) (φ:List Nat):Value→Value
 | .func f ⟨a⟩ ⟨c⟩=>.func f ⟨a.map (rn0 N φ)⟩ ⟨c.map (rn0 N φ)⟩
 | v=>rn0 N φ v
def rn1 (N:Nat) (φ:List Nat):Value→Value
 | .agg ⟨cs⟩=>.agg ⟨cs.map (rnS N φ)⟩
 | v=>rnS N φ v
def rnV (N:Nat) (φ:List Nat):Value→Value
 | .tuple ⟨vs⟩=>.tuple ⟨vs.map (rn1 N φ)⟩
 | v=>rn1 N φ v
def rnB (N:Nat) (φ:List Nat):LB→LB
 | .cells sz vs=>.cells sz (vs.map (rnS N φ))
 | .map m c=>.map (m.map fun x=>(rn1 N φ x.1,rn1 N φ x.2.1,x.2.2)) c
 | .iter m a l b=>.iter (m.map (rn N φ)) a l b
 | x=>x
def rnE (N:Nat) (φ:List Nat):Env→Env
 | []=>[]
 | (k,v)::r=>(k,rnV N φ v)::rnE N φ r
def subE (E:Emb) (φ:List Nat):Emb:=φ.map fun k=>E.getD k (0,0,0)
section
variable {E:Emb} {φ:List Nat}
theorem subE_get {b:Nat} {r:Nat × Nat × Nat} (h:E[rn E.length φ b]?=some r):(subE E φ)[b]?=some r:=by
 unfold rn at h
 unfold subE
 cases hb:φ[b]? with
 | none=>rw [hb] at h; simp at h
 | some k =>
  rw [hb] at h
  simp only [Option.getD_some] at h
  simp [hb,h]
theorem S0.sub {v v':Value} (h:S0 E (rn0 E.length φ v) v'):S0 (subE E φ) v v':=by
 cases v <;> first|exact h | skip
 case pointer a =>
  cases a with
  | none=>exact h
  | some a=>rcases a with ⟨b,o,_ | s⟩ <;> first|exact h | (obtain ⟨a',h1,h2,r,h3,h4⟩:=h; exact ⟨a',h1,h2,r,subE_get h3,h4⟩)
 case slice a n c =>
  cases a with
  | none=>exact h
  | some a=>rcases a with ⟨b,o,_ | s⟩ <;> first|exact h | (obtain ⟨h1,r,h2,h3⟩:=h; exact ⟨h1,r,subE_get h2,h3⟩)
 case map a =>
  cases a with
  | none=>exact h
  | some a=>obtain ⟨r,h1,h2⟩:=h; exact ⟨r,subE_get h1,h2⟩
theorem L2.sub {R S:Value→Value→Prop} {f:Value→Value} (h:∀ v v',R (f v) v'→S v v'):∀ {x y:List Value},L2 R (x.map f) y→L2 S x y
 | [],[],_=>trivial
 | _::_,_::_,k=>⟨h _ _ k.1,L2.sub h k.2⟩
 | [],_::_,k=>k.elim
 | _::_,[],k=>k.elim
theorem SR.sub {v v':Value} (h:SR E (rnS E.length φ v) v'):SR (subE E φ) v v':=by
 cases v <;> first|exact h | skip
 case pointer a=>(cases a with | none=>exact S0.sub (E:=E) (φ:=φ) (v:=.pointer none) h | some a=>exact S0.sub (E:=E) (φ:=φ) (v:=.pointer (some a)) h)
 case slice a n c=>(cases a with | none=>exact S0.sub (E:=E) (φ:=φ) (v:=.slice none n c) h | some a=>exact S0.sub (E:=E) (φ:=φ) (v:=.slice (some a) n c) h)
 case map a=>(cases a with | none=>exact S0.sub (E:=E) (φ:=φ) (v:=.map none) h | some a=>exact S0.sub (E:=E) (φ:=φ) (v:=.map (some a)) h)
 case func f a c =>
  obtain ⟨a⟩:=a
  obtain ⟨c⟩:=c
  obtain ⟨a',c',h1,h2,h3⟩:=h
  exact ⟨a',c',h1,L2.sub (fun _ _=>S0.sub) h2,L2.sub (fun _ _=>S0.sub) h3⟩
theorem V1.sub {v v':Value} (h:V1 E (rn1 E.length φ v) v'):V1 (subE E φ) v v':=by
 cases v <;> first|exact h | skip
 case pointer a=>(cases a with | none=>exact SR.sub (E:=E) (φ:=φ) (v:=.pointer none) h | some a=>exact SR.sub (E:=E) (φ:=φ) (v:=.pointer (some a)) h)
 case slice a n c=>(cases a with | none=>exact SR.sub (E:=E) (φ:=φ) (v:=.slice none n c) h | some a=>exact SR.sub (E:=E) (φ:=φ) (v:=.slice (some a) n c) h)
 case map a=>(cases a with | none=>exact SR.sub (E:=E) (φ:=φ) (v:=.map none) h | some a=>exact SR.sub (E:=E) (φ:=φ) (v:=.map (some a)) h)
 case func f a c=>exact SR.sub (v:=.func f a c) h
 case agg cs=>obtain ⟨cs⟩:=cs; obtain ⟨cs',h1,h2⟩:=h; exact ⟨cs',h1,L2.sub (fun _ _=>SR.sub) h2⟩
theorem VR.sub {v v':Value} (h:VR E (rnV E.length φ v) v'):VR (subE E φ) v v':=by
 cases v <;> first|exact h | skip
 case pointer a=>(cases a with | none=>exact V1.sub (E:=E) (φ:=φ) (v:=.pointer none) h | some a=>exact V1.sub (E:=E) (φ:=φ) (v:=.pointer (some a)) h)
 case slice a n c=>(cases a with | none=>exact V1.sub (E:=E) (φ:=φ) (v:=.slice none n c) h | some a=>exact V1.sub (E:=E) (φ:=φ) (v:=.slice (some a) n c) h)
 case map a=>(cases a with | none=>exact V1.sub (E:=E) (φ:=φ) (v:=.map none) h | some a=>exact V1.sub (E:=E) (φ:=φ) (v:=.map (some a)) h)
 case func f a c=>exact V1.sub (v:=.func f a c) h
 case agg cs=>exact V1.sub (v:=.agg cs) h
 case tuple cs=>obtain ⟨cs⟩:=cs; obtain ⟨cs',h1,h2⟩:=h; exact ⟨cs',h1,L2.sub (fun _ _=>V1.sub) h2⟩
theorem eget_rnE (N:Nat) (φ:List Nat):∀ (l:Env) (t:Nat) (v:Value),eget l t=some v→eget (rnE N φ l) t=some (rnV N φ v)
 | [],t,v,h=>by cases h
 | (k,u)::r,t,v,h=>by
  simp only [rnE]
  rw [eget_cons] at h ⊢
  by_cases e:k=t
  ·rw [if_pos e] at h ⊢; cases h; rfl
  ·rw [if_neg e] at h ⊢; exact eget_rnE N φ r t v h
theorem ER.sub {l l':Env} (h:ER E (rnE E.length φ l) l'):ER (subE E φ) l l':=fun t v ht=>let ⟨v',h1,h2⟩:=h t _ (eget_rnE _ _ l t v ht); ⟨v',h1,h2.sub⟩
theorem M2.sub:∀ {m:List (Value × Value × Nat)} {es:List MapEntry},M2 E (m.map fun x=>(rn1 E.length φ x.1,rn1 E.length φ x.2.1,x.2.2)) es→M2 (subE E φ) m es
 | [],[],_=>trivial
 | _::_,_::_,k=>⟨⟨k.1.1.sub,k.1.2.1.sub,k.1.2.2⟩,M2.sub k.2⟩
 | [],_::_,k=>k.elim
 | _::_,[],k=>k.elim
theorem foot_rn (N:Nat) (r:Nat × Nat × Nat) (x:LB):foot r (rnB N φ x)=foot r x:=by
 cases x <;> rfl
theorem LBis.sub {w:World} {r:Nat × Nat × Nat} {x:LB} (h:LBis E w r (rnB E.length φ x)):LBis (subE E φ) w r x:=by
 cases x with
 | cells sz vs =>
  obtain ⟨cs,h1,h2,h3⟩:=h
  simp only [List.length_map] at h2 h3
  exact ⟨cs,h1,L2.sub (fun _ _=>SR.sub) h2,h3⟩
 | map m c=>obtain ⟨es,h1,h2⟩:=h; exact ⟨es,h1,h2.sub⟩
 | iter m a l b =>
  obtain ⟨h0,m',h1,h2⟩:=h
  refine ⟨h0,m',h1,?_⟩
  cases m with
  | none=>exact h2
  | some b=>obtain ⟨q,h3,h4⟩:=h2; exact ⟨q,subE_get h3,h4⟩
 | data vs=>exact h
 | bytes n x=>exact h
 | gro sz vs=>exact h
 | dead=>exact h
 | abs A F=>exact h
 | imap G c=>exact h
end
section
variable {X:Nat→Prop} {w0 w:World} {E:Emb} {L M:LH} {φ:List Nat}
theorem Rep.sub (h:Rep X w0 E M w) (hlen:φ.length=L.length) (hb:∀ (k:Nat) (x:LB),L[k]?=some x→x=.dead∨∃ j,φ[k]?=some j∧M[j]?=some (rnB M.length φ x))
  (hinj:∀ (k k' j:Nat) (x x':LB),φ[k]?=some j→φ[k']?=some j→L[k]?=some x→L[k']?=some x'→x≠.dead→x'≠.dead→k=k'):Rep X w0 (subE E φ) L w:=by
 have key:∀ (k:Nat) (x:LB) (r:Nat × Nat × Nat),L[k]?=some x→(subE E φ)[k]?=some r→x=.dead∨∃ j,φ[k]?=some j∧M[j]?=some (rnB E.length φ x)∧E[j]?=some r:=by
  intro k x r hx hr
  rcases hb k x hx with h1 | ⟨j,h1,h2⟩
  ·exact .inl h1
  ·refine .inr ⟨j,h1,by rw [h.len]; exact h2,?_⟩
   obtain ⟨r',hr'⟩:=h.ent h2
   unfold subE at hr
   simp only [List.getElem?_map,h1,Option.map_some,Option.some.injEq] at hr
   rw [← hr]
   simp [hr']
 refine ⟨h.fr,by simp [subE,hlen],fun k x r hx hr b hf=>?_,fun k x r hx hr=>?_,fun k k' x x' r r' b hx hx' hr hr' hf hf'=>?_⟩
 ·rcases key k x r hx hr with rfl | ⟨j,h1,h2,h3⟩
  ·exact hf.elim
  ·exact h.rng j _ r h2 h3 b (by rw [foot_rn]; exact hf)
 ·rcases key k x r hx hr with rfl | ⟨j,h1,h2,h3⟩
  ·trivial
  ·exact (h.blk j _ r h2 h3).sub
 ·rcases key k x r hx hr with rfl | ⟨j,h1,h2,h3⟩
  ·exact hf.elim
  ·rcases key k' x' r' hx' hr' with rfl | ⟨j',h1',h2',h3'⟩
   ·exact hf'.elim
   ·have:=h.inj j j' _ _ r r' b h2 h2' h3 h3' (by rw [foot_rn]; exact hf) (by rw [foot_rn]; exact hf')
    subst this
    exact hinj k k' j x x' h1 h1' hx hx' (fun e=>by subst e; exact hf) (fun e=>by subst e; exact hf')
end
abbrev USt:=List (Nat × Nat) × List (Nat × Nat)
def passoc:List (Nat × Nat)→Nat→Option Nat
 | [],_=>none
 | (a,b)::r,k=>bif Nat.beq a k then some b else passoc r k
def uadd (n b c:Nat) (s:USt):USt :=
 bif Nat.blt b n then s else match passoc s.1 b with
  | some _=>s
  | none=>((b,c)::s.1,(b,c)::s.2)
def u0 (n:Nat):Value→Value→USt→USt
 | .pointer (some a),.pointer (some b),s=>uadd n a.block b.block s
 | .slice (some a) _ _,.slice (some b) _ _,s=>uadd n a.block b.block s
 | .map (some a),.map (some b),s=>uadd n a b s
 | _,_,s=>s
def uL (f:Value→Value→USt→USt):List Value→List Value→USt→USt
 | a::r,b::t,s=>uL f r t (f a b s)
 | _,_,s=>s
def uS (n:Nat):Value→Value→USt→USt
 | .func _ ⟨a⟩ ⟨c⟩,.func _ ⟨a'⟩ ⟨c'⟩,s=>uL (u0 n) c c' (uL (u0 n) a a' s)
 | a,b,s=>u0 n a b s
def u1 (n:Nat):Value→Value→USt→USt
 | .agg ⟨a⟩,.agg ⟨b⟩,s=>uL (uS n) a b s
 | a,b,s=>uS n a b s
def uV (n:Nat):Value→Value→USt→USt
 | .tuple ⟨a⟩,.tuple ⟨b⟩,s=>uL (u1 n) a b s
 | a,b,s=>u1 n a b s
def uM (n:Nat):List (Value × Value × Nat)→List (Value × Value × Nat)→USt→USt
 | (k,v,_)::r,(k',v',_)::t,s=>uM n r t (u1 n v v' (u1 n k k' s))
 | _,_,s=>s
def uB (n:Nat):LB→LB→USt→USt
 | .cells _ a,.cells _ b,s=>uL (uS n) a b s
 | .map a _,.map b _,s=>uM n a b s
 | .iter (some a) _ _ _,.iter (some b) _ _ _,s=>uadd n a b s
 | _,_,s=>s
def uE (n:Nat):Env→Env→USt→USt
 | (_,v)::r,(_,u)::t,s=>uE n r t (uV n v u s)
 | _,_,s=>s
def uOld (n:Nat):Nat→LH→LH→USt→USt
 | 0,_,_,s=>s
 | k+1,x::r,y::t,s=>uOld n k r t (uB n x y s)
 | _,_,_,s=>s
def uRun (n:Nat) (L1 L2:LH):Nat→USt→List (Nat × Nat)
 | 0,s=>s.1
 | f+1,(p,todo)=>match todo with
  | []=>p
  | (a,b)::r=>match L1[a]?,L2[b]? with
   | some x,some y=>uRun n L1 L2 f (uB n x y (p,r))
   | _,_=>uRun n L1 L2 f (p,r)
def uPhi (n:Nat) (p:List (Nat × Nat)):Nat→LH→List Nat
 | _,[]=>[]
 | k,_::r=>(bif Nat.blt k n then k else match passoc p k with
  | some j=>j
  | none=>k)::uPhi n p (k+1) r
def uKill (n:Nat) (p:List (Nat × Nat)):Nat→LH→LH
 | _,[]=>[]
 | k,x::r=>(bif Nat.blt k n then x else match passoc p k with
  | some _=>x
  | none=>.dead)::uKill n p (k+1) r
def isDead:LB→Bool
 | .dead=>true
 | _=>false
def ckB (φ:List Nat) (M:LH):Nat→LH→Bool
 | _,[]=>true
 | k,x::r=>(isDead x || (match φ[k]? with
  | some j=>match M[j]? with
   | some y=>lbEq y (rnB M.length φ x)
   | none=>false
  | none=>false)) && ckB φ M (k+1) r
def liveN:List Nat→LH→List Nat
 | j::r,x::t=>bif isDead x then liveN r t else j::liveN r t
 | _,_=>[]
def ndup:List Nat→Bool
 | []=>true
 | a::r => !(r.any (Nat.beq a)) && ndup r
def ckE:Env→Env→Bool
 | [],[]=>true
 | (k,v)::r,(k',v')::s=>Nat.beq k k' && veq v v' && ckE r s
 | _,_=>false
theorem ckE_ok:∀ {a b:Env},ckE a b=true→a=b
 | [],[],_=>rfl
 | (k,v)::r,(k',v')::s,h=>by
  simp only [ckE,Bool.and_eq_true] at h
  rw [Nat.eq_of_beq_eq_true h.1.1,veq_ok h.1.2,ckE_ok h.2]
 | [],_::_,h=>by cases h
 | _::_,[],h=>by cases h
def idUpto:Nat→Nat→List Nat→Bool
 | 0,_,_=>true
 | n+1,k,j::r=>Nat.beq j k && idUpto n (k+1) r
 | _+1,_,[]=>false
def same2 (n:Nat) (l1:Env) (L1:LH) (l2:Env) (L2:LH):Option LH :=
 let p:=uRun n L1 L2 1000 (uOld n n L1 L2 (uE n l1 l2 ([],[])))
 let φ:=uPhi n p 0 L1
 let K:=uKill n p 0 L1
 bif Nat.beq φ.length K.length && ckB φ L2 0 K && ndup (liveN φ K) && ckE l2 (rnE L2.length φ l1) && idUpto n 0 φ then some K else none
theorem ckB_ok {φ:List Nat} {M:LH}:∀ (L:LH) (i:Nat),ckB φ M i L=true→∀ (k:Nat) (x:LB),L[k]?=some x→x=.dead∨∃ j,φ[i+k]?=some j∧M[j]?=some (rnB M.length φ x)
 | [],_,_,k,x,hx=>by simp at hx
 | y::r,i,h,k,x,hx=>by
  simp only [ckB,Bool.and_eq_true,Bool.or_eq_true] at h
  cases k with
  | zero =>
   simp at hx; subst hx
   rcases h.1 with h1 | h1
   ·cases y <;> first | (cases h1; done)|exact .inl rfl
   ·right
    cases hj:φ[i]? with
    | none=>rw [hj] at h1; cases h1
    | some j =>
     rw [hj] at h1
     simp only at h1
     cases hm:M[j]? with
     | none=>rw [hm] at h1; cases h1
     | some z=>rw [hm] at h1; exact ⟨j,by simp,by rw [hm,lbEq_ok h1]⟩
  | succ k =>
   simp at hx
   have:=ckB_ok r (i+1) h.2 k x hx
   rwa [show i+1+k=i+(k+1) by omega] at this
theorem ndup_ok:∀ {l:List Nat},ndup l=true→l.Nodup
 | [],_=>List.nodup_nil
 | a::r,h=>by
  simp only [ndup,Bool.and_eq_true,Bool.not_eq_true'] at h
  refine List.nodup_cons.2 ⟨fun hm=>?_,ndup_ok h.2⟩
  have:=List.any_eq_false.1 h.1 a hm
  rw [Nat.beq_refl] at this; exact this rfl
theorem liveN_mem:∀ {φ:List Nat} {L:LH} {k j:Nat} {x:LB},φ[k]?=some j→L[k]?=some x→x≠.dead→j∈liveN φ L
 | [],_,_,_,_,h,_,_=>by simp at h
 | _::_,[],_,_,_,_,h,_=>by simp at h
 | a::r,y::t,0,j,x,h1,h2,h3=>by
  simp at h1 h2; subst h1; subst h2
  simp only [liveN]
  cases hd:isDead y
  ·exact List.mem_cons_self ..
  ·cases y <;> first | (cases hd; done)|exact absurd rfl h3
 | a::r,y::t,k+1,j,x,h1,h2,h3=>by
  simp at h1 h2
  have:=liveN_mem h1 h2 h3
  simp only [liveN]
  cases isDead y
  ·exact List.mem_cons_of_mem _ this
  ·exact this
theorem liveN_inj:∀ {φ:List Nat} {L:LH},(liveN φ L).Nodup→∀ (k k' j:Nat) (x x':LB),φ[k]?=some j→φ[k']?=some j→L[k]?=some x→L[k']?=some x'→x≠.dead→x'≠.dead→k=k'
 | [],_,_,_,_,_,_,_,h,_,_,_,_,_=>by simp at h
 | _::_,[],_,_,_,_,_,_,_,_,h,_,_,_=>by simp at h
 | a::r,y::t,hn,0,0,j,x,x',_,_,_,_,_,_=>rfl
 | a::r,y::t,hn,0,k'+1,j,x,x',h1,h2,h3,h4,h5,h6=>by
  simp at h1 h2 h3 h4; subst h1; subst h3
  have:=liveN_mem h2 h4 h6
  simp only [liveN] at hn
  cases hd:isDead y
  ·rw [hd] at hn
   exact absurd this (List.nodup_cons.1 hn).1
  ·cases y <;> first | (cases hd; done)|exact absurd rfl h5
 | a::r,y::t,hn,k+1,0,j,x,x',h1,h2,h3,h4,h5,h6=>by
  simp at h1 h2 h3 h4; subst h2; subst h4
  have:=liveN_mem h1 h3 h5
  simp only [liveN] at hn
  cases hd:isDead y
  ·rw [hd] at hn
   exact absurd this (List.nodup_cons.1 hn).1
  ·cases y <;> first | (cases hd; done)|exact absurd rfl h6
 | a::r,y::t,hn,k+1,k'+1,j,x,x',h1,h2,h3,h4,h5,h6=>by
  simp at h1 h2 h3 h4
  have hn':(liveN r t).Nodup:=by
   simp only [liveN] at hn
   cases hd:isDead y
   ·rw [hd] at hn; exact (List.nodup_cons.1 hn).2
   ·rw [hd] at hn; exact hn
  rw [liveN_inj hn' k k' j x x' h1 h2 h3 h4 h5 h6]
theorem idUpto_ok:∀ (n i:Nat) (φ:List Nat),idUpto n i φ=true→∀ k,k<n→φ[k]?=some (i+k)
 | 0,_,_,_,k,hk=>by omega
 | n+1,i,[],h,_,_=>by cases h
 | n+1,i,j::r,h,k,hk=>by
  simp only [idUpto,Bool.and_eq_true] at h
  cases k with
  | zero=>simp [Nat.eq_of_beq_eq_true h.1]
  | succ k =>
   have:=idUpto_ok n (i+1) r h.2 k (by omega)
   simp only [List.getElem?_cons_succ,this]
   congr 1; omega
theorem subE_ext {E0 E:Emb} {φ:List Nat} (h:Ext E0 E) (hi:idUpto E0.length 0 φ=true):Ext E0 (subE E φ):=by
 intro k r hk
 have hlt:=(List.getElem?_eq_some_iff.1 hk).1
 have:=idUpto_ok _ _ _ hi k hlt
 unfold subE
 simp [this,h k r hk]
theorem Rep.weak {X:Nat→Prop} {w0 w:World} {E:Emb} {L K:LH} (h:Rep X w0 E L w) (hlen:K.length=L.length) (hk:∀ (k:Nat) (x:LB),K[k]?=some x→x=.dead∨L[k]?=some x):Rep X w0 E K w:=by
 refine ⟨h.fr,by rw [h.len,hlen],fun k x r hx hr b hf=>?_,fun k x r hx hr=>?_,fun k k' x x' r r' b hx hx' hr hr' hf hf'=>?_⟩
 ·rcases hk k x hx with rfl | h1
  ·exact hf.elim
  ·exact h.rng k x r h1 hr b hf
 ·rcases hk k x hx with rfl | h1
  ·trivial
  ·exact h.blk k x r h1 hr
 ·rcases hk k x hx with rfl | h1
  ·exact hf.elim
  ·rcases hk k' x' hx' with rfl | h1'
   ·exact hf'.elim
   ·exact h.inj k k' x x' r r' b h1 h1' hr hr' hf hf'
theorem uKill_length (n:Nat) (p:List (Nat × Nat)):∀ (i:Nat) (L:LH),(uKill n p i L).length=L.length
 | _,[]=>rfl
 | i,x::r=>by simp [uKill,uKill_length n p (i+1) r]
theorem uKill_get (n:Nat) (p:List (Nat × Nat)):∀ (i:Nat) (L:LH) (k:Nat) (x:LB),(uKill n p i L)[k]?=some x→x=.dead∨L[k]?=some x
 | _,[],k,x,h=>by simp [uKill] at h
 | i,y::r,0,x,h=>by
  simp only [uKill,List.getElem?_cons_zero,Option.some.injEq] at h
  cases hb:Nat.blt i n
  ·rw [hb] at h
   simp only [cond_false] at h
   split at h
   ·exact .inr (by simp [h])
   ·exact .inl h.symm
  ·rw [hb] at h; exact .inr (by simpa using h)
 | i,y::r,k+1,x,h=>by
  simp only [uKill,List.getElem?_cons_succ] at h
  simpa using uKill_get n p (i+1) r k x h
theorem same2_kill {X:Nat→Prop} {w0 w:World} {E:Emb} {n:Nat} {l1 l2:Env} {L1 L2 K:LH} (h:same2 n l1 L1 l2 L2=some K) (hR:Rep X w0 E L1 w):Rep X w0 E K w:=by
 unfold same2 at h
 simp only at h
 generalize uRun n L1 L2 1000 (uOld n n L1 L2 (uE n l1 l2 ([],[])))=p at h
 generalize uPhi n p 0 L1=φ at h
 have key:uKill n p 0 L1=K:=by
  revert h
  cases (Nat.beq φ.length (uKill n p 0 L1).length && ckB φ L2 0 (uKill n p 0 L1) && ndup (liveN φ (uKill n p 0 L1)) && ckE l2 (rnE L2.length φ l1) && idUpto n 0 φ)
  ·intro h; cases h
  ·intro h; cases h; rfl
 subst key
 exact hR.weak (uKill_length n p 0 L1) (fun k x=>uKill_get n p 0 L1 k x)
theorem same2_ok {X:Nat→Prop} {w0 w:World} {E0 E:Emb} {l1 l2 l':Env} {L1 L2 K:LH} (h:same2 E0.length l1 L1 l2 L2=some K) (hE:Ext E0 E) (hR:Rep X w0 E L2 w) (hl:ER E l2 l'):∃ E',Ext E0 E'∧Rep X w0 E' K w∧ER E' l1 l':=by
 unfold same2 at h
 simp only at h
 generalize uRun E0.length L1 L2 1000 (uOld E0.length E0.length L1 L2 (uE E0.length l1 l2 ([],[])))=p at h
 generalize uPhi E0.length p 0 L1=φ at h
 generalize uKill E0.length p 0 L1=K' at h
 cases hc:(Nat.beq φ.length K'.length && ckB φ L2 0 K' && ndup (liveN φ K') && ckE l2 (rnE L2.length φ l1) && idUpto E0.length 0 φ)
 ·rw [hc] at h; cases h
 rw [hc] at h
 cases h
 simp only [Bool.and_eq_true] at hc
 obtain ⟨⟨⟨⟨h1,h2⟩,h3⟩,h4⟩,h5⟩:=hc
 refine ⟨subE E φ,subE_ext hE h5,hR.sub (Nat.eq_of_beq_eq_true h1) (fun k x hx=>by simpa using ckB_ok K 0 h2 k x hx) (liveN_inj (ndup_ok h3)),ER.sub ?_⟩
 rw [hR.len,← ckE_ok h4]
 exact hl
end Go.Tum
end
