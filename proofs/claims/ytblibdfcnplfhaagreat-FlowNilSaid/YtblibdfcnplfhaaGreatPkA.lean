/-
  What the proof leans on, part 1: of the texts Logic, Region, Ops, OpsSound, Eff, Comp, Plan, Walk, Mem, Slice, Map, Raw, Final, Args.
-/
import Derived.Deep.Slices
import Derived.KernelRfl
import Derived.OpenShut
import Derived.OrdersHeld
import Derived.ProofKit
import Derived.Tactics
import Derived.WalkKit
set_option linter.unusedVariables false
set_option linter.unusedSimpArgs false
set_option linter.unusedSectionVars false
section
namespace Go.Tum
abbrev Env:=List (Nat × Value)
def eget:Env→Nat→Option Value
 | [],_=>none
 | (k,v)::r,t=>bif Nat.beq k t then some v else eget r t
def ev (l:Env):Operand→Option Value
 | .tmp t=>eget l t
 | .const v=>some v
 | .global g=>some (.pointer (some ⟨g,0,none⟩))
 | .func f=>some (.func (.func f) #[] #[])
structure At (N:Nat) (l:Env) (a:Act):Prop where
 defers:a.defers=[]
 size:a.tmps.size=N
 get:∀ t v,eget l t=some v→a.tmps.getD t undef=v
def Agr (l:Env) (ρ:Operand→Value):Prop:=∀ x v,ev l x=some v→ρ x=v
theorem At.agr {N:Nat} {l:Env} {a:Act} (h:At N l a):Agr l a.eval:=by
 intro x v hx
 cases x with
 | tmp t=>exact h.get t v hx
 | const u=>simpa [ev,Act.eval] using hx
 | global g=>simpa [ev,Act.eval] using hx
 | func f=>simpa [ev,Act.eval] using hx
theorem eget_cons (k:Nat) (v:Value) (r:Env) (t:Nat):eget ((k,v)::r) t=if k=t then some v else eget r t:=by
 simp only [eget]
 by_cases h:k=t
 ·subst h; simp
 ·rw [if_neg h]
  cases hb:Nat.beq k t
  ·rfl
  ·exact absurd (Nat.eq_of_beq_eq_true hb) h
theorem At.put {N:Nat} {l:Env} {a:Act} (h:At N l a) {d:Nat} (hd:d<N) (v:Value):At N ((d,v)::l) (a.put (some d) v):=by
 refine ⟨h.defers,by simp [Act.put,h.size],fun t u ht=>?_⟩
 rw [eget_cons] at ht
 by_cases e:d=t
 ·subst e
  rw [if_pos rfl] at ht
  cases ht
  simp [Act.put,h.size,hd]
 ·rw [if_neg e] at ht
  have:=h.get t u ht
  simpa [Act.put,Array.getElem?_setIfInBounds_ne e] using this
def dpush (d:Option Nat) (v:Value) (l:Env):Env :=
 match d with
 | some d=>(d,v)::l
 | none=>l
theorem At.putO {N:Nat} {l:Env} {a:Act} (h:At N l a) {d:Option Nat} (hd:∀ x,d=some x→x<N) (v:Value):At N (dpush d v l) (a.put d v):=by
 cases d with
 | none=>exact h
 | some d=>exact h.put (hd d rfl) v
def Sub (l' l:Env):Prop:=∀ t v,eget l' t=some v→eget l t=some v
theorem At.sub {N:Nat} {l l':Env} {a:Act} (h:At N l a) (hs:Sub l' l):At N l' a:=⟨h.defers,h.size,fun t v ht=>h.get t v (hs t v ht)⟩
theorem Sub.refl (l:Env):Sub l l:=fun _ _ h=>h
theorem Sub.nil (l:Env):Sub [] l:=fun _ _ h=>by cases h
theorem Sub.cons {l' l:Env} {t:Nat} {v:Value} (h:eget l t=some v) (hs:Sub l' l):Sub ((t,v)::l') l:=by
 intro s u hs'
 rw [eget_cons] at hs'
 by_cases e:t=s
 ·subst e; rw [if_pos rfl] at hs'; cases hs'; exact h
 ·rw [if_neg e] at hs'; exact hs s u hs'
structure Sim (w0 w:World):Prop where
 heap:w0.heap=w.heap
 tape:w0.tape=w.tape
 os:w0.os=w.os
 output:w0.output=w.output
theorem Sim.refl (w:World):Sim w w:=⟨rfl,rfl,rfl,rfl⟩
theorem Sim.trans {a b c:World} (h:Sim a b) (k:Sim b c):Sim a c:=⟨h.heap.trans k.heap,h.tape.trans k.tape,h.os.trans k.os,h.output.trans k.output⟩
theorem Sim.symm {a b:World} (h:Sim a b):Sim b a:=⟨h.heap.symm,h.tape.symm,h.os.symm,h.output.symm⟩
theorem Sim.drawn {w0 w:World} (h:Sim w0 w) (n:Nat):Sim { w0 with drawn:=n } w:=⟨h.heap,h.tape,h.os,h.output⟩
theorem Sim.cell {w0 w:World} (h:Sim w0 w) (p:Addr):w0.cell? p=w.cell? p:=by simp only [World.cell?,h.heap]
theorem Sim.frozen {w0 w:World} (h:Sim w0 w) (p:Addr):w0.frozen? p=w.frozen? p:=by simp only [World.frozen?,h.heap]
theorem Sim.setCell {w0 w:World} (h:Sim w0 w) (p:Addr) (v:Value):Sim (w0.setCell p v) (w.setCell p v):=⟨by simp only [World.setCell,h.heap],h.tape,h.os,h.output⟩
theorem Sim.push {w0 w:World} (h:Sim w0 w) (o:Obj):Sim { w0 with heap:=w0.heap.push o } { w with heap:=w.heap.push o }:=⟨by simp only [h.heap],h.tape,h.os,h.output⟩
theorem Sim.setObj {w0 w:World} (h:Sim w0 w) (r:Nat) (o:Obj):Sim { w0 with heap:=w0.heap.setIfInBounds r o } { w with heap:=w.heap.setIfInBounds r o }:=⟨by simp only [h.heap],h.tape,h.os,h.output⟩
def Does (P:Program) (f:FuncId) (args:Array Value) (w:World) (R:Value→World→Prop):Prop :=
 ∀ w0,Sim w0 w→Calls P f args w0 fun e w'=>∃ w1,Sim w' w1∧∃ v,e=.returned v∧R v w1
theorem Does.mono {P:Program} {f:FuncId} {args:Array Value} {w:World} {R R':Value→World→Prop} (h:Does P f args w R) (hr:∀ v w',R v w'→R' v w'):Does P f args w R' :=
 fun w0 hs=>(h w0 hs).mono fun _ _ ⟨w1,h1,v,h2,h3⟩=>⟨w1,h1,v,h2,hr _ _ h3⟩
def Eff (P:Program) (n:Sem Next) (w:World) (K:Value→World→Prop):Prop :=
 match n.run P w with
 | .ok (.value v) w'=>K v w'
 | .ok .skip w'=>K undef w'
 | .ok (.enter f args) w'=>Calls P f args w' fun e w''=>∃ v,e=.returned v∧K v w''
 | _=>False
theorem Eff.mono {P:Program} {n:Sem Next} {w:World} {K K':Value→World→Prop} (h:Eff P n w K) (hk:∀ v w',K v w'→K' v w'):Eff P n w K':=by
 unfold Eff at *
 cases hr:n.run P w with
 | ok x w' =>
  rw [hr] at h
  cases x <;> first|exact h.elim | skip
  case value v=>exact hk _ _ h
  case skip=>exact hk _ _ h
  case enter f args=>exact Calls.mono h fun e w'' ⟨v,he,hK⟩=>⟨v,he,hk _ _ hK⟩
 | halt x w'=>rw [hr] at h; exact h.elim
theorem Eff.value {P:Program} {n:Sem Next} {w w':World} {v:Value} {K:Value→World→Prop} (h:n.run P w=.ok (.value v) w') (hk:K v w'):Eff P n w K:=by
 unfold Eff; rw [h]; exact hk
theorem Eff.skip {P:Program} {n:Sem Next} {w w':World} {K:Value→World→Prop} (h:n.run P w=.ok .skip w') (hk:K undef w'):Eff P n w K:=by
 unfold Eff; rw [h]; exact hk
theorem Eff.wp {P:Program} {o:Oper} {a:Act} {w:World} {K:Act→World→Prop} {Q:Exit→Act→World→Prop}
  (h:Eff P (execOp a.eval o) w fun v w'=>K (a.put o.dst v) w'):o.wp P a w K Q:=by
 unfold Eff at h
 unfold Oper.wp
 cases hr:(execOp a.eval o).run P w with
 | ok x w' =>
  rw [hr] at h
  cases x <;> first|exact h.elim | skip
  case value v=>exact h
  case skip=>exact h
  case enter f args =>
   refine Calls.mono h fun e w'' ⟨v,he,hK⟩=>?_
   subst he; exact hK
 | halt x w'=>rw [hr] at h; exact h.elim
def lift (N:Nat) (Q:Exit→Env→World→Prop) (e:Exit) (a:Act) (w:World):Prop :=
 match e with
 | .panic _=>False
 | .outgrown=>False
 | e=>∃ l w1,At N l a∧Sim w w1∧Q e l w1
def V (P:Program) (N:Nat) (c:Code) (Q:Exit→Env→World→Prop) (l:Env) (w:World):Prop :=
 ∀ a w0,At N l a→Sim w0 w→c.wp P (lift N Q) a w0
abbrev thenQ (next:Env→World→Prop) (Q:Exit→Env→World→Prop):Exit→Env→World→Prop
 | .normal,l,w=>next l w
 | e,l,w=>Q e l w
abbrev blkQ (id:Nat) (Q:Exit→Env→World→Prop):Exit→Env→World→Prop
 | .exit id',l,w=>if id'=id then Q .normal l w else Q (.exit id') l w
 | e,l,w=>Q e l w
section
variable {P:Program} {N:Nat} {Q:Exit→Env→World→Prop} {l:Env} {w:World}
theorem V.skip (h:Q .normal l w):V P N .skip Q l w:=fun _ _ ha hs=>wp_skip ⟨l,w,ha,hs,h⟩
theorem V.exit {id:Nat} (h:Q (.exit id) l w):V P N (.exit id) Q l w:=fun _ _ ha hs=>wp_exit ⟨l,w,ha,hs,h⟩
theorem V.ret (h:Q .ret l w):V P N .ret Q l w:=fun _ _ ha hs=>wp_ret ⟨l,w,ha,hs,h⟩
theorem V.seq {x y:Code} (h:V P N x (thenQ (V P N y Q) Q) l w):V P N (.seq x y) Q l w:=fun a w0 ha hs =>
 wp_seq (wp_mono (h a w0 ha hs) fun e a' w' hq=>by
  cases e with
  | normal=>obtain ⟨l',w1,h1,h2,h3⟩:=hq; exact h3 a' w' h1 h2
  | panic c=>exact hq
  | outgrown=>exact hq
  | ret=>exact hq
  | exit i=>exact hq
  | goto i=>exact hq)
theorem V.cond {c:Operand} {x y:Code} {t:Bool} (hc:ev l c=some (.bool t)) (ht:t=true→V P N x Q l w) (hf:t=false→V P N y Q l w) :
  V P N (.cond c x y) Q l w:=fun a w0 ha hs =>
 wp_cond_split (ha.agr c _ hc) (fun h=>ht h a w0 ha hs) (fun h=>hf h a w0 ha hs)
theorem V.block {id:Nat} {c:Code} (h:V P N c (blkQ id Q) l w):V P N (.block id c) Q l w:=fun a w0 ha hs =>
 wp_block (wp_mono (h a w0 ha hs) fun e a' w' hq=>by
  cases e with
  | exit i =>
   obtain ⟨l',w1,h1,h2,h3⟩:=hq
   simp only [Exit.inBlock]
   by_cases e:i=id
   ·rw [if_pos e]; simp only [blkQ,if_pos e] at h3; exact ⟨l',w1,h1,h2,h3⟩
   ·rw [if_neg e]; simp only [blkQ,if_neg e] at h3; exact ⟨l',w1,h1,h2,h3⟩
  | normal=>exact hq
  | panic c=>exact hq
  | outgrown=>exact hq
  | ret=>exact hq
  | goto i=>exact hq)
theorem wp_loop_rank {c:Code} {Q:Exit→Act→World→Prop} {a:Act} {w:World} (J:Nat→Act→World→Prop) (n:Nat) (h0:J n a w)
  (round:∀ n a w,J n a w→c.wp P (Exit.then (fun a' w'=>∃ m,m<n∧J m a' w') Q) a w):(Code.loop c).wp P Q a w:=by
 intro b k cs
 have key:∀ n a w,J n a w→∃ e a' w',Q e a' w'∧Arrives P (lone (b.at a (.code c::.inLoop c::k)) cs w) b k cs e a' w':=by
  intro n
  induction n using Nat.strongRecOn with
  | _ n ih =>
   intro a w hJ
   obtain ⟨e,a1,w1,hq,harr⟩:=round n a w hJ b (.inLoop c::k) cs
   cases e with
   | normal =>
    obtain ⟨m,hm,hJ1⟩:=hq
    obtain ⟨e2,a2,w2,hq2,harr2⟩:=ih m hm a1 w1 hJ1
    exact ⟨e2,a2,w2,hq2,.of_steps (Steps.trans harr (.one step_inLoop)) harr2⟩
   | exit id=>exact ⟨_,a1,w1,hq,.pass (x:=.inLoop c) rfl (fun _ _=>.inl (by simp)) harr⟩
   | goto l=>exact ⟨_,a1,w1,hq,.pass (x:=.inLoop c) rfl (fun _ _=>.inl (by simp)) harr⟩
   | ret=>exact ⟨_,a1,w1,hq,.pass (x:=.inLoop c) rfl (fun _ _=>.inl (by simp)) harr⟩
   | panic ch=>exact ⟨_,a1,w1,hq,.pass (x:=.inLoop c) rfl (fun _ _=>.inl (by simp)) harr⟩
   | outgrown=>exact ⟨_,a1,w1,hq,.pass (x:=.inLoop c) rfl (fun _ _=>.inl (by simp)) harr⟩
 obtain ⟨e,a',w',hq,harr⟩:=key n a w h0
 exact ⟨e,a',w',hq,.of_steps (.one step_loop) harr⟩
theorem V.loop {c:Code} (I:Nat→Env→World→Prop) (n:Nat) (h0:I n l w)
  (round:∀ n l w,I n l w→V P N c (thenQ (fun l' w'=>∃ m,m<n∧∃ l'',Sub l'' l'∧I m l'' w') Q) l w):V P N (.loop c) Q l w:=fun a w0 ha hs =>
 wp_loop_rank (fun n a w0=>∃ l w,At N l a∧Sim w0 w∧I n l w) n ⟨l,w,ha,hs,h0⟩ fun n a w0 ⟨l,w,ha,hs,hI⟩ =>
  wp_mono (round n l w hI a w0 ha hs) fun e a' w' hq=>by
   cases e with
   | normal=>obtain ⟨l',w1,h1,h2,m,hm,l'',hsub,hI'⟩:=hq; exact ⟨m,hm,l'',w1,h1.sub hsub,h2,hI'⟩
   | panic c=>exact hq
   | outgrown=>exact hq
   | ret=>exact hq
   | exit i=>exact hq
   | goto i=>exact hq
end
end Go.Tum
end
section
namespace Go.Tum
open Go
section
variable {P:Program} {ops:Array Oper} {Q:Exit→Act→World→Prop}
def direct (ops:Array Oper) (j k:Nat):Bool :=
 match ops[j]? with
 | some o=>o.after.any fun e=>Region.binds .any e && e.on == k
 | none=>false
abbrev Facts:=List (Nat × (World→Prop))
def flt (ops:Array Oper) (j:Nat) (T:Facts):Facts:=T.filter fun x => !direct ops j x.1
def wpAnyT (P:Program) (ops:Array Oper) (Q:Exit→Act→World→Prop):Facts→Nat→Array Bool→Act→World→Prop
 | _,0,listed,a,w=>Region.ready .any ops listed=[]∧Q .normal a w
 | T,fuel+1,listed,a,w =>
  (Region.ready .any ops listed=[]→Q .normal a w) ∧
  ∀ i∈Region.ready .any ops listed,wpOp P ops Q i (fun a' w'=>(∀ x∈flt ops i T,x.2 w→x.2 w')∧wpAnyT P ops Q (flt ops i T) fuel (listed.setIfInBounds i true) a' w') a w
theorem wpAny_of_T:∀ (fuel:Nat) (T:Facts) (listed:Array Bool) (a:Act) (w:World),wpAnyT P ops Q T fuel listed a w→wpAny P .any ops Q fuel listed a w
 | 0,_,_,_,_,h=>h
 | fuel+1,_,_,_,_,h=>⟨h.1,fun i hi=>wpOp_mono (fun a' w' h'=>wpAny_of_T fuel _ _ a' w' h'.2) (h.2 i hi)⟩
theorem flt_sub {T T':Facts} (h:∀ x∈T',x∈T) (j:Nat):∀ x∈flt ops j T',x∈flt ops j T:=by
 intro x hx
 simp only [flt,List.mem_filter] at *
 exact ⟨h x hx.1,hx.2⟩
theorem wpAnyT_less:∀ (fuel:Nat) (T T':Facts) (listed:Array Bool) (a:Act) (w:World),(∀ x∈T',x∈T)→wpAnyT P ops Q T fuel listed a w→wpAnyT P ops Q T' fuel listed a w
 | 0,_,_,_,_,_,_,h=>h
 | fuel+1,_,_,_,_,_,hs,h=>⟨h.1,fun i hi=>wpOp_mono (fun a' w' h'=>⟨fun x hx=>h'.1 x (flt_sub hs i x hx),wpAnyT_less fuel _ _ _ a' w' (flt_sub hs i) h'.2⟩) (h.2 i hi)⟩
theorem wpAnyT_first {i:Nat} {oi:Oper} {v:Value} {S:World→Prop} (hi:ops[i]?=some oi) (hsel:∀ (j:Nat) (o:Oper) cs b,ops[j]?=some o→o.op≠.select cs b)
  (hQ:∀ c a w,Q (.panic c) (a.put oi.dst v) w→Q (.panic c) a w) :
  ∀ (fuel:Nat) (T:Facts) (listed:Array Bool) (a:Act) (w:World),
   (∀ j oj,ops[j]?=some oj→j≠i→listed.getD j true=false→(∀ e∈oj.after,Region.binds .any e=true→e.on≠i)→oi.apart ops oj=true) →
   i∈Region.ready .any ops listed→YieldsIf P ops S oi v a→S w →
   wpAnyT P ops Q ((i,S)::T) fuel (listed.setIfInBounds i true) (a.put oi.dst v) w→wpAnyT P ops Q T (fuel+1) listed a w:=by
 intro fuel
 induction fuel with
 | zero =>
  intro T listed a w _ hr hy hS H
  refine ⟨fun h=>(by rw [h] at hr; cases hr),fun j hj=>?_⟩
  by_cases hji:j=i
  ·subst hji
   exact hy.wpOp hi hS ⟨fun x _ hx=>hx,H⟩
  ·have:=ready_mono hj hji
   rw [H.1] at this
   cases this
 | succ fuel ih =>
  intro T listed a w hfree hr hy hS H
  refine ⟨fun h=>(by rw [h] at hr; cases hr),fun j hj=>?_⟩
  by_cases hji:j=i
  ·subst hji
   refine hy.wpOp hi hS ⟨fun x _ hx=>hx,wpAnyT_less _ _ _ _ _ _ (fun x hx=>?_) H⟩
   exact List.mem_cons_of_mem _ (List.mem_filter.1 hx).1
  ·have h1:=H.2 j (ready_mono hj hji)
   obtain ⟨hjun,oj,hoj,hall⟩:=mem_ready.1 hj
   have hnot:∀ e∈oj.after,Region.binds .any e=true→e.on≠i:=fun e he hb heq=>by
    have h1:=hall e he hb
    have h0:=(mem_ready.1 hr).1
    rw [heq] at h1
    rcases Nat.lt_or_ge i listed.size with h' | h'
    ·simp [h'] at h0 h1; rw [h0] at h1; cases h1
    ·simp [Array.getElem?_eq_none h'] at h1
   have hdir:direct ops j i=false:=by
    unfold direct
    rw [hoj]
    show Array.any _ _=false
    rw [Array.any_eq_false']
    intro e he hb
    simp only [Bool.and_eq_true,beq_iff_eq] at hb
    exact hnot e he hb.1 hb.2
   have hflt:flt ops j ((i,S)::T)=(i,S)::flt ops j T:=by simp [flt,hdir]
   rw [hflt] at h1
   have h2:=wpOp_putIf hoj (hfree j oj hoj hji hjun hnot) (fun cs b=>hsel i oi cs b hi) (fun cs b=>hsel j oj cs b hoj) hQ hy h1
   have hfree':∀ k ok,ops[k]?=some ok→k≠i→(listed.setIfInBounds j true).getD k true=false →
     (∀ e∈ok.after,Region.binds .any e=true→e.on≠i)→oi.apart ops ok=true:=fun k ok hk hki hun hno=>by
    refine hfree k ok hk hki ?_ hno
    by_cases hjk:j=k
    ·subst hjk; exact hjun
    ·rw [getD_set_ne true hjk] at hun; exact hun
   refine wpOp_mono (fun a' w' h3=>⟨fun x hx=>h3.2.1 x (List.mem_cons_of_mem _ hx),?_⟩) h2
   have hS':S w':=h3.2.1 (i,S) (List.mem_cons_self ..) hS
   refine ih (flt ops j T) (listed.setIfInBounds j true) a' w' hfree' (ready_mono hr (Ne.symm hji)) h3.1 hS' ?_
   rw [Array.setIfInBounds_comm _ _ hji]
   exact h3.2.2
theorem wpAnyT_take {i:Nat} {oi:Oper} {v:Value} {S:World→Prop} {fuel:Nat} {T:Facts} {listed:Array Bool} {a:Act} {w:World} (hi:ops[i]?=some oi)
  (hs:Region.noSelect ops=true) (hf:Region.free .any ops listed i=true) (hr:i∈Region.ready .any ops listed)
  (hQ:∀ c a w,Q (.panic c) (a.put oi.dst v) w→Q (.panic c) a w) (hy:YieldsIf P ops S oi v a) (hS:S w)
  (h:wpAnyT P ops Q ((i,S)::T) fuel (listed.setIfInBounds i true) (a.put oi.dst v) w):wpAnyT P ops Q T (fuel+1) listed a w :=
 wpAnyT_first hi (Region.noSelect_spec hs) hQ fuel T listed a w (Region.free_spec hi hf) hr hy hS h
theorem wpAnyT_takeFree {i:Nat} {oi:Oper} {v:Value} {fuel:Nat} {T:Facts} {listed:Array Bool} {a:Act} {w:World} (hi:ops[i]?=some oi)
  (hs:Region.noSelect ops=true) (hf:Region.free .any ops listed i=true) (hr:i∈Region.ready .any ops listed)
  (hQ:∀ c a w,Q (.panic c) (a.put oi.dst v) w→Q (.panic c) a w) (hy:YieldsIf P ops (fun _=>True) oi v a)
  (h:wpAnyT P ops Q T fuel (listed.setIfInBounds i true) (a.put oi.dst v) w):wpAnyT P ops Q T (fuel+1) listed a w:=by
 refine wpAnyT_take hi hs hf hr hQ hy trivial ?_
 clear hy hr hf hi
 generalize listed.setIfInBounds i true=L at h
 generalize a.put oi.dst v=b at h
 clear hQ
 have key:∀ (fuel:Nat) (T:Facts) (U:Facts) (listed:Array Bool) (a:Act) (w:World),(∀ x∈U,x∈T∨∀ w,x.2 w)→wpAnyT P ops Q T fuel listed a w→wpAnyT P ops Q U fuel listed a w:=by
  intro fuel
  induction fuel with
  | zero=>intro T U listed a w _ h; exact h
  | succ fuel ih =>
   intro T U listed a w hU h
   have hU':∀ i,∀ x∈flt ops i U,x∈flt ops i T∨∀ w,x.2 w:=by
    intro i x hx
    simp only [flt,List.mem_filter] at *
    rcases hU x hx.1 with h1 | h1
    ·exact .inl ⟨h1,hx.2⟩
    ·exact .inr h1
   refine ⟨h.1,fun i hi=>wpOp_mono (fun a' w' h'=>⟨fun x hx hw=>?_,ih _ _ _ a' w' (hU' i) h'.2⟩) (h.2 i hi)⟩
   rcases hU' i x hx with h1 | h1
   ·exact h'.1 x h1 hw
   ·exact h1 _
 refine key fuel T _ L b w (fun x hx=>?_) h
 rcases List.mem_cons.1 hx with rfl | hx
 ·exact .inr fun _=>trivial
 ·exact .inl hx
theorem wpAnyT_one {i:Nat} {fuel:Nat} {T:Facts} {listed:Array Bool} {a:Act} {w:World} (hr:Region.ready .any ops listed=[i])
  (h:wpOp P ops Q i (fun a' w'=>(∀ x∈flt ops i T,x.2 w→x.2 w')∧wpAnyT P ops Q (flt ops i T) fuel (listed.setIfInBounds i true) a' w') a w) :
  wpAnyT P ops Q T (fuel+1) listed a w :=
 ⟨fun h0=>(by rw [hr] at h0; cases h0),fun j hj=>(by rw [hr] at hj; obtain rfl:=List.mem_singleton.1 hj; exact h)⟩
theorem wpAnyT_done {T:Facts} {listed:Array Bool} {a:Act} {w:World} (hr:Region.ready .any ops listed=[]) (h:Q .normal a w):∀ fuel,wpAnyT P ops Q T fuel listed a w
 | 0=>⟨hr,h⟩
 | _+1=>⟨fun _=>h,by rw [hr]; simp⟩
theorem wp_region_T {id:Nat} {a:Act} {w:World} (hm:P.follows .mixedOrders=true)
  (h:wpAnyT P ops Q [] ops.size (Array.replicate ops.size false) a { w with drawn:=w.drawn+1 }):(Code.region id ops true).wp P Q a w :=
 wp_region_any hm (wpAny_of_T _ _ _ _ _ h)
end
end Go.Tum
end
section
namespace Go.Tum
open Go
inductive QOp where
 | mov (x:Operand)
 | pick (c a b:Operand)
 | nilc (x:Operand)
 | fld (x:Operand) (off:Nat)
 | fldv (x:Operand) (off:Nat)
 | fldn (x:Operand) (off n:Nat)
 | idx (x i:Operand) (size:Nat)
 | idxa (x i:Operand) (len size:Nat)
 | ext (x:Operand) (k:Nat)
 | bin (op:BinOp) (x y:Operand)
 | nilp (neg:Bool) (x:Operand)
 | un (op:UnOp) (x:Operand)
 | cvi (k:IntKind) (x:Operand)
 | len (x:Operand)
 | slc (x:Operand) (lo hi:Option Operand) (size:Nat)
 | bld (zero:List Value) (parts:List (Nat × Nat × Operand))
 | ld (x:Operand)
 | ldn (x:Operand) (n:Nat)
 | sh (lft:Bool) (x y:Operand)
 | xorn (x:Operand)
 | mm (mx:Bool) (x y:Operand)
 | mkf (fn:Fn) (first cap:List Operand)
 | raw (o:Oper)
def evs (l:Env):List Operand→Option (List Value)
 | []=>some []
 | x::r=>match ev l x with
  | some v=>match evs l r with
   | some vs=>some (v::vs)
   | none=>none
  | none=>none
def ishift (lft:Bool) (k:IntKind) (a n:Int):Int :=
 match lft with
 | true=>k.wrap (a*2 ^ (min n.toNat k.bits))
 | false=>a.fdiv (2 ^ (min n.toNat k.bits))
def ixorn (k:IntKind) (n:Int):Int:=k.wrap (BitVec.ofInt k.bits (if k.signed then -1 else k.max) ^^^ BitVec.ofInt k.bits n).toNat
def imm (mx:Bool) (a b:Int):Int :=
 match mx with
 | true=>max a b
 | false=>min a b
def ibin (op:BinOp) (k:IntKind) (a b:Int):Option Value :=
 match op with
 | .add=>some (.int k (k.wrap (a+b)))
 | .sub=>some (.int k (k.wrap (a-b)))
 | .mul=>some (.int k (k.wrap (a*b)))
 | .eql=>some (.bool (a == b))
 | .neq=>some (.bool (a != b))
 | .lss=>some (.bool (decide (a<b)))
 | .leq=>some (.bool (decide (a≤b)))
 | .gtr=>some (.bool (decide (a > b)))
 | .geq=>some (.bool (decide (a≥b)))
 | .quo=>if b=0 then none else some (.int k (k.wrap (a.tdiv b)))
 | .rem=>if b=0 then none else some (.int k (a.tmod b))
 | .and=>some (.int k (k.wrap (BitVec.ofInt k.bits a &&& BitVec.ofInt k.bits b).toNat))
 | .or=>some (.int k (k.wrap (BitVec.ofInt k.bits a ||| BitVec.ofInt k.bits b).toNat))
 | .xor=>some (.int k (k.wrap (BitVec.ofInt k.bits a ^^^ BitVec.ofInt k.bits b).toNat))
 | .andNot=>some (.int k (k.wrap (BitVec.ofInt k.bits a &&& ~~~ BitVec.ofInt k.bits b).toNat))
 | _=>none
def obound (l:Env) (x:Option Operand) (d:Nat) (n:Nat):Prop :=
 match x with
 | none=>n=d
 | some x=>∃ k i,ev l x=some (.int k i)∧0≤i∧n=i.toNat
def cellsL:Value→List Value
 | .agg ⟨cs⟩=>cs
 | v=>[v]
def setL:List Value→Nat→List Value→Option (List Value)
 | l,_,[]=>some l
 | [],_,_::_=>none
 | _::r,0,v::vs=>match setL r 0 vs with
  | some r'=>some (v::r')
  | none=>none
 | a::r,n+1,v::vs=>match setL r n (v::vs) with
  | some r'=>some (a::r')
  | none=>none
def bldv (l:Env):List Value→List (Nat × Nat × Operand)→Option (List Value)
 | zero,[]=>some zero
 | zero,(off,sz,x)::r=>match ev l x with
  | some u=>bif Nat.beq (cellsL u).length sz then (match setL zero off (cellsL u) with
   | some z=>bldv l z r
   | none=>none) else none
  | none=>none
def QOp.Y (P:Program) (q:QOp) (l:Env) (v:Value) (w:World):Prop :=
 match q with
 | .mov x=>ev l x=some v
 | .pick c a b=>∃ t,ev l c=some (.bool t)∧(if t then ev l a else ev l b)=some v
 | .nilc x=>(∃ p,ev l x=some (.pointer (some p))∧v=.pointer (some p))∨(∃ f a c,ev l x=some (.func (.func f) a c)∧v=.func (.func f) a c)
 | .fld x off=>∃ b o s,ev l x=some (.pointer (some ⟨b,o,s⟩))∧v=.pointer (some (Addr.add ⟨b,o,s⟩ off))
 | .fldv x off=>∃ cs,ev l x=some (.agg cs)∧cs[off]?=some v
 | .fldn x off n=>∃ cs,ev l x=some (.agg cs)∧v=.agg (cs.extract off (off+n))
 | .idx x i size=>∃ p n c k j,ev l x=some (.slice (some p) n c)∧ev l i=some (.int k j)∧0≤j∧j<(n:Int)∧v=.pointer (some (p.add (j.toNat*size)))
 | .idxa x i n size=>∃ p k j,ev l x=some (.pointer (some p))∧ev l i=some (.int k j)∧0≤j∧j<(n:Int)∧v=.pointer (some (p.add (j.toNat*size)))
 | .ext x k=>∃ vs,ev l x=some (.tuple vs)∧vs[k]?=some v
 | .bin op x y=>∃ k a b,ev l x=some (.int k a)∧ev l y=some (.int k b)∧ibin op k a b=some v
 | .nilp neg x=>∃ p,ev l x=some (.pointer p)∧v=.bool (if neg then p.isSome else p.isNone)
 | .un op x=>(∃ b,op=.not∧ev l x=some (.bool b)∧v=.bool (!b))∨(∃ k n,op=.neg∧ev l x=some (.int k n)∧v=.int k (k.wrap (0-n)))
 | .cvi k x=>∃ k' n,ev l x=some (.int k' n)∧v=.int k (k.wrap n)
 | .len x=>(∃ a n c,ev l x=some (.slice a n c)∧v=.int .i64 n)
 | .slc x lo hi size=>∃ p n c lo' hi',ev l x=some (.slice p n c)∧obound l lo 0 lo'∧obound l hi n hi'∧lo'≤hi'∧hi'≤c ∧
   v=.slice (if c=lo' then p else p.map (·.add (lo'*size))) (hi'-lo') (c-lo')
 | .bld zero parts=>∃ vs,bldv l zero parts=some vs∧v=.agg vs.toArray
 | .ld x=>∃ p,ev l x=some (.pointer (some p))∧w.cell? p=some v
 | .ldn x n=>∃ p vs,ev l x=some (.pointer (some p))∧vs.size=n∧(∀ i,i<n→w.cell? (p.add i)=vs[i]?)∧v=.agg vs
 | .sh lft x y=>∃ k a k' n,ev l x=some (.int k a)∧ev l y=some (.int k' n)∧0≤n∧v=.int k (ishift lft k a n)
 | .xorn x=>∃ k n,ev l x=some (.int k n)∧v=.int k (ixorn k n)
 | .mm mx x y=>∃ k a b,ev l x=some (.int k a)∧ev l y=some (.int k b)∧v=.int k (imm mx a b)
 | .mkf fn first cap=>∃ a c,evs l first=some a∧evs l cap=some c∧v=.func fn a.toArray c.toArray
 | .raw o=>∀ ρ w0,Agr l ρ→Sim w0 w→(execOp ρ o).run P w0=.ok (.value v) w0
theorem QOp.Y_sim {P:Program} {q:QOp} {l:Env} {v:Value} {w w0:World} (h:q.Y P l v w) (hs:Sim w0 w):q.Y P l v w0:=by
 cases q <;> simp only [QOp.Y] at * <;> first|exact h | skip
 case ld x=>obtain ⟨p,h1,h2⟩:=h; exact ⟨p,h1,by rw [hs.cell]; exact h2⟩
 case ldn x n=>obtain ⟨p,vs,h1,h2,h3,h4⟩:=h; exact ⟨p,vs,h1,h2,fun i hi=>by rw [hs.cell]; exact h3 i hi,h4⟩
 case raw o=>exact fun ρ w1 ha h1=>h ρ w1 ha (h1.trans hs)
def scalarT (P:Program) (t:TypeId):Bool :=
 match P.underlying t with
 | some (.struct _)=>false
 | some (.array _ _)=>false
 | some _=>true
 | none=>false
def aggT (P:Program) (t:TypeId):Option Nat :=
 match P.underlying t,P.info? t with
 | some (.struct _),some i=>some i.size
 | some (.array _ _),some i=>some i.size
 | _,_=>none
def placeOf (P:Program) (fs:Array Field) (i:Nat):Option (Nat × Nat) :=
 match fs[i]? with
 | some f=>match P.info? f.type with
  | some ti=>some (f.offset,ti.size)
  | none=>none
 | none=>none
def allInfo (P:Program) (fs:List Field):Bool:=fs.all fun f=>(P.info? f.type).isSome
def placeParts (P:Program) (fs:Array Field):List (Nat × Operand)→Option (List (Nat × Nat × Operand))
 | []=>some []
 | (i,x)::r=>match placeOf P fs i,placeParts P fs r with
  | some (off,sz),some r'=>if sz=0 then none else some ((off,sz,x)::r')
  | _,_=>none
def quietHead:Op→Bool
 | .binOp .. | .unOp .. | .convert .. | .field .. | .fieldAddr .. | .indexAddr .. | .index .. | .lookup .. | .slice .. | .build .. | .load .. | .makeInterface .. | .makeFunc .. => true
 | .call { callee:=.builtin .len,.. } | .call { callee:=.builtin .cap,.. } | .call { callee:=.builtin .min,.. } | .call { callee:=.builtin .max,.. }=>true
 | _=>false
def strip (o:Oper):Oper:=⟨none,o.op,o.type, "",#[],none⟩
def compQ (P:Program) (o:Oper):Option (QOp × Bool) :=
 match o.op with
 | .move x=>some (.mov x,false)
 | .assign x=>some (.mov x,false)
 | .pick c a b=>some (.pick c a b,false)
 | .nilCheck x=>some (.nilc x,false)
 | .extract x k=>some (.ext x k,false)
 | .fieldAddr s x f =>
  match P.underlying s with
  | some (.struct fs)=>match fs[f]? with
   | some fd=>match P.info? fd.type with
    | some i=>if i.size=0 then some (.raw (strip o),true) else some (.fld x fd.offset,false)
    | none=>none
   | none=>none
  | _=>none
 | .field s x f =>
  match P.underlying s with
  | some (.struct fs)=>match fs[f]? with
   | some fd=>if scalarT P fd.type then some (.fldv x fd.offset,false) else match aggT P fd.type with
    | some n=>some (.fldn x fd.offset n,false)
    | none=>none
   | none=>none
  | _=>none
 | .indexAddr t x i =>
  match P.underlying t with
  | some (.slice e)=>match P.info? e with
   | some ie=>some (.idx x i ie.size,false)
   | none=>none
  | some (.array n e)=>match P.info? e with
   | some ie=>some (.idxa x i n ie.size,false)
   | none=>none
  | _=>none
 | .binOp op t x y _ =>
  match P.underlying t with
  | some (.int _)=>match op with
   | .shl=>some (.sh true x y,false)
   | .shr=>some (.sh false x y,false)
   | _=>some (.bin op x y,false)
  | some (.pointer _)=>match op,y with
   | .eql,.const (.pointer none)=>some (.nilp false x,false)
   | .neq,.const (.pointer none)=>some (.nilp true x,false)
   | _,_=>some (.raw (strip o),true)
  | _=>some (.raw (strip o),true)
 | .unOp op _ x=>match op with
  | .not=>some (.un .not x,false)
  | .neg=>some (.un .neg x,false)
  | .xor=>some (.xorn x,false)
  | _=>some (.raw (strip o),true)
 | .convert s d x =>
  match P.underlying s,P.underlying d with
  | some (.int _),some (.int k)=>some (.cvi k x,false)
  | _,_=>some (.raw (strip o),true)
 | .call { callee:=.builtin .len,args,argTypes } =>
  match argTypes[0]?,args.toList with
  | some t,[x]=>match P.underlying t with
   | some (.slice _)=>some (.len x,false)
   | _=>some (.raw (strip o),true)
  | _,_=>some (.raw (strip o),true)
 | .call { callee:=.builtin .min,args,argTypes } =>
  match argTypes[0]?,args.toList with
  | some t,[x,y]=>match P.underlying t with
   | some (.int _)=>some (.mm false x y,false)
   | _=>some (.raw (strip o),true)
  | _,_=>some (.raw (strip o),true)
 | .call { callee:=.builtin .max,args,argTypes } =>
  match argTypes[0]?,args.toList with
  | some t,[x,y]=>match P.underlying t with
   | some (.int _)=>some (.mm true x y,false)
   | _=>some (.raw (strip o),true)
  | _,_=>some (.raw (strip o),true)
 | .makeFunc fn first cap=>some (.mkf fn first.toList cap.toList,false)
 | .slice t x lo hi none =>
  match P.underlying t with
  | some (.slice e)=>match P.info? e with
   | some ie=>some (.slc x lo hi ie.size,false)
   | none=>none
  | _=>some (.raw (strip o),true)
 | .load t x=>if scalarT P t then some (.ld x,true) else match aggT P t with
  | some n=>some (.ldn x n,true)
  | none=>none
 | .build t parts =>
  match P.underlying t,P.info? t with
  | some (.struct fs),some i=>match i.zero,placeParts P fs parts.toList with
   | some z,some ps=>if allInfo P fs.toList then some (.bld z.cells.toList ps,false) else some (.raw (strip o),true)
   | _,_=>some (.raw (strip o),true)
  | _,_=>some (.raw (strip o),true)
 | op=>if quietHead op then some (.raw (strip o),true) else none
end Go.Tum
end
section
namespace Go.Tum
open Go
theorem raw_sound {P:Program} {o:Oper} {l:Env} {v:Value} {w:World} {ρ:Operand→Value} (hy:(QOp.raw o).Y P l v w) (ha:Agr l ρ) :
  (execOp ρ o).run P w=.ok (.value v) w:=hy ρ w ha (Sim.refl w)
section
variable {P:Program} {l:Env} {v:Value} {w:World} {ρ:Operand→Value} {d:Option Tmp} {ty:TypeId} {pos:String} {af:Array Edge} {g:Option (Nat × Bool)}
theorem mov_sound {x:Operand} (hy:(QOp.mov x).Y P l v w) (ha:Agr l ρ):(execOp ρ ⟨d,.move x,ty,pos,af,g⟩).run P w=.ok (.value v) w:=by
 simp [execOp,ha x v hy,go_sem]
theorem assign_sound {x:Operand} (hy:(QOp.mov x).Y P l v w) (ha:Agr l ρ):(execOp ρ ⟨d,.assign x,ty,pos,af,g⟩).run P w=.ok (.value v) w:=by
 simp [execOp,ha x v hy,go_sem]
theorem pick_sound {c a b:Operand} (hy:(QOp.pick c a b).Y P l v w) (ha:Agr l ρ):(execOp ρ ⟨d,.pick c a b,ty,pos,af,g⟩).run P w=.ok (.value v) w:=by
 obtain ⟨t,h1,h2⟩:=hy
 cases t
 ·simp at h2; simp [execOp,ha c _ h1,ha b _ h2,go_sem]
 ·simp at h2; simp [execOp,ha c _ h1,ha a _ h2,go_sem]
theorem nilc_sound {x:Operand} (hy:(QOp.nilc x).Y P l v w) (ha:Agr l ρ):(execOp ρ ⟨d,.nilCheck x,ty,pos,af,g⟩).run P w=.ok (.value v) w:=by
 rcases hy with ⟨p,h1,rfl⟩ | ⟨f,a,c,h1,rfl⟩
 ·simp [execOp,ha x _ h1,go_sem]
 ·simp [execOp,ha x _ h1,go_sem]
theorem evs_map:∀ {xs:List Operand} {vs:List Value},evs l xs=some vs→Agr l ρ→xs.map ρ=vs
 | [],vs,h,_=>by simp only [evs,Option.some.injEq] at h; subst h; rfl
 | x::r,vs,h,ha=>by
  simp only [evs] at h
  cases hx:ev l x with
  | none=>rw [hx] at h; cases h
  | some v =>
   rw [hx] at h
   cases hr:evs l r with
   | none=>rw [hr] at h; cases h
   | some us=>rw [hr] at h; cases h; simp [ha x v hx,evs_map hr ha]
theorem sh_sound {lft:Bool} {t t':TypeId} {x y:Operand} (hy:(QOp.sh lft x y).Y P l v w) (ha:Agr l ρ):(execOp ρ ⟨d,.binOp (if lft then .shl else .shr) t x y t',ty,pos,af,g⟩).run P w=.ok (.value v) w:=by
 obtain ⟨k,a,k',n,h1,h2,h3,rfl⟩:=hy
 have hn:¬ n<0:=by omega
 cases lft
 ·simp [execOp,ha x _ h1,ha y _ h2,eqGuard,binOp,Op.shift,hn,ishift,go_sem]
 ·simp [execOp,ha x _ h1,ha y _ h2,eqGuard,binOp,Op.shift,hn,ishift,go_sem]
theorem xorn_sound {t:TypeId} {x:Operand} (hy:(QOp.xorn x).Y P l v w) (ha:Agr l ρ):(execOp ρ ⟨d,.unOp .xor t x,ty,pos,af,g⟩).run P w=.ok (.value v) w:=by
 obtain ⟨k,n,h1,rfl⟩:=hy
 simp [execOp,ha x _ h1,Op.unary,Op.intBits,ixorn,go_sem]
theorem mm_sound {mx:Bool} {x y:Operand} {args:Array Operand} {ats:Array TypeId} (hargs:args.toList=[x,y]) (hy:(QOp.mm mx x y).Y P l v w) (ha:Agr l ρ):(execOp ρ ⟨d,.call ⟨.builtin (if mx then .max else .min),args,ats⟩,ty,pos,af,g⟩).run P w=.ok (.value v) w:=by
 obtain rfl:args = #[x,y]:=by simpa using congrArg List.toArray hargs
 obtain ⟨k,a,b,h1,h2,rfl⟩:=hy
 cases mx
 ·have:(if b<a then b else a)=min a b:=by rw [Int.min_def]; split <;> split <;> omega
  simp [execOp,resolve,invoke,builtin,Builtin.min_,Builtin.min2,ha x _ h1,ha y _ h2,this,imm]
 ·simp [execOp,resolve,invoke,builtin,Builtin.max_,Builtin.max2,ha x _ h1,ha y _ h2,imm]
  omega
theorem mkf_sound {fn:Fn} {first cap:Array Operand} (hy:(QOp.mkf fn first.toList cap.toList).Y P l v w) (ha:Agr l ρ):(execOp ρ ⟨d,.makeFunc fn first cap,ty,pos,af,g⟩).run P w=.ok (.value v) w:=by
 obtain ⟨a,c,h1,h2,rfl⟩:=hy
 have e:∀ (xs:Array Operand) (vs:List Value),evs l xs.toList=some vs→xs.map ρ=vs.toArray:=by
  intro xs vs h
  apply Array.ext'
  rw [Array.toList_map]
  exact evs_map h ha
 simp [execOp,Instr.makeFunc,e _ _ h1,e _ _ h2,go_sem]
theorem ext_sound {x:Operand} {k:Nat} (hy:(QOp.ext x k).Y P l v w) (ha:Agr l ρ):(execOp ρ ⟨d,.extract x k,ty,pos,af,g⟩).run P w=.ok (.value v) w:=by
 obtain ⟨vs,h1,h2⟩:=hy
 simp [execOp,ha x _ h1,Instr.extract,h2,go_sem]
theorem typeInfo_run {t:TypeId} {i:TypeInfo} (h:P.info? t=some i):(typeInfo t).run P w=.ok i w:=by
 simp [typeInfo,h,go_sem]
theorem sizeOf_run {t:TypeId} {i:TypeInfo} (h:P.info? t=some i):(Go.sizeOf t).run P w=.ok i.size w:=by
 simp [Go.sizeOf,typeInfo,h,go_sem]
theorem fld_sound {s:TypeId} {x:Operand} {f:Nat} {fs:Array Field} {fd:Field} {i:TypeInfo} (hs:P.underlying s=some (.struct fs)) (hf:fs[f]?=some fd) (hi:P.info? fd.type=some i) (h0:i.size≠0)
  (hy:(QOp.fld x fd.offset).Y P l v w) (ha:Agr l ρ):(execOp ρ ⟨d,.fieldAddr s x f,ty,pos,af,g⟩).run P w=.ok (.value v) w:=by
 obtain ⟨b,o,sp,h1,rfl⟩:=hy
 simp [execOp,ha x _ h1,Instr.fieldAt,run_underlying hs,hf,Instr.sureAddr,fieldPlace,sizeOf_run hi,h0,go_sem]
theorem isAgg_false {t:TypeId} (h:scalarT P t=true):(isAgg t).run P w=.ok false w:=by
 unfold scalarT at h
 cases hu:P.underlying t with
 | none=>simp [hu] at h
 | some x=>cases x <;> simp [hu] at h <;> simp [isAgg,run_underlying hu,go_sem]
theorem isAgg_true {t:TypeId} {n:Nat} (h:aggT P t=some n):(isAgg t).run P w=.ok true w∧(Go.sizeOf t).run P w=.ok n w:=by
 unfold aggT at h
 cases hu:P.underlying t with
 | none=>simp [hu] at h
 | some x =>
  cases hi:P.info? t with
  | none=>cases x <;> simp [hu,hi] at h
  | some i=>cases x <;> simp [hu,hi] at h <;> exact ⟨by simp [isAgg,run_underlying hu,go_sem],by rw [sizeOf_run hi,h]⟩
theorem fldv_sound {s:TypeId} {x:Operand} {f:Nat} {fs:Array Field} {fd:Field} (hs:P.underlying s=some (.struct fs)) (hf:fs[f]?=some fd) (hi:scalarT P fd.type=true)
  (hy:(QOp.fldv x fd.offset).Y P l v w) (ha:Agr l ρ):(execOp ρ ⟨d,.field s x f,ty,pos,af,g⟩).run P w=.ok (.value v) w:=by
 obtain ⟨cs,h1,h2⟩:=hy
 simp [execOp,ha x _ h1,Instr.field,run_underlying hs,hf,part,isAgg_false hi,asAgg,h2,go_sem]
theorem fldn_sound {s:TypeId} {x:Operand} {f n:Nat} {fs:Array Field} {fd:Field} (hs:P.underlying s=some (.struct fs)) (hf:fs[f]?=some fd) (hi:aggT P fd.type=some n)
  (hy:(QOp.fldn x fd.offset n).Y P l v w) (ha:Agr l ρ):(execOp ρ ⟨d,.field s x f,ty,pos,af,g⟩).run P w=.ok (.value v) w:=by
 obtain ⟨cs,h1,rfl⟩:=hy
 simp [execOp,ha x _ h1,Instr.field,run_underlying hs,hf,part,(isAgg_true hi).1,(isAgg_true hi).2,asAgg,go_sem]
theorem idx_sound {t e:TypeId} {x i:Operand} {ie:TypeInfo} (ht:P.underlying t=some (.slice e)) (he:P.info? e=some ie)
  (hy:(QOp.idx x i ie.size).Y P l v w) (ha:Agr l ρ):(execOp ρ ⟨d,.indexAddr t x i,ty,pos,af,g⟩).run P w=.ok (.value v) w:=by
 obtain ⟨p,n,c,k,j,h1,h2,h3,h4,rfl⟩:=hy
 simp [execOp,ha x _ h1,ha i _ h2,Instr.indexAt,run_underlying ht,sizeOf_run he,asIntOf,h3,h4,go_sem]
theorem idxa_sound {t e:TypeId} {n:Nat} {x i:Operand} {ie:TypeInfo} (ht:P.underlying t=some (.array n e)) (he:P.info? e=some ie)
  (hy:(QOp.idxa x i n ie.size).Y P l v w) (ha:Agr l ρ):(execOp ρ ⟨d,.indexAddr t x i,ty,pos,af,g⟩).run P w=.ok (.value v) w:=by
 obtain ⟨p,k,j,h1,h2,h3,h4,rfl⟩:=hy
 simp [execOp,ha x _ h1,ha i _ h2,Instr.indexAt,run_underlying ht,sizeOf_run he,asIntOf,Instr.sureAddr,h3,h4,go_sem]
theorem bin_sound {op:BinOp} {t t':TypeId} {x y:Operand} 
  (hy:(QOp.bin op x y).Y P l v w) (ha:Agr l ρ):(execOp ρ ⟨d,.binOp op t x y t',ty,pos,af,g⟩).run P w=.ok (.value v) w:=by
 obtain ⟨k,a,b,h1,h2,h3⟩:=hy
 cases op <;> simp only [ibin,Option.some.injEq,reduceCtorEq] at h3 <;> first | subst h3 | skip
 case quo =>
  by_cases hb:b=0
  ·simp [hb] at h3
  ·rw [if_neg hb] at h3; cases h3
   simp [execOp,ha x _ h1,ha y _ h2,eqGuard,binOp,Op.intDiv,hb,go_sem]
 case rem =>
  by_cases hb:b=0
  ·simp [hb] at h3
  ·rw [if_neg hb] at h3; cases h3
   simp [execOp,ha x _ h1,ha y _ h2,eqGuard,binOp,Op.intDiv,hb,go_sem]
 all_goals simp [execOp,ha x _ h1,ha y _ h2,eqGuard,binOp,Op.intArith,Op.intCmp,Op.intBits,go_sem]
theorem nilp_sound {t e:TypeId} {x:Operand} {t':TypeId} (neg:Bool) (ht:P.underlying t=some (.pointer e))
  (hy:(QOp.nilp neg x).Y P l v w) (ha:Agr l ρ):(execOp ρ ⟨d,.binOp (if neg then .neq else .eql) t x (.const (.pointer none)) t',ty,pos,af,g⟩).run P w=.ok (.value v) w:=by
 obtain ⟨p,h1,rfl⟩:=hy
 have hn:ρ (.const (.pointer none))=.pointer none:=ha _ _ rfl
 have he:(Op.equal t (.pointer p) (.pointer none)).run P w=.ok p.isNone w:=by
  unfold Op.equal Op.maxDepth
  rw [show (10000:Nat)=9999+1 from rfl]
  unfold Op.equalIn
  cases p <;> simp [run_underlying ht]
 cases neg
 ·show (execOp ρ ⟨d,.binOp .eql t x (.const (.pointer none)) t',ty,pos,af,g⟩).run P w=_
  simp only [execOp,ha x _ h1,hn,eqGuard,binOp]
  simp [he]
 ·show (execOp ρ ⟨d,.binOp .neq t x (.const (.pointer none)) t',ty,pos,af,g⟩).run P w=_
  simp only [execOp,ha x _ h1,hn,eqGuard,binOp]
  simp [he]
theorem not_sound {x:Operand} {t:TypeId} (hy:(QOp.un .not x).Y P l v w) (ha:Agr l ρ):(execOp ρ ⟨d,.unOp .not t x,ty,pos,af,g⟩).run P w=.ok (.value v) w:=by
 rcases hy with ⟨b,_,h1,rfl⟩ | ⟨k,n,h0,_⟩
 ·simp [execOp,ha x _ h1,Op.unary,go_sem]
 ·cases h0
theorem neg_sound {x:Operand} {t:TypeId} (hy:(QOp.un .neg x).Y P l v w) (ha:Agr l ρ):(execOp ρ ⟨d,.unOp .neg t x,ty,pos,af,g⟩).run P w=.ok (.value v) w:=by
 rcases hy with ⟨b,h0,_⟩ | ⟨k,n,_,h1,rfl⟩
 ·cases h0
 ·simp [execOp,ha x _ h1,Op.unary,Op.intArith,go_sem]
theorem cvi_sound {s t:TypeId} {k k':IntKind} {x:Operand} (hs:P.underlying s=some (.int k')) (ht:P.underlying t=some (.int k))
  (hy:(QOp.cvi k x).Y P l v w) (ha:Agr l ρ):(execOp ρ ⟨d,.convert s t x,ty,pos,af,g⟩).run P w=.ok (.value v) w:=by
 obtain ⟨k1,n,h1,rfl⟩:=hy
 simp [execOp,ha x _ h1,convert,run_underlying hs,run_underlying ht,Conv.intToInt,go_sem]
theorem len_sound {t e:TypeId} {x:Operand} {ats:Array TypeId} {args:Array Operand} (h0:ats[0]?=some t) (hx:args.toList=[x]) (ht:P.underlying t=some (.slice e))
  (hy:(QOp.len x).Y P l v w) (ha:Agr l ρ):(execOp ρ ⟨d,.call ⟨.builtin .len,args,ats⟩,ty,pos,af,g⟩).run P w=.ok (.value v) w:=by
 obtain ⟨a,n,c,h1,rfl⟩:=hy
 obtain rfl:args = #[x]:=by simpa using congrArg List.toArray hx
 simp [Builtin.len_,ha x _ h1,run_underlying ht,h0,goInt,go_sem]
theorem bound_run {x:Operand} {y n:Nat} {code:BoundsCode} (hb:obound l (some x) 0 n) (hn:n≤y) (ha:Agr l ρ):(Instr.sliceBound (ρ x) y code).run P w=.ok n w:=by
 obtain ⟨k,i,h1,h2,rfl⟩:=hb
 simp [Instr.sliceBound,ha x _ h1,asIntOf,h2,show i≤(y:Int) by omega,go_sem]
theorem slc_sound {t e:TypeId} {x:Operand} {lo hi:Option Operand} {ie:TypeInfo} (ht:P.underlying t=some (.slice e)) (he:P.info? e=some ie)
  (hy:(QOp.slc x lo hi ie.size).Y P l v w) (ha:Agr l ρ):(execOp ρ ⟨d,.slice t x lo hi none,ty,pos,af,g⟩).run P w=.ok (.value v) w:=by
 obtain ⟨p,n,c,lo',hi',h1,h2,h3,h4,h5,rfl⟩:=hy
 cases lo with
 | none =>
  simp only [obound] at h2; subst h2
  cases hi with
  | none=>simp only [obound] at h3; subst h3; simp [execOp,Instr.sliceAt,Instr.slice,ha x _ h1,run_underlying ht,sizeOf_run he,go_sem]
  | some y =>
   have := @bound_run P l w ρ y c hi' .sliceAcap h3 h5 ha
   simp [execOp,Instr.sliceAt,Instr.slice,ha x _ h1,run_underlying ht,this,sizeOf_run he,go_sem]
 | some z =>
  have hz := @bound_run P l w ρ z hi' lo' .sliceB h2 h4 ha
  cases hi with
  | none=>simp only [obound] at h3; subst h3; simp [execOp,Instr.sliceAt,Instr.slice,ha x _ h1,run_underlying ht,hz,sizeOf_run he,go_sem]
  | some y =>
   have := @bound_run P l w ρ y c hi' .sliceAcap h3 h5 ha
   simp [execOp,Instr.sliceAt,Instr.slice,ha x _ h1,run_underlying ht,this,hz,sizeOf_run he,go_sem]
theorem ld_sound {t:TypeId} {x:Operand} (ht:scalarT P t=true) (hy:(QOp.ld x).Y P l v w) (ha:Agr l ρ):(execOp ρ ⟨d,.load t x,ty,pos,af,g⟩).run P w=.ok (.value v) w:=by
 obtain ⟨p,h1,h2⟩:=hy
 simp [execOp,Instr.loadAt,Instr.sureAddr,ha x _ h1,loadVar,isAgg_false ht,h2,go_sem]
theorem loadCells_run {p:Addr}:∀ (n i:Nat) (acc vs:Array Value),vs.size=i+n→(∀ j,i≤j→j<i+n→w.cell? (p.add j)=vs[j]?)→acc=vs.extract 0 i→(loadCellsFrom p i n acc).run P w=.ok vs w:=by
 intro n
 induction n with
 | zero =>
  intro i acc vs hs _ ha
  have e:acc=vs:=by rw [ha]; simp; omega
  subst e
  simp [loadCellsFrom,go_sem]
 | succ n ih =>
  intro i acc vs hs hc ha
  have h1:=hc i (Nat.le_refl _) (by omega)
  have hi:i<vs.size:=by omega
  rw [Array.getElem?_eq_getElem hi] at h1
  have:=ih (i+1) (acc.push vs[i]) vs (by omega) (fun j h2 h3=>hc j (by omega) (by omega)) (by rw [ha]; simp)
  simp only [loadCellsFrom]
  simp [h1,this,go_sem]
theorem ldn_sound {t:TypeId} {x:Operand} {n:Nat} (ht:aggT P t=some n) (hy:(QOp.ldn x n).Y P l v w) (ha:Agr l ρ):(execOp ρ ⟨d,.load t x,ty,pos,af,g⟩).run P w=.ok (.value v) w:=by
 obtain ⟨p,vs,h1,h2,h3,rfl⟩:=hy
 have := @loadCells_run P w p n 0 #[] vs (by omega) (fun j _ h=>h3 j (by omega)) (by simp)
 simp [execOp,Instr.loadAt,Instr.sureAddr,ha x _ h1,loadVar,(isAgg_true ht).1,(isAgg_true ht).2,loadCells,this,go_sem]
theorem fill_fold (off:Nat):∀ (cs:List Value) (k:Nat) (A:Array Value) (i:Nat),(List.foldl (fun (a:Array Value) (x:Value × Nat)=>a.setIfInBounds (off+x.2) x.1) A (cs.zipIdx k))[i]? =
  if off+k≤i∧i<off+k+cs.length∧i<A.size then cs[i-(off+k)]? else A[i]?:=by
 intro cs
 induction cs with
 | nil=>intro k A i; simp; intro h1 h2; omega
 | cons c r ih =>
  intro k A i
  simp only [List.zipIdx_cons,List.foldl_cons]
  rw [ih (k+1)]
  simp only [Array.size_setIfInBounds,List.length_cons]
  by_cases h1:off+k=i
  ·subst h1
   rw [if_neg (by omega)]
   by_cases h2:off+k<A.size
   ·rw [if_pos ⟨by omega,by omega,h2⟩]; simp [h2]
   ·rw [if_neg (by omega),Array.getElem?_eq_none (by simp; omega),Array.getElem?_eq_none (by omega)]
  ·rw [Array.getElem?_setIfInBounds_ne h1]
   by_cases h2:off+(k+1)≤i∧i<off+(k+1)+r.length∧i<A.size
   ·rw [if_pos h2,if_pos ⟨by omega,by omega,h2.2.2⟩]
    rw [show i-(off+k)=(i-(off+(k+1)))+1 by omega]; simp
   ·rw [if_neg h2,if_neg (by omega)]
theorem setL_spec:∀ (l:List Value) (n:Nat) (vs r:List Value),setL l n vs=some r→(vs=[]∨n+vs.length≤l.length)∧r.length=l.length∧∀ i,r[i]?=if n≤i∧i<n+vs.length then vs[i-n]? else l[i]?
 | l,n,[],r,h=>by
  cases l <;> simp only [setL,Option.some.injEq] at h <;> subst h <;> refine ⟨.inl rfl,rfl,fun i=>?_⟩ <;> rw [if_neg (by simp)]
 | [],_,_::_,_,h=>by simp [setL] at h
 | a::l,0,v::vs,r,h=>by
  simp only [setL] at h
  cases h1:setL l 0 vs with
  | none=>rw [h1] at h; cases h
  | some r' =>
   rw [h1] at h; cases h
   obtain ⟨h2,h3,h4⟩:=setL_spec l 0 vs r' h1
   refine ⟨.inr ?_,by simp [h3],fun i=>?_⟩
   ·rcases h2 with rfl | h2
    ·simp
    ·simp; omega
   ·cases i with
    | zero=>simp
    | succ i =>
     have:=h4 i
     simp only [List.getElem?_cons_succ,this,List.length_cons]
     by_cases hc:i<vs.length
     ·rw [if_pos (by omega),if_pos (by omega)]; simp
     ·rw [if_neg (by omega),if_neg (by omega)]
 | a::l,n+1,v::vs,r,h=>by
  simp only [setL] at h
  cases h1:setL l n (v::vs) with
  | none=>rw [h1] at h; cases h
  | some r' =>
   rw [h1] at h; cases h
   obtain ⟨h2,h3,h4⟩:=setL_spec l n (v::vs) r' h1
   refine ⟨.inr ?_,by simp [h3],fun i=>?_⟩
   ·rcases h2 with h2 | h2
    ·cases h2
    ·simp at h2 ⊢; omega
   ·cases i with
    | zero=>rw [if_neg (by omega)]; simp
    | succ i =>
     have:=h4 i
     simp only [List.getElem?_cons_succ,this]
     by_cases hc:n≤i∧i<n+(v::vs).length
     ·rw [if_pos hc,if_pos (by omega),show i+1-(n+1)=i-n by omega]
     ·rw [if_neg hc,if_neg (by omega)]
theorem cellsL_eq (u:Value):(cellsL u).toArray=u.cells:=by
 cases u <;> rfl
theorem fill_bldv {fs:Array Field} (ha:Agr l ρ):∀ (parts:List (Nat × Operand)) (ps:List (Nat × Nat × Operand)) (zero vs:List Value) (pl:Nat→Option (Nat × Nat)),placeParts P fs parts=some ps→(∀ i x,placeOf P fs i=some x→pl i=some x) →
  bldv l zero ps=some vs→Instr.fill pl zero.toArray (parts.map fun y=>(y.1,ρ y.2))=some vs.toArray
 | [],ps,zero,vs,pl,h,_,hb=>by
  simp only [placeParts,Option.some.injEq] at h; subst h
  simp only [bldv,Option.some.injEq] at hb; subst hb
  rfl
 | (i,x)::parts,ps,zero,vs,pl,h,hpl,hb=>by
  simp only [placeParts] at h
  cases h1:placeOf P fs i with
  | none=>rw [h1] at h; cases h
  | some os =>
   obtain ⟨off,sz⟩:=os
   cases h2:placeParts P fs parts with
   | none=>rw [h1,h2] at h; cases h
   | some r' =>
    rw [h1,h2] at h
    simp only at h
    split at h
    ·cases h
    rename_i hsz0
    cases h
    simp only [bldv] at hb
    cases h3:ev l x with
    | none=>rw [h3] at hb; cases hb
    | some u =>
     rw [h3] at hb
     simp only at hb
     cases hlen:Nat.beq (cellsL u).length sz with
     | false=>rw [hlen] at hb; cases hb
     | true =>
      rw [hlen] at hb
      have hsz:=Nat.eq_of_beq_eq_true hlen
      cases h4:setL zero off (cellsL u) with
      | none=>rw [h4] at hb; cases hb
      | some z =>
       rw [h4] at hb
       simp only [cond_true] at hb
       obtain ⟨h5,h6,h7⟩:=setL_spec zero off (cellsL u) z h4
       have hus:u.cells.size=sz:=by rw [← cellsL_eq]; simpa using hsz
       have hle:off+sz≤zero.length:=by
        rcases h5 with h5 | h5
        ·rw [h5] at hsz; simp at hsz; omega
        ·omega
       have hfold:Array.foldl (fun (cs:Array Value) (y:Value × Nat)=>cs.setIfInBounds (off+y.2) y.1) zero.toArray u.cells.zipIdx=z.toArray:=by
        apply Array.ext_getElem?
        intro k
        have:=fill_fold off u.cells.toList 0 zero.toArray k
        rw [← Array.foldl_toList,Array.toList_zipIdx]
        simp only [Nat.add_zero] at this
        rw [this]
        simp only [List.getElem?_toArray]
        rw [h7 k]
        have hcl:u.cells.toList=cellsL u:=by rw [← cellsL_eq]
        rw [hcl]
        by_cases hk:off≤k∧k<off+(cellsL u).length
        ·rw [if_pos hk,if_pos ⟨hk.1,hk.2,by simp; omega⟩]
        ·rw [if_neg hk,if_neg (by intro h; exact hk ⟨h.1,h.2.1⟩)]
       simp only [List.map_cons,Instr.fill,hpl i _ h1,ha x u h3,hus]
       rw [if_neg (by simp; omega),hfold]
       exact fill_bldv ha parts r' z vs pl h2 hpl hb
theorem mapM_places {fs:List Field} (h:allInfo P fs=true):(fs.mapM fun (f:Field)=>(do pure (f.offset,← Go.sizeOf f.type):Sem (Nat × Nat))).run P w=.ok (fs.map fun f=>(f.offset,(P.cellsOf f.type))) w:=by
 induction fs with
 | nil=>rfl
 | cons f r ih =>
  simp only [allInfo,List.all_cons,Bool.and_eq_true] at h
  obtain ⟨i,hi⟩:=Option.isSome_iff_exists.1 h.1
  have:=ih h.2
  rw [List.mapM_cons]
  simp only [Sem.run_bind,sizeOf_run hi,Result.andThen_ok,Sem.run_pure,this,List.map_cons]
  simp [Program.cellsOf,hi]
theorem bld_sound {t:TypeId} {fs:Array Field} {i:TypeInfo} {z:Value} {parts:Array (Nat × Operand)} {ps:List (Nat × Nat × Operand)} (ht:P.underlying t=some (.struct fs)) (hi:P.info? t=some i) (hz:i.zero=some z) (hp:placeParts P fs parts.toList=some ps) (hall:allInfo P fs.toList=true)
  (hy:(QOp.bld z.cells.toList ps).Y P l v w) (ha:Agr l ρ):(execOp ρ ⟨d,.build t parts,ty,pos,af,g⟩).run P w=.ok (.value v) w:=by
 obtain ⟨vs,h1,rfl⟩:=hy
 have hzv:(zeroValue t).run P w=.ok z w:=by simp [zeroValue,typeInfo_run hi,hz]
 have hpl:(fs.mapM fun (f:Field)=>(do pure (f.offset,← Go.sizeOf f.type):Sem (Nat × Nat))).run P w=.ok (fs.toList.map fun f=>(f.offset,P.cellsOf f.type)).toArray w:=by
  have:=mapM_places (P:=P) (w:=w) hall
  have e:fs=fs.toList.toArray:=by simp
  rw [e,List.mapM_toArray]
  simp only [Sem.run_map,this,Result.andThen_ok]
 have hfill:=fill_bldv (P:=P) (fs:=fs) ha parts.toList ps z.cells.toList vs (fun k=>((fs.toList.map fun f=>(f.offset,P.cellsOf f.type)).toArray)[k]?) hp (by
  intro k x hk
  unfold placeOf at hk
  cases hf:fs[k]? with
  | none=>rw [hf] at hk; cases hk
  | some f =>
   rw [hf] at hk
   simp only at hk
   cases hfi:P.info? f.type with
   | none=>rw [hfi] at hk; cases hk
   | some ti=>rw [hfi] at hk; cases hk; simp [hf,Program.cellsOf,hfi]) h1
 have hb:(Instr.build t (parts.map fun y=>(y.1,ρ y.2))).run P w=.ok (.agg vs.toArray) w:=by
  unfold Instr.build
  simp only [Sem.run_bind,hzv,Result.andThen_ok,run_underlying ht,hpl,Array.toList_map]
  rw [show z.cells.toList.toArray=z.cells by simp] at hfill
  rw [hfill]
  rfl
 show Sem.run P (do let r ← Instr.build t (parts.map fun (y:Nat × Operand)=>(y.1,ρ y.2)); pure (Next.value r)) w=_
 rw [Sem.run_bind,hb]
 rfl
theorem compQ_sound {o:Oper} {q:QOp} {rd:Bool} (hc:compQ P o=some (q,rd)) (hy:q.Y P l v w) (ha:Agr l ρ):(execOp ρ o).run P w=.ok (.value v) w:=by
 obtain ⟨d,op,ty,pos,af,g⟩:=o
 have raw:∀ {rd':Bool} {o':Oper},some (QOp.raw (strip o'),rd')=some (q,rd)→(execOp ρ o').run P w=.ok (.value v) w:=by
  intro rd' o' h
  cases h
  exact raw_sound hy ha
 cases op <;> simp only [compQ] at hc
 case move x=>cases hc; exact mov_sound hy ha
 case assign x=>cases hc; exact assign_sound hy ha
 case pick c a b=>cases hc; exact pick_sound hy ha
 case nilCheck x=>cases hc; exact nilc_sound hy ha
 case extract x k=>cases hc; exact ext_sound hy ha
 case fieldAddr s x f =>
  split at hc
  ·rename_i fs hs
   split at hc
   ·rename_i fd hf
    split at hc
    ·rename_i i hi
     split at hc
     ·exact raw hc
     ·rename_i h0; cases hc; exact fld_sound hs hf hi h0 hy ha
    ·cases hc
   ·cases hc
  ·cases hc
 case field s x f =>
  split at hc
  ·rename_i fs hs
   split at hc
   ·rename_i fd hf
    split at hc
    ·rename_i hsc; cases hc; exact fldv_sound hs hf hsc hy ha
    ·split at hc
     ·rename_i n hn; cases hc; exact fldn_sound hs hf hn hy ha
     ·cases hc
   ·cases hc
  ·cases hc
 case indexAddr t x i =>
  split at hc
  ·rename_i e ht
   split at hc
   ·rename_i ie he; cases hc; exact idx_sound ht he hy ha
   ·cases hc
  ·rename_i n e ht
   split at hc
   ·rename_i ie he; cases hc; exact idxa_sound ht he hy ha
   ·cases hc
  ·cases hc
 case binOp op t x y t' =>
  split at hc
  ·split at hc
   ·cases hc; exact sh_sound (lft:=true) hy ha
   ·cases hc; exact sh_sound (lft:=false) hy ha
   ·cases hc; exact bin_sound hy ha
  ·rename_i e ht
   split at hc
   ·cases hc; exact nilp_sound false ht hy ha
   ·cases hc; exact nilp_sound true ht hy ha
   ·exact raw hc
  ·exact raw hc
 case unOp op t x =>
  split at hc
  ·cases hc; exact not_sound hy ha
  ·cases hc; exact neg_sound hy ha
  ·cases hc; exact xorn_sound hy ha
  ·exact raw hc
 case convert s t x =>
  split at hc
  ·rename_i k' k hs ht; cases hc; exact cvi_sound hs ht hy ha
  ·exact raw hc
 case slice t x lo hi mx =>
  cases mx with
  | none =>
   simp only at hc
   split at hc
   ·rename_i e ht
    split at hc
    ·rename_i ie he; cases hc; exact slc_sound ht he hy ha
    ·cases hc
   ·exact raw hc
  | some m=>simp only [quietHead,if_true] at hc; exact raw hc
 case build t parts =>
  split at hc
  ·rename_i fs i ht hi
   split at hc
   ·rename_i z ps hz hp
    split at hc
    ·rename_i hall; cases hc; exact bld_sound ht hi hz hp hall hy ha
    ·exact raw hc
   ·exact raw hc
  ·exact raw hc
 case makeFunc fn a c=>cases hc; exact mkf_sound hy ha
 case load t x =>
  split at hc
  ·rename_i ht; cases hc; exact ld_sound ht hy ha
  ·split at hc
   ·rename_i n hn; cases hc; exact ldn_sound hn hy ha
   ·cases hc
 case call c =>
  obtain ⟨callee,args,ats⟩:=c
  cases callee with
  | builtin b =>
   cases b
   case len =>
    simp only at hc
    split at hc
    ·rename_i t x h0 hx
     split at hc
     ·rename_i e ht; cases hc; exact len_sound h0 hx ht hy ha
     ·exact raw hc
    ·exact raw hc
   case min =>
    simp only at hc
    split at hc
    ·rename_i t x y h0 hx
     split at hc
     ·cases hc; exact mm_sound (mx:=false) hx hy ha
     ·exact raw hc
    ·exact raw hc
   case max =>
    simp only at hc
    split at hc
    ·rename_i t x y h0 hx
     split at hc
     ·cases hc; exact mm_sound (mx:=true) hx hy ha
     ·exact raw hc
    ·exact raw hc
   all_goals
    (simp only [quietHead] at hc
     first
      | (simp at hc; done)
      | (rw [if_pos trivial] at hc; exact raw hc))
  | value f=>simp [quietHead] at hc
  | invoke r m=>simp [quietHead] at hc
 all_goals
  (simp only [quietHead] at hc
   first
    | (simp at hc; done)
    | (rw [if_pos trivial] at hc; exact raw hc))
theorem compQ_free {o:Oper} {q:QOp} (hc:compQ P o=some (q,false)) (hy:q.Y P l v w) (w':World):q.Y P l v w':=by
 cases q <;> first|exact hy | skip
 all_goals
  exfalso
  unfold compQ at hc
  repeat' split at hc
  all_goals (first | (simp at hc; done) | skip)
end
end Go.Tum
end
section
namespace Go.Tum
open Go
def one:Value→Bool
 | .agg _=>false
 | .tuple _=>false
 | _=>true
theorem cell_setCell_isSome (w:World) (p:Addr) (v:Value) (q:Addr) (h:(w.cell? q).isSome=true):((w.setCell p v).cell? q).isSome=true:=by
 unfold World.cell? World.setCell at *
 simp only [Array.getElem?_modify]
 by_cases e:p.block=q.block
 ·rw [if_pos e]
  cases hb:w.heap[q.block]? with
  | none=>rw [hb] at h; simp at h
  | some o =>
   rw [hb] at h
   cases o <;> simp only [Option.map_some] at * <;> first | (simp at h; done) | skip
   rename_i c t f
   cases hq:q.spot with
   | some s=>rw [hq] at h; simp at h
   | none =>
    rw [hq] at h
    simp only [Option.isSome_none,Bool.false_eq_true,if_false] at *
    cases hp:p.spot with
    | some s=>simpa [hp] using h
    | none=>simpa [hp] using h
 ·rw [if_neg e]; exact h
inductive EOp where
 | st (x v:Operand)
 | stn (x v:Operand) (n:Nat)
 | new (t:TypeId) (zero:List Value)
 | box (t:TypeId) (x:Operand)
 | bs0 (e:TypeId)
 | bs1 (e:TypeId) (n:Nat) (x:Operand)
 | call (f:FuncId) (args:List Operand)
 | callv (x:Operand) (args:List Operand)
 | raw (o:Oper)
def putCells (w:World) (p:Addr):Nat→List Value→World
 | _,[]=>w
 | i,v::r=>putCells (w.setCell (p.add i) v) p (i+1) r
theorem putCells_sim {w0 w:World} (h:Sim w0 w) (p:Addr):∀ (vs:List Value) (i:Nat),Sim (putCells w0 p i vs) (putCells w p i vs):=by
 intro vs
 induction vs generalizing w0 w with
 | nil=>intro i; exact h
 | cons v r ih=>intro i; exact ih (h.setCell _ _) (i+1)
def callable (P:Program) (f:FuncId):Bool :=
 match P.funcs[f]? with
 | some fn=>fn.body.isSome && fn.name != "runtime.NumGoroutine"
 | none=>false
def EOp.W (P:Program) (e:EOp) (K:Value→World→Prop) (l:Env) (w:World):Prop :=
 match e with
 | .st x v=>∃ p u,ev l x=some (.pointer (some p))∧ev l v=some u∧one u=true∧(w.cell? p).isSome=true∧w.frozen? p=false∧K undef (w.setCell p u)
 | .stn x v n=>∃ p vs,ev l x=some (.pointer (some p))∧ev l v=some (.agg vs)∧vs.size=n∧(∀ u∈vs.toList,one u=true) ∧
   (∀ i,i<n→(w.cell? (p.add i)).isSome=true∧w.frozen? (p.add i)=false)∧K undef (putCells w p 0 vs.toList)
 | .new t zero=>K (.pointer (some ⟨w.heap.size,0,none⟩)) (w.alloc (.cells zero.toArray t))
 | .box t x=>∃ u,ev l x=some u∧K (.pointer (some ⟨w.heap.size,0,none⟩)) (w.alloc (.cells u.cells t))
 | .bs0 e=>K (.slice (some ⟨w.heap.size,0,none⟩) 0 0) (w.alloc (.cells #[] e))
 | .bs1 e n x=>∃ u,ev l x=some u∧u.cells.size=n∧K (.slice (some ⟨w.heap.size,0,none⟩) 1 1) (w.alloc (.cells u.cells e))
 | .call f args=>∃ vs,evs l args=some vs∧Does P f vs.toArray w K
 | .callv x args=>∃ f a c vs,ev l x=some (.func (.func f) a c)∧evs l args=some vs∧callable P f=true∧Does P f (a++vs.toArray++c) w K
 | .raw o=>∀ ρ w0,Agr l ρ→Sim w0 w→Eff P (execOp ρ o) w0 fun v w'=>∃ w1,Sim w' w1∧K v w1
def compE (P:Program) (o:Oper):Option EOp :=
 match o.op with
 | .store t x v=>match P.info? t with
  | some i=>if scalarT P t then (if i.size=1 then some (.st x v) else none) else match aggT P t with
   | some n=>some (.stn x v n)
   | none=>none
  | none=>none
 | .alloc t=>match P.info? t with
  | some i=>match i.zero with
   | some z=>some (.new t z.cells.toList)
   | none=>none
  | none=>none
 | .box t x=>some (.box t x)
 | .buildSlice t n parts=>match P.underlying t with
  | some (.slice e)=>match P.info? e with
   | some ie=>match n,parts.toList with
    | 0,[]=>some (.bs0 e)
    | 1,[(0,x)]=>match ie.zero with
     | some z=>if z.cells.size=ie.size∧ie.size≤2 ^ 24∧0<ie.size then some (.bs1 e ie.size x) else some (.raw (strip o))
     | none=>some (.raw (strip o))
    | _,_=>some (.raw (strip o))
   | none=>none
  | _=>none
 | .call { callee:=.value (.tmp t),args,.. }=>some (.callv (.tmp t) args.toList)
 | .call { callee:=.value (.func f),args,.. }=>match P.funcs[f]? with
  | some fn=>if fn.body.isSome && fn.name != "runtime.NumGoroutine" then some (.call f args.toList) else some (.raw (strip o))
  | none=>none
 | _=>some (.raw (strip o))
section
variable {P:Program} {l:Env} {w w0:World} {ρ:Operand→Value} {d:Option Tmp} {ty:TypeId} {pos:String} {af:Array Edge} {g:Option (Nat × Bool)} {K:Value→World→Prop}
theorem store_run {p:Addr} {v:Value} (hv:one v=true) (h3:(w.cell? p).isSome=true) (h4:w.frozen? p=false):(store p v).run P w=.ok () (w.setCell p v):=by
 obtain ⟨u,hu⟩:=Option.isSome_iff_exists.1 h3
 cases v <;> first | (simp [one] at hv; done) | simp [store,Sem.run,hu,h4]
theorem storeCells_run (p:Addr):∀ (vs:List Value) (i:Nat) (w:World),(∀ u∈vs,one u=true)→(∀ j,j<vs.length→(w.cell? (p.add (i+j))).isSome=true∧w.frozen? (p.add (i+j))=false) →
  (storeCells p vs i).run P w=.ok () (putCells w p i vs):=by
 intro vs
 induction vs with
 | nil=>intro i w _ _; simp [storeCells,putCells,go_sem]
 | cons v r ih =>
  intro i w h1 h2
  have hv:one v=true:=h1 v (by simp)
  obtain ⟨h3,h4⟩:=h2 0 (by simp)
  simp only [Nat.add_zero] at h3 h4
  have step:(store (p.add i) v).run P w=.ok () (w.setCell (p.add i) v):=store_run hv h3 h4
  have:=ih (i+1) (w.setCell (p.add i) v) (fun u hu=>h1 u (by simp [hu])) (fun j hj=>by
   obtain ⟨h5,h6⟩:=h2 (j+1) (by simp; omega)
   rw [show i+1+j=i+(j+1) by omega]
   constructor
   ·exact cell_setCell_isSome _ _ _ _ h5
   ·rw [World.frozen?_setCell]; exact h6)
  simp only [storeCells,putCells]
  simp [step,this,go_sem]
theorem one_cells {u:Value} (h:one u=true):u.cells = #[u]:=by
 cases u <;> first | rfl | (simp [one] at h)
theorem st_sound {t:TypeId} {i:TypeInfo} {x v:Operand} (hi:P.info? t=some i) (h1:i.size=1) (hw:(EOp.st x v).W P K l w) (ha:Agr l ρ) (hs:Sim w0 w) :
  Eff P (execOp ρ ⟨d,.store t x v,ty,pos,af,g⟩) w0 fun v w'=>∃ w1,Sim w' w1∧K v w1:=by
 obtain ⟨p,u,hx,hv,h3,h4,h5,h6⟩:=hw
 have := @store_run P w0 p u h3 (by rw [hs.cell]; exact h4) (by rw [hs.frozen]; exact h5)
 refine Eff.skip (w':=w0.setCell p u) ?_ ⟨_,hs.setCell p u,h6⟩
 simp only [execOp,ha x _ hx,ha v _ hv,Instr.storeAt,Instr.sureAddr,storeVar,one_cells h3]
 simp [sizeOf_run hi,h1,this,storeCells,Addr.add,go_sem]
theorem stn_sound {t:TypeId} {n:Nat} {x v:Operand} (hn:aggT P t=some n) (hw:(EOp.stn x v n).W P K l w) (ha:Agr l ρ) (hs:Sim w0 w) :
  Eff P (execOp ρ ⟨d,.store t x v,ty,pos,af,g⟩) w0 fun v w'=>∃ w1,Sim w' w1∧K v w1:=by
 obtain ⟨p,vs,hx,hv,h3,h4,h5,h6⟩:=hw
 have := @storeCells_run P p vs.toList 0 w0 h4 (fun j hj=>by
  rw [hs.cell,hs.frozen,Nat.zero_add]
  exact h5 j (by simp at hj; omega))
 refine Eff.skip (w':=putCells w0 p 0 vs.toList) ?_ ⟨_,putCells_sim hs p _ 0,h6⟩
 simp only [execOp,ha x _ hx,ha v _ hv,Instr.storeAt,Instr.sureAddr,storeVar,Value.cells]
 simp [(isAgg_true hn).2,h3,this,go_sem]
theorem new_sound {t:TypeId} {i:TypeInfo} {z:Value} (hi:P.info? t=some i) (hz:i.zero=some z) (hw:(EOp.new t z.cells.toList).W P K l w) (hs:Sim w0 w) :
  Eff P (execOp ρ ⟨d,.alloc t,ty,pos,af,g⟩) w0 fun v w'=>∃ w1,Sim w' w1∧K v w1:=by
 refine Eff.value (w':=w0.alloc (.cells z.cells t)) (v:=.pointer (some ⟨w0.heap.size,0,none⟩)) ?_ ?_
 ·have hzv:(zeroValue t).run P w0=.ok z w0:=by simp [zeroValue,typeInfo_run hi,hz,go_sem]
  simp only [execOp,Instr.alloc]
  simp [hzv,newVar,newRow,go_sem]
 ·refine ⟨_,hs.push _,?_⟩
  rw [hs.heap]
  simpa [EOp.W] using hw
theorem box_sound {t:TypeId} {x:Operand} (hw:(EOp.box t x).W P K l w) (ha:Agr l ρ) (hs:Sim w0 w) :
  Eff P (execOp ρ ⟨d,.box t x,ty,pos,af,g⟩) w0 fun v w'=>∃ w1,Sim w' w1∧K v w1:=by
 obtain ⟨u,hx,h⟩:=hw
 refine Eff.value (w':=w0.alloc (.cells u.cells t)) (v:=.pointer (some ⟨w0.heap.size,0,none⟩)) ?_ ?_
 ·simp only [execOp,Instr.box,ha x _ hx]
  simp [newVar,newRow,go_sem]
 ·refine ⟨_,hs.push _,?_⟩
  rw [hs.heap]
  exact h
theorem call_sound {f:FuncId} {fn:Func} {args:Array Operand} {ats:Array TypeId} (hf:P.funcs[f]?=some fn) (hb:(fn.body.isSome && fn.name != "runtime.NumGoroutine")=true)
  (hw:(EOp.call f args.toList).W P K l w) (ha:Agr l ρ) (hs:Sim w0 w) :
  Eff P (execOp ρ ⟨d,.call ⟨.value (.func f),args,ats⟩,ty,pos,af,g⟩) w0 fun v w'=>∃ w1,Sim w' w1∧K v w1:=by
 obtain ⟨vs,hv,h⟩:=hw
 have hm:args.map ρ=vs.toArray:=by
  apply Array.ext'
  rw [Array.toList_map]
  exact evs_map hv ha
 have hff:ρ (.func f)=.func (.func f) #[] #[]:=ha _ _ rfl
 simp only [Bool.and_eq_true,bne_iff_ne,ne_eq] at hb
 obtain ⟨hb1,hb2⟩:=hb
 have hr:(execOp ρ ⟨d,.call ⟨.value (.func f),args,ats⟩,ty,pos,af,g⟩).run P w0=.ok (.enter f vs.toArray) w0:=by
  obtain ⟨c,hc⟩:=Option.isSome_iff_exists.1 hb1
  simp only [execOp,resolve,hm,hff]
  simp [Deferred.ofValue,invoke,callFunc,hf,hb2,hc,go_sem]
 unfold Eff
 rw [hr]
 exact (h w0 hs).mono fun e w' ⟨w1,h1,v,h2,h3⟩=>⟨v,h2,w1,h1,h3⟩
theorem callv_sound {x:Operand} {args:Array Operand} {ats:Array TypeId} (hw:(EOp.callv x args.toList).W P K l w) (ha:Agr l ρ) (hs:Sim w0 w) :
  Eff P (execOp ρ ⟨d,.call ⟨.value x,args,ats⟩,ty,pos,af,g⟩) w0 fun v w'=>∃ w1,Sim w' w1∧K v w1:=by
 obtain ⟨f,a,c,vs,hx,hv,hb,h⟩:=hw
 have hm:args.map ρ=vs.toArray:=by
  apply Array.ext'
  rw [Array.toList_map]
  exact evs_map hv ha
 unfold callable at hb
 split at hb
 ·rename_i fn hf
  simp only [Bool.and_eq_true,bne_iff_ne,ne_eq] at hb
  obtain ⟨hb1,hb2⟩:=hb
  have hr:(execOp ρ ⟨d,.call ⟨.value x,args,ats⟩,ty,pos,af,g⟩).run P w0=.ok (.enter f (a++vs.toArray++c)) w0:=by
   obtain ⟨cd,hc⟩:=Option.isSome_iff_exists.1 hb1
   simp only [execOp,resolve,hm,ha x _ hx]
   simp [Deferred.ofValue,invoke,callFunc,hf,hb2,hc,go_sem]
  unfold Eff
  rw [hr]
  exact (h w0 hs).mono fun e w' ⟨w1,h1,v,h2,h3⟩=>⟨v,h2,w1,h1,h3⟩
 ·cases hb
theorem bs0_sound {t e:TypeId} {ie:TypeInfo} {parts:Array (Nat × Operand)} (ht:P.underlying t=some (.slice e)) (he:P.info? e=some ie) (hp:parts.toList=[]) (hw:(EOp.bs0 e).W P K l w) (hs:Sim w0 w) :
  Eff P (execOp ρ ⟨d,.buildSlice t 0 parts,ty,pos,af,g⟩) w0 fun v w'=>∃ w1,Sim w' w1∧K v w1:=by
 obtain rfl:parts = #[]:=by simpa using hp
 refine Eff.value (w':=w0.alloc (.cells #[] e)) (v:=.slice (some ⟨w0.heap.size,0,none⟩) 0 0) ?_ ?_
 ·simp only [execOp,Instr.buildSlice]
  simp [run_underlying ht,sizeOf_run he,newRow,Instr.fill,go_sem]
 ·refine ⟨_,hs.push _,?_⟩
  rw [hs.heap]
  exact hw
theorem bs1_sound {t e:TypeId} {ie:TypeInfo} {z:Value} {x:Operand} {parts:Array (Nat × Operand)} (ht:P.underlying t=some (.slice e)) (he:P.info? e=some ie) (hz:ie.zero=some z) (hp:parts.toList=[(0,x)])
  (h3:z.cells.size=ie.size∧ie.size≤2 ^ 24∧0<ie.size) (hw:(EOp.bs1 e ie.size x).W P K l w) (ha:Agr l ρ) (hs:Sim w0 w) :
  Eff P (execOp ρ ⟨d,.buildSlice t 1 parts,ty,pos,af,g⟩) w0 fun v w'=>∃ w1,Sim w' w1∧K v w1:=by
 obtain rfl:parts = #[(0,x)]:=by simpa using congrArg List.toArray hp
 obtain ⟨u,hx,hu,h⟩:=hw
 obtain ⟨_,hle,hpos⟩:=h3
 refine Eff.value (w':=w0.alloc (.cells u.cells e)) (v:=.slice (some ⟨w0.heap.size,0,none⟩) 1 1) ?_ ?_
 ·have hzv:(zeroValue e).run P w0=.ok z w0:=by simp [zeroValue,typeInfo_run he,hz,go_sem]
  have hfill:∀ A:Array Value,A.size=ie.size→Instr.fill (fun i=>some (i*ie.size,ie.size)) A [(0,u)]=some u.cells:=by
   intro A hA
   simp only [Instr.fill,hu,hA,Nat.zero_mul,Nat.zero_add]
   rw [if_neg (by simp)]
   simp only [Option.some.injEq]
   apply Array.ext_getElem?
   intro i
   have:=fill_fold 0 u.cells.toList 0 A i
   rw [← Array.foldl_toList,Array.toList_zipIdx]
   simp only [Nat.zero_add] at this ⊢
   rw [this]
   by_cases hi:i<u.cells.size
   ·rw [if_pos ⟨by omega,by simpa using hi,by omega⟩]; simp
   ·rw [if_neg (by simp; omega),Array.getElem?_eq_none (by omega),Array.getElem?_eq_none (by omega)]
  have hne:ie.size≠0:=by omega
  have hb:(Instr.buildSlice t 1 #[(0,u)]).run P w0=.ok (.slice (some ⟨w0.heap.size,0,none⟩) 1 1) (w0.alloc (.cells u.cells e)):=by
   unfold Instr.buildSlice
   simp only [Sem.run_bind,run_underlying ht,Result.andThen_ok,sizeOf_run he,Nat.one_mul,if_neg (show ¬ (ie.size > 2 ^ 24) by omega),Sem.run_pure,if_neg hne,hzv]
   rw [hfill _ (by simp)]
   rfl
  have hm:(#[(0,x)]:Array (Nat × Operand)).map (fun (y:Nat × Operand)=>(y.1,ρ y.2)) = #[(0,u)]:=by simp [ha x _ hx]
  show Sem.run P (do let r ← Instr.buildSlice t 1 ((#[(0,x)]:Array (Nat × Operand)).map (fun (y:Nat × Operand)=>(y.1,ρ y.2))); pure (Next.value r)) w0=_
  rw [hm,Sem.run_bind,hb]
  rfl
 ·refine ⟨_,hs.push _,?_⟩
  rw [hs.heap]
  exact h
theorem rawE_sound {o:Oper} (hw:(EOp.raw o).W P K l w) (ha:Agr l ρ) (hs:Sim w0 w):Eff P (execOp ρ o) w0 fun v w'=>∃ w1,Sim w' w1∧K v w1:=hw ρ w0 ha hs
theorem compE_sound {o:Oper} {e:EOp} (hc:compE P o=some e) (hw:e.W P K l w) (ha:Agr l ρ) (hs:Sim w0 w):Eff P (execOp ρ o) w0 fun v w'=>∃ w1,Sim w' w1∧K v w1:=by
 obtain ⟨d,op,ty,pos,af,g⟩:=o
 have raw:∀ {o':Oper},some (EOp.raw (strip o'))=some e→Eff P (execOp ρ o') w0 fun v w'=>∃ w1,Sim w' w1∧K v w1:=by
  intro o' h
  cases h
  exact rawE_sound hw ha hs
 cases op <;> simp only [compE] at hc
 case store t x v =>
  split at hc
  ·rename_i i hi
   split at hc
   ·split at hc
    ·rename_i h1; cases hc; exact st_sound hi h1 hw ha hs
    ·cases hc
   ·split at hc
    ·rename_i n hn; cases hc; exact stn_sound hn hw ha hs
    ·cases hc
  ·cases hc
 case alloc t =>
  split at hc
  ·rename_i i hi
   split at hc
   ·rename_i z hz; cases hc; exact new_sound hi hz hw hs
   ·cases hc
  ·cases hc
 case box t x=>cases hc; exact box_sound hw ha hs
 case buildSlice t n parts =>
  split at hc
  ·rename_i e' ht
   split at hc
   ·rename_i ie he
    split at hc
    ·rename_i hp; cases hc; exact bs0_sound ht he hp hw hs
    ·rename_i x hp
     split at hc
     ·rename_i z hz
      split at hc
      ·rename_i h3; cases hc; exact bs1_sound ht he hz hp h3 hw ha hs
      ·exact raw hc
     ·exact raw hc
    ·exact raw hc
   ·cases hc
  ·cases hc
 case call c =>
  obtain ⟨callee,args,ats⟩:=c
  cases callee with
  | value f =>
   cases f with
   | func f =>
    simp only at hc
    split at hc
    ·rename_i fn hf
     split at hc
     ·rename_i hb; cases hc; exact call_sound hf hb hw ha hs
     ·exact raw hc
    ·cases hc
   | tmp t=>cases hc; exact callv_sound hw ha hs
   | const c=>exact raw hc
   | global c=>exact raw hc
  | builtin b=>exact raw hc
  | invoke r m=>exact raw hc
 all_goals exact raw hc
end
end Go.Tum
end
section
namespace Go.Tum
open Go
inductive Step where
 | q (k:Nat) (d:Option Nat) (g:Option (Nat × Bool)) (op:QOp) (rd:Bool)
 | e (d:Option Nat) (g:Option (Nat × Bool)) (op:EOp) (pend:List Nat)
def gw (g:Option (Nat × Bool)) (l:Env):Option Bool :=
 match g with
 | none=>some true
 | some (s,want)=>match eget l s with
  | some (.bool b)=>some (b == want)
  | some (.tuple _)=>some false
  | _=>none
def gcase (g:Option (Nat × Bool)) (l:Env) (run skip:Env→Prop):Prop :=
 match g with
 | none=>run l
 | some (s,want)=>match eget l s with
  | some (.bool b)=>(b=want→∃ l',Sub l' l∧run l')∧(b=(!want)→∃ l',Sub l' l∧skip l')
  | some (.tuple _)=>skip l
  | _=>False
def flook:Facts→Nat→Option (World→Prop)
 | [],_=>none
 | (k,F)::r,t=>bif Nat.beq k t then some F else flook r t
theorem flook_cons (k:Nat) (F:World→Prop) (r:Facts) (t:Nat):flook ((k,F)::r) t=if k=t then some F else flook r t:=by
 simp only [flook]
 by_cases h:k=t
 ·subst h; simp
 ·rw [if_neg h]
  cases hb:Nat.beq k t
  ·rfl
  ·exact absurd (Nat.eq_of_beq_eq_true hb) h
def pendOk (T:Facts) (w w':World):List Nat→Prop
 | []=>True
 | k::ks=>(match flook T k with
  | some F=>F w→F w'
  | none=>True)∧pendOk T w w' ks
theorem pendOk_mem {T:Facts} {w w':World}:∀ {ks:List Nat},pendOk T w w' ks→∀ k∈ks,∀ F,flook T k=some F→F w→F w'
 | [],_,k,hk,_,_=>by cases hk
 | k'::ks,h,k,hk,F,hF=>by
  rcases List.mem_cons.1 hk with rfl | hk
  ·have:=h.1; rw [hF] at this; exact this
  ·exact pendOk_mem h.2 k hk F hF
def stepsWp (P:Program):List Step→(Env→World→Prop)→Env→Facts→World→Prop
 | [],K,l,_,w=>K l w
 | .q k d g op rd::r,K,l,T,w =>
  gcase g l (fun l=>∃ v,op.Y P l v w∧stepsWp P r K (dpush d v l) (bif rd then (k,op.Y P l v)::T else T) w)
   (fun l=>stepsWp P r K (dpush d undef l) T w)
 | .e d g op pend::r,K,l,T,w =>
  gcase g l (fun l=>op.W P (fun v w'=>pendOk T w w' pend∧stepsWp P r K (dpush d v l) T w') l w)
   (fun l=>stepsWp P r K (dpush d undef l) T w)
def dstOk (N:Nat) (d:Option Nat):Bool :=
 match d with
 | some d=>decide (d<N)
 | none=>true
def guardOf (ops:Array Oper) (o:Oper):Option (Option (Nat × Bool)) :=
 match o.guard with
 | none=>some none
 | some (j,want)=>match (ops[j]?).bind (·.dst) with
  | some s=>some (some (s,want))
  | none=>none
def qStep (P:Program) (N:Nat) (ops:Array Oper) (i:Nat) (o:Oper):Option Step :=
 match compQ P o,guardOf ops o with
 | some (q,rd),some g=>if dstOk N o.dst then some (.q i o.dst g q rd) else none
 | _,_=>none
def eStep (P:Program) (N:Nat) (ops:Array Oper) (o:Oper) (pend:List Nat):Option Step :=
 match compE P o,guardOf ops o with
 | some e,some g=>if dstOk N o.dst then some (.e o.dst g e pend) else none
 | _,_=>none
def textGo (P:Program) (N:Nat) (ops:Array Oper):List Oper→Option (List Step)
 | []=>some []
 | o::r =>
  match (match qStep P N ops 0 o with | some s=>some s | none=>eStep P N ops o []) with
  | some s=>match textGo P N ops r with
   | some ss=>some (s::ss)
   | none=>none
  | none=>none
def stepReads:Step→Bool
 | .q _ _ _ _ rd=>rd
 | .e .. => false
def qFind (P:Program) (N:Nat) (ops:Array Oper) (listed:Array Bool):List Nat→Option (Nat × Step)
 | []=>none
 | i::r=>match ops[i]? with
  | some o=>match qStep P N ops i o with
   | some s=>if Region.free .any ops listed i then some (i,s) else qFind P N ops listed r
   | none=>qFind P N ops listed r
  | none=>qFind P N ops listed r
def planGo (P:Program) (N:Nat) (ops:Array Oper):Nat→Array Bool→List Nat→Option (List Step)
 | 0,listed,_=>if (Region.ready .any ops listed).isEmpty then some [] else none
 | fuel+1,listed,taken =>
  match Region.ready .any ops listed with
  | []=>some []
  | rs=>match qFind P N ops listed rs with
   | some (i,s)=>match planGo P N ops fuel (listed.setIfInBounds i true) (bif stepReads s then i::taken else taken) with
    | some ss=>some (s::ss)
    | none=>none
   | none=>match rs with
    | [i]=>match ops[i]? with
     | some o=>match eStep P N ops o (taken.filter fun k => !direct ops i k) with
      | some s=>match planGo P N ops fuel (listed.setIfInBounds i true) (taken.filter fun k => !direct ops i k) with
       | some ss=>some (s::ss)
       | none=>none
      | none=>none
     | none=>none
    | _=>none
def compRegion (P:Program) (N:Nat) (ops:Array Oper) (draw:Bool):Option (List Step) :=
 if draw then (if P.follows .mixedOrders && Region.noSelect ops then planGo P N ops ops.size (Array.replicate ops.size false) [] else none)
 else textGo P N ops ops.toList
section
variable {P:Program} {N:Nat} {ops:Array Oper} {l:Env} {a:Act}
theorem gw_sound {o:Oper} {g:Option (Nat × Bool)} {b:Bool} (hg:guardOf ops o=some g) (h:gw g l=some b) (ha:At N l a):Region.wanted o (yielded ops a.tmps)=b:=by
 unfold guardOf at hg
 unfold Region.wanted
 cases hog:o.guard with
 | none=>rw [hog] at hg; cases hg; simp only [gw] at h; cases h; rfl
 | some jw =>
  obtain ⟨j,want⟩:=jw
  rw [hog] at hg
  simp only at hg ⊢
  cases hs:(ops[j]?).bind (·.dst) with
  | none=>rw [hs] at hg; cases hg
  | some s =>
   rw [hs] at hg; cases hg
   simp only [gw] at h
   unfold yielded
   rw [hs]
   simp only [Option.bind_some]
   cases he:eget l s with
   | none=>rw [he] at h; cases h
   | some v =>
    rw [he] at h
    have hget:=ha.get s v he
    cases v <;> simp only [reduceCtorEq] at h
    case bool b' =>
     cases h
     cases hq:a.tmps[s]? with
     | none=>simp [Array.getD_eq_getD_getElem?,hq,undef] at hget
     | some u =>
      have:u=.bool b':=by simpa [Array.getD_eq_getD_getElem?,hq] using hget
      subst this
      cases b' <;> cases want <;> rfl
    case tuple vs =>
     cases h
     cases hq:a.tmps[s]? with
     | none=>rfl
     | some u =>
      have:u=.tuple vs:=by simpa [Array.getD_eq_getD_getElem?,hq] using hget
      subst this
      rfl
theorem At.known {s:Nat} {v:Value} (ha:At N l a) (h:eget l s=some v):At N ((s,v)::l) a :=
 ha.sub (Sub.cons h (Sub.refl l))
theorem gcase_sound {o:Oper} {g:Option (Nat × Bool)} {run skip:Env→Prop} (hg:guardOf ops o=some g) (h:gcase g l run skip) (ha:At N l a) :
  (Region.wanted o (yielded ops a.tmps)=true∧∃ l',At N l' a∧run l')∨(Region.wanted o (yielded ops a.tmps)=false∧∃ l',At N l' a∧skip l'):=by
 cases g with
 | none=>exact .inl ⟨gw_sound hg rfl ha,l,ha,h⟩
 | some sw =>
  obtain ⟨s,want⟩:=sw
  simp only [gcase] at h
  cases he:eget l s with
  | none=>rw [he] at h; exact h.elim
  | some v =>
   rw [he] at h
   cases v <;> simp only at h
   case bool b =>
    by_cases e:b=want
    ·subst e
     refine .inl ⟨gw_sound hg (b:=true) (by simp [gw,he]) ha,?_⟩
     obtain ⟨l',h1,h2⟩:=h.1 rfl
     exact ⟨l',ha.sub h1,h2⟩
    ·have e':b=(!want):=by cases b <;> cases want <;> simp at e ⊢
     subst e'
     refine .inr ⟨gw_sound hg (b:=false) (by cases want <;> simp [gw,he]) ha,?_⟩
     obtain ⟨l',h1,h2⟩:=h.2 rfl
     exact ⟨l',ha.sub h1,h2⟩
   case tuple vs=>exact .inr ⟨gw_sound hg (b:=false) (by simp [gw,he]) ha,l,ha,h⟩
theorem dstOk_spec {d:Option Nat} (h:dstOk N d=true):∀ x,d=some x→x<N:=by
 intro x hx; subst hx; simpa [dstOk] using h
theorem qStep_spec {i:Nat} {o:Oper} {s:Step} (h:qStep P N ops i o=some s):∃ q rd g,s=.q i o.dst g q rd∧compQ P o=some (q,rd)∧guardOf ops o=some g∧dstOk N o.dst=true:=by
 unfold qStep at h
 split at h
 ·rename_i q rd g h1 h2
  split at h
  ·rename_i h3; cases h; exact ⟨q,rd,g,rfl,h1,h2,h3⟩
  ·cases h
 ·cases h
theorem eStep_spec {o:Oper} {pend:List Nat} {s:Step} (h:eStep P N ops o pend=some s):∃ e g,s=.e o.dst g e pend∧compE P o=some e∧guardOf ops o=some g∧dstOk N o.dst=true:=by
 unfold eStep at h
 split at h
 ·rename_i e g h1 h2
  split at h
  ·rename_i h3; cases h; exact ⟨e,g,rfl,h1,h2,h3⟩
  ·cases h
 ·cases h
theorem text_sound {Q:Exit→Env→World→Prop}:∀ (os:List Oper) (ss:List Step),textGo P N ops os=some ss→∀ (l:Env) (T:Facts) (a:Act) (w0 w:World),At N l a→Sim w0 w→stepsWp P ss (Q .normal) l T w →
  wpList P ops (lift N Q) os a w0:=by
 intro os
 induction os with
 | nil =>
  intro ss h l T a w0 w ha hs hw
  simp only [textGo,Option.some.injEq] at h; subst h
  exact ⟨l,w,ha,hs,hw⟩
 | cons o r ih =>
  intro ss h l T a w0 w ha hs hw
  simp only [textGo] at h
  cases hq:qStep P N ops 0 o with
  | some s =>
   rw [hq] at h
   simp only at h
   cases hr:textGo P N ops r with
   | none=>rw [hr] at h; cases h
   | some rs =>
    rw [hr] at h; cases h
    obtain ⟨q,rd,g,rfl,hc,hg,hd⟩:=qStep_spec hq
    simp only [stepsWp] at hw
    unfold wpList
    rcases gcase_sound hg hw ha with ⟨hwant,l',ha',v,hy,hrest⟩ | ⟨hwant,l',ha',hw'⟩
    ·rw [if_pos hwant]
     refine .inl ?_
     unfold Oper.wp
     rw [compQ_sound hc (QOp.Y_sim hy hs) ha'.agr]
     exact ih rs hr _ _ _ w0 w (ha'.putO (dstOk_spec hd) v) hs hrest
    ·rw [if_neg (by rw [hwant]; simp)]
     exact ih rs hr _ _ _ w0 w (ha'.putO (dstOk_spec hd) undef) hs hw'
  | none =>
   rw [hq] at h
   simp only at h
   cases he:eStep P N ops o [] with
   | none=>rw [he] at h; cases h
   | some s =>
    rw [he] at h
    simp only at h
    cases hr:textGo P N ops r with
    | none=>rw [hr] at h; cases h
    | some rs =>
     rw [hr] at h; cases h
     obtain ⟨e,g,rfl,hc,hg,hd⟩:=eStep_spec he
     simp only [stepsWp] at hw
     unfold wpList
     rcases gcase_sound hg hw ha with ⟨hwant,l',ha',hw'⟩ | ⟨hwant,l',ha',hw'⟩
     ·rw [if_pos hwant]
      refine .inl (Eff.wp ((compE_sound hc hw' ha'.agr hs).mono fun v w' ⟨w1,h1,_,h2⟩=>?_))
      exact ih rs hr _ _ _ w' w1 (ha'.putO (dstOk_spec hd) v) h1 h2
     ·rw [if_neg (by rw [hwant]; simp)]
      exact ih rs hr _ _ _ w0 w (ha'.putO (dstOk_spec hd) undef) hs hw'
end
end Go.Tum
end
section
namespace Go.Tum
open Go
section
variable {P:Program} {N:Nat} {ops:Array Oper}
theorem qFind_spec {listed:Array Bool}:∀ {rs:List Nat} {i:Nat} {s:Step},qFind P N ops listed rs=some (i,s)→i∈rs∧∃ o,ops[i]?=some o∧qStep P N ops i o=some s∧Region.free .any ops listed i=true
 | [],_,_,h=>by cases h
 | j::r,i,s,h=>by
  simp only [qFind] at h
  cases ho:ops[j]? with
  | none=>rw [ho] at h; exact ⟨List.mem_cons_of_mem _ (qFind_spec h).1,(qFind_spec h).2⟩
  | some o =>
   rw [ho] at h
   simp only at h
   cases hq:qStep P N ops j o with
   | none=>rw [hq] at h; exact ⟨List.mem_cons_of_mem _ (qFind_spec h).1,(qFind_spec h).2⟩
   | some s' =>
    rw [hq] at h
    simp only at h
    split at h
    ·rename_i hf; cases h; exact ⟨List.mem_cons_self ..,o,ho,hq,hf⟩
    ·exact ⟨List.mem_cons_of_mem _ (qFind_spec h).1,(qFind_spec h).2⟩
structure TOk (T Ts:Facts) (taken:List Nat) (listed:Array Bool):Prop where
 mem:∀ x∈Ts,x.1∈taken∧flook T x.1=some x.2∧∀ u u':World,Sim u u'→x.2 u→x.2 u'
 lst:∀ k∈taken,listed.getD k false=true
theorem TOk.listed_ne {T Ts:Facts} {taken:List Nat} {listed:Array Bool} (h:TOk T Ts taken listed) {i:Nat} (hi:listed.getD i true=false):∀ k∈taken,i≠k:=by
 intro k hk e
 subst e
 have:=h.lst i hk
 rcases Nat.lt_or_ge i listed.size with h' | h'
 ·simp [h'] at this hi; rw [hi] at this; cases this
 ·simp [Array.getElem?_eq_none h'] at this
theorem TOk.set {T Ts:Facts} {taken:List Nat} {listed:Array Bool} (h:TOk T Ts taken listed) (i:Nat):TOk T Ts taken (listed.setIfInBounds i true) :=
 ⟨h.mem,fun k hk=>getD_set_true (h.lst k hk)⟩
theorem TOk.take {T Ts:Facts} {taken:List Nat} {listed:Array Bool} (h:TOk T Ts taken listed) {i:Nat} (hr:i∈Region.ready .any ops listed) (hsz:i<listed.size) {F:World→Prop} (hF:∀ u u':World,Sim u u'→F u→F u') :
  TOk ((i,F)::T) ((i,F)::Ts) (i::taken) (listed.setIfInBounds i true):=by
 have hne:=h.listed_ne (mem_ready.1 hr).1
 refine ⟨fun x hx=>?_,fun k hk=>?_⟩
 ·rcases List.mem_cons.1 hx with rfl | hx
  ·exact ⟨List.mem_cons_self ..,by rw [flook_cons,if_pos rfl],hF⟩
  ·obtain ⟨h1,h2,h3⟩:=h.mem x hx
   exact ⟨List.mem_cons_of_mem _ h1,by rw [flook_cons,if_neg (hne _ h1)]; exact h2,h3⟩
 ·rcases List.mem_cons.1 hk with rfl | hk
  ·simp [hsz]
  ·exact getD_set_true (h.lst k hk)
theorem TOk.filter {T Ts:Facts} {taken:List Nat} {listed:Array Bool} (h:TOk T Ts taken listed) (i:Nat):TOk T (flt ops i Ts) (taken.filter fun k => !direct ops i k) (listed.setIfInBounds i true):=by
 refine ⟨fun x hx=>?_,fun k hk=>getD_set_true (h.lst k (List.mem_filter.1 hk).1)⟩
 simp only [flt,List.mem_filter] at hx
 obtain ⟨h1,h2,h3⟩:=h.mem x hx.1
 exact ⟨List.mem_filter.2 ⟨h1,hx.2⟩,h2,h3⟩
theorem plan_sound {Q:Exit→Env→World→Prop} (hsel:Region.noSelect ops=true):∀ (fuel:Nat) (listed:Array Bool) (taken:List Nat) (ss:List Step),planGo P N ops fuel listed taken=some ss→listed.size=ops.size →
  ∀ (l:Env) (T Ts:Facts) (a:Act) (w0 w:World),TOk T Ts taken listed→At N l a→Sim w0 w→stepsWp P ss (Q .normal) l T w→wpAnyT P ops (lift N Q) Ts fuel listed a w0:=by
 intro fuel
 induction fuel with
 | zero =>
  intro listed taken ss h _ l T Ts a w0 w _ ha hs hw
  simp only [planGo] at h
  split at h
  ·rename_i he
   cases h
   exact ⟨by simpa using he,l,w,ha,hs,hw⟩
  ·cases h
 | succ fuel ih =>
  intro listed taken ss h hsz l T Ts a w0 w hT ha hs hw
  have hsz':∀ i,(listed.setIfInBounds i true).size=ops.size:=fun i=>by simp [hsz]
  simp only [planGo] at h
  cases hr:Region.ready .any ops listed with
  | nil =>
   rw [hr] at h
   cases h
   exact wpAnyT_done hr ⟨l,w,ha,hs,hw⟩ _
  | cons r0 rr =>
   rw [hr] at h
   simp only at h
   cases hq:qFind P N ops listed (r0::rr) with
   | some is =>
    obtain ⟨i,s⟩:=is
    rw [hq] at h
    simp only at h
    obtain ⟨hmem,o,ho,hstep,hfree⟩:=qFind_spec hq
    obtain ⟨q,rd,g,rfl,hc,hg,hd⟩:=qStep_spec hstep
    rw [← hr] at hmem
    have hlt:i<listed.size:=by rw [hsz]; exact (Array.getElem?_eq_some_iff.1 ho).1
    simp only [stepReads] at h
    cases hp:planGo P N ops fuel (listed.setIfInBounds i true) (bif rd then i::taken else taken) with
    | none=>rw [hp] at h; cases h
    | some rest =>
     rw [hp] at h; cases h
     simp only [stepsWp] at hw
     rcases gcase_sound hg hw ha with ⟨hwant,l',ha',v,hy,hrest⟩ | ⟨hwant,l',ha',hw'⟩
     ·cases rd with
      | true =>
       refine wpAnyT_take (S:=q.Y P l' v) ho hsel hfree hmem (fun _ _ _ h=>h) (.inl ⟨hwant,fun w' hS=>compQ_sound hc hS ha'.agr⟩) (QOp.Y_sim hy hs) ?_
       exact ih _ _ _ hp (hsz' i) _ _ _ _ w0 w (hT.take hmem hlt fun u u' hu hY=>QOp.Y_sim hY hu.symm) (ha'.putO (dstOk_spec hd) v) hs hrest
      | false =>
       refine wpAnyT_takeFree ho hsel hfree hmem (fun _ _ _ h=>h) (.inl ⟨hwant,fun w' _=>compQ_sound hc (compQ_free hc hy w') ha'.agr⟩) ?_
       exact ih _ _ _ hp (hsz' i) _ _ _ _ w0 w (hT.set i) (ha'.putO (dstOk_spec hd) v) hs hrest
     ·refine wpAnyT_takeFree (v:=undef) ho hsel hfree hmem (fun _ _ _ h=>h) (.inr ⟨hwant,rfl⟩) ?_
      cases rd with
      | true =>
       refine ih _ _ _ hp (hsz' i) _ _ _ _ w0 w ⟨fun x hx=>?_,fun k hk=>?_⟩ (ha'.putO (dstOk_spec hd) undef) hs hw'
       ·obtain ⟨h1,h2,h3⟩:=hT.mem x hx
        exact ⟨List.mem_cons_of_mem _ h1,h2,h3⟩
       ·rcases List.mem_cons.1 hk with rfl | hk
        ·simp [hlt]
        ·exact getD_set_true (hT.lst k hk)
      | false=>exact ih _ _ _ hp (hsz' i) _ _ _ _ w0 w (hT.set i) (ha'.putO (dstOk_spec hd) undef) hs hw'
   | none =>
    rw [hq] at h
    simp only at h
    cases rr with
    | cons r1 rr=>cases h
    | nil =>
     simp only at h
     cases ho:ops[r0]? with
     | none=>rw [ho] at h; cases h
     | some o =>
      rw [ho] at h
      simp only at h
      cases he:eStep P N ops o (taken.filter fun k => !direct ops r0 k) with
      | none=>rw [he] at h; cases h
      | some s =>
       rw [he] at h
       simp only at h
       obtain ⟨e,g,rfl,hc,hg,hd⟩:=eStep_spec he
       cases hp:planGo P N ops fuel (listed.setIfInBounds r0 true) (taken.filter fun k => !direct ops r0 k) with
       | none=>rw [hp] at h; cases h
       | some rest =>
        rw [hp] at h; cases h
        simp only [stepsWp] at hw
        refine wpAnyT_one hr ?_
        unfold wpOp
        rw [ho]
        simp only
        rcases gcase_sound hg hw ha with ⟨hwant,l',ha',hw'⟩ | ⟨hwant,l',ha',hw'⟩
        ·rw [if_pos hwant]
         refine .inl (Eff.wp ((compE_sound hc hw' ha'.agr hs).mono fun v w' ⟨w1,h1,hpend,h2⟩=>⟨fun x hx hx0=>?_,?_⟩))
         ·simp only [flt,List.mem_filter] at hx
          obtain ⟨h3,h4,h5⟩:=hT.mem x hx.1
          exact h5 _ _ h1.symm (pendOk_mem hpend x.1 (List.mem_filter.2 ⟨h3,hx.2⟩) x.2 h4 (h5 _ _ hs hx0))
         ·exact ih _ _ _ hp (hsz' r0) _ _ _ _ w' w1 (hT.filter r0) (ha'.putO (dstOk_spec hd) v) h1 h2
        ·rw [if_neg (by rw [hwant]; simp)]
         exact ⟨fun _ _ hx=>hx,ih _ _ _ hp (hsz' r0) _ _ _ _ w0 w (hT.filter r0) (ha'.putO (dstOk_spec hd) undef) hs hw'⟩
inductive PT where
 | done
 | q (k:Nat) (d:Option Nat) (g:Option (Nat × Bool)) (op:QOp) (rd:Bool) (r:PT)
 | e (d:Option Nat) (g:Option (Nat × Bool)) (op:EOp) (pend:List Nat) (r:PT)
 | alt (a b:PT)
def ptWp (P:Program):PT→(Env→World→Prop)→Env→Facts→World→Prop
 | .done,K,l,_,w=>K l w
 | .q k d g op rd r,K,l,T,w =>
  gcase g l (fun l=>∃ v,op.Y P l v w∧ptWp P r K (dpush d v l) (bif rd then (k,op.Y P l v)::T else T) w)
   (fun l=>ptWp P r K (dpush d undef l) T w)
 | .e d g op pend r,K,l,T,w =>
  gcase g l (fun l=>op.W P (fun v w'=>pendOk T w w' pend∧ptWp P r K (dpush d v l) T w') l w)
   (fun l=>ptWp P r K (dpush d undef l) T w)
 | .alt a b,K,l,T,w=>ptWp P a K l T w∧ptWp P b K l T w
def altAll (f:Nat→Option PT):List Nat→Option PT
 | []=>none
 | i::r=>match r with
  | []=>f i
  | _::_=>match f i,altAll f r with
   | some a,some b=>some (.alt a b)
   | _,_=>none
def planT (P:Program) (N:Nat) (ops:Array Oper):Nat→Array Bool→List Nat→Option PT
 | 0,listed,_=>if (Region.ready .any ops listed).isEmpty then some .done else none
 | fuel+1,listed,taken =>
  match Region.ready .any ops listed with
  | []=>some .done
  | rs=>match qFind P N ops listed rs with
   | some (i,.q k d g op rd)=>match planT P N ops fuel (listed.setIfInBounds i true) (bif rd then i::taken else taken) with
    | some ss=>some (.q k d g op rd ss)
    | none=>none
   | some (_,.e ..)=>none
   | none=>altAll (fun i=>match ops[i]? with
     | some o=>match eStep P N ops o (taken.filter fun k => !direct ops i k) with
      | some (.e d g op pend)=>match planT P N ops fuel (listed.setIfInBounds i true) (taken.filter fun k => !direct ops i k) with
       | some ss=>some (.e d g op pend ss)
       | none=>none
      | _=>none
     | none=>none) rs
theorem altAll_spec {P:Program} {f:Nat→Option PT} {K:Env→World→Prop} {l:Env} {T:Facts} {w:World}:∀ (rs:List Nat) (t:PT),altAll f rs=some t→ptWp P t K l T w→∀ i∈rs,∃ ti,f i=some ti∧ptWp P ti K l T w
 | [],t,h,_=>by cases h
 | [j],t,h,hw=>by
  intro i hi
  rw [List.mem_singleton] at hi
  subst hi
  exact ⟨t,h,hw⟩
 | j::j'::r,t,h,hw=>by
  simp only [altAll] at h
  cases ha:f j with
  | none=>rw [ha] at h; cases h
  | some a =>
   rw [ha] at h
   cases hb:altAll f (j'::r) with
   | none=>simp only [altAll] at hb; rw [hb] at h; cases h
   | some b =>
    have hb':=hb
    simp only [altAll] at hb
    rw [hb] at h; cases h
    intro i hi
    rcases List.mem_cons.1 hi with rfl | hi
    ·exact ⟨a,ha,hw.1⟩
    ·exact altAll_spec (j'::r) b hb' hw.2 i hi
theorem planT_sound {Q:Exit→Env→World→Prop} (hsel:Region.noSelect ops=true):∀ (fuel:Nat) (listed:Array Bool) (taken:List Nat) (t:PT),planT P N ops fuel listed taken=some t→listed.size=ops.size →
  ∀ (l:Env) (T Ts:Facts) (a:Act) (w0 w:World),TOk T Ts taken listed→At N l a→Sim w0 w→ptWp P t (Q .normal) l T w→wpAnyT P ops (lift N Q) Ts fuel listed a w0:=by
 intro fuel
 induction fuel with
 | zero =>
  intro listed taken ss h _ l T Ts a w0 w _ ha hs hw
  simp only [planT] at h
  split at h
  ·rename_i he
   cases h
   exact ⟨by simpa using he,l,w,ha,hs,hw⟩
  ·cases h
 | succ fuel ih =>
  intro listed taken ss h hsz l T Ts a w0 w hT ha hs hw
  have hsz':∀ i,(listed.setIfInBounds i true).size=ops.size:=fun i=>by simp [hsz]
  simp only [planT] at h
  cases hr:Region.ready .any ops listed with
  | nil =>
   rw [hr] at h
   cases h
   exact wpAnyT_done hr ⟨l,w,ha,hs,hw⟩ _
  | cons r0 rr =>
   rw [hr] at h
   simp only at h
   cases hq:qFind P N ops listed (r0::rr) with
   | some is =>
    obtain ⟨i,s⟩:=is
    rw [hq] at h
    obtain ⟨hmem,o,ho,hstep,hfree⟩:=qFind_spec hq
    obtain ⟨q,rd,g,rfl,hc,hg,hd⟩:=qStep_spec hstep
    simp only at h
    rw [← hr] at hmem
    have hlt:i<listed.size:=by rw [hsz]; exact (Array.getElem?_eq_some_iff.1 ho).1
    cases hp:planT P N ops fuel (listed.setIfInBounds i true) (bif rd then i::taken else taken) with
    | none=>rw [hp] at h; cases h
    | some rest =>
     rw [hp] at h; cases h
     simp only [ptWp] at hw
     rcases gcase_sound hg hw ha with ⟨hwant,l',ha',v,hy,hrest⟩ | ⟨hwant,l',ha',hw'⟩
     ·cases rd with
      | true =>
       refine wpAnyT_take (S:=q.Y P l' v) ho hsel hfree hmem (fun _ _ _ h=>h) (.inl ⟨hwant,fun w' hS=>compQ_sound hc hS ha'.agr⟩) (QOp.Y_sim hy hs) ?_
       exact ih _ _ _ hp (hsz' i) _ _ _ _ w0 w (hT.take hmem hlt fun u u' hu hY=>QOp.Y_sim hY hu.symm) (ha'.putO (dstOk_spec hd) v) hs hrest
      | false =>
       refine wpAnyT_takeFree ho hsel hfree hmem (fun _ _ _ h=>h) (.inl ⟨hwant,fun w' _=>compQ_sound hc (compQ_free hc hy w') ha'.agr⟩) ?_
       exact ih _ _ _ hp (hsz' i) _ _ _ _ w0 w (hT.set i) (ha'.putO (dstOk_spec hd) v) hs hrest
     ·refine wpAnyT_takeFree (v:=undef) ho hsel hfree hmem (fun _ _ _ h=>h) (.inr ⟨hwant,rfl⟩) ?_
      cases rd with
      | true =>
       refine ih _ _ _ hp (hsz' i) _ _ _ _ w0 w ⟨fun x hx=>?_,fun k hk=>?_⟩ (ha'.putO (dstOk_spec hd) undef) hs hw'
       ·obtain ⟨h1,h2,h3⟩:=hT.mem x hx
        exact ⟨List.mem_cons_of_mem _ h1,h2,h3⟩
       ·rcases List.mem_cons.1 hk with rfl | hk
        ·simp [hlt]
        ·exact getD_set_true (hT.lst k hk)
      | false=>exact ih _ _ _ hp (hsz' i) _ _ _ _ w0 w (hT.set i) (ha'.putO (dstOk_spec hd) undef) hs hw'
   | none =>
    rw [hq] at h
    simp only at h
    refine ⟨fun e=>(by rw [e] at hr; cases hr),fun i hi=>?_⟩
    rw [hr] at hi
    obtain ⟨ti,hti,hwi⟩:=altAll_spec _ _ h hw i hi
    cases ho:ops[i]? with
    | none=>rw [ho] at hti; cases hti
    | some o =>
     rw [ho] at hti
     simp only at hti
     cases he:eStep P N ops o (taken.filter fun k => !direct ops i k) with
     | none=>rw [he] at hti; cases hti
     | some s =>
      rw [he] at hti
      obtain ⟨e,g,rfl,hc,hg,hd⟩:=eStep_spec he
      simp only at hti
      cases hp:planT P N ops fuel (listed.setIfInBounds i true) (taken.filter fun k => !direct ops i k) with
      | none=>rw [hp] at hti; cases hti
      | some rest =>
       rw [hp] at hti; cases hti
       simp only [ptWp] at hwi
       unfold wpOp
       rw [ho]
       simp only
       rcases gcase_sound hg hwi ha with ⟨hwant,l',ha',hw'⟩ | ⟨hwant,l',ha',hw'⟩
       ·rw [if_pos hwant]
        refine .inl (Eff.wp ((compE_sound hc hw' ha'.agr hs).mono fun v w' ⟨w1,h1,hpend,h2⟩=>⟨fun x hx hx0=>?_,?_⟩))
        ·simp only [flt,List.mem_filter] at hx
         obtain ⟨h3,h4,h5⟩:=hT.mem x hx.1
         exact h5 _ _ h1.symm (pendOk_mem hpend x.1 (List.mem_filter.2 ⟨h3,hx.2⟩) x.2 h4 (h5 _ _ hs hx0))
        ·exact ih _ _ _ hp (hsz' i) _ _ _ _ w' w1 (hT.filter i) (ha'.putO (dstOk_spec hd) v) h1 h2
       ·rw [if_neg (by rw [hwant]; simp)]
        exact ⟨fun _ _ hx=>hx,ih _ _ _ hp (hsz' i) _ _ _ _ w0 w (hT.filter i) (ha'.putO (dstOk_spec hd) undef) hs hw'⟩
def compRegionT (P:Program) (N:Nat) (ops:Array Oper) (draw:Bool):Option PT :=
 if draw then (if P.follows .mixedOrders && Region.noSelect ops then planT P N ops ops.size (Array.replicate ops.size false) [] else none)
 else none
theorem V.regionT {Q:Exit→Env→World→Prop} {id:Nat} {draw:Bool} {t:PT} {l:Env} {w:World} (hc:compRegionT P N ops draw=some t) (h:ptWp P t (Q .normal) l [] w):V P N (.region id ops draw) Q l w:=by
 intro a w0 ha hs
 unfold compRegionT at hc
 cases draw with
 | true =>
  simp only [if_true] at hc
  split at hc
  ·rename_i hf
   simp only [Bool.and_eq_true] at hf
   refine wp_region_T hf.1 ?_
   exact planT_sound hf.2 _ _ _ _ hc (by simp) l [] [] a _ w ⟨fun x hx=>(by cases hx),fun k hk=>(by cases hk)⟩ ha (hs.drawn _) h
  ·cases hc
 | false=>cases hc
theorem V.region {Q:Exit→Env→World→Prop} {id:Nat} {draw:Bool} {ss:List Step} {l:Env} {w:World} (hc:compRegion P N ops draw=some ss) (h:stepsWp P ss (Q .normal) l [] w):V P N (.region id ops draw) Q l w:=by
 intro a w0 ha hs
 unfold compRegion at hc
 cases draw with
 | true =>
  simp only [if_true] at hc
  split at hc
  ·rename_i hf
   simp only [Bool.and_eq_true] at hf
   refine wp_region_T hf.1 ?_
   exact plan_sound hf.2 _ _ _ _ hc (by simp) l [] [] a _ w ⟨fun x hx=>(by cases hx),fun k hk=>(by cases hk)⟩ ha (hs.drawn _) h
  ·cases hc
 | false =>
  simp only [Bool.false_eq_true,if_false] at hc
  exact wp_region_list (text_sound _ _ hc l [] a w0 w ha hs h)
end
inductive MC where
 | skip
 | reg (s:List Step)
 | regT (t:PT)
 | seq (a b:MC)
 | cond (c:Operand) (x y:MC)
 | block (id:Nat) (b:MC)
 | loop (b:MC)
 | exit (id:Nat)
 | ret
def comp (P:Program) (N:Nat):Code→Option MC
 | .skip=>some .skip
 | .region _ ops draw=>match compRegion P N ops draw with
  | some s=>some (.reg s)
  | none=>match compRegionT P N ops draw with
   | some t=>some (.regT t)
   | none=>none
 | .seq a b=>match comp P N a,comp P N b with
  | some x,some y=>some (.seq x y)
  | _,_=>none
 | .cond c a b=>match comp P N a,comp P N b with
  | some x,some y=>some (.cond c x y)
  | _,_=>none
 | .block id b=>match comp P N b with
  | some x=>some (.block id x)
  | none=>none
 | .loop b=>match comp P N b with
  | some x=>some (.loop x)
  | none=>none
 | .exit id=>some (.exit id)
 | .ret=>some .ret
 | _=>none
def knows (c:Operand) (b:Bool) (l:Env):Env :=
 match c with
 | .tmp s=>(s,.bool b)::l
 | _=>l
theorem At.knows {N:Nat} {l:Env} {a:Act} {c:Operand} {b:Bool} (ha:At N l a) (h:ev l c=some (.bool b)):At N (Tum.knows c b l) a:=by
 cases c with
 | tmp s=>exact ha.known h
 | const v=>exact ha
 | global g=>exact ha
 | func f=>exact ha
def MWp (P:Program):MC→(Exit→Env→World→Prop)→Env→World→Prop
 | .skip,Q,l,w=>Q .normal l w
 | .reg s,Q,l,w=>stepsWp P s (Q .normal) l [] w
 | .regT t,Q,l,w=>ptWp P t (Q .normal) l [] w
 | .seq a b,Q,l,w=>MWp P a (thenQ (fun l' w'=>∃ l'',Sub l'' l'∧MWp P b Q l'' w') Q) l w
 | .cond c x y,Q,l,w=>∃ t,ev l c=some (.bool t)∧(t=true→MWp P x Q (knows c true l) w)∧(t=false→MWp P y Q (knows c false l) w)
 | .block id b,Q,l,w=>MWp P b (blkQ id Q) l w
 | .loop b,Q,l,w=>∃ (I:Nat→Env→World→Prop) (n:Nat),I n l w ∧
   ∀ n l w,I n l w→MWp P b (thenQ (fun l' w'=>∃ m,m<n∧∃ l'',Sub l'' l'∧I m l'' w') Q) l w
 | .exit id,Q,l,w=>Q (.exit id) l w
 | .ret,Q,l,w=>Q .ret l w
theorem EOp.W_mono {P:Program} {e:EOp} {K K':Value→World→Prop} {l:Env} {w:World} (h:∀ v w,K v w→K' v w) (hw:e.W P K l w):e.W P K' l w:=by
 cases e <;> simp only [EOp.W] at *
 case st=>obtain ⟨p,u,h1,h2,h3,h4,h5,h6⟩:=hw; exact ⟨p,u,h1,h2,h3,h4,h5,h _ _ h6⟩
 case stn=>obtain ⟨p,u,h1,h2,h3,h4,h5,h6⟩:=hw; exact ⟨p,u,h1,h2,h3,h4,h5,h _ _ h6⟩
 case new=>exact h _ _ hw
 case box=>obtain ⟨u,h1,h2⟩:=hw; exact ⟨u,h1,h _ _ h2⟩
 case bs0=>exact h _ _ hw
 case bs1=>obtain ⟨u,h1,h2,h3⟩:=hw; exact ⟨u,h1,h2,h _ _ h3⟩
 case call=>obtain ⟨vs,h1,h2⟩:=hw; exact ⟨vs,h1,h2.mono h⟩
 case callv=>obtain ⟨f,a,c,vs,h1,h2,h3,h4⟩:=hw; exact ⟨f,a,c,vs,h1,h2,h3,h4.mono h⟩
 case raw=>exact fun ρ w0 ha hs=>(hw ρ w0 ha hs).mono fun v w' ⟨w1,h1,h2⟩=>⟨w1,h1,h _ _ h2⟩
theorem gcase_mono {g:Option (Nat × Bool)} {l:Env} {run skip run' skip':Env→Prop} (h1:∀ l,run l→run' l) (h2:∀ l,skip l→skip' l) (h:gcase g l run skip):gcase g l run' skip':=by
 cases g with
 | none=>exact h1 _ h
 | some sw =>
  obtain ⟨s,want⟩:=sw
  simp only [gcase] at *
  cases he:eget l s with
  | none=>rw [he] at h; exact h
  | some v =>
   rw [he] at h
   cases v <;> simp only at * <;> first|exact h|exact h2 _ h|exact ⟨fun e=>let ⟨l',a,b⟩:=h.1 e; ⟨l',a,h1 _ b⟩,fun e=>let ⟨l',a,b⟩:=h.2 e; ⟨l',a,h2 _ b⟩⟩
theorem stepsWp_mono {P:Program} {K K':Env→World→Prop} (h:∀ l w,K l w→K' l w):∀ (ss:List Step) (l:Env) (T:Facts) (w:World),stepsWp P ss K l T w→stepsWp P ss K' l T w
 | [],l,_,w,hw=>h l w hw
 | .q k d g op rd::r,l,T,w,hw=>by
  simp only [stepsWp] at *
  exact gcase_mono (fun l ⟨v,h1,h2⟩=>⟨v,h1,stepsWp_mono h r _ _ _ h2⟩) (fun l h1=>stepsWp_mono h r _ _ _ h1) hw
 | .e d g op pend::r,l,T,w,hw=>by
  simp only [stepsWp] at *
  exact gcase_mono (fun l h1=>EOp.W_mono (fun v w' hk=>⟨hk.1,stepsWp_mono h r _ _ _ hk.2⟩) h1) (fun l h1=>stepsWp_mono h r _ _ _ h1) hw
theorem ptWp_mono {P:Program} {K K':Env→World→Prop} (h:∀ l w,K l w→K' l w):∀ (t:PT) (l:Env) (T:Facts) (w:World),ptWp P t K l T w→ptWp P t K' l T w
 | .done,l,_,w,hw=>h l w hw
 | .q k d g op rd r,l,T,w,hw=>by
  simp only [ptWp] at *
  exact gcase_mono (fun l ⟨v,h1,h2⟩=>⟨v,h1,ptWp_mono h r _ _ _ h2⟩) (fun l h1=>ptWp_mono h r _ _ _ h1) hw
 | .e d g op pend r,l,T,w,hw=>by
  simp only [ptWp] at *
  exact gcase_mono (fun l h1=>EOp.W_mono (fun v w' hk=>⟨hk.1,ptWp_mono h r _ _ _ hk.2⟩) h1) (fun l h1=>ptWp_mono h r _ _ _ h1) hw
 | .alt a b,l,T,w,hw=>⟨ptWp_mono h a l T w hw.1,ptWp_mono h b l T w hw.2⟩
theorem thenQ_mono {n n':Env→World→Prop} {Q Q':Exit→Env→World→Prop} (hn:∀ l w,n l w→n' l w) (hq:∀ e l w,Q e l w→Q' e l w):∀ e l w,thenQ n Q e l w→thenQ n' Q' e l w:=by
 intro e l w h
 cases e <;> first|exact hn _ _ h|exact hq _ _ _ h
theorem MWp.mono {P:Program}:∀ (m:MC) {Q Q':Exit→Env→World→Prop} {l:Env} {w:World},(∀ e l w,Q e l w→Q' e l w)→MWp P m Q l w→MWp P m Q' l w:=by
 intro m
 induction m with
 | skip=>intro Q Q' l w h hw; exact h _ _ _ hw
 | reg s=>intro Q Q' l w h hw; exact stepsWp_mono (fun l w=>h .normal l w) s l [] w hw
 | regT t=>intro Q Q' l w h hw; exact ptWp_mono (fun l w=>h .normal l w) t l [] w hw
 | seq a b iha ihb=>intro Q Q' l w h hw; exact iha (thenQ_mono (fun l w ⟨l'',h1,h2⟩=>⟨l'',h1,ihb h h2⟩) h) hw
 | cond c x y ihx ihy=>intro Q Q' l w h hw; obtain ⟨t,h1,h2,h3⟩:=hw; exact ⟨t,h1,fun ht=>ihx h (h2 ht),fun ht=>ihy h (h3 ht)⟩
 | block id b ih =>
  intro Q Q' l w h hw
  refine ih (fun e l w hq=>?_) hw
  cases e <;> simp only [blkQ] at * <;> first|exact h _ _ _ hq | skip
  split
  ·rename_i e; rw [if_pos e] at hq; exact h _ _ _ hq
  ·rename_i e; rw [if_neg e] at hq; exact h _ _ _ hq
 | loop b ih=>intro Q Q' l w h hw; obtain ⟨I,n,h0,hr⟩:=hw; exact ⟨I,n,h0,fun n l w hI=>ih (thenQ_mono (fun _ _ h=>h) h) (hr n l w hI)⟩
 | exit id=>intro Q Q' l w h hw; exact h _ _ _ hw
 | ret=>intro Q Q' l w h hw; exact h _ _ _ hw
theorem comp_sound {P:Program} {N:Nat}:∀ (c:Code) (m:MC),comp P N c=some m→∀ (Q:Exit→Env→World→Prop) (l:Env) (w:World),MWp P m Q l w→V P N c Q l w:=by
 intro c
 induction c with
 | skip=>intro m h Q l w hw; cases h; exact V.skip hw
 | region id ops draw =>
  intro m h Q l w hw
  simp only [comp] at h
  cases hc:compRegion P N ops draw with
  | none =>
   rw [hc] at h
   simp only at h
   cases ht:compRegionT P N ops draw with
   | none=>rw [ht] at h; cases h
   | some t=>rw [ht] at h; cases h; exact V.regionT ht hw
  | some s=>rw [hc] at h; cases h; exact V.region hc hw
 | seq a b iha ihb =>
  intro m h Q l w hw
  simp only [comp] at h
  cases ha:comp P N a with
  | none=>rw [ha] at h; cases h
  | some x =>
   cases hb:comp P N b with
   | none=>rw [ha,hb] at h; cases h
   | some y =>
    rw [ha,hb] at h; cases h
    refine V.seq ?_
    intro a' w0 hat hsim
    refine wp_mono (iha x ha _ l w hw a' w0 hat hsim) fun e a2 w2 hq=>?_
    cases e with
    | normal=>obtain ⟨l',w1,h1,h2,l'',hsub,h3⟩:=hq; exact ⟨l'',w1,h1.sub hsub,h2,ihb y hb Q l'' w1 h3⟩
    | panic c=>exact hq
    | outgrown=>exact hq
    | ret=>exact hq
    | exit i=>exact hq
    | goto i=>exact hq
 | cond c a b iha ihb =>
  intro m h Q l w hw
  simp only [comp] at h
  cases ha:comp P N a with
  | none=>rw [ha] at h; cases h
  | some x =>
   cases hb:comp P N b with
   | none=>rw [ha,hb] at h; cases h
   | some y =>
    rw [ha,hb] at h; cases h
    obtain ⟨t,hc,h1,h2⟩:=hw
    exact V.cond hc (fun ht a' w0 hat hs=>iha x ha Q _ w (h1 ht) a' w0 (hat.knows (by rw [hc,ht])) hs) (fun hf a' w0 hat hs=>ihb y hb Q _ w (h2 hf) a' w0 (hat.knows (by rw [hc,hf])) hs)
 | block id b ih =>
  intro m h Q l w hw
  simp only [comp] at h
  cases hb:comp P N b with
  | none=>rw [hb] at h; cases h
  | some x=>rw [hb] at h; cases h; exact V.block (ih x hb _ l w hw)
 | loop b ih =>
  intro m h Q l w hw
  simp only [comp] at h
  cases hb:comp P N b with
  | none=>rw [hb] at h; cases h
  | some x =>
   rw [hb] at h; cases h
   obtain ⟨I,n,h0,hr⟩:=hw
   exact V.loop I n h0 fun n l w hI=>ih x hb _ l w (hr n l w hI)
 | exit id=>intro m h Q l w hw; cases h; exact V.exit hw
 | ret=>intro m h Q l w hw; cases h; exact V.ret hw
 | _=>intro m h; cases h
def initEnv:Nat→List Value→Env
 | _,[]=>[]
 | i,v::r=>(i,v)::initEnv (i+1) r
def RQ (P:Program) (fn:Func) (R:Value→World→Prop) (e:Exit) (l:Env) (w:World):Prop :=
 (e=.ret∨e=.normal)∧∃ v,(∀ a w0,At fn.ntmps l a→Sim w0 w→(results fn a.tmps).run P w0=.ok v w0)∧R v w
theorem eget_init:∀ (args:List Value) (i t:Nat) (v:Value),eget (initEnv i args) t=some v→∃ j,t=i+j∧args[j]?=some v
 | [],i,t,v,h=>by cases h
 | u::r,i,t,v,h=>by
  rw [initEnv,eget_cons] at h
  by_cases e:i=t
  ·subst e; rw [if_pos rfl] at h; cases h; exact ⟨0,rfl,rfl⟩
  ·rw [if_neg e] at h
   obtain ⟨j,rfl,hj⟩:=eget_init r (i+1) t v h
   exact ⟨j+1,by omega,by simpa using hj⟩
theorem enter {P:Program} {f:FuncId} {fn:Func} {c:Code} {m:MC} {args:List Value} {w:World} {R:Value→World→Prop} (hf:P.funcs[f]?=some fn) (hb:fn.body=some c) (hm:comp P fn.ntmps c=some m)
  (hn:args.length≤fn.ntmps) (h:MWp P m (RQ P fn R) (initEnv 0 args) w):Does P f args.toArray w R:=by
 intro w0 hs
 refine calls_of_wp hf hb ?_
 have hat:At fn.ntmps (initEnv 0 args) { tmps:=args.toArray++Array.replicate (fn.ntmps-args.toArray.size) undef,defers:=[] }:=by
  refine ⟨rfl,by simp; omega,fun t v ht=>?_⟩
  obtain ⟨j,rfl,hj⟩:=eget_init args 0 t v ht
  have hlt:j<args.length:=(List.getElem?_eq_some_iff.1 hj).1
  simp only [Nat.zero_add,Array.getD_eq_getD_getElem?]
  rw [Array.getElem?_append_left (by simpa using hlt)]
  simp [hj]
 refine wp_mono (comp_sound c m hm _ _ w h _ w0 hat hs) fun e a' w' hq=>?_
 have done:∀ l' w1,At fn.ntmps l' a'→Sim w' w1→RQ P fn R e l' w1→bodyPost P fn (fun e w'=>∃ w1,Sim w' w1∧∃ v,e=.returned v∧R v w1) e a' w':=by
  rintro l' w1 h1 h2 ⟨he,v,hv,hR⟩
  rcases he with rfl | rfl
  ·exact ⟨h1.defers,v,hv a' w' h1 h2,w1,h2,v,rfl,hR⟩
  ·exact ⟨h1.defers,v,hv a' w' h1 h2,w1,h2,v,rfl,hR⟩
 cases e with
 | panic c=>exact hq.elim
 | outgrown=>exact hq.elim
 | normal=>obtain ⟨l',w1,h1,h2,h3⟩:=hq; exact done l' w1 h1 h2 h3
 | ret=>obtain ⟨l',w1,h1,h2,h3⟩:=hq; exact done l' w1 h1 h2 h3
 | exit i=>obtain ⟨l',w1,h1,h2,h3⟩:=hq; exact done l' w1 h1 h2 h3
 | goto i=>obtain ⟨l',w1,h1,h2,h3⟩:=hq; exact done l' w1 h1 h2 h3
section
variable {P:Program} {fn:Func} {R:Value→World→Prop} {l:Env} {w:World} {e:Exit}
theorem RQ.one {t:Tmp} {v:Value} (hr:fn.results = #[.tmp t]) (he:e=.ret∨e=.normal) (hv:eget l t=some v) (h:R v w):RQ P fn R e l w :=
 ⟨he,v,fun a w0 ha _=>by rw [results_tmp hr,ha.get t v hv],h⟩
theorem RQ.two {t u:Tmp} {x y:Value} (hr:fn.results = #[.tmp t,.tmp u]) (he:e=.ret∨e=.normal) (hx:eget l t=some x) (hy:eget l u=some y) (h:R (.tuple #[x,y]) w):RQ P fn R e l w :=
 ⟨he,_,fun a w0 ha _=>by rw [results_tmp2 hr,ha.get t x hx,ha.get u y hy],h⟩
end
end Go.Tum
end
section
namespace Go.Tum
open Go
def lget:List Value→Nat→Option Value
 | [],_=>none
 | v::_,0=>some v
 | _::r,n+1=>lget r n
theorem lget_eq:∀ (vs:List Value) (k:Nat),lget vs k=vs[k]?
 | [],_=>rfl
 | _::_,0=>rfl
 | _::r,k+1=>by simpa [lget] using lget_eq r k
def icmp (op:BinOp) (a b:Int):Option Value :=
 match op with
 | .eql=>some (.bool (a == b))
 | .neq=>some (.bool (a != b))
 | .lss=>some (.bool (decide (a<b)))
 | .leq=>some (.bool (decide (a≤b)))
 | .gtr=>some (.bool (decide (a > b)))
 | .geq=>some (.bool (decide (a≥b)))
 | _=>none
def qauto (q:QOp) (l:Env):Option Value :=
 match q with
 | .mov x=>ev l x
 | .pick c a b=>match ev l c with
  | some (.bool true)=>ev l a
  | some (.bool false)=>ev l b
  | _=>none
 | .nilc x=>match ev l x with
  | some (.pointer (some p))=>some (.pointer (some p))
  | _=>none
 | .fld x off=>match ev l x with
  | some (.pointer (some ⟨b,o,none⟩))=>some (.pointer (some ⟨b,o+off,none⟩))
  | _=>none
 | .fldv x off=>match ev l x with
  | some (.agg ⟨cs⟩)=>lget cs off
  | _=>none
 | .ext x k=>match ev l x with
  | some (.tuple ⟨vs⟩)=>lget vs k
  | _=>none
 | .bin op x y=>match ev l x,ev l y with
  | some (.int .i64 a),some (.int .i64 b)=>icmp op a b
  | some (.int .u8 a),some (.int .u8 b)=>icmp op a b
  | some (.int .u64 a),some (.int .u64 b)=>icmp op a b
  | _,_=>none
 | .nilp neg x=>match ev l x with
  | some (.pointer (some _))=>match neg with
   | true=>some (.bool true)
   | false=>some (.bool false)
  | some (.pointer none)=>match neg with
   | true=>some (.bool false)
   | false=>some (.bool true)
  | _=>none
 | .un .not x=>match ev l x with
  | some (.bool b)=>some (.bool (!b))
  | _=>none
 | .len x=>match ev l x with
  | some (.slice _ n _)=>some (.int .i64 n)
  | _=>none
 | .mm mx x y=>match ev l x,ev l y with
  | some (.int .i64 a),some (.int .i64 b)=>some (.int .i64 (imm mx a b))
  | _,_=>none
 | .bld zero parts=>match bldv l zero parts with
  | some vs=>some (.agg ⟨vs⟩)
  | none=>none
 | _=>none
theorem icmp_ibin {op:BinOp} {k:IntKind} {a b:Int} {v:Value} (h:icmp op a b=some v):ibin op k a b=some v:=by
 cases op <;> simp only [icmp,reduceCtorEq] at h <;> exact h
theorem add_none (b o off:Nat):Addr.add ⟨b,o,none⟩ off=⟨b,o+off,none⟩:=by
 unfold Addr.add
 split
 ·rename_i h; subst h; rfl
 ·rfl
theorem qauto_sound {P:Program} {q:QOp} {l:Env} {v:Value} (h:qauto q l=some v) (w:World):q.Y P l v w:=by
 cases q <;> simp only [qauto,reduceCtorEq] at h <;> simp only [QOp.Y]
 case mov x=>exact h
 case pick c a b =>
  split at h
  ·rename_i hc; exact ⟨true,hc,h⟩
  ·rename_i hc; exact ⟨false,hc,h⟩
  ·cases h
 case nilc x =>
  split at h
  ·rename_i p hx; cases h; exact .inl ⟨p,hx,rfl⟩
  ·cases h
 case fld x off =>
  split at h
  ·rename_i b o hx; cases h; exact ⟨b,o,none,hx,by rw [add_none]⟩
  ·cases h
 case fldv x off =>
  split at h
  ·rename_i cs hx; exact ⟨⟨cs⟩,hx,by rw [lget_eq] at h; simpa using h⟩
  ·cases h
 case ext x k =>
  split at h
  ·rename_i cs hx; exact ⟨⟨cs⟩,hx,by rw [lget_eq] at h; simpa using h⟩
  ·cases h
 case bin op x y =>
  split at h
  ·rename_i a b hx hy; exact ⟨_,a,b,hx,hy,icmp_ibin h⟩
  ·rename_i a b hx hy; exact ⟨_,a,b,hx,hy,icmp_ibin h⟩
  ·rename_i a b hx hy; exact ⟨_,a,b,hx,hy,icmp_ibin h⟩
  ·cases h
 case nilp neg x =>
  split at h
  ·rename_i p hx; cases neg <;> cases h <;> exact ⟨_,hx,rfl⟩
  ·rename_i hx; cases neg <;> cases h <;> exact ⟨_,hx,rfl⟩
  ·cases h
 case un op x =>
  cases op <;> simp only [reduceCtorEq] at h
  split at h
  ·rename_i b hx; cases h; exact .inl ⟨b,rfl,hx,rfl⟩
  ·cases h
 case len x =>
  split at h
  ·rename_i a n c hx; cases h; exact ⟨a,n,c,hx,rfl⟩
  ·cases h
 case mm mx x y =>
  split at h
  ·rename_i a b hx hy; cases h; exact ⟨_,a,b,hx,hy,rfl⟩
  ·cases h
 case bld zero parts =>
  split at h
  ·rename_i vs hx; cases h; exact ⟨vs,hx,rfl⟩
  ·cases h
def autoRun:List Step→Env→Facts→List Step × Env × Facts
 | [],l,T=>([],l,T)
 | .q k d g op rd::r,l,T =>
  match gw g l with
  | some true=>match rd with
   | true=>(.q k d g op true::r,l,T)
   | false=>match qauto op l with
    | some v=>match d with
     | some d=>autoRun r ((d,v)::l) T
     | none=>autoRun r l T
    | none=>(.q k d g op false::r,l,T)
  | some false=>match d with
   | some d=>autoRun r ((d,undef)::l) T
   | none=>autoRun r l T
  | none=>(.q k d g op rd::r,l,T)
 | .e d g op pend::r,l,T =>
  match gw g l with
  | some false=>match d with
   | some d=>autoRun r ((d,undef)::l) T
   | none=>autoRun r l T
  | _=>(.e d g op pend::r,l,T)
def guardAt (st:Nat):Option (Nat × Bool)→Bool
 | none=>false
 | some (s,_)=>Nat.beq s st
def autoStop (st:Nat):List Step→Env→Facts→List Step × Env × Facts
 | [],l,T=>([],l,T)
 | .q k d g op rd::r,l,T =>
  match guardAt st g with
  | true=>(.q k d g op rd::r,l,T)
  | false=>match gw g l with
   | some true=>match rd with
    | true=>(.q k d g op true::r,l,T)
    | false=>match qauto op l with
     | some v=>match d with
      | some d=>autoStop st r ((d,v)::l) T
      | none=>autoStop st r l T
     | none=>(.q k d g op false::r,l,T)
   | some false=>match d with
    | some d=>autoStop st r ((d,undef)::l) T
    | none=>autoStop st r l T
   | none=>(.q k d g op rd::r,l,T)
 | .e d g op pend::r,l,T =>
  match guardAt st g with
  | true=>(.e d g op pend::r,l,T)
  | false=>match gw g l with
   | some false=>match d with
    | some d=>autoStop st r ((d,undef)::l) T
    | none=>autoStop st r l T
   | _=>(.e d g op pend::r,l,T)
section
variable {P:Program} {K:Env→World→Prop} {l l1:Env} {T T1:Facts} {w:World} {ss r:List Step} {k:Nat} {d:Option Nat} {g:Option (Nat × Bool)} {rd:Bool} {pend:List Nat}
theorem gcase_true {run skip:Env→Prop} (hg:gw g l=some true) (h:run l):gcase g l run skip:=by
 cases g with
 | none=>exact h
 | some sw =>
  obtain ⟨s,want⟩:=sw
  simp only [gw,gcase] at *
  cases he:eget l s with
  | none=>rw [he] at hg; cases hg
  | some v =>
   rw [he] at hg
   cases v <;> simp only [reduceCtorEq,Option.some.injEq,Bool.false_eq_true] at *
   rename_i b
   have:b=want:=by simpa using hg
   exact ⟨fun _=>⟨l,Sub.refl l,h⟩,fun e=>by subst this; cases b <;> simp at e⟩
theorem gcase_false {run skip:Env→Prop} (hg:gw g l=some false) (h:skip l):gcase g l run skip:=by
 cases g with
 | none=>cases hg
 | some sw =>
  obtain ⟨s,want⟩:=sw
  simp only [gw,gcase] at *
  cases he:eget l s with
  | none=>rw [he] at hg; cases hg
  | some v =>
   rw [he] at hg
   cases v <;> simp only [reduceCtorEq,Option.some.injEq] at *
   ·rename_i b
    have:b≠want:=by simpa using hg
    exact ⟨fun e=>absurd e this,fun _=>⟨l,Sub.refl l,h⟩⟩
   ·exact h
theorem auto_sound:∀ (ss:List Step) (l:Env) (T:Facts),stepsWp P (autoRun ss l T).1 K (autoRun ss l T).2.1 (autoRun ss l T).2.2 w→stepsWp P ss K l T w
 | [],_,_,h=>h
 | .q k d g op rd::r,l,T,h=>by
  simp only [autoRun] at h
  cases hg:gw g l with
  | none=>rw [hg] at h; exact h
  | some b =>
   rw [hg] at h
   cases b with
   | true =>
    cases rd with
    | true=>exact h
    | false =>
     simp only at h
     cases hq:qauto op l with
     | none=>rw [hq] at h; exact h
     | some v =>
      rw [hq] at h
      simp only [stepsWp]
      refine gcase_true hg ⟨v,qauto_sound hq w,?_⟩
      cases d with
      | some d=>exact auto_sound r _ T h
      | none=>exact auto_sound r _ T h
   | false =>
    simp only [stepsWp]
    refine gcase_false hg ?_
    cases d with
    | some d=>exact auto_sound r _ T h
    | none=>exact auto_sound r _ T h
 | .e d g op pend::r,l,T,h=>by
  simp only [autoRun] at h
  cases hg:gw g l with
  | none=>rw [hg] at h; exact h
  | some b =>
   rw [hg] at h
   cases b with
   | true=>exact h
   | false =>
    simp only [stepsWp]
    refine gcase_false hg ?_
    cases d with
    | some d=>exact auto_sound r _ T h
    | none=>exact auto_sound r _ T h
theorem autoStop_sound (st:Nat):∀ (ss:List Step) (l:Env) (T:Facts),stepsWp P (autoStop st ss l T).1 K (autoStop st ss l T).2.1 (autoStop st ss l T).2.2 w→stepsWp P ss K l T w
 | [],_,_,h=>h
 | .q k d g op rd::r,l,T,h=>by
  simp only [autoStop] at h
  cases hga:guardAt st g with
  | true=>rw [hga] at h; exact h
  | false =>
   rw [hga] at h
   simp only at h
   cases hg:gw g l with
   | none=>rw [hg] at h; exact h
   | some b =>
    rw [hg] at h
    cases b with
    | true =>
     cases rd with
     | true=>exact h
     | false =>
      simp only at h
      cases hq:qauto op l with
      | none=>rw [hq] at h; exact h
      | some v =>
       rw [hq] at h
       simp only [stepsWp]
       refine gcase_true hg ⟨v,qauto_sound hq w,?_⟩
       cases d with
       | some d=>exact autoStop_sound st r _ T h
       | none=>exact autoStop_sound st r _ T h
    | false =>
     simp only [stepsWp]
     refine gcase_false hg ?_
     cases d with
     | some d=>exact autoStop_sound st r _ T h
     | none=>exact autoStop_sound st r _ T h
 | .e d g op pend::r,l,T,h=>by
  simp only [autoStop] at h
  cases hga:guardAt st g with
  | true=>rw [hga] at h; exact h
  | false =>
   rw [hga] at h
   simp only at h
   cases hg:gw g l with
   | none=>rw [hg] at h; exact h
   | some b =>
    rw [hg] at h
    cases b with
    | true=>exact h
    | false =>
     simp only [stepsWp]
     refine gcase_false hg ?_
     cases d with
     | some d=>exact autoStop_sound st r _ T h
     | none=>exact autoStop_sound st r _ T h
theorem auto_to {ss1:List Step} (h0:autoRun ss l T=(ss1,l1,T1)) (h:stepsWp P ss1 K l1 T1 w):stepsWp P ss K l T w:=by
 apply auto_sound; rw [h0]; exact h
theorem s_end (h0:autoRun ss l T=([],l1,T1)) (h:K l1 w):stepsWp P ss K l T w:=auto_to h0 h
theorem s_q {op:QOp} {v:Value} (h0:autoRun ss l T=(.q k d g op rd::r,l1,T1)) (hg:gw g l1=some true) (hy:op.Y P l1 v w)
  (h:stepsWp P r K (dpush d v l1) (bif rd then (k,op.Y P l1 v)::T1 else T1) w):stepsWp P ss K l T w :=
 auto_to h0 (by simp only [stepsWp]; exact gcase_true hg ⟨v,hy,h⟩)
theorem s_ld {x:Operand} {p:Addr} {v:Value} {d:Nat} (h0:autoRun ss l T=(.q k (some d) g (.ld x) true::r,l1,T1)) (hg:gw g l1=some true) (hx:ev l1 x=some (.pointer (some p))) (hc:w.cell? p=some v)
  (h:stepsWp P r K ((d,v)::l1) ((k,(QOp.ld x).Y P l1 v)::T1) w):stepsWp P ss K l T w :=
 s_q h0 hg ⟨p,hx,hc⟩ h
theorem s_ldn {x:Operand} {n:Nat} {p:Addr} {vs:List Value} {d:Nat} (h0:autoRun ss l T=(.q k (some d) g (.ldn x n) true::r,l1,T1)) (hg:gw g l1=some true) (hx:ev l1 x=some (.pointer (some p)))
  (hn:vs.length=n) (hc:∀ i,i<n→w.cell? (p.add i)=vs[i]?)
  (h:stepsWp P r K ((d,.agg vs.toArray)::l1) ((k,(QOp.ldn x n).Y P l1 (.agg vs.toArray))::T1) w):stepsWp P ss K l T w :=
 s_q h0 hg ⟨p,vs.toArray,hx,by simpa using hn,fun i hi=>by simpa using hc i hi,rfl⟩ h
theorem s_idx {x i:Operand} {sz b o n c:Nat} {j:Int} {d:Nat} {kd:IntKind} (h0:autoRun ss l T=(.q k (some d) g (.idx x i sz) false::r,l1,T1)) (hg:gw g l1=some true) (hx:ev l1 x=some (.slice (some ⟨b,o,none⟩) n c))
  (hi:ev l1 i=some (.int kd j)) (h1:0≤j) (h2:j<(n:Int)) (h:stepsWp P r K ((d,.pointer (some ⟨b,o+j.toNat*sz,none⟩))::l1) T1 w):stepsWp P ss K l T w :=
 s_q h0 hg ⟨_,n,c,kd,j,hx,hi,h1,h2,rfl⟩ (by rw [add_none]; exact h)
theorem wrap64_id {n:Int} (h1 : -9223372036854775808≤n) (h2:n≤9223372036854775807):IntKind.i64.wrap n=n:=IntWalk.i64_in n ⟨h1,by omega⟩
theorem s_slc {x:Operand} {lo hi:Option Operand} {sz n c lo' hi':Nat} {p:Option Addr} {v:Value} {d:Nat} (h0:autoRun ss l T=(.q k (some d) g (.slc x lo hi sz) false::r,l1,T1)) (hg:gw g l1=some true)
  (hx:ev l1 x=some (.slice p n c)) (h1:obound l1 lo 0 lo') (h2:obound l1 hi n hi') (h3:lo'≤hi') (h4:hi'≤c)
  (hv:Value.slice (if c=lo' then p else p.map (·.add (lo'*sz))) (hi'-lo') (c-lo')=v) (h:stepsWp P r K ((d,v)::l1) T1 w):stepsWp P ss K l T w :=
 s_q h0 hg ⟨p,n,c,lo',hi',hx,h1,h2,h3,h4,hv.symm⟩ h
theorem s_raw {o:Oper} {v:Value} {d:Nat} (h0:autoRun ss l T=(.q k (some d) g (.raw o) true::r,l1,T1)) (hg:gw g l1=some true) (hy:(QOp.raw o).Y P l1 v w)
  (h:stepsWp P r K ((d,v)::l1) ((k,(QOp.raw o).Y P l1 v)::T1) w):stepsWp P ss K l T w:=s_q h0 hg hy h
def headGuard:List Step→Option Nat
 | .q _ _ (some (s,_)) _ _::_=>some s
 | .e _ (some (s,_)) _ _::_=>some s
 | _=>none
theorem Sub.trans {a b c:Env} (h:Sub a b) (k:Sub b c):Sub a c:=fun t v ht=>k t v (h t v ht)
theorem gcase_sub {s:Nat} {want b:Bool} {run skip:Env→Prop} (hb:eget l s=some (.bool b)) (h:gcase (some (s,want)) ((s,.bool b)::l) run skip):gcase (some (s,want)) l run skip:=by
 have hs:Sub ((s,.bool b)::l) l:=Sub.cons hb (Sub.refl l)
 simp only [gcase,hb] at *
 have e1:eget ((s,.bool b)::l) s=some (.bool b):=by rw [eget_cons,if_pos rfl]
 simp only [e1] at h
 exact ⟨fun e=>let ⟨l',h1,h2⟩:=h.1 e; ⟨l',h1.trans hs,h2⟩,fun e=>let ⟨l',h1,h2⟩:=h.2 e; ⟨l',h1.trans hs,h2⟩⟩
theorem s_split (s:Nat) {b:Bool} {ss1:List Step} (h0:autoStop s ss l T=(ss1,l1,T1)) (hh:headGuard ss1=some s) (hb:eget l1 s=some (.bool b))
  (ht:b=true→stepsWp P ss1 K ((s,.bool true)::l1) T1 w) (hf:b=false→stepsWp P ss1 K ((s,.bool false)::l1) T1 w):stepsWp P ss K l T w:=by
 apply autoStop_sound s
 rw [h0]
 have key:stepsWp P ss1 K ((s,.bool b)::l1) T1 w:=by
  cases b
  ·exact hf rfl
  ·exact ht rfl
 cases ss1 with
 | nil=>cases hh
 | cons st r =>
  cases st with
  | q k d g op rd =>
   cases g with
   | none=>cases hh
   | some sw=>obtain ⟨s',want⟩:=sw; cases hh; simp only [stepsWp] at *; exact gcase_sub hb key
  | e d g op pend =>
   cases g with
   | none=>cases hh
   | some sw=>obtain ⟨s',want⟩:=sw; cases hh; simp only [stepsWp] at *; exact gcase_sub hb key
theorem s_e {op:EOp} (h0:autoRun ss l T=(.e d g op pend::r,l1,T1)) (hg:gw g l1=some true)
  (h:op.W P (fun v w'=>pendOk T1 w w' pend∧stepsWp P r K (dpush d v l1) T1 w') l1 w):stepsWp P ss K l T w :=
 auto_to h0 (by simp only [stepsWp]; exact gcase_true hg h)
theorem s_st {x v:Operand} {p:Addr} {u:Value} (h0:autoRun ss l T=(.e none g (.st x v) pend::r,l1,T1)) (hg:gw g l1=some true) (hx:ev l1 x=some (.pointer (some p))) (hv:ev l1 v=some u) (hu:one u=true)
  (hc:(w.cell? p).isSome=true) (hf:w.frozen? p=false) (hp:pendOk T1 w (w.setCell p u) pend) (h:stepsWp P r K l1 T1 (w.setCell p u)):stepsWp P ss K l T w :=
 s_e h0 hg ⟨p,u,hx,hv,hu,hc,hf,hp,h⟩
theorem s_stn {x v:Operand} {n:Nat} {p:Addr} {vs:List Value} (h0:autoRun ss l T=(.e none g (.stn x v n) pend::r,l1,T1)) (hg:gw g l1=some true) (hx:ev l1 x=some (.pointer (some p))) (hv:ev l1 v=some (.agg vs.toArray)) (hn:vs.length=n)
  (hu:∀ u∈vs,one u=true) (hc:∀ i,i<n→(w.cell? (p.add i)).isSome=true∧w.frozen? (p.add i)=false) (hp:pendOk T1 w (putCells w p 0 vs) pend) (h:stepsWp P r K l1 T1 (putCells w p 0 vs)):stepsWp P ss K l T w :=
 s_e h0 hg ⟨p,vs.toArray,hx,hv,by simpa using hn,by simpa using hu,hc,hp,h⟩
theorem s_new {t:TypeId} {z:List Value} {d:Nat} (h0:autoRun ss l T=(.e (some d) g (.new t z) pend::r,l1,T1)) (hg:gw g l1=some true) (hp:pendOk T1 w (w.alloc (.cells z.toArray t)) pend)
  (h:stepsWp P r K ((d,.pointer (some ⟨w.heap.size,0,none⟩))::l1) T1 (w.alloc (.cells z.toArray t))):stepsWp P ss K l T w :=
 s_e h0 hg ⟨hp,h⟩
theorem s_box {t:TypeId} {x:Operand} {u:Value} {d:Nat} (h0:autoRun ss l T=(.e (some d) g (.box t x) pend::r,l1,T1)) (hg:gw g l1=some true) (hx:ev l1 x=some u) (hp:pendOk T1 w (w.alloc (.cells u.cells t)) pend)
  (h:stepsWp P r K ((d,.pointer (some ⟨w.heap.size,0,none⟩))::l1) T1 (w.alloc (.cells u.cells t))):stepsWp P ss K l T w :=
 s_e h0 hg ⟨u,hx,hp,h⟩
theorem s_bs1 {e:TypeId} {n:Nat} {x:Operand} {u:Value} {d:Nat} (h0:autoRun ss l T=(.e (some d) g (.bs1 e n x) pend::r,l1,T1)) (hg:gw g l1=some true) (hx:ev l1 x=some u) (hn:u.cells.size=n) (hp:pendOk T1 w (w.alloc (.cells u.cells e)) pend)
  (h:stepsWp P r K ((d,.slice (some ⟨w.heap.size,0,none⟩) 1 1)::l1) T1 (w.alloc (.cells u.cells e))):stepsWp P ss K l T w :=
 s_e h0 hg ⟨u,hx,hn,hp,h⟩
theorem s_call {f:FuncId} {args:List Operand} {vs:List Value} {R:Value→World→Prop} {d:Nat} (h0:autoRun ss l T=(.e (some d) g (.call f args) pend::r,l1,T1)) (hg:gw g l1=some true) (hx:evs l1 args=some vs)
  (hd:Does P f vs.toArray w R) (h:∀ v w',R v w'→pendOk T1 w w' pend∧stepsWp P r K ((d,v)::l1) T1 w'):stepsWp P ss K l T w :=
 s_e h0 hg ⟨vs,hx,hd.mono h⟩
theorem s_rawE {o:Oper} (h0:autoRun ss l T=(.e d g (.raw o) pend::r,l1,T1)) (hg:gw g l1=some true)
  (h:(EOp.raw o).W P (fun v w'=>pendOk T1 w w' pend∧stepsWp P r K (dpush d v l1) T1 w') l1 w):stepsWp P ss K l T w:=s_e h0 hg h
end
def pickS:List Nat→Env→Env→Option Env
 | [],_,acc=>some acc
 | t::ts,l,acc=>match eget l t with
  | some v=>pickS ts l ((t,v)::acc)
  | none=>none
theorem pickS_sub:∀ {ts:List Nat} {l acc l':Env},pickS ts l acc=some l'→Sub acc l→Sub l' l
 | [],l,acc,l',h,hs=>by cases h; exact hs
 | t::ts,l,acc,l',h,hs=>by
  simp only [pickS] at h
  cases he:eget l t with
  | none=>rw [he] at h; cases h
  | some v=>rw [he] at h; exact pickS_sub h (Sub.cons he hs)
section
variable {P:Program} {Q:Exit→Env→World→Prop} {l:Env} {w:World}
theorem w_seq {a b:MC} (h:MWp P a (thenQ (fun l' w'=>∃ l'',Sub l'' l'∧MWp P b Q l'' w') Q) l w):MWp P (.seq a b) Q l w:=h
theorem w_reg {s:List Step} (h:stepsWp P s (Q .normal) l [] w):MWp P (.reg s) Q l w:=h
theorem w_rs {s:List Step} {b:MC} (h:stepsWp P s (fun l' w'=>∃ l'',Sub l'' l'∧MWp P b Q l'' w') l [] w):MWp P (.seq (.reg s) b) Q l w:=h
theorem w_skip (h:Q .normal l w):MWp P .skip Q l w:=h
theorem w_ret (h:Q .ret l w):MWp P .ret Q l w:=h
theorem w_block {id:Nat} {b:MC} (h:MWp P b (blkQ id Q) l w):MWp P (.block id b) Q l w:=h
theorem w_if {s:Nat} {x y:MC} {t:Bool} (hc:eget l s=some (.bool t)) (ht:t=true→MWp P x Q ((s,.bool true)::l) w) (hf:t=false→MWp P y Q ((s,.bool false)::l) w):MWp P (.cond (.tmp s) x y) Q l w:=⟨t,hc,ht,hf⟩
theorem w_true {s:Nat} {x y:MC} (hc:eget l s=some (.bool true)) (h:MWp P x Q ((s,.bool true)::l) w):MWp P (.cond (.tmp s) x y) Q l w:=⟨true,hc,fun _=>h,fun e=>(by cases e)⟩
theorem w_false {s:Nat} {x y:MC} (hc:eget l s=some (.bool false)) (h:MWp P y Q ((s,.bool false)::l) w):MWp P (.cond (.tmp s) x y) Q l w:=⟨false,hc,fun e=>(by cases e),fun _=>h⟩
theorem n_all {b:MC} (h:MWp P b Q l w):∃ l'',Sub l'' l∧MWp P b Q l'' w:=⟨l,Sub.refl l,h⟩
theorem n_pick {b:MC} {l':Env} (ts:List Nat) (hp:pickS ts l []=some l') (h:MWp P b Q l' w):∃ l'',Sub l'' l∧MWp P b Q l'' w:=⟨l',pickS_sub hp (Sub.nil l),h⟩
end
end Go.Tum
end
section
/-
 Memory: a block known whole; what is kept outside of some blocks; slices that own their block.
-/
namespace Go.Tum
open Go

/-- block b is a row of the cells cs,none of them frozen -/
def Blk (w:World) (b:Nat) (cs:List Value):Prop:=∃ t,w.heap[b]?=some (.cells cs.toArray t (0,0))

/-- outside of the blocks in F nothing that was there has changed -/
structure Fr (F:Nat→Prop) (w w':World):Prop where
 size:w.heap.size≤w'.heap.size
 keep:∀ b,b<w.heap.size→¬ F b→w'.heap[b]?=w.heap[b]?
 os:w'.os=w.os
 tape:w'.tape=w.tape
 output:w'.output=w.output

theorem Fr.refl (F:Nat→Prop) (w:World):Fr F w w:=⟨Nat.le_refl _,fun _ _ _=>rfl,rfl,rfl,rfl⟩
theorem Fr.trans {F G:Nat→Prop} {w w1 w2:World} (h:Fr F w w1) (k:Fr G w1 w2) (hg:∀ b,b<w.heap.size→G b→F b):Fr F w w2 :=
 ⟨Nat.le_trans h.size k.size,fun b hb hf=>(k.keep b (Nat.lt_of_lt_of_le hb h.size) fun g=>hf (hg b hb g)).trans (h.keep b hb hf),k.os.trans h.os,k.tape.trans h.tape,k.output.trans h.output⟩
theorem Fr.mono {F G:Nat→Prop} {w w':World} (h:Fr F w w') (hg:∀ b,b<w.heap.size→F b→G b):Fr G w w' :=
 ⟨h.size,fun b hb hn=>h.keep b hb fun f=>hn (hg b hb f),h.os,h.tape,h.output⟩
theorem Fr.alloc (F:Nat→Prop) (w:World) (o:Obj):Fr F w (w.alloc o) :=
 ⟨by show _≤(w.heap.push o).size; simp,fun b hb _=>by show (w.heap.push o)[b]?=_; rw [Array.getElem?_push,if_neg (by omega)],rfl,rfl,rfl⟩
theorem Fr.setCell (w:World) (p:Addr) (v:Value):Fr (·=p.block) w (w.setCell p v) :=
 ⟨by simp [World.setCell],fun b _ hn=>by simp only [World.setCell,Array.getElem?_modify]; rw [if_neg fun e=>hn e.symm],rfl,rfl,rfl⟩
theorem Fr.setObj (w:World) (r:Nat) (o:Obj):Fr (·=r) w { w with heap:=w.heap.setIfInBounds r o } :=
 ⟨by simp,fun b _ hn=>by simp only [Array.getElem?_setIfInBounds]; rw [if_neg fun e=>hn e.symm],rfl,rfl,rfl⟩
theorem Fr.blk {F:Nat→Prop} {w w':World} (h:Fr F w w') {b:Nat} {cs:List Value} (hb:Blk w b cs) (hn:¬ F b):Blk w' b cs:=by
 obtain ⟨t,ht⟩:=hb
 exact ⟨t,by rw [h.keep b (Array.getElem?_eq_some_iff.1 ht).1 hn,ht]⟩
theorem Fr.below {F:Nat→Prop} {w w':World} {B:Nat} (h:Fr F w w') (hB:B≤w.heap.size) (hf:∀ b,F b→B≤b):RowKit.Below B w w' :=
 ⟨h.os,h.tape,h.output,h.size,fun k hk=>h.keep k (by omega) fun f=>by have:=hf k f; omega⟩

theorem Blk.lt {w:World} {b:Nat} {cs:List Value} (h:Blk w b cs):b<w.heap.size:=by
 obtain ⟨t,ht⟩:=h; exact (Array.getElem?_eq_some_iff.1 ht).1
theorem Blk.cell {w:World} {b o:Nat} {cs:List Value} {v:Value} (h:Blk w b cs) (hv:cs[o]?=some v):w.cell? ⟨b,o,none⟩=some v:=by
 obtain ⟨t,ht⟩:=h
 simp only [World.cell?,ht]
 simpa using hv
theorem Blk.cellEq {w:World} {b:Nat} {cs:List Value} (h:Blk w b cs) (o:Nat):w.cell? ⟨b,o,none⟩=cs[o]?:=by
 obtain ⟨t,ht⟩:=h
 simp only [World.cell?,ht]
 simp
theorem Blk.some {w:World} {b o:Nat} {cs:List Value} (h:Blk w b cs) (ho:o<cs.length):(w.cell? ⟨b,o,none⟩).isSome=true:=by
 rw [h.cellEq]; simp [ho]
theorem Blk.frozen {w:World} {b:Nat} {cs:List Value} (h:Blk w b cs) (o:Nat):w.frozen? ⟨b,o,none⟩=false:=by
 obtain ⟨t,ht⟩:=h
 simp [World.frozen?,ht]
theorem Blk.set {w:World} {b:Nat} {cs:List Value} (h:Blk w b cs) (o:Nat) (v:Value):Blk (w.setCell ⟨b,o,none⟩ v) b (cs.set o v):=by
 obtain ⟨t,ht⟩:=h
 refine ⟨t,?_⟩
 simp only [World.setCell,Array.getElem?_modify,ht]
 simp
theorem Blk.new (w:World) (cs:List Value) (t:TypeId):Blk (w.alloc (.cells cs.toArray t)) w.heap.size cs:=⟨t,by show (w.heap.push _)[w.heap.size]?=_; simp⟩
theorem Blk.newA (w:World) (cs:Array Value) (t:TypeId):Blk (w.alloc (.cells cs t)) w.heap.size cs.toList:=⟨t,by show (w.heap.push _)[w.heap.size]?=_; simp⟩
theorem Blk.eq {w:World} {b:Nat} {cs ds:List Value} (h:Blk w b cs) (k:Blk w b ds):cs=ds:=by
 obtain ⟨t,ht⟩:=h
 obtain ⟨u,hu⟩:=k
 rw [ht] at hu
 simp only [Option.some.injEq,Obj.cells.injEq] at hu
 simpa using congrArg Array.toList hu.1
theorem Blk.sim {w w0:World} {b:Nat} {cs:List Value} (h:Blk w b cs) (hs:Sim w0 w):Blk w0 b cs:=by
 obtain ⟨t,ht⟩:=h; exact ⟨t,by rw [hs.heap]; exact ht⟩

/-- vs written over cs from k on -/
def splice (cs:List Value) (k:Nat) (vs:List Value):List Value:=cs.take k++vs++cs.drop (k+vs.length)

theorem splice_nil (cs:List Value) (k:Nat):splice cs k []=cs:=by simp [splice]
theorem splice_length {cs:List Value} {k:Nat} {vs:List Value} (h:k+vs.length≤cs.length):(splice cs k vs).length=cs.length:=by
 simp [splice]; omega
theorem splice_cons {cs:List Value} {k:Nat} {v:Value} {vs:List Value} (h:k<cs.length):splice (cs.set k v) (k+1) vs=splice cs k (v::vs):=by
 simp only [splice,List.length_cons]
 have e1:(cs.set k v).take (k+1)=cs.take k++[v]:=by
  rw [List.take_add_one]
  simp [List.take_set_of_le,h]
 have e2:(cs.set k v).drop (k+1+vs.length)=cs.drop (k+(vs.length+1)):=by
  rw [List.drop_set_of_lt (by omega)]
  congr 1
  omega
 rw [e1,e2]
 simp

theorem putCells_blk {b o:Nat}:∀ (vs:List Value) (i:Nat) (w:World) (cs:List Value),Blk w b cs→o+i+vs.length≤cs.length→Blk (putCells w ⟨b,o,none⟩ i vs) b (splice cs (o+i) vs):=by
 intro vs
 induction vs with
 | nil=>intro i w cs h _; rw [splice_nil]; exact h
 | cons v r ih =>
  intro i w cs h hl
  simp only [putCells,add_none]
  simp only [List.length_cons] at hl
  have:=ih (i+1) _ _ (h.set (o+i) v) (by simp; omega)
  rw [show o+(i+1)=o+i+1 by omega,splice_cons (by omega)] at this
  exact this

theorem putCells_fr {p:Addr}:∀ (vs:List Value) (i:Nat) (w:World),Fr (·=p.block) w (putCells w p i vs):=by
 intro vs
 induction vs with
 | nil=>intro i w; exact Fr.refl _ w
 | cons v r ih =>
  intro i w
  have hp:(p.add i).block=p.block:=by unfold Addr.add; split <;> rfl
  have h1:=Fr.setCell w (p.add i) v
  rw [hp] at h1
  exact h1.trans (ih (i+1) _) fun b _ h=>h

theorem loadCells_blk {P:Program} {w:World} {b o n:Nat} {cs:List Value} (h:Blk w b cs) (hn:o+n≤cs.length):(loadCells ⟨b,o,none⟩ n).run P w=.ok ((cs.drop o).take n).toArray w:=by
 refine loadCells_run n 0 #[] _ (by simp; omega) (fun j _ hj=>?_) (by simp)
 rw [add_none,h.cellEq]
 simp [show j<n by omega]

theorem storeCells_blk {P:Program} {w:World} {b o:Nat} {cs vs:List Value} (h:Blk w b cs) (hn:o+vs.length≤cs.length) (hv:∀ u∈vs,one u=true) :
  (storeCells ⟨b,o,none⟩ vs).run P w=.ok () (putCells w ⟨b,o,none⟩ 0 vs):=by
 refine storeCells_run _ vs 0 w hv fun j hj=>?_
 rw [add_none,Nat.zero_add]
 exact ⟨h.some (by omega),h.frozen _⟩

end Go.Tum
end
section
namespace Go.Tum
open Go
def Sl (w:World) (sz:Nat) (v:Value) (n:Nat) (cells:List Value) (F:List Nat):Prop :=
 cells.length=n*sz∧(∀ u∈cells,one u=true) ∧
 ((v=.slice none 0 0∧n=0∧F=[]) ∨
  ∃ b o c cs,v=.slice (some ⟨b,o,none⟩) n c∧F=[b]∧Blk w b cs∧o+c*sz≤cs.length∧n≤c∧(cs.drop o).take (n*sz)=cells)
def Rd (w:World) (sz:Nat) (v:Value) (n:Nat) (cells:List Value):Prop :=
 cells.length=n*sz∧(∀ u∈cells,one u=true) ∧
 (((∃ a c,v=.slice a 0 c)∧n=0)∨∃ b o c cs,v=.slice (some ⟨b,o,none⟩) n c∧Blk w b cs∧o+n*sz≤cs.length∧(cs.drop o).take (n*sz)=cells)
theorem Sl.rd {w:World} {sz:Nat} {v:Value} {n:Nat} {cells:List Value} {F:List Nat} (h:Sl w sz v n cells F):Rd w sz v n cells:=by
 obtain ⟨h1,h2,h3⟩:=h
 refine ⟨h1,h2,?_⟩
 rcases h3 with ⟨h4,h5,_⟩ | ⟨b,o,c,cs,h4,_,h5,h6,h7,h8⟩
 ·exact .inl ⟨⟨_,_,h4⟩,h5⟩
 ·have:n*sz≤c*sz:=Nat.mul_le_mul_right sz h7
  exact .inr ⟨b,o,c,cs,h4,h5,by omega,h8⟩
theorem Sl.fr {w w':World} {sz:Nat} {v:Value} {n:Nat} {cells:List Value} {F:List Nat} {G:Nat→Prop} (h:Sl w sz v n cells F) (hf:Fr G w w') (hd:∀ b∈F,¬ G b):Sl w' sz v n cells F:=by
 obtain ⟨h1,h2,h3⟩:=h
 refine ⟨h1,h2,?_⟩
 rcases h3 with h4 | ⟨b,o,c,cs,h4,rfl,h5,h6⟩
 ·exact .inl h4
 ·exact .inr ⟨b,o,c,cs,h4,rfl,hf.blk h5 (hd b (by simp)),h6⟩
theorem Sl.lt {w:World} {sz:Nat} {v:Value} {n:Nat} {cells:List Value} {F:List Nat} (h:Sl w sz v n cells F):∀ b∈F,b<w.heap.size:=by
 obtain ⟨_,_,h3⟩:=h
 rcases h3 with ⟨_,_,rfl⟩ | ⟨b,o,c,cs,h4,rfl,h5,h6⟩
 ·intro b hb; cases hb
 ·intro b' hb'; rw [List.mem_singleton] at hb'; subst hb'; exact h5.lt
theorem Sl.one {w:World} {sz:Nat} {v:Value} {n:Nat} {cells:List Value} {F:List Nat} (h:Sl w sz v n cells F):one v=true:=by
 rcases h.2.2 with ⟨rfl,_⟩ | ⟨b,o,c,cs,rfl,_⟩ <;> rfl
theorem Sl.form {w:World} {sz:Nat} {v:Value} {n:Nat} {cells:List Value} {F:List Nat} (h:Sl w sz v n cells F):∃ a c,v=.slice a n c:=by
 rcases h.2.2 with ⟨rfl,rfl,_⟩ | ⟨b,o,c,cs,rfl,_⟩
 ·exact ⟨_,_,rfl⟩
 ·exact ⟨_,_,rfl⟩
theorem Sl.nil (w:World) (sz:Nat):Sl w sz (.slice none 0 0) 0 [] []:=⟨by simp,by simp,.inl ⟨rfl,rfl,rfl⟩⟩
theorem Rd.sim {w w0:World} {sz:Nat} {v:Value} {n:Nat} {cells:List Value} (h:Rd w sz v n cells) (hs:Sim w0 w):Rd w0 sz v n cells:=by
 obtain ⟨h1,h2,h3⟩:=h
 refine ⟨h1,h2,?_⟩
 rcases h3 with h4 | ⟨b,o,c,cs,h4,h5,h6⟩
 ·exact .inl h4
 ·exact .inr ⟨b,o,c,cs,h4,h5.sim hs,h6⟩
def AppOp (s x:Operand) (sT xT ty:TypeId):Oper:=⟨none,.call ⟨.builtin .append,#[s,x],#[sT,xT]⟩,ty, "",#[],none⟩
section
variable {P:Program} {w:World} {l:Env} {K:Value→World→Prop}
theorem firstCells_rd {sz n:Nat} {v:Value} {cells:List Value} (h:Rd w sz v n cells):(Builtin.firstCells sz n v).run P w=.ok cells.toArray w:=by
 obtain ⟨h1,_,h3⟩:=h
 rcases h3 with ⟨⟨a,c,rfl⟩,rfl⟩ | ⟨b,o,c,cs,rfl,h5,h6,h7⟩
 ·have:cells=[]:=by simpa using h1
  subst this
  cases a with
  | none=>simp [Builtin.firstCells]
  | some a =>
   simp only [Builtin.firstCells,Nat.zero_mul]
   exact loadCells_run 0 0 #[] #[] rfl (fun j _ hj=>by omega) (by simp)
 ·simp only [Builtin.firstCells]
  rw [loadCells_blk h5 h6,h7]
theorem nextslicecap_le (need c:Nat) (h:c<need):Builtin.nextslicecap need c≤2*need+2048:=by
 unfold Builtin.nextslicecap
 split
 ·omega
 ·split
  ·omega
  ·have step:∀ (r k:Nat),Builtin.growBy need r k≤max k (need+(need+768) / 4):=by
    intro r
    induction r with
    | zero=>intro k; simp only [Builtin.growBy]; omega
    | succ r ih =>
     intro k
     simp only [Builtin.growBy]
     split
     ·omega
     ·have:=ih (k+(k+768) / 4); omega
   have:=step 4 c
   omega
structure ElemT (P:Program) (sT e:TypeId) (sz bytes:Nat):Prop where
 und:P.underlying sT=some (.slice e)
 info:∃ i z,P.info? e=some i∧i.size=sz∧i.bytes=bytes∧i.zero=some z∧z.cells.size=sz∧∀ u∈z.cells.toList,one u=true
theorem append_run {sT xT e:TypeId} {sz bytes n m c:Nat} {base:Option Addr} {vx:Value} {cells cells2:List Value} {ty:TypeId} (he:ElemT P sT e sz bytes) (hx:∃ e',P.underlying xT=some (.slice e'))
  (hs:Rd w sz (.slice base n c) n cells) (hr:Rd w sz vx m cells2) (hb:(2*(n+m)+2048)*bytes≤281474976710656) (hby:0<bytes) :
  ((n+m≤c∧(∀ a,base=some a→(Builtin.append_ #[sT,xT] ty #[.slice base n c,vx]).run P w=(do storeCells (a.add (n*sz)) cells2; pure (.slice base (n+m) c):Sem Value).run P w) ∧
    (base=none→(Builtin.append_ #[sT,xT] ty #[.slice base n c,vx]).run P w=.ok (.slice base (n+m) c) w)) ∨
   (c<n+m∧∃ c' zs w',n+m≤c'∧(cells++cells2++zs).length=c'*sz∧Sim w' (w.alloc (.cells (cells++cells2++zs).toArray e)) ∧
    (Builtin.append_ #[sT,xT] ty #[.slice base n c,vx]).run P w=.ok (.slice (some ⟨w.heap.size,0,none⟩) (n+m) c') w')):=by
 obtain ⟨hu,i,z,hi,h1,h2,hz,hzs,_⟩:=he
 obtain ⟨e',hx⟩:=hx
 have hl:(Builtin.lenOf vx).run P w=.ok m w:=by
  obtain ⟨_,_,h3⟩:=hr
  rcases h3 with ⟨⟨a,c,rfl⟩,rfl⟩ | ⟨b,o,c,cs,rfl,_⟩ <;> simp [Builtin.lenOf]
 have hzv:(zeroValue e).run P w=.ok z w:=by simp [zeroValue,typeInfo_run hi,hz]
 by_cases hc:n+m≤c
 ·refine .inl ⟨hc,fun a ha=>?_,fun ha=>?_⟩
  ·subst ha
   unfold Builtin.append_
   simp [run_underlying hu,run_underlying hx,sizeOf_run hi,h1,hl,hc,firstCells_rd hr]
  ·subst ha
   unfold Builtin.append_
   simp [run_underlying hu,run_underlying hx,sizeOf_run hi,h1,hl,hc,firstCells_rd hr]
 ·refine .inr ⟨by omega,?_⟩
  have hcap:=nextslicecap_le (n+m) c (by omega)
  have hle:Builtin.nextslicecap (n+m) c*bytes≤281474976710656:=Nat.le_trans (Nat.mul_le_mul_right _ hcap) hb
  have hnm:(2*(n+m)+2048)*1≤(2*(n+m)+2048)*bytes:=Nat.mul_le_mul_left _ hby
  have hq:(Question.appendCap (n+m) c e).forced=false:=rfl
  have hbig:¬ (IntKind.i64.max<((n:Int)+(m:Int))):=by
   have:IntKind.i64.max=9223372036854775807:=rfl
   rw [this]; omega
  let t:=w.tape w.drawn (Question.appendCap (n+m) c e)
  let c':=(n+m)+t % (2 ^ 63-(n+m))
  have hsim:Sim w.drew w:=⟨rfl,rfl,rfl,rfl⟩
  have f1:(Builtin.firstCells sz n (.slice base n c)).run P w.drew=.ok cells.toArray w.drew:=firstCells_rd (hs.sim hsim)
  have f2:(Builtin.firstCells sz m vx).run P w.drew=.ok cells2.toArray w.drew:=firstCells_rd (hr.sim hsim)
  have hzv1:(zeroValue e).run P w.drew=.ok z w.drew:=by simp [zeroValue,typeInfo_run hi,hz]
  refine ⟨c',(Builtin.zeroCells z.cells (c'-(n+m))).toList,w.drew.alloc (.cells (cells.toArray++cells2.toArray++Builtin.zeroCells z.cells (c'-(n+m))) e),Nat.le_add_right _ _,?_,?_,?_⟩
  ·obtain ⟨k1,_,_⟩:=hs
   obtain ⟨k2,_,_⟩:=hr
   simp only [List.length_append,k1,k2,Builtin.zeroCells]
   simp only [Array.length_toList,Array.size_map,Array.size_range,hzs]
   have e1:c'-(n+m)+(n+m)=c':=Nat.sub_add_cancel (Nat.le_add_right _ _)
   rw [← Nat.add_mul,← Nat.add_mul]
   congr 1
   omega
  ·refine ⟨?_,rfl,rfl,rfl⟩
   show w.heap.push _=w.heap.push _
   congr 2
   simp
  ·unfold Builtin.append_
   have hle':¬ (281474976710656<Builtin.nextslicecap (n+m) c*bytes):=by omega
   have hne:bytes≠0:=by omega
   simp [run_underlying hu,run_underlying hx,sizeOf_run hi,h1,hl,hc,typeInfo_run hi,h2,hne,hle',newRow]
   rw [if_neg (by rw [hq]; simp),f1]
   simp only [Result.andThen_ok]
   rw [f2]
   simp only [Result.andThen_ok]
   rw [hzv1]
   simp only [Result.andThen_ok,Result.ok.injEq]
   refine ⟨rfl,?_⟩
   congr 2
   show cells.toArray++(cells2.toArray++Builtin.zeroCells z.cells (c'-(n+m)))=_
   generalize Builtin.zeroCells z.cells (c'-(n+m))=Z
   rw [← Array.append_assoc]
   simp
theorem take_splice {cs a b:List Value} {o k:Nat} (hk:o+k+b.length≤cs.length) (ha:(cs.drop o).take k=a):((splice cs (o+k) b).drop o).take (k+b.length)=a++b:=by
 have hl:k≤(cs.drop o).length:=by simp; omega
 unfold splice
 have e1:cs.take (o+k)=cs.take o++a:=by rw [List.take_add,ha]
 rw [e1]
 have ho:(cs.take o).length=o:=by simp; omega
 have hal:a.length=k:=by rw [← ha]; simp; omega
 rw [List.append_assoc,List.append_assoc,List.drop_append_of_le_length (by omega),List.drop_eq_nil_of_le (by omega),List.nil_append,← List.append_assoc,List.take_append_of_le_length (by simp; omega),List.take_of_length_le (by simp; omega)]
theorem append_W {s x:Operand} {sT xT ty e:TypeId} {sz bytes n m:Nat} {vs vx:Value} {cells cells2:List Value} {F:List Nat} (he:ElemT P sT e sz bytes) (hxT:∃ e',P.underlying xT=some (.slice e'))
  (hs:ev l s=some vs) (hx:ev l x=some vx) (hS:Sl w sz vs n cells F) (hR:Rd w sz vx m cells2) (hb:(2*(n+m)+2048)*bytes≤281474976710656) (hby:0<bytes)
  (h:∀ v' w' F',Sl w' sz v' (n+m) (cells++cells2) F'→Fr (·∈F) w w'→(∀ b∈F',b∈F∨w.heap.size≤b)→K v' w'):(EOp.raw (AppOp s x sT xT ty)).W P K l w:=by
 intro ρ w0 ha hsim
 have hexec:execOp ρ (AppOp s x sT xT ty)=(do let r ← Builtin.append_ #[sT,xT] ty #[vs,vx]; pure (Next.value r)):=by
  simp [execOp,AppOp,resolve,invoke,builtin,ha s _ hs,ha x _ hx]
 have hlen:(cells++cells2).length=(n+m)*sz:=by rw [List.length_append,hS.1,hR.1,Nat.add_mul]
 have hone:∀ u∈cells++cells2,one u=true:=by
  intro u hu
  rcases List.mem_append.1 hu with hu | hu
  ·exact hS.2.1 u hu
  ·exact hR.2.1 u hu
 obtain ⟨base,c,rfl⟩:∃ base c,vs=.slice base n c:=by
  rcases hS.2.2 with ⟨h1,h2,_⟩ | ⟨b,o,c,cs,h1,_⟩
  ·exact ⟨none,0,by rw [h1,h2]⟩
  ·exact ⟨_,_,h1⟩
 have hrun:=append_run (P:=P) (w:=w0) (ty:=ty) he hxT (hS.rd.sim hsim) (hR.sim hsim) hb hby
 rcases hrun with ⟨hle,h1,h2⟩ | ⟨hlt,c',zs,w',hc',hlz,hsw,hr⟩
 ·rcases hS.2.2 with ⟨e1,rfl,rfl⟩ | ⟨b,o,c1,cs,e1,rfl,hB,hlen1,hn,hcells⟩
  ·cases e1
   have hm:m=0:=by omega
   subst hm
   have hc2:cells2=[]:=by simpa using hR.1
   have hc1:cells=[]:=by simpa using hS.1
   subst hc2; subst hc1
   refine Eff.value (v:=.slice none 0 0) (w':=w0) ?_ ⟨w,hsim,h _ w [] (Sl.nil w sz) (Fr.refl _ w) (fun b hb=>by cases hb)⟩
   rw [hexec]
   simp [h2 rfl]
  ·cases e1
   have hcl:o+n*sz+cells2.length≤cs.length:=by
    rw [hR.1]
    have:(n+m)*sz≤c*sz:=Nat.mul_le_mul_right sz hle
    rw [Nat.add_mul] at this
    omega
   have hst:=storeCells_blk (P:=P) (w:=w0) (hB.sim hsim) hcl hR.2.1
   refine Eff.value (v:=.slice (some ⟨b,o,none⟩) (n+m) c) (w':=putCells w0 ⟨b,o+n*sz,none⟩ 0 cells2) ?_ ⟨putCells w ⟨b,o+n*sz,none⟩ 0 cells2,putCells_sim hsim _ _ _,h _ _ [b] ⟨hlen,hone,.inr ⟨b,o,c,splice cs (o+n*sz) cells2,rfl,rfl,putCells_blk _ 0 _ _ hB hcl,?_,hle,?_⟩⟩ ?_ ?_⟩
   ·rw [hexec]
    simp only [Sem.run_bind,h1 _ rfl,add_none,hst]
    simp
   ·rw [splice_length hcl]; exact hlen1
   ·have:=take_splice (o:=o) hcl hcells
    rw [hR.1] at this
    rw [Nat.add_mul]; exact this
   ·exact (putCells_fr (p:=⟨b,o+n*sz,none⟩) cells2 0 w).mono fun x _ hx=>by rw [List.mem_singleton]; exact hx
   ·intro x hx; exact .inl hx
 ·refine Eff.value (v:=.slice (some ⟨w0.heap.size,0,none⟩) (n+m) c') (w':=w') ?_ ⟨w.alloc (.cells (cells++cells2++zs).toArray e),hsw.trans (hsim.push _),?_⟩
  ·rw [hexec]
   simp [hr]
  ·rw [hsim.heap]
   refine h _ _ [w.heap.size] ⟨hlen,hone,.inr ⟨_,0,c',cells++cells2++zs,rfl,rfl,Blk.new w _ e,by omega,hc',?_⟩⟩ (Fr.alloc _ w _) ?_
   ·rw [List.drop_zero,← hlen,List.take_append_of_le_length (Nat.le_refl _),List.take_length]
   ·intro x hx; rw [List.mem_singleton] at hx; exact .inr (by omega)
end
end Go.Tum
end
section
namespace Go.Tum
open Go
section
variable {κ:Type} [DecidableEq κ]
def mkE (enc:κ→Value) (x:κ × Value × Nat):MapEntry:=⟨enc x.1,x.2.1,x.2.2⟩
def Mp (enc:κ→Value) (w:World) (b:Nat) (m:List (κ × Value × Nat)) (c:Nat):Prop:=w.heap[b]?=some (.map (m.map (mkE enc)).toArray c)
structure Wf (m:List (κ × Value × Nat)) (c:Nat):Prop where
 keys:(m.map (·.1)).Nodup
 borns:(m.map (·.2.2)).Nodup
 past:∀ x∈m,x.2.2<c
def mfind (m:List (κ × Value × Nat)) (k:κ):Option (κ × Value × Nat):=m.find? fun x=>decide (x.1=k)
def mix (m:List (κ × Value × Nat)) (k:κ):Option Nat:=m.findIdx? fun x=>decide (x.1=k)
def mput (m:List (κ × Value × Nat)) (k:κ) (v:Value):List (κ × Value × Nat):=m.map fun x=>if x.1=k then (x.1,v,x.2.2) else x
def mdel (m:List (κ × Value × Nat)) (k:κ):List (κ × Value × Nat):=m.filter fun x => !decide (x.1=k)
structure KeyLaw (P:Program) (K:TypeId) (enc:κ→Value):Prop where
 check:∀ e k w,(Instr.checkKey e 10000 K (enc k)).run P w=.ok () w
 same:∀ k,Instr.sameBits 10000 (enc k) (enc k)=true
 find:∀ (k:κ) (m:List (κ × Value × Nat)) w,(Instr.findKey K (enc k) (m.map (mkE enc))).run P w=.ok (((mix m k).bind fun i=>m[i]?.map fun x=>(i,x.2.1))) w
omit [DecidableEq κ] in
theorem Mp.lt {enc:κ→Value} {w:World} {b:Nat} {m:List (κ × Value × Nat)} {c:Nat} (h:Mp enc w b m c):b<w.heap.size:=(Array.getElem?_eq_some_iff.1 h).1
omit [DecidableEq κ] in
theorem Mp.fr {enc:κ→Value} {w w':World} {b:Nat} {m:List (κ × Value × Nat)} {c:Nat} {F:Nat→Prop} (h:Mp enc w b m c) (hf:Fr F w w') (hn:¬ F b):Mp enc w' b m c:=(hf.keep b h.lt hn).trans h
omit [DecidableEq κ] in
theorem Mp.sim {enc:κ→Value} {w w0:World} {b:Nat} {m:List (κ × Value × Nat)} {c:Nat} (h:Mp enc w b m c) (hs:Sim w0 w):Mp enc w0 b m c:=by
 unfold Mp at *; rw [hs.heap]; exact h
omit [DecidableEq κ] in
theorem Mp.new (enc:κ→Value) (w:World):Mp enc (w.alloc (.map #[] 0)) w.heap.size [] 0:=by
 show (w.heap.push _)[w.heap.size]?=_; simp
theorem mix_find {m:List (κ × Value × Nat)} {k:κ}:((mix m k).bind fun i=>m[i]?)=mfind m k:=by
 unfold mix mfind
 induction m with
 | nil=>rfl
 | cons x r ih =>
  simp only [List.findIdx?_cons,List.find?_cons]
  by_cases h:x.1=k
  ·simp [h]
  ·simp only [h,decide_false,Bool.false_eq_true,if_false]
   rw [← ih]
   cases List.findIdx? (fun x=>decide (x.1=k)) r <;> simp
theorem mix_some {m:List (κ × Value × Nat)} {k:κ} {i:Nat} (h:mix m k=some i):∃ x,m[i]?=some x∧x.1=k∧mfind m k=some x:=by
 have h2 := @mix_find κ _ m k
 rw [h] at h2
 simp only [Option.bind_some] at h2
 cases hx:m[i]? with
 | none =>
  have:=(List.findIdx?_eq_some_iff_findIdx_eq.1 h).1
  simp at hx; omega
 | some x =>
  refine ⟨x,rfl,?_,by rw [← h2,hx]⟩
  rw [hx] at h2
  have:=List.find?_some h2.symm
  simpa using this
theorem mix_none {m:List (κ × Value × Nat)} {k:κ} (h:mix m k=none):mfind m k=none∧∀ x∈m,x.1≠k:=by
 have h2 := @mix_find κ _ m k
 rw [h] at h2
 refine ⟨h2.symm,fun x hx e=>?_⟩
 have:=List.find?_eq_none.1 h2.symm x hx
 simp [e] at this
end
section
variable {κ:Type} [DecidableEq κ] {P:Program} {K E mT:TypeId} {enc:κ→Value} {w:World} {b c:Nat} {m:List (κ × Value × Nat)} {k:κ}
theorem getObj_run {r:Nat} {es:Array MapEntry} {c:Nat} (h:w.heap[r]?=some (.map es c)):(getObj r).run P w=.ok (.map es c) w:=by
 simp [getObj,Sem.run,h]
theorem setObj_run {r:Nat} {es:Array MapEntry} {c:Nat} {o:Obj} (h:w.heap[r]?=some (.map es c)):(setObj r o).run P w=.ok () { w with heap:=w.heap.setIfInBounds r o }:=by
 simp [setObj,Sem.run,h]
theorem find_run (hk:KeyLaw P K enc):(Instr.findKey K (enc k) (m.map (mkE enc)).toArray.toList).run P w=.ok (((mix m k).bind fun i=>m[i]?.map fun x=>(i,x.2.1))) w:=hk.find k m w
theorem lookup_run {z:Value} (hT:P.underlying mT=some (.map K E)) (hk:KeyLaw P K enc) (hz:(zeroValue E).run P w=.ok z w) (hm:Mp enc w b m c) :
  (Instr.lookup mT (.map (some b)) (enc k) false).run P w=.ok (((mfind m k).map (·.2.1)).getD z) w:=by
 unfold Instr.lookup
 simp only [Sem.run_bind,run_underlying hT,Result.andThen_ok,getObj_run hm,Sem.run_pure,hk.check,find_run hk]
 cases h:mix m k with
 | none=>simp [(mix_none h).1,hz]
 | some i =>
  obtain ⟨x,h1,h2,h3⟩:=mix_some h
  simp [h1,h3]
theorem lookup_ok_run {z:Value} (hT:P.underlying mT=some (.map K E)) (hk:KeyLaw P K enc) (hz:(zeroValue E).run P w=.ok z w) (hm:Mp enc w b m c) :
  (Instr.lookup mT (.map (some b)) (enc k) true).run P w=.ok (.tuple #[((mfind m k).map (·.2.1)).getD z,.bool (mfind m k).isSome]) w:=by
 unfold Instr.lookup
 simp only [Sem.run_bind,run_underlying hT,Result.andThen_ok,getObj_run hm,Sem.run_pure,hk.check,find_run hk]
 cases h:mix m k with
 | none=>simp [(mix_none h).1,hz]
 | some i =>
  obtain ⟨x,h1,h2,h3⟩:=mix_some h
  simp [h1,h3]
omit [DecidableEq κ] in
theorem len_run {ty:TypeId} (hT:P.underlying mT=some (.map K E)) (hm:Mp enc w b m c):(Builtin.len_ #[mT] ty #[.map (some b)]).run P w=.ok (.int .i64 m.length) w:=by
 unfold Builtin.len_
 simp [run_underlying hT,getObj_run hm,goInt]
def ment (m:List (κ × Value × Nat)) (k:κ) (z:Value) (c:Nat):(κ × Value × Nat) × List (κ × Value × Nat) × Nat :=
 match mfind m k with
 | some x=>(x,m,c)
 | none=>((k,z,c),m++[(k,z,c)],c+1)
theorem stays_run (hk:KeyLaw P K enc):(Instr.keyThatStays (enc k) (enc k)).run P w=.ok (enc k) w:=by
 unfold Instr.keyThatStays
 rw [if_pos (hk.same k)]
 rfl
omit [DecidableEq κ] in
theorem modify_key {i:Nat} {x:κ × Value × Nat} (h1:m[i]?=some x) (h2:x.1=k):(List.map (mkE enc) m).modify i (fun e=>{ key:=enc k,val:=e.val,born:=e.born })=m.map (mkE enc):=by
 apply List.ext_getElem?
 intro j
 simp only [List.getElem?_modify,List.getElem?_map]
 by_cases hj:i=j
 ·subst hj; simp [h1,mkE,h2]
 ·simp [hj]
theorem mapEntry_run {z:Value} (hT:P.underlying mT=some (.map K E)) (hk:KeyLaw P K enc) (hz:(zeroValue E).run P w=.ok z w) (hm:Mp enc w b m c) :
  (Instr.mapEntry mT (.map (some b)) (enc k)).run P w =
   .ok (.tuple #[(ment m k z c).1.2.1,.int .i64 (ment m k z c).1.2.2]) { w with heap:=w.heap.setIfInBounds b (.map ((ment m k z c).2.1.map (mkE enc)).toArray (ment m k z c).2.2) }:=by
 unfold Instr.mapEntry ment
 simp only [Sem.run_bind,run_underlying hT,Result.andThen_ok,getObj_run hm,hk.check,find_run hk]
 cases h:mix m k with
 | none =>
  simp only [Option.bind_none,(mix_none h).1,Sem.run_bind,hz,Result.andThen_ok,setObj_run hm,Sem.run_pure,goInt]
  simp [mkE]
 | some i =>
  obtain ⟨x,h1,h2,h3⟩:=mix_some h
  have hi:i<m.length:=(List.getElem?_eq_some_iff.1 h1).1
  have hx:m[i]=x:=by simpa [List.getElem?_eq_getElem hi] using h1
  simp only [h1,h3,Option.bind_some,Option.map_some,Sem.run_bind,Sem.run_pure,goInt]
  simp [h1,mkE,h2]
  rw [stays_run hk]
  simp only [Result.andThen_ok]
  rw [modify_key h1 h2,setObj_run hm]
  rfl
omit [DecidableEq κ] in
theorem findIdx_born {i:Nat} {x:κ × Value × Nat} (hw:Wf m c) (hx:m[i]?=some x):(m.map (mkE enc)).toArray.findIdx? (fun e=>(e.born:Int) == (x.2.2:Int))=some i:=by
 obtain ⟨hi,hxi⟩:=List.getElem?_eq_some_iff.1 hx
 rw [List.findIdx?_toArray]
 rw [List.findIdx?_eq_some_iff_findIdx_eq]
 simp only [List.length_map]
 refine ⟨hi,?_⟩
 rw [List.findIdx_eq (by simpa using hi)]
 constructor
 ·simp [mkE,hxi]
 ·intro j hj
  have hjm:j<m.length:=by omega
  simp only [List.getElem_map,mkE,beq_eq_false_iff_ne,ne_eq]
  intro e
  have:=(List.getElem_inj (h₀:=by simpa using hjm) (h₁:=by simpa using hi) hw.borns).1 (by simp [hxi]; exact Int.ofNat_inj.1 e)
  omega
theorem modify_val {i:Nat} {x:κ × Value × Nat} (hw:Wf m c) (hx:m[i]?=some x) (v:Value):(m.map (mkE enc)).toArray.modify i (fun e=>{ e with val:=v })=((mput m x.1 v).map (mkE enc)).toArray:=by
 obtain ⟨hi,hxi⟩:=List.getElem?_eq_some_iff.1 hx
 apply Array.ext_getElem?
 intro j
 rw [Array.getElem?_modify]
 by_cases hj:i=j
 ·subst hj
  simp [mput,hx,mkE]
 ·simp only [hj,if_false]
  simp only [mput,List.getElem?_toArray,List.getElem?_map]
  cases hmj:m[j]? with
  | none=>simp
  | some y =>
   obtain ⟨hjl,hyj⟩:=List.getElem?_eq_some_iff.1 hmj
   have hne:y.1≠x.1:=by
    intro e
    have:=(List.getElem_inj (h₀:=by simpa using hjl) (h₁:=by simpa using hi) hw.keys).1 (by simp [hxi,hyj,e])
    omega
   simp [hne]
theorem entryStore_run {i:Nat} {x:κ × Value × Nat} {v:Value} (hm:Mp enc w b m c) (hw:Wf m c) (hx:m[i]?=some x) :
  (Instr.entryStore mT (.map (some b)) (.int .i64 x.2.2) v).run P w=.ok () { w with heap:=w.heap.setIfInBounds b (.map ((mput m x.1 v).map (mkE enc)).toArray c) }:=by
 unfold Instr.entryStore
 simp only [Sem.run_bind,getObj_run hm,Result.andThen_ok,asInt,asIntOf,Sem.run_pure,findIdx_born hw hx,modify_val hw hx,setObj_run hm]
theorem erase_key {i:Nat} (hw:Wf m c) (hi:mix m k=some i):(m.map (mkE enc)).toArray.eraseIdxIfInBounds i=((mdel m k).map (mkE enc)).toArray:=by
 obtain ⟨x,hx,hxk,hfd⟩:=mix_some hi
 clear hfd
 obtain ⟨hil,hxi⟩:=List.getElem?_eq_some_iff.1 hx
 have e1:m.eraseIdx i=mdel m k:=by
  clear hi
  have hk:=hw.keys
  clear hw
  unfold mdel
  induction m generalizing i with
  | nil=>simp at hil
  | cons y r ih =>
   simp only [List.map_cons,List.nodup_cons] at hk
   cases i with
   | zero =>
    simp only [List.getElem_cons_zero] at hxi
    subst hxi
    simp only [List.eraseIdx_cons_zero,List.filter_cons,hxk,decide_true,Bool.not_true,Bool.false_eq_true,if_false]
    rw [List.filter_eq_self.2]
    intro z hz
    have:z.1≠k:=by
     intro e
     exact hk.1 (by rw [hxk,← e]; exact List.mem_map_of_mem hz)
    simp [this]
   | succ i =>
    have hyk:y.1≠k:=by
     intro e
     simp only [List.getElem_cons_succ] at hxi
     exact hk.1 (by rw [e,← hxk,← hxi]; exact List.mem_map_of_mem (List.getElem_mem _))
    simp only [List.eraseIdx_cons_succ,List.filter_cons,hyk,decide_false,Bool.not_false,if_true]
    rw [ih (i:=i) (by simpa using hx) (by simpa using hil) (by simpa using hxi) hk.2]
 rw [← e1]
 simp only [Array.eraseIdxIfInBounds,List.size_toArray,List.length_map,hil,dif_pos]
 apply Array.ext'
 simp only [List.eraseIdx_toArray]
 have:∀ (r:List (κ × Value × Nat)) (i:Nat),(r.map (mkE enc)).eraseIdx i=(r.eraseIdx i).map (mkE enc):=by
  intro r
  induction r with
  | nil=>intro i; rfl
  | cons y r ih=>intro i; cases i <;> simp [ih]
 exact this m i
theorem delete_run {kT ty:TypeId} (hT:P.underlying mT=some (.map K E)) (hk:KeyLaw P K enc) (hm:Mp enc w b m c) (hw:Wf m c) :
  (Builtin.delete_ #[mT,kT] ty #[.map (some b),enc k]).run P w=.ok (.tuple #[]) { w with heap:=w.heap.setIfInBounds b (.map ((mdel m k).map (mkE enc)).toArray c) }:=by
 unfold Builtin.delete_
 simp only [List.getElem?_toArray,List.getElem?_cons_zero,List.getElem?_cons_succ,Sem.run_bind,run_underlying hT,Result.andThen_ok,getObj_run hm,hk.check,find_run hk]
 cases h:mix m k with
 | none =>
  have e:mdel m k=m:=by
   unfold mdel
   rw [List.filter_eq_self.2]
   intro x hx
   simp [(mix_none h).2 x hx]
  simp [setObj_run hm,e]
 | some i =>
  obtain ⟨x,h1,h2,h3⟩:=mix_some h
  simp only [h1,Option.bind_some,Option.map_some,erase_key hw h,Sem.run_bind,setObj_run hm,Result.andThen_ok,Sem.run_pure]
theorem update_run {v:Value} (hT:P.underlying mT=some (.map K E)) (hk:KeyLaw P K enc) (hm:Mp enc w b m c) (hw:Wf m c) :
  (Instr.mapUpdate mT (.map (some b)) (enc k) v).run P w =
   .ok () { w with heap:=w.heap.setIfInBounds b (match mfind m k with
    | some _=>.map ((mput m k v).map (mkE enc)).toArray c
    | none=>.map ((m++[(k,v,c)]).map (mkE enc)).toArray (c+1)) }:=by
 unfold Instr.mapUpdate
 simp only [Sem.run_bind,run_underlying hT,Result.andThen_ok,getObj_run hm,hk.check,find_run hk]
 cases h:mix m k with
 | none=>simp [(mix_none h).1,setObj_run hm,mkE]
 | some i =>
  obtain ⟨x,h1,h2,h3⟩:=mix_some h
  simp [h1,h3,mkE,h2]
  rw [stays_run hk]
  simp only [Result.andThen_ok]
  have e:=modify_val (enc:=enc) hw h1 v
  have e2:(List.map (mkE enc) m).modify i (fun e=>{ key:=enc k,val:=v,born:=e.born })=(mput m k v).map (mkE enc):=by
   rw [h2] at e
   have e3:=congrArg Array.toList e
   simp only [Array.toList_modify] at e3
   rw [← e3]
   apply List.ext_getElem?
   intro j
   simp only [List.getElem?_modify,List.getElem?_map]
   by_cases hj:i=j
   ·subst hj; simp [h1,mkE,h2]
   ·simp [hj]
  rw [e2,setObj_run hm]
theorem Wf.put (hw:Wf m c) (v:Value):Wf (mput m k v) c:=by
 have e1:(mput m k v).map (·.1)=m.map (·.1):=by
  unfold mput; rw [List.map_map]; apply List.map_congr_left; intro x _; simp only [Function.comp]; split <;> rfl
 have e2:(mput m k v).map (·.2.2)=m.map (·.2.2):=by
  unfold mput; rw [List.map_map]; apply List.map_congr_left; intro x _; simp only [Function.comp]; split <;> rfl
 refine ⟨by rw [e1]; exact hw.keys,by rw [e2]; exact hw.borns,fun x hx=>?_⟩
 have:x.2.2∈(mput m k v).map (·.2.2):=List.mem_map_of_mem hx
 rw [e2] at this
 obtain ⟨y,hy,he⟩:=List.mem_map.1 this
 rw [← he]; exact hw.past y hy
theorem Wf.del (hw:Wf m c):Wf (mdel m k) c :=
 ⟨hw.keys.sublist (List.filter_sublist.map _),hw.borns.sublist (List.filter_sublist.map _),fun x hx=>hw.past x (List.mem_filter.1 hx).1⟩
theorem Wf.push (hw:Wf m c) (hn:mfind m k=none) (v:Value):Wf (m++[(k,v,c)]) (c+1):=by
 refine ⟨?_,?_,fun x hx=>?_⟩
 ·rw [List.map_append,List.nodup_append]
  refine ⟨hw.keys,by simp,fun a ha b hb=>?_⟩
  simp only [List.map_cons,List.map_nil,List.mem_singleton] at hb
  subst hb
  obtain ⟨y,hy,rfl⟩:=List.mem_map.1 ha
  intro e
  have:=List.find?_eq_none.1 hn y hy
  simp [e] at this
 ·rw [List.map_append,List.nodup_append]
  refine ⟨hw.borns,by simp,fun a ha b hb=>?_⟩
  simp only [List.map_cons,List.map_nil,List.mem_singleton] at hb
  subst hb
  obtain ⟨y,hy,rfl⟩:=List.mem_map.1 ha
  have:=hw.past y hy
  omega
 ·rcases List.mem_append.1 hx with hx | hx
  ·have:=hw.past x hx; omega
  ·simp at hx; subst hx; simp
theorem Wf.ent (hw:Wf m c) (z:Value):Wf (ment m k z c).2.1 (ment m k z c).2.2∧(ment m k z c).1∈(ment m k z c).2.1∧(ment m k z c).1.1=k:=by
 unfold ment
 cases h:mfind m k with
 | none=>exact ⟨hw.push h z,by simp,rfl⟩
 | some x=>exact ⟨hw,List.mem_of_find?_eq_some h,by have:=List.find?_some h; simpa using this⟩
end
end Go.Tum
end
section
namespace Go.Tum
open Go
def lookupOp (mT:TypeId) (x k:Operand) (ok:Bool) (ty:TypeId):Oper:=⟨none,.lookup mT x k ok,ty, "",#[],none⟩
def mapEntryOp (mT:TypeId) (x k:Operand) (ty:TypeId):Oper:=⟨none,.mapEntry mT x k,ty, "",#[],none⟩
def entryStoreOp (mT:TypeId) (x s v:Operand) (ty:TypeId):Oper:=⟨none,.entryStore mT x s v,ty, "",#[],none⟩
def deleteOp (x k:Operand) (mT kT ty:TypeId):Oper:=⟨none,.call ⟨.builtin .delete,#[x,k],#[mT,kT]⟩,ty, "",#[],none⟩
def mapUpdateOp (mT:TypeId) (x k v:Operand) (ty:TypeId):Oper:=⟨none,.mapUpdate mT x k v,ty, "",#[],none⟩
def lenOp (x:Operand) (mT ty:TypeId):Oper:=⟨none,.call ⟨.builtin .len,#[x],#[mT]⟩,ty, "",#[],none⟩
def makeMapOp (mT ty:TypeId):Oper:=⟨none,.makeMap mT none,ty, "",#[],none⟩
def makeSliceOp (sT:TypeId) (n c:Operand) (ty:TypeId):Oper:=⟨none,.makeSlice sT n c,ty, "",#[],none⟩
section
variable {P:Program} {w:World} {l:Env} {K:Value→World→Prop}
theorem zero_run {E:TypeId} {i:TypeInfo} {z:Value} (hi:P.info? E=some i) (hz:i.zero=some z) (w:World):(zeroValue E).run P w=.ok z w:=by simp [zeroValue,typeInfo_run hi,hz]
variable {κ:Type} [DecidableEq κ] {Kt E mT ty:TypeId} {enc:κ→Value} {b c:Nat} {m:List (κ × Value × Nat)} {k:κ} {x y:Operand}
theorem lookup_Y {z v:Value} (hT:P.underlying mT=some (.map Kt E)) (hk:KeyLaw P Kt enc) (hz:∀ w,(zeroValue E).run P w=.ok z w) (hx:ev l x=some (.map (some b))) (hy:ev l y=some (enc k)) (hm:Mp enc w b m c)
  (hv:((mfind m k).map (·.2.1)).getD z=v):(QOp.raw (lookupOp mT x y false ty)).Y P l v w:=by
 intro ρ w0 ha hs
 simp only [execOp,lookupOp,ha x _ hx,ha y _ hy,Sem.run_bind,lookup_run hT hk (hz w0) (hm.sim hs),hv]
 rfl
theorem lookupOk_Y {z v:Value} (hT:P.underlying mT=some (.map Kt E)) (hk:KeyLaw P Kt enc) (hz:∀ w,(zeroValue E).run P w=.ok z w) (hx:ev l x=some (.map (some b))) (hy:ev l y=some (enc k)) (hm:Mp enc w b m c)
  (hv:.tuple #[((mfind m k).map (·.2.1)).getD z,.bool (mfind m k).isSome]=v):(QOp.raw (lookupOp mT x y true ty)).Y P l v w:=by
 intro ρ w0 ha hs
 simp only [execOp,lookupOp,ha x _ hx,ha y _ hy,Sem.run_bind,lookup_ok_run hT hk (hz w0) (hm.sim hs),hv]
 rfl
omit [DecidableEq κ] in
theorem lenMap_Y (hT:P.underlying mT=some (.map Kt E)) (hx:ev l x=some (.map (some b))) (hm:Mp enc w b m c):(QOp.raw (lenOp x mT ty)).Y P l (.int .i64 m.length) w:=by
 intro ρ w0 ha hs
 have:=len_run (P:=P) (ty:=ty) hT (hm.sim hs)
 simp [execOp,lenOp,resolve,invoke,builtin,ha x _ hx,this]
theorem mapEntry_W {z:Value} (hT:P.underlying mT=some (.map Kt E)) (hk:KeyLaw P Kt enc) (hz:∀ w,(zeroValue E).run P w=.ok z w) (hx:ev l x=some (.map (some b))) (hy:ev l y=some (enc k)) (hm:Mp enc w b m c)
  (h:∀ w',Mp enc w' b (ment m k z c).2.1 (ment m k z c).2.2→Fr (·=b) w w'→w'.heap.size=w.heap.size→K (.tuple #[(ment m k z c).1.2.1,.int .i64 (ment m k z c).1.2.2]) w'):(EOp.raw (mapEntryOp mT x y ty)).W P K l w:=by
 intro ρ w0 ha hs
 refine Eff.value ?_ ⟨_,hs.setObj b (.map ((ment m k z c).2.1.map (mkE enc)).toArray (ment m k z c).2.2),h _ ?_ (Fr.setObj w b _) (by simp)⟩
 ·simp only [execOp,mapEntryOp,ha x _ hx,ha y _ hy,Sem.run_bind,mapEntry_run hT hk (hz w0) (hm.sim hs)]
  rfl
 ·unfold Mp
  simp [hm.lt]
theorem entryStore_W {i:Nat} {e:κ × Value × Nat} {s v:Operand} {u:Value} (hx:ev l x=some (.map (some b))) (hs':ev l s=some (.int .i64 e.2.2)) (hv:ev l v=some u) (hm:Mp enc w b m c) (hw:Wf m c) (he:m[i]?=some e)
  (h:∀ w',Mp enc w' b (mput m e.1 u) c→Fr (·=b) w w'→w'.heap.size=w.heap.size→K undef w'):(EOp.raw (entryStoreOp mT x s v ty)).W P K l w:=by
 intro ρ w0 ha hs
 refine Eff.skip ?_ ⟨_,hs.setObj b (.map ((mput m e.1 u).map (mkE enc)).toArray c),h _ ?_ (Fr.setObj w b _) (by simp)⟩
 ·simp only [execOp,entryStoreOp,ha x _ hx,ha s _ hs',ha v _ hv,Sem.run_bind,entryStore_run (hm.sim hs) hw he]
  rfl
 ·unfold Mp
  simp [hm.lt]
theorem delete_W {kT:TypeId} (hT:P.underlying mT=some (.map Kt E)) (hk:KeyLaw P Kt enc) (hx:ev l x=some (.map (some b))) (hy:ev l y=some (enc k)) (hm:Mp enc w b m c) (hw:Wf m c)
  (h:∀ w',Mp enc w' b (mdel m k) c→Fr (·=b) w w'→w'.heap.size=w.heap.size→K (.tuple #[]) w'):(EOp.raw (deleteOp x y mT kT ty)).W P K l w:=by
 intro ρ w0 ha hs
 refine Eff.value ?_ ⟨_,hs.setObj b (.map ((mdel m k).map (mkE enc)).toArray c),h _ ?_ (Fr.setObj w b _) (by simp)⟩
 ·have:=delete_run (P:=P) (kT:=kT) (ty:=ty) (k:=k) hT hk (hm.sim hs) hw
  simp [execOp,deleteOp,resolve,invoke,builtin,ha x _ hx,ha y _ hy,this]
 ·unfold Mp
  simp [hm.lt]
def mset (m:List (κ × Value × Nat)) (k:κ) (v:Value) (c:Nat):List (κ × Value × Nat) × Nat :=
 match mfind m k with
 | some _=>(mput m k v,c)
 | none=>(m++[(k,v,c)],c+1)
theorem Wf.mset (hw:Wf m c) (v:Value):Wf (mset m k v c).1 (mset m k v c).2:=by
 unfold Tum.mset
 cases h:mfind m k with
 | none=>exact hw.push h v
 | some x=>exact hw.put v
theorem mapUpdate_W {v:Operand} {u:Value} (hT:P.underlying mT=some (.map Kt E)) (hk:KeyLaw P Kt enc) (hx:ev l x=some (.map (some b))) (hy:ev l y=some (enc k)) (hv:ev l v=some u) (hm:Mp enc w b m c) (hw:Wf m c)
  (h:∀ w',Mp enc w' b (mset m k u c).1 (mset m k u c).2→Fr (·=b) w w'→w'.heap.size=w.heap.size→K undef w'):(EOp.raw (mapUpdateOp mT x y v ty)).W P K l w:=by
 intro ρ w0 ha hs
 refine Eff.skip ?_ ⟨_,hs.setObj b (.map ((mset m k u c).1.map (mkE enc)).toArray (mset m k u c).2),h _ ?_ (Fr.setObj w b _) (by simp)⟩
 ·simp only [execOp,mapUpdateOp,ha x _ hx,ha y _ hy,ha v _ hv,Sem.run_bind,update_run (v:=u) (k:=k) hT hk (hm.sim hs) hw,mset]
  cases mfind m k <;> rfl
 ·unfold Mp
  simp [hm.lt]
omit [DecidableEq κ] in
theorem makeMap_W (enc:κ→Value) (h:∀ w',Mp enc w' w.heap.size [] 0→Fr (fun _=>False) w w'→w'.heap.size=w.heap.size+1→K (.map (some w.heap.size)) w'):(EOp.raw (makeMapOp mT ty)).W P K l w:=by
 intro ρ w0 ha hs
 refine Eff.value (v:=.map (some w0.heap.size)) (w':=w0.alloc (.map #[] 0)) ?_ ⟨w.alloc (.map #[] 0),hs.push _,?_⟩
 ·simp [execOp,makeMapOp,Instr.makeMap]
 ·rw [hs.heap]; exact h _ (Mp.new enc w) (Fr.alloc _ w _) (by show (w.heap.push _).size=_; simp)
theorem makeSlice_W {sT e:TypeId} {sz bytes:Nat} {xn xc:Operand} {n:Nat} {z:Value} (he:P.underlying sT=some (.slice e)) (hi:∃ i,P.info? e=some i∧i.size=sz∧i.bytes=bytes∧i.zero=some z) (hz1:z.cells = #[z]) (hz2:one z=true) (hsz:sz=1) (hb:bytes*n≤281474976710656) (hn64:n≤9223372036854775807)
  (hn:ev l xn=some (.int .i64 n)) (hc:ev l xc=some (.int .i64 n))
  (h:∀ w' v,Sl w' 1 v n (List.replicate n z) [w.heap.size]→Fr (fun _=>False) w w'→w'.heap.size=w.heap.size+1→v=.slice (some ⟨w.heap.size,0,none⟩) n n→Blk w' w.heap.size (List.replicate n z)→K v w'):(EOp.raw (makeSliceOp sT xn xc ty)).W P K l w:=by
 intro ρ w0 ha hs
 obtain ⟨i,hi,h1,h2,hz⟩:=hi
 subst hsz
 have hrow:((Array.range n).map fun j=>z.cells[j % z.cells.size]!)=(List.replicate n z).toArray:=by
  apply Array.ext'
  rw [hz1]
  simp only [Array.toList_map,Array.toList_range]
  apply List.ext_getElem?
  intro j
  simp only [List.getElem?_map,List.getElem?_replicate]
  by_cases hj:j<n
  ·simp [hj,Nat.mod_one]
  ·simp [hj]
 have hblk:=Blk.new w (List.replicate n z) e
 refine Eff.value (v:=.slice (some ⟨w0.heap.size,0,none⟩) n n) (w':=w0.alloc (.cells (List.replicate n z).toArray e)) ?_ ⟨w.alloc (.cells (List.replicate n z).toArray e),hs.push _,?_⟩
 ·have hwr:IntKind.i64.wrap (n:Int)=n:=wrap64_id (by omega) (by omega)
  have hbi:¬ ((281474976710656:Int)<(bytes:Int)*(n:Int)):=by
   have:((bytes*n:Nat):Int)≤((281474976710656:Nat):Int):=Int.ofNat_le.2 hb
   rw [Int.natCast_mul] at this
   omega
  simp only [execOp,makeSliceOp,Instr.makeSlice,ha xn _ hn,ha xc _ hc]
  by_cases hn0:n=0
  ·subst hn0
   have hwr0:IntKind.i64.wrap 0=0:=hwr
   simp [run_underlying he,typeInfo_run hi,asInt,asIntOf,sizeOf_run hi,h1,newRow,hwr0]
   rw [show (Array.range 0) = #[] from Array.eq_empty_of_size_eq_zero (by simp),Array.map_empty]
  ·simp [run_underlying he,typeInfo_run hi,asInt,asIntOf,h2,sizeOf_run hi,h1,newRow,hwr,hbi,hn0,zero_run hi hz]
   rw [if_neg (by omega),hrow]
   simp
 ·rw [hs.heap]
  refine h _ _ ⟨by simp,fun u hu=>by rw [List.eq_of_mem_replicate hu]; exact hz2,.inr ⟨_,0,n,_,rfl,rfl,hblk,by simp,Nat.le_refl _,by simp⟩⟩ (Fr.alloc _ w _) (by show (w.heap.push _).size=_; simp) rfl hblk
end
section
variable {P:Program} {w:World}
theorem equalIn_int {d:Nat} {t:TypeId} {k k':IntKind} {a b:Int} (h:P.underlying t=some (.int k')):(Op.equalIn (d+1) t (.int k a) (.int k b)).run P w=.ok (a == b) w:=by
 unfold Op.equalIn
 simp [run_underlying h]
theorem part_scalar {t:TypeId} {cs:Array Value} {o:Nat} {v:Value} (h:scalarT P t=true) (hv:cs[o]?=some v):(part t cs o).run P w=.ok v w:=by
 simp [part,isAgg_false h,hv]
theorem eqFields_int {d:Nat} {f:Field} {fs:List Field} {xs ys:Array Value} {k k':IntKind} {a b:Int} (hn:f.name ≠ "_") (ht:P.underlying f.type=some (.int k')) (hx:xs[f.offset]?=some (.int k a)) (hy:ys[f.offset]?=some (.int k b)) :
  (Op.eqFields (d+1) xs ys (f::fs)).run P w=if a=b then (Op.eqFields (d+1) xs ys fs).run P w else .ok false w:=by
 have hs:scalarT P f.type=true:=by simp [scalarT,ht]
 simp only [Op.eqFields,if_pos hn,Sem.run_bind,part_scalar hs hx,part_scalar hs hy,Result.andThen_ok,equalIn_int ht]
 by_cases h:a=b
 ·subst h; simp
 ·simp [h]
theorem eqFields_nil {d:Nat} {xs ys:Array Value}:(Op.eqFields d xs ys []).run P w=.ok true w:=rfl
def pairV (k:Int × Int):Value:=.agg #[.int .i64 k.1,.int .i64 k.2]
theorem pair_equal {t:TypeId} {f1 f2:Field} {k1 k2:IntKind} (hu:P.underlying t=some (.struct (P.fieldsOf t))) (hp:P.stoodInHeld t=false) (hf:(P.fieldsOf t).toList=[f1,f2]) (hn1:f1.name ≠ "_") (hn2:f2.name ≠ "_") (ho1:f1.offset=0) (ho2:f2.offset=1)
  (ht1:P.underlying f1.type=some (.int k1)) (ht2:P.underlying f2.type=some (.int k2)) (a b:Int × Int) (w:World):(Op.equal t (pairV a) (pairV b)).run P w=.ok (decide (b=a)) w:=by
 unfold Op.equal Op.maxDepth pairV
 rw [show (10000:Nat)=9998+1+1 from rfl,run_equalIn_agg _ _ _ _ _ hu hp,hf]
 rw [eqFields_int (k:=.i64) (a:=a.1) (b:=b.1) hn1 ht1 (by rw [ho1]; rfl) (by rw [ho1]; rfl),eqFields_int (k:=.i64) (a:=a.2) (b:=b.2) hn2 ht2 (by rw [ho2]; rfl) (by rw [ho2]; rfl),eqFields_nil]
 obtain ⟨a1,a2⟩:=a
 obtain ⟨b1,b2⟩:=b
 by_cases h1:a1=b1
 ·by_cases h2:a2=b2
  ·subst h1; subst h2; simp
  ·have:¬ b2=a2:=fun e=>h2 e.symm
   simp [h1,h2,this]
 ·have:¬ b1=a1:=fun e=>h1 e.symm
  simp [h1,this]
theorem keyLaw_pair {t:TypeId} (heq:∀ (a b:Int × Int) (w:World),(Op.equal t (pairV a) (pairV b)).run P w=.ok (decide (b=a)) w) (hu:∃ fs,P.underlying t=some (.struct fs)) (hc:∀ e k w,(Instr.checkKey e 10000 t (pairV k)).run P w=.ok () w):KeyLaw P t pairV:=by
 refine ⟨hc,fun k=>?_,fun k m w=>?_⟩
 ·unfold pairV
  rw [show (10000:Nat)=9998+1+1 from rfl]
  simp [Instr.sameBits]
 ·obtain ⟨fs,hu⟩:=hu
  have ask:∀ (m:List ((Int × Int) × Value × Nat)) (i:Nat),(Instr.findAsking t (pairV k) (m.map (mkE pairV)) i).run P w=.ok ((mix m k).bind fun j=>m[j]?.map fun x=>(i+j,x.2.1)) w:=by
   intro m
   induction m with
   | nil=>intro i; rfl
   | cons x r ih =>
    intro i
    simp only [List.map_cons,Instr.findAsking,mkE,Sem.run_bind,heq,Result.andThen_ok]
    by_cases h:x.1=k
    ·simp [h,mix,List.findIdx?_cons]
    ·simp only [h,decide_false,Bool.false_eq_true,if_false]
     rw [ih (i+1)]
     have:mix (x::r) k=(mix r k).map (· + 1):=by
      simp only [mix,List.findIdx?_cons,h,decide_false,Bool.false_eq_true,if_false]
     rw [this]
     cases mix r k with
     | none=>rfl
     | some j=>simp [show i+1+j=i+(j+1) by omega]
  unfold Instr.findKey
  simp only [Sem.run_bind,run_underlying hu,Result.andThen_ok]
  cases m with
  | nil=>rfl
  | cons x r =>
   have hnow:Instr.findNow (.struct fs) (pairV k) ((x::r).map (mkE pairV)) 0=none:=by
    simp [Instr.findNow,Instr.sameNow,pairV,mkE]
   rw [hnow]
   have:=ask (x::r) 0
   simp only [Nat.zero_add] at this
   exact this
end
theorem Fr.cell {G:Nat→Prop} {w w':World} (h:Fr G w w') {p:Addr} (hb:p.block<w.heap.size) (hn:¬ G p.block):w'.cell? p=w.cell? p:=by
 unfold World.cell?; rw [h.keep p.block hb hn]
theorem ld_keep {P:Program} {x:Operand} {l:Env} {v:Value} {p:Addr} {w w':World} (hx:ev l x=some (.pointer (some p))) (hc:w'.cell? p=w.cell? p):(QOp.ld x).Y P l v w→(QOp.ld x).Y P l v w':=by
 rintro ⟨q,hq,hv⟩
 rw [hx] at hq; cases hq
 exact ⟨p,hx,by rw [hc]; exact hv⟩
theorem ldn_keep {P:Program} {x:Operand} {n:Nat} {l:Env} {v:Value} {p:Addr} {w w':World} (hx:ev l x=some (.pointer (some p))) (hc:∀ i,i<n→w'.cell? (p.add i)=w.cell? (p.add i)):(QOp.ldn x n).Y P l v w→(QOp.ldn x n).Y P l v w':=by
 rintro ⟨q,vs,hq,h1,h2,h3⟩
 rw [hx] at hq; cases hq
 exact ⟨p,vs,hx,h1,fun i hi=>by rw [hc i hi]; exact h2 i hi,h3⟩
structure Grow (G G':Nat→Prop) (w w':World):Prop where
 fr:Fr G w w'
 sub:∀ b,G' b→G b∨w.heap.size≤b
theorem Grow.trans {A B C:Nat→Prop} {w w1 w2:World} (h:Grow A B w w1) (k:Grow B C w1 w2):Grow A C w w2:=by
 refine ⟨h.fr.trans k.fr fun b hb hB=>?_,fun b hC=>?_⟩
 ·rcases h.sub b hB with h1 | h1
  ·exact h1
  ·omega
 ·rcases k.sub b hC with h1 | h1
  ·exact h.sub b h1
  ·exact .inr (Nat.le_trans h.fr.size h1)
theorem Blk.pair {w:World} {b:Nat} {x y:Value} (h:Blk w b [x,y]):∀ i,i<2→w.cell? ((⟨b,0,none⟩:Addr).add i)=[x,y][i]?:=by
 intro i _
 rw [add_none,h.cellEq,Nat.zero_add]
end Go.Tum
end
section
namespace Go.Tum
open Go Go.RowKit Go.WideShapes Go.ChangeShapes
theorem below_of {w w1 w':World} (hf:Fr (fun _=>False) w w1) (hs:Sim w' w1):Below w.heap.size w w':=by
 have h:=hf.below (Nat.le_refl _) (fun b hb=>hb.elim)
 exact ⟨hs.os.trans h.os,hs.tape.trans h.tape,hs.output.trans h.output,by rw [hs.heap]; exact h.size,fun k hk=>by rw [hs.heap]; exact h.block k hk⟩
theorem Does.law {P:Program} {f:FuncId} {args:Array Value} {w:World} (h:Does P f args w fun v w'=>v=.bool true∧Fr (fun _=>False) w w') :
  Calls P f args w fun e w'=>e=.returned (.bool true)∧Below w.heap.size w w' :=
 (h w (Sim.refl w)).mono fun e w' ⟨w1,hs,v,he,hv,hf⟩=>⟨by rw [he,hv],below_of hf hs⟩
section
variable {H:Type} {enc:TypeId × Value→H} {P:Program}
theorem post_of_below {f:Func} {s:ChangeSpec} {apart fresh handsOn again:Bool} {W W':World} {args:Array Value} {v:Value} {ds gs:List (DataW H)} {before pa pv:List MemPlace}
  (hW:DataW.Whole enc P f.params.toList s.vars apart W args.toList ds gs before)
  (hres:∀ (b:Nat) (sp:Nat→Bool) (hd:Bool),DataW.TrodAll enc P W' b sp hd f.resultTypes.toList (v.resultList f.resultTypes.size) (s.fn H (ds++gs)).results [])
  (hargs:∀ sp:Nat→Bool,(∀ p∈before,sp p.block=true)→DataW.TrodAll enc P W' 0 sp true f.params.toList args.toList (s.fn H (ds++gs)).args pa)
  (hvars:∀ sp:Nat→Bool,(∀ p∈before,sp p.block=true)→DataW.TrodVars enc P W' sp s.vars (s.fn H (ds++gs)).vars pv)
  (hps:before=pa++pv) (hb:Below W.heap.size W W')
  (hok:∀ (j:Nat) (t:TypeId) (r:Value),f.resultTypes[j]?=some t→(v.resultList f.resultTypes.size)[j]?=some r→Value.okWide P W' .any 0 t r) :
  s.post enc P f apart fresh handsOn again W args v W':=by
 have hlt:∀ p∈before,p.block<W.heap.size:=fun p hp=>hW.lt p hp
 have hold:∀ p∈before,(fun b=>decide (b<W.heap.size)) p.block=true:=fun p hp=>by simpa using hlt p hp
 refine ⟨ds,gs,before,[],pa,pv,hW,hres _ _ _,hargs _ hold,hvars _ hold,World.keptBut_mono (fun p hp=>⟨hp,?_⟩) (hb.frame (·∈before)),fun _=>?_⟩
 ·rw [hps,List.mem_append] at hp
  exact Or.inr hp
 ·obtain ⟨_,_,_,_,_,hz,hn⟩:=hW
  refine ⟨hok,_,_,([]++pa)++pv,⟨[]++pa,pv,trodAll_append (hargs _ (fun _ _=>rfl)) (hres _ _ _),hvars _ (fun _ _=>rfl),rfl,?_,?_⟩,?_⟩
  ·intro b off hp
   have hin:MemPlace.cell b off∈before:=by rw [hps]; simpa using hp
   rw [hb.frozen (hlt _ hin)]
   exact hz b off hin
  ·intro ha
   have:=hn ha
   rw [hps] at this
   simpa using this
  ·intro p hp _
   rw [hps]
   simpa using hp
theorem trodAll_stays {W W':World} (hl:laidOutB P=true) (hb:Below W.heap.size W W'):∀ (ts:List TypeId) (vs:List Value) (ds:List (DataW H)) (p:List MemPlace),(∀ t∈ts,P.readableRec t=true∧t<P.types.size)→(∀ x∈p,x.block<W.heap.size) →
  DataW.TrodAll enc P W 0 (fun _=>true) true ts vs ds p→∀ sp:Nat→Bool,(∀ x∈p,sp x.block=true)→DataW.TrodAll enc P W' 0 sp true ts vs ds p
 | [],vs,ds,p,_,_,h,sp,_=>by
  cases vs with
  | nil =>
   cases ds with
   | nil=>exact h
   | cons d ds=>exact h.elim
  | cons v vs=>exact h.elim
 | t::ts,vs,ds,p,hr,hlt,h,sp,hsp=>by
  cases vs with
  | nil=>cases ds <;> exact h.elim
  | cons v vs =>
   cases ds with
   | nil=>exact h.elim
   | cons d ds =>
    obtain ⟨p1,p2,h1,h2,rfl⟩:=h
    have hr1:=hr t (by simp)
    refine ⟨p1,p2,?_,trodAll_stays hl hb ts vs ds p2 (fun t' ht'=>hr t' (by simp [ht'])) (fun x hx=>hlt x (by simp [hx])) h2 sp (fun x hx=>hsp x (by simp [hx])),rfl⟩
    exact WideElems.Trod_stays hl hr1.1 hr1.2 h1 (fun x hx=>hb.same (hlt x (by simp [hx]))) (fun x hx=>hsp x (by simp [hx]))
theorem trodAll_stays' {W W':World} {ts:List TypeId} {vs:List Value} {ds:List (DataW H)} {p:List MemPlace} (hl:laidOutB P=true) (hr:(ts.all fun t=>P.readableRec t && decide (t<P.types.size))=true) (hb:Below W.heap.size W W') (hlt:∀ x∈p,x.block<W.heap.size)
  (h:DataW.TrodAll enc P W 0 (fun _=>true) true ts vs ds p) (sp:Nat→Bool) (hsp:∀ x∈p,sp x.block=true):DataW.TrodAll enc P W' 0 sp true ts vs ds p :=
 trodAll_stays hl hb ts vs ds p (fun t ht=>by
  have:=List.all_eq_true.1 hr t ht
  simpa using this) hlt h sp hsp
end
end Go.Tum
end
section
namespace Go.Tum
open Go Go.RowKit Go.WideShapes Go.ChangeShapes Go.Deep
abbrev CK:=Option IntKind
def flatF (P:Program) (g:TypeId→Option (List CK)):List Field→Nat→Option (List CK)
 | [],_=>some []
 | f::fs,off=>match g f.type with
  | some ks=>if f.offset=off∧P.cellsOf f.type=ks.length then (match flatF P g fs (off+ks.length) with
   | some r=>some (ks++r)
   | none=>none) else none
  | none=>none
def flat (P:Program):Nat→TypeId→Option (List CK)
 | 0,_=>none
 | d+1,t=>match P.underlying t with
  | some (.int k)=>some [some k]
  | some .bool=>some [none]
  | some (.struct fs)=>match flatF P (flat P d) fs.toList 0 with
   | some ks=>if P.cellsOf t=ks.length then some ks else none
   | none=>none
  | _=>none
end Go.Tum
end
