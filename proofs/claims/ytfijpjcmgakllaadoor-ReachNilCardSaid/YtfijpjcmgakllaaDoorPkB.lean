/-
  What the proof leans on, part 2: of the texts RunOps, Sub.
-/
import Derived.Test.YtfijpjcmgakllaaDoorPkA
set_option linter.unusedVariables false
set_option linter.unusedSimpArgs false
set_option linter.unusedSectionVars false
section
namespace Go.Tum
open Go
def bldL (l:Env):List Value→List (Nat × Nat × Operand)→Option (List Value)
 | zero,[]=>some zero
 | zero,(off,sz,x)::r=>match lv l x with
  | some u=>bif notTup u && Nat.beq (cellsL u).length sz then (match setL zero off (cellsL u) with
   | some z=>bldL l z r
   | none=>none) else none
  | none=>none
theorem setL_L2 {R:Value→Value→Prop}:∀ (z:List Value) (o:Nat) (vs:List Value) {r z' vs':List Value},setL z o vs=some r→L2 R z z'→L2 R vs vs'→∃ r',setL z' o vs'=some r'∧L2 R r r'
 | z,o,[],r,z',vs',h,hz,hv=>by
  cases vs' with
  | cons=>exact hv.elim
  | nil=>simp only [setL] at h; cases h; exact ⟨z',by simp [setL],hz⟩
 | [],o,v::vs,r,z',vs',h,hz,hv=>by simp only [setL] at h; cases h
 | a::z,0,v::vs,r,z',vs',h,hz,hv=>by
  cases z' with
  | nil=>exact hz.elim
  | cons a' z' =>
   cases vs' with
   | nil=>exact hv.elim
   | cons v' vs' =>
    simp only [setL] at h
    cases hq:setL z 0 vs with
    | none=>rw [hq] at h; cases h
    | some r1 =>
     rw [hq] at h; cases h
     obtain ⟨r',h1,h2⟩:=setL_L2 z 0 vs hq hz.2 hv.2
     exact ⟨v'::r',by simp only [setL,h1],hv.1,h2⟩
 | a::z,o+1,v::vs,r,z',vs',h,hz,hv=>by
  cases z' with
  | nil=>exact hz.elim
  | cons a' z' =>
   cases vs' with
   | nil=>exact hv.elim
   | cons v' vs' =>
    simp only [setL] at h
    cases hq:setL z o (v::vs) with
    | none=>rw [hq] at h; cases h
    | some r1 =>
     rw [hq] at h; cases h
     obtain ⟨r',h1,h2⟩:=setL_L2 z o (v::vs) hq hz.2 hv
     exact ⟨a'::r',by simp only [setL,h1],hz.1,h2⟩
theorem bldL_ok {E:Emb} {l l':Env} (hl:ER E l l'):∀ (ps:List (Nat × Nat × Operand)) (z z':List Value) {vs:List Value},bldL l z ps=some vs→L2 (SR E) z z'→∃ vs',bldv l' z' ps=some vs'∧L2 (SR E) vs vs'
 | [],z,z',vs,h,hz=>by cases h; exact ⟨z',rfl,hz⟩
 | (off,sz,x)::r,z,z',vs,h,hz=>by
  simp only [bldL] at h
  cases hx:lv l x with
  | none=>rw [hx] at h; cases h
  | some u =>
   rw [hx] at h
   simp only at h
   cases hb:(notTup u && Nat.beq (cellsL u).length sz)
   ·rw [hb] at h; cases h
   ·rw [hb] at h
    simp only [cond_true] at h
    rw [Bool.and_eq_true] at hb
    cases hq:setL z off (cellsL u) with
    | none=>rw [hq] at h; cases h
    | some z1 =>
     rw [hq] at h
     obtain ⟨u',h1,h2⟩:=lv_ev hl hx
     have hc:=h2.cellsL hb.1
     obtain ⟨z2,h3,h4⟩:=setL_L2 _ _ _ hq hz hc
     obtain ⟨vs',h5,h6⟩:=bldL_ok hl r z1 z2 h h4
     refine ⟨vs',?_,h6⟩
     simp only [bldv,h1,hc.length,hb.2,cond_true,h3,h5]
def lint (l:Env) (x:Operand):Option Int :=
 match lv l x with
 | some (.int _ i)=>some i
 | _=>none
theorem lint_ok {E:Emb} {l l':Env} {x:Operand} {i:Int} (hl:ER E l l') (h:lint l x=some i):∃ k,ev l' x=some (.int k i):=by
 unfold lint at h
 cases hx:lv l x with
 | none=>rw [hx] at h; cases h
 | some v =>
  rw [hx] at h
  cases v <;> first | (cases h; done) | skip
  case int k j=>cases h; obtain ⟨v',h1,rfl⟩:=lv_ev hl hx; exact ⟨k,h1⟩
def lbound (l:Env) (x:Option Operand) (d:Nat):Option Nat :=
 match x with
 | none=>some d
 | some x=>match lint l x with
  | some (.ofNat i)=>some i
  | _=>none
theorem lbound_ok {E:Emb} {l l':Env} {x:Option Operand} {d k:Nat} (hl:ER E l l') (h:lbound l x d=some k):obound l' x d k:=by
 cases x with
 | none=>cases h; rfl
 | some x =>
  simp only [lbound] at h
  cases hi:lint l x with
  | none=>rw [hi] at h; cases h
  | some i =>
   rw [hi] at h
   cases i with
   | negSucc i=>cases h
   | ofNat i=>cases h; obtain ⟨kd,hk⟩:=lint_ok hl hi; exact ⟨kd,_,hk,Int.natCast_nonneg _,rfl⟩
def lptr (l:Env) (x:Operand):Option Addr :=
 match lv l x with
 | some (.pointer (some p))=>(match p.spot with
  | none=>some p
  | some _=>none)
 | _=>none
theorem lptr_ok {E:Emb} {l l':Env} {x:Operand} {p:Addr} (hl:ER E l l') (h:lptr l x=some p):∃ p',ev l' x=some (.pointer (some p'))∧AR E p p':=by
 unfold lptr at h
 cases hx:lv l x with
 | none=>rw [hx] at h; cases h
 | some v =>
  rw [hx] at h
  cases v <;> first | (cases h; done) | skip
  case pointer a =>
  rcases a with _ | ⟨b,o,_ | s⟩ <;> cases h
  obtain ⟨v',h1,a',rfl,h2⟩:=lv_ev hl hx
  exact ⟨a',h1,h2⟩
theorem AR.vr {E:Emb} {a a':Addr} (h:AR E a a'):VR E (.pointer (some a)) (.pointer (some a')):=by
 rcases a with ⟨b,o,_ | s⟩
 ·exact ⟨a',rfl,h⟩
 ·cases h.1
def ikEq (a b:IntKind):Bool:=decide (a=b)
def s0:Value→Bool
 | .func _ _ _=>false
 | .agg _=>false
 | .tuple _=>false
 | _=>true
theorem VR.s0 {E:Emb} {v v':Value} (h:VR E v v') (h0:Tum.s0 v=true):S0 E v v':=by
 cases v <;> first|exact h | cases h0
theorem L2.s0 {E:Emb}:∀ {x y:List Value},x.all Tum.s0=true→L2 (VR E) x y→L2 (S0 E) x y
 | [],[],_,_=>trivial
 | _::_,_::_,h,k=>by
  simp only [List.all_cons,Bool.and_eq_true] at h
  exact ⟨k.1.s0 h.1,L2.s0 h.2 k.2⟩
 | [],_::_,_,k=>k.elim
 | _::_,[],_,k=>k.elim
def lq (lraw:LH→Env→Oper→Option Value) (L:LH) (l:Env):QOp→Option Value
 | .mov x=>lv l x
 | .pick c a b=>match lv l c with
  | some (.bool t)=>bif t then lv l a else lv l b
  | _=>none
 | .nilc x=>match lv l x with
  | some (.pointer (some p))=>some (.pointer (some p))
  | some (.func (.func f) a c)=>some (.func (.func f) a c)
  | _=>none
 | .fld x off=>match lptr l x with
  | some p=>some (.pointer (some (p.add off)))
  | none=>none
 | .fldv x off=>match lv l x with
  | some (.agg ⟨cs⟩)=>cs[off]?
  | _=>none
 | .fldn x off k=>match lv l x with
  | some (.agg ⟨cs⟩)=>some (.agg ⟨(cs.take (off+k)).drop off⟩)
  | _=>none
 | .idx x i size=>match lv l x,lint l i with
  | some (.slice (some p) n _),some (.ofNat j)=>bif Nat.blt j n then (match p.spot with
   | none=>some (.pointer (some (p.add (j*size))))
   | some s=>some (.pointer (some ⟨p.block,p.off+j*size,some s⟩))) else none
  | _,_=>none
 | .idxa x i n size=>match lptr l x,lint l i with
  | some p,some (.ofNat j)=>bif Nat.blt j n then some (.pointer (some (p.add (j*size)))) else none
  | _,_=>none
 | .ext x k=>match lv l x with
  | some (.tuple ⟨vs⟩)=>vs[k]?
  | _=>none
 | .bin op x y=>match lv l x,lv l y with
  | some (.int k a),some (.int k' b)=>bif ikEq k k' then (match ibin op k a b with
   | some v=>bif still v then some v else none
   | none=>none) else none
  | _,_=>none
 | .nilp neg x=>match lv l x with
  | some (.pointer p)=>some (.bool (if neg then p.isSome else p.isNone))
  | _=>none
 | .un op x=>match op,lv l x with
  | .not,some (.bool b)=>some (.bool (!b))
  | .neg,some (.int k n)=>some (.int k (k.wrap (0-n)))
  | _,_=>none
 | .cvi k x=>match lint l x with
  | some i=>some (.int k (k.wrap i))
  | none=>none
 | .len x=>match lv l x with
  | some (.slice _ n _)=>some (.int .i64 n)
  | _=>none
 | .slc x lo hi size=>match lv l x with
  | some (.slice p n c)=>match lbound l lo 0,lbound l hi n with
   | some lo',some hi'=>bif Nat.ble lo' hi' && Nat.ble hi' c then (match p with
    | none=>some (.slice none (hi'-lo') (c-lo'))
    | some p=>match p.spot with
     | none=>some (.slice (some (p.add (lo'*size))) (hi'-lo') (c-lo'))
     | some _=>bif Nat.beq lo' 0 then some (.slice (some p) hi' c) else none) else none
   | _,_=>none
  | _=>none
 | .bld zero parts=>bif zero.all stillS then (match bldL l zero parts with
   | some vs=>some (.agg ⟨vs⟩)
   | none=>none) else none
 | .ld x=>match lptr l x with
  | some p=>lcell L p
  | none=>none
 | .ldn x n=>match lptr l x with
  | some p=>match lcells L p n with
   | some vs=>some (.agg ⟨vs⟩)
   | none=>none
  | none=>none
 | .sh lft x y=>match lv l x,lv l y with
  | some (.int k a),some (.int _ (.ofNat n))=>some (.int k (ishift lft k a (.ofNat n)))
  | _,_=>none
 | .xorn x=>match lv l x with
  | some (.int k n)=>some (.int k (ixorn k n))
  | _=>none
 | .mm mx x y=>match lv l x,lv l y with
  | some (.int k a),some (.int k' b)=>bif ikEq k k' then some (.int k (imm mx a b)) else none
  | _,_=>none
 | .mkf fn first cap=>match lvs l first,lvs l cap with
  | some a,some c=>bif a.all s0 && c.all s0 then some (.func fn ⟨a⟩ ⟨c⟩) else none
  | _,_=>none
 | .raw o=>lraw L l o
def RawOk (P:Program) (lraw:LH→Env→Oper→Option Value):Prop :=
 ∀ X w0 w E L l l' o v,lraw L l o=some v→Rep X w0 E L w→ER E l l'→∃ v',(QOp.raw o).Y P l' v' w∧VR E v v'
theorem lq_ok {P:Program} {lraw:LH→Env→Oper→Option Value} (hr:RawOk P lraw) {X:Nat→Prop} {w0 w:World} {E:Emb} {L:LH} {l l':Env} {q:QOp} {v:Value} (h:lq lraw L l q=some v) (hR:Rep X w0 E L w) (hl:ER E l l') :
  ∃ v',q.Y P l' v' w∧VR E v v':=by
 cases q with
 | mov x=>exact lv_ev hl h
 | pick c a b =>
  simp only [lq] at h
  cases hc:lv l c with
  | none=>rw [hc] at h; cases h
  | some t =>
   rw [hc] at h
   cases t <;> first | (cases h; done) | skip
   case bool t =>
   obtain ⟨t',h1,rfl⟩:=lv_ev hl hc
   cases t
   ·obtain ⟨v',h2,h3⟩:=lv_ev hl h; exact ⟨v',⟨false,h1,h2⟩,h3⟩
   ·obtain ⟨v',h2,h3⟩:=lv_ev hl h; exact ⟨v',⟨true,h1,h2⟩,h3⟩
 | nilc x =>
  simp only [lq] at h
  cases hx:lv l x with
  | none=>rw [hx] at h; cases h
  | some u =>
   rw [hx] at h
   obtain ⟨u',h1,h2⟩:=lv_ev hl hx
   split at h <;> first | (cases h; done) | skip
   ·rename_i p hp
    cases hp; cases h
    rcases p with ⟨b,o,_ | s⟩
    ·obtain ⟨p',rfl,h3⟩:=h2
     exact ⟨_,.inl ⟨p',h1,rfl⟩,p',rfl,h3⟩
    ·have h2:_=_:=h2
     subst h2
     exact ⟨_,.inl ⟨_,h1,rfl⟩,rfl⟩
   ·rename_i f a c hp
    cases hp; cases h
    obtain ⟨a⟩:=a
    obtain ⟨c⟩:=c
    obtain ⟨a',c',rfl,h3⟩:=h2
    exact ⟨_,.inr ⟨f,⟨a'⟩,⟨c'⟩,h1,rfl⟩,a',c',rfl,h3⟩
 | fld x off =>
  simp only [lq] at h
  cases hx:lptr l x with
  | none=>rw [hx] at h; cases h
  | some p=>rw [hx] at h; cases h; obtain ⟨⟨b,o,s⟩,h1,h2⟩:=lptr_ok hl hx; exact ⟨_,⟨b,o,s,h1,rfl⟩,(h2.add off).vr⟩
 | fldv x off =>
  simp only [lq] at h
  cases hx:lv l x with
  | none=>rw [hx] at h; cases h
  | some u =>
   rw [hx] at h
   cases u <;> first | (cases h; done) | skip
   case agg cs =>
   obtain ⟨cs⟩:=cs
   obtain ⟨u',h1,cs',rfl,h2⟩:=lv_ev hl hx
   obtain ⟨v',h3,h4⟩:=h2.get h
   exact ⟨v',⟨_,h1,by simpa using h3⟩,h4.vr⟩
 | fldn x off k =>
  simp only [lq] at h
  cases hx:lv l x with
  | none=>rw [hx] at h; cases h
  | some u =>
   rw [hx] at h
   cases u <;> first | (cases h; done) | skip
   case agg cs =>
   obtain ⟨cs⟩:=cs
   cases h
   obtain ⟨u',h1,cs',rfl,h2⟩:=lv_ev hl hx
   refine ⟨_,⟨_,h1,rfl⟩,((cs'.take (off+k)).drop off),?_,(h2.take (off+k)).drop off⟩
   simp [List.drop_take]
 | idx x i size =>
  simp only [lq] at h
  cases hx:lv l x with
  | none=>rw [hx] at h; cases h
  | some u =>
   rw [hx] at h
   cases u <;> first | (cases h; done) | skip
   case slice p n c =>
   cases p <;> first | (cases h; done) | skip
   case some p =>
   cases hi:lint l i with
   | none=>rw [hi] at h; cases h
   | some j =>
    rw [hi] at h
    cases j <;> first | (cases h; done) | skip
    case ofNat j =>
    simp only at h
    cases hb:Nat.blt j n
    ·rw [hb] at h; cases h
    ·rw [hb] at h
     have hlt:j<n:=Nat.le_of_ble_eq_true hb
     obtain ⟨k,hk⟩:=lint_ok hl hi
     rcases p with ⟨pb,po,_ | s⟩
     rotate_left
     ·cases h
      obtain ⟨u',h1,rfl | ⟨h2,_,_⟩⟩:=lv_ev hl hx
      rotate_left
      ·omega
      refine ⟨_,⟨_,n,_,k,_,h1,hk,Int.natCast_nonneg _,by simpa using hlt,rfl⟩,?_⟩
      show Value.pointer (some (Addr.add _ _))=_
      rw [add_none]; rfl
     cases h
     obtain ⟨u',h1,h2,r,h3,⟨a',c',rfl,h4⟩ | ⟨h4,_⟩⟩:=lv_ev hl hx
     rotate_left
     ·omega
     rcases h4 with ⟨h4,h5⟩ | ⟨h4,_⟩
     ·exact ⟨_,⟨_,n,_,k,_,h1,hk,Int.natCast_nonneg _,by simpa using hlt,rfl⟩,(AR.add (a:=⟨pb,po,none⟩) ⟨h2,r,h3,h4⟩ _).vr⟩
     ·omega
 | idxa x i n size =>
  simp only [lq] at h
  cases hx:lptr l x with
  | none=>rw [hx] at h; cases h
  | some p =>
   rw [hx] at h
   cases hi:lint l i with
   | none=>rw [hi] at h; cases h
   | some j =>
    rw [hi] at h
    cases j <;> first | (cases h; done) | skip
    case ofNat j =>
    simp only at h
    cases hb:Nat.blt j n
    ·rw [hb] at h; cases h
    ·rw [hb] at h; cases h
     have hlt:j<n:=Nat.le_of_ble_eq_true hb
     obtain ⟨k,hk⟩:=lint_ok hl hi
     obtain ⟨p',h1,h2⟩:=lptr_ok hl hx
     exact ⟨_,⟨_,k,_,h1,hk,Int.natCast_nonneg _,by simpa using hlt,rfl⟩,(h2.add _).vr⟩
 | ext x k =>
  simp only [lq] at h
  cases hx:lv l x with
  | none=>rw [hx] at h; cases h
  | some u =>
   rw [hx] at h
   cases u <;> first | (cases h; done) | skip
   case tuple cs =>
   obtain ⟨cs⟩:=cs
   obtain ⟨u',h1,cs',rfl,h2⟩:=lv_ev hl hx
   obtain ⟨v',h3,h4⟩:=h2.get h
   exact ⟨v',⟨_,h1,by simpa using h3⟩,h4.vr⟩
 | bin op x y =>
  simp only [lq] at h
  cases hx:lv l x with
  | none=>rw [hx] at h; cases h
  | some u =>
   rw [hx] at h
   cases u <;> first | (cases h; done) | skip
   case int k a =>
   cases hy:lv l y with
   | none=>rw [hy] at h; cases h
   | some u =>
    rw [hy] at h
    cases u <;> first | (cases h; done) | skip
    case int k' b =>
    simp only at h
    cases he:ikEq k k'
    ·rw [he] at h; cases h
    ·rw [he] at h
     have he:=of_decide_eq_true he
     subst he
     simp only [cond_true] at h
     cases hb:ibin op k a b with
     | none=>rw [hb] at h; cases h
     | some u =>
      rw [hb] at h
      simp only at h
      cases hs:still u
      ·rw [hs] at h; cases h
      ·rw [hs] at h; cases h
       obtain ⟨_,h1,rfl⟩:=lv_ev hl hx
       obtain ⟨_,h2,rfl⟩:=lv_ev hl hy
       exact ⟨v,⟨k,a,b,h1,h2,hb⟩,VR.still hs⟩
 | nilp neg x =>
  simp only [lq] at h
  cases hx:lv l x with
  | none=>rw [hx] at h; cases h
  | some u =>
   rw [hx] at h
   cases u <;> first | (cases h; done) | skip
   case pointer p =>
   cases h
   cases p with
   | none=>obtain ⟨_,h1,rfl⟩:=lv_ev hl hx; exact ⟨_,⟨_,h1,rfl⟩,rfl⟩
   | some p =>
    rcases p with ⟨b,o,_ | s⟩
    ·obtain ⟨_,h1,p',rfl,_⟩:=lv_ev hl hx; exact ⟨_,⟨_,h1,rfl⟩,rfl⟩
    ·obtain ⟨_,h1,h2⟩:=lv_ev hl hx
     have h2:_=Value.pointer _:=h2
     subst h2; exact ⟨_,⟨_,h1,rfl⟩,rfl⟩
 | un op x =>
  simp only [lq] at h
  cases hx:lv l x with
  | none=>rw [hx] at h; cases op <;> cases h
  | some u =>
   rw [hx] at h
   cases op <;> first | (cases h; done) | skip
   case not =>
    cases u <;> first | (cases h; done) | skip
    cases h; obtain ⟨_,h1,rfl⟩:=lv_ev hl hx; exact ⟨_,.inl ⟨_,rfl,h1,rfl⟩,rfl⟩
   case neg =>
    cases u <;> first | (cases h; done) | skip
    cases h; obtain ⟨_,h1,rfl⟩:=lv_ev hl hx; exact ⟨_,.inr ⟨_,_,rfl,h1,rfl⟩,rfl⟩
 | cvi k x =>
  simp only [lq] at h
  cases hx:lint l x with
  | none=>rw [hx] at h; cases h
  | some i=>rw [hx] at h; cases h; obtain ⟨k',hk⟩:=lint_ok hl hx; exact ⟨_,⟨k',i,hk,rfl⟩,rfl⟩
 | len x =>
  simp only [lq] at h
  cases hx:lv l x with
  | none=>rw [hx] at h; cases h
  | some u =>
   rw [hx] at h
   cases u <;> first | (cases h; done) | skip
   case slice p n c =>
   cases h
   cases p with
   | none=>obtain ⟨_,h1,rfl⟩:=lv_ev hl hx; exact ⟨_,⟨_,_,_,h1,rfl⟩,rfl⟩
   | some p =>
    rcases p with ⟨b,o,_ | s⟩
    ·obtain ⟨_,h1,_,r,_,⟨a',c',rfl,_⟩ | ⟨rfl,_,_,rfl⟩⟩:=lv_ev hl hx <;> exact ⟨_,⟨_,_,_,h1,rfl⟩,rfl⟩
    ·obtain ⟨_,h1,rfl | ⟨rfl,_,_,rfl⟩⟩:=lv_ev hl hx <;> exact ⟨_,⟨_,_,_,h1,rfl⟩,rfl⟩
 | slc x lo hi size =>
  simp only [lq] at h
  cases hx:lv l x with
  | none=>rw [hx] at h; cases h
  | some u =>
   rw [hx] at h
   cases u <;> first | (cases h; done) | skip
   case slice p n c =>
   simp only at h
   cases hlo:lbound l lo 0 with
   | none=>rw [hlo] at h; cases h
   | some lo' =>
    rw [hlo] at h
    cases hhi:lbound l hi n with
    | none=>rw [hhi] at h; cases h
    | some hi' =>
     rw [hhi] at h
     simp only at h
     cases hb:(Nat.ble lo' hi' && Nat.ble hi' c)
     ·rw [hb] at h; cases h
     ·rw [hb] at h
      simp only [cond_true] at h
      rw [Bool.and_eq_true] at hb
      have h1:=Nat.le_of_ble_eq_true hb.1
      have h2:=Nat.le_of_ble_eq_true hb.2
      have b1:=lbound_ok hl hlo
      have b2:=lbound_ok hl hhi
      cases p with
      | none =>
       cases h
       obtain ⟨_,h3,rfl⟩:=lv_ev hl hx
       refine ⟨_,⟨none,n,c,lo',hi',h3,b1,b2,h1,h2,rfl⟩,?_⟩
       show Value.slice _ _ _=Value.slice _ _ _
       congr 1
       split <;> rfl
      | some p =>
       rcases p with ⟨b,o,s⟩
       cases s with
       | some s =>
        simp only at h
        cases he:Nat.beq lo' 0
        ·rw [he] at h; cases h
        ·rw [he] at h; cases h
         obtain rfl:=Nat.eq_of_beq_eq_true he
         obtain ⟨_,h3,rfl | ⟨rfl,rfl,ax,rfl⟩⟩:=lv_ev hl hx
         ·refine ⟨_,⟨some ⟨b,o,none⟩,n,c,0,hi',h3,b1,b2,h1,h2,rfl⟩,.inl ?_⟩
          show Value.slice _ _ _=Value.slice _ _ _
          congr 1
          simp [Addr.add]
         ·obtain rfl:hi'=0:=by omega
          exact ⟨_,⟨ax,0,0,0,0,h3,b1,b2,h1,h2,rfl⟩,.inr ⟨rfl,rfl,ax,by simp⟩⟩
       | none =>
       cases h
       obtain ⟨_,h3,hs,r,h4,⟨a',c',rfl,h5⟩ | ⟨rfl,rfl,ax,rfl⟩⟩:=lv_ev hl hx
       ·cases hs
        refine ⟨_,⟨some a',n,c',lo',hi',h3,b1,b2,h1,by rcases h5 with ⟨_,h5⟩ | ⟨h5,h6,h7,_⟩ <;> omega,rfl⟩,?_⟩
        rw [add_none]
        rcases h5 with ⟨rfl,rfl⟩ | ⟨rfl,rfl,rfl,o',rfl,ho'⟩
        ·refine ⟨rfl,r,h4,.inl ⟨(if c+r.2.2=lo' then ⟨r.1,o+r.2.1,none⟩ else Addr.add ⟨r.1,o+r.2.1,none⟩ (lo'*size)),c+r.2.2-lo',by split <;> rfl,?_⟩⟩
         by_cases e:c+r.2.2=lo'
         ·right
          rw [if_pos e]
          exact ⟨by omega,by omega,by omega,_,rfl,by simp⟩
         ·left
          rw [if_neg e,add_none]
          exact ⟨by simp; omega,by omega⟩
        ·have e1:lo'=0:=by omega
         subst e1
         refine ⟨rfl,r,h4,.inl ⟨⟨r.1,o',none⟩,0,by simp,.inr ⟨by omega,by omega,rfl,o',rfl,by simpa using ho'⟩⟩⟩
       ·cases hs
        have e1:lo'=0:=by omega
        have e2:hi'=0:=by omega
        subst e1; subst e2
        refine ⟨_,⟨ax,0,0,0,0,h3,b1,b2,h1,by omega,rfl⟩,?_⟩
        rw [add_none]
        exact ⟨rfl,r,h4,.inr ⟨rfl,rfl,ax,by simp⟩⟩
 | bld zero parts =>
  simp only [lq] at h
  cases hz:zero.all stillS
  ·rw [hz] at h; cases h
  ·rw [hz] at h
   simp only [cond_true] at h
   cases hb:bldL l zero parts with
   | none=>rw [hb] at h; cases h
   | some vs =>
    rw [hb] at h; cases h
    obtain ⟨vs',h1,h2⟩:=bldL_ok hl parts zero zero hb (L2.self fun a ha=>SR.still (List.all_eq_true.1 hz a ha))
    exact ⟨_,⟨vs',h1,rfl⟩,vs',rfl,h2⟩
 | ld x =>
  simp only [lq] at h
  cases hx:lptr l x with
  | none=>rw [hx] at h; cases h
  | some p =>
   rw [hx] at h
   obtain ⟨p',h1,h2⟩:=lptr_ok hl hx
   obtain ⟨v',h3,h4⟩:=lcell_ok hR h2 h
   exact ⟨v',⟨p',h1,h3⟩,h4.vr⟩
 | ldn x n =>
  simp only [lq] at h
  cases hx:lptr l x with
  | none=>rw [hx] at h; cases h
  | some p =>
   rw [hx] at h
   simp only at h
   cases hc:lcells L p n with
   | none=>rw [hc] at h; cases h
   | some vs =>
    rw [hc] at h; cases h
    obtain ⟨⟨b,o,s⟩,h1,h2⟩:=lptr_ok hl hx
    obtain ⟨cs,vs',hB,hs,hle,rfl,h3,h4⟩:=lcells_ok hR h2 hc
    cases hs
    refine ⟨_,⟨_,((cs.drop o).take n).toArray,h1,by simpa using h4,fun i hi=>?_,rfl⟩,_,rfl,h3⟩
    rw [add_none,hB.cellEq]
    simp [hi]
 | sh lft x y =>
  simp only [lq] at h
  split at h <;> first | (cases h; done) | skip
  rename_i k a k' n hx hy
  cases h
  obtain ⟨_,h1,rfl⟩:=lv_ev hl hx
  obtain ⟨_,h2,rfl⟩:=lv_ev hl hy
  exact ⟨_,⟨k,a,k',_,h1,h2,Int.natCast_nonneg _,rfl⟩,rfl⟩
 | xorn x =>
  simp only [lq] at h
  split at h <;> first | (cases h; done) | skip
  rename_i k n hx
  cases h
  obtain ⟨_,h1,rfl⟩:=lv_ev hl hx
  exact ⟨_,⟨k,n,h1,rfl⟩,rfl⟩
 | mm mx x y =>
  simp only [lq] at h
  split at h <;> first | (cases h; done) | skip
  rename_i k a k' b hx hy
  cases he:ikEq k k'
  ·rw [he] at h; cases h
  rw [he] at h; cases h
  have he:=of_decide_eq_true he
  subst he
  obtain ⟨_,h1,rfl⟩:=lv_ev hl hx
  obtain ⟨_,h2,rfl⟩:=lv_ev hl hy
  exact ⟨_,⟨k,a,b,h1,h2,rfl⟩,rfl⟩
 | mkf fn first cap =>
  simp only [lq] at h
  split at h <;> first | (cases h; done) | skip
  rename_i a c ha hc
  cases hs:(a.all s0 && c.all s0)
  ·rw [hs] at h; cases h
  rw [hs] at h; cases h
  rw [Bool.and_eq_true] at hs
  obtain ⟨a',h1,h2⟩:=lvs_evs hl ha
  obtain ⟨c',h3,h4⟩:=lvs_evs hl hc
  exact ⟨_,⟨a',c',h1,h3,rfl⟩,a',c',rfl,L2.s0 hs.1 h2,L2.s0 hs.2 h4⟩
 | raw o=>exact hr _ _ _ _ _ _ _ _ _ h hR hl
end Go.Tum
end
section
namespace Go.Tum
open Go
def fL {α β:Type}:List α→(List α→β)→β
 | [],k=>k []
 | a::r,k=>fL r fun r'=>k (a::r')
theorem fL_eq {α β:Type}:∀ (l:List α) (k:List α→β),fL l k=k l
 | [],_=>rfl
 | a::r,k=>by simp only [fL]; rw [fL_eq r]
def fN {β:Type}:Nat→(Nat→β)→β
 | 0,k=>k 0
 | n+1,k=>k (n+1)
theorem fN_eq {β:Type}:∀ (n:Nat) (k:Nat→β),fN n k=k n
 | 0,_=>rfl
 | _+1,_=>rfl
def fV {β:Type}:Value→(Value→β)→β
 | .int k (.ofNat n),c=>fN n fun n=>c (.int k (.ofNat n))
 | .int k (.negSucc n),c=>fN n fun n=>c (.int k (.negSucc n))
 | .pointer (some ⟨b,o,s⟩),c=>fN b fun b=>fN o fun o=>c (.pointer (some ⟨b,o,s⟩))
 | .slice (some ⟨b,o,s⟩) n m,c=>fN o fun o=>fN n fun n=>fN m fun m=>c (.slice (some ⟨b,o,s⟩) n m)
 | v,c=>c v
theorem fV_eq {β:Type} (v:Value) (k:Value→β):fV v k=k v:=by
 unfold fV
 split <;> simp only [fN_eq]
def addrEq (a b:Addr):Bool :=
 match a,b with
 | ⟨b,o,none⟩,⟨b',o',none⟩=>Nat.beq b b' && Nat.beq o o'
 | _,_=>false
def veq0:Value→Value→Bool
 | .bool a,.bool b=>a == b
 | .int k a,.int k' b=>ikEq k k' && decide (a=b)
 | .float k a,.float k' b=>decide (k=k') && Nat.beq a b
 | .string a,.string b=>a.data.toList == b.data.toList
 | .pointer none,.pointer none=>true
 | .pointer (some a),.pointer (some b)=>addrEq a b
 | .slice none n c,.slice none n' c'=>Nat.beq n n' && Nat.beq c c'
 | .slice (some a) n c,.slice (some b) n' c'=>addrEq a b && Nat.beq n n' && Nat.beq c c'
 | .map none,.map none=>true
 | .map (some a),.map (some b)=>Nat.beq a b
 | .nilFunc,.nilFunc=>true
 | .nilIface,.nilIface=>true
 | _,_=>false
def veqG (f:Value→Value→Bool):List Value→List Value→Bool
 | [],[]=>true
 | a::r,b::s=>f a b && veqG f r s
 | _,_=>false
def veqS:Value→Value→Bool
 | .func f ⟨a⟩ ⟨c⟩,.func f' ⟨a'⟩ ⟨c'⟩=>decide (f=f') && veqG veq0 a a' && veqG veq0 c c'
 | a,b=>veq0 a b
def veq1:Value→Value→Bool
 | .agg ⟨a⟩,.agg ⟨b⟩=>veqG veqS a b
 | a,b=>veqS a b
def veq:Value→Value→Bool
 | .tuple ⟨a⟩,.tuple ⟨b⟩=>veqG veq1 a b
 | a,b=>veq1 a b
def rn (N:Nat) (φ:List Nat) (b:Nat):Nat:=(φ[b]?).getD N
def rnA (N:Nat) (φ:List Nat) (a:Addr):Addr:=match a.spot with
 | none=>⟨rn N φ a.block,a.off,none⟩
 | some s=>⟨a.block,a.off,some s⟩
def rn0 (N:Nat) (φ:List Nat):Value→Value
 | .pointer (some a)=>.pointer (some (rnA N φ a))
 | .slice (some a) n c=>.slice (some (rnA N φ a)) n c
 | .map (some b)=>.map (some (rn N φ b))
 | v=>v
def rnS (N:Nat) (φ:List Nat):Value→Value
 | .func f ⟨a⟩ ⟨c⟩=>.func f ⟨a.map (rn0 N φ)⟩ ⟨c.map (rn0 N φ)⟩
 | v=>rn0 N φ v
def rn1 (N:Nat) (φ:List Nat):Value→Value
 | .agg ⟨cs⟩=>.agg ⟨cs.map (rnS N φ)⟩
 | v=>rnS N φ v
def rnV (N:Nat) (φ:List Nat):Value→Value
 | .tuple ⟨vs⟩=>.tuple ⟨vs.map (rn1 N φ)⟩
 | v=>rn1 N φ v
def rnB (N:Nat) (φ:List Nat):LB→LB
 | .cells sz vs=>.cells sz (vs.map (rnS N φ))
 | .map m c=>.map (m.map fun x=>(rn1 N φ x.1,rn1 N φ x.2.1,x.2.2)) c
 | .iter m a l b=>.iter (m.map (rn N φ)) a l b
 | x=>x
def rnE (N:Nat) (φ:List Nat):Env→Env
 | []=>[]
 | (k,v)::r=>(k,rnV N φ v)::rnE N φ r
def subE (E:Emb) (φ:List Nat):Emb:=φ.map fun k=>E.getD k (0,0,0)
section
variable {E:Emb} {φ:List Nat}
theorem subE_get {b:Nat} {r:Nat × Nat × Nat} (h:E[rn E.length φ b]?=some r):(subE E φ)[b]?=some r:=by
 unfold rn at h
 unfold subE
 cases hb:φ[b]? with
 | none=>rw [hb] at h; simp at h
 | some k =>
  rw [hb] at h
  simp only [Option.getD_some] at h
  simp [hb,h]
theorem S0.sub {v v':Value} (h:S0 E (rn0 E.length φ v) v'):S0 (subE E φ) v v':=by
 cases v <;> first|exact h | skip
 case pointer a =>
  cases a with
  | none=>exact h
  | some a=>rcases a with ⟨b,o,_ | s⟩ <;> first|exact h | (obtain ⟨a',h1,h2,r,h3,h4⟩:=h; exact ⟨a',h1,h2,r,subE_get h3,h4⟩)
 case slice a n c =>
  cases a with
  | none=>exact h
  | some a=>rcases a with ⟨b,o,_ | s⟩ <;> first|exact h | (obtain ⟨h1,r,h2,h3⟩:=h; exact ⟨h1,r,subE_get h2,h3⟩)
 case map a =>
  cases a with
  | none=>exact h
  | some a=>obtain ⟨r,h1,h2⟩:=h; exact ⟨r,subE_get h1,h2⟩
theorem L2.sub {R S:Value→Value→Prop} {f:Value→Value} (h:∀ v v',R (f v) v'→S v v'):∀ {x y:List Value},L2 R (x.map f) y→L2 S x y
 | [],[],_=>trivial
 | _::_,_::_,k=>⟨h _ _ k.1,L2.sub h k.2⟩
 | [],_::_,k=>k.elim
 | _::_,[],k=>k.elim
theorem SR.sub {v v':Value} (h:SR E (rnS E.length φ v) v'):SR (subE E φ) v v':=by
 cases v <;> first|exact h | skip
 case pointer a=>(cases a with | none=>exact S0.sub (E:=E) (φ:=φ) (v:=.pointer none) h | some a=>exact S0.sub (E:=E) (φ:=φ) (v:=.pointer (some a)) h)
 case slice a n c=>(cases a with | none=>exact S0.sub (E:=E) (φ:=φ) (v:=.slice none n c) h | some a=>exact S0.sub (E:=E) (φ:=φ) (v:=.slice (some a) n c) h)
 case map a=>(cases a with | none=>exact S0.sub (E:=E) (φ:=φ) (v:=.map none) h | some a=>exact S0.sub (E:=E) (φ:=φ) (v:=.map (some a)) h)
 case func f a c =>
  obtain ⟨a⟩:=a
  obtain ⟨c⟩:=c
  obtain ⟨a',c',h1,h2,h3⟩:=h
  exact ⟨a',c',h1,L2.sub (fun _ _=>S0.sub) h2,L2.sub (fun _ _=>S0.sub) h3⟩
theorem V1.sub {v v':Value} (h:V1 E (rn1 E.length φ v) v'):V1 (subE E φ) v v':=by
 cases v <;> first|exact h | skip
 case pointer a=>(cases a with | none=>exact SR.sub (E:=E) (φ:=φ) (v:=.pointer none) h | some a=>exact SR.sub (E:=E) (φ:=φ) (v:=.pointer (some a)) h)
 case slice a n c=>(cases a with | none=>exact SR.sub (E:=E) (φ:=φ) (v:=.slice none n c) h | some a=>exact SR.sub (E:=E) (φ:=φ) (v:=.slice (some a) n c) h)
 case map a=>(cases a with | none=>exact SR.sub (E:=E) (φ:=φ) (v:=.map none) h | some a=>exact SR.sub (E:=E) (φ:=φ) (v:=.map (some a)) h)
 case func f a c=>exact SR.sub (v:=.func f a c) h
 case agg cs=>obtain ⟨cs⟩:=cs; obtain ⟨cs',h1,h2⟩:=h; exact ⟨cs',h1,L2.sub (fun _ _=>SR.sub) h2⟩
theorem VR.sub {v v':Value} (h:VR E (rnV E.length φ v) v'):VR (subE E φ) v v':=by
 cases v <;> first|exact h | skip
 case pointer a=>(cases a with | none=>exact V1.sub (E:=E) (φ:=φ) (v:=.pointer none) h | some a=>exact V1.sub (E:=E) (φ:=φ) (v:=.pointer (some a)) h)
 case slice a n c=>(cases a with | none=>exact V1.sub (E:=E) (φ:=φ) (v:=.slice none n c) h | some a=>exact V1.sub (E:=E) (φ:=φ) (v:=.slice (some a) n c) h)
 case map a=>(cases a with | none=>exact V1.sub (E:=E) (φ:=φ) (v:=.map none) h | some a=>exact V1.sub (E:=E) (φ:=φ) (v:=.map (some a)) h)
 case func f a c=>exact V1.sub (v:=.func f a c) h
 case agg cs=>exact V1.sub (v:=.agg cs) h
 case tuple cs=>obtain ⟨cs⟩:=cs; obtain ⟨cs',h1,h2⟩:=h; exact ⟨cs',h1,L2.sub (fun _ _=>V1.sub) h2⟩
theorem eget_rnE (N:Nat) (φ:List Nat):∀ (l:Env) (t:Nat) (v:Value),eget l t=some v→eget (rnE N φ l) t=some (rnV N φ v)
 | [],t,v,h=>by cases h
 | (k,u)::r,t,v,h=>by
  simp only [rnE]
  rw [eget_cons] at h ⊢
  by_cases e:k=t
  ·rw [if_pos e] at h ⊢; cases h; rfl
  ·rw [if_neg e] at h ⊢; exact eget_rnE N φ r t v h
theorem ER.sub {l l':Env} (h:ER E (rnE E.length φ l) l'):ER (subE E φ) l l':=fun t v ht=>let ⟨v',h1,h2⟩:=h t _ (eget_rnE _ _ l t v ht); ⟨v',h1,h2.sub⟩
theorem M2.sub:∀ {m:List (Value × Value × Nat)} {es:List MapEntry},M2 E (m.map fun x=>(rn1 E.length φ x.1,rn1 E.length φ x.2.1,x.2.2)) es→M2 (subE E φ) m es
 | [],[],_=>trivial
 | _::_,_::_,k=>⟨⟨k.1.1.sub,k.1.2.1.sub,k.1.2.2⟩,M2.sub k.2⟩
 | [],_::_,k=>k.elim
 | _::_,[],k=>k.elim
theorem foot_rn (N:Nat) (r:Nat × Nat × Nat) (x:LB):foot r (rnB N φ x)=foot r x:=by
 cases x <;> rfl
theorem LBis.sub {w:World} {r:Nat × Nat × Nat} {x:LB} (h:LBis E w r (rnB E.length φ x)):LBis (subE E φ) w r x:=by
 cases x with
 | cells sz vs =>
  obtain ⟨cs,h1,h2,h3⟩:=h
  simp only [List.length_map] at h2 h3
  exact ⟨cs,h1,L2.sub (fun _ _=>SR.sub) h2,h3⟩
 | map m c=>obtain ⟨es,h1,h2⟩:=h; exact ⟨es,h1,h2.sub⟩
 | iter m a l b =>
  obtain ⟨h0,m',h1,h2⟩:=h
  refine ⟨h0,m',h1,?_⟩
  cases m with
  | none=>exact h2
  | some b=>obtain ⟨q,h3,h4⟩:=h2; exact ⟨q,subE_get h3,h4⟩
 | data vs=>exact h
 | bytes n x=>exact h
 | gro sz vs=>exact h
 | dead=>exact h
 | abs A F=>exact h
 | imap G c=>exact h
end
section
variable {X:Nat→Prop} {w0 w:World} {E:Emb} {L M:LH} {φ:List Nat}
theorem Rep.sub (h:Rep X w0 E M w) (hlen:φ.length=L.length) (hb:∀ (k:Nat) (x:LB),L[k]?=some x→x=.dead∨∃ j,φ[k]?=some j∧M[j]?=some (rnB M.length φ x))
  (hinj:∀ (k k' j:Nat) (x x':LB),φ[k]?=some j→φ[k']?=some j→L[k]?=some x→L[k']?=some x'→x≠.dead→x'≠.dead→k=k'):Rep X w0 (subE E φ) L w:=by
 have key:∀ (k:Nat) (x:LB) (r:Nat × Nat × Nat),L[k]?=some x→(subE E φ)[k]?=some r→x=.dead∨∃ j,φ[k]?=some j∧M[j]?=some (rnB E.length φ x)∧E[j]?=some r:=by
  intro k x r hx hr
  rcases hb k x hx with h1 | ⟨j,h1,h2⟩
  ·exact .inl h1
  ·refine .inr ⟨j,h1,by rw [h.len]; exact h2,?_⟩
   obtain ⟨r',hr'⟩:=h.ent h2
   unfold subE at hr
   simp only [List.getElem?_map,h1,Option.map_some,Option.some.injEq] at hr
   rw [← hr]
   simp [hr']
 refine ⟨h.fr,by simp [subE,hlen],fun k x r hx hr b hf=>?_,fun k x r hx hr=>?_,fun k k' x x' r r' b hx hx' hr hr' hf hf'=>?_⟩
 ·rcases key k x r hx hr with rfl | ⟨j,h1,h2,h3⟩
  ·exact hf.elim
  ·exact h.rng j _ r h2 h3 b (by rw [foot_rn]; exact hf)
 ·rcases key k x r hx hr with rfl | ⟨j,h1,h2,h3⟩
  ·trivial
  ·exact (h.blk j _ r h2 h3).sub
 ·rcases key k x r hx hr with rfl | ⟨j,h1,h2,h3⟩
  ·exact hf.elim
  ·rcases key k' x' r' hx' hr' with rfl | ⟨j',h1',h2',h3'⟩
   ·exact hf'.elim
   ·have:=h.inj j j' _ _ r r' b h2 h2' h3 h3' (by rw [foot_rn]; exact hf) (by rw [foot_rn]; exact hf')
    subst this
    exact hinj k k' j x x' h1 h1' hx hx' (fun e=>by subst e; exact hf) (fun e=>by subst e; exact hf')
end
abbrev USt:=List (Nat × Nat) × List (Nat × Nat)
def passoc:List (Nat × Nat)→Nat→Option Nat
 | [],_=>none
 | (a,b)::r,k=>bif Nat.beq a k then some b else passoc r k
def uadd (n b c:Nat) (s:USt):USt :=
 bif Nat.blt b n then s else match passoc s.1 b with
  | some _=>s
  | none=>((b,c)::s.1,(b,c)::s.2)
def u0 (n:Nat):Value→Value→USt→USt
 | .pointer (some a),.pointer (some b),s=>uadd n a.block b.block s
 | .slice (some a) _ _,.slice (some b) _ _,s=>uadd n a.block b.block s
 | .map (some a),.map (some b),s=>uadd n a b s
 | _,_,s=>s
def ndup:List Nat→Bool
 | []=>true
 | a::r => !(r.any (Nat.beq a)) && ndup r
theorem ndup_ok:∀ {l:List Nat},ndup l=true→l.Nodup
 | [],_=>List.nodup_nil
 | a::r,h=>by
  simp only [ndup,Bool.and_eq_true,Bool.not_eq_true'] at h
  refine List.nodup_cons.2 ⟨fun hm=>?_,ndup_ok h.2⟩
  have:=List.any_eq_false.1 h.1 a hm
  rw [Nat.beq_refl] at this; exact this rfl
theorem Rep.weak {X:Nat→Prop} {w0 w:World} {E:Emb} {L K:LH} (h:Rep X w0 E L w) (hlen:K.length=L.length) (hk:∀ (k:Nat) (x:LB),K[k]?=some x→x=.dead∨L[k]?=some x):Rep X w0 E K w:=by
 refine ⟨h.fr,by rw [h.len,hlen],fun k x r hx hr b hf=>?_,fun k x r hx hr=>?_,fun k k' x x' r r' b hx hx' hr hr' hf hf'=>?_⟩
 ·rcases hk k x hx with rfl | h1
  ·exact hf.elim
  ·exact h.rng k x r h1 hr b hf
 ·rcases hk k x hx with rfl | h1
  ·trivial
  ·exact h.blk k x r h1 hr
 ·rcases hk k x hx with rfl | h1
  ·exact hf.elim
  ·rcases hk k' x' hx' with rfl | h1'
   ·exact hf'.elim
   ·exact h.inj k k' x x' r r' b h1 h1' hr hr' hf hf'
end Go.Tum
end
