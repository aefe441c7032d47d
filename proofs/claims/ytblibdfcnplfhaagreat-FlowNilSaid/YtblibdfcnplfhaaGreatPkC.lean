/-
  What the proof leans on, part 3: of the texts RunCode, RunRaw, RunAll, RunMap, RunIter, Join.
-/
import Derived.Test.YtblibdfcnplfhaaGreatPkB
set_option linter.unusedVariables false
set_option linter.unusedSimpArgs false
set_option linter.unusedSectionVars false
section
namespace Go.Tum
open Go
abbrev CallF:=FuncId→List Value→LH→Option (Value × LH)
abbrev RawQ:=LH→Env→Oper→Option Value
abbrev RawE:=LH→Env→Oper→Option (Value × LH)
theorem S0.vr {E:Emb} {v v':Value} (h:S0 E v v'):VR E v v':=by
 cases v <;> first|exact h|exact h.elim
def lspl (cs:List Value) (o:Nat) (vs:List Value):List Value:=cs.take o++vs++cs.drop (o+vs.length)
def le (call:CallF) (rawE:RawE) (L:LH) (l:Env):EOp→Option (Value × LH)
 | .st x v=>match lptr l x,lv l v with
  | some ⟨b,o,none⟩,some u=>bif one u then (match L[b]? with
   | some (.cells sz vs)=>bif Nat.blt o vs.length then fL (vs.set o u) fun us=>fL (L.set b (.cells sz us)) fun L=>some (undef,L) else none
   | some (.bytes n x)=>(match u with
    | .int .u8 (.ofNat c)=>bif Nat.blt o n && Nat.blt c 256 then fN (bset x o c) fun x=>fL (L.set b (.bytes n x)) fun L=>some (undef,L) else none
    | _=>none)
   | _=>none) else none
  | _,_=>none
 | .stn x v n=>match lptr l x,lv l v with
  | some ⟨b,o,none⟩,some (.agg ⟨us⟩)=>bif Nat.beq us.length n then (match L[b]? with
   | some (.cells sz vs)=>bif Nat.ble (o+n) vs.length then fL (lspl vs o us) fun us=>fL (L.set b (.cells sz us)) fun L=>some (undef,L) else none
   | _=>none) else none
  | _,_=>none
 | .new _ zero=>bif zero.all stillS then fV (.pointer (some ⟨L.length,0,none⟩)) fun p=>fL (L++[.cells 0 zero]) fun L=>some (p,L) else none
 | .box _ x=>match lv l x with
  | some u=>bif notTup u then fV (.pointer (some ⟨L.length,0,none⟩)) fun p=>fL u.cells.toList fun us=>fL (L++[.cells 0 us]) fun L=>some (p,L) else none
  | none=>none
 | .bs0 _=>some (.slice (some ⟨L.length,0,none⟩) 0 0,L++[.cells 0 []])
 | .bs1 _ n x=>match lv l x with
  | some u=>bif notTup u && Nat.beq u.cells.toList.length n then some (.slice (some ⟨L.length,0,none⟩) 1 1,L++[.cells 0 u.cells.toList]) else none
  | none=>none
 | .call f args=>match lvs l args with
  | some vs=>call f vs L
  | none=>none
 | .callv x args=>match lv l x,lvs l args with
  | some (.func (.func f) ⟨a⟩ ⟨c⟩),some vs=>call f (a++vs++c) L
  | _,_=>none
 | .raw o=>rawE L l o
abbrev HypW:=(Nat→Prop)→World→Prop
def CallAt (X:Nat→Prop) (w0:World) (P:Program) (call:CallF):Prop :=
 ∀ w E L f vs vs' v L',call f vs L=some (v,L')→Rep X w0 E L w→L2 (VR E) vs vs'→callable P f=true∧Does P f vs'.toArray w fun v' w'=>∃ E',Ext E E'∧VR E' v v'∧Rep X w0 E' L' w'
def CallOk (H:HypW) (P:Program) (call:CallF):Prop:=∀ X w0,H X w0→CallAt X w0 P call
def RawEOk (P:Program) (rawE:RawE):Prop :=
 ∀ X w0 w E L l l' o v L' K,rawE L l o=some (v,L')→Rep X w0 E L w→ER E l l'→(∀ w' E' v',Ext E E'→Rep X w0 E' L' w'→VR E' v v'→K v' w')→(EOp.raw o).W P K l' w
theorem alloc_size (w:World) (o:Obj):(w.alloc o).heap.size=w.heap.size+1:=by show (w.heap.push o).size=_; simp
theorem splice_drop {cs vs:List Value} {o k:Nat} (h:k+vs.length≤cs.length) (hk:o≤k):(splice cs k vs).drop o=splice (cs.drop o) (k-o) vs:=by
 unfold splice
 rw [List.drop_append,List.drop_append,List.drop_take,List.drop_drop]
 have h1:(cs.take k).length=k:=by simp; omega
 rw [h1,Nat.sub_eq_zero_of_le hk,List.drop_zero]
 congr 1
 simp only [List.length_append,h1]
 have:o-(k+vs.length)=0:=by omega
 rw [this,List.drop_drop]
 congr 1; omega
theorem splice_take {cs vs:List Value} {k n:Nat} (h:k+vs.length≤n) (hn:n≤cs.length):(splice cs k vs).take n=splice (cs.take n) k vs:=by
 unfold splice
 have h1:(cs.take k).length=k:=by simp; omega
 have h2:(cs.take k++vs).length=k+vs.length:=by simp [h1]
 have e1:(cs.take k).take n=(cs.take n).take k:=by rw [List.take_take,List.take_take,Nat.min_comm]
 rw [List.take_append,List.take_append,e1,h1,h2,List.drop_take,List.take_of_length_le (l:=vs) (by omega)]
theorem L2_splice {R:Value→Value→Prop} {vs vs' us us':List Value} {o:Nat} (h:L2 R vs vs') (k:L2 R us us'):L2 R (lspl vs o us) (splice vs' o us'):=by
 unfold lspl splice
 rw [k.length]
 exact ((h.take o).append k).append (h.drop _)
theorem new_rep {X:Nat→Prop} {w0 w:World} {E:Emb} {L:LH} (hR:Rep X w0 E L w) {cs:Array Value} {t:TypeId} {vs:List Value} (h:L2 (SR E) vs cs.toList):Rep X w0 (E++[(w.heap.size,0,0)]) (L++[.cells 0 vs]) (w.alloc (.cells cs t)):=by
 refine hR.push1 (Fr.alloc _ _ _) rfl (alloc_size _ _) (fun _ h=>h) ⟨cs.toList,Blk.newA w cs t,?_,?_,fun _=>rfl⟩
 ·have hl:=h.length
  simp only [List.drop_zero]
  rw [List.take_of_length_le (by omega)]
  exact h.mono fun _ _=>SR.ext (Ext.push E _)
 ·have hl:=h.length
  simp at hl ⊢; omega
theorem Rep.last {X:Nat→Prop} {w0 w:World} {E:Emb} {L:LH} (hR:Rep X w0 E L w) (r:Nat × Nat × Nat):(E++[r])[L.length]?=some r:=by rw [← hR.len]; simp
theorem le_ok {P:Program} {call:CallF} {rawE:RawE} {X:Nat→Prop} {w0:World} (hc:CallAt X w0 P call) (hr:RawEOk P rawE) {w:World} {E:Emb} {L L':LH} {l l':Env} {e:EOp} {v:Value} {K:Value→World→Prop} (h:le call rawE L l e=some (v,L')) (hR:Rep X w0 E L w)
  (hl:ER E l l') (hK:∀ w' E' v',Ext E E'→Rep X w0 E' L' w'→VR E' v v'→K v' w'):e.W P K l' w:=by
 cases e with
 | st x y =>
  simp only [le,fL_eq] at h
  cases hx:lptr l x with
  | none=>rw [hx] at h; cases h
  | some p =>
   rw [hx] at h
   obtain ⟨b,o,s⟩:=p
   cases s <;> first | (cases h; done) | skip
   cases hy:lv l y with
   | none=>rw [hy] at h; cases h
   | some u =>
    rw [hy] at h
    simp only at h
    cases h1:one u
    ·rw [h1] at h; cases h
    ·rw [h1] at h
     simp only [cond_true] at h
     cases hb:L[b]? with
     | none=>rw [hb] at h; cases h
     | some x' =>
      rw [hb] at h
      cases x' <;> first | (cases h; done) | skip
      case bytes n x0 =>
       simp only at h
       split at h <;> first | (cases h; done) | skip
       rename_i c
       cases hlt:(Nat.blt o n && Nat.blt c 256)
       ·rw [hlt] at h; cases h
       ·rw [hlt] at h
        simp only [cond_true,fN_eq] at h
        cases h
        rw [Bool.and_eq_true] at hlt
        have ho:o<n:=Nat.le_of_ble_eq_true hlt.1
        have hc:c<256:=Nat.le_of_ble_eq_true hlt.2
        obtain ⟨p',hp,_,r,hrr,rfl⟩:=lptr_ok hl hx
        simp only at hrr
        obtain ⟨u',hu,huv⟩:=lv_ev hl hy
        obtain rfl:u'=.int .u8 (.ofNat c):=huv
        obtain ⟨hB,hr0⟩:=hR.blk b _ r hb hrr
        obtain ⟨r1,r2⟩:=r
        simp only at hr0 hB; subst hr0
        refine ⟨_,_,hp,hu,rfl,hB.some (by rw [bl_length]; simpa using ho),hB.frozen _,hK _ E _ (Ext.refl E) ?_ VR.undef⟩
        exact hR.upd hb hrr (Fr.setCell w ⟨r1,o+0,none⟩ _) ⟨by rw [bset_bl hc]; exact hB.set _ _,rfl⟩ (fun _ h=>.inl h)
      case cells sz vs =>
      simp only at h
      cases hlt:Nat.blt o vs.length
      ·rw [hlt] at h; cases h
      ·rw [hlt] at h; cases h
       have hlt:o<vs.length:=Nat.le_of_ble_eq_true hlt
       obtain ⟨p',hp,_,r,hrr,rfl⟩:=lptr_ok hl hx
       simp only at hrr
       obtain ⟨u',hu,huv⟩:=lv_ev hl hy
       have hus:=huv.sr h1
       obtain ⟨cs,hB,hl2,hle,hz⟩:=hR.blk b _ r hb hrr
       have ho:o+r.2.1<cs.length:=by have:=hl2.length; omega
       refine ⟨_,_,hp,hu,hus.one.2,hB.some ho,hB.frozen _,hK _ E _ (Ext.refl E) ?_ VR.undef⟩
       refine hR.upd hb hrr (Fr.setCell w ⟨r.1,o+r.2.1,none⟩ u') ⟨cs.set (o+r.2.1) u',hB.set _ _,?_,?_,hz⟩ (fun _ h=>.inl h)
       ·have h3:=hl2.set o hus
        rw [List.length_set]
        have e:((cs.set (o+r.2.1) u').drop r.2.1).take vs.length=((cs.drop r.2.1).take vs.length).set o u':=by
         rw [List.drop_set,if_neg (by omega),List.take_set]
         congr 1; omega
        rw [e]; exact h3
       ·simp only [List.length_set]; omega
 | stn x y n =>
  simp only [le,fL_eq] at h
  cases hx:lptr l x with
  | none=>rw [hx] at h; cases h
  | some p =>
   rw [hx] at h
   obtain ⟨b,o,s⟩:=p
   cases s <;> first | (cases h; done) | skip
   cases hy:lv l y with
   | none=>rw [hy] at h; cases h
   | some u =>
    rw [hy] at h
    cases u <;> first | (cases h; done) | skip
    case agg us =>
    obtain ⟨us⟩:=us
    simp only at h
    cases h1:Nat.beq us.length n
    ·rw [h1] at h; cases h
    ·rw [h1] at h
     simp only [cond_true] at h
     have hlen:=Nat.eq_of_beq_eq_true h1
     cases hb:L[b]? with
     | none=>rw [hb] at h; cases h
     | some x' =>
      rw [hb] at h
      cases x' <;> first | (cases h; done) | skip
      case cells sz vs =>
      simp only at h
      cases hlt:Nat.ble (o+n) vs.length
      ·rw [hlt] at h; cases h
      ·rw [hlt] at h; cases h
       have hlt:o+n≤vs.length:=Nat.le_of_ble_eq_true hlt
       obtain ⟨p',hp,_,r,hrr,rfl⟩:=lptr_ok hl hx
       simp only at hrr
       obtain ⟨u',hu,us',rfl,hus⟩:=lv_ev hl hy
       obtain ⟨cs,hB,hl2,hle,hz⟩:=hR.blk b _ r hb hrr
       have hul:=hus.length
       have hvl:=hl2.length
       have hcl:o+r.2.1+us'.length≤cs.length:=by omega
       refine ⟨_,_,hp,hu,by simp [hul,hlen],?_,fun i hi=>?_,hK _ E _ (Ext.refl E) ?_ VR.undef⟩
       ·intro u hu'
        obtain ⟨u0,_,h0⟩:=hus.mem u (by simpa using hu')
        exact h0.one.2
       ·rw [add_none]; exact ⟨hB.some (by show o+r.2.1+i<cs.length; omega),hB.frozen _⟩
       ·have hpb:=putCells_blk (o:=o+r.2.1) us' 0 w _ hB (by omega)
        simp only [Nat.add_zero] at hpb
        refine hR.upd hb hrr (putCells_fr (p:=⟨r.1,o+r.2.1,none⟩) us' 0 w) ⟨_,hpb,?_,?_,hz⟩ (fun _ h=>.inl h)
        ·have h3:=L2_splice (o:=o) hl2 hus
         have hll:(lspl vs o us).length=vs.length:=by
          unfold lspl; simp; omega
         rw [hll]
         have e:((splice cs (o+r.2.1) us').drop r.2.1).take vs.length=splice ((cs.drop r.2.1).take vs.length) o us':=by
          rw [splice_drop hcl (by omega),show o+r.2.1-r.2.1=o by omega,splice_take (by omega) (by simp; omega)]
         rw [e]; exact h3
        ·have hll:(lspl vs o us).length=vs.length:=by
          unfold lspl; simp; omega
         rw [hll,splice_length hcl]; exact hle
 | new t zero =>
  simp only [le,fL_eq,fV_eq] at h
  cases hz:zero.all stillS
  ·rw [hz] at h; cases h
  ·rw [hz] at h; cases h
   exact hK _ _ _ (Ext.push E _) (new_rep hR (L2.self fun a ha=>SR.still (List.all_eq_true.1 hz a ha))) ⟨_,rfl,rfl,_,hR.last _,by simp⟩
 | box t x =>
  simp only [le,fL_eq,fV_eq] at h
  cases hx:lv l x with
  | none=>rw [hx] at h; cases h
  | some u =>
   rw [hx] at h
   simp only at h
   cases hf:notTup u
   ·rw [hf] at h; cases h
   ·rw [hf] at h; cases h
    obtain ⟨u',hu,huv⟩:=lv_ev hl hx
    exact ⟨_,hu,hK _ _ _ (Ext.push E _) (new_rep hR (huv.cells hf)) ⟨_,rfl,rfl,_,hR.last _,by simp⟩⟩
 | bs0 t =>
  simp only [le] at h
  cases h
  exact hK _ _ _ (Ext.push E _) (new_rep hR (cs := #[]) (vs:=[]) trivial) ⟨rfl,_,hR.last _,.inl ⟨_,_,rfl,.inl ⟨by simp,by simp⟩⟩⟩
 | bs1 t n x =>
  simp only [le] at h
  cases hx:lv l x with
  | none=>rw [hx] at h; cases h
  | some u =>
   rw [hx] at h
   simp only at h
   cases hf:(notTup u && Nat.beq u.cells.toList.length n)
   ·rw [hf] at h; cases h
   ·rw [hf] at h; cases h
    rw [Bool.and_eq_true] at hf
    obtain ⟨u',hu,huv⟩:=lv_ev hl hx
    have hce:=huv.cells hf.1
    refine ⟨_,hu,?_,hK _ _ _ (Ext.push E _) (new_rep hR hce) ⟨rfl,_,hR.last _,.inl ⟨_,_,rfl,.inl ⟨by simp,by simp⟩⟩⟩⟩
    have:=Nat.eq_of_beq_eq_true hf.2
    have h2:=hce.length
    simp at h2 this
    omega
 | call f args =>
  simp only [le] at h
  cases hx:lvs l args with
  | none=>rw [hx] at h; cases h
  | some vs =>
   rw [hx] at h
   obtain ⟨vs',h1,h2⟩:=lvs_evs hl hx
   refine ⟨_,h1,(hc _ _ _ _ _ _ _ _ h hR h2).2.mono ?_⟩
   rintro v' w' ⟨E',h3,h4,h5⟩
   exact hK w' E' v' h3 h5 h4
 | callv x args =>
  simp only [le] at h
  split at h <;> first | (cases h; done) | skip
  rename_i f a c vs hx hvs
  obtain ⟨_,g1,a',c',rfl,g2,g3⟩:=lv_ev hl hx
  obtain ⟨vs',h1,h2⟩:=lvs_evs hl hvs
  have up:∀ {x y:List Value},L2 (S0 E) x y→L2 (VR E) x y:=fun h=>h.mono fun _ _=>S0.vr
  have hcall:=hc _ _ _ _ _ _ _ _ h hR (((up g2).append h2).append (up g3))
  refine ⟨f,⟨a'⟩,⟨c'⟩,vs',g1,h1,hcall.1,?_⟩
  have e:(⟨a'⟩:Array Value)++vs'.toArray++⟨c'⟩=(a'++vs'++c').toArray:=by simp
  rw [e]
  refine hcall.2.mono ?_
  rintro v' w' ⟨E',h3,h4,h5⟩
  exact hK w' E' v' h3 h5 h4
 | raw o=>exact hr _ _ _ _ _ _ _ _ _ _ K h hR hl hK
abbrev Taken:=List (Nat × QOp × Env × Value)
def sureS:Value→Bool
 | .slice (some _) 0 _=>false
 | .func _ ⟨a⟩ ⟨c⟩=>a.isEmpty && c.isEmpty
 | _=>true
def sure:Value→Bool
 | .agg ⟨cs⟩=>cs.all sureS
 | .tuple _=>false
 | v=>sureS v
theorem SR.fn {E:Emb} {v a b:Value} (hs:sureS v=true) (h:SR E v a) (k:SR E v b):a=b:=by
 cases v <;> first | (cases h; cases k; rfl)|exact h.elim | skip
 case pointer p =>
  cases p with
  | none=>cases h; cases k; rfl
  | some p =>
   rcases p with ⟨bb,o,_ | s⟩
   rotate_left
   ·exact Eq.trans (show a=_ from h) (show b=_ from k).symm
   obtain ⟨a',rfl,_,r,h1,rfl⟩:=h
   obtain ⟨b',rfl,_,r',h2,rfl⟩:=k
   rw [h1] at h2; cases h2; rfl
 case slice p n c =>
  cases p with
  | none=>cases h; cases k; rfl
  | some p =>
   have hn:n≠0:=by intro e; subst e; cases hs
   rcases p with ⟨bb,o,_ | s⟩
   rotate_left
   ·rcases h with h | ⟨h,_⟩
    ·rcases k with k | ⟨k,_⟩
     ·exact h.trans k.symm
     ·exact absurd k hn
    ·exact absurd h hn
   obtain ⟨_,r,h1,⟨a',c',rfl,h3⟩ | ⟨h3,_⟩⟩:=h
   ·obtain ⟨_,r',h2,⟨b',c'',rfl,h4⟩ | ⟨h4,_⟩⟩:=k
    ·rw [h1] at h2; cases h2
     rcases h3 with ⟨rfl,rfl⟩ | ⟨h3,_⟩
     ·rcases h4 with ⟨rfl,rfl⟩ | ⟨h4,_⟩
      ·rfl
      ·exact absurd h4 hn
     ·exact absurd h3 hn
    ·exact absurd h4 hn
   ·exact absurd h3 hn
 case map p =>
  cases p with
  | none=>cases h; cases k; rfl
  | some p =>
   obtain ⟨r,h1,rfl⟩:=h
   obtain ⟨r',h2,rfl⟩:=k
   rw [h1] at h2; cases h2; rfl
 case func f p c =>
  have h0:stillS (.func f p c)=true:=by obtain ⟨p⟩:=p; obtain ⟨c⟩:=c; exact hs
  rw [SR.eq_still h0 h,SR.eq_still h0 k]
theorem L2.fn {E:Emb}:∀ {x a b:List Value},x.all sureS=true→L2 (SR E) x a→L2 (SR E) x b→a=b
 | [],[],[],_,_,_=>rfl
 | v::r,a::s,b::t,hs,h,k=>by
  simp only [List.all_cons,Bool.and_eq_true] at hs
  rw [SR.fn hs.1 h.1 k.1,L2.fn hs.2 h.2 k.2]
 | [],_::_,_,_,h,_=>h.elim
 | _::_,[],_,_,h,_=>h.elim
 | [],_,_::_,_,_,k=>k.elim
 | _::_,_,[],_,_,k=>k.elim
theorem VR.fn {E:Emb} {v a b:Value} (hs:sure v=true) (h:VR E v a) (k:VR E v b):a=b:=by
 cases v <;> first | (cases h; cases k; rfl) | (cases hs; done) | skip
 case agg cs =>
  obtain ⟨cs⟩:=cs
  obtain ⟨a',rfl,h⟩:=h
  obtain ⟨b',rfl,k⟩:=k
  rw [L2.fn hs h k]
 case pointer p=>exact SR.fn (v:=.pointer p) hs h k
 case slice p n c=>exact SR.fn (v:=.slice p n c) hs h k
 case map p=>exact SR.fn (v:=.map p) hs h k
 case func f p c=>exact SR.fn (v:=.func f p c) hs h k
def tfind:Taken→Nat→Option (QOp × Env × Value)
 | [],_=>none
 | (k,x)::r,t=>bif Nat.beq k t then some x else tfind r t
def chk (rawQ:RawQ) (T:Taken) (L:LH):List Nat→Bool
 | []=>true
 | k::ks=>(match tfind T k with
  | some (q,l,v)=>(match lq rawQ L l q with
   | some u=>veq u v && sure v
   | none=>false)
  | none=>true) && chk rawQ T L ks
def TR (P:Program) (E:Emb):Taken→Facts→Prop
 | [],[]=>True
 | (k,q,l,v)::r,(k',F)::s=>k'=k∧(∃ l' v',F=q.Y P l' v'∧ER E l l'∧VR E v v')∧TR P E r s
 | _,_=>False
theorem TR.ext {P:Program} {E E':Emb} (h:Ext E E'):∀ {T:Taken} {F:Facts},TR P E T F→TR P E' T F
 | [],[],_=>trivial
 | (_,_,_,_)::_,(_,_)::_,⟨h1,⟨l',v',h2,h3,h4⟩,h5⟩=>⟨h1,⟨l',v',h2,h3.ext h,h4.ext h⟩,h5.ext h⟩
 | [],_::_,k=>k.elim
 | _::_,[],k=>k.elim
theorem TR.find {P:Program} {E:Emb}:∀ {T:Taken} {F:Facts} (k:Nat),TR P E T F→(tfind T k=none∧flook F k=none)∨(∃ q l v l' v',tfind T k=some (q,l,v)∧flook F k=some (q.Y P l' v')∧ER E l l'∧VR E v v')
 | [],[],k,_=>.inl ⟨rfl,rfl⟩
 | (i,q,l,v)::r,(j,F)::s,k,⟨h1,⟨l',v',h2,h3,h4⟩,h5⟩=>by
  subst h1
  simp only [tfind,flook]
  cases hb:Nat.beq j k
  ·exact TR.find k h5
  ·exact .inr ⟨q,l,v,l',v',rfl,by rw [h2]; rfl,h3,h4⟩
 | [],_::_,_,k=>k.elim
 | _::_,[],_,k=>k.elim
theorem chk_ok {P:Program} {rawQ:RawQ} (hq:RawOk P rawQ) {X:Nat→Prop} {w0 w w':World} {E:Emb} {L:LH} {T:Taken} {F:Facts} (hR:Rep X w0 E L w') (hT:TR P E T F):∀ (ks:List Nat),chk rawQ T L ks=true→pendOk F w w' ks
 | [],_=>trivial
 | k::ks,h=>by
  simp only [chk,Bool.and_eq_true] at h
  refine ⟨?_,chk_ok hq hR hT ks h.2⟩
  rcases hT.find k with ⟨h1,h2⟩ | ⟨q,l,v,l',v',h1,h2,h3,h4⟩
  ·rw [h2]; trivial
  ·rw [h2]
   have h5:=h.1
   rw [h1] at h5
   simp only at h5
   intro _
   cases hlq:lq rawQ L l q with
   | none=>rw [hlq] at h5; cases h5
   | some u =>
    rw [hlq] at h5
    simp only [Bool.and_eq_true] at h5
    have:=veq_ok h5.1
    subst this
    obtain ⟨v'',h6,h7⟩:=lq_ok hq hlq hR h3
    rw [VR.fn h5.2 h4 h7]
    exact h6
def lsteps (call:CallF) (rawQ:RawQ) (rawE:RawE):List Step→Env→Taken→LH→Option (Env × LH)
 | [],l,_,L=>some (l,L)
 | .q k d g op rd::r,l,T,L=>match gw g l with
  | some true=>match lq rawQ L l op with
   | some v=>fQ op v fun v=>lsteps call rawQ rawE r (dpush d v l) (bif rd then (k,op,l,v)::T else T) L
   | none=>none
  | some false=>lsteps call rawQ rawE r (dpush d undef l) T L
  | none=>none
 | .e d g op pend::r,l,T,L=>match gw g l with
  | some true=>match le call rawE L l op with
   | some (v,L')=>bif chk rawQ T L' pend then lsteps call rawQ rawE r (dpush d v l) T L' else none
   | none=>none
  | some false=>lsteps call rawQ rawE r (dpush d undef l) T L
  | none=>none
theorem gw_ok {E:Emb} {g:Option (Nat × Bool)} {l l':Env} {b:Bool} (hl:ER E l l') (h:gw g l=some b) {run skip:Env→Prop} (h1:b=true→run l') (h0:b=false→skip l'):gcase g l' run skip:=by
 cases g with
 | none=>simp only [gw] at h; cases h; exact h1 rfl
 | some sw =>
  obtain ⟨s,want⟩:=sw
  simp only [gw] at h
  simp only [gcase]
  cases hs:eget l s with
  | none=>rw [hs] at h; cases h
  | some v =>
   rw [hs] at h
   obtain ⟨v',hv,hvr⟩:=hl.get hs
   rw [hv]
   cases v <;> first | (cases h; done) | skip
   case bool t =>
    cases h; cases hvr
    refine ⟨fun e=>⟨_,Sub.refl _,h1 (by simp [e])⟩,fun e=>⟨_,Sub.refl _,h0 (by subst e; cases want <;> rfl)⟩⟩
   case tuple t=>cases h; obtain ⟨t⟩:=t; obtain ⟨_,rfl,_⟩:=hvr; exact h0 rfl
theorem lsteps_ok {P:Program} {call:CallF} {rawQ:RawQ} {rawE:RawE} {X:Nat→Prop} {w0:World} (hc:CallAt X w0 P call) (hq:RawOk P rawQ) (he:RawEOk P rawE) {E0:Emb} {K:Env→World→Prop} {l1:Env} {L1:LH} (hK:∀ w' E' l',Ext E0 E'→Rep X w0 E' L1 w'→ER E' l1 l'→K l' w') :
  ∀ (ss:List Step) (l l':Env) (T:Taken) (F:Facts) (E:Emb) (L:LH) (w:World),lsteps call rawQ rawE ss l T L=some (l1,L1)→Ext E0 E→Rep X w0 E L w→ER E l l'→TR P E T F→stepsWp P ss K l' F w
 | [],l,l',T,F,E,L,w,h,hE,hR,hl,hT=>by simp only [lsteps] at h; cases h; exact hK w E l' hE hR hl
 | .q k d g op rd::r,l,l',T,F,E,L,w,h,hE,hR,hl,hT=>by
  simp only [lsteps,fQ_eq] at h
  simp only [stepsWp]
  cases hg:gw g l with
  | none=>rw [hg] at h; cases h
  | some b =>
   rw [hg] at h
   refine gw_ok hl hg (fun e=>?_) (fun e=>?_)
   ·subst e
    simp only at h
    cases hv:lq rawQ L l op with
    | none=>rw [hv] at h; cases h
    | some v =>
     rw [hv] at h
     obtain ⟨v',h1,h2⟩:=lq_ok hq hv hR hl
     refine ⟨v',h1,?_⟩
     cases rd
     ·exact lsteps_ok hc hq he hK r _ _ _ _ E _ w h hE hR (hl.dpush h2 d) hT
     ·exact lsteps_ok hc hq he hK r _ _ _ _ E _ w h hE hR (hl.dpush h2 d) ⟨rfl,⟨l',v',rfl,hl,h2⟩,hT⟩
   ·subst e
    exact lsteps_ok hc hq he hK r _ _ _ _ E _ w h hE hR (hl.dpush VR.undef d) hT
 | .e d g op pend::r,l,l',T,F,E,L,w,h,hE,hR,hl,hT=>by
  simp only [lsteps] at h
  simp only [stepsWp]
  cases hg:gw g l with
  | none=>rw [hg] at h; cases h
  | some b =>
   rw [hg] at h
   refine gw_ok hl hg (fun e=>?_) (fun e=>?_)
   ·subst e
    simp only at h
    cases hv:le call rawE L l op with
    | none=>rw [hv] at h; cases h
    | some vL =>
     obtain ⟨v,L2⟩:=vL
     rw [hv] at h
     simp only at h
     cases hk:chk rawQ T L2 pend
     ·rw [hk] at h; cases h
     ·rw [hk] at h
      refine le_ok hc he hv hR hl fun w' E' v' h3 h4 h5=>⟨chk_ok hq h4 (hT.ext h3) _ hk,?_⟩
      exact lsteps_ok hc hq he hK r _ _ _ _ E' _ w' h (hE.trans h3) h4 ((hl.ext h3).dpush h5 d) (hT.ext h3)
   ·subst e
    exact lsteps_ok hc hq he hK r _ _ _ _ E _ w h hE hR (hl.dpush VR.undef d) hT
def dkeys:List Nat→Env→List Nat
 | ks,[]=>ks
 | ks,(k,_)::r=>bif ks.any (Nat.beq k) then dkeys ks r else dkeys (k::ks) r
def repick (l:Env):List Nat→Env
 | []=>[]
 | k::ks=>match eget l k with
  | some v=>(k,v)::repick l ks
  | none=>repick l ks
theorem repick_get (l:Env):∀ (ks:List Nat) (t:Nat) (v:Value),eget (repick l ks) t=some v→eget l t=some v
 | [],t,v,h=>by cases h
 | k::ks,t,v,h=>by
  simp only [repick] at h
  cases hk:eget l k with
  | none=>rw [hk] at h; exact repick_get l ks t v h
  | some u =>
   rw [hk] at h
   simp only at h
   rw [eget_cons] at h
   by_cases e:k=t
   ·rw [if_pos e] at h; cases h; subst e; exact hk
   ·rw [if_neg e] at h; exact repick_get l ks t v h
theorem ER.repick {E:Emb} {l l':Env} (hl:ER E l l') (ks:List Nat):ER E (repick l ks) l':=fun t v h=>hl t v (repick_get l ks t v h)
theorem repick_ok {E:Emb} {l l':Env} (hl:ER E l l') (ks:List Nat):∃ l'',Sub l'' l'∧ER E (repick l ks) l'':=⟨l',Sub.refl _,hl.repick ks⟩
def lpt (call:CallF) (rawQ:RawQ) (rawE:RawE):PT→Env→Taken→LH→Option (Env × LH)
 | .done,l,_,L=>some (l,L)
 | .q k d g op rd r,l,T,L=>match gw g l with
  | some true=>match lq rawQ L l op with
   | some v=>fQ op v fun v=>lpt call rawQ rawE r (dpush d v l) (bif rd then (k,op,l,v)::T else T) L
   | none=>none
  | some false=>lpt call rawQ rawE r (dpush d undef l) T L
  | none=>none
 | .e d g op pend r,l,T,L=>match gw g l with
  | some true=>match le call rawE L l op with
   | some (v,L')=>bif chk rawQ T L' pend then lpt call rawQ rawE r (dpush d v l) T L' else none
   | none=>none
  | some false=>lpt call rawQ rawE r (dpush d undef l) T L
  | none=>none
 | .alt a b,l,T,L=>match lpt call rawQ rawE a l T L,lpt call rawQ rawE b l T L with
  | some (l1,L1),some (l2,L2)=>match same2 L.length (repick l1 (dkeys [] l1)) L1 (repick l2 (dkeys [] l1)) L2 with
   | some K=>some (repick l1 (dkeys [] l1),K)
   | none=>none
  | _,_=>none
theorem lpt_ok {P:Program} {call:CallF} {rawQ:RawQ} {rawE:RawE} {X:Nat→Prop} {w0:World} (hc:CallAt X w0 P call) (hq:RawOk P rawQ) (he:RawEOk P rawE) :
  ∀ (t:PT) (l l':Env) (T:Taken) (F:Facts) (E:Emb) (L:LH) (w:World) (l1:Env) (L1:LH) (K:Env→World→Prop),(∀ w' E' l',Ext E E'→Rep X w0 E' L1 w'→ER E' l1 l'→K l' w') →
   lpt call rawQ rawE t l T L=some (l1,L1)→Rep X w0 E L w→ER E l l'→TR P E T F→ptWp P t (fun l w=>∃ l'',Sub l'' l∧K l'' w) l' F w
 | .done,l,l',T,F,E,L,w,l1,L1,K,hK,h,hR,hl,hT=>by simp only [lpt] at h; cases h; exact ⟨l',Sub.refl _,hK w E l' (Ext.refl E) hR hl⟩
 | .q k d g op rd r,l,l',T,F,E,L,w,l1,L1,K,hK,h,hR,hl,hT=>by
  simp only [lpt,fQ_eq] at h
  simp only [ptWp]
  cases hg:gw g l with
  | none=>rw [hg] at h; cases h
  | some b =>
   rw [hg] at h
   refine gw_ok hl hg (fun e=>?_) (fun e=>?_)
   ·subst e
    simp only at h
    cases hv:lq rawQ L l op with
    | none=>rw [hv] at h; cases h
    | some v =>
     rw [hv] at h
     obtain ⟨v',h1,h2⟩:=lq_ok hq hv hR hl
     refine ⟨v',h1,?_⟩
     cases rd
     ·exact lpt_ok hc hq he r _ _ _ _ E _ w _ _ K hK h hR (hl.dpush h2 d) hT
     ·exact lpt_ok hc hq he r _ _ _ _ E _ w _ _ K hK h hR (hl.dpush h2 d) ⟨rfl,⟨l',v',rfl,hl,h2⟩,hT⟩
   ·subst e
    exact lpt_ok hc hq he r _ _ _ _ E _ w _ _ K hK h hR (hl.dpush VR.undef d) hT
 | .e d g op pend r,l,l',T,F,E,L,w,l1,L1,K,hK,h,hR,hl,hT=>by
  simp only [lpt] at h
  simp only [ptWp]
  cases hg:gw g l with
  | none=>rw [hg] at h; cases h
  | some b =>
   rw [hg] at h
   refine gw_ok hl hg (fun e=>?_) (fun e=>?_)
   ·subst e
    simp only at h
    cases hv:le call rawE L l op with
    | none=>rw [hv] at h; cases h
    | some vL =>
     obtain ⟨v,L2⟩:=vL
     rw [hv] at h
     simp only at h
     cases hk:chk rawQ T L2 pend
     ·rw [hk] at h; cases h
     ·rw [hk] at h
      refine le_ok hc he hv hR hl fun w' E' v' h3 h4 h5=>⟨chk_ok hq h4 (hT.ext h3) _ hk,?_⟩
      exact lpt_ok hc hq he r _ _ _ _ E' _ w' _ _ K (fun w2 E2 l2 k1 k2 k3=>hK w2 E2 l2 (h3.trans k1) k2 k3) h h4 ((hl.ext h3).dpush h5 d) (hT.ext h3)
   ·subst e
    exact lpt_ok hc hq he r _ _ _ _ E _ w _ _ K hK h hR (hl.dpush VR.undef d) hT
 | .alt a b,l,l',T,F,E,L,w,l1,L1,K,hK,h,hR,hl,hT=>by
  simp only [lpt] at h
  cases ha:lpt call rawQ rawE a l T L with
  | none=>rw [ha] at h; cases h
  | some x =>
   obtain ⟨la,La⟩:=x
   rw [ha] at h
   cases hb:lpt call rawQ rawE b l T L with
   | none=>rw [hb] at h; cases h
   | some y =>
    obtain ⟨lb,Lb⟩:=y
    rw [hb] at h
    simp only at h
    cases hs:same2 L.length (repick la (dkeys [] la)) La (repick lb (dkeys [] la)) Lb with
    | none=>rw [hs] at h; cases h
    | some K0 =>
     rw [hs] at h; cases h
     rw [← hR.len] at hs
     refine ⟨ptWp_mono (fun l2 w2 h2=>?_) a l' F w (lpt_ok hc hq he a l l' T F E L w _ _ (fun l2 w2=>∃ l3,Sub l3 l2∧K l3 w2) (fun w' E' l2 k1 k2 k3=>?_) ha hR hl hT),
      ptWp_mono (fun l2 w2 h2=>?_) b l' F w (lpt_ok hc hq he b l l' T F E L w _ _ (fun l2 w2=>∃ l3,Sub l3 l2∧K l3 w2) (fun w' E' l2 k1 k2 k3=>?_) hb hR hl hT)⟩
     ·obtain ⟨l3,h3,l4,h4,h5⟩:=h2
      exact ⟨l4,fun t v hv=>h3 t v (h4 t v hv),h5⟩
     ·obtain ⟨l3,h4,h5⟩:=repick_ok k3 (dkeys [] la)
      exact ⟨l3,h4,hK w' E' l3 k1 (same2_kill hs k2) h5⟩
     ·obtain ⟨l3,h3,l4,h4,h5⟩:=h2
      exact ⟨l4,fun t v hv=>h3 t v (h4 t v hv),h5⟩
     ·obtain ⟨l3,h4,h5⟩:=repick_ok k3 (dkeys [] la)
      obtain ⟨E3,g1,g2,g3⟩:=same2_ok hs k1 k2 h5
      exact ⟨l3,h4,hK w' E3 l3 g1 g2 g3⟩
inductive RV where
 | tmp (t:Nat)
 | cell (a:Nat) (ty:TypeId) (n:Nat)
def RV.real:RV→ResultVar
 | .tmp t=>.tmp t
 | .cell a ty _=>.cell a ty
def RV.Ok (P:Program):RV→Prop
 | .tmp _=>True
 | .cell _ ty n=>aggT P ty=some n
structure FnRow where
 f:Nat
 np:Nat
 res:List RV
 m:MC
def FnRow.Ok (P:Program) (x:FnRow):Prop :=
 callable P x.f=true∧∃ fn:Func,x.res.length≤4∧fn.results=(x.res.map RV.real).toArray∧(∀ r∈x.res,r.Ok P)∧∀ (args:List Value) (w:World) (R:Value→World→Prop),Nat.ble args.length x.np=true→MWp P x.m (RQ P fn R) (initEnv 0 args) w→Does P x.f args.toArray w R
def lresOne (l:Env) (L:LH):RV→Option Value
 | .tmp t=>match eget l t with
  | some v=>bif notTup v then some v else none
  | none=>none
 | .cell a _ n=>match eget l a with
  | some (.pointer (some ⟨b,o,none⟩))=>match lcells L ⟨b,o,none⟩ n with
   | some vs=>some (.agg ⟨vs⟩)
   | none=>none
  | _=>none
def lres (l:Env) (L:LH):List RV→Option (List Value)
 | []=>some []
 | t::ts=>match lresOne l L t with
  | some v=>match lres l L ts with
   | some vs=>some (v::vs)
   | none=>none
  | none=>none
def lret:List Value→Value
 | [v]=>v
 | vs=>.tuple ⟨vs⟩
def rowOf:List FnRow→Nat→Option FnRow
 | [],_=>none
 | x::r,f=>bif Nat.beq x.f f then some x else rowOf r f
def lrun (ov:CallF) (tab:List FnRow) (rawQ:RawQ) (rawE:RawE):Nat→MC→Env→LH→Option (Exit × Env × LH)
 | 0,_,_,_=>none
 | fuel+1,m,l,L=>match m with
  | .skip=>some (.normal,l,L)
  | .reg s=>match lsteps (fun f vs L=>match ov f vs L with
    | some r=>some r
    | none=>match rowOf tab f with
    | some x=>bif Nat.ble vs.length x.np then (match lrun ov tab rawQ rawE fuel x.m (initEnv 0 vs) L with
     | some (.ret,l',L')=>match lres l' L' x.res with
      | some us=>some (lret us,L')
      | none=>none
     | some (.normal,l',L')=>match lres l' L' x.res with
      | some us=>some (lret us,L')
      | none=>none
     | _=>none) else none
    | none=>none) rawQ rawE s l [] L with
   | some (l',L')=>some (.normal,l',L')
   | none=>none
  | .regT t=>match lpt (fun f vs L=>match ov f vs L with
    | some r=>some r
    | none=>match rowOf tab f with
    | some x=>bif Nat.ble vs.length x.np then (match lrun ov tab rawQ rawE fuel x.m (initEnv 0 vs) L with
     | some (.ret,l',L')=>match lres l' L' x.res with
      | some us=>some (lret us,L')
      | none=>none
     | some (.normal,l',L')=>match lres l' L' x.res with
      | some us=>some (lret us,L')
      | none=>none
     | _=>none) else none
    | none=>none) rawQ rawE t l [] L with
   | some (l',L')=>some (.normal,l',L')
   | none=>none
  | .seq a b=>match lrun ov tab rawQ rawE fuel a l L with
   | some (.normal,l',L')=>lrun ov tab rawQ rawE fuel b l' L'
   | r=>r
  | .cond c x y=>match lv l c with
   | some (.bool true)=>lrun ov tab rawQ rawE fuel x (knows c true l) L
   | some (.bool false)=>lrun ov tab rawQ rawE fuel y (knows c false l) L
   | _=>none
  | .block id b=>match lrun ov tab rawQ rawE fuel b l L with
   | some (.exit i,l',L')=>bif Nat.beq i id then some (.normal,l',L') else some (.exit i,l',L')
   | r=>r
  | .loop b=>match lrun ov tab rawQ rawE fuel b l L with
   | some (.normal,l',L')=>lrun ov tab rawQ rawE fuel (.loop b) (repick l' (dkeys [] l)) L'
   | r=>r
  | .exit id=>some (.exit id,l,L)
  | .ret=>some (.ret,l,L)
def lcall (ov:CallF) (tab:List FnRow) (rawQ:RawQ) (rawE:RawE) (fuel:Nat):CallF:=fun f vs L=>match ov f vs L with
 | some r=>some r
 | none=>match rowOf tab f with
 | some x=>bif Nat.ble vs.length x.np then (match lrun ov tab rawQ rawE fuel x.m (initEnv 0 vs) L with
  | some (.ret,l',L')=>match lres l' L' x.res with
   | some us=>some (lret us,L')
   | none=>none
  | some (.normal,l',L')=>match lres l' L' x.res with
   | some us=>some (lret us,L')
   | none=>none
  | _=>none) else none
 | none=>none
theorem rowOf_mem:∀ {tab:List FnRow} {f:Nat} {x:FnRow},rowOf tab f=some x→x∈tab∧x.f=f
 | [],f,x,h=>by cases h
 | y::r,f,x,h=>by
  simp only [rowOf] at h
  cases hb:Nat.beq y.f f
  ·rw [hb] at h; obtain ⟨h1,h2⟩:=rowOf_mem h; exact ⟨List.mem_cons_of_mem _ h1,h2⟩
  ·rw [hb] at h; cases h; exact ⟨List.mem_cons_self ..,Nat.eq_of_beq_eq_true hb⟩
theorem ER.init {E:Emb}:∀ (i:Nat) {vs vs':List Value},L2 (VR E) vs vs'→ER E (initEnv i vs) (initEnv i vs')
 | _,[],[],_=>ER.nil _ _
 | i,_::_,_::_,h=>ER.cons i h.1 (ER.init (i+1) h.2)
 | _,[],_::_,h=>h.elim
 | _,_::_,[],h=>h.elim
theorem ER.knows {E:Emb} {l l':Env} (h:ER E l l') (c:Operand) (b:Bool):ER E (knows c b l) (knows c b l'):=by
 cases c <;> first|exact h|exact ER.cons _ rfl h
def resOne (tmps:Array Value):ResultVar→Sem Value
 | .tmp t=>pure (tmps.getD t undef)
 | .cell a t=>do loadVar t (← asAddr (tmps.getD a undef))
theorem loadVar_cells {P:Program} {w:World} {ty:TypeId} {n b o:Nat} {cs:List Value} (ht:aggT P ty=some n) (hB:Blk w b cs) (hn:o+n≤cs.length):(loadVar ty ⟨b,o,none⟩).run P w=.ok (.agg ((cs.drop o).take n).toArray) w:=by
 have:=loadCells_blk (P:=P) hB hn
 unfold loadCells at this
 simp [loadVar,(isAgg_true ht).1,(isAgg_true ht).2,loadCells,this,go_sem]
theorem lresOne_ok {P:Program} {X:Nat→Prop} {w0 w:World} {E:Emb} {l l':Env} {L:LH} {r:RV} {v:Value} (hr:r.Ok P) (hR:Rep X w0 E L w) (hl:ER E l l') (h:lresOne l L r=some v) :
  notTup v=true∧∃ v',VR E v v'∧∀ (N:Nat) (a:Act) (w1:World),At N l' a→Sim w1 w→(resOne a.tmps r.real).run P w1=.ok v' w1:=by
 cases r with
 | tmp t =>
  simp only [lresOne] at h
  cases ht:eget l t with
  | none=>rw [ht] at h; cases h
  | some u =>
   rw [ht] at h
   simp only at h
   cases hf:notTup u
   ·rw [hf] at h; cases h
   ·rw [hf] at h; cases h
    obtain ⟨v',h1,h2⟩:=hl.get ht
    refine ⟨hf,v',h2,fun N a w1 ha _=>?_⟩
    have:=ha.get t v' h1
    simp only [RV.real,resOne,this]; rfl
 | cell x ty n =>
  simp only [lresOne] at h
  cases hx:eget l x with
  | none=>rw [hx] at h; cases h
  | some u =>
   rw [hx] at h
   cases u <;> first | (cases h; done) | skip
   case pointer p =>
   cases p <;> first | (cases h; done) | skip
   case some p =>
   rcases p with ⟨pb,po,_ | s⟩ <;> first | (cases h; done) | skip
   simp only at h
   cases hc:lcells L ⟨pb,po,none⟩ n with
   | none=>rw [hc] at h; cases h
   | some vs =>
    rw [hc] at h; cases h
    obtain ⟨v',h1,⟨b,o,s⟩,rfl,h2⟩:=hl.get hx
    obtain ⟨cs,vs',hB,hs0,hle,rfl,h3,h4⟩:=lcells_ok hR h2 hc
    cases hs0
    refine ⟨rfl,_,⟨_,rfl,h3⟩,fun N a w1 ha hs=>?_⟩
    have h5:=ha.get x _ h1
    have h6:=loadVar_cells (P:=P) hr (hB.sim hs) (o:=o) hle
    have h7:resOne a.tmps (RV.cell x ty n).real=loadVar ty ⟨b,o,none⟩:=by
     simp only [RV.real,resOne,h5,asAddr]; rfl
    rw [h7,h6]
theorem lres_ok {P:Program} {X:Nat→Prop} {w0 w:World} {E:Emb} {l l':Env} {L:LH} (hR:Rep X w0 E L w) (hl:ER E l l'):∀ {ts:List RV} {vs:List Value},(∀ r∈ts,r.Ok P)→lres l L ts=some vs→vs.length=ts.length∧(∀ v∈vs,notTup v=true) ∧
  ∃ vs',L2 (VR E) vs vs'∧∀ (i:Nat) (r:RV) (v':Value),ts[i]?=some r→vs'[i]?=some v'→∀ (N:Nat) (a:Act) (w1:World),At N l' a→Sim w1 w→(resOne a.tmps r.real).run P w1=.ok v' w1
 | [],vs,_,h=>by cases h; exact ⟨rfl,fun v hv=>by (cases hv),[],trivial,fun i r v h1=>by simp at h1⟩
 | t::ts,vs,hk,h=>by
  simp only [lres] at h
  cases ht:lresOne l L t with
  | none=>rw [ht] at h; cases h
  | some v =>
   rw [ht] at h
   simp only at h
   cases hr:lres l L ts with
   | none=>rw [hr] at h; cases h
   | some us =>
    rw [hr] at h; cases h
    obtain ⟨h1,h2,us',h3,h4⟩:=lres_ok hR hl (fun r hr=>hk r (List.mem_cons_of_mem _ hr)) hr
    obtain ⟨g1,v',g2,g3⟩:=lresOne_ok (hk t (List.mem_cons_self ..)) hR hl ht
    refine ⟨by simp [h1],fun u hu=>?_,v'::us',⟨g2,h3⟩,fun i r u hi hu=>?_⟩
    ·rcases List.mem_cons.1 hu with rfl | hu
     ·exact g1
     ·exact h2 u hu
    ·cases i with
     | zero=>simp at hi hu; subst hi; subst hu; exact g3
     | succ i=>simp at hi hu; exact h4 i r u hi hu
theorem lret_ok {P:Program} {fn:Func} {R:Value→World→Prop} {e:Exit} {E:Emb} {l l':Env} {L:LH} {ts:List RV} {us:List Value} {X:Nat→Prop} {w0 w:World} (hlen:ts.length≤4) (hr:fn.results=(ts.map RV.real).toArray) (hk:∀ r∈ts,r.Ok P) (hRp:Rep X w0 E L w)
  (hl:ER E l l') (he:e=.ret∨e=.normal) (h:lres l L ts=some us) (hR:∀ v',VR E (lret us) v'→R v' w):RQ P fn R e l' w:=by
 obtain ⟨h1,h2,us',h3,h4⟩:=lres_ok hRp hl hk h
 have hret:VR E (lret us) (lret us'):=by
  match us,us',h2,h3 with
  | [],[],_,_=>exact ⟨[],rfl,trivial⟩
  | [v],[v'],_,h3=>exact h3.1
  | v::u::r,v'::u'::r',h2,h3 =>
   refine ⟨_,rfl,?_⟩
   have:∀ (x y:List Value),(∀ v∈x,notTup v=true)→L2 (VR E) x y→L2 (V1 E) x y:=by
    intro x
    induction x with
    | nil=>intro y _ h; cases y <;> exact h
    | cons a r ih =>
     intro y hf h
     cases y with
     | nil=>exact h
     | cons b s=>exact ⟨h.1.v1 (hf a (List.mem_cons_self ..)),ih s (fun v hv=>hf v (List.mem_cons_of_mem _ hv)) h.2⟩
   exact this _ _ h2 h3
 refine ⟨he,lret us',fun a w1 ha hs=>?_,hR _ hret⟩
 have hm:∀ (i:Nat) (r:RV) (v:Value),ts[i]?=some r→us'[i]?=some v→(resOne a.tmps r.real).run P w1=.ok v w1:=fun i r v hi hv=>h4 i r v hi hv _ a w1 ha hs
 have hl':us'.length=ts.length:=by rw [h3.length,h1]
 clear h h4 hR h1 h2 h3 hret
 have hres:results fn a.tmps=(do
   let vs ← fn.results.mapM (resOne a.tmps)
   pure (if h:vs.size=1 then vs[0] else .tuple vs)):=rfl
 rw [hres,hr]
 clear hr hk hres
 match ts,us',hlen,hl',hm with
 | [],[],_,_,hm=>simp [lret,go_sem]
 | [t],[v],_,_,hm=>simp [hm 0 t v rfl rfl,lret,go_sem]
 | [t,t'],[v,v'],_,_,hm=>simp [hm 0 t v rfl rfl,hm 1 t' v' rfl rfl,lret,go_sem]
 | [t,t',t''],[v,v',v''],_,_,hm=>simp [hm 0 t v rfl rfl,hm 1 t' v' rfl rfl,hm 2 t'' v'' rfl rfl,lret,go_sem]
 | [t,t',t'',t3],[v,v',v'',v3],_,_,hm=>simp [hm 0 t v rfl rfl,hm 1 t' v' rfl rfl,hm 2 t'' v'' rfl rfl,hm 3 t3 v3 rfl rfl,lret,go_sem]
 | _::_::_::_::_::_,_,hl,_,_=>simp at hl
theorem RQ.sub {P:Program} {fn:Func} {R:Value→World→Prop} {e:Exit} {l l2:Env} {w:World} (hs:Sub l2 l) (h:RQ P fn R e l2 w):RQ P fn R e l w:=by
 obtain ⟨h1,v,h2,h3⟩:=h
 exact ⟨h1,v,fun a w0 ha=>h2 a w0 (ha.sub hs),h3⟩
def subQ (Q:Exit→Env→World→Prop) (e:Exit) (l:Env) (w:World):Prop:=∃ l2,Sub l2 l∧Q e l2 w
def RunOk (H:HypW) (P:Program) (ov:CallF) (tab:List FnRow) (rawQ:RawQ) (rawE:RawE) (fuel:Nat):Prop :=
 ∀ (m:MC) (l:Env) (L:LH) (e:Exit) (l1:Env) (L1:LH),lrun ov tab rawQ rawE fuel m l L=some (e,l1,L1)→∀ (X:Nat→Prop) (w0 w:World) (E:Emb) (l':Env) (Q:Exit→Env→World→Prop),H X w0→Rep X w0 E L w→ER E l l' →
   (∀ w' E' l1',Ext E E'→Rep X w0 E' L1 w'→ER E' l1 l1'→Q e l1' w')→MWp P m (subQ Q) l' w
theorem lrun_ok {H:HypW} {P:Program} {ov:CallF} {tab:List FnRow} {rawQ:RawQ} {rawE:RawE} (ho:CallOk H P ov) (ht:∀ x∈tab,x.Ok P) (hq:RawOk P rawQ) (he:RawEOk P rawE):∀ (fuel:Nat),
  CallOk H P (lcall ov tab rawQ rawE fuel)∧RunOk H P ov tab rawQ rawE fuel:=by
 intro fuel
 have call:∀ fuel,RunOk H P ov tab rawQ rawE fuel→CallOk H P (lcall ov tab rawQ rawE fuel):=by
  intro fuel ih X w0 hH w E L f vs vs' v L' h hR hvs
  simp only [lcall] at h
  cases hov:ov f vs L with
  | some r=>rw [hov] at h; cases h; exact ho X w0 hH w E L f vs vs' v L' hov hR hvs
  | none =>
  rw [hov] at h
  simp only at h
  cases hx:rowOf tab f with
  | none=>rw [hx] at h; cases h
  | some x =>
   rw [hx] at h
   simp only at h
   cases hb:Nat.ble vs.length x.np
   ·rw [hb] at h; cases h
   ·rw [hb] at h
    simp only [cond_true] at h
    obtain ⟨hm,rfl⟩:=rowOf_mem hx
    obtain ⟨hcl,fn,hl,hr,hrk,hd⟩:=ht x hm
    refine ⟨hcl,hd _ w _ (by rw [hvs.length]; exact hb) ?_⟩
    cases hrun:lrun ov tab rawQ rawE fuel x.m (initEnv 0 vs) L with
    | none=>rw [hrun] at h; cases h
    | some y =>
     obtain ⟨e,l1,L1⟩:=y
     rw [hrun] at h
     have fin:∀ (he':e=.ret∨e=.normal),(match lres l1 L1 x.res with
       | some us=>some (lret us,L1)
       | none=>none)=some (v,L')→MWp P x.m (RQ P fn fun v' w'=>∃ E',Ext E E'∧VR E' v v'∧Rep X w0 E' L' w') (initEnv 0 vs') w:=by
      intro he' h
      cases hres:lres l1 L1 x.res with
      | none=>rw [hres] at h; cases h
      | some us =>
       rw [hres] at h; cases h
       refine MWp.mono _ (fun e l w ⟨l2,h1,h2⟩=>RQ.sub h1 h2) (ih _ _ _ _ _ _ hrun X w0 w E _ _ hH hR (ER.init 0 hvs) fun w' E' l1' h1 h2 h3=>lret_ok hl hr hrk h2 h3 he' hres fun v' hv'=>⟨E',h1,hv',h2⟩)
     cases e <;> first | (cases h; done) | skip
     ·exact fin (.inr rfl) h
     ·exact fin (.inl rfl) h
 induction fuel using Nat.strongRecOn with
 | ind fuel ihs =>
 cases fuel with
 | zero =>
  have z:RunOk H P ov tab rawQ rawE 0:=fun m l L e l' L' h=>by simp only [lrun] at h; cases h
  exact ⟨call 0 z,z⟩
 | succ fuel =>
  obtain ⟨ihc,ih⟩:=ihs fuel (Nat.lt_succ_self _)
  have s:RunOk H P ov tab rawQ rawE (fuel+1):=by
   intro m l L e l1 L1 h X w0 w E l' Q hH hR hl hQ
   cases m with
   | skip=>simp only [lrun] at h; cases h; exact ⟨l',Sub.refl _,hQ w E l' (Ext.refl E) hR hl⟩
   | exit id=>simp only [lrun] at h; cases h; exact ⟨l',Sub.refl _,hQ w E l' (Ext.refl E) hR hl⟩
   | ret=>simp only [lrun] at h; cases h; exact ⟨l',Sub.refl _,hQ w E l' (Ext.refl E) hR hl⟩
   | reg ss =>
    simp only [lrun] at h
    have h':(match lsteps (lcall ov tab rawQ rawE fuel) rawQ rawE ss l [] L with
     | some (l',L')=>some (Exit.normal,l',L')
     | none=>none)=some (e,l1,L1):=h
    cases hs:lsteps (lcall ov tab rawQ rawE fuel) rawQ rawE ss l [] L with
    | none=>rw [hs] at h'; cases h'
    | some y =>
     obtain ⟨l2,L2⟩:=y
     rw [hs] at h'; cases h'
     exact lsteps_ok (ihc X w0 hH) hq he (fun w' E' l2 h1 h2 h3=>⟨l2,Sub.refl _,hQ w' E' l2 h1 h2 h3⟩) ss l l' [] [] E L w hs (Ext.refl E) hR hl trivial
   | regT t =>
    simp only [lrun] at h
    have h':(match lpt (lcall ov tab rawQ rawE fuel) rawQ rawE t l [] L with
     | some (l',L')=>some (Exit.normal,l',L')
     | none=>none)=some (e,l1,L1):=h
    cases hs:lpt (lcall ov tab rawQ rawE fuel) rawQ rawE t l [] L with
    | none=>rw [hs] at h'; cases h'
    | some y =>
     obtain ⟨l2,L2⟩:=y
     rw [hs] at h'; cases h'
     exact lpt_ok (ihc X w0 hH) hq he t l l' [] [] E L w _ _ (fun l w=>Q .normal l w) hQ hs hR hl trivial
   | seq a b =>
    simp only [lrun] at h
    cases ha:lrun ov tab rawQ rawE fuel a l L with
    | none=>rw [ha] at h; cases h
    | some y =>
     obtain ⟨e1,l2,L2⟩:=y
     rw [ha] at h
     refine MWp.mono a ?_ (ih a _ _ _ _ _ ha X w0 w E l' (thenQ (fun l' w'=>MWp P b (subQ Q) l' w') Q) hH hR hl fun w' E' l2' h1 h2 h3=>?_)
     ·rintro e2 l3 w3 ⟨l4,h4,h5⟩
      cases e2 <;> exact ⟨l4,h4,h5⟩
     cases e1 <;> simp only at h
     case normal=>exact ih b _ _ _ _ _ h X w0 w' E' _ Q hH h2 h3 fun w'' E'' l'' k1 k2 k3=>hQ w'' E'' l'' (h1.trans k1) k2 k3
     all_goals (cases h; exact hQ w' E' l2' h1 h2 h3)
   | cond c x y =>
    simp only [lrun] at h
    cases hc:lv l c with
    | none=>rw [hc] at h; cases h
    | some t =>
     rw [hc] at h
     cases t <;> first | (cases h; done) | skip
     case bool t =>
     obtain ⟨_,h1,rfl⟩:=lv_ev hl hc
     refine ⟨t,h1,fun e1=>?_,fun e1=>?_⟩
     ·subst e1
      exact ih x _ _ _ _ _ h X w0 w E _ Q hH hR (hl.knows c true) hQ
     ·subst e1
      exact ih y _ _ _ _ _ h X w0 w E _ Q hH hR (hl.knows c false) hQ
   | block id b =>
    simp only [lrun] at h
    cases hb:lrun ov tab rawQ rawE fuel b l L with
    | none=>rw [hb] at h; cases h
    | some y =>
     obtain ⟨e1,l2,L2⟩:=y
     rw [hb] at h
     refine MWp.mono b ?_ (ih b _ _ _ _ _ hb X w0 w E l' (blkQ id Q) hH hR hl fun w' E' l2' h1 h2 h3=>?_)
     ·rintro e2 l3 w3 ⟨l4,h4,h5⟩
      cases e2 <;> first|exact ⟨l4,h4,h5⟩ | skip
      rename_i i
      simp only [blkQ] at h5 ⊢
      by_cases e:i=id
      ·rw [if_pos e] at h5 ⊢; exact ⟨l4,h4,h5⟩
      ·rw [if_neg e] at h5 ⊢; exact ⟨l4,h4,h5⟩
     cases e1 <;> simp only at h
     case exit i =>
      simp only [blkQ]
      cases hi:Nat.beq i id
      ·rw [hi] at h; cases h
       rw [if_neg fun e=>by rw [e,Nat.beq_refl] at hi; cases hi]
       exact hQ w' E' l2' h1 h2 h3
      ·rw [hi] at h; cases h
       rw [if_pos (Nat.eq_of_beq_eq_true hi)]
       exact hQ w' E' l2' h1 h2 h3
     all_goals (cases h; exact hQ w' E' l2' h1 h2 h3)
   | loop b =>
    refine ⟨fun k lr w1=>k≤fuel+1∧∃ l0 L0 E0,Ext E E0∧ER E0 l0 lr∧Rep X w0 E0 L0 w1∧lrun ov tab rawQ rawE k (.loop b) l0 L0=some (e,l1,L1),fuel+1,⟨Nat.le_refl _,l,L,E,Ext.refl E,hl,hR,h⟩,?_⟩
    rintro k lr w1 ⟨hk,l0,L0,E0,hE0,hl0,hR0,h0⟩
    cases k with
    | zero=>simp only [lrun] at h0; cases h0
    | succ k =>
     simp only [lrun] at h0
     cases hb:lrun ov tab rawQ rawE k b l0 L0 with
     | none=>rw [hb] at h0; cases h0
     | some y =>
      obtain ⟨e1,l2,L2⟩:=y
      rw [hb] at h0
      refine MWp.mono b ?_ ((ihs k (by omega)).2 b _ _ _ _ _ hb X w0 w1 E0 lr (thenQ (fun l' w'=>∃ m,m<k+1∧∃ l'',Sub l'' l'∧(m≤fuel+1∧∃ l0 L0 E0,Ext E E0∧ER E0 l0 l''∧Rep X w0 E0 L0 w'∧lrun ov tab rawQ rawE m (.loop b) l0 L0=some (e,l1,L1))) Q) hH hR0 hl0 fun w' E' l2' h1 h2 h3=>?_)
      ·rintro e2 l3 w3 ⟨l4,h4,h5⟩
       cases e2 <;> first|exact ⟨l4,h4,h5⟩ | skip
       obtain ⟨m,h6,l5,h7,h8⟩:=h5
       exact ⟨m,h6,l5,h7.trans h4,h8⟩
      cases e1 <;> simp only at h0
      case normal =>
       obtain ⟨l3,h4,h5⟩:=repick_ok h3 (dkeys [] l0)
       exact ⟨k,Nat.lt_succ_self _,l3,h4,by omega,_,_,E',hE0.trans h1,h5,h2,h0⟩
      all_goals (cases h0; exact hQ w' E' l2' (hE0.trans h1) h2 h3)
  exact ⟨call _ s,s⟩
def noOv:CallF:=fun _ _ _=>none
theorem noOv_ok (H:HypW) (P:Program):CallOk H P noOv:=fun _ _ _ _ _ _ _ _ _ _ _ h=>by cases h
theorem closed_callH {H:HypW} {P:Program} {ov:CallF} {tab:List FnRow} {rawQ:RawQ} {rawE:RawE} (ho:CallOk H P ov) (ht:∀ x∈tab,x.Ok P) (hq:RawOk P rawQ) (he:RawEOk P rawE) {fuel:Nat} {f:FuncId} {vs:List Value} {v:Value}
  (hvs:vs.all still=true) (hv:still v=true) (hs:sure v=true) (h:((lcall ov tab rawQ rawE fuel f vs []).map (·.1))=some v) (w:World) (hH:H (fun _=>False) w):Does P f vs.toArray w fun v' w'=>v'=v∧Fr (fun _=>False) w w':=by
 cases hc:lcall ov tab rawQ rawE fuel f vs [] with
 | none=>rw [hc] at h; cases h
 | some y =>
  obtain ⟨u,L⟩:=y
  rw [hc] at h; cases h
  refine ((lrun_ok ho ht hq he fuel).1 (fun _=>False) w hH w [] [] f vs vs _ L hc (Rep.nil _ w) (L2.self fun a ha=>VR.still (List.all_eq_true.1 hvs a ha))).2.mono ?_
  rintro v' w' ⟨E',_,h1,h2⟩
  exact ⟨VR.fn hs h1 (VR.still hv),h2.fr⟩
theorem closed_call {P:Program} {tab:List FnRow} {rawQ:RawQ} {rawE:RawE} (ht:∀ x∈tab,x.Ok P) (hq:RawOk P rawQ) (he:RawEOk P rawE) {fuel:Nat} {f:FuncId} {vs:List Value} {v:Value}
  (hvs:vs.all still=true) (hv:still v=true) (hs:sure v=true) (h:((lcall noOv tab rawQ rawE fuel f vs []).map (·.1))=some v) (w:World):Does P f vs.toArray w fun v' w'=>v'=v∧Fr (fun _=>False) w w' :=
 closed_callH (H:=fun _ _=>True) (noOv_ok _ P) ht hq he hvs hv hs h w trivial
end Go.Tum
end
section
namespace Go.Tum
open Go
section
variable {P:Program} {w:World} {l:Env} {K:Value→World→Prop}
theorem append_any {d:Option Tmp} {pos:String} {af:Array Edge} {g:Option (Nat × Bool)} {s x:Operand} {sT xT ty e:TypeId} {sz bytes n m c:Nat} {base:Option Addr} {vx:Value} {cells cells2:List Value} (he:ElemT P sT e sz bytes) (hxT:∃ e',P.underlying xT=some (.slice e'))
  (hs:ev l s=some (.slice base n c)) (hx:ev l x=some vx) (hS:Rd w sz (.slice base n c) n cells) (hR:Rd w sz vx m cells2) (hb:(2*(n+m)+2048)*bytes≤281474976710656) (hby:0<bytes)
  (h1:n+m≤c→∀ a,base=some a→(cells2=[]∧K (.slice base (n+m) c) w)∨∃ b o cs,a=⟨b,o,none⟩∧Blk w b cs∧o+n*sz+cells2.length≤cs.length∧K (.slice base (n+m) c) (putCells w ⟨b,o+n*sz,none⟩ 0 cells2))
  (h0:n+m≤c→base=none→K (.slice base (n+m) c) w)
  (h2:c<n+m→∀ c' zs,n+m≤c'→(cells++cells2++zs).length=c'*sz→K (.slice (some ⟨w.heap.size,0,none⟩) (n+m) c') (w.alloc (.cells (cells++cells2++zs).toArray e))) :
  (EOp.raw ⟨d,.call ⟨.builtin .append,#[s,x],#[sT,xT]⟩,ty,pos,af,g⟩).W P K l w:=by
 intro ρ w0 ha hsim
 have hexec:execOp ρ ⟨d,.call ⟨.builtin .append,#[s,x],#[sT,xT]⟩,ty,pos,af,g⟩=(do let r ← Builtin.append_ #[sT,xT] ty #[.slice base n c,vx]; pure (Next.value r)):=by
  simp [execOp,resolve,invoke,builtin,ha s _ hs,ha x _ hx]
 have hrun:=append_run (P:=P) (w:=w0) (ty:=ty) he hxT (hS.sim hsim) (hR.sim hsim) hb hby
 rcases hrun with ⟨hle,k1,k2⟩ | ⟨hlt,c',zs,w',hc',hlz,hsw,hr⟩
 ·cases base with
  | none =>
   refine Eff.value (v:=.slice none (n+m) c) (w':=w0) ?_ ⟨w,hsim,h0 hle rfl⟩
   rw [hexec]
   simp [k2 rfl]
  | some a =>
   rcases h1 hle a rfl with ⟨rfl,hK⟩ | ⟨b,o,cs,rfl,hB,hcl,hK⟩
   ·refine Eff.value (v:=.slice (some a) (n+m) c) (w':=w0) ?_ ⟨w,hsim,hK⟩
    rw [hexec]
    simp [k1 _ rfl,storeCells]
   have hst:=storeCells_blk (P:=P) (w:=w0) (hB.sim hsim) hcl hR.2.1
   refine Eff.value (v:=.slice (some ⟨b,o,none⟩) (n+m) c) (w':=putCells w0 ⟨b,o+n*sz,none⟩ 0 cells2) ?_ ⟨_,putCells_sim hsim _ _ _,hK⟩
   rw [hexec]
   simp only [Sem.run_bind,k1 _ rfl,add_none,hst]
   simp
 ·refine Eff.value (v:=.slice (some ⟨w0.heap.size,0,none⟩) (n+m) c') (w':=w') ?_ ⟨_,hsw.trans (hsim.push _),?_⟩
  ·rw [hexec]
   simp [hr]
  ·rw [hsim.heap]
   exact h2 hlt c' zs hc' hlz
def lslc (L:LH) (sz:Nat):Value→Option (List Value)
 | .slice none 0 0=>some []
 | .slice (some ⟨b,o,none⟩) n _=>match n with
  | 0=>some []
  | n+1=>lcells L ⟨b,o,none⟩ ((n+1)*sz)
 | _=>none
theorem lslc_ok {X:Nat→Prop} {w0:World} {E:Emb} {L:LH} {sz n:Nat} {a:Option Addr} {c:Nat} {v':Value} {vs:List Value} (hR:Rep X w0 E L w) (hv:SR E (.slice a n c) v') (h:lslc L sz (.slice a n c)=some vs) :
  ∃ vs',Rd w sz v' n vs'∧L2 (SR E) vs vs':=by
 cases a with
 | none =>
  cases hv
  cases n with
  | succ n=>cases h
  | zero =>
  cases c with
  | succ c=>cases h
  | zero =>
  cases h
  exact ⟨[],⟨by simp,fun u hu=>by (cases hu),.inl ⟨⟨_,_,rfl⟩,rfl⟩⟩,trivial⟩
 | some a =>
  rcases a with ⟨b,o,_ | s⟩
  rotate_left
  ·cases h
  obtain ⟨hsp,r,hr,hcase⟩:=hv
  simp only [lslc] at h
  cases n with
  | zero =>
   cases h
   refine ⟨[],⟨by simp,fun u hu=>by (cases hu),.inl ⟨?_,rfl⟩⟩,trivial⟩
   rcases hcase with ⟨a',c',rfl,_⟩ | ⟨_,_,_,rfl⟩ <;> exact ⟨_,_,rfl⟩
  | succ n =>
   simp only at h
   rcases hcase with ⟨a',c',rfl,⟨rfl,rfl⟩ | ⟨h0,_⟩⟩ | ⟨h0,_⟩
   ·obtain ⟨cs,vs',hB,_,hle,hvs,h4,h5⟩:=lcells_ok hR (a:=⟨b,o,none⟩) (a':=⟨r.1,o+r.2.1,none⟩) ⟨rfl,r,hr,rfl⟩ h
    refine ⟨vs',⟨h5,fun u hu=>?_,.inr ⟨_,_,_,cs,rfl,hB,hle,hvs.symm⟩⟩,h4⟩
    obtain ⟨u0,_,h0⟩:=h4.mem u hu
    exact h0.one.2
   ·omega
   ·omega
end
def lapp (L:LH) (sz bytes:Nat) (s x:Value):Option (Value × LH) :=
 match s,x with
 | .slice base n c,.slice bx m cx=>match lslc L sz (.slice base n c),lslc L sz (.slice bx m cx) with
  | some cells,some cells2=>bif Nat.ble ((2*(n+m)+2048)*bytes) 281474976710656 then (match base with
   | none=>bif Nat.beq m 0 then some (.slice none 0 0,L) else fL (L++[.cells sz cells2]) fun L'=>some (.slice (some ⟨L.length,0,none⟩) m m,L')
   | some ⟨b,o,none⟩=>match L[b]? with
    | some (.cells bsz vs)=>bif Nat.ble (n+m) c then
      (bif Nat.ble (o+c*sz) vs.length then fL (lspl vs (o+n*sz) cells2) fun us=>fL (L.set b (.cells bsz us)) fun L=>some (.slice (some ⟨b,o,none⟩) (n+m) c,L) else none)
     else bif Nat.beq bsz 0 then fL (cells++cells2) fun us=>fL (L++[.cells sz us]) fun L'=>some (.slice (some ⟨L.length,0,none⟩) (n+m) (n+m),L')
     else bif Nat.beq bsz sz && Nat.ble (o+c*sz) vs.length && Nat.ble n c then fL (cells++cells2) fun us=>fL (L.set b .dead++[.cells sz us]) fun L'=>some (.slice (some ⟨L.length,0,none⟩) (n+m) (n+m),L') else none
    | some (.gro bsz vs)=>bif Nat.beq bsz sz && Nat.beq o 0 && Nat.beq n c && Nat.beq vs.length (n*sz) && vs.all stillS && cells2.all stillS then some (.slice (some ⟨L.length,0,none⟩) (n+m) (n+m),L.set b .dead++[.gro sz (vs++cells2)]) else none
    | _=>none
   | some ⟨_,_,some _⟩=>none) else none
  | _,_=>none
 | _,_=>none
section
variable {X:Nat→Prop} {w0 w w':World} {E:Emb} {L:LH}
theorem Rep.kill (h:Rep X w0 E L w) (b:Nat):Rep X w0 E (L.set b .dead) w:=by
 refine h.weak (by simp) fun k z hz=>?_
 rw [List.getElem?_set] at hz
 split at hz
 ·split at hz <;> cases hz; exact .inl rfl
 ·exact .inr hz
theorem Rep.again {b:Nat} {y x:LB} {r r':Nat × Nat × Nat} (h:Rep X w0 E L w) (hy:L[b]?=some y) (hr:E[b]?=some r) (hf:Fr (foot r y) w w') (hft:∀ c,foot r' x c→foot r y c∨(w.heap.size≤c∧c<w'.heap.size)) (hx:LBis (E++[r']) w' r' x):Rep X w0 (E++[r']) (L.set b .dead++[x]) w':=by
 have hk:Rep X w0 E (L.set b .dead) w':=h.upd hy hr hf trivial (fun c hc=>hc.elim)
 have hlt:=(List.getElem?_eq_some_iff.1 hy).1
 have cut:∀ (k:Nat) (z:LB) (q:Nat × Nat × Nat),(L.set b .dead++[x])[k]?=some z→(E++[r'])[k]?=some q→((L.set b .dead)[k]?=some z∧E[k]?=some q)∨(k=E.length∧z=x∧q=r'):=by
  intro k z q hz hq
  rw [List.getElem?_append] at hz hq
  rw [List.length_set,← h.len] at hz
  split at hq
  ·rename_i hlt; rw [if_pos hlt] at hz; exact .inl ⟨hz,hq⟩
  ·rename_i hlt
   rw [if_neg hlt] at hz
   have:k=E.length:=by
    have:=(List.getElem?_eq_some_iff.1 hq).1
    simp at this; omega
   subst this
   simp at hq hz
   exact .inr ⟨rfl,hz.symm,hq.symm⟩
 have alive:∀ (k:Nat) (z:LB) (q:Nat × Nat × Nat) (c:Nat),(L.set b .dead)[k]?=some z→E[k]?=some q→foot q z c→foot r' x c→False:=by
  intro k z q c hz hq h1 h2
  have hzz:=hz
  rw [List.getElem?_set] at hz
  by_cases hbk:b=k
  ·subst hbk
   rw [if_pos rfl,if_pos hlt] at hz; cases hz; exact h1
  ·rw [if_neg hbk] at hz
   rcases hft c h2 with h3 | h3
   ·exact hbk (h.inj b k y z r q c hy hz hr hq h3 h1)
   ·have:=(h.rng k z q hz hq c h1).2; omega
 have frs:=h.fr.size
 refine ⟨hk.fr,by simp [h.len],fun k z q hz hq c hc=>?_,fun k z q hz hq=>?_,fun k k' z z' r1 r2 c hz hz' h1 h2 e1 e2=>?_⟩
 ·rcases cut k z q hz hq with ⟨a0,a1⟩ | ⟨_,rfl,rfl⟩
  ·exact hk.rng k z q a0 a1 c hc
  ·rcases hft c hc with h3 | h3
   ·have:=h.rng b y r hy hr c h3; exact ⟨this.1,Nat.lt_of_lt_of_le this.2 hf.size⟩
   ·exact ⟨.inl (by omega),h3.2⟩
 ·rcases cut k z q hz hq with ⟨g0,g1⟩ | ⟨rfl,rfl,rfl⟩
  ·exact (hk.blk k z q g0 g1).ext (Ext.push E r')
  ·exact hx
 ·rcases cut k z r1 hz h1 with ⟨a0,a1⟩ | ⟨rfl,rfl,rfl⟩
  ·rcases cut k' z' r2 hz' h2 with ⟨b0,b1⟩ | ⟨rfl,rfl,rfl⟩
   ·exact hk.inj k k' z z' r1 r2 c a0 b0 a1 b1 e1 e2
   ·exact (alive k z r1 c a0 a1 e1 e2).elim
  ·rcases cut k' z' r2 hz' h2 with ⟨b0,b1⟩ | ⟨rfl,rfl,rfl⟩
   ·exact (alive k' z' r2 c b0 b1 e2 e1).elim
   ·rfl
theorem lapp_ok {P:Program} {l:Env} {K:Value→World→Prop} {d:Option Tmp} {pos:String} {af:Array Edge} {g:Option (Nat × Bool)} {s x:Operand} {sT xT ty e:TypeId} {sz bytes:Nat} {vs vx vs' vx' v:Value} {L':LH} (he:ElemT P sT e sz bytes) (hxT:∃ e',P.underlying xT=some (.slice e')) (hby:0<bytes)
  (hsz:0<sz) (hR:Rep X w0 E L w) (hs:ev l s=some vs') (hx:ev l x=some vx') (hsr:VR E vs vs') (hxr:VR E vx vx') (h:lapp L sz bytes vs vx=some (v,L'))
  (hK:∀ w' E' v',Ext E E'→Rep X w0 E' L' w'→VR E' v v'→K v' w'):(EOp.raw ⟨d,.call ⟨.builtin .append,#[s,x],#[sT,xT]⟩,ty,pos,af,g⟩).W P K l w:=by
 unfold lapp at h
 simp only [fL_eq] at h
 split at h <;> first | (cases h; done) | skip
 rename_i base n c bx m cx
 split at h <;> first | (cases h; done) | skip
 rename_i cells cells2 hc1 hc2
 cases hbd:Nat.ble ((2*(n+m)+2048)*bytes) 281474976710656
 ·rw [hbd] at h; cases h
 rw [hbd] at h
 simp only [cond_true] at h
 have hbd:=Nat.le_of_ble_eq_true hbd
 obtain ⟨us,hrd1,hl1⟩:=lslc_ok hR (hsr.sr rfl) hc1
 obtain ⟨us2,hrd2,hl2⟩:=lslc_ok hR (hxr.sr rfl) hc2
 have hlen1:us.length=n*sz:=hrd1.1
 have hlen2:us2.length=m*sz:=hrd2.1
 -- what a new block is
 have fresh:∀ (Lb:LH),Rep X w0 E Lb w→∀ (c':Nat) (zs:List Value),n+m≤c'→(us++us2++zs).length=c'*sz →
   Rep X w0 (E++[(w.heap.size,0,c'-(n+m))]) (Lb++[.cells sz (cells++cells2)]) (w.alloc (.cells (us++us2++zs).toArray e)):=by
  intro Lb hRb c' zs hc' hlz
  refine hRb.push1 (Fr.alloc _ _ _) rfl (alloc_size _ _) (fun _ h=>h) ⟨_,Blk.new w _ e,?_,?_,fun e=>by omega⟩
  ·have hl:=(hl1.append hl2).length
   simp only [List.drop_zero]
   rw [← hl,List.take_append_of_le_length (Nat.le_refl _),List.take_length]
   exact (hl1.append hl2).mono fun _ _=>SR.ext (Ext.push E _)
  ·have hl:=(hl1.append hl2).length
   rw [← hl,hlz]
   simp only [List.length_append,hlen1,hlen2]
   rw [Nat.zero_add,← Nat.add_mul,← Nat.add_mul]
   exact Nat.mul_le_mul_right _ (by omega)
 have freshG:∀ (Lb:LH) (xs:List Value),Rep X w0 E Lb w→us++us2=xs→xs≠[]→∀ (c':Nat) (zs:List Value),n+m≤c'→(us++us2++zs).length=c'*sz →
   Rep X w0 (E++[(w.heap.size,0,c'-(n+m))]) (Lb++[.gro sz xs]) (w.alloc (.cells (us++us2++zs).toArray e)):=by
  intro Lb xs hRb hxs hne c' zs hc' hlz
  subst hxs
  refine hRb.push1 (Fr.alloc _ _ _) rfl (alloc_size _ _) (fun b hb=>?_) (.inr ⟨hne,hsz,_,Blk.new w _ e,?_,?_⟩)
  ·cases hq:us++us2 with
   | nil=>exact absurd hq hne
   | cons y ys=>rw [hq] at hb; exact hb
  ·simp only [List.drop_zero]
   rw [List.take_append_of_le_length (Nat.le_refl _),List.take_length]
  ·rw [hlz]
   simp only [List.length_append,hlen1,hlen2]
   rw [Nat.zero_add,← Nat.add_mul,← Nat.add_mul]
   exact Nat.mul_le_mul_right _ (by omega)
 have slcNew:∀ (Lb:LH),Rep X w0 E Lb w→∀ c',n+m≤c'→VR (E++[(w.heap.size,0,c'-(n+m))]) (.slice (some ⟨Lb.length,0,none⟩) (n+m) (n+m)) (.slice (some ⟨w.heap.size,0,none⟩) (n+m) c'):=by
  intro Lb hRb c' hc'
  exact ⟨rfl,_,hRb.last _,.inl ⟨_,_,rfl,.inl ⟨by simp,by simp; omega⟩⟩⟩
 cases base with
 | none =>
  have hvs:=hsr.sr rfl
  cases hvs
  obtain ⟨rfl,rfl⟩:n=0∧c=0:=by
   cases n with
   | succ n=>cases hc1
   | zero=>cases c with
    | succ c=>cases hc1
    | zero=>exact ⟨rfl,rfl⟩
  refine append_any he hxT hs hx hrd1 hrd2 hbd hby (fun _ a ha=>by cases ha) (fun hle _=>?_) (fun hlt c' zs hc' hlz=>?_)
  ·have:m=0:=by omega
   subst this
   simp only [Nat.beq_refl,cond_true] at h
   cases h
   exact hK _ _ _ (Ext.refl E) hR rfl
  ·have hm:Nat.beq m 0=false:=by
    cases hq:Nat.beq m 0
    ·rfl
    ·have:=Nat.eq_of_beq_eq_true hq; omega
   simp only [hm,cond_false] at h
   cases h
   have hce:cells=[]:=by
    have:=hl1.length
    simp at hlen1
    subst hlen1
    cases cells with
    | nil=>rfl
    | cons=>simp at this
   have k1:=fresh L hR c' zs hc' hlz
   have k2:=slcNew L hR c' hc'
   rw [hce] at k1
   simp only [Nat.zero_add,List.nil_append] at k1 k2 ⊢
   exact hK _ _ _ (Ext.push E _) k1 k2
 | some a =>
  rcases a with ⟨b,o,_ | s0⟩
  rotate_left
  ·cases hc1
  obtain ⟨hsp,r,hr,⟨a',c',rfl,hcase⟩ | ⟨hn0,hc0,hnil⟩⟩:=hsr.sr rfl
  rotate_left
  ·-- it is nil
   obtain ⟨ax,rfl⟩:=hnil
   subst hn0; subst hc0
   simp only at h hr
   have hce:cells=[]:=by
    have:=hl1.length
    simp at hlen1
    subst hlen1
    cases cells with
    | nil=>rfl
    | cons=>simp at this
   subst hce
   cases hb:L[b]? with
   | none=>rw [hb] at h; cases h
   | some y =>
    rw [hb] at h
    cases y <;> first | (cases h; done) | skip
    case gro bsz gs =>
     simp only at h
     cases hck:(Nat.beq bsz sz && Nat.beq o 0 && Nat.beq 0 0 && Nat.beq gs.length (0*sz) && gs.all stillS && cells2.all stillS)
     ·rw [hck] at h; cases h
     rw [hck] at h
     cases h
     simp only [Bool.and_eq_true] at hck
     have hgs:gs=[]:=List.length_eq_zero_iff.1 (by have:=Nat.eq_of_beq_eq_true hck.1.1.2; simpa using this)
     subst hgs
     have hu2:us2=cells2:=L2.eq_still hck.2 hl2
     have hu1:us=[]:=List.length_eq_zero_iff.1 (by rw [hlen1]; simp)
     subst hu1
     have none0:0+m≤0→us2=[]∧K (.slice ax (0+m) 0) w:=fun hle=>by
      have:m=0:=by omega
      subst this
      have hc2e:cells2=[]:=List.length_eq_zero_iff.1 (by rw [← hu2,hlen2]; simp)
      subst hc2e
      exact ⟨hu2,hK _ (E++[(0,0,0)]) _ (Ext.push E _) (hR.again hb hr (Fr.refl _ w) (fun c hc=>hc.elim) (.inl ⟨rfl,rfl⟩)) ⟨rfl,_,hR.last _,.inr ⟨rfl,rfl,ax,rfl⟩⟩⟩
     refine append_any he hxT hs hx hrd1 hrd2 hbd hby (fun hle _ _=>.inl (none0 hle)) (fun hle _=>(none0 hle).2) (fun hlt c' zs hc' hlz=>?_)
     ·have hne:cells2≠[]:=by
       intro e
       rw [← hu2] at e
       rw [e] at hlen2
       have:0<m*sz:=Nat.mul_pos (by omega) hsz
       simp at hlen2
       omega
      have k1:=freshG _ ([]++cells2) (hR.kill b) (by rw [hu2]) hne c' zs hc' hlz
      have k2:=slcNew _ (hR.kill b) c' hc'
      simp only [List.length_set] at k2
      exact hK _ _ _ (Ext.push E _) k1 k2
    case cells bsz bs =>
    simp only at h
    have none0:0+m≤0→us2=[]∧K (.slice ax (0+m) 0) w:=fun hle=>by
     have:m=0:=by omega
     subst this
     have hu2:us2=[]:=List.length_eq_zero_iff.1 (by rw [hlen2]; simp)
     subst hu2
     have hc2e:cells2=[]:=List.length_eq_zero_iff.1 (by have:=hl2.length; simpa using this.symm)
     subst hc2e
     have h00:Nat.ble (0+0) 0=true:=rfl
     rw [h00] at h
     simp only [Nat.add_zero,cond_true,Nat.zero_mul] at h
     cases hck:Nat.ble o bs.length
     ·rw [hck] at h; cases h
     rw [hck] at h
     cases h
     have hsame:lspl bs o []=bs:=by unfold lspl; simp
     rw [hsame] at hK
     refine ⟨rfl,hK _ _ _ (Ext.refl E) ?_ ⟨rfl,r,hr,.inr ⟨rfl,rfl,ax,rfl⟩⟩⟩
     have:L.set b (.cells bsz bs)=L:=by
      apply List.ext_getElem?
      intro i
      rw [List.getElem?_set]
      split
      ·rename_i e; subst e; rw [hb,if_pos (List.getElem?_eq_some_iff.1 hb).1]
      ·rfl
     rw [this]; exact hR
    refine append_any he hxT hs hx hrd1 hrd2 hbd hby (fun hle _ _=>.inl (none0 hle)) (fun hle _=>(none0 hle).2) (fun hlt c' zs hc' hlz=>?_)
    ·have hm:Nat.ble (0+m) 0=false:=by
      cases hq:Nat.ble (0+m) 0
      ·rfl
      ·have:=Nat.le_of_ble_eq_true hq; omega
     rw [hm] at h
     simp only [cond_false] at h
     cases hex:Nat.beq bsz 0
     ·rw [hex] at h
      simp only [cond_false] at h
      cases hck:(Nat.beq bsz sz && Nat.ble (o+0*sz) bs.length && Nat.ble 0 0)
      ·rw [hck] at h; cases h
      rw [hck] at h
      simp only [cond_true] at h
      cases h
      have k1:=fresh _ (hR.kill b) c' zs hc' hlz
      have k2:=slcNew _ (hR.kill b) c' hc'
      simp only [List.length_set] at k2
      exact hK _ _ _ (Ext.push E _) k1 k2
     ·rw [hex] at h
      simp only [cond_true] at h
      cases h
      exact hK _ _ _ (Ext.push E _) (fresh L hR c' zs hc' hlz) (slcNew L hR c' hc')
  cases hsp
  simp only at h hr
  cases hb:L[b]? with
  | none=>rw [hb] at h; cases h
  | some y =>
   rw [hb] at h
   cases y <;> first | (cases h; done) | skip
   case gro bsz gs =>
    simp only at h
    cases hck:(Nat.beq bsz sz && Nat.beq o 0 && Nat.beq n c && Nat.beq gs.length (n*sz) && gs.all stillS && cells2.all stillS)
    ·rw [hck] at h; cases h
    rw [hck] at h
    cases h
    simp only [Bool.and_eq_true] at hck
    have e1:=Nat.eq_of_beq_eq_true hck.1.1.1.1.1
    have e2:=Nat.eq_of_beq_eq_true hck.1.1.1.1.2
    have e3:=Nat.eq_of_beq_eq_true hck.1.1.1.2
    have e4:=Nat.eq_of_beq_eq_true hck.1.1.2
    subst e1; subst e2; subst e3
    have hu2:us2=cells2:=L2.eq_still hck.2 hl2
    rcases hR.blk b _ r hb hr with ⟨rfl,hr2⟩ | ⟨hne,_,cs,hB,hcs,hroom⟩
    ·have hn0:n=0:=by
      rcases Nat.eq_zero_or_pos n with h0 | h0
      ·exact h0
      ·have:0<n*bsz:=Nat.mul_pos h0 hsz
       simp at e4; omega
     subst hn0
     have hc0:c'=0:=by rcases hcase with ⟨_,rfl⟩ | ⟨_,_,rfl,_⟩ <;> omega
     subst hc0
     have hu1:us=[]:=List.length_eq_zero_iff.1 (by rw [hlen1]; simp)
     subst hu1
     have hblk:a'.spot=none:=by rcases hcase with ⟨rfl,_⟩ | ⟨_,_,_,o',rfl,_⟩ <;> rfl
     have hab:∃ o',a'=⟨r.1,o',none⟩∧o'≤0+r.2.1:=by 
      rcases hcase with ⟨rfl,_⟩ | ⟨_,_,_,o',rfl,ho⟩
      ·exact ⟨_,rfl,Nat.le_refl _⟩
      ·exact ⟨_,rfl,ho⟩
     refine append_any he hxT hs hx hrd1 hrd2 hbd hby (fun hle a ha=>.inl ?_) (fun _ ha=>by cases ha) (fun hlt c'' zs hc'' hlz=>?_)
     ·have:m=0:=by omega
      subst this
      have hc2e:cells2=[]:=List.length_eq_zero_iff.1 (by rw [← hu2,hlen2]; simp)
      subst hc2e
      refine ⟨hu2,hK _ (E++[r]) _ (Ext.push E _) (hR.again hb hr (Fr.refl _ w) (fun c hc=>hc.elim) (.inl ⟨rfl,hr2⟩)) ?_⟩
      obtain ⟨o',rfl,ho'⟩:=hab
      exact ⟨rfl,r,hR.last _,.inl ⟨_,_,rfl,.inr ⟨rfl,rfl,rfl,o',rfl,by simpa using ho'⟩⟩⟩
     ·have hne:cells2≠[]:=by
       intro e
       rw [← hu2] at e
       rw [e] at hlen2
       have:0<m*bsz:=Nat.mul_pos (by omega) hsz
       simp at hlen2
       omega
      have k1:=freshG _ ([]++cells2) (hR.kill b) (by rw [hu2]) hne c'' zs hc'' hlz
      have k2:=slcNew _ (hR.kill b) c'' hc''
      simp only [List.length_set] at k2
      exact hK _ _ _ (Ext.push E _) k1 k2
    ·have hn0:0<n:=by
      rcases Nat.eq_zero_or_pos n with h0 | h0
      ·subst h0; simp at e4; exact absurd e4 hne
      ·exact h0
     rcases hcase with ⟨rfl,rfl⟩ | ⟨h0,_⟩
     rotate_left
     ·omega
     have hus:us=gs:=by
      rcases hrd1.2.2 with ⟨⟨_,_,e⟩,h0⟩ | ⟨b1,o1,c1,cs1,e,hB1,_,h5⟩
      ·omega
      ·cases e
       rw [← h5,← hB.eq hB1,← e4]
       simpa using hcs
     subst hus
     have hne2:us++cells2≠[]:=by
      intro e
      rw [List.append_eq_nil_iff] at e
      exact hne e.1
     refine append_any he hxT hs hx hrd1 hrd2 hbd hby (fun hle' a ha=>.inr ?_) (fun _ ha=>by cases ha) (fun hlt' c'' zs hc'' hlz=>?_)
     ·cases ha
      have hsp:n*bsz+m*bsz≤n*bsz+r.2.2*bsz:=by
       rw [← Nat.add_mul,← Nat.add_mul]; exact Nat.mul_le_mul_right _ hle'
      have hcl:0+r.2.1+n*bsz+us2.length≤cs.length:=by omega
      refine ⟨_,_,cs,rfl,hB,hcl,hK _ (E++[(r.1,0+r.2.1,n+r.2.2-(n+m))]) _ (Ext.push E _) ?_ ?_⟩
      ·refine hR.again hb hr ((putCells_fr (p:=⟨r.1,0+r.2.1+n*bsz,none⟩) us2 0 w).mono fun c _ hc=>?_) (fun c hc=>.inl ?_) (.inr ⟨hne2,hsz,_,putCells_blk us2 0 w cs hB (by omega),?_,?_⟩)
       ·cases us with
        | nil=>exact absurd rfl hne
        | cons=>exact hc
       ·cases us with
        | nil=>exact absurd rfl hne
        | cons=>exact hc
       ·have:=take_splice (cs:=cs) (o:=0+r.2.1) (k:=n*bsz) (b:=us2) (a:=us) hcl (by rw [← e4]; simpa using hcs)
        rw [← hu2,List.length_append,hlen1,Nat.add_zero]
        exact this
       ·rw [← hu2,List.length_append,hlen1,hlen2,Nat.add_zero,splice_length hcl]
        have e5:n*bsz+m*bsz+(n+r.2.2-(n+m))*bsz=n*bsz+r.2.2*bsz:=by
         rw [← Nat.add_mul,← Nat.add_mul,← Nat.add_mul]; congr 1; omega
        show 0+r.2.1+(n*bsz+m*bsz)+(n+r.2.2-(n+m))*bsz≤cs.length
        omega
      ·exact ⟨rfl,(r.1,0+r.2.1,n+r.2.2-(n+m)),hR.last _,.inl ⟨_,_,rfl,.inl ⟨by simp,by simp; omega⟩⟩⟩
     ·have k1:=freshG _ (us++cells2) (hR.kill b) (by rw [hu2]) hne2 c'' zs hc'' hlz
      have k2:=slcNew _ (hR.kill b) c'' hc''
      simp only [List.length_set] at k2
      exact hK _ _ _ (Ext.push E _) k1 k2
   case cells bsz bs =>
   simp only at h
   obtain ⟨cs,hB,hbl,hroom,hz⟩:=hR.blk b _ r hb hr
   have hbll:=hbl.length
   cases hle:Nat.ble (n+m) c
   ·have hlt:c<n+m:=by
     rcases Nat.lt_or_ge c (n+m) with h1 | h1
     ·exact h1
     ·rw [Nat.ble_eq_true_of_le h1] at hle; cases hle
    rw [hle] at h
    simp only [cond_false] at h
    cases hex:Nat.beq bsz 0
    ·-- there may be room
     rw [hex] at h
     simp only [cond_false] at h
     cases hck:(Nat.beq bsz sz && Nat.ble (o+c*sz) bs.length && Nat.ble n c)
     ·rw [hck] at h; cases h
     rw [hck] at h
     simp only [cond_true] at h
     cases h
     simp only [Bool.and_eq_true] at hck
     have e1:=Nat.eq_of_beq_eq_true hck.1.1
     have e2:=Nat.le_of_ble_eq_true hck.1.2
     have e3:=Nat.le_of_ble_eq_true hck.2
     subst e1
     refine append_any he hxT hs hx hrd1 hrd2 hbd hby (fun hle' a ha=>.inr ?_) (fun _ ha=>by cases ha) (fun hlt' c'' zs hc'' hlz=>?_)
     ·cases ha
      rcases hcase with ⟨rfl,rfl⟩ | ⟨rfl,rfl,rfl,_⟩
      ·have hsp:n*bsz+m*bsz≤c*bsz+r.2.2*bsz:=by
        rw [← Nat.add_mul,← Nat.add_mul]; exact Nat.mul_le_mul_right _ hle'
       have hcl:o+r.2.1+n*bsz+us2.length≤cs.length:=by omega
       refine ⟨_,_,cs,rfl,hB,hcl,hK _ (E++[(r.1,o+r.2.1,c+r.2.2-(n+m))]) _ (Ext.push E _) ?_ ?_⟩
       ·refine hR.again hb hr (putCells_fr (p:=⟨r.1,o+r.2.1+n*bsz,none⟩) us2 0 w) (fun c hc=>.inl hc) ⟨_,putCells_blk us2 0 w cs hB (by omega),?_,?_,fun e=>by omega⟩
        ·have hll:=(hl1.append hl2).length
         have hus:us=(cs.drop (o+r.2.1)).take (n*bsz):=by
          rcases hrd1.2.2 with ⟨_,h0⟩ | ⟨b1,o1,c1,cs1,e,hB1,_,h5⟩
          ·subst h0; simp at hlen1; subst hlen1; simp
          ·cases e
           rw [hB.eq hB1]; exact h5.symm
         have:=take_splice (cs:=cs) (o:=o+r.2.1) (k:=n*bsz) (b:=us2) (a:=us) hcl hus.symm
         rw [← hll,List.length_append,hlen1]
         rw [Nat.add_zero,this]
         exact (hl1.append hl2).mono fun _ _=>SR.ext (Ext.push E _)
        ·have hll:=(hl1.append hl2).length
         rw [← hll,List.length_append,hlen1,hlen2,Nat.add_zero,splice_length hcl]
         have e4:n*bsz+m*bsz+(c+r.2.2-(n+m))*bsz=c*bsz+r.2.2*bsz:=by
          rw [← Nat.add_mul,← Nat.add_mul,← Nat.add_mul]; congr 1; omega
         show o+r.2.1+(n*bsz+m*bsz)+(c+r.2.2-(n+m))*bsz≤cs.length
         omega
       ·exact ⟨rfl,(r.1,o+r.2.1,c+r.2.2-(n+m)),hR.last _,.inl ⟨_,_,rfl,.inl ⟨by simp,by simp; omega⟩⟩⟩
      ·omega
     ·have k1:=fresh _ (hR.kill b) c'' zs hc'' hlz
      have k2:=slcNew _ (hR.kill b) c'' hc''
      simp only [List.length_set] at k2
      exact hK _ _ _ (Ext.push E _) k1 k2
    ·-- there is none
     rw [hex] at h
     simp only [cond_true] at h
     cases h
     have hd0:=hz (Nat.eq_of_beq_eq_true hex)
     refine append_any he hxT hs hx hrd1 hrd2 hbd hby (fun hle' a ha=>?_) (fun _ ha=>by cases ha) (fun hlt' c'' zs hc'' hlz=>?_)
     ·rcases hcase with ⟨_,rfl⟩ | ⟨rfl,rfl,rfl,_⟩ <;> omega
     ·exact hK _ _ _ (Ext.push E _) (fresh L hR c'' zs hc'' hlz) (slcNew L hR c'' hc'')
   ·-- in its place
    rw [hle] at h
    have hle:=Nat.le_of_ble_eq_true hle
    simp only [cond_true] at h
    cases hck:Nat.ble (o+c*sz) bs.length
    ·rw [hck] at h; cases h
    rw [hck] at h
    cases h
    have e2:=Nat.le_of_ble_eq_true hck
    have hcm:n*sz+m*sz≤c*sz:=by rw [← Nat.add_mul]; exact Nat.mul_le_mul_right _ hle
    refine append_any he hxT hs hx hrd1 hrd2 hbd hby (fun hle' a ha=>.inr ?_) (fun _ ha=>by cases ha) (fun hlt' c'' zs hc'' hlz=>?_)
    ·cases ha
     rcases hcase with ⟨rfl,rfl⟩ | ⟨rfl,rfl,rfl,o',rfl,ho'⟩
     ·have hcl:o+r.2.1+n*sz+us2.length≤cs.length:=by omega
      refine ⟨_,_,cs,rfl,hB,hcl,hK _ E _ (Ext.refl E) ?_ ⟨rfl,r,hr,.inl ⟨_,_,rfl,.inl ⟨rfl,rfl⟩⟩⟩⟩
      have hc2l:=hl2.length
      have hll:(lspl bs (o+n*sz) cells2).length=bs.length:=by
       unfold lspl; simp; omega
      refine hR.upd hb hr (putCells_fr (p:=⟨r.1,o+r.2.1+n*sz,none⟩) us2 0 w) ⟨_,putCells_blk us2 0 w cs hB (by omega),?_,?_,hz⟩ (fun _ h=>.inl h)
      ·have h3:=L2_splice (o:=o+n*sz) hbl hl2
       have e:((splice cs (o+r.2.1+n*sz+0) us2).drop r.2.1).take bs.length=splice ((cs.drop r.2.1).take bs.length) (o+n*sz) us2:=by
        rw [Nat.add_zero,splice_drop hcl (by omega),show o+r.2.1+n*sz-r.2.1=o+n*sz by omega,splice_take (by omega) (by simp; omega)]
       rw [hll,e]; exact h3
      ·rw [hll,Nat.add_zero,splice_length hcl]; exact hroom
     ·have hm:m=0:=by omega
      subst hm
      have hu2:us2=[]:=List.length_eq_zero_iff.1 (by rw [hlen2]; simp)
      subst hu2
      have hc2e:cells2=[]:=List.length_eq_zero_iff.1 (by have:=hl2.length; simpa using this.symm)
      subst hc2e
      have hsame:lspl bs (o+0*sz) []=bs:=by unfold lspl; simp
      rw [hsame] at hK
      refine ⟨_,_,cs,rfl,hB,by simp; simp at ho'; omega,hK _ E _ (Ext.refl E) ?_ ⟨rfl,r,hr,.inl ⟨_,_,rfl,.inr ⟨rfl,rfl,rfl,o',rfl,ho'⟩⟩⟩⟩
      exact hR.upd hb hr (Fr.refl _ w) (hR.blk b _ r hb hr) (fun _ h=>.inl h)
    ·rcases hcase with ⟨_,rfl⟩ | ⟨rfl,rfl,rfl,_⟩ <;> omega
end
end Go.Tum
end
section
namespace Go.Tum
open Go
def lpart (P:Program) (t:TypeId) (cs:List Value) (o:Nat):Option Value :=
 bif scalarT P t then cs[o]? else match aggT P t with
  | some n=>some (.agg ⟨(cs.take (o+n)).drop o⟩)
  | none=>none
def leqf (P:Program) (rec:TypeId→Value→Value→Option Bool) (xs ys:List Value):List Field→Option Bool
 | []=>some true
 | f::fs=>bif decide (f.name = "_") then leqf P rec xs ys fs else match lpart P f.type xs f.offset,lpart P f.type ys f.offset with
  | some a,some b=>match rec f.type a b with
   | some true=>leqf P rec xs ys fs
   | some false=>some false
   | none=>none
  | _,_=>none
def leqv (P:Program):Nat→TypeId→Value→Value→Option Bool
 | 0,_,_,_=>none
 | d+1,t,x,y=>match P.underlying t,x,y with
  | some .bool,.bool a,.bool b=>some (a == b)
  | some (.int _),.int k a,.int k' b=>bif ikEq k k' then some (a == b) else none
  | some (.pointer _),.pointer none,.pointer b=>some b.isNone
  | some (.pointer _),.pointer (some _),.pointer none=>some false
  | some (.slice _),.slice none _ _,.slice none _ _=>some true
  | some (.slice _),.slice none _ _,.slice (some _) (_+1) _=>some false
  | some (.slice _),.slice (some _) (_+1) _,.slice none _ _=>some false
  | some (.struct fs),.agg ⟨xs⟩,.agg ⟨ys⟩=>bif P.stoodInHeld t then none else leqf P (leqv P d) xs ys fs.toList
  | _,_,_=>none
section
variable {P:Program} {w:World} {E:Emb}
theorem VR.ptrS {a:Addr} {v:Value} (h:VR E (.pointer (some a)) v):∃ a',v=.pointer (some a'):=by
 rcases a with ⟨b,o,_ | s⟩
 ·obtain ⟨a',rfl,_⟩:=h; exact ⟨_,rfl⟩
 ·exact ⟨_,h⟩
theorem VR.slcS {a:Addr} {n c:Nat} {v:Value} (h:VR E (.slice (some a) (n+1) c) v):∃ a' c',v=.slice (some a') (n+1) c':=by
 rcases a with ⟨b,o,_ | s⟩
 ·obtain ⟨_,r,_,⟨a',c',rfl,_⟩ | ⟨h0,_⟩⟩:=h
  ·exact ⟨_,_,rfl⟩
  ·omega
 ·rcases h with h | ⟨h0,_⟩
  ·exact ⟨_,_,h⟩
  ·omega
theorem lpart_ok {t:TypeId} {cs cs':List Value} {o:Nat} {v:Value} (hc:L2 (SR E) cs cs') (h:lpart P t cs o=some v):∃ v',(part t ⟨cs'⟩ o).run P w=.ok v' w∧VR E v v':=by
 unfold lpart at h
 cases hs:scalarT P t
 ·rw [hs] at h
  simp only [cond_false] at h
  cases ha:aggT P t with
  | none=>rw [ha] at h; cases h
  | some n =>
   rw [ha] at h; cases h
   refine ⟨.agg ⟨(cs'.take (o+n)).drop o⟩,?_,_,rfl,(hc.take _).drop _⟩
   simp [part,(isAgg_true ha).1,(isAgg_true ha).2,List.drop_take]
 ·rw [hs] at h
  obtain ⟨v',h1,h2⟩:=hc.get h
  exact ⟨v',part_scalar hs (by simpa using h1),h2.vr⟩
theorem leqv_ok:∀ (d:Nat) (t:TypeId) (x y:Value) (r:Bool),leqv P d t x y=some r→∀ (x' y':Value),VR E x x'→VR E y y'→∀ k,(Op.equalIn (d+k) t x' y').run P w=.ok r w
 | 0,_,_,_,_,h=>by cases h
 | d+1,t,x,y,r,h=>by
  intro x' y' hx hy k
  rw [show d+1+k=d+k+1 by omega]
  unfold leqv at h
  split at h <;> first | (cases h; done) | skip
  ·rename_i a b hu
   cases h; cases hx; cases hy
   exact run_equalIn_bool w _ t a b hu
  ·rename_i k0 k1 a k2 b hu
   cases hk:ikEq k1 k2
   ·rw [hk] at h; cases h
   ·rw [hk] at h; cases h; cases hx; cases hy
    have:=of_decide_eq_true hk
    subst this
    exact equalIn_int hu
  ·rename_i e b hu
   cases h; cases hx
   unfold Op.equalIn
   cases b with
   | none=>cases hy; simp [run_underlying hu]
   | some b=>obtain ⟨b',rfl⟩:=VR.ptrS hy; simp [run_underlying hu]
  ·rename_i e a hu
   cases h; cases hy
   obtain ⟨a',rfl⟩:=VR.ptrS hx
   unfold Op.equalIn
   simp [run_underlying hu]
  ·rename_i hu
   cases h; cases hx; cases hy
   unfold Op.equalIn
   simp [run_underlying hu]
  ·rename_i hu
   cases h; cases hx
   obtain ⟨a',c',rfl⟩:=VR.slcS hy
   unfold Op.equalIn
   simp [run_underlying hu]
  ·rename_i hu
   cases h; cases hy
   obtain ⟨a',c',rfl⟩:=VR.slcS hx
   unfold Op.equalIn
   simp [run_underlying hu]
  ·rename_i fs xs ys hu
   cases hst:P.stoodInHeld t
   ·rw [hst] at h
    simp only [cond_false] at h
    obtain ⟨xs',rfl,hxs⟩:=hx
    obtain ⟨ys',rfl,hys⟩:=hy
    have hfo:P.fieldsOf t=fs:=by simp [Program.fieldsOf,hu]
    rw [run_equalIn_struct w (d+k) t ⟨xs'⟩ ⟨ys'⟩ (by rw [hfo]; exact hu) hst,hfo]
    generalize fs.toList=fl at h
    clear hu hfo
    induction fl with
    | nil=>cases h; rfl
    | cons f fl ih =>
     simp only [leqf] at h
     by_cases hn:f.name = "_"
     ·simp only [hn,decide_true,cond_true] at h
      simp only [Op.eqFields,hn,ne_eq,not_true,if_false]
      exact ih h
     ·simp only [hn,decide_false,cond_false] at h
      cases ha:lpart P f.type xs f.offset with
      | none=>rw [ha] at h; cases h
      | some a =>
       rw [ha] at h
       cases hb:lpart P f.type ys f.offset with
       | none=>rw [hb] at h; cases h
       | some b =>
        rw [hb] at h
        simp only at h
        obtain ⟨a',h1,h2⟩:=lpart_ok (w:=w) hxs ha
        obtain ⟨b',h3,h4⟩:=lpart_ok (w:=w) hys hb
        cases hr:leqv P d f.type a b with
        | none=>rw [hr] at h; cases h
        | some q =>
         rw [hr] at h
         have h5:=leqv_ok d f.type a b q hr a' b' h2 h4 k
         simp only [Op.eqFields,if_pos hn,Sem.run_bind,h1,h3,h5,Result.andThen_ok,ne_eq]
         cases q
         ·cases h; rfl
         ·simp only [Bool.not_true,Bool.false_eq_true,if_false]
          exact ih h
   ·rw [hst] at h; cases h
def noInt:Value→Bool
 | .bool _=>true
 | .pointer _=>true
 | .agg _=>true
 | .slice _ _ _=>true
 | _=>false
def rawQ0 (P:Program):RawQ:=fun _ l o =>
 match o.op with
 | .binOp op t x y _=>match lv l x,lv l y with
  | some a,some b=>bif noInt a && noInt b && !P.eqGuardType P.depth t then (match leqv P 20 t a b with
   | some r=>match op with
    | .eql=>some (.bool r)
    | .neq=>some (.bool (!r))
    | _=>none
   | none=>none) else none
  | _,_=>none
 | .call ⟨.builtin .min,⟨[x,y]⟩,_⟩=>match lv l x,lv l y with
  | some (.int k a),some (.int k' b)=>bif ikEq k k' then some (.int k (min a b)) else none
  | _,_=>none
 | .call ⟨.builtin .max,⟨[x,y]⟩,_⟩=>match lv l x,lv l y with
  | some (.int k a),some (.int k' b)=>bif ikEq k k' then some (.int k (max a b)) else none
  | _,_=>none
 | _=>none
theorem noInt_vr {v v':Value} (h:noInt v=true) (hv:VR E v v'):(∃ b,v'=.bool b)∨(∃ p,v'=.pointer p)∨(∃ cs,v'=.agg cs)∨(∃ p n c,v'=.slice p n c):=by
 cases v <;> first | (cases h; done) | skip
 case bool b=>cases hv; exact .inl ⟨b,rfl⟩
 case pointer p =>
  cases p with
  | none=>cases hv; exact .inr (.inl ⟨_,rfl⟩)
  | some p=>rcases p with ⟨b,o,_ | s⟩ <;> first | (obtain ⟨p',rfl,_⟩:=hv; exact .inr (.inl ⟨_,rfl⟩))|exact .inr (.inl ⟨_,hv⟩)
 case agg cs=>obtain ⟨cs⟩:=cs; obtain ⟨cs',rfl,_⟩:=hv; exact .inr (.inr (.inl ⟨_,rfl⟩))
 case slice p n c =>
  cases p with
  | none=>cases hv; exact .inr (.inr (.inr ⟨_,_,_,rfl⟩))
  | some p =>
   rcases p with ⟨b,o,_ | s⟩
   ·obtain ⟨_,r,_,⟨a',c',rfl,_⟩ | ⟨_,_,_,rfl⟩⟩:=hv <;> exact .inr (.inr (.inr ⟨_,_,_,rfl⟩))
   ·rcases hv with hv | ⟨_,_,_,hv⟩ <;> exact .inr (.inr (.inr ⟨_,_,_,hv⟩))
theorem eq_run {d:Option Tmp} {ty:TypeId} {pos:String} {af:Array Edge} {g:Option (Nat × Bool)} {ρ:Operand→Value} {t t':TypeId} {x y:Operand} {a b:Value} {r:Bool} (ha:(∃ b,a=.bool b)∨(∃ p,a=.pointer p)∨(∃ cs,a=.agg cs)∨(∃ p n c,a=.slice p n c)) (hb:(∃ x,b=.bool x)∨(∃ p,b=.pointer p)∨(∃ cs,b=.agg cs)∨(∃ p n c,b=.slice p n c))
  (hx:ρ x=a) (hy:ρ y=b) (hg:P.eqGuardType P.depth t=false) (he:(Op.equalIn 10000 t a b).run P w=.ok r w) :
  (execOp ρ ⟨d,.binOp .eql t x y t',ty,pos,af,g⟩).run P w=.ok (.value (.bool r)) w∧(execOp ρ ⟨d,.binOp .neq t x y t',ty,pos,af,g⟩).run P w=.ok (.value (.bool (!r))) w:=by
 have he':(Op.equal t a b).run P w=.ok r w:=he
 have hgd:∀ op,(eqGuard op t x y a b).run P w=.ok () w:=by
  intro op
  rcases ha with ⟨_,rfl⟩ | ⟨_,rfl⟩ | ⟨_,rfl⟩ | ⟨_,_,_,rfl⟩ <;> rcases hb with ⟨_,rfl⟩ | ⟨_,rfl⟩ | ⟨_,rfl⟩ | ⟨_,_,_,rfl⟩ <;> first|exact run_eqGuard_agg w op t x y _ _ hg | (cases op <;> simp [eqGuard])
 constructor
 ·have hbn:binOp .eql t a b=(do pure (.bool (← Op.equal t a b))):=by
   rcases ha with ⟨_,rfl⟩ | ⟨_,rfl⟩ | ⟨_,rfl⟩ | ⟨_,_,_,rfl⟩ <;> rcases hb with ⟨_,rfl⟩ | ⟨_,rfl⟩ | ⟨_,rfl⟩ | ⟨_,_,_,rfl⟩ <;> rfl
  simp only [execOp,hx,hy,hbn]
  simp [hgd,he']
 ·have hbn:binOp .neq t a b=(do pure (.bool (!(← Op.equal t a b)))):=by
   rcases ha with ⟨_,rfl⟩ | ⟨_,rfl⟩ | ⟨_,rfl⟩ | ⟨_,_,_,rfl⟩ <;> rcases hb with ⟨_,rfl⟩ | ⟨_,rfl⟩ | ⟨_,rfl⟩ | ⟨_,_,_,rfl⟩ <;> rfl
  simp only [execOp,hx,hy,hbn]
  simp [hgd,he']
theorem rawQ0_ok (P:Program):RawOk P (rawQ0 P):=by
 intro X w0 w E L l l' o v h hR hl
 unfold rawQ0 at h
 obtain ⟨d,op,ty,pos,af,g⟩:=o
 simp only at h
 split at h <;> first | (cases h; done) | skip
 ·rename_i bop t x y t'
  cases hx:lv l x with
  | none=>rw [hx] at h; cases h
  | some a =>
   rw [hx] at h
   cases hy:lv l y with
   | none=>rw [hy] at h; cases h
   | some b =>
    rw [hy] at h
    simp only at h
    cases hc:(noInt a && noInt b && !P.eqGuardType P.depth t)
    ·rw [hc] at h; cases h
    rw [hc] at h
    simp only [cond_true] at h
    simp only [Bool.and_eq_true,Bool.not_eq_true'] at hc
    obtain ⟨a',ha1,ha2⟩:=lv_ev hl hx
    obtain ⟨b',hb1,hb2⟩:=lv_ev hl hy
    cases hq:leqv P 20 t a b with
    | none=>rw [hq] at h; cases h
    | some r =>
     rw [hq] at h
     have run:∀ (ρ:Operand→Value) (w1:World),Agr l' ρ→_:=fun ρ w1 hag =>
      eq_run (P:=P) (w:=w1) (d:=d) (ty:=ty) (pos:=pos) (af:=af) (g:=g) (t':=t') (noInt_vr hc.1.1 ha2) (noInt_vr hc.1.2 hb2) (hag x _ ha1) (hag y _ hb1) hc.2 (leqv_ok (w:=w1) 20 t a b r hq a' b' ha2 hb2 9980)
     cases bop <;> first | (cases h; done) | skip
     ·cases h; exact ⟨_,fun ρ w1 hag _=>(run ρ w1 hag).1,rfl⟩
     ·cases h; exact ⟨_,fun ρ w1 hag _=>(run ρ w1 hag).2,rfl⟩
 ·rename_i x y ts
  split at h <;> first | (cases h; done) | skip
  rename_i k a k' b hx hy
  cases hk:ikEq k k'
  ·rw [hk] at h; cases h
  rw [hk] at h; cases h
  have:=of_decide_eq_true hk
  subst this
  obtain ⟨_,hx1,rfl⟩:=lv_ev hl hx
  obtain ⟨_,hy1,rfl⟩:=lv_ev hl hy
  refine ⟨.int k (min a b),fun ρ w1 ha _=>?_,rfl⟩
  have:(if b<a then b else a)=min a b:=by rw [Int.min_def]; split <;> split <;> omega
  simp [execOp,resolve,invoke,builtin,Builtin.min_,Builtin.min2,ha x _ hx1,ha y _ hy1,this]
 ·rename_i x y ts
  split at h <;> first | (cases h; done) | skip
  rename_i k a k' b hx hy
  cases hk:ikEq k k'
  ·rw [hk] at h; cases h
  rw [hk] at h; cases h
  have:=of_decide_eq_true hk
  subst this
  obtain ⟨_,hx1,rfl⟩:=lv_ev hl hx
  obtain ⟨_,hy1,rfl⟩:=lv_ev hl hy
  refine ⟨.int k (max a b),fun ρ w1 ha _=>?_,rfl⟩
  simp [execOp,resolve,invoke,builtin,Builtin.max_,Builtin.max2,ha x _ hx1,ha y _ hy1]
  omega
def elemOf (P:Program) (sT:TypeId):Option (TypeId × TypeInfo × Value) :=
 match P.underlying sT with
 | some (.slice e)=>match P.info? e with
  | some i=>match i.zero with
   | some z=>some (e,i,z)
   | none=>none
  | none=>none
 | _=>none
theorem elemOf_ok {sT e:TypeId} {i:TypeInfo} {z:Value} (h:elemOf P sT=some (e,i,z)):P.underlying sT=some (.slice e)∧P.info? e=some i∧i.zero=some z:=by
 unfold elemOf at h
 split at h <;> first | (cases h; done) | skip
 rename_i e' hu
 split at h <;> first | (cases h; done) | skip
 rename_i i' hi
 split at h <;> cases h
 rename_i hz
 exact ⟨hu,hi,hz⟩
def isSl (P:Program) (t:TypeId):Bool :=
 match P.underlying t with
 | some (.slice _)=>true
 | _=>false
theorem isSl_ok {t:TypeId} (h:isSl P t=true):∃ e,P.underlying t=some (.slice e):=by
 unfold isSl at h
 split at h
 ·rename_i e he; exact ⟨e,he⟩
 ·cases h
def rawE0 (P:Program):RawE:=fun L l o =>
 match o.op with
 | .call ⟨.builtin .append,⟨[s,x]⟩,⟨[sT,xT]⟩⟩=>match elemOf P sT,lv l s,lv l x with
  | some (_,i,z),some vs,some vx=>bif isSl P xT && Nat.beq z.cells.toList.length i.size && z.cells.toList.all one && Nat.blt 0 i.bytes && Nat.blt 0 i.size then lapp L i.size i.bytes vs vx else none
  | _,_,_=>none
 | .makeSlice sT n c=>match elemOf P sT,lv l n,lv l c with
  | some (_,i,z),some (.int .i64 (.ofNat k)),some (.int .i64 (.ofNat k'))=>bif Nat.beq k k' && Nat.beq i.size 1 && stillS z && Nat.ble (i.bytes*k) 281474976710656 && Nat.ble k 9223372036854775807 then
    some (.slice (some ⟨L.length,0,none⟩) k k,L++[.cells 0 (List.replicate k z)]) else none
  | _,_,_=>none
 | _=>none
theorem rawE0_ok (P:Program):RawEOk P (rawE0 P):=by
 intro X w0 w E L l l' o v L' K h hR hl hK
 unfold rawE0 at h
 obtain ⟨d,op,ty,pos,af,g⟩:=o
 simp only at h
 split at h <;> first | (cases h; done) | skip
 ·rename_i s x sT xT
  split at h <;> first | (cases h; done) | skip
  rename_i e i z vs vx he hs hx
  cases hc:(isSl P xT && Nat.beq z.cells.toList.length i.size && z.cells.toList.all one && Nat.blt 0 i.bytes && Nat.blt 0 i.size)
  ·rw [hc] at h; cases h
  rw [hc] at h
  simp only [Bool.and_eq_true] at hc
  obtain ⟨hu,hi,hz⟩:=elemOf_ok he
  obtain ⟨vs',h1,h2⟩:=lv_ev hl hs
  obtain ⟨vx',h3,h4⟩:=lv_ev hl hx
  exact lapp_ok ⟨hu,i,z,hi,rfl,rfl,hz,by simpa using Nat.eq_of_beq_eq_true hc.1.1.1.2,fun u hu=>List.all_eq_true.1 hc.1.1.2 u hu⟩ (isSl_ok hc.1.1.1.1) (Nat.le_of_ble_eq_true hc.1.2) (Nat.le_of_ble_eq_true hc.2) hR h1 h3 h2 h4 h hK
 ·rename_i sT n c
  split at h <;> first | (cases h; done) | skip
  rename_i e i z k k' he hn hcc
  cases hc:(Nat.beq k k' && Nat.beq i.size 1 && stillS z && Nat.ble (i.bytes*k) 281474976710656 && Nat.ble k 9223372036854775807)
  ·rw [hc] at h; cases h
  rw [hc] at h
  cases h
  simp only [Bool.and_eq_true] at hc
  have hkk:=Nat.eq_of_beq_eq_true hc.1.1.1.1
  subst hkk
  obtain ⟨hu,hi,hz⟩:=elemOf_ok he
  obtain ⟨_,h1,rfl⟩:=lv_ev hl hn
  obtain ⟨_,h3,rfl⟩:=lv_ev hl hcc
  have hz1:=SR.still (E:=E) hc.1.1.2
  exact makeSlice_W (ty:=ty) hu ⟨i,hi,rfl,rfl,hz⟩ (one_cells hz1.one.1) hz1.one.1 (Nat.eq_of_beq_eq_true hc.1.1.1.2) (Nat.le_of_ble_eq_true hc.1.2) (Nat.le_of_ble_eq_true hc.2) h1 h3 (fun w' v' _ hf hsz hv hB=>by
   subst hv
   refine hK w' (E++[(w.heap.size,0,0)]) _ (Ext.push E _) (hR.push1 hf rfl hsz (fun _ h=>h) ⟨_,hB,?_,?_,fun _=>rfl⟩) ⟨rfl,_,hR.last _,.inl ⟨_,_,rfl,.inl ⟨by simp,by simp⟩⟩⟩
   ·simp only [List.drop_zero]
    rw [List.take_of_length_le (Nat.le_refl _)]
    exact L2.self fun a ha=>by rw [List.eq_of_mem_replicate ha]; exact SR.still hc.1.1.2
   ·simp)
end
end Go.Tum
end
section
namespace Go.Tum
open Go
def repC:Nat→List Value→List Value
 | 0,_=>[]
 | n+1,zs=>zs++repC n zs
theorem repC_length (zs:List Value):∀ n,(repC n zs).length=n*zs.length
 | 0=>by simp [repC]
 | n+1=>by simp [repC,repC_length zs n,Nat.add_mul]; omega
theorem repC_get (zs:List Value):∀ (n j:Nat),j<n*zs.length→(repC n zs)[j]?=zs[j % zs.length]?
 | 0,j,h=>by simp at h
 | n+1,j,h=>by
  simp only [repC]
  rw [List.getElem?_append]
  split
  ·rename_i hj; rw [Nat.mod_eq_of_lt hj]
  ·rename_i hj
   have h1:j-zs.length<n*zs.length:=by rw [Nat.add_mul] at h; omega
   rw [repC_get zs n _ h1]
   congr 1
   rw [← Nat.mod_eq_sub_mod (by omega)]
theorem repC_mem {zs:List Value} {u:Value}:∀ {n:Nat},u∈repC n zs→u∈zs
 | 0,h=>by simp [repC] at h
 | n+1,h=>by
  simp only [repC,List.mem_append] at h
  rcases h with h | h
  ·exact h
  ·exact repC_mem h
theorem rangeC (zero:Array Value) (n:Nat) (h:0<zero.size):((Array.range (n*zero.size)).map fun i=>zero[i % zero.size]!)=(repC n zero.toList).toArray:=by
 apply Array.ext'
 simp only [Array.toList_map,Array.toList_range]
 apply List.ext_getElem?
 intro j
 simp only [List.getElem?_map]
 by_cases hj:j<n*zero.size
 ·have:=repC_get zero.toList n j (by simpa using hj)
  rw [this]
  have hm:j % zero.size<zero.size:=Nat.mod_lt _ h
  simp [hj,hm]
 ·have hl:(repC n zero.toList).length≤j:=by rw [repC_length]; simp; omega
  rw [List.getElem?_eq_none hl]
  simp [hj]
section
variable {P:Program} {w:World} {l:Env} {K:Value→World→Prop}
theorem makeSlice_any {sT e ty:TypeId} {xn xc:Operand} {n c:Nat} {i:TypeInfo} {z:Value} (he:P.underlying sT=some (.slice e)) (hi:P.info? e=some i) (hz:i.zero=some z) (hsz:z.cells.size=i.size) (hpos:0<i.size) (hnc:n≤c)
  (hb:i.bytes*c≤140737488355328) (hn64:c≤9223372036854775807) (hn:ev l xn=some (.int .i64 n)) (hc:ev l xc=some (.int .i64 c))
  (h:K (.slice (some ⟨w.heap.size,0,none⟩) n c) (w.alloc (.cells (repC c z.cells.toList).toArray e))):(EOp.raw (makeSliceOp sT xn xc ty)).W P K l w:=by
 intro ρ w0 ha hs
 refine Eff.value (v:=.slice (some ⟨w0.heap.size,0,none⟩) n c) (w':=w0.alloc (.cells (repC c z.cells.toList).toArray e)) ?_ ⟨_,hs.push _,by rw [hs.heap]; exact h⟩
 have hwr:IntKind.i64.wrap (c:Int)=c:=wrap64_id (by omega) (by omega)
 have hwn:IntKind.i64.wrap (n:Int)=n:=wrap64_id (by omega) (by omega)
 have hbi:¬ ((281474976710656:Int)<(i.bytes:Int)*(c:Int)):=by
  have:((i.bytes*c:Nat):Int)≤((140737488355328:Nat):Int):=Int.ofNat_le.2 hb
  rw [Int.natCast_mul] at this
  omega
 have hroom:¬ (c*i.bytes > roomBytes):=by
  unfold roomBytes; rw [Nat.mul_comm]; omega
 simp only [execOp,makeSliceOp,Instr.makeSlice,ha xn _ hn,ha xc _ hc]
 by_cases hc0:c=0
 ·subst hc0
  obtain rfl:n=0:=by omega
  have hwr0:IntKind.i64.wrap 0=0:=hwr
  simp [run_underlying he,typeInfo_run hi,asInt,asIntOf,sizeOf_run hi,newRow,hwr0,repC]
  rw [show (Array.range 0) = #[] from Array.eq_empty_of_size_eq_zero (by simp),Array.map_empty]
 ·have hne:c*i.size≠0:=Nat.mul_ne_zero hc0 (by omega)
  have hrow:=rangeC z.cells c (by omega)
  rw [hsz] at hrow
  have hlt:¬ ((c:Int)<(n:Int)):=by omega
  simp [run_underlying he,typeInfo_run hi,asInt,asIntOf,sizeOf_run hi,newRow,hwr,hwn,hbi,hlt,askRoom]
  rw [if_neg (by omega),if_neg hne]
  simp [zero_run hi hz,hsz,hrow]
theorem loadCells_none (a:Addr):(loadCells a 0).run P w=.ok #[] w:=loadCells_run 0 0 #[] #[] rfl (fun j _ hj=>by omega) (by simp)
theorem copy_any {d:Option Tmp} {pos:String} {af:Array Edge} {g:Option (Nat × Bool)} {x y:Operand} {dT sT e ty:TypeId} {i:TypeInfo} {base sb:Option Addr} {dn dc sn sc:Nat} (he:P.underlying dT=some (.slice e)) (hi:P.info? e=some i)
  (hx:ev l x=some (.slice base dn dc)) (hy:ev l y=some (.slice sb sn sc))
  (h0:min sn dn=0→K (.int .i64 0) w)
  (h1:0<min sn dn→∃ b o sb' so cs ss,base=some ⟨b,o,none⟩∧sb=some ⟨sb',so,none⟩∧Blk w b cs∧Blk w sb' ss∧o+min sn dn*i.size≤cs.length∧so+min sn dn*i.size≤ss.length∧(∀ u∈(ss.drop so).take (min sn dn*i.size),one u=true) ∧
   K (.int .i64 (min sn dn:Nat)) (putCells w ⟨b,o,none⟩ 0 ((ss.drop so).take (min sn dn*i.size)))) :
  (EOp.raw ⟨d,.call ⟨.builtin .copy,#[x,y],#[dT,sT]⟩,ty,pos,af,g⟩).W P K l w:=by
 intro ρ w0 ha hs
 have hexec:execOp ρ ⟨d,.call ⟨.builtin .copy,#[x,y],#[dT,sT]⟩,ty,pos,af,g⟩=(do let r ← Builtin.copy_ #[dT,sT] ty #[.slice base dn dc,.slice sb sn sc]; pure (Next.value r)):=by
  simp [execOp,resolve,invoke,builtin,ha x _ hx,ha y _ hy]
 have hmin:∀ a b:Nat,Nat.min a b=min a b:=fun _ _=>rfl
 by_cases hz:min sn dn=0
 ·refine Eff.value (v:=.int .i64 0) (w':=w0) ?_ ⟨w,hs,h0 hz⟩
  rw [hexec]
  cases sb <;> cases base <;> simp [Builtin.copy_,run_underlying he,Builtin.lenOf,sizeOf_run hi,Builtin.firstCells,hmin,hz,loadCells_none,storeCells,goInt]
 ·obtain ⟨b,o,sb',so,cs,ss,rfl,rfl,hB,hS,hle,hsl,hone,hK⟩:=h1 (by omega)
  have hload:=loadCells_blk (P:=P) (hS.sim hs) (o:=so) (n:=min sn dn*i.size) hsl
  have hlen:((ss.drop so).take (min sn dn*i.size)).length=min sn dn*i.size:=by simp; omega
  have hst:=storeCells_blk (P:=P) (w:=w0) (hB.sim hs) (o:=o) (vs:=(ss.drop so).take (min sn dn*i.size)) (by omega) hone
  refine Eff.value (v:=.int .i64 (min sn dn:Nat)) (w':=putCells w0 ⟨b,o,none⟩ 0 ((ss.drop so).take (min sn dn*i.size))) ?_ ⟨_,putCells_sim hs _ _ _,hK⟩
  rw [hexec]
  simp only [Builtin.copy_,List.getElem?_toArray,List.getElem?_cons_zero,List.getElem?_cons_succ,Sem.run_bind,run_underlying he,Result.andThen_ok,Builtin.lenOf,Sem.run_pure,sizeOf_run hi,Builtin.firstCells,hmin,hload,hst,goInt]
theorem clear_any {d:Option Tmp} {pos:String} {af:Array Edge} {g:Option (Nat × Bool)} {x:Operand} {dT e ty:TypeId} {i:TypeInfo} {z:Value} {base:Option Addr} {dn dc:Nat} (he:P.underlying dT=some (.slice e)) (hi:P.info? e=some i) (hz:i.zero=some z) (hzp:0<z.cells.size)
  (hone:∀ u∈z.cells.toList,one u=true) (hx:ev l x=some (.slice base dn dc))
  (h0:dn=0→K (.tuple #[]) w)
  (h1:0<dn→∃ b o cs,base=some ⟨b,o,none⟩∧Blk w b cs∧o+dn*z.cells.size≤cs.length∧K (.tuple #[]) (putCells w ⟨b,o,none⟩ 0 (repC dn z.cells.toList))) :
  (EOp.raw ⟨d,.call ⟨.builtin .clear,#[x],#[dT]⟩,ty,pos,af,g⟩).W P K l w:=by
 intro ρ w0 ha hs
 have hexec:execOp ρ ⟨d,.call ⟨.builtin .clear,#[x],#[dT]⟩,ty,pos,af,g⟩=(do let r ← Builtin.clear_ #[dT] ty #[.slice base dn dc]; pure (Next.value r)):=by
  simp [execOp,resolve,invoke,builtin,ha x _ hx]
 cases dn with
 | zero =>
  refine Eff.value (v:=.tuple #[]) (w':=w0) ?_ ⟨w,hs,h0 rfl⟩
  rw [hexec]
  cases base <;> simp [Builtin.clear_,run_underlying he]
 | succ n =>
  obtain ⟨b,o,cs,rfl,hB,hle,hK⟩:=h1 (by omega)
  have hst:=storeCells_blk (P:=P) (w:=w0) (hB.sim hs) (o:=o) (vs:=repC (n+1) z.cells.toList) (by rw [repC_length]; simpa using hle) (fun u hu=>hone u (repC_mem hu))
  refine Eff.value (v:=.tuple #[]) (w':=putCells w0 ⟨b,o,none⟩ 0 (repC (n+1) z.cells.toList)) ?_ ⟨_,putCells_sim hs _ _ _,hK⟩
  have hrow:=rangeC z.cells (n+1) hzp
  rw [hexec]
  simp only [Builtin.clear_,List.getElem?_toArray,List.getElem?_cons_zero,Sem.run_bind,run_underlying he,Result.andThen_ok,zero_run hi hz,Builtin.zeroCells,hrow,hst,Sem.run_pure]
end
theorem keyLaw_int {P:Program} {t:TypeId} {k k':IntKind} (ht:P.underlying t=some (.int k')):KeyLaw P t (Value.int k):=by
 refine ⟨fun e a w=>?_,fun a=>?_,fun a m w=>?_⟩
 ·unfold Instr.checkKey
  simp [run_underlying ht]
 ·simp [Instr.sameBits]
 ·have key:∀ (m:List (Int × Value × Nat)) (i:Nat),Instr.findNow (.int k') (.int k a) (m.map (mkE (Value.int k))) i=some ((mix m a).bind fun j=>m[j]?.map fun x=>(i+j,x.2.1)):=by
   intro m
   induction m with
   | nil=>intro i; simp [Instr.findNow,mix]
   | cons x r ih =>
    intro i
    simp only [List.map_cons,Instr.findNow,mkE,Instr.sameNow,if_true]
    by_cases h:a=x.1
    ·have:(a == x.1)=true:=by simpa using h
     rw [this]
     simp [mix,List.findIdx?_cons,h]
    ·have:(a == x.1)=false:=by simpa using h
     rw [this]
     simp only
     rw [ih (i+1)]
     have h':¬ x.1=a:=fun e=>h e.symm
     simp only [mix,List.findIdx?_cons,decide_eq_true_eq,h',if_false]
     cases hq:List.findIdx? (fun x:Int × Value × Nat=>decide (x.1=a)) r with
     | none=>simp
     | some j =>
      simp only [Option.bind_some,Option.map_some,List.getElem?_cons_succ]
      rw [show i+1+j=i+(j+1) by omega]
  unfold Instr.findKey
  rw [Sem.run_bind,run_underlying ht]
  simp only [Result.andThen_ok,key m 0]
  simp
def mInt (k:IntKind):List (Value × Value × Nat)→Option (List (Int × Value × Nat))
 | []=>some []
 | (.int k' a,v,b)::r=>bif ikEq k k' then (match mInt k r with
  | some s=>some ((a,v,b)::s)
  | none=>none) else none
 | _::_=>none
def mBack (k:IntKind) (m:List (Int × Value × Nat)):List (Value × Value × Nat):=m.map fun x=>(.int k x.1,x.2.1,x.2.2)
def MI (E:Emb):List (Int × Value × Nat)→List (Int × Value × Nat)→Prop
 | [],[]=>True
 | a::r,b::s=>(b.1=a.1∧V1 E a.2.1 b.2.1∧b.2.2=a.2.2)∧MI E r s
 | _,_=>False
theorem mInt_ok {E:Emb} {k:IntKind}:∀ {m:List (Value × Value × Nat)} {es:List MapEntry} {mi:List (Int × Value × Nat)},mInt k m=some mi→M2 E m es→∃ mr,es=mr.map (mkE (Value.int k))∧MI E mi mr
 | [],[],mi,h,_=>by cases h; exact ⟨[],rfl,trivial⟩
 | [],_::_,_,_,h=>h.elim
 | _::_,[],_,_,h=>h.elim
 | (u,v,b)::r,e::es,mi,h,⟨⟨h1,h2,h3⟩,h4⟩=>by
  cases u <;> first | (cases h; done) | skip
  case int k' a =>
  simp only [mInt] at h
  cases hk:ikEq k k'
  ·rw [hk] at h; cases h
  rw [hk] at h
  have hk:=of_decide_eq_true hk
  subst hk
  simp only [cond_true] at h
  cases hr:mInt k r with
  | none=>rw [hr] at h; cases h
  | some s =>
   rw [hr] at h; cases h
   obtain ⟨mr,h5,h6⟩:=mInt_ok hr h4
   refine ⟨(a,e.val,b)::mr,?_,⟨rfl,h2,rfl⟩,h6⟩
   obtain ⟨ek,ev',eb⟩:=e
   simp only at h1 h3
   cases h1; subst h3
   simp [h5,mkE]
theorem MI.back {E:Emb} {k:IntKind}:∀ {mi mr:List (Int × Value × Nat)},MI E mi mr→M2 E (mBack k mi) (mr.map (mkE (Value.int k)))
 | [],[],_=>trivial
 | a::r,b::s,h=>⟨⟨by rw [show (mkE (Value.int k) b).key=Value.int k b.1 from rfl,h.1.1]; rfl,h.1.2.1,h.1.2.2⟩,MI.back h.2⟩
 | [],_::_,h=>h.elim
 | _::_,[],h=>h.elim
theorem MI.find {E:Emb} (a:Int):∀ {mi mr:List (Int × Value × Nat)},MI E mi mr→(mfind mi a=none∧mfind mr a=none)∨∃ x y,mfind mi a=some x∧mfind mr a=some y∧V1 E x.2.1 y.2.1∧y.2.2=x.2.2∧y.1=x.1
 | [],[],_=>.inl ⟨rfl,rfl⟩
 | x::r,y::s,h=>by
  simp only [mfind,List.find?_cons]
  rw [h.1.1]
  cases hd:decide (x.1=a)
  ·simpa [mfind] using MI.find a h.2
  ·exact .inr ⟨x,y,rfl,rfl,h.1.2.1,h.1.2.2,h.1.1⟩
 | [],_::_,h=>h.elim
 | _::_,[],h=>h.elim
theorem MI.put {E:Emb} (a:Int) {v v':Value} (hv:V1 E v v'):∀ {mi mr:List (Int × Value × Nat)},MI E mi mr→MI E (mput mi a v) (mput mr a v')
 | [],[],_=>trivial
 | x::r,y::s,h=>by
  refine ⟨?_,MI.put a hv h.2⟩
  simp only [h.1.1]
  by_cases e:x.1=a
  ·simp only [e,if_true]; exact ⟨trivial,hv,h.1.2.2⟩
  ·simp only [e,if_false]; exact h.1
 | [],_::_,h=>h.elim
 | _::_,[],h=>h.elim
theorem MI.push {E:Emb} {z z':Int × Value × Nat} (hz:z'.1=z.1∧V1 E z.2.1 z'.2.1∧z'.2.2=z.2.2):∀ {mi mr:List (Int × Value × Nat)},MI E mi mr→MI E (mi++[z]) (mr++[z'])
 | [],[],_=>⟨hz,trivial⟩
 | _::_,_::_,h=>⟨h.1,MI.push hz h.2⟩
 | [],_::_,h=>h.elim
 | _::_,[],h=>h.elim
theorem MI.del {E:Emb} (a:Int):∀ {mi mr:List (Int × Value × Nat)},MI E mi mr→MI E (mdel mi a) (mdel mr a)
 | [],[],_=>trivial
 | x::r,y::s,h=>by
  simp only [mdel,List.filter_cons,h.1.1]
  by_cases e:x.1=a
  ·simp only [e,decide_true,Bool.not_true,Bool.false_eq_true,if_false]; exact MI.del a h.2
  ·simp only [e,decide_false,Bool.not_false,if_true]; exact ⟨h.1,MI.del a h.2⟩
 | [],_::_,h=>h.elim
 | _::_,[],h=>h.elim
theorem MI.keys {E:Emb}:∀ {mi mr:List (Int × Value × Nat)},MI E mi mr→mr.map (·.1)=mi.map (·.1)∧mr.map (·.2.2)=mi.map (·.2.2)
 | [],[],_=>⟨rfl,rfl⟩
 | _::_,_::_,h=>by simp [h.1.1,h.1.2.2,(MI.keys h.2).1,(MI.keys h.2).2]
 | [],_::_,h=>h.elim
 | _::_,[],h=>h.elim
def ndupI:List Int→Bool
 | []=>true
 | a::r => !(r.any fun b=>decide (b=a)) && ndupI r
theorem ndupI_ok:∀ {l:List Int},ndupI l=true→l.Nodup
 | [],_=>List.nodup_nil
 | a::r,h=>by
  simp only [ndupI,Bool.and_eq_true,Bool.not_eq_true'] at h
  refine List.nodup_cons.2 ⟨fun hm=>?_,ndupI_ok h.2⟩
  have:=List.any_eq_false.1 h.1 a hm
  simp at this
def wfB (m:List (Int × Value × Nat)) (c:Nat):Bool:=ndupI (m.map (·.1)) && ndup (m.map (·.2.2)) && (m.map (·.2.2)).all fun b=>Nat.blt b c
theorem wfB_ok {E:Emb} {mi mr:List (Int × Value × Nat)} {c:Nat} (h:wfB mi c=true) (hm:MI E mi mr):Wf mr c:=by
 simp only [wfB,Bool.and_eq_true] at h
 refine ⟨by rw [hm.keys.1]; exact ndupI_ok h.1.1,by rw [hm.keys.2]; exact ndup_ok h.1.2,fun x hx=>?_⟩
 have:x.2.2∈mi.map (·.2.2):=by rw [← hm.keys.2]; exact List.mem_map_of_mem hx
 exact Nat.le_of_ble_eq_true (List.all_eq_true.1 h.2 _ this)
def keyKind (P:Program) (mT:TypeId):Option TypeId :=
 match P.underlying mT with
 | some (.map kt et)=>match P.underlying kt with
  | some (.int _)=>some et
  | _=>none
 | _=>none
theorem keyKind_ok {P:Program} {mT et:TypeId} (h:keyKind P mT=some et):∃ kt k,P.underlying mT=some (.map kt et)∧P.underlying kt=some (.int k):=by
 unfold keyKind at h
 split at h <;> first | (cases h; done) | skip
 rename_i kt et' hu
 split at h <;> cases h
 rename_i k hk
 exact ⟨kt,k,hu,hk⟩
def zeroOf (P:Program) (t:TypeId):Option Value :=
 match P.info? t with
 | some i=>i.zero
 | none=>none
theorem zeroOf_ok {P:Program} {t:TypeId} {z:Value} (h:zeroOf P t=some z) (w:World):(zeroValue t).run P w=.ok z w:=by
 unfold zeroOf at h
 split at h
 ·rename_i i hi; exact zero_run hi h w
 ·cases h
def lmapOf (L:LH) (l:Env) (k:IntKind) (x:Operand):Option (Nat × List (Int × Value × Nat) × Nat) :=
 match lv l x with
 | some (.map (some b))=>match L[b]? with
  | some (.map m c)=>match mInt k m with
   | some mi=>some (b,mi,c)
   | none=>none
  | _=>none
 | _=>none
theorem lmapOf_ok {X:Nat→Prop} {w0 w:World} {E:Emb} {L:LH} {l l':Env} {k:IntKind} {x:Operand} {b c:Nat} {mi:List (Int × Value × Nat)} (h:lmapOf L l k x=some (b,mi,c)) (hR:Rep X w0 E L w) (hl:ER E l l') :
  ∃ r mr m,L[b]?=some (.map m c)∧E[b]?=some r∧ev l' x=some (.map (some r.1))∧Mp (Value.int k) w r.1 mr c∧MI E mi mr:=by
 unfold lmapOf at h
 split at h <;> first | (cases h; done) | skip
 rename_i b' hx
 split at h <;> first | (cases h; done) | skip
 rename_i m c' hb
 split at h <;> cases h
 rename_i hm
 obtain ⟨_,h1,r,h2,rfl⟩:=lv_ev hl hx
 obtain ⟨es,h3,h4⟩:=hR.blk _ _ r hb h2
 obtain ⟨mr,rfl,h5⟩:=mInt_ok hm h4
 exact ⟨r,mr,m,hb,h2,h1,h3,h5⟩
def rawQ1 (P:Program):RawQ:=fun L l o =>
 match o.op with
 | .lookup mT x y ok=>match keyKind P mT,lv l y with
  | some et,some (.int k a)=>match zeroOf P et,lmapOf L l k x with
   | some z,some (_,mi,_)=>bif still z then (match mfind mi a,ok with
    | some e,false=>some e.2.1
    | some e,true=>some (.tuple ⟨[e.2.1,.bool true]⟩)
    | none,false=>some z
    | none,true=>some (.tuple ⟨[z,.bool false]⟩)) else none
   | _,_=>none
  | _,_=>none
 | .call ⟨.builtin .len,⟨[x]⟩,⟨[mT]⟩⟩=>match keyKind P mT,lmapOf L l .i64 x with
  | some _,some (_,mi,_)=>some (.int .i64 mi.length)
  | _,_=>none
 | _=>rawQ0 P L l o
theorem V1.still {E:Emb} {z:Value} (h:still z=true):V1 E z z:=by
 cases z <;> first | rfl | skip
 case pointer a=>exact SR.still (v:=.pointer a) h
 case slice a n c=>exact SR.still (v:=.slice a n c) h
 case map a=>exact SR.still (v:=.map a) h
 case func f a c=>exact SR.still (v:=.func f a c) h
 case agg cs=>exact VR.still (v:=.agg cs) h
 case tuple=>cases h
theorem rawQ1_ok (P:Program):RawOk P (rawQ1 P):=by
 intro X w0 w E L l l' o v h hR hl
 unfold rawQ1 at h
 split at h
 ·rename_i mT x y ok hop
  split at h <;> first | (cases h; done) | skip
  rename_i et k a hk hy
  split at h <;> first | (cases h; done) | skip
  rename_i z b mi c hz hm
  cases hs:still z
  ·rw [hs] at h; cases h
  rw [hs] at h
  simp only [cond_true] at h
  obtain ⟨kt,k',hT,hkt⟩:=keyKind_ok hk
  obtain ⟨r,mr,m,h1,h2,h3,h4,h5⟩:=lmapOf_ok hm hR hl
  obtain ⟨_,h6,rfl⟩:=lv_ev hl hy
  obtain ⟨d,op,ty,pos,af,g⟩:=o
  simp only at hop
  subst hop
  have hf:=h5.find a
  cases ok with
  | false =>
   have Y:∀ u,((mfind mr a).map (·.2.1)).getD z=u→(QOp.raw ⟨d,.lookup mT x y false,ty,pos,af,g⟩).Y P l' u w:=fun u hu=>lookup_Y (ty:=ty) hT (keyLaw_int hkt) (zeroOf_ok hz) h3 h6 h4 hu
   rcases hf with ⟨e1,e2⟩ | ⟨x1,y1,e1,e2,e3,_⟩
   ·rw [e1] at h; cases h
    exact ⟨v,Y v (by rw [e2]; rfl),VR.still hs⟩
   ·rw [e1] at h; cases h
    exact ⟨_,Y _ (by rw [e2]; rfl),e3.vr⟩
  | true =>
   have Y:∀ u,Value.tuple #[((mfind mr a).map (·.2.1)).getD z,.bool (mfind mr a).isSome]=u→(QOp.raw ⟨d,.lookup mT x y true,ty,pos,af,g⟩).Y P l' u w:=fun u hu=>lookupOk_Y (ty:=ty) hT (keyLaw_int hkt) (zeroOf_ok hz) h3 h6 h4 hu
   rcases hf with ⟨e1,e2⟩ | ⟨x1,y1,e1,e2,e3,_⟩
   ·rw [e1] at h; cases h
    exact ⟨_,Y _ rfl,[z,.bool false],by rw [e2]; rfl,V1.still hs,rfl,trivial⟩
   ·rw [e1] at h; cases h
    exact ⟨_,Y _ rfl,[y1.2.1,.bool true],by rw [e2]; rfl,e3,rfl,trivial⟩
 ·rename_i x mT hop
  split at h <;> first | (cases h; done) | skip
  rename_i et b mi c hk hm
  cases h
  obtain ⟨kt,k',hT,hkt⟩:=keyKind_ok hk
  obtain ⟨r,mr,m,h1,h2,h3,h4,h5⟩:=lmapOf_ok hm hR hl
  obtain ⟨d,op,ty,pos,af,g⟩:=o
  simp only at hop
  subst hop
  have hlen:mr.length=mi.length:=by have:=congrArg List.length h5.keys.1; simpa using this
  refine ⟨_,?_,rfl⟩
  rw [← hlen]
  exact lenMap_Y (ty:=ty) hT h3 h4
 ·exact rawQ0_ok P _ _ _ _ _ _ _ _ _ h hR hl
def bputL (x:Nat):Nat→List Value→Option Nat
 | _,[]=>some x
 | i,v::r=>match v with
  | .int .u8 (.ofNat c)=>bif Nat.blt c 256 then fN (bset x i c) fun y=>bputL y (i+1) r else none
  | _=>none
theorem bputL_ok {n:Nat}:∀ (us:List Value) (x i y:Nat),bputL x i us=some y→i+us.length≤n→bl n y=splice (bl n x) i us
 | [],x,i,y,h,_=>by cases h; rw [splice_nil]
 | v::r,x,i,y,h,hn=>by
  simp only [bputL] at h
  split at h <;> first | (cases h; done) | skip
  rename_i c
  cases hc:Nat.blt c 256
  ·rw [hc] at h; cases h
  rw [hc] at h
  simp only [cond_true,fN_eq] at h
  have hc:c<256:=Nat.le_of_ble_eq_true hc
  simp only [List.length_cons] at hn
  rw [bputL_ok r _ _ _ h (by omega),bset_bl hc,splice_cons (by rw [bl_length]; omega)]
def lcopy (L:LH) (sz:Nat) (d s:Value):Option (Value × LH) :=
 match d,s with
 | .slice base dn _,.slice sb sn _=>match min sn dn with
  | 0=>some (.int .i64 0,L)
  | n+1=>match base,sb with
   | some ⟨b,o,none⟩,some ⟨sb,so,none⟩=>match lcells L ⟨sb,so,none⟩ ((n+1)*sz),L[b]? with
    | some cs,some (.cells bsz vs)=>bif Nat.ble (o+(n+1)*sz) vs.length then fL (lspl vs o cs) fun us=>fL (L.set b (.cells bsz us)) fun L=>some (.int .i64 (n+1:Nat),L) else none
    | some cs,some (.bytes N x)=>bif Nat.ble (o+(n+1)*sz) N then (match bputL x o cs with
     | some y=>fN y fun y=>fL (L.set b (.bytes N y)) fun L=>some (.int .i64 (n+1:Nat),L)
     | none=>none) else none
    | _,_=>none
   | _,_=>none
 | _,_=>none
def lclear (L:LH) (zs:List Value) (d:Value):Option (Value × LH) :=
 match d with
 | .slice _ 0 _=>some (.tuple #[],L)
 | .slice (some ⟨b,o,none⟩) (n+1) _=>match L[b]? with
  | some (.cells bsz vs)=>bif Nat.ble (o+(n+1)*zs.length) vs.length && zs.all stillS then fL (lspl vs o (repC (n+1) zs)) fun us=>fL (L.set b (.cells bsz us)) fun L=>some (.tuple #[],L) else none
  | _=>none
 | _=>none
def isB0:Value→Bool
 | .int .u8 (.ofNat 0)=>true
 | _=>false
def lmake (L:LH) (k k':Nat) (z:Value):Option (Value × LH) :=
 bif isB0 z && Nat.ble 64 k' then fL (L++[.bytes k' 0]) fun L'=>some (.slice (some ⟨L.length,0,none⟩) k k',L')
 else fL (repC k' z.cells.toList) fun us=>fL (L++[.cells 0 us]) fun L'=>some (.slice (some ⟨L.length,0,none⟩) k k',L')
theorem repC_bl:∀ k,repC k [.int .u8 (.ofNat 0)]=bl k 0:=by
 intro k
 apply List.ext_getElem?
 intro j
 by_cases hj:j<k
 ·rw [repC_get _ _ _ (by simpa using hj),bl_get hj]
  have:bv 0 j=.int .u8 (.ofNat 0):=by
   show Value.int .u8 (.ofNat (((0:Nat) >>> (8*j)) % 256))=_
   simp
  rw [this]; simp [Nat.mod_one]
 ·rw [List.getElem?_eq_none (by rw [repC_length]; simp; omega),List.getElem?_eq_none (by rw [bl_length]; omega)]
def rawE1 (P:Program):RawE:=fun L l o =>
 match o.op with
 | .makeMap _ none=>some (.map (some L.length),L++[.map [] 0])
 | .mapUpdate mT x y z=>match keyKind P mT,lv l y,lv l z with
  | some _,some (.int k a),some u=>match lmapOf L l k x with
   | some (b,mi,c)=>bif wfB mi c && notTup u then some (undef,L.set b (.map (mBack k (mset mi a u c).1) (mset mi a u c).2)) else none
   | none=>none
  | _,_,_=>none
 | .call ⟨.builtin .delete,⟨[x,y]⟩,⟨[mT,_]⟩⟩=>match keyKind P mT,lv l y with
  | some _,some (.int k a)=>match lmapOf L l k x with
   | some (b,mi,c)=>bif wfB mi c then some (.tuple #[],L.set b (.map (mBack k (mdel mi a)) c)) else none
   | none=>none
  | _,_=>none
 | .call ⟨.builtin .copy,⟨[x,y]⟩,⟨[dT,_]⟩⟩=>match elemOf P dT,lv l x,lv l y with
  | some (_,i,_),some vd,some vs=>lcopy L i.size vd vs
  | _,_,_=>none
 | .call ⟨.builtin .clear,⟨[x]⟩,⟨[dT]⟩⟩=>match elemOf P dT,lv l x with
  | some (_,_,z),some vd=>bif Nat.blt 0 z.cells.toList.length then lclear L z.cells.toList vd else none
  | _,_=>none
 | .makeSlice sT n c=>match elemOf P sT,lv l n,lv l c with
  | some (_,i,z),some (.int .i64 (.ofNat k)),some (.int .i64 (.ofNat k'))=>bif Nat.ble k k' && Nat.beq z.cells.toList.length i.size && Nat.blt 0 i.size && z.cells.toList.all stillS && Nat.ble (i.bytes*k') 140737488355328 && Nat.ble k' 9223372036854775807 then
    fN k fun k=>fN k' fun k'=>lmake L k k' z else none
  | _,_,_=>none
 | _=>rawE0 P L l o
theorem MI.set {E:Emb} {mi mr:List (Int × Value × Nat)} (h:MI E mi mr) (a:Int) {u u':Value} (hu:V1 E u u') (c:Nat):MI E (mset mi a u c).1 (mset mr a u' c).1∧(mset mr a u' c).2=(mset mi a u c).2:=by
 unfold mset
 rcases h.find a with ⟨e1,e2⟩ | ⟨x,y,e1,e2,_⟩
 ·rw [e1,e2]; exact ⟨MI.push (z:=(a,u,c)) (z':=(a,u',c)) ⟨rfl,hu,rfl⟩ h,rfl⟩
 ·rw [e1,e2]; exact ⟨h.put a hu,rfl⟩
theorem rawE1_ok (P:Program):RawEOk P (rawE1 P):=by
 intro X w0 w E L l l' o v L' K h hR hl hK
 unfold rawE1 at h
 split at h
 ·rename_i mT hop
  cases h
  obtain ⟨d,op,ty,pos,af,g⟩:=o
  simp only at hop
  subst hop
  exact makeMap_W (ty:=ty) (mT:=mT) (Value.int .i64) (fun w' hM hf hsz=>hK w' (E++[(w.heap.size,0,0)]) _ (Ext.push E _) (hR.push1 hf rfl hsz (fun _ h=>h) ⟨[],hM,trivial⟩) ⟨_,hR.last _,rfl⟩)
 ·rename_i mT x y z hop
  split at h <;> first | (cases h; done) | skip
  rename_i et k a u hk hy hz
  split at h <;> first | (cases h; done) | skip
  rename_i b mi c hm
  cases hc:(wfB mi c && notTup u)
  ·rw [hc] at h; cases h
  rw [hc] at h
  cases h
  rw [Bool.and_eq_true] at hc
  obtain ⟨kt,k',hT,hkt⟩:=keyKind_ok hk
  obtain ⟨r,mr,m,h1,h2,h3,h4,h5⟩:=lmapOf_ok hm hR hl
  obtain ⟨_,h6,rfl⟩:=lv_ev hl hy
  obtain ⟨u',h7,h8⟩:=lv_ev hl hz
  obtain ⟨d,op,ty,pos,af,g⟩:=o
  simp only at hop
  subst hop
  have hs:=h5.set a (h8.v1 hc.2) c
  refine mapUpdate_W (ty:=ty) (k:=a) hT (keyLaw_int hkt) h3 h6 h7 h4 (wfB_ok hc.1 h5) (fun w' hM hf hsz=>hK w' E _ (Ext.refl E) (hR.upd h1 h2 hf ⟨_,?_,hs.1.back⟩ (fun _ h=>.inl h)) VR.undef)
  rw [← hs.2]; exact hM
 ·rename_i x y mT kT hop
  split at h <;> first | (cases h; done) | skip
  rename_i et k a hk hy
  split at h <;> first | (cases h; done) | skip
  rename_i b mi c hm
  cases hc:wfB mi c
  ·rw [hc] at h; cases h
  rw [hc] at h
  cases h
  obtain ⟨kt,k',hT,hkt⟩:=keyKind_ok hk
  obtain ⟨r,mr,m,h1,h2,h3,h4,h5⟩:=lmapOf_ok hm hR hl
  obtain ⟨_,h6,rfl⟩:=lv_ev hl hy
  obtain ⟨d,op,ty,pos,af,g⟩:=o
  simp only at hop
  subst hop
  exact delete_W (ty:=ty) (k:=a) hT (keyLaw_int hkt) h3 h6 h4 (wfB_ok hc h5) (fun w' hM hf hsz=>hK w' E _ (Ext.refl E) (hR.upd h1 h2 hf ⟨_,hM,(h5.del a).back⟩ (fun _ h=>.inl h)) ⟨[],rfl,trivial⟩)
 ·rename_i x y dT sT hop
  split at h <;> first | (cases h; done) | skip
  rename_i e i z vd vs he hx hy
  obtain ⟨hu,hi,hz⟩:=elemOf_ok he
  obtain ⟨vd',h1,h2⟩:=lv_ev hl hx
  obtain ⟨vs',h3,h4⟩:=lv_ev hl hy
  obtain ⟨d,op,ty,pos,af,g⟩:=o
  simp only at hop
  subst hop
  unfold lcopy at h
  simp only [fL_eq] at h
  split at h <;> first | (cases h; done) | skip
  rename_i base dn dc sb sn sc
  have form:∀ {a:Option Addr} {n c:Nat} {v:Value},VR E (.slice a n c) v→∃ a' c',v=.slice a' n c':=by
   intro a n c v hv
   cases a with
   | none=>cases hv; exact ⟨_,_,rfl⟩
   | some a=>rcases a with ⟨b,o,_ | s⟩ <;> first | (rcases hv with hv | ⟨rfl,rfl,_,hv⟩ <;> exact ⟨_,_,hv⟩) | (obtain ⟨_,r,_,⟨a',c',rfl,_⟩ | ⟨rfl,_,_,rfl⟩⟩:=hv <;> exact ⟨_,_,rfl⟩)
  obtain ⟨base',dc',rfl⟩:=form h2
  obtain ⟨sb',sc',rfl⟩:=form h4
  split at h
  ·rename_i h0
   cases h
   exact copy_any (ty:=ty) hu hi h1 h3 (fun _=>hK w E _ (Ext.refl E) hR rfl) (fun hp=>by omega)
  ·rename_i n h0
   split at h <;> first | (cases h; done) | skip
   rename_i b o sb so
   split at h <;> first | (cases h; done) | skip
   case h_2 cs N x hcs hb =>
    cases hck:Nat.ble (o+(n+1)*i.size) N
    ·rw [hck] at h; cases h
    rw [hck] at h
    simp only [cond_true] at h
    split at h <;> first | (cases h; done) | skip
    rename_i y hy2
    simp only [fN_eq] at h
    cases h
    have hle:=Nat.le_of_ble_eq_true hck
    refine copy_any (ty:=ty) hu hi h1 h3 (fun hz=>by omega) (fun hp=>?_)
    have hdn:dn≠0:=by omega
    have hsn:sn≠0:=by omega
    obtain ⟨_,r,hr,⟨a1,c1,e1,hcase⟩ | ⟨hz,_⟩⟩:=h2
    rotate_left
    ·exact absurd hz hdn
    rcases hcase with ⟨rfl,rfl⟩ | ⟨hz,_⟩
    rotate_left
    ·exact absurd hz hdn
    cases e1
    obtain ⟨hsp,q,hq,⟨a2,c2,e2,hcase⟩ | ⟨hz,_⟩⟩:=h4
    rotate_left
    ·exact absurd hz hsn
    rcases hcase with ⟨rfl,rfl⟩ | ⟨hz,_⟩
    rotate_left
    ·exact absurd hz hsn
    cases e2
    obtain ⟨ss,us,hS,_,hsl,hus,hL,hul⟩:=lcells_ok hR (a:=⟨sb,so,none⟩) (a':=⟨q.1,so+q.2.1,none⟩) ⟨hsp,q,hq,rfl⟩ hcs
    simp only at hS hsl hus
    obtain ⟨hB,hr0⟩:=hR.blk b _ r hb hr
    obtain ⟨r1,r2⟩:=r
    simp only at hr0 hB; subst hr0
    have hcsl:=hL.length
    have hstill:us=cs:=by
     refine L2.eq_still (E:=E) ?_ hL
     have:∀ (cs:List Value) (x i y:Nat),bputL x i cs=some y→cs.all stillS=true:=by
      intro cs
      induction cs with
      | nil=>intros; rfl
      | cons v r ih =>
       intro x i y h
       simp only [bputL] at h
       split at h <;> first | (cases h; done) | skip
       rename_i c
       cases hc:Nat.blt c 256
       ·rw [hc] at h; cases h
       rw [hc] at h
       simp only [cond_true,fN_eq] at h
       rw [List.all_cons,ih _ _ _ h]; rfl
     exact this cs _ _ _ hy2
    subst hstill
    have hcl:o+us.length≤N:=by rw [hul]; exact hle
    rw [h0]
    refine ⟨_,_,_,_,bl N x,ss,rfl,rfl,hB,hS,by rw [bl_length]; simpa using hle,hsl,fun u hu=>?_,hK _ E _ (Ext.refl E) ?_ rfl⟩
    ·rw [← hus] at hu
     obtain ⟨u0,_,h5⟩:=hL.mem u hu
     exact h5.one.2
    ·rw [← hus]
     have hpb:=putCells_blk (o:=o+0) us 0 w _ hB (by rw [bl_length]; omega)
     simp only [Nat.add_zero] at hpb
     refine hR.upd hb hr (putCells_fr (p:=⟨r1,o+0,none⟩) us 0 w) ⟨?_,rfl⟩ (fun _ h=>.inl h)
     rw [bputL_ok us _ _ _ hy2 hcl]
     exact hpb
   rename_i cs bsz bs hcs hb
   cases hck:Nat.ble (o+(n+1)*i.size) bs.length
   ·rw [hck] at h; cases h
   rw [hck] at h
   cases h
   have hle:=Nat.le_of_ble_eq_true hck
   refine copy_any (ty:=ty) hu hi h1 h3 (fun hz=>by omega) (fun hp=>?_)
   have hdn:dn≠0:=by omega
   have hsn:sn≠0:=by omega
   obtain ⟨_,r,hr,⟨a1,c1,e1,hcase⟩ | ⟨hz,_⟩⟩:=h2
   rotate_left
   ·exact absurd hz hdn
   rcases hcase with ⟨rfl,rfl⟩ | ⟨hz,_⟩
   rotate_left
   ·exact absurd hz hdn
   cases e1
   obtain ⟨hsp,q,hq,⟨a2,c2,e2,hcase⟩ | ⟨hz,_⟩⟩:=h4
   rotate_left
   ·exact absurd hz hsn
   rcases hcase with ⟨rfl,rfl⟩ | ⟨hz,_⟩
   rotate_left
   ·exact absurd hz hsn
   cases e2
   obtain ⟨ss,us,hS,_,hsl,hus,hL,hul⟩:=lcells_ok hR (a:=⟨sb,so,none⟩) (a':=⟨q.1,so+q.2.1,none⟩) ⟨hsp,q,hq,rfl⟩ hcs
   simp only at hS hsl hus
   obtain ⟨ds,hB,hbl,hroom,hz2⟩:=hR.blk b _ r hb hr
   have hbll:=hbl.length
   have hcl:o+r.2.1+us.length≤ds.length:=by rw [hul]; omega
   rw [h0]
   have hlim:o+r.2.1+n.succ*i.size≤ds.length:=by rw [← Nat.succ_eq_add_one] at hul; omega
   refine ⟨_,_,_,_,ds,ss,rfl,rfl,hB,hS,hlim,hsl,fun u hu=>?_,hK _ E _ (Ext.refl E) ?_ rfl⟩
   ·rw [← hus] at hu
    obtain ⟨u0,_,h5⟩:=hL.mem u hu
    exact h5.one.2
   ·rw [← hus]
    have hcsl:=hL.length
    have hll:(lspl bs o cs).length=bs.length:=by
     unfold lspl; simp; omega
    have hpb:=putCells_blk (o:=o+r.2.1) us 0 w _ hB (by omega)
    simp only [Nat.add_zero] at hpb
    refine hR.upd hb hr (putCells_fr (p:=⟨r.1,o+r.2.1,none⟩) us 0 w) ⟨_,hpb,?_,?_,hz2⟩ (fun _ h=>.inl h)
    ·have h5:=L2_splice (o:=o) hbl hL
     have e:((splice ds (o+r.2.1) us).drop r.2.1).take bs.length=splice ((ds.drop r.2.1).take bs.length) o us:=by
      rw [splice_drop hcl (by omega),show o+r.2.1-r.2.1=o by omega,splice_take (by omega) (by simp; omega)]
     rw [hll,e]; exact h5
    ·rw [hll,splice_length hcl]; exact hroom
 ·rename_i x dT hop
  split at h <;> first | (cases h; done) | skip
  rename_i e i z vd he hx
  cases hzp:Nat.blt 0 z.cells.toList.length
  ·rw [hzp] at h; cases h
  rw [hzp] at h
  simp only [cond_true] at h
  have hzp:0<z.cells.toList.length:=Nat.le_of_ble_eq_true hzp
  obtain ⟨hu,hi,hz⟩:=elemOf_ok he
  obtain ⟨vd',h1,h2⟩:=lv_ev hl hx
  obtain ⟨d,op,ty,pos,af,g⟩:=o
  simp only at hop
  subst hop
  unfold lclear at h
  simp only [fL_eq] at h
  split at h <;> first | (cases h; done) | skip
  ·rename_i a c
   cases h
   have:∃ a' c',vd'=.slice a' 0 c':=by
    cases a with
    | none=>cases h2; exact ⟨_,_,rfl⟩
    | some a=>rcases a with ⟨b,o,_ | s⟩ <;> first | (rcases h2 with h2 | ⟨_,_,_,h2⟩ <;> exact ⟨_,_,h2⟩) | (obtain ⟨_,r,_,⟨a',c',rfl,_⟩ | ⟨_,_,_,rfl⟩⟩:=h2 <;> exact ⟨_,_,rfl⟩)
   obtain ⟨a',c',rfl⟩:=this
   by_cases hone:∀ u∈z.cells.toList,one u=true
   ·exact clear_any (ty:=ty) hu hi hz (by simpa using hzp) hone h1 (fun _=>hK w E _ (Ext.refl E) hR ⟨[],rfl,trivial⟩) (fun hp=>by omega)
   ·-- an empty row: nothing is written
    intro ρ w1 ha hs
    refine Eff.value (v:=.tuple #[]) (w':=w1) ?_ ⟨w,hs,hK w E _ (Ext.refl E) hR ⟨[],rfl,trivial⟩⟩
    have hexec:execOp ρ ⟨d,.call ⟨.builtin .clear,#[x],#[dT]⟩,ty,pos,af,g⟩=(do let r ← Builtin.clear_ #[dT] ty #[.slice a' 0 c']; pure (Next.value r)):=by
     simp [execOp,resolve,invoke,builtin,ha x _ h1]
    show (execOp ρ ⟨d,.call ⟨.builtin .clear,#[x],#[dT]⟩,ty,pos,af,g⟩).run P w1=_
    rw [hexec]
    cases a' <;> simp [Builtin.clear_,run_underlying hu]
  ·rename_i b o n c
   split at h <;> first | (cases h; done) | skip
   rename_i bsz bs hb
   cases hck:(Nat.ble (o+(n+1)*z.cells.toList.length) bs.length && z.cells.toList.all stillS)
   ·rw [hck] at h; cases h
   rw [hck] at h
   cases h
   rw [Bool.and_eq_true] at hck
   have hle:=Nat.le_of_ble_eq_true hck.1
   have hst:=hck.2
   obtain ⟨_,r,hr,⟨a1,c1,rfl,hcase⟩ | ⟨hz0,_⟩⟩:=h2
   rotate_left
   ·omega
   rcases hcase with ⟨rfl,rfl⟩ | ⟨hz0,_⟩
   rotate_left
   ·omega
   obtain ⟨ds,hB,hbl,hroom,hz2⟩:=hR.blk b _ r hb hr
   have hbll:=hbl.length
   have hrl:(repC (n+1) z.cells.toList).length=(n+1)*z.cells.toList.length:=repC_length _ _
   have hcl:o+r.2.1+(repC (n+1) z.cells.toList).length≤ds.length:=by rw [hrl]; omega
   refine clear_any (ty:=ty) hu hi hz (by simpa using hzp) (fun u hu=>(SR.still (E:=E) (List.all_eq_true.1 hst u hu)).one.1) h1 (fun h0=>by omega) (fun _=>⟨_,_,ds,rfl,hB,by rw [hrl] at hcl; simpa using hcl,hK _ E _ (Ext.refl E) ?_ ⟨[],rfl,trivial⟩⟩)
   have hL:L2 (SR E) (repC (n+1) z.cells.toList) (repC (n+1) z.cells.toList):=L2.self fun u hu=>SR.still (List.all_eq_true.1 hst u (repC_mem hu))
   have hll:(lspl bs o (repC (n+1) z.cells.toList)).length=bs.length:=by
    unfold lspl; simp only [List.length_append,List.length_take,List.length_drop,hrl]; omega
   have hpb:=putCells_blk (o:=o+r.2.1) (repC (n+1) z.cells.toList) 0 w _ hB (by omega)
   simp only [Nat.add_zero] at hpb
   refine hR.upd hb hr (putCells_fr (p:=⟨r.1,o+r.2.1,none⟩) (repC (n+1) z.cells.toList) 0 w) ⟨_,hpb,?_,?_,hz2⟩ (fun _ h=>.inl h)
   ·have h5:=L2_splice (o:=o) hbl hL
    have e:((splice ds (o+r.2.1) (repC (n+1) z.cells.toList)).drop r.2.1).take bs.length=splice ((ds.drop r.2.1).take bs.length) o (repC (n+1) z.cells.toList):=by
     rw [splice_drop hcl (by omega),show o+r.2.1-r.2.1=o by omega,splice_take (by omega) (by simp; omega)]
    rw [hll,e]; exact h5
   ·rw [hll,splice_length hcl]; exact hroom
 ·rename_i sT n c hop
  split at h <;> first | (cases h; done) | skip
  rename_i e i z k k' he hn hcc
  simp only [fN_eq] at h
  cases hc:(Nat.ble k k' && Nat.beq z.cells.toList.length i.size && Nat.blt 0 i.size && z.cells.toList.all stillS && Nat.ble (i.bytes*k') 140737488355328 && Nat.ble k' 9223372036854775807)
  ·rw [hc] at h; cases h
  rw [hc] at h
  simp only [cond_true] at h
  simp only [Bool.and_eq_true] at hc
  obtain ⟨hu,hi,hz⟩:=elemOf_ok he
  obtain ⟨_,h1,rfl⟩:=lv_ev hl hn
  obtain ⟨_,h3,rfl⟩:=lv_ev hl hcc
  obtain ⟨d,op,ty,pos,af,g⟩:=o
  simp only at hop
  subst hop
  have hst:=hc.1.1.2
  unfold lmake at h
  simp only [fL_eq] at h
  cases hb0:(isB0 z && Nat.ble 64 k')
  case true =>
   rw [hb0] at h
   cases h
   rw [Bool.and_eq_true] at hb0
   have hz0:z=.int .u8 (.ofNat 0):=by
    have h1:=hb0.1
    unfold isB0 at h1
    split at h1
    ·rfl
    ·cases h1
   subst hz0
   refine makeSlice_any (ty:=ty) hu hi hz (by simpa using Nat.eq_of_beq_eq_true hc.1.1.1.1.2) (Nat.le_of_ble_eq_true hc.1.1.1.2) (Nat.le_of_ble_eq_true hc.1.1.1.1.1) (Nat.le_of_ble_eq_true hc.1.2) (Nat.le_of_ble_eq_true hc.2) h1 h3
    (hK _ (E++[(w.heap.size,0,0)]) _ (Ext.push E _) (hR.push1 (Fr.alloc _ w _) rfl (alloc_size _ _) (fun _ h=>h) ⟨?_,rfl⟩) ⟨rfl,_,hR.last _,.inl ⟨_,_,rfl,.inl ⟨by simp,by simp⟩⟩⟩)
   have e:(repC k' (Value.int .u8 (.ofNat 0)).cells.toList)=bl k' 0:=repC_bl k'
   rw [e]
   exact Blk.new w _ _
  rw [hb0] at h
  cases h
  exact makeSlice_any (ty:=ty) hu hi hz (by simpa using Nat.eq_of_beq_eq_true hc.1.1.1.1.2) (Nat.le_of_ble_eq_true hc.1.1.1.2) (Nat.le_of_ble_eq_true hc.1.1.1.1.1) (Nat.le_of_ble_eq_true hc.1.2) (Nat.le_of_ble_eq_true hc.2) h1 h3
   (hK _ (E++[(w.heap.size,0,0)]) _ (Ext.push E _) (new_rep hR (cs:=(repC k' z.cells.toList).toArray) (by simpa using L2.self fun u hu=>SR.still (List.all_eq_true.1 hst u (repC_mem hu)))) ⟨rfl,_,hR.last _,.inl ⟨_,_,rfl,.inl ⟨by simp,by simp⟩⟩⟩)
 ·exact rawE0_ok P _ _ _ _ _ _ _ _ _ _ K h hR hl hK
end Go.Tum
end
section
namespace Go.Tum
open Go
def leftOf (m:List (Value × Value × Nat)) (seen:List Nat):List (Value × Value × Nat):=m.filter fun x => !(seen.any (Nat.beq x.2.2))
def lnext (m:List (Value × Value × Nat)) (since:Nat) (seen:List Nat) (last:Nat):Option (Option (Value × Value × Nat)) :=
 bif !seen.isEmpty && !m.isEmpty && m.all (fun x=>Nat.ble last x.2.2) then none else match leftOf m seen with
  | []=>some none
  | [e]=>bif Nat.blt e.2.2 since then some (some e) else none
  | _=>none
def rawE2 (P:Program):RawE:=fun L l o =>
 match o.op with
 | .range mT x=>match keyKind P mT,lv l x with
  | some _,some (.map (some b))=>match L[b]? with
   | some (.map _ c)=>some (.pointer (some ⟨L.length,0,none⟩),L++[.iter (some b) c [] c])
   | _=>none
  | _,_=>none
 | .next it false=>match lptr l it with
  | some ⟨b,0,none⟩=>match L[b]? with
   | some (.iter (some q) since seen last)=>match L[q]? with
    | some (.map m c)=>match lnext m since seen last with
     | some (some e)=>some (.tuple ⟨[.bool true,e.1,e.2.1]⟩,L.set b (.iter (some q) since (seen++[e.2.2]) c))
     | some none=>some (.tuple ⟨[.bool false]⟩,L)
     | none=>none
    | _=>none
   | _=>none
  | _=>none
 | .entry it=>match lptr l it with
  | some ⟨b,0,none⟩=>match L[b]? with
   | some (.iter (some q) _ seen last)=>match L[q]?,seen.getLast? with
    | some (.map m c),some st=>bif Nat.beq c last then (match m.find? (fun x=>Nat.beq x.2.2 st) with
     | some e=>some (.tuple ⟨[e.1,e.2.1]⟩,L)
     | none=>none) else none
    | _,_=>none
   | _=>none
  | _=>none
 | _=>rawE1 P L l o
theorem M2.filter {E:Emb} (p:Nat→Bool):∀ {m:List (Value × Value × Nat)} {es:List MapEntry},M2 E m es→M2 E (m.filter fun x=>p x.2.2) (es.filter fun e=>p e.born)
 | [],[],_=>trivial
 | a::r,b::s,h=>by
  simp only [List.filter_cons,h.1.2.2]
  cases p a.2.2
  ·exact M2.filter p h.2
  ·exact ⟨h.1,M2.filter p h.2⟩
 | [],_::_,h=>h.elim
 | _::_,[],h=>h.elim
theorem M2.find {E:Emb} (p:Nat→Bool):∀ {m:List (Value × Value × Nat)} {es:List MapEntry} {x:Value × Value × Nat},M2 E m es→m.find? (fun x=>p x.2.2)=some x→∃ e,es.find? (fun e=>p e.born)=some e∧ME E x e
 | [],[],_,_,h=>by cases h
 | a::r,b::s,x,h,hf=>by
  simp only [List.find?_cons,h.1.2.2] at hf ⊢
  cases hp:p a.2.2
  ·rw [hp] at hf; exact M2.find p h.2 hf
  ·rw [hp] at hf; cases hf; exact ⟨b,rfl,h.1⟩
 | [],_::_,_,h,_=>h.elim
 | _::_,[],_,h,_=>h.elim
theorem M2.all {E:Emb} (p:Nat→Bool):∀ {m:List (Value × Value × Nat)} {es:List MapEntry},M2 E m es→(es.all fun e=>p e.born)=m.all fun x=>p x.2.2
 | [],[],_=>rfl
 | a::r,b::s,h=>by simp only [List.all_cons,h.1.2.2,M2.all p h.2]
 | [],_::_,h=>h.elim
 | _::_,[],h=>h.elim
theorem getObjI_run {P:Program} {w:World} {r:Nat} {o:Obj} (h:w.heap[r]?=some o) (hn:∀ c e f,o≠.cells c e f):(getObj r).run P w=.ok o w:=by
 cases o <;> first | (exact absurd rfl (hn _ _ _)) | simp [getObj,Sem.run,h]
theorem setObjI_run {P:Program} {w:World} {r:Nat} {o o':Obj} (h:w.heap[r]?=some o) (hn:∀ c e f,o≠.cells c e f):(setObj r o').run P w=.ok () { w with heap:=w.heap.setIfInBounds r o' }:=by
 cases o <;> first | (exact absurd rfl (hn _ _ _)) | simp [setObj,Sem.run,h]
theorem choose_one {P:Program} {w:World}:(choose (.mapNext 1)).run P w=.ok 0 w:=by
 simp [choose,Sem.run,Question.forced]
theorem next_run {P:Program} {w:World} {r q:Nat} {since last c:Nat} {seen:List Nat} {es:List MapEntry} {ty:TypeId} (hi:w.heap[r]?=some (.mapIter (some q) since seen.toArray last)) (hm:w.heap[q]?=some (.map es.toArray c))
  (hu:(!seen.isEmpty && !es.isEmpty && es.all (fun e=>Nat.ble last e.born))=false) :
  (∀ e,(es.filter fun e => !(seen.any (Nat.beq e.born)))=[e]→e.born<since→(Instr.next (.pointer (some ⟨r,0,none⟩)) false ty).run P w=.ok (.tuple #[.bool true,e.key,e.val]) { w with heap:=w.heap.setIfInBounds r (.mapIter (some q) since (seen++[e.born]).toArray c) }) ∧
  ((es.filter fun e => !(seen.any (Nat.beq e.born)))=[]→(Instr.next (.pointer (some ⟨r,0,none⟩)) false ty).run P w=.ok (.tuple #[.bool false]) w):=by
 have hg1:=getObjI_run (P:=P) hi (fun _ _ _ h=>by cases h)
 have hg2:=getObjI_run (P:=P) hm (fun _ _ _ h=>by cases h)
 have hcont:∀ b:Nat,seen.toArray.contains b=seen.any (Nat.beq b):=by
  intro b
  rw [Array.contains_eq_any_beq,List.any_toArray]
  congr 1
  funext x
  cases hb:Nat.beq b x
  ·have:b≠x:=fun e=>by rw [e,Nat.beq_refl] at hb; cases hb
   simpa using this
  ·simpa using Nat.eq_of_beq_eq_true hb
 have hleft:(es.toArray.filter fun e => !seen.toArray.contains e.born)=(es.filter fun e => !(seen.any (Nat.beq e.born))).toArray:=by
  simp only [hcont,List.filter_toArray]
 have hu':(!seen.toArray.isEmpty && !es.toArray.isEmpty && es.toArray.all (fun e=>decide (e.born≥last)))=false:=by
  have e1:seen.toArray.isEmpty=seen.isEmpty:=by cases seen <;> rfl
  have e2:es.toArray.isEmpty=es.isEmpty:=by cases es <;> rfl
  have e3:es.toArray.all (fun e=>decide (e.born≥last))=es.all (fun e=>Nat.ble last e.born):=by
   rw [List.all_toArray]
   congr 1
   funext e
   rw [Bool.eq_iff_iff,decide_eq_true_eq]
   exact ⟨fun h=>Nat.ble_eq_true_of_le h,fun h=>Nat.le_of_ble_eq_true h⟩
  rw [e1,e2,e3]; exact hu
 constructor
 ·intro e he hlt
  unfold Instr.next
  simp only [Sem.run_bind,hg1,Result.andThen_ok,hg2,hu',Bool.false_eq_true,if_false,hleft,he]
  have e1:(#[e]:Array MapEntry).filter (fun e=>decide (e.born<since)) = #[e]:=by simp [hlt]
  have e2:(#[e]:Array MapEntry).filter (fun e=>decide (e.born≥since)) = #[]:=by
   have:¬ since≤e.born:=by omega
   simp [this]
  simp only [e1,e2]
  simp only [show (#[e]:Array MapEntry).isEmpty=false from rfl,Bool.false_eq_true,if_false,Array.append_empty,Array.empty_append,List.map_toArray,List.map_cons,List.map_nil,List.size_toArray,List.length_cons,List.length_nil,Nat.zero_add,choose_one,Result.andThen_ok]
  simp [setObjI_run (P:=P) hi (fun _ _ _ h=>by cases h)]
 ·intro he
  unfold Instr.next
  simp only [Sem.run_bind,hg1,Result.andThen_ok,hg2,hu',Bool.false_eq_true,if_false,hleft,he]
  simp only [Array.filter_empty]
  simp only [show (#[]:Array MapEntry).isEmpty=true from rfl,if_true,Array.append_empty,Array.map_empty,List.size_toArray,List.length_cons,List.length_nil,Nat.zero_add,choose_one,Result.andThen_ok]
  simp
theorem rawE2_ok (P:Program):RawEOk P (rawE2 P):=by
 intro X w0 w E L l l' o v L' K h hR hl hK
 unfold rawE2 at h
 split at h
 ·rename_i mT x hop
  split at h <;> first | (cases h; done) | skip
  rename_i et b hk hx
  split at h <;> first | (cases h; done) | skip
  rename_i m c hb
  cases h
  obtain ⟨kt,k',hT,hkt⟩:=keyKind_ok hk
  obtain ⟨_,h1,r,h2,rfl⟩:=lv_ev hl hx
  obtain ⟨es,h3,h4⟩:=hR.blk b _ r hb h2
  obtain ⟨d,op,ty,pos,af,g⟩:=o
  simp only at hop
  subst hop
  intro ρ w1 ha hs
  have h3':w1.heap[r.1]?=some (.map es.toArray c):=by rw [hs.heap]; exact h3
  refine Eff.value (v:=.pointer (some ⟨w1.heap.size,0,none⟩)) (w':=w1.alloc (.mapIter (some r.1) c #[] c)) ?_ ⟨w.alloc (.mapIter (some r.1) c #[] c),hs.push _,?_⟩
  ·simp [execOp,Instr.range,ha x _ h1,run_underlying hT,getObj_run (P:=P) h3']
  ·rw [hs.heap]
   refine hK _ (E++[(w.heap.size,0,0)]) _ (Ext.push E _) (hR.push1 (Fr.alloc _ w _) rfl (alloc_size _ _) (fun _ h=>h) ⟨rfl,some r.1,?_,r,Ext.push E _ b r h2,rfl⟩) ⟨_,rfl,rfl,_,hR.last _,by simp⟩
   show (w.heap.push _)[w.heap.size]?=_
   simp
 ·rename_i it hop
  split at h <;> first | (cases h; done) | skip
  rename_i b hit
  split at h <;> first | (cases h; done) | skip
  rename_i q since seen last hb
  split at h <;> first | (cases h; done) | skip
  rename_i m c hq
  obtain ⟨⟨b',o',s'⟩,h1,h2,r,h3,h4⟩:=lptr_ok hl hit
  simp only at h3 h4
  obtain ⟨hr0,m',h5,q',h6,rfl⟩:=hR.blk b _ r hb h3
  obtain ⟨r1,r2⟩:=r
  simp only at hr0 h5 h4
  subst hr0
  cases h4
  obtain ⟨es,h7,h8⟩:=hR.blk q _ q' hq h6
  obtain ⟨d,op,ty,pos,af,g⟩:=o
  simp only at hop
  subst hop
  unfold lnext at h
  cases hun:(!seen.isEmpty && !m.isEmpty && m.all (fun x=>Nat.ble last x.2.2))
  rotate_left
  ·rw [hun] at h; cases h
  rw [hun] at h
  simp only [cond_false] at h
  have hun':(!seen.isEmpty && !es.isEmpty && es.all (fun e=>Nat.ble last e.born))=false:=by
   rw [h8.all (fun b=>Nat.ble last b)]
   have:es.isEmpty=m.isEmpty:=by
    have:=h8.length
    cases es <;> cases m <;> first | rfl | simp at this
   rw [this]; exact hun
  have hfil:=h8.filter (fun b => !(seen.any (Nat.beq b)))
  split at h <;> first | (cases h; done) | skip
  ·rename_i e hle
   split at hle <;> first | (cases hle; done) | skip
   rename_i e' hlf
   cases hlt:Nat.blt e'.2.2 since
   ·rw [hlt] at hle; cases hle
   rw [hlt] at hle; cases hle
   cases h
   have hlt:e.2.2<since:=Nat.le_of_ble_eq_true hlt
   unfold leftOf at hlf
   rw [hlf] at hfil
   cases hes:(es.filter fun e => !(seen.any (Nat.beq e.born))) with
   | nil=>rw [hes] at hfil; exact hfil.elim
   | cons e2 t =>
    rw [hes] at hfil
    cases t with
    | cons=>exact hfil.2.elim
    | nil =>
     intro ρ w1 ha hs
     have h5':=h5
     rw [← hs.heap] at h5'
     have h7':=h7
     rw [← hs.heap] at h7'
     have hrun:=(next_run (P:=P) (ty:=ty) h5' h7' hun').1 e2 hes (by rw [hfil.1.2.2]; exact hlt)
     refine Eff.value (v:=.tuple #[.bool true,e2.key,e2.val]) ?_ ⟨_,hs.setObj b' (.mapIter (some q'.1) since (seen++[e2.born]).toArray c),?_⟩
     ·simp only [execOp,ha it _ h1,Sem.run_bind]
      rw [show (0+0)=0 from rfl,hrun]; rfl
     ·refine hK _ E _ (Ext.refl E) (hR.upd hb h3 (Fr.setObj w b' _) ⟨rfl,some q'.1,?_,q',h6,rfl⟩ (fun _ h=>.inl h)) ⟨[.bool true,e2.key,e2.val],rfl,rfl,hfil.1.1,hfil.1.2.1,trivial⟩
      rw [hfil.1.2.2]
      have hlt:=(Array.getElem?_eq_some_iff.1 h5).1
      simp [hlt]
  ·rename_i hle
   cases h
   split at hle <;> first | (cases hle; done) | skip
   ·rename_i hlf
    unfold leftOf at hlf
    rw [hlf] at hfil
    have hes:(es.filter fun e => !(seen.any (Nat.beq e.born)))=[]:=by
     cases hq2:(es.filter fun e => !(seen.any (Nat.beq e.born))) with
     | nil=>rfl
     | cons=>rw [hq2] at hfil; exact hfil.elim
    intro ρ w1 ha hs
    have h5':=h5
    rw [← hs.heap] at h5'
    have h7':=h7
    rw [← hs.heap] at h7'
    have hrun:=(next_run (P:=P) (ty:=ty) h5' h7' hun').2 hes
    refine Eff.value (v:=.tuple #[.bool false]) (w':=w1) ?_ ⟨w,hs,hK w E _ (Ext.refl E) hR ⟨[.bool false],rfl,rfl,trivial⟩⟩
    simp only [execOp,ha it _ h1,Sem.run_bind]
    rw [show (0+0)=0 from rfl,hrun]; rfl
   ·rename_i e' hlf
    cases hlt:Nat.blt e'.2.2 since
    ·rw [hlt] at hle; cases hle
    ·rw [hlt] at hle; cases hle
 ·rename_i it hop
  split at h <;> first | (cases h; done) | skip
  rename_i b hit
  split at h <;> first | (cases h; done) | skip
  rename_i q since seen last hb
  split at h <;> first | (cases h; done) | skip
  rename_i m c st hq hlast
  cases hc:Nat.beq c last
  ·rw [hc] at h; cases h
  rw [hc] at h
  have hc:=Nat.eq_of_beq_eq_true hc
  subst hc
  simp only [cond_true] at h
  split at h <;> first | (cases h; done) | skip
  rename_i e hf
  cases h
  obtain ⟨⟨b',o',s'⟩,h1,h2,r,h3,h4⟩:=lptr_ok hl hit
  simp only at h3 h4
  obtain ⟨hr0,m',h5,q',h6,rfl⟩:=hR.blk b _ r hb h3
  obtain ⟨r1,r2⟩:=r
  simp only at hr0 h5 h4
  subst hr0
  cases h4
  obtain ⟨es,h7,h8⟩:=hR.blk q _ q' hq h6
  obtain ⟨e2,h9,h10⟩:=h8.find (fun b=>Nat.beq b st) hf
  obtain ⟨d,op,ty,pos,af,g⟩:=o
  simp only at hop
  subst hop
  intro ρ w1 ha hs
  have h5':=h5
  rw [← hs.heap] at h5'
  have h7':=h7
  rw [← hs.heap] at h7'
  have hg1:=getObjI_run (P:=P) h5' (fun _ _ _ h=>by cases h)
  have hg2:=getObjI_run (P:=P) h7' (fun _ _ _ h=>by cases h)
  have hbk:seen.toArray.back?=some st:=by rw [List.back?_toArray]; exact hlast
  have hfd:es.toArray.find? (fun e=>e.born == st)=some e2:=by
   rw [List.find?_toArray,← h9]
   congr 1
   funext x
   cases hb:Nat.beq x.born st
   ·have:x.born≠st:=fun e=>by rw [e,Nat.beq_refl] at hb; cases hb
    simpa using this
   ·simpa using Nat.eq_of_beq_eq_true hb
  refine Eff.value (v:=.tuple #[e2.key,e2.val]) (w':=w1) ?_ ⟨w,hs,hK w E _ (Ext.refl E) hR ⟨[e2.key,e2.val],rfl,h10.1,h10.2.1,trivial⟩⟩
  simp [execOp,ha it _ h1,Instr.entry,hg1,hg2,hbk,hfd]
 ·exact rawE1_ok P _ _ _ _ _ _ _ _ _ _ K h hR hl hK
end Go.Tum
end
section
namespace Go.Tum
open Go
section
variable {E E':Emb} {N:Nat} {φ:List Nat}
def Into (E E':Emb) (N:Nat) (φ:List Nat):Prop:=∀ (b:Nat) (r:Nat × Nat × Nat),E[b]?=some r→E'[rn N φ b]?=some r
theorem S0.into (h:Into E E' N φ) {v v':Value} (k:S0 E v v'):S0 E' (rn0 N φ v) v':=by
 cases v <;> first|exact k | skip
 case pointer a =>
  cases a with
  | none=>exact k
  | some a=>rcases a with ⟨b,o,_ | s⟩ <;> first|exact k | (obtain ⟨a',h1,h2,r,h3,h4⟩:=k; exact ⟨a',h1,h2,r,h _ _ h3,h4⟩)
 case slice a n c =>
  cases a with
  | none=>exact k
  | some a=>rcases a with ⟨b,o,_ | s⟩ <;> first|exact k | (obtain ⟨h1,r,h2,h3⟩:=k; exact ⟨h1,r,h _ _ h2,h3⟩)
 case map a =>
  cases a with
  | none=>exact k
  | some a=>obtain ⟨r,h1,h2⟩:=k; exact ⟨r,h _ _ h1,h2⟩
theorem L2.into {R S:Value→Value→Prop} {f:Value→Value} (h:∀ v v',R v v'→S (f v) v'):∀ {x y:List Value},L2 R x y→L2 S (x.map f) y
 | [],[],_=>trivial
 | _::_,_::_,k=>⟨h _ _ k.1,L2.into h k.2⟩
 | [],_::_,k=>k.elim
 | _::_,[],k=>k.elim
theorem SR.into (h:Into E E' N φ) {v v':Value} (k:SR E v v'):SR E' (rnS N φ v) v':=by
 cases v <;> first|exact k | skip
 case pointer a=>(cases a with | none=>exact S0.into (φ:=φ) h (v:=.pointer none) k | some a=>exact S0.into (φ:=φ) h (v:=.pointer (some a)) k)
 case slice a n c=>(cases a with | none=>exact S0.into (φ:=φ) h (v:=.slice none n c) k | some a=>exact S0.into (φ:=φ) h (v:=.slice (some a) n c) k)
 case map a=>(cases a with | none=>exact S0.into (φ:=φ) h (v:=.map none) k | some a=>exact S0.into (φ:=φ) h (v:=.map (some a)) k)
 case func f a c =>
  obtain ⟨a⟩:=a
  obtain ⟨c⟩:=c
  obtain ⟨a',c',h1,h2,h3⟩:=k
  exact ⟨a',c',h1,L2.into (f:=rn0 N φ) (fun _ _ k=>S0.into h k) h2,L2.into (f:=rn0 N φ) (fun _ _ k=>S0.into h k) h3⟩
theorem V1.into (h:Into E E' N φ) {v v':Value} (k:V1 E v v'):V1 E' (rn1 N φ v) v':=by
 cases v <;> first|exact k | skip
 case pointer a=>(cases a with | none=>exact SR.into (φ:=φ) h (v:=.pointer none) k | some a=>exact SR.into (φ:=φ) h (v:=.pointer (some a)) k)
 case slice a n c=>(cases a with | none=>exact SR.into (φ:=φ) h (v:=.slice none n c) k | some a=>exact SR.into (φ:=φ) h (v:=.slice (some a) n c) k)
 case map a=>(cases a with | none=>exact SR.into (φ:=φ) h (v:=.map none) k | some a=>exact SR.into (φ:=φ) h (v:=.map (some a)) k)
 case func f a c=>exact SR.into h (v:=.func f a c) k
 case agg cs=>obtain ⟨cs⟩:=cs; obtain ⟨cs',h1,h2⟩:=k; exact ⟨cs',h1,L2.into (f:=rnS N φ) (fun _ _ k=>SR.into h k) h2⟩
theorem VR.into (h:Into E E' N φ) {v v':Value} (k:VR E v v'):VR E' (rnV N φ v) v':=by
 cases v <;> first|exact k | skip
 case pointer a=>(cases a with | none=>exact V1.into (φ:=φ) h (v:=.pointer none) k | some a=>exact V1.into (φ:=φ) h (v:=.pointer (some a)) k)
 case slice a n c=>(cases a with | none=>exact V1.into (φ:=φ) h (v:=.slice none n c) k | some a=>exact V1.into (φ:=φ) h (v:=.slice (some a) n c) k)
 case map a=>(cases a with | none=>exact V1.into (φ:=φ) h (v:=.map none) k | some a=>exact V1.into (φ:=φ) h (v:=.map (some a)) k)
 case func f a c=>exact V1.into h (v:=.func f a c) k
 case agg cs=>exact V1.into h (v:=.agg cs) k
 case tuple cs=>obtain ⟨cs⟩:=cs; obtain ⟨cs',h1,h2⟩:=k; exact ⟨cs',h1,L2.into (f:=rn1 N φ) (fun _ _ k=>V1.into h k) h2⟩
theorem M2.into (h:Into E E' N φ):∀ {m:List (Value × Value × Nat)} {es:List MapEntry},M2 E m es→M2 E' (m.map fun x=>(rn1 N φ x.1,rn1 N φ x.2.1,x.2.2)) es
 | [],[],_=>trivial
 | _::_,_::_,k=>⟨⟨k.1.1.into h,k.1.2.1.into h,k.1.2.2⟩,M2.into h k.2⟩
 | [],_::_,k=>k.elim
 | _::_,[],k=>k.elim
theorem LBis.into (h:Into E E' N φ) {w:World} {r:Nat × Nat × Nat} {x:LB} (k:LBis E w r x):LBis E' w r (rnB N φ x):=by
 cases x with
 | cells sz vs =>
  obtain ⟨cs,h1,h2,h3⟩:=k
  refine ⟨cs,h1,?_,?_⟩
  ·rw [List.length_map]; exact L2.into (f:=rnS N φ) (fun _ _ k=>SR.into h k) h2
  ·rw [List.length_map]; exact h3
 | map m c=>obtain ⟨es,h1,h2⟩:=k; exact ⟨es,h1,h2.into h⟩
 | iter m a l b =>
  obtain ⟨h0,m',h1,h2⟩:=k
  refine ⟨h0,m',h1,?_⟩
  cases m with
  | none=>exact h2
  | some b=>obtain ⟨q,h3,h4⟩:=h2; exact ⟨q,h _ _ h3,h4⟩
 | data vs=>exact k
 | bytes n x=>exact k
 | gro sz vs=>exact k
 | dead=>exact k
 | abs A F=>exact k
 | imap G c=>exact k
end
def seqN:Nat→Nat→List Nat
 | _,0=>[]
 | a,n+1=>a::seqN (a+1) n
theorem seqN_get:∀ (n a k:Nat),k<n→(seqN a n)[k]?=some (a+k)
 | 0,_,_,h=>by omega
 | n+1,a,0,_=>by simp [seqN]
 | n+1,a,k+1,h=>by
  simp only [seqN,List.getElem?_cons_succ]
  rw [seqN_get n (a+1) k (by omega)]
  congr 1; omega
theorem seqN_length:∀ (n a:Nat),(seqN a n).length=n
 | 0,_=>rfl
 | n+1,a=>by simp [seqN,seqN_length n]
def jset:LH→List Nat→LH→LH
 | M,k::φ,x::r=>jset (M.set k x) φ r
 | M,_,_=>M
def phi2 (φ:List Nat) (N:Nat) (L1:LH):List Nat:=φ++seqN N (L1.length-φ.length)
def joinL (φ:List Nat) (M L1:LH):LH :=
 jset M φ ((L1.take φ.length).map (rnB (M.length+L1.length) (phi2 φ M.length L1)))++(L1.drop φ.length).map (rnB (M.length+L1.length) (phi2 φ M.length L1))
theorem jset_length:∀ (φ:List Nat) (M r:LH),(jset M φ r).length=M.length
 | [],M,r=>by simp [jset]
 | k::φ,M,[]=>by simp [jset]
 | k::φ,M,x::r=>by simp only [jset]; rw [jset_length φ]; simp
theorem jset_other:∀ (φ:List Nat) (M r:LH) (k:Nat),k∉φ→(jset M φ r)[k]?=M[k]?
 | [],M,r,k,_=>by simp [jset]
 | j::φ,M,[],k,_=>by simp [jset]
 | j::φ,M,x::r,k,h=>by
  simp only [List.mem_cons,not_or] at h
  simp only [jset]
  rw [jset_other φ _ r k h.2,List.getElem?_set,if_neg (fun e=>h.1 e.symm)]
theorem jset_at:∀ (φ:List Nat) (M r:LH) (j k:Nat) (x:LB),φ.Nodup→φ[j]?=some k→r[j]?=some x→k<M.length→(jset M φ r)[k]?=some x
 | [],M,r,j,k,x,_,h,_,_=>by simp at h
 | i::φ,M,[],j,k,x,_,_,h,_=>by simp at h
 | i::φ,M,y::r,0,k,x,hn,h1,h2,hk=>by
  simp at h1 h2; subst h1; subst h2
  simp only [jset]
  rw [jset_other φ _ r i (List.nodup_cons.1 hn).1,List.getElem?_set,if_pos rfl,if_pos hk]
 | i::φ,M,y::r,j+1,k,x,hn,h1,h2,hk=>by
  simp at h1 h2
  simp only [jset]
  exact jset_at φ _ r j k x (List.nodup_cons.1 hn).2 h1 h2 (by simpa using hk)
def footL (E:Emb) (L:LH) (b:Nat):Prop:=∃ (k:Nat) (x:LB) (r:Nat × Nat × Nat),L[k]?=some x∧E[k]?=some r∧foot r x b
theorem Rep.base {X:Nat→Prop} {w0 w:World} {E:Emb} {L:LH} (h:Rep X w0 E L w):Rep (footL E L) w E L w :=
 ⟨Fr.refl _ w,h.len,fun k x r hx hr b hf=>⟨.inr ⟨k,x,r,hx,hr,hf⟩,(h.rng k x r hx hr b hf).2⟩,h.blk,h.inj⟩
structure Part (φ:List Nat) (M L:LH):Prop where
 len:φ.length=L.length
 nodup:φ.Nodup
 blk:∀ (k:Nat) (x:LB),L[k]?=some x→∃ j,φ[k]?=some j∧M[j]?=some (rnB M.length φ x)
theorem Part.sub {X:Nat→Prop} {w0 w:World} {E:Emb} {M L:LH} {φ:List Nat} (hp:Part φ M L) (h:Rep X w0 E M w):Rep X w0 (subE E φ) L w :=
 h.sub hp.len (fun k x hx=>.inr (hp.blk k x hx)) fun k k' j x x' h1 h2 _ _ _ _=>by
  have e1:=(List.getElem?_eq_some_iff.1 h1)
  have e2:=(List.getElem?_eq_some_iff.1 h2)
  obtain ⟨l1,e1⟩:=e1
  obtain ⟨l2,e2⟩:=e2
  exact (List.getElem_inj hp.nodup).1 (by rw [e1,e2])
def posN (N b:Nat):Nat→List Nat→Nat
 | _,[]=>N
 | k,j::r=>bif Nat.beq j b then k else posN N b (k+1) r
def invN (sel:List Nat) (N:Nat):Nat→Nat→List Nat
 | _,0=>[]
 | b,k+1=>posN N b 0 sel::invN sel N (b+1) k
def okN (ψ:List Nat) (n b:Nat):Bool:=match ψ[b]? with
 | some k=>Nat.blt k n
 | none=>false
def ok0 (ψ:List Nat) (n:Nat):Value→Bool
 | .pointer (some a)=>(match a.spot with
  | none=>okN ψ n a.block
  | some _=>true)
 | .slice (some a) _ _=>(match a.spot with
  | none=>okN ψ n a.block
  | some _=>true)
 | .map (some b)=>okN ψ n b
 | _=>true
def okS (ψ:List Nat) (n:Nat):Value→Bool
 | .func _ ⟨a⟩ ⟨c⟩=>a.all (ok0 ψ n) && c.all (ok0 ψ n)
 | v=>ok0 ψ n v
def ok1 (ψ:List Nat) (n:Nat):Value→Bool
 | .agg ⟨cs⟩=>cs.all (okS ψ n)
 | v=>okS ψ n v
def okV (ψ:List Nat) (n:Nat):Value→Bool
 | .tuple ⟨vs⟩=>vs.all (ok1 ψ n)
 | v=>ok1 ψ n v
def okB (ψ:List Nat) (n:Nat):LB→Bool
 | .cells _ vs=>vs.all (okS ψ n)
 | .map m _=>m.all fun x=>ok1 ψ n x.1 && ok1 ψ n x.2.1
 | .iter (some b) _ _ _=>okN ψ n b
 | _=>true
def okE (ψ:List Nat) (n:Nat):Env→Bool
 | []=>true
 | (_,v)::r=>okV ψ n v && okE ψ n r
theorem posN_ok (N b:Nat):∀ (sel:List Nat) (k:Nat),posN N b k sel=N∨∃ i,posN N b k sel=k+i∧sel[i]?=some b
 | [],k=>.inl rfl
 | j::r,k=>by
  simp only [posN]
  cases hb:Nat.beq j b
  ·rcases posN_ok N b r (k+1) with h | ⟨i,h1,h2⟩
   ·exact .inl h
   ·exact .inr ⟨i+1,by simp only [cond_false]; omega,by simpa using h2⟩
  ·exact .inr ⟨0,rfl,by simp [Nat.eq_of_beq_eq_true hb]⟩
theorem invN_get (sel:List Nat) (N:Nat):∀ (n b k:Nat),k<n→(invN sel N b n)[k]?=some (posN N (b+k) 0 sel)
 | 0,_,_,h=>by omega
 | n+1,b,0,_=>by simp [invN]
 | n+1,b,k+1,h=>by
  simp only [invN,List.getElem?_cons_succ]
  rw [invN_get sel N n (b+1) k (by omega),show b+1+k=b+(k+1) by omega]
theorem invN_none (sel:List Nat) (N:Nat):∀ (n b k:Nat),n≤k→(invN sel N b n)[k]?=none
 | 0,_,_,_=>by simp [invN]
 | n+1,b,0,h=>by omega
 | n+1,b,k+1,h=>by
  simp only [invN,List.getElem?_cons_succ]
  exact invN_none sel N n (b+1) k (by omega)
section
variable {sel:List Nat} {n M:Nat}
theorem okN_ok {b:Nat} (_hs:sel.length=n) (h:okN (invN sel n 0 M) n b=true):rn M sel (rn n (invN sel n 0 M) b)=b:=by
 unfold okN at h
 split at h
 ·rename_i k hk
  have hlt:k<n:=Nat.le_of_ble_eq_true h
  rcases Nat.lt_or_ge b M with hb | hb
  ·rw [invN_get _ _ _ _ _ hb,Nat.zero_add] at hk
   simp only [Option.some.injEq] at hk
   unfold rn
   rw [invN_get _ _ _ _ _ hb,Nat.zero_add]
   simp only [Option.getD_some]
   rcases posN_ok n b sel 0 with e | ⟨i,e1,e2⟩
   ·omega
   ·rw [e1,Nat.zero_add,e2]; rfl
  ·rw [invN_none _ _ _ _ _ hb] at hk; cases hk
 ·cases h
theorem ok0_ok {v:Value} (hs:sel.length=n) (h:ok0 (invN sel n 0 M) n v=true):rn0 M sel (rn0 n (invN sel n 0 M) v)=v:=by
 cases v <;> first | rfl | skip
 case pointer a =>
  cases a with
  | none=>rfl
  | some a=>rcases a with ⟨b,o,_ | s⟩ <;> first | rfl | (simp only [rn0,rnA,okN_ok hs h])
 case slice a _ _ =>
  cases a with
  | none=>rfl
  | some a=>rcases a with ⟨b,o,_ | s⟩ <;> first | rfl | (simp only [rn0,rnA,okN_ok hs h])
 case map a =>
  cases a with
  | none=>rfl
  | some a=>simp only [rn0,okN_ok hs h]
theorem map_back {f g:Value→Value} {p:Value→Bool} (hfg:∀ v,p v=true→f (g v)=v):∀ {l:List Value},l.all p=true→(l.map g).map f=l
 | [],_=>rfl
 | a::r,h=>by
  simp only [List.all_cons,Bool.and_eq_true] at h
  simp only [List.map_cons,hfg a h.1,map_back hfg h.2]
theorem okS_ok {v:Value} (hs:sel.length=n) (h:okS (invN sel n 0 M) n v=true):rnS M sel (rnS n (invN sel n 0 M) v)=v:=by
 cases v <;> first | rfl | skip
 case pointer a=>(cases a with | none=>rfl | some a=>exact ok0_ok (v:=.pointer (some a)) hs h)
 case slice a n' c=>(cases a with | none=>rfl | some a=>exact ok0_ok (v:=.slice (some a) n' c) hs h)
 case map a=>(cases a with | none=>rfl | some a=>exact ok0_ok (v:=.map (some a)) hs h)
 case func f a c =>
  obtain ⟨a⟩:=a
  obtain ⟨c⟩:=c
  simp only [okS,Bool.and_eq_true] at h
  simp only [rnS,map_back (fun v hv=>ok0_ok hs hv) h.1,map_back (fun v hv=>ok0_ok hs hv) h.2]
theorem ok1_ok {v:Value} (hs:sel.length=n) (h:ok1 (invN sel n 0 M) n v=true):rn1 M sel (rn1 n (invN sel n 0 M) v)=v:=by
 cases v <;> first | rfl | skip
 case pointer a=>(cases a with | none=>rfl | some a=>exact okS_ok (v:=.pointer (some a)) hs h)
 case slice a n' c=>(cases a with | none=>rfl | some a=>exact okS_ok (v:=.slice (some a) n' c) hs h)
 case map a=>(cases a with | none=>rfl | some a=>exact okS_ok (v:=.map (some a)) hs h)
 case agg cs =>
  obtain ⟨cs⟩:=cs
  simp only [rn1,map_back (fun v hv=>okS_ok hs hv) h]
 case func f a c=>exact okS_ok (v:=.func f a c) hs h
theorem okV_ok {v:Value} (hs:sel.length=n) (h:okV (invN sel n 0 M) n v=true):rnV M sel (rnV n (invN sel n 0 M) v)=v:=by
 cases v <;> first | rfl | skip
 case pointer a=>(cases a with | none=>rfl | some a=>exact ok1_ok (v:=.pointer (some a)) hs h)
 case slice a n' c=>(cases a with | none=>rfl | some a=>exact ok1_ok (v:=.slice (some a) n' c) hs h)
 case map a=>(cases a with | none=>rfl | some a=>exact ok1_ok (v:=.map (some a)) hs h)
 case tuple cs =>
  obtain ⟨cs⟩:=cs
  simp only [rnV,map_back (fun v hv=>ok1_ok hs hv) h]
 case func f a c=>exact ok1_ok (v:=.func f a c) hs h
 case agg cs=>exact ok1_ok (v:=.agg cs) hs h
theorem okE_ok (hs:sel.length=n):∀ {l:Env},okE (invN sel n 0 M) n l=true→rnE M sel (rnE n (invN sel n 0 M) l)=l
 | [],_=>rfl
 | (k,v)::r,h=>by
  simp only [okE,Bool.and_eq_true] at h
  simp only [rnE,okV_ok hs h.1,okE_ok hs h.2]
theorem okB_ok {x:LB} (hs:sel.length=n) (h:okB (invN sel n 0 M) n x=true):rnB M sel (rnB n (invN sel n 0 M) x)=x:=by
 cases x <;> first | rfl | skip
 case cells sz vs=>simp only [rnB,map_back (fun v hv=>okS_ok hs hv) h]
 case map m c =>
  simp only [rnB,List.map_map,LB.map.injEq,and_true]
  have:∀ (m:List (Value × Value × Nat)),(m.all fun x=>ok1 (invN sel n 0 M) n x.1 && ok1 (invN sel n 0 M) n x.2.1)=true→List.map ((fun x=>(rn1 M sel x.1,rn1 M sel x.2.1,x.2.2)) ∘ fun x=>(rn1 n (invN sel n 0 M) x.1,rn1 n (invN sel n 0 M) x.2.1,x.2.2)) m=m:=by
   intro m
   induction m with
   | nil=>intro _; rfl
   | cons a r ih =>
    intro h
    simp only [List.all_cons,Bool.and_eq_true] at h
    simp only [List.map_cons,Function.comp,ok1_ok hs h.1.1,ok1_ok hs h.1.2]
    exact congrArg (a::·) (ih h.2)
  exact this m h
 case iter m a l b =>
  cases m with
  | none=>rfl
  | some q=>simp only [rnB,Option.map_some,okN_ok hs h]
end
def pickG (L:LH):List Nat→Option LH
 | []=>some []
 | j::r=>match L[j]? with
  | some x=>match pickG L r with
   | some t=>some (x::t)
   | none=>none
  | none=>none
theorem pickG_ok {L:LH}:∀ {sel:List Nat} {t:LH},pickG L sel=some t→t.length=sel.length∧∀ (k:Nat) (x:LB),t[k]?=some x→∃ j,sel[k]?=some j∧L[j]?=some x
 | [],t,h=>by cases h; exact ⟨rfl,fun k x hx=>by simp at hx⟩
 | j::r,t,h=>by
  simp only [pickG] at h
  cases hj:L[j]? with
  | none=>rw [hj] at h; cases h
  | some x =>
   rw [hj] at h
   cases hr:pickG L r with
   | none=>rw [hr] at h; cases h
   | some s =>
    rw [hr] at h; cases h
    obtain ⟨h1,h2⟩:=pickG_ok hr
    refine ⟨by simp [h1],fun k y hy=>?_⟩
    cases k with
    | zero=>simp at hy; subst hy; exact ⟨j,rfl,hj⟩
    | succ k=>simp at hy; simpa using h2 k y hy
def letGo (sel:List Nat) (L:LH):Option LH:=match pickG L sel with
 | some t=>bif t.all (okB (invN sel sel.length 0 L.length) sel.length) && ndup sel then some (t.map (rnB sel.length (invN sel sel.length 0 L.length))) else none
 | none=>none
def letGoE (sel:List Nat) (L:LH) (l:Env):Option Env:=bif okE (invN sel sel.length 0 L.length) sel.length l then some (rnE sel.length (invN sel sel.length 0 L.length) l) else none
def letGoV (sel:List Nat) (L:LH) (v:Value):Option Value:=bif okV (invN sel sel.length 0 L.length) sel.length v then some (rnV sel.length (invN sel sel.length 0 L.length) v) else none
theorem letGo_ok {X:Nat→Prop} {w0 w:World} {E:Emb} {L K:LH} {sel:List Nat} (h:letGo sel L=some K) (hR:Rep X w0 E L w):Rep X w0 (subE E sel) K w:=by
 unfold letGo at h
 split at h <;> first | (cases h; done) | skip
 rename_i t ht
 cases hc:(t.all (okB (invN sel sel.length 0 L.length) sel.length) && ndup sel)
 ·rw [hc] at h; cases h
 rw [hc] at h; cases h
 rw [Bool.and_eq_true] at hc
 obtain ⟨h1,h2⟩:=pickG_ok ht
 have hnd:=ndup_ok hc.2
 refine hR.sub (by simp [h1]) (fun k x hx=>.inr ?_) fun k k' j x x' e1 e2 _ _ _ _=>?_
 ·simp only [List.getElem?_map] at hx
  cases hq:t[k]? with
  | none=>rw [hq] at hx; cases hx
  | some y =>
   rw [hq] at hx; cases hx
   obtain ⟨j,h3,h4⟩:=h2 k y hq
   refine ⟨j,h3,?_⟩
   rw [okB_ok rfl (List.all_eq_true.1 hc.1 y (List.mem_of_getElem? hq))]; exact h4
 ·obtain ⟨l1,e1⟩:=List.getElem?_eq_some_iff.1 e1
  obtain ⟨l2,e2⟩:=List.getElem?_eq_some_iff.1 e2
  exact (List.getElem_inj hnd).1 (by rw [e1,e2])
theorem letGoE_ok {X:Nat→Prop} {w0 w:World} {E:Emb} {L:LH} {sel:List Nat} {l l1 l':Env} (h:letGoE sel L l=some l1) (hR:Rep X w0 E L w) (hl:ER E l l'):ER (subE E sel) l1 l':=by
 unfold letGoE at h
 cases hc:okE (invN sel sel.length 0 L.length) sel.length l
 ·rw [hc] at h; cases h
 rw [hc] at h; cases h
 refine ER.sub ?_
 rw [hR.len,okE_ok rfl hc]; exact hl
theorem letGoV_ok {X:Nat→Prop} {w0 w:World} {E:Emb} {L:LH} {sel:List Nat} {v v1 v':Value} (h:letGoV sel L v=some v1) (hR:Rep X w0 E L w) (hv:VR E v v'):VR (subE E sel) v1 v':=by
 unfold letGoV at h
 cases hc:okV (invN sel sel.length 0 L.length) sel.length v
 ·rw [hc] at h; cases h
 rw [hc] at h; cases h
 refine VR.sub ?_
 rw [hR.len,okV_ok rfl hc]; exact hv
end Go.Tum
end
