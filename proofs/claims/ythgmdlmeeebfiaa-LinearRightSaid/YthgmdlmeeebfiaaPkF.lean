/-
  What the proof leans on, part 6: of the texts Lw22, SpecA, SpecB, SpecC, SpecD, SpecE, SpecR, SpecN, BaseM, SpecF, SpecP, SpecQ, LinA, LinB, LinT.
-/
import Derived.Test.YthgmdlmeeebfiaaPkE
import Derived.Lib.AppendZerosOnto
import Derived.Lib.Overlaps
set_option linter.unusedVariables false
set_option linter.unusedSimpArgs false
set_option linter.unusedSectionVars false
section
namespace Go.Tum
open Go
section
variable {P:Program} {n0:NA} {K:Env→LH→Prop} {l:Env} {L:LH} {T:Taken} {α:Type} {gr:α→List Value} {sz:Nat}
theorem get_slice {E:Emb} {b n c:Nat} {v:Value} (h:VR E (.slice (some ⟨b,0,none⟩) n c) v) (hn:0<n):∃ r,E[b]?=some r∧v=.slice (some ⟨r.1,0+r.2.1,none⟩) n (c+r.2.2):=by
 obtain ⟨_,r,hr,⟨a',c',rfl,⟨rfl,rfl⟩ | ⟨h0,_⟩⟩ | ⟨h0,_⟩⟩:=h
 ·exact ⟨r,hr,rfl⟩
 ·omega
 ·omega
theorem S_cap {n b t t1 k:Nat} {xs:List α} {rest:Env} {o:Oper} {x:Operand} {sT:TypeId} {d:Option Nat} {g0:Option (Nat × Bool)} {rd:Bool} {r:List Step} (h:RowOk gr sz) (hz:0<sz) (hn:xs.length=n) (hpos:0<n) (ho:o.op=.call ⟨.builtin .cap,⟨[x]⟩,⟨[sT]⟩⟩)
  (hsT:(match P.underlying sT with | some (.slice _)=>true | _=>false)=true) (hg:gw g0 ((t1,.slice (some ⟨b,0,none⟩) n n)::(t,.slice (some ⟨b,0,none⟩) n n)::rest)=some true) (hx:lv ((t1,.slice (some ⟨b,0,none⟩) n n)::(t,.slice (some ⟨b,0,none⟩) n n)::rest) x=some (.slice (some ⟨b,0,none⟩) n n)) (hfr:eget rest t1=none) (hb:L[b]?=some (.gro sz (rowsC gr xs)))
  (hA:LSt P n0 r K (dpush d (.int .i64 n) ((t1,.slice (some ⟨b,0,none⟩) n n)::(t,.slice (some ⟨b,0,none⟩) n n)::rest)) (bif rd then (k,.raw o,(t1,.slice (some ⟨b,0,none⟩) n n)::(t,.slice (some ⟨b,0,none⟩) n n)::rest,.int .i64 n)::T else T) (L.set b (.cells 0 (rowsC gr xs))))
  (hB:∀ (c:Nat) (zs:List Value),zs.length=sz→n+1≤c→LSt P n0 r K (dpush d (.int .i64 c) ((t,.slice (some ⟨L.length,0,none⟩) n (n+1))::rest)) (bif rd then (k,.raw o,(t1,.slice (some ⟨b,0,none⟩) n n)::(t,.slice (some ⟨b,0,none⟩) n n)::rest,.int .i64 c)::T else T) (L.set b .dead++[.gro sz (rowsC gr xs++zs)])) :
  LSt P n0 (.q k d g0 (.raw o) rd::r) K ((t1,.slice (some ⟨b,0,none⟩) n n)::(t,.slice (some ⟨b,0,none⟩) n n)::rest) T L:=by
 refine ⟨fun X w0 E0 w E l' F h0 hE hR hl hT=>?_⟩
 simp only [stepsWp]
 refine gw_ok hl hg (fun _=>?_) (fun e=>by cases e)
 obtain ⟨v',h1,h2⟩:=lv_ev hl hx
 obtain ⟨q,hq,rfl⟩:=get_slice h2 hpos
 obtain ⟨vt,ht1,ht2⟩:=hl.get (t:=t) (v:=.slice (some ⟨b,0,none⟩) n n) (by rw [eget_cons]; split; rfl; rw [eget_cons,if_pos rfl])
 obtain ⟨q',hq',rfl⟩:=get_slice ht2 hpos
 rw [hq] at hq'; cases hq'
 have hlen:=rowsC_length h xs
 have hpos2:0<n*sz:=Nat.mul_pos hpos hz
 have hst:=rowsC_still h xs
 have hy:(QOp.raw o).Y P l' (.int .i64 ((n+q.2.2:Nat):Int)) w:=by
  intro ρ w1 ha hs
  obtain ⟨d',op,ty,pos,af,gg⟩:=o
  simp only at ho
  subst ho
  split at hsT
  ·rename_i e hu
   simp [execOp,resolve,invoke,builtin,ha x _ h1,Builtin.cap_,run_underlying hu,goInt]
  ·cases hsT
 refine ⟨_,hy,?_⟩
 rcases hR.blk b _ q hb hq with ⟨hne,_⟩ | ⟨hne,_,cs,hBk,hcs,hroom⟩
 ·rw [hne] at hlen; simp at hlen; rw [hn] at hlen; omega
 rcases Nat.eq_zero_or_pos q.2.2 with h00 | h01
 ·have hR':Rep X w0 E (L.set b (.cells 0 (rowsC gr xs))) w:=by
   refine hR.upd hb hq (Fr.refl _ w) ⟨cs,hBk,?_,by rw [h00]; omega,fun _=>h00⟩ (by rw [gro_foot hne]; exact fun _ h=>.inl h)
   rw [hcs]; exact L2.self fun u hu=>SR.still (List.all_eq_true.1 hst u hu)
  rw [h00,Nat.add_zero]
  cases rd
  ·exact hA.go X w0 E0 w E _ _ h0 hE hR' (ER.dpush hl (show VR E (.int .i64 (n:Int)) (.int .i64 (n:Int)) from rfl) d) hT
  ·exact hA.go X w0 E0 w E _ _ h0 hE hR' (ER.dpush hl (show VR E (.int .i64 (n:Int)) (.int .i64 (n:Int)) from rfl) d) ⟨rfl,⟨l',_,rfl,hl,rfl⟩,hT⟩
 ·obtain ⟨ρ,hρ⟩:∃ ρ,q.2.2=ρ+1:=⟨q.2.2-1,by omega⟩
  have hrm:q.2.1+(rowsC gr xs).length+sz+ρ*sz≤cs.length:=by
   have:=hroom
   rw [hρ,Nat.add_mul,Nat.one_mul] at this
   omega
  have hzl:((cs.drop (q.2.1+(rowsC gr xs).length)).take sz).length=sz:=by simp; omega
  have hcat:(cs.drop q.2.1).take (rowsC gr xs++(cs.drop (q.2.1+(rowsC gr xs).length)).take sz).length=rowsC gr xs++(cs.drop (q.2.1+(rowsC gr xs).length)).take sz:=by
   rw [List.length_append,hzl,List.take_add,hcs,List.drop_drop]
  have hne2:rowsC gr xs++(cs.drop (q.2.1+(rowsC gr xs).length)).take sz≠[]:=by
   intro e; have:=congrArg List.length e; rw [List.length_append,hzl] at this; simp at this; omega
  have hR':Rep X w0 (E++[(q.1,q.2.1,ρ)]) (L.set b .dead++[.gro sz (rowsC gr xs++(cs.drop (q.2.1+(rowsC gr xs).length)).take sz)]) w:=by
   refine hR.again hb hq (Fr.refl _ w) (fun c hc=>.inl ?_) (.inr ⟨hne2,hz,cs,hBk,hcat,?_⟩)
   ·rw [gro_foot hne]; rw [gro_foot hne2] at hc; exact hc
   ·show q.2.1+(rowsC gr xs++_).length+ρ*sz≤cs.length
    rw [List.length_append,hzl]; omega
  have hlast:(E++[(q.1,q.2.1,ρ)])[L.length]?=some (q.1,q.2.1,ρ):=by rw [← hR.len]; simp
  have hER:ER (E++[(q.1,q.2.1,ρ)]) ((t,.slice (some ⟨L.length,0,none⟩) n (n+1))::rest) l':=by
   intro u v hu
   rw [eget_cons] at hu
   by_cases e:t=u
   ·subst e
    rw [if_pos rfl] at hu; cases hu
    exact ⟨_,ht1,rfl,_,hlast,.inl ⟨_,_,rfl,.inl ⟨rfl,by rw [hρ]; simp only; omega⟩⟩⟩
   ·rw [if_neg e] at hu
    by_cases e1:t1=u
    ·subst e1; exact absurd hu (by rw [hfr]; exact fun h=>by cases h)
    ·obtain ⟨v',g1,g2⟩:=hl.get (t:=u) (v:=v) (by rw [eget_cons,if_neg e1,eget_cons,if_neg e]; exact hu)
     exact ⟨v',g1,g2.ext (Ext.push E _)⟩
  have hb':=hB (n+q.2.2) _ hzl (by omega)
  cases rd
  ·exact hb'.go X w0 E0 w _ _ _ h0 (hE.trans (Ext.push E _)) hR' (ER.dpush hER (show VR _ (.int .i64 ((n+q.2.2:Nat):Int)) (.int .i64 ((n+q.2.2:Nat):Int)) from rfl) d) (hT.ext (Ext.push E _))
  ·exact hb'.go X w0 E0 w _ _ _ h0 (hE.trans (Ext.push E _)) hR' (ER.dpush hER (show VR _ (.int .i64 ((n+q.2.2:Nat):Int)) (.int .i64 ((n+q.2.2:Nat):Int)) from rfl) d) ⟨rfl,⟨l',_,rfl,hl.ext (Ext.push E _),rfl⟩,hT.ext (Ext.push E _)⟩
def appZT (P:Program) (sT xT:TypeId):Option (Nat × Nat × List Value) :=
 match elemOf P sT,P.underlying xT with
 | some (_,i,z),some (.int _)=>bif Nat.beq z.cells.toList.length i.size && Nat.blt 0 i.size && Nat.blt 0 i.bytes then some (i.size,i.bytes,z.cells.toList) else none
 | _,_=>none
theorem EW.appZ {o:Oper} {s x:Operand} {sT xT:TypeId} {bytes b i n k:Nat} {zs:List Value} {xs:List α} {z0:α} (h:RowOk gr sz) (ho:o.op=.call ⟨.builtin .append,⟨[s,x]⟩,⟨[sT,xT]⟩⟩) (ht:appZT P sT xT=some (sz,bytes,zs)) (hg0:gr z0=zs)
  (hs:lv l s=some (.slice (some ⟨b,0,none⟩) i n)) (hx:lv l x=some (.int .i64 (k:Int))) (hb:L[b]?=some (.cells 0 (rowsC gr xs))) (hn:xs.length=n) (hi:i≤n) (hn0:0<n) (hk:n<i+k) (hbd:(i+k)*bytes≤140737488355328) :
  EW P n0 L l (.raw o) (fun v K=>v=.slice (some ⟨L.length,0,none⟩) (i+k) (i+k)∧K=L.set b (.gro sz (rowsC gr xs))++[.gro sz (rowsC gr (xs.take i++List.replicate k z0))]):=by
 intro X w0 E0 w E l' Kf h0 hE hR hl hK
 unfold appZT at ht
 split at ht
 rotate_left
 ·cases ht
 rename_i e ie z kn he hxT
 cases hc:(Nat.beq z.cells.toList.length ie.size && Nat.blt 0 ie.size && Nat.blt 0 ie.bytes)
 ·rw [hc] at ht; cases ht
 rw [hc] at ht; cases ht
 simp only [Bool.and_eq_true] at hc
 obtain ⟨hu,hie,hz⟩:=elemOf_ok he
 have hsz:0<ie.size:=Nat.le_of_ble_eq_true hc.1.2
 have hby:0<ie.bytes:=Nat.le_of_ble_eq_true hc.2
 have hzl:=Nat.eq_of_beq_eq_true hc.1.1
 obtain ⟨vs',h1,h2⟩:=lv_ev hl hs
 obtain ⟨_,h3,rfl⟩:=lv_ev hl hx
 obtain ⟨r,hr⟩:=hR.ent hb
 obtain ⟨cs,hB,hl2,hroom,hz0⟩:=hR.blk b _ r hb hr
 have hr0:r.2.2=0:=hz0 rfl
 have hst:=rowsC_still h xs
 have hce:=L2.eq_still hst hl2
 obtain ⟨a',c',rfl,hbase,hc'⟩:∃ a' c',vs'=.slice a' i c'∧(0<i→a'=some ⟨r.1,0+r.2.1,none⟩)∧c'≤n:=by
  obtain ⟨_,q,hq,⟨a',c',rfl,⟨rfl,rfl⟩ | ⟨h00,h01,h02,_⟩⟩ | ⟨h00,h01,_⟩⟩:=h2
  ·rw [hr] at hq; cases hq
   exact ⟨_,_,rfl,fun _=>rfl,by omega⟩
  ·omega
  ·omega
 have hlen:=rowsC_length h xs
 rw [hn] at hlen
 have hle:i*ie.size≤n*ie.size:=Nat.mul_le_mul_right _ hi
 obtain ⟨d,op,ty,pos,af,g'⟩:=o
 simp only at ho
 subst ho
 intro ρ w1 ha hsim
 have hRd:Rd w1 ie.size (.slice a' i c') i ((rowsC gr xs).take (i*ie.size)):=by
  refine ⟨by rw [List.length_take,hlen]; omega,fun u hu=>(SR.still (E:=E) (List.all_eq_true.1 hst u (List.mem_of_mem_take hu))).one.1,?_⟩
  rcases Nat.eq_zero_or_pos i with hi0 | hi0
  ·subst hi0; exact .inl ⟨⟨_,_,rfl⟩,by simp⟩
  ·refine .inr ⟨r.1,0+r.2.1,c',cs,by rw [hbase hi0],hB.sim hsim,by omega,?_⟩
   rw [← hce,List.take_take,hlen,Nat.min_eq_left hle]
   congr 2; omega
 have hfc:(Builtin.firstCells ie.size i (.slice a' i c')).run P w1.drew=.ok ((rowsC gr xs).take (i*ie.size)).toArray w1.drew:=firstCells_rd (hRd.sim (w0:=w1.drew) ⟨rfl,rfl,rfl,rfl⟩)
 have hk0:0<k:=by omega
 have hikb:k*ie.bytes≤(i+k)*ie.bytes:=Nat.mul_le_mul_right _ (by omega)
 have hik1:(i+k)*1≤(i+k)*ie.bytes:=Nat.mul_le_mul_left _ hby
 have hrun:=Lib.run_append_grow_zeros (P:=P) w1 sT xT ty e ie z .i64 kn hu hxT hie hz a' i c' _ hfc k hk0 hsz (by omega) (by omega) (by omega) (growslice_fits (by omega) hbd)
 have hzc:∀ m,(Builtin.zeroCells z.cells m).toList=repC m z.cells.toList:=fun m=>by
  unfold Builtin.zeroCells
  rw [rangeC z.cells m (by rw [← Array.length_toList,hzl]; exact hsz)]
 have hrk:repC k z.cells.toList=rowsC gr (List.replicate k z0):=by rw [← hg0]; exact repC_rows z0 k
 obtain ⟨G,hG⟩:∃ G,G=grownCap w1 (i+k) c' e:=⟨_,rfl⟩
 rw [← hG] at hrun
 have hGn:i+k≤G:=by rw [hG]; exact grownCap_ge w1 _ _ _
 have hcells:(((rowsC gr xs).take (i*ie.size)).toArray++Builtin.zeroCells z.cells k++Builtin.zeroCells z.cells (G-(i+k)))=(rowsC gr (xs.take i++List.replicate k z0)++repC (G-(i+k)) z.cells.toList).toArray:=by
  apply Array.ext'
  simp only [Array.toList_append,hzc,hrk,rowsC_append,rowsC_take h]
 rw [hcells] at hrun
 have hexec:execOp ρ ⟨d,.call ⟨.builtin .append,#[s,x],#[sT,xT]⟩,ty,pos,af,g'⟩=(do let r ← Builtin.append_ #[sT,xT] ty #[.slice a' i c',.int .i64 (k:Int)]; pure (Next.value r)):=by
  simp [execOp,resolve,invoke,builtin,ha s _ h1,ha x _ h3]
 refine Eff.value (v:=.slice (some ⟨w1.heap.size,0,none⟩) (i+k) G) (w':=w1.drew.alloc (.cells (rowsC gr (xs.take i++List.replicate k z0)++repC (G-(i+k)) z.cells.toList).toArray e)) ?_ ⟨w.alloc (.cells (rowsC gr (xs.take i++List.replicate k z0)++repC (G-(i+k)) z.cells.toList).toArray e),Sim.trans (b:=w1.alloc _) ?_ (hsim.push _),?_⟩
 ·show (execOp ρ ⟨d,.call ⟨.builtin .append,#[s,x],#[sT,xT]⟩,ty,pos,af,g'⟩).run P w1=_
  rw [hexec]; simp [hrun]
 ·exact ⟨rfl,rfl,rfl,rfl⟩
 ·rw [hsim.heap]
  have hrl:(rowsC gr (xs.take i++List.replicate k z0)).length=(i+k)*ie.size:=by rw [rowsC_length h,List.length_append,List.length_take,List.length_replicate,Nat.min_eq_left (by omega)]
  have hp2:0<(i+k)*ie.size:=Nat.mul_pos (by omega) hsz
  have hp3:0<n*ie.size:=Nat.mul_pos hn0 hsz
  have hRg:Rep X w0 E (L.set b (.gro ie.size (rowsC gr xs))) w:=wk_new ie.size hb (by intro e; rw [e] at hlen; simp at hlen; omega) hsz hst _ _ _ _ hR
  have hne:rowsC gr (xs.take i++List.replicate k z0)≠[]:=by intro e; rw [e] at hrl; simp at hrl; omega
  refine hK _ (E++[(w.heap.size,0,G-(i+k))]) _ _ _ ⟨rfl,rfl⟩ (Ext.push E _) (hRg.push1 (Fr.alloc _ w _) rfl (alloc_size _ _) (fun b hb=>by rw [gro_foot hne] at hb; exact hb) (.inr ⟨hne,hsz,_,Blk.new w _ _,by simp,?_⟩)) ⟨rfl,_,hR.last _,.inl ⟨_,_,rfl,.inl ⟨by simp,by simp; omega⟩⟩⟩
  show 0+_+(G-(i+k))*ie.size≤_
  rw [List.length_append,repC_length,hzl]; omega
theorem EW.copyUp {o:Oper} {x y:Operand} {dT sT:TypeId} {b i n dn sn dc sc:Nat} {xs:List α} {zs:List Value} (h:RowOk gr sz) (ho:o.op=.call ⟨.builtin .copy,⟨[x,y]⟩,⟨[dT,sT]⟩⟩) (ht:cpyT P dT=some sz)
  (hx:lv l x=some (.slice (some ⟨b,(i+1)*sz,none⟩) dn dc)) (hy:lv l y=some (.slice (some ⟨b,i*sz,none⟩) sn sc)) (hb:L[b]?=some (.gro sz (rowsC gr xs++zs))) (hdn:dn=n-i) (hsn:sn=n+1-i)
  (hn:xs.length=n) (hi:i<n) (hzl:zs.length=sz) (hz:0<sz) :
  EW P n0 L l (.raw o) (fun v K=>v=.int .i64 (n-i:Nat)∧K=L.set b (.gro sz (rowsC gr (xs.take (i+1)++xs.drop i)))):=by
 subst hdn; subst hsn
 intro X w0 E0 w E l' Kf h0 hE hR hl hK
 unfold cpyT at ht
 split at ht
 rotate_left
 ·cases ht
 rename_i e ie z he
 cases ht
 obtain ⟨hu,hie,_⟩:=elemOf_ok he
 obtain ⟨vd',h1,h2⟩:=lv_ev hl hx
 obtain ⟨vs',h3,h4⟩:=lv_ev hl hy
 obtain ⟨d,op,ty,pos,af,gg⟩:=o
 simp only at ho
 subst ho
 have hmin:min (n+1-i) (n-i)=n-i:=by omega
 have hlen:=rowsC_length h xs
 rw [hn] at hlen
 obtain ⟨_,r,hr,⟨a1,c1,rfl,hcase⟩ | ⟨hz0,_⟩⟩:=h2
 rotate_left
 ·omega
 rcases hcase with ⟨rfl,rfl⟩ | ⟨hz0,_⟩
 rotate_left
 ·omega
 obtain ⟨_,q,hq,⟨a2,c2,rfl,hcase⟩ | ⟨hz0,_⟩⟩:=h4
 rotate_left
 ·omega
 rcases hcase with ⟨rfl,rfl⟩ | ⟨hz0,_⟩
 rotate_left
 ·omega
 have hq:E[b]?=some q:=hq
 have hr:E[b]?=some r:=hr
 rw [hr] at hq; cases hq
 have e1:i*ie.size+(n-i)*ie.size=n*ie.size:=by rw [← Nat.add_mul]; congr 1; omega
 have e2:(i+1)*ie.size=i*ie.size+ie.size:=by rw [Nat.add_mul,Nat.one_mul]
 have hpos:0<(n-i)*ie.size:=Nat.mul_pos (by omega) hz
 have hmv:((rowsC gr xs++zs).drop (i*ie.size)).take ((n-i)*ie.size)=rowsC gr (xs.drop i):=by
  rw [List.drop_append_of_le_length (by omega),List.take_append_of_le_length (by rw [List.length_drop]; omega),rowsC_drop h,List.take_of_length_le]
  rw [rowsC_length h,List.length_drop,hn]; omega
 have hml:(rowsC gr (xs.drop i)).length=(n-i)*ie.size:=by rw [rowsC_length h,List.length_drop,hn]
 have hst:=rowsC_still h (xs.drop i)
 obtain ⟨cs,hB,hcl,hR'⟩:=hR.putg (o:=(i+1)*ie.size) (us:=rowsC gr (xs.drop i)) hb hr hst (by rw [hml,List.length_append,hlen,hzl]; omega) (by rw [hml]; exact hpos)
 rcases hR.blk b _ r hb hr with ⟨hne,_⟩ | ⟨_,_,cs',hB',hcs,hroom⟩
 ·have:=congrArg List.length hne; rw [List.length_append,hzl] at this; simp at this; omega
 obtain rfl:=hB.eq hB'
 have hrd:(cs.drop (i*ie.size+r.2.1)).take ((n-i)*ie.size)=rowsC gr (xs.drop i):=by
  rw [← hmv,← hcs,List.length_append,hlen,hzl,List.drop_take,List.drop_drop,List.take_take,Nat.min_eq_left (by omega),Nat.add_comm]
 refine copy_any (ty:=ty) hu hie h1 h3 (fun hm=>by omega) (fun hp=>?_)
 rw [hmin]
 refine ⟨_,_,_,_,cs,cs,rfl,rfl,hB,hB,by rw [hml] at hcl; exact hcl,?_,?_,?_⟩
 ·have h9:i*ie.size+r.2.1+(n-i)*ie.size≤cs.length:=by rw [hml] at hcl; omega
  exact h9
 ·rw [hrd]; exact fun u hu=>(SR.still (E:=E) (List.all_eq_true.1 hst u hu)).one.1
 ·rw [hrd]
  refine hK _ E _ _ _ ⟨rfl,rfl⟩ (Ext.refl E) ?_ rfl
  have e3:splice (rowsC gr xs++zs) ((i+1)*ie.size) (rowsC gr (xs.drop i))=rowsC gr (xs.take (i+1)++xs.drop i):=by
   have hle1:(i+1)*ie.size≤n*ie.size:=Nat.mul_le_mul_right _ hi
   rw [splice,rowsC_append,List.take_append_of_le_length (by omega),rowsC_take h,hml]
   have e4:List.drop ((i+1)*ie.size+(n-i)*ie.size) (rowsC gr xs++zs)=[]:=List.drop_of_length_le (by rw [List.length_append,hlen,hzl]; omega)
   rw [e4,List.append_nil]
  rw [e3] at hR'
  exact hR'
theorem EW.ovl {o:Oper} {x y:Operand} {f:FuncId} {tS tR e:TypeId} {ts:Array TypeId} {bx b i n c m mc:Nat} {us vs:List Value} (ho:o.op=.call ⟨.value (.func f),⟨[x,y]⟩,ts⟩)
  (hf:∀ (args:Array Value) (w:World),(callFunc f args).run P w=((Extern.SlicesOverlaps.overlaps #[tS,tS] #[tR] args).run P w).andThen fun v w'=>.ok (.value v) w') (hu:P.underlying tS=some (.slice e)) (hi:(P.info? e).isSome=true)
  (hx:lv l x=some (.slice (some ⟨bx,0,none⟩) m mc)) (hy:lv l y=some (.slice (some ⟨b,i,none⟩) n c)) (hbx:L[bx]?=some (.cells 0 us)) (hb:L[b]?=some (.gro sz vs)) (hm:0<m) (hn:0<n) (hv:vs≠[]) (hne:bx≠b) :
  EW P n0 L l (.raw o) (fun v K=>v=.bool false∧K=L):=by
 intro X w0 E0 w E l' Kf h0 hE hR hl hK
 obtain ⟨vd',h1,h2⟩:=lv_ev hl hx
 obtain ⟨vs',h3,h4⟩:=lv_ev hl hy
 obtain ⟨d,op,ty,pos,af,gg⟩:=o
 simp only at ho
 subst ho
 obtain ⟨_,r,hr,⟨a1,c1,rfl,hcase⟩ | ⟨hz0,_⟩⟩:=h2
 rotate_left
 ·omega
 rcases hcase with ⟨rfl,rfl⟩ | ⟨hz0,_⟩
 rotate_left
 ·omega
 obtain ⟨_,q,hq,⟨a2,c2,rfl,hcase⟩ | ⟨hz0,_⟩⟩:=h4
 rotate_left
 ·omega
 rcases hcase with ⟨rfl,rfl⟩ | ⟨hz0,_⟩
 rotate_left
 ·omega
 have hr:E[bx]?=some r:=hr
 have hq:E[b]?=some q:=hq
 obtain ⟨cs,hB,_,_,_⟩:=hR.blk bx _ r hbx hr
 rcases hR.blk b _ q hb hq with ⟨hne2,_⟩ | ⟨_,_,cs2,hB2,hcs2,_⟩
 ·exact absurd hne2 hv
 have hblk:r.1≠q.1:=fun e=>hne (hR.inj bx b _ _ r q r.1 hbx hb hr hq rfl (by rw [gro_foot hv]; exact e))
 have hk2:cs2.length≠0:=by
  intro e0
  have:cs2=[]:=List.length_eq_zero_iff.1 e0
  subst this; simp at hcs2; exact hv hcs2
 intro ρ w1 ha hsim
 obtain ⟨t1,ht1⟩:=hB.sim hsim
 obtain ⟨t2,ht2⟩:=hB2.sim hsim
 have hs1:w1.shape? r.1=some (t1,cs.length):=by simp [World.shape?,ht1]
 have hs2:w1.shape? q.1=some (t2,cs2.length):=by simp [World.shape?,ht2]
 obtain ⟨ie,hie⟩:=Option.isSome_iff_exists.1 hi
 have hrun:=Lib.run_overlaps_apart (P:=P) w1 tS tR e hu ie.size (fun w=>sizeOf_run hie) ⟨r.1,0+r.2.1,none⟩ ⟨q.1,i+q.2.1,none⟩ m (mc+r.2.2) n (c+q.2.2) hblk t1 t2 cs.length cs2.length hs1 hs2 hk2 ((hB.sim hsim).frozen _) ((hB.sim hsim).frozen _)
 refine Eff.value (v:=.bool false) (w':=w1) ?_ ⟨w,hsim,hK _ E _ _ _ ⟨rfl,rfl⟩ (Ext.refl E) hR rfl⟩
 show (execOp ρ ⟨d,.call ⟨.value (.func f),#[x,y],ts⟩,ty,pos,af,gg⟩).run P w1=_
 have hfv:ρ (.func f)=.func (.func f) #[] #[]:=ha (.func f) _ rfl
 simp [execOp,resolve,invoke,ha x _ h1,ha y _ h3,hfv,Deferred.ofValue,hf]
 simp at hrun
 rw [hrun]
 rfl
theorem S_slc3 {b n c k lo' hi' mx':Nat} {k1 k2 k3:IntKind} {o:Oper} {x lo hi mx:Operand} {sT e:TypeId} {d:Option Nat} {g0:Option (Nat × Bool)} {rd:Bool} {r:List Step} (ho:o.op=.slice sT x (some lo) (some hi) (some mx)) (hu:P.underlying sT=some (.slice e)) (hie:(P.info? e).isSome=true) (hg:gw g0 l=some true)
  (hx:lv l x=some (.slice (some ⟨b,0,none⟩) n c)) (h1:lv l lo=some (.int k1 (lo':Int))) (h2:lv l hi=some (.int k2 (hi':Int))) (h3:lv l mx=some (.int k3 (mx':Int))) (h4:lo'≤hi') (h5:hi'≤mx') (h6:mx'≤c) (hc:0<c)
  (hN:LSt P n0 r K (dpush d (.slice (some ⟨L.length,0,none⟩) (hi'-lo') (mx'-lo')) l) (bif rd then (k,.raw o,l,.slice (some ⟨L.length,0,none⟩) (hi'-lo') (mx'-lo'))::T else T) (L++[.dead])) :
  LSt P n0 (.q k d g0 (.raw o) rd::r) K l T L:=by
 refine ⟨fun X w0 E0 w E l' F h0 hE hR hl hT=>?_⟩
 simp only [stepsWp]
 refine gw_ok hl hg (fun _=>?_) (fun e=>by cases e)
 obtain ⟨v',g1,g2⟩:=lv_ev hl hx
 obtain ⟨_,q,hq,⟨a',c',rfl,⟨rfl,rfl⟩ | ⟨_,hc0,_⟩⟩ | ⟨_,hc0,_⟩⟩:=g2
 rotate_left
 ·omega
 ·omega
 obtain ⟨_,e1,rfl⟩:=lv_ev hl h1
 obtain ⟨_,e2,rfl⟩:=lv_ev hl h2
 obtain ⟨_,e3,rfl⟩:=lv_ev hl h3
 obtain ⟨ie,hie⟩:=Option.isSome_iff_exists.1 hie
 have hy:∃ o',(QOp.raw o).Y P l' (.slice (some ⟨q.1,o',none⟩) (hi'-lo') (mx'-lo')) w:=by
  refine ⟨if mx'=lo' then 0+q.2.1 else 0+q.2.1+lo'*ie.size,fun ρ w1 ha hs=>?_⟩
  obtain ⟨d',op,ty,pos,af,gg⟩:=o
  simp only at ho
  subst ho
  have b3:(Instr.sliceBound (.int k3 (mx':Int)) (c+q.2.2) .slice3Acap).run P w1=.ok mx' w1:=by
   simp [Instr.sliceBound,asIntOf,show (mx':Int)≤(c:Int)+(q.2.2:Int) by omega]
  have b2:(Instr.sliceBound (.int k2 (hi':Int)) mx' .slice3B).run P w1=.ok hi' w1:=by
   simp [Instr.sliceBound,asIntOf,show (hi':Int)≤(mx':Int) by omega]
  have b1:(Instr.sliceBound (.int k1 (lo':Int)) hi' .slice3C).run P w1=.ok lo' w1:=by
   simp [Instr.sliceBound,asIntOf,show (lo':Int)≤(hi':Int) by omega]
  have hb:(Instr.sliceBounds true n (c+q.2.2) (some (.int k1 (lo':Int))) (some (.int k2 (hi':Int))) (some (.int k3 (mx':Int)))).run P w1=.ok (lo',hi',mx') w1:=by
   simp [Instr.sliceBounds,b1,b2,b3]
  have hsl:(Instr.slice sT (.slice (some ⟨q.1,0+q.2.1,none⟩) n (c+q.2.2)) (some (.int k1 (lo':Int))) (some (.int k2 (hi':Int))) (some (.int k3 (mx':Int)))).run P w1=.ok (.slice (some ⟨q.1,if mx'=lo' then 0+q.2.1 else 0+q.2.1+lo'*ie.size,none⟩) (hi'-lo') (mx'-lo')) w1:=by
   simp only [Instr.slice,Sem.run_bind,run_underlying hu,Result.andThen_ok,hb,sizeOf_run hie,Sem.run_pure]
   by_cases e:mx'=lo'
   ·simp [e]
   ·simp [e,add_none]
  show (execOp ρ ⟨d',.slice sT x (some lo) (some hi) (some mx),ty,pos,af,gg⟩).run P w1=_
  simp only [execOp,Instr.sliceAt,Sem.run_bind,run_underlying hu,Result.andThen_ok,Option.map_some,ha x _ g1,ha lo _ e1,ha hi _ e2,ha mx _ e3]
  rw [hsl]
  rfl
 obtain ⟨o',hy⟩:=hy
 refine ⟨_,hy,?_⟩
 have hlast:(E++[(q.1,o',0)])[L.length]?=some (q.1,o',0):=by rw [← hR.len]; simp
 have hv:VR (E++[(q.1,o',0)]) (.slice (some ⟨L.length,0,none⟩) (hi'-lo') (mx'-lo')) (.slice (some ⟨q.1,o',none⟩) (hi'-lo') (mx'-lo')):=⟨rfl,_,hlast,.inl ⟨_,_,rfl,.inl ⟨by simp,by simp⟩⟩⟩
 have hR':Rep X w0 (E++[(q.1,o',0)]) (L++[.dead]) w:=hR.push (x:=.dead) (Fr.refl _ _) (fun _ h=>h.elim) trivial
 have hX:=Ext.push E (q.1,o',0)
 cases rd
 ·exact hN.go X w0 E0 w _ _ _ h0 (hE.trans hX) hR' ((hl.ext hX).dpush hv d) (hT.ext hX)
 ·exact hN.go X w0 E0 w _ _ _ h0 (hE.trans hX) hR' ((hl.ext hX).dpush hv d) ⟨rfl,⟨l',_,rfl,hl.ext hX,hv⟩,hT.ext hX⟩
theorem EW.appInS {o:Oper} {s x:Operand} {sT xT:TypeId} {bytes b n k bx j m mc:Nat} {xs ys:List α} (h:RowOk gr sz) (ho:o.op=.call ⟨.builtin .append,⟨[s,x]⟩,⟨[sT,xT]⟩⟩) (ht:appT P sT xT=some (sz,bytes)) (hs:lv l s=some (.slice (some ⟨b,0,none⟩) k n)) (hx:lv l x=some (.slice (some ⟨bx,j*sz,none⟩) m mc))
  (hb:L[b]?=some (.gro sz (rowsC gr xs))) (hbx:L[bx]?=some (.gro sz (rowsC gr ys))) (hn:xs.length=n) (hk:k+m≤n) (hj:j+m≤ys.length) (hz0:0<sz) (hn0:0<n) (hbd:(2*(k+m)+2048)*bytes≤281474976710656) :
  EW P n0 L l (.raw o) (fun v K=>v=.slice (some ⟨b,0,none⟩) (k+m) n∧K=L.set b (.gro sz (rowsC gr (xs.take k++(ys.drop j).take m++xs.drop (k+m))))):=by
 intro X w0 E0 w E l' Kf h0 hE hR hl hK
 have hrl:(rowsC gr xs).length=n*sz:=by rw [rowsC_length h,hn]
 have hks:k*sz+m*sz≤n*sz:=by rw [← Nat.add_mul]; exact Nat.mul_le_mul_right _ hk
 have hc1:∃ cells,lslc L sz (.slice (some ⟨b,0,none⟩) k n)=some cells:=by
  cases k with
  | zero=>exact ⟨[],rfl⟩
  | succ k =>
   have hle:(k+1)*sz≤n*sz:=Nat.mul_le_mul_right _ (by omega)
   have h1:Nat.ble (0+(k+1)*sz) (rowsC gr xs).length=true:=Nat.ble_eq_true_of_le (by omega)
   have h2:(rowsC gr xs).isEmpty=false:=by
    cases hq:rowsC gr xs with
    | nil=>have:0<n*sz:=Nat.mul_pos hn0 hz0; rw [hq] at hrl; simp at hrl; omega
    | cons=>rfl
   have h3:(((rowsC gr xs).drop 0).take ((k+1)*sz)).all stillS=true:=List.all_eq_true.2 fun a ha=>List.all_eq_true.1 (rowsC_still h xs) a (List.mem_of_mem_drop (List.mem_of_mem_take ha))
   exact ⟨_,by simp only [lslc,lcells,hb,h1,h2,h3,Bool.and_self,Bool.not_false,cond_true]; rfl⟩
 have hc2:lslc L sz (.slice (some ⟨bx,j*sz,none⟩) m mc)=some (rowsC gr ((ys.drop j).take m)):=lslc_rows h hbx rfl hj hz0
 have hst2:=rowsC_still h ((ys.drop j).take m)
 have hml:((ys.drop j).take m).length=m:=by rw [List.length_take,List.length_drop]; omega
 have hul:(rowsC gr ((ys.drop j).take m)).length=m*sz:=by rw [rowsC_length h,hml]
 obtain ⟨cells,hc1⟩:=hc1
 obtain ⟨vs',h1,hsr⟩:=lv_ev hl hs
 obtain ⟨vx',h3,hxr⟩:=lv_ev hl hx
 obtain ⟨us,hrd1,hl1⟩:=lslc_ok hR (hsr.sr rfl) hc1
 obtain ⟨us2,hrd2,hl2⟩:=lslc_ok hR (hxr.sr rfl) hc2
 obtain rfl:us2=rowsC gr ((ys.drop j).take m):=L2.eq_still hst2 hl2
 have hlen1:us.length=k*sz:=hrd1.1
 unfold appT at ht
 split at ht
 rotate_left
 ·cases ht
 rename_i e i z he
 cases hc:(isSl P xT && Nat.beq z.cells.toList.length i.size && z.cells.toList.all one && Nat.blt 0 i.bytes && Nat.blt 0 i.size)
 ·rw [hc] at ht; cases ht
 rw [hc] at ht
 cases ht
 simp only [Bool.and_eq_true] at hc
 obtain ⟨hu,hi,hz⟩:=elemOf_ok he
 have he':ElemT P sT e i.size i.bytes:=⟨hu,i,z,hi,rfl,rfl,hz,by simpa using Nat.eq_of_beq_eq_true hc.1.1.1.2,fun u hu=>List.all_eq_true.1 hc.1.1.2 u hu⟩
 obtain ⟨d,op,ty,pos,af,g'⟩:=o
 simp only at ho
 subst ho
 obtain ⟨_,r,hr,⟨a',c',rfl,⟨rfl,rfl⟩ | ⟨_,hc0,_⟩⟩ | ⟨_,hc0,_⟩⟩:=hsr.sr rfl
 rotate_left
 ·omega
 ·omega
 have hr:E[b]?=some r:=hr
 refine append_any he' (isSl_ok hc.1.1.1.1) h1 h3 hrd1 hrd2 hbd (Nat.le_of_ble_eq_true hc.1.2) (fun hle' a2 ha=>?_) (fun _ ha=>by cases ha) (fun hlt' c'' zs hc'' hlz=>by omega)
 cases ha
 rcases Nat.eq_zero_or_pos m with hm0 | hm0
 ·subst hm0
  refine .inl ⟨by simp [rowsC],?_⟩
  refine hK w E _ _ _ ⟨rfl,rfl⟩ (Ext.refl E) ?_ ⟨rfl,r,hr,.inl ⟨_,_,rfl,.inl ⟨rfl,rfl⟩⟩⟩
  have e:xs.take k++(ys.drop j).take 0++xs.drop (k+0)=xs:=by simp
  rw [e,set_self hb]
  exact hR
 ·have hp:0<m*i.size:=Nat.mul_pos hm0 hz0
  obtain ⟨cs,hB,hcl,hR'⟩:=hR.putg (o:=k*i.size) (us:=rowsC gr ((ys.drop j).take m)) hb hr hst2 (by rw [hul,hrl]; exact hks) (by rw [hul]; exact hp)
  have e:=rowsC_splice h (xs:=xs) (ys:=(ys.drop j).take m) (k:=k)
  rw [e,hml] at hR'
  refine .inr ⟨_,_,cs,rfl,hB,by rw [hul] at hcl ⊢; show 0+r.2.1+k*i.size+m*i.size≤_; omega,?_⟩
  have e9:(⟨r.1,0+r.2.1+k*i.size,none⟩:Addr)=⟨r.1,k*i.size+r.2.1,none⟩:=by congr 1; omega
  refine hK _ E _ _ _ ⟨rfl,rfl⟩ (Ext.refl E) ?_ ⟨rfl,r,hr,.inl ⟨_,_,rfl,.inl ⟨rfl,rfl⟩⟩⟩
  show Rep X w0 E _ (putCells w ⟨r.1,0+r.2.1+k*i.size,none⟩ 0 _)
  rw [e9]; exact hR'
theorem EWd.new {t:TypeId} {zero:List Value} (hz:zero.all stillS=true):EWd P n0 [] [] L l (.new t zero) (fun v K=>v=.pointer (some ⟨L.length,0,none⟩)∧K=L++[.cells 0 zero]):=by
 intro X w0 E0 w E l' Kf h0 hE hR hl hK
 refine hK _ _ _ _ _ ⟨rfl,rfl⟩ (fun k r _ hk=>Ext.push E _ k r hk) (fun k x r b _ hx hr hb=>?_) (new_rep hR (cs:=zero.toArray) (by simpa using L2.self fun a ha=>SR.still (List.all_eq_true.1 hz a ha))) ⟨_,rfl,rfl,_,hR.last _,by simp⟩
 have:=(hR.rng k x r hx hr b hb).2
 show (w.heap.push _)[b]?=_
 rw [Array.getElem?_push,if_neg (by omega)]
theorem VR.nilA {E:Emb} {N j:Nat} {cs:List Value} {v':Value} {r:Nat × Nat × Nat} (hv:VR E (.agg ⟨cs⟩) v') (hj:cs[j]?=some (.slice none 0 0)) (hr:E[N]?=some r):VR E (.agg ⟨cs.set j (.slice (some ⟨N,0,none⟩) 0 0)⟩) v':=by
 obtain ⟨cs',rfl,h⟩:=hv
 refine ⟨cs',rfl,L2.setL h fun a c ha hc=>?_⟩
 rw [hj] at ha; cases ha
 have hc:c=Value.slice none 0 0:=hc
 subst hc
 exact ⟨rfl,r,hr,.inr ⟨rfl,rfl,_,rfl⟩⟩
theorem Tr.nilV {A:Args} {keep:List Nat} {f:FuncId} {us cs:List Value} {K1:LH} (j szg:Nat) (h:TrK P A keep f us L (fun v K=>v=.agg ⟨cs⟩∧K=K1)) (hj:cs[j]?=some (.slice none 0 0)):TrK P A keep f us L (fun v K=>v=.agg ⟨cs.set j (.slice (some ⟨K1.length,0,none⟩) 0 0)⟩∧K=K1++[.gro szg []]):=by
 intro X w0 w E vs' h0 hR hv'
 obtain ⟨h1,h2⟩:=h X w0 w E vs' h0 hR hv'
 refine ⟨h1,h2.mono ?_⟩
 rintro v' w' ⟨E',v,L',hE,hle,hvr,hR',rfl,rfl⟩
 refine ⟨E'++[(0,0,0)],_,_,hE.trans (Ext.push E' _),by simp; omega,VR.nilA (hvr.ext (Ext.push E' _)) hj (r:=(0,0,0)) (by rw [← hR'.len]; simp),hR'.push (x:=.gro szg []) (Fr.refl _ _) (fun _ h=>h.elim) (.inl ⟨rfl,rfl⟩),rfl,rfl⟩
end
end Go.Tum
end
section
namespace Go.Proofs.Ythgmdlmeeebfiaa
open Go Go.Tum
set_option maxRecDepth 4000
structure Bk where
 at_:Int
 n:Int
def Bk.cells (x:Bk):List Value:=[.int .i64 x.at_,.int .i64 x.n]
theorem Bk.ok:RowOk Bk.cells 2:=⟨fun _=>rfl,fun _=>rfl⟩
abbrev slC (b k c:Nat):Value:=.slice (some ⟨b,0,none⟩) k c
def lw (ks:List Int) (t:Int):Nat:=ks.countP (fun x=>decide (x<t))
structure BsI (ks:List Int) (t:Int) (i j:Nat):Prop where
 le:i≤j
 len:j≤ks.length
 lo:∀ (a:Nat) (x:Int),ks[a]?=some x→a<i→x<t
 hi:∀ (a:Nat) (x:Int),ks[a]?=some x→j≤a→t≤x
theorem BsI.init (ks:List Int) (t:Int):BsI ks t 0 ks.length:=⟨by omega,by omega,fun _ _ _ h=>by omega,fun a x h h2=>by
 have:=(List.getElem?_eq_some_iff.1 h).1; omega⟩
theorem sorted_lt {ks:List Int} (h:ks.Pairwise (· < ·)) {a b:Nat} {x y:Int} (ha:ks[a]?=some x) (hb:ks[b]?=some y) (hab:a<b):x<y:=by
 obtain ⟨h1,rfl⟩:=List.getElem?_eq_some_iff.1 ha
 obtain ⟨h2,rfl⟩:=List.getElem?_eq_some_iff.1 hb
 exact List.pairwise_iff_getElem.1 h a b h1 h2 hab
theorem BsI.left {ks:List Int} {t x:Int} {i j h:Nat} (hs:ks.Pairwise (· < ·)) (hI:BsI ks t i j) (h1:i≤h) (h2:h<j) (hx:ks[h]?=some x) (hlt:x<t):BsI ks t (h+1) j:=by
 refine ⟨by omega,hI.len,fun a y ha hl=>?_,hI.hi⟩
 rcases Nat.lt_or_ge a h with h3 | h3
 ·have:=sorted_lt hs ha hx h3; omega
 ·obtain rfl:a=h:=by omega
  rw [ha] at hx; cases hx; exact hlt
theorem BsI.right {ks:List Int} {t x:Int} {i j h:Nat} (hs:ks.Pairwise (· < ·)) (hI:BsI ks t i j) (h1:i≤h) (h2:h<j) (hx:ks[h]?=some x) (hlt:¬ x<t):BsI ks t i h:=by
 refine ⟨h1,by have:=hI.len; omega,hI.lo,fun a y ha hl=>?_⟩
 rcases Nat.lt_or_ge h a with h3 | h3
 ·have:=sorted_lt hs hx ha h3; omega
 ·obtain rfl:a=h:=by omega
  rw [ha] at hx; cases hx; omega
theorem lw_len (ks:List Int) (t:Int):lw ks t≤ks.length:=List.countP_le_length ..
theorem BsI.done {ks:List Int} {t:Int} {i:Nat} (hI:BsI ks t i i):i=lw ks t:=by
 have e:ks=ks.take i++ks.drop i:=(List.take_append_drop i ks).symm
 have h1:(ks.take i).countP (fun x=>decide (x<t))=(ks.take i).length:=List.countP_eq_length.2 fun x hx=>by
  obtain ⟨a,ha⟩:=List.getElem?_of_mem hx
  rw [List.getElem?_take] at ha
  split at ha
  ·rename_i h; simpa using hI.lo a x ha h
  ·cases ha
 have h2:(ks.drop i).countP (fun x=>decide (x<t))=0:=List.countP_eq_zero.2 fun x hx=>by
  obtain ⟨a,ha⟩:=List.getElem?_of_mem hx
  rw [List.getElem?_drop] at ha
  have:=hI.hi _ x ha (by omega)
  simp; omega
 have hl:=hI.len
 rw [lw,e,List.countP_append,h1,h2,List.length_take]
 omega
theorem mem_at {ks:List Int} (hs:ks.Pairwise (· < ·)) {t:Int}:t∈ks↔ks[lw ks t]?=some t:=by
 constructor
 ·intro h
  obtain ⟨a,ha⟩:=List.getElem?_of_mem h
  have hl:=(List.getElem?_eq_some_iff.1 ha).1
  have hI:BsI ks t a a:=⟨by omega,by omega,fun b x hb hlt=>sorted_lt hs hb ha hlt,fun b x hb hle=>by
   rcases Nat.lt_or_ge a b with h3 | h3
   ·have:=sorted_lt hs ha hb h3; omega
   ·obtain rfl:a=b:=by omega
    rw [ha] at hb; cases hb; omega⟩
  rw [← hI.done]; exact ha
 ·exact fun h=>List.mem_of_getElem? h
def cmpI (a b:Int):Int:=if a<b then -1 else if a > b then 1 else 0
theorem isNaN_tr (a:Int):Tr Try.prog 72 [.int .i64 a] [] (fun v K=>v=.bool false∧K=[]):=by
 have h:Tr Try.prog 72 [.int .i64 a] [] (fun v K=>v=.bool (a != a)∧K=[]):=by
  refine Tr.of row_cmp_isNaN_int__ok rfl ?_
  repeat' (first|refine qN ?_|refine dN ?_|refine dR ?_|refine d0 ?_|refine rT ?_|refine aI (hn:=?_)|refine qR ?_|refine qS ?_|exact ⟨rfl,rfl⟩|fail)
 simpa using h
theorem isNaNs_tr (a:Int):Tr Try.prog 59 [.int .i64 a] [] (fun v K=>v=.bool false∧K=[]):=by
 have h:Tr Try.prog 59 [.int .i64 a] [] (fun v K=>v=.bool (a != a)∧K=[]):=by
  refine Tr.of row_slices_isNaN_int__ok rfl ?_
  repeat' (first|refine qN ?_|refine dN ?_|refine dR ?_|refine d0 ?_|refine rT ?_|refine aI (hn:=?_)|refine qR ?_|refine qS ?_|exact ⟨rfl,rfl⟩|fail)
 simpa using h
theorem cmpC_tr (a b:Int):Tr Try.prog 55 [.int .i64 a,.int .i64 b] [] (fun v K=>v=.int .i64 (cmpI a b)∧K=[]):=by
 have h1:=isNaN_tr a
 have h2:=isNaN_tr b
 refine Tr.of row_cmp_Compare_int__ok rfl ?_
 repeat' (first|refine qN ?_|refine dN ?_|refine dR ?_|refine d0 ?_|refine rT ?_|refine qT ?_|refine qU ?_|refine qL ?_|refine qK ?_|refine iF (fun h=>?_) (fun h=>?_)|refine cP [] (h1) ?_|refine cP [] (h2) ?_|refine aI (hn:=?_)|refine qR ?_|refine qS ?_|exact ⟨rfl,rfl⟩|fail)
 all_goals (refine ⟨congrArg (Value.int _) ?_,rfl⟩; unfold cmpI; repeat' split) <;> first | rfl | omega
theorem cmpL_tr (a b:Int):Tr Try.prog 58 [.int .i64 a,.int .i64 b] [] (fun v K=>v=.bool (decide (a<b))∧K=[]):=by
 have h1:=isNaN_tr a
 have h2:=isNaN_tr b
 refine Tr.of row_cmp_Less_int__ok rfl ?_
 repeat' (first|refine qN ?_|refine dN ?_|refine dR ?_|refine d0 ?_|refine rT ?_|refine cP [] (h1) ?_|refine cP [] (h2) ?_|refine aI (hn:=?_)|refine sP 7 (fun h=>?_) (fun h=>?_)|refine sP 12 (fun h=>?_) (fun h=>?_)|refine qR ?_|refine qS ?_|exact ⟨rfl,rfl⟩|fail)
theorem order_tr (x y:Bk):Tr Try.prog 57 [.agg ⟨x.cells⟩,.agg ⟨y.cells⟩] [] (fun v K=>v=.int .i64 (cmpI x.at_ y.at_)∧K=[]):=by
 have h1:=cmpC_tr x.at_ y.at_
 refine Tr.of row_spec_block_order_ok rfl ?_
 repeat' (first|refine qN ?_|refine dN ?_|refine dR ?_|refine d0 ?_|refine rT ?_|refine cP [] (h1) ?_|refine aI (hn:=?_)|refine qR ?_|refine qS ?_|exact ⟨rfl,rfl⟩|fail)
theorem mid_u (s:Nat) (hs:s≤9223372036854775807):IntKind.u64.wrap (s:Int)=(s:Int):=by rw [wrap_u64,BitVec.ofInt_natCast,BitVec.toNat_ofNat]; omega
theorem half_u (s:Nat):ishift false .u64 (s:Int) 1=((s / 2:Nat):Int):=by
 show Int.fdiv (s:Int) 2=_
 rw [Int.fdiv_eq_ediv_of_nonneg _ (by decide)]
 omega
theorem keys_take {xs:List Bk} {k h:Nat} {x:Bk} (hx:xs[h]?=some x) (hk:h<k):((xs.take k).map Bk.at_)[h]?=some x.at_:=by simp [hk,hx]
set_option maxHeartbeats 1000000 in
theorem bsF_tr (xs:List Bk) (k c:Nat) (hk:k≤xs.length) (hb:xs.length≤65536) (t:Bk) (hs:((xs.take k).map Bk.at_).Pairwise (· < ·)) :
  Tr Try.prog 56 [slC 0 k c,.agg ⟨t.cells⟩,.func (.func 57) ⟨[]⟩ ⟨[]⟩] [.gro 2 (rowsC Bk.cells xs)]
   (fun v K=>v=.tuple ⟨[.int .i64 (lw ((xs.take k).map Bk.at_) t.at_),.bool (decide (t.at_∈(xs.take k).map Bk.at_))]⟩∧K=[.gro 2 (rowsC Bk.cells xs)]):=by
 refine Tr.of row_slices_BinarySearchFunc_spec_block_spec_block_spec_block__ok rfl ?_
 have hlen:((xs.take k).map Bk.at_).length=k:=by simp; omega
 have hI0:=BsI.init ((xs.take k).map Bk.at_) t.at_
 rw [hlen] at hI0
 repeat' (first|refine qN ?_|refine dN ?_|refine dR ?_|refine d0 ?_|refine qB ?_|refine rT ?_|refine qT ?_|refine qU ?_|refine qL ?_|refine qK ?_|refine qF ?_|refine qE ?_|refine iF (fun h=>?_) (fun h=>?_)|refine aX ?_|refine aA ?_|refine aI (hn:=?_)|refine sP 39 (fun h=>?_) (fun h=>?_)|refine qR ?_|refine qS ?_|exact ⟨rfl,rfl⟩|fail)
 refine LWp.pick [0,2,4,8,9,10] [0,1] rfl rfl rfl (L_loop (fun q l L=>∃ i j:Nat,q=j-i∧BsI ((xs.take k).map Bk.at_) t.at_ i j∧j≤k∧l=[(0,slC 0 k c),(2,.func (.func 57) ⟨[]⟩ ⟨[]⟩),(4,.pointer (some ⟨1,0,none⟩)),(8,.int .i64 k),(9,.int .i64 i),(10,.int .i64 j)]∧L=[.gro 2 (rowsC Bk.cells xs),.cells 0 t.cells]) k ⟨0,k,rfl,hI0,Nat.le_refl _,rfl,rfl⟩ ?_)
 clear hI0
 rintro q _ _ ⟨i,j,rfl,hI,hjk,rfl,rfl⟩
 first|refine L_seq (L_rs (S_done [] rfl (Nx.goL (iF (fun h=>L_skip (Nx.goL ?_)) (fun h=>L_exit ?_)))))|refine L_rs (S_done [] rfl (Nx.goL (L_seq (iF (fun h=>L_skip (Nx.goL ?_)) (fun h=>L_exit ?_)))))
 ·have hij:i<j:=by omega
  obtain ⟨m,hm⟩:∃ m,m=(i+j) / 2:=⟨_,rfl⟩
  have hm1:i≤m:=by omega
  have hm2:m<j:=by omega
  obtain ⟨x,hx⟩:∃ x,xs[m]?=some x:=⟨_,List.getElem?_eq_getElem (by omega)⟩
  have hc:=order_tr x t
  have hkx:=keys_take hx (by omega:m<k)
  repeat' (first|refine qN ?_|refine dN ?_|refine dR ?_|refine d0 ?_|refine qB ?_|refine rT ?_|refine qT ?_|refine qU ?_|refine qL ?_|refine qK ?_|refine qF ?_|refine qE ?_|refine iF (fun h=>?_) (fun h=>?_)|refine aX ?_|refine S_Q [] rfl rfl (QY.add (c:=((i+j:Nat):Int)) rfl rfl (by omega) (by omega) (by omega)) ?_|refine S_Q [] rfl rfl (QY.cvi rfl (mid_u (i+j) (by omega))) ?_|refine S_Q [] rfl rfl (QY.shift (c:=(m:Int)) rfl rfl (by decide) (by subst hm; exact half_u _)) ?_|refine S_Q [] rfl rfl (QY.cvi rfl (wrap64_id (n:=(m:Int)) (by omega) (by omega))) ?_|refine S_Q [] rfl rfl (QY.ldRow Bk.ok rfl rfl hx (by decide)) ?_|(refine cV [] hc ?_; conv=>whnf)|refine aA ?_|refine aI (hn:=?_)|refine sP 39 (fun h=>?_) (fun h=>?_)|refine qR ?_|refine qS ?_|exact ⟨rfl,rfl⟩|fail)
  ·have hlt:x.at_<t.at_:=by unfold cmpI at h; split at h <;> omega
   exact Nx.pick [0,2,4,8,9,10] [0,1] rfl rfl rfl ⟨j-(m+1),by omega,m+1,j,rfl,hI.left hs hm1 hm2 hkx hlt,hjk,rfl,rfl⟩
  ·have hlt:¬ x.at_<t.at_:=by intro h2; apply h; unfold cmpI; rw [if_pos h2]; decide
   exact Nx.pick [0,2,4,8,9,10] [0,1] rfl rfl rfl ⟨m-i,by omega,i,m,rfl,hI.right hs hm1 hm2 hkx hlt,by omega,rfl,rfl⟩
 ·refine Nx.goL ?_
  have hle:=hI.le
  obtain rfl:i=j:=by omega
  have hd:=hI.done
  have hmem:=mem_at hs (t:=t.at_)
  rw [← hd] at hmem ⊢
  clear hd
  rcases Nat.lt_or_ge i k with hik | hik
  ·obtain ⟨x,hx⟩:∃ x,xs[i]?=some x:=⟨_,List.getElem?_eq_getElem (by omega)⟩
   have hc:=order_tr x t
   have hkx:=keys_take hx hik
   have hdec:decide (t.at_∈(xs.take k).map Bk.at_)=(cmpI x.at_ t.at_ == 0):=by
    rw [Bool.eq_iff_iff,decide_eq_true_eq,hmem,hkx]
    simp only [Option.some.injEq,beq_iff_eq,cmpI]
    constructor
    ·intro e; rw [if_neg (by omega),if_neg (by omega)]
    ·intro h; split at h <;> (try split at h) <;> omega
   rw [hdec]
   repeat' (first|refine qN ?_|refine dN ?_|refine dR ?_|refine d0 ?_|refine qB ?_|refine rT ?_|refine qT ?_|refine qU ?_|refine qL ?_|refine qK ?_|refine qF ?_|refine qE ?_|refine iF (fun h=>?_) (fun h=>?_)|refine aX ?_|refine S_Q [] rfl rfl (QY.ldRow Bk.ok rfl rfl hx (by decide)) ?_|(refine cV [] hc ?_; conv=>whnf)|refine aA ?_|refine aI (hn:=?_)|refine sP 39 (fun h=>?_) (fun h=>?_)|refine qR ?_|refine qS ?_|exact ⟨rfl,rfl⟩|fail)
   all_goals first | (exfalso; omega)|exact ⟨rfl,rfl⟩
  ·have hdec:decide (t.at_∈(xs.take k).map Bk.at_)=false:=by
    rw [decide_eq_false_iff_not,hmem,List.getElem?_eq_none (by omega)]
    simp
   rw [hdec]
   repeat' (first|refine qN ?_|refine dN ?_|refine dR ?_|refine d0 ?_|refine qB ?_|refine rT ?_|refine qT ?_|refine qU ?_|refine qL ?_|refine qK ?_|refine qF ?_|refine qE ?_|refine iF (fun h=>?_) (fun h=>?_)|refine aX ?_|refine aA ?_|refine aI (hn:=?_)|refine sP 39 (fun h=>?_) (fun h=>?_)|refine qR ?_|refine qS ?_|exact ⟨rfl,rfl⟩|fail)
   all_goals first | (exfalso; omega)|exact ⟨rfl,rfl⟩
set_option maxHeartbeats 1000000 in
theorem bsI_tr (xs:List Int) (k c:Nat) (hk:k≤xs.length) (hb:xs.length≤65536) (t:Int) (hs:(xs.take k).Pairwise (· < ·)) :
  Tr Try.prog 40 [slC 0 k c,.int .i64 t] [.gro 1 (rowsC intC xs)]
   (fun v K=>v=.tuple ⟨[.int .i64 (lw (xs.take k) t),.bool (decide (t∈xs.take k))]⟩∧K=[.gro 1 (rowsC intC xs)]):=by
 refine Tr.of row_slices_BinarySearch_int_int__ok rfl ?_
 have hlen:(xs.take k).length=k:=by simp; omega
 have hI0:=BsI.init (xs.take k) t
 rw [hlen] at hI0
 have hNt:=isNaNs_tr t
 repeat' (first|refine qN ?_|refine dN ?_|refine dR ?_|refine d0 ?_|refine qB ?_|refine rT ?_|refine qT ?_|refine qU ?_|refine qL ?_|refine qK ?_|refine qF ?_|refine qE ?_|refine iF (fun h=>?_) (fun h=>?_)|refine aX ?_|refine aA ?_|refine aI (hn:=?_)|refine sP 35 (fun h=>?_) (fun h=>?_)|refine sP 42 (fun h=>?_) (fun h=>?_)|refine sP 48 (fun h=>?_) (fun h=>?_)|refine qR ?_|refine qS ?_|exact ⟨rfl,rfl⟩|fail)
 refine LWp.pick [0,1,6,7,8] [0] rfl rfl rfl (L_loop (fun q l L=>∃ i j:Nat,q=j-i∧BsI (xs.take k) t i j∧j≤k∧l=[(0,slC 0 k c),(1,.int .i64 t),(6,.int .i64 k),(7,.int .i64 i),(8,.int .i64 j)]∧L=[.gro 1 (rowsC intC xs)]) k ⟨0,k,rfl,hI0,Nat.le_refl _,rfl,rfl⟩ ?_)
 clear hI0
 rintro q _ _ ⟨i,j,rfl,hI,hjk,rfl,rfl⟩
 first|refine L_seq (L_rs (S_done [] rfl (Nx.goL (iF (fun h=>L_skip (Nx.goL ?_)) (fun h=>L_exit ?_)))))|refine L_rs (S_done [] rfl (Nx.goL (L_seq (iF (fun h=>L_skip (Nx.goL ?_)) (fun h=>L_exit ?_)))))
 ·have hij:i<j:=by omega
  obtain ⟨m,hm⟩:∃ m,m=(i+j) / 2:=⟨_,rfl⟩
  have hm1:i≤m:=by omega
  have hm2:m<j:=by omega
  obtain ⟨x,hx⟩:∃ x,xs[m]?=some x:=⟨_,List.getElem?_eq_getElem (by omega)⟩
  have hc:=cmpL_tr x t
  have hkx:(xs.take k)[m]?=some x:=by simp [hx,show m<k by omega]
  repeat' (first|refine qN ?_|refine dN ?_|refine dR ?_|refine d0 ?_|refine qB ?_|refine rT ?_|refine qT ?_|refine qU ?_|refine qL ?_|refine qK ?_|refine qF ?_|refine qE ?_|refine iF (fun h=>?_) (fun h=>?_)|refine aX ?_|refine S_Q [] rfl rfl (QY.add (c:=((i+j:Nat):Int)) rfl rfl (by omega) (by omega) (by omega)) ?_|refine S_Q [] rfl rfl (QY.cvi rfl (mid_u (i+j) (by omega))) ?_|refine S_Q [] rfl rfl (QY.shift (c:=(m:Int)) rfl rfl (by decide) (by subst hm; exact half_u _)) ?_|refine S_Q [] rfl rfl (QY.cvi rfl (wrap64_id (n:=(m:Int)) (by omega) (by omega))) ?_|refine S_Q [] rfl rfl (QY.ldI rfl rfl hx) ?_|refine cP [] (hc) ?_|refine aA ?_|refine aI (hn:=?_)|refine sP 35 (fun h=>?_) (fun h=>?_)|refine sP 42 (fun h=>?_) (fun h=>?_)|refine sP 48 (fun h=>?_) (fun h=>?_)|refine qR ?_|refine qS ?_|exact ⟨rfl,rfl⟩|fail)
  ·exact Nx.pick [0,1,6,7,8] [0] rfl rfl rfl ⟨j-(m+1),by omega,m+1,j,rfl,hI.left hs hm1 hm2 hkx (by simpa using h),hjk,rfl,rfl⟩
  ·exact Nx.pick [0,1,6,7,8] [0] rfl rfl rfl ⟨m-i,by omega,i,m,rfl,hI.right hs hm1 hm2 hkx (by simpa using h),by omega,rfl,rfl⟩
 ·refine Nx.goL ?_
  have hle:=hI.le
  obtain rfl:i=j:=by omega
  have hd:=hI.done
  have hmem:=mem_at hs (t:=t)
  rw [← hd] at hmem ⊢
  clear hd
  rcases Nat.lt_or_ge i k with hik | hik
  ·obtain ⟨x,hx⟩:∃ x,xs[i]?=some x:=⟨_,List.getElem?_eq_getElem (by omega)⟩
   have hNx:=isNaNs_tr x
   have hkx:(xs.take k)[i]?=some x:=by simp [hx,hik]
   have hdec:decide (t∈xs.take k)=(x == t):=by
    rw [Bool.eq_iff_iff,decide_eq_true_eq,hmem,hkx]
    simp
   rw [hdec]
   cases hxt:(x == t)
   all_goals
    repeat' (first|refine qN ?_|refine dN ?_|refine dR ?_|refine d0 ?_|refine qB ?_|refine rT ?_|refine qT ?_|refine qU ?_|refine qL ?_|refine qK ?_|refine qF ?_|refine qE ?_|refine iF (fun h=>?_) (fun h=>?_)|refine aX ?_|refine S_Q [] rfl rfl (QY.ldI rfl rfl hx) ?_|refine cP [] (hNx) ?_|refine cP [] (hNt) ?_|refine aA ?_|refine aI (hn:=?_)|refine sP 35 (fun h=>?_) (fun h=>?_)|refine sP 42 (fun h=>?_) (fun h=>?_)|refine sP 48 (fun h=>?_) (fun h=>?_)|refine qR ?_|refine qS ?_|exact ⟨rfl,rfl⟩|fail)
   all_goals first|exact ⟨rfl,rfl⟩ | (exfalso; omega) | (exfalso; simp at hxt; first | omega | simp_all)
  ·have hdec:decide (t∈xs.take k)=false:=by
    rw [decide_eq_false_iff_not,hmem,List.getElem?_eq_none (by omega)]
    simp
   rw [hdec]
   repeat' (first|refine qN ?_|refine dN ?_|refine dR ?_|refine d0 ?_|refine qB ?_|refine rT ?_|refine qT ?_|refine qU ?_|refine qL ?_|refine qK ?_|refine qF ?_|refine qE ?_|refine iF (fun h=>?_) (fun h=>?_)|refine aX ?_|refine aA ?_|refine aI (hn:=?_)|refine sP 35 (fun h=>?_) (fun h=>?_)|refine sP 42 (fun h=>?_) (fun h=>?_)|refine sP 48 (fun h=>?_) (fun h=>?_)|refine qR ?_|refine qS ?_|exact ⟨rfl,rfl⟩|fail)
   all_goals first | (exfalso; omega)|exact ⟨rfl,rfl⟩
def firstI {α:Type} (l:List α) (p:α→Bool):Int:=if l.any p then (l.findIdx p:Int) else -1
theorem firstI_at {α:Type} {l:List α} {p:α→Bool} {i:Nat} {x:α} (h:∀ y∈l.take i,p y=false) (hx:l[i]?=some x) (hp:p x=true):firstI l p=i:=by
 have hi:=(List.getElem?_eq_some_iff.1 hx).1
 have hm:x∈l:=List.mem_of_getElem? hx
 rw [firstI,if_pos (List.any_eq_true.2 ⟨x,hm,hp⟩)]
 congr 1
 rw [List.findIdx_eq hi]
 refine ⟨?_,fun j hj=>?_⟩
 ·rw [List.getElem?_eq_getElem hi] at hx; cases hx; exact hp
 ·exact h _ (List.mem_of_getElem? (i:=j) (by rw [List.getElem?_take,if_pos hj,List.getElem?_eq_getElem (by omega)]))
theorem firstI_no {α:Type} {l:List α} {p:α→Bool} (h:∀ y∈l,p y=false):firstI l p = -1:=by
 rw [firstI,if_neg]
 simp only [List.any_eq_true,not_exists,not_and]
 exact fun x hx=>by rw [h x hx]; simp
theorem firstI_ge {α:Type} (l:List α) (p:α→Bool):decide (firstI l p≥0)=l.any p:=by
 unfold firstI
 split
 ·rename_i h; rw [h]; simp
 ·rename_i h; simp [h]
theorem take_no {α:Type} {l:List α} {p:α→Bool} {i:Nat} {x:α} (h:∀ y∈l.take i,p y=false) (hx:l[i]?=some x) (hp:p x=false):∀ y∈l.take (i+1),p y=false:=by
 intro y hy
 rw [List.take_add_one,hx] at hy
 rcases List.mem_append.1 hy with hy | hy
 ·exact h y hy
 ·simp at hy; subst hy; exact hp
theorem take_some {α:Type} {l:List α} {i k:Nat} {x:α} (hx:l[i]?=some x) (hi:i<k):(l.take k)[i]?=some x:=by rw [List.getElem?_take,if_pos hi,hx]
theorem index_tr (xs:List Int) (k c:Nat) (hk:k≤xs.length) (hb:xs.length≤65536) (t:Int) :
  Tr Try.prog 75 [slC 0 k c,.int .i64 t] [.gro 1 (rowsC intC xs)] (fun v K=>v=.int .i64 (firstI (xs.take k) (t == ·))∧K=[.gro 1 (rowsC intC xs)]):=by
 refine Tr.of row_slices_Index_int_int__ok rfl ?_
 have hlen:(xs.take k).length=k:=by simp; omega
 repeat' (first|refine qN ?_|refine dN ?_|refine dR ?_|refine d0 ?_|refine qB ?_|refine rT ?_|refine qT ?_|refine qU ?_|refine qL ?_|refine qK ?_|refine qF ?_|refine qE ?_|refine iF (fun h=>?_) (fun h=>?_)|refine aX ?_|refine aA ?_|refine aI (hn:=?_)|refine qR ?_|refine qS ?_|exact ⟨rfl,rfl⟩|fail)
 refine LWp.pick [0,1,7,8] [0] rfl rfl rfl (L_loop (fun q l L=>∃ i:Nat,q=k-i∧i≤k∧(∀ x∈(xs.take k).take i,(t == x)=false)∧l=[(0,slC 0 k c),(1,.int .i64 t),(7,.int .i64 k),(8,.int .i64 i)]∧L=[.gro 1 (rowsC intC xs)]) k ⟨0,rfl,by omega,by simp,rfl,rfl⟩ ?_)
 rintro q _ _ ⟨i,rfl,hi,hn,rfl,rfl⟩
 first|refine L_seq (L_rs (S_done [] rfl (Nx.goL (iF (fun h=>L_skip (Nx.goL ?_)) (fun h=>L_exit ?_)))))|refine L_rs (S_done [] rfl (Nx.goL (L_seq (iF (fun h=>L_skip (Nx.goL ?_)) (fun h=>L_exit ?_)))))
 ·have hik:i<k:=by omega
  obtain ⟨x,hx⟩:∃ x,xs[i]?=some x:=⟨_,List.getElem?_eq_getElem (by omega)⟩
  have hx2:=take_some hx hik
  cases hxt:(t == x)
  ·repeat' (first|refine qN ?_|refine dN ?_|refine d0 ?_|refine qB ?_|refine qT ?_|refine qU ?_|refine qL ?_|refine qK ?_|refine qF ?_|refine qE ?_|refine iF (fun h=>?_) (fun h=>?_)|refine aX ?_|refine S_Q [] rfl rfl (QY.ldI rfl rfl hx) ?_|refine aA ?_|refine aI (hn:=?_)|refine qR ?_|refine qS ?_|exact ⟨rfl,rfl⟩|fail)
   ·exfalso; simp at hxt; omega
   ·exact Nx.pick [0,1,7,8] [0] rfl rfl rfl ⟨k-(i+1),by omega,i+1,rfl,by omega,take_no hn hx2 hxt,rfl,rfl⟩
  ·repeat' (first|refine qN ?_|refine dN ?_|refine d0 ?_|refine qB ?_|refine qT ?_|refine qU ?_|refine qL ?_|refine qK ?_|refine qF ?_|refine qE ?_|refine iF (fun h=>?_) (fun h=>?_)|refine aX ?_|refine S_Q [] rfl rfl (QY.ldI rfl rfl hx) ?_|refine aA ?_|refine aI (hn:=?_)|refine qR ?_|refine qS ?_|exact ⟨rfl,rfl⟩|fail)
   ·rw [firstI_at hn hx2 hxt]
    exact L_ret (RetQ.pick [0] rfl rfl rfl rfl ⟨rfl,rfl⟩)
   ·exfalso; simp at hxt; omega
 ·refine Nx.goL ?_
  obtain rfl:i=k:=by omega
  rw [firstI_no (by rwa [List.take_of_length_le (by omega)] at hn)]
  repeat' (first|refine qN ?_|refine dN ?_|refine dR ?_|refine d0 ?_|refine qB ?_|refine rT ?_|refine qT ?_|refine qU ?_|refine qL ?_|refine qK ?_|refine qF ?_|refine qE ?_|refine iF (fun h=>?_) (fun h=>?_)|refine aX ?_|refine aA ?_|refine aI (hn:=?_)|refine qR ?_|refine qS ?_|exact ⟨rfl,rfl⟩|fail)
theorem contains_tr (xs:List Int) (k c:Nat) (hk:k≤xs.length) (hb:xs.length≤65536) (t:Int) :
  Tr Try.prog 66 [slC 0 k c,.int .i64 t] [.gro 1 (rowsC intC xs)] (fun v K=>v=.bool ((xs.take k).any (t == ·))∧K=[.gro 1 (rowsC intC xs)]):=by
 have h1:=index_tr xs k c hk hb t
 rw [← firstI_ge]
 refine Tr.of row_slices_Contains_int_int__ok rfl ?_
 repeat' (first|refine qN ?_|refine dN ?_|refine dR ?_|refine d0 ?_|refine rT ?_|refine cP [0] (h1) ?_|refine aI (hn:=?_)|refine qR ?_|refine qS ?_|exact ⟨rfl,rfl⟩|fail)
def meetB (a n:Int) (x:Bk):Bool:=decide (x.at_-a<n) && decide (a-x.at_<x.n)
def Bk.In (x:Bk):Prop:=0≤x.at_∧x.at_≤65536∧0≤x.n∧x.n≤65536
theorem meetsC_tr (x:Bk) (a n:Int) (hx:x.In) (ha:0≤a∧a≤65536):Tr Try.prog 77 [.agg ⟨x.cells⟩,.pointer (some ⟨0,0,none⟩),.pointer (some ⟨1,0,none⟩)] [.cells 0 [.int .i64 a],.cells 0 [.int .i64 n]]
  (fun v K=>v=.bool (meetB a n x)∧K=[.cells 0 [.int .i64 a],.cells 0 [.int .i64 n]]):=by
 obtain ⟨h1,h2,h3,h4⟩:=hx
 refine Tr.of row_spec_State_meets_c1_ok rfl ?_
 repeat' (first|refine qN ?_|refine dN ?_|refine dR ?_|refine d0 ?_|refine rT ?_|refine aS ?_|refine aI (hn:=?_)|refine sP 11 (fun h=>?_) (fun h=>?_)|refine qR ?_|refine qS ?_|exact ⟨rfl,rfl⟩|fail)
 all_goals (refine ⟨congrArg Value.bool ?_,rfl⟩; simp [meetB,h])
abbrev mtF:Value:=.func (.func 77) ⟨[]⟩ ⟨[.pointer (some ⟨1,0,none⟩),.pointer (some ⟨2,0,none⟩)]⟩
theorem idxF_tr (xs:List Bk) (k c:Nat) (hk:k≤xs.length) (hb:xs.length≤65536) (a n:Int) (hx:∀ x∈xs,x.In) (ha:0≤a∧a≤65536) :
  Tr Try.prog 85 [slC 0 k c,mtF] [.gro 2 (rowsC Bk.cells xs),.cells 0 [.int .i64 a],.cells 0 [.int .i64 n]]
   (fun v K=>v=.int .i64 (firstI (xs.take k) (meetB a n))∧K=[.gro 2 (rowsC Bk.cells xs),.cells 0 [.int .i64 a],.cells 0 [.int .i64 n]]):=by
 refine Tr.of row_slices_IndexFunc_spec_block_spec_block__ok rfl ?_
 have hlen:(xs.take k).length=k:=by simp; omega
 repeat' (first|refine qN ?_|refine dN ?_|refine dR ?_|refine d0 ?_|refine qB ?_|refine rT ?_|refine qT ?_|refine qU ?_|refine qL ?_|refine qK ?_|refine qF ?_|refine qE ?_|refine iF (fun h=>?_) (fun h=>?_)|refine aX ?_|refine aA ?_|refine aI (hn:=?_)|refine qR ?_|refine qS ?_|exact ⟨rfl,rfl⟩|fail)
 refine LWp.pick [0,1,7,8] [0,1,2] rfl rfl rfl (L_loop (fun q l L=>∃ i:Nat,q=k-i∧i≤k∧(∀ x∈(xs.take k).take i,meetB a n x=false)∧l=[(0,slC 0 k c),(1,mtF),(7,.int .i64 k),(8,.int .i64 i)]∧L=[.gro 2 (rowsC Bk.cells xs),.cells 0 [.int .i64 a],.cells 0 [.int .i64 n]]) k ⟨0,rfl,by omega,by simp,rfl,rfl⟩ ?_)
 rintro q _ _ ⟨i,rfl,hi,hn,rfl,rfl⟩
 first|refine L_seq (L_rs (S_done [] rfl (Nx.goL (iF (fun h=>L_skip (Nx.goL ?_)) (fun h=>L_exit ?_)))))|refine L_rs (S_done [] rfl (Nx.goL (L_seq (iF (fun h=>L_skip (Nx.goL ?_)) (fun h=>L_exit ?_)))))
 ·have hik:i<k:=by omega
  obtain ⟨x,hx1⟩:∃ x,xs[i]?=some x:=⟨_,List.getElem?_eq_getElem (by omega)⟩
  have hx2:=take_some hx1 hik
  have hc:=meetsC_tr x a n (hx x (List.mem_of_getElem? hx1)) ha
  cases hxt:meetB a n x
  ·rw [hxt] at hc
   repeat' (first|refine qN ?_|refine dN ?_|refine d0 ?_|refine qB ?_|refine qT ?_|refine qU ?_|refine qL ?_|refine qK ?_|refine qF ?_|refine qE ?_|refine iF (fun h=>?_) (fun h=>?_)|refine aX ?_|refine S_Q [] rfl rfl (QY.ldRow Bk.ok rfl rfl hx1 (by decide)) ?_|(refine cV [1,2] hc ?_; conv=>whnf)|refine aA ?_|refine aI (hn:=?_)|refine qR ?_|refine qS ?_|exact ⟨rfl,rfl⟩|fail)
   exact Nx.pick [0,1,7,8] [0,1,2] rfl rfl rfl ⟨k-(i+1),by omega,i+1,rfl,by omega,take_no hn hx2 hxt,rfl,rfl⟩
  ·rw [hxt] at hc
   rw [firstI_at hn hx2 hxt]
   repeat' (first|refine qN ?_|refine dN ?_|refine d0 ?_|refine qB ?_|refine qT ?_|refine qU ?_|refine qL ?_|refine qK ?_|refine qF ?_|refine qE ?_|refine iF (fun h=>?_) (fun h=>?_)|refine aX ?_|refine S_Q [] rfl rfl (QY.ldRow Bk.ok rfl rfl hx1 (by decide)) ?_|(refine cV [1,2] hc ?_; conv=>whnf)|refine aA ?_|refine aI (hn:=?_)|refine qR ?_|refine qS ?_|exact ⟨rfl,rfl⟩|fail)
   exact L_ret (RetQ.pick [0,1,2] rfl rfl rfl rfl ⟨rfl,rfl⟩)
 ·refine Nx.goL ?_
  obtain rfl:i=k:=by omega
  rw [firstI_no (by rwa [List.take_of_length_le (by omega)] at hn)]
  repeat' (first|refine qN ?_|refine dN ?_|refine dR ?_|refine d0 ?_|refine qB ?_|refine rT ?_|refine qT ?_|refine qU ?_|refine qL ?_|refine qK ?_|refine qF ?_|refine qE ?_|refine iF (fun h=>?_) (fun h=>?_)|refine aX ?_|refine aA ?_|refine aI (hn:=?_)|refine qR ?_|refine qS ?_|exact ⟨rfl,rfl⟩|fail)
theorem contF_tr (xs:List Bk) (k c:Nat) (hk:k≤xs.length) (hb:xs.length≤65536) (a n:Int) (hx:∀ x∈xs,x.In) (ha:0≤a∧a≤65536) :
  Tr Try.prog 76 [slC 0 k c,mtF] [.gro 2 (rowsC Bk.cells xs),.cells 0 [.int .i64 a],.cells 0 [.int .i64 n]]
   (fun v K=>v=.bool ((xs.take k).any (meetB a n))∧K=[.gro 2 (rowsC Bk.cells xs),.cells 0 [.int .i64 a],.cells 0 [.int .i64 n]]):=by
 have h1:=idxF_tr xs k c hk hb a n hx ha
 rw [← firstI_ge]
 refine Tr.of row_slices_ContainsFunc_spec_block_spec_block__ok rfl ?_
 repeat' (first|refine qN ?_|refine dN ?_|refine dR ?_|refine d0 ?_|refine rT ?_|refine cP [0,1,2] (h1) ?_|refine aI (hn:=?_)|refine qR ?_|refine qS ?_|exact ⟨rfl,rfl⟩|fail)
def inB (a n:Int) (x:Int):Bool:=decide (x≥a) && decide (x-a<n)
abbrev clC (a n:Int):LB:=.cells 0 [.bool false,.int .i64 n,.int .i64 a,.int .i64 0]
theorem nextC_tr (x a n:Int) (hx:0≤x∧x≤65536) (ha:0≤a∧a≤65536):Tr Try.prog 44 [.int .i64 x,.pointer (some ⟨0,0,none⟩)] [clC a n]
  (fun v K=>v=.bool (inB a n x)∧K=[clC a n]):=by
 refine Tr.of row_spec_State_Next_c1_ok rfl ?_
 repeat' (first|refine qN ?_|refine dN ?_|refine dR ?_|refine d0 ?_|refine rT ?_|refine aS ?_|refine aI (hn:=?_)|refine sP 8 (fun h=>?_) (fun h=>?_)|refine qR ?_|refine qS ?_|exact ⟨rfl,rfl⟩|fail)
 all_goals (refine ⟨congrArg Value.bool ?_,rfl⟩; simp [inB,h])
abbrev nxF:Value:=.func (.func 44) ⟨[]⟩ ⟨[.pointer (some ⟨1,0,none⟩)]⟩
theorem idxI_tr (xs:List Int) (k c:Nat) (hk:k≤xs.length) (hb:xs.length≤65536) (a n:Int) (hx:∀ x∈xs,0≤x∧x≤65536) (ha:0≤a∧a≤65536) :
  Tr Try.prog 64 [slC 0 k c,nxF] [.gro 1 (rowsC intC xs),clC a n]
   (fun v K=>v=.int .i64 (firstI (xs.take k) (inB a n))∧K=[.gro 1 (rowsC intC xs),clC a n]):=by
 refine Tr.of row_slices_IndexFunc_int_int__ok rfl ?_
 have hlen:(xs.take k).length=k:=by simp; omega
 repeat' (first|refine qN ?_|refine dN ?_|refine dR ?_|refine d0 ?_|refine qB ?_|refine rT ?_|refine qT ?_|refine qU ?_|refine qL ?_|refine qK ?_|refine qF ?_|refine qE ?_|refine iF (fun h=>?_) (fun h=>?_)|refine aX ?_|refine aA ?_|refine aI (hn:=?_)|refine qR ?_|refine qS ?_|exact ⟨rfl,rfl⟩|fail)
 refine LWp.pick [0,1,7,8] [0,1] rfl rfl rfl (L_loop (fun q l L=>∃ i:Nat,q=k-i∧i≤k∧(∀ x∈(xs.take k).take i,inB a n x=false)∧l=[(0,slC 0 k c),(1,nxF),(7,.int .i64 k),(8,.int .i64 i)]∧L=[.gro 1 (rowsC intC xs),clC a n]) k ⟨0,rfl,by omega,by simp,rfl,rfl⟩ ?_)
 rintro q _ _ ⟨i,rfl,hi,hn,rfl,rfl⟩
 first|refine L_seq (L_rs (S_done [] rfl (Nx.goL (iF (fun h=>L_skip (Nx.goL ?_)) (fun h=>L_exit ?_)))))|refine L_rs (S_done [] rfl (Nx.goL (L_seq (iF (fun h=>L_skip (Nx.goL ?_)) (fun h=>L_exit ?_)))))
 ·have hik:i<k:=by omega
  obtain ⟨x,hx1⟩:∃ x,xs[i]?=some x:=⟨_,List.getElem?_eq_getElem (by omega)⟩
  have hx2:=take_some hx1 hik
  have hc:=nextC_tr x a n (hx x (List.mem_of_getElem? hx1)) ha
  cases hxt:inB a n x
  ·rw [hxt] at hc
   repeat' (first|refine qN ?_|refine dN ?_|refine d0 ?_|refine qB ?_|refine qT ?_|refine qU ?_|refine qL ?_|refine qK ?_|refine qF ?_|refine qE ?_|refine iF (fun h=>?_) (fun h=>?_)|refine aX ?_|refine S_Q [] rfl rfl (QY.ldI rfl rfl hx1) ?_|(refine cV [1] hc ?_; conv=>whnf)|refine aA ?_|refine aI (hn:=?_)|refine qR ?_|refine qS ?_|exact ⟨rfl,rfl⟩|fail)
   exact Nx.pick [0,1,7,8] [0,1] rfl rfl rfl ⟨k-(i+1),by omega,i+1,rfl,by omega,take_no hn hx2 hxt,rfl,rfl⟩
  ·rw [hxt] at hc
   rw [firstI_at hn hx2 hxt]
   repeat' (first|refine qN ?_|refine dN ?_|refine d0 ?_|refine qB ?_|refine qT ?_|refine qU ?_|refine qL ?_|refine qK ?_|refine qF ?_|refine qE ?_|refine iF (fun h=>?_) (fun h=>?_)|refine aX ?_|refine S_Q [] rfl rfl (QY.ldI rfl rfl hx1) ?_|(refine cV [1] hc ?_; conv=>whnf)|refine aA ?_|refine aI (hn:=?_)|refine qR ?_|refine qS ?_|exact ⟨rfl,rfl⟩|fail)
   exact L_ret (RetQ.pick [0,1] rfl rfl rfl rfl ⟨rfl,rfl⟩)
 ·refine Nx.goL ?_
  obtain rfl:i=k:=by omega
  rw [firstI_no (by rwa [List.take_of_length_le (by omega)] at hn)]
  repeat' (first|refine qN ?_|refine dN ?_|refine dR ?_|refine d0 ?_|refine qB ?_|refine rT ?_|refine qT ?_|refine qU ?_|refine qL ?_|refine qK ?_|refine qF ?_|refine qE ?_|refine iF (fun h=>?_) (fun h=>?_)|refine aX ?_|refine aA ?_|refine aI (hn:=?_)|refine qR ?_|refine qS ?_|exact ⟨rfl,rfl⟩|fail)
end Go.Proofs.Ythgmdlmeeebfiaa
end
section
namespace Go.Proofs.Ythgmdlmeeebfiaa
open Go Go.Tum
set_option maxRecDepth 4000
theorem take_set_succ {α:Type} {l:List α} {i:Nat} {x:α} (h:i<l.length):(l.set i x).take (i+1)=l.take i++[x]:=by
 rw [List.take_add_one,List.getElem?_set_self h,List.take_set]
 congr 1
 exact List.set_eq_of_length_le (by rw [List.length_take]; omega)
abbrev B0:Bk:=⟨0,0⟩
theorem cloneI_tr (xs:List Int) (k c:Nat) (h:k≤xs.length) (hb:xs.length≤65536):Tr Try.prog 37 [slC 0 k c] [.gro 1 (rowsC intC xs)] (fun v K=>v=slC 1 k k∧K=[.gro 1 (rowsC intC xs),.gro 1 (rowsC intC (xs.take k))]):=by
 refine Tr.of row_slices_Clone_int_int__ok rfl ?_
 repeat' (first|refine qN ?_|refine dN ?_|refine dR ?_|refine d0 ?_|refine rT ?_|refine qT ?_|refine qU ?_|refine qL ?_|refine qK ?_|refine iF (fun h=>?_) (fun h=>?_)|refine aI (hn:=?_)|refine qR ?_|refine qS ?_|exact ⟨rfl,rfl⟩|fail)
 rcases Nat.eq_zero_or_pos k with rfl | hm
 ·refine S_Q2 [] rfl rfl (QY.nilS2 rfl (by kernel_rfl) rfl) ?_ ?_
  ·refine S_done [] rfl (Nx.goL (L_true rfl (L_rs (S_done [] rfl (Nx.goL ?_)))))
   refine LWp.nilE 2 1 rfl ?_
   exact L_ret (RetQ.pick [0,1] rfl rfl rfl rfl ⟨rfl,rfl⟩)
  ·repeat' (first|refine qN ?_|refine dN ?_|refine dR ?_|refine d0 ?_|refine rT ?_|refine qT ?_|refine qU ?_|refine qL ?_|refine qK ?_|refine iF (fun h=>?_) (fun h=>?_)|refine aI (hn:=?_)|refine qR ?_|refine qS ?_|exact ⟨rfl,rfl⟩|fail)
   refine S_wk [] rfl (wk_gro0 (b:=1) 1 rfl) ?_
   first|refine L_rs ?_|refine L_reg ?_ | skip
   refine eE rfl rfl (EW.appRS (bytes:=8) (xs:=[]) (i:=0) intC_ok rfl (by kernel_rfl) rfl rfl rfl rfl rfl rfl (by omega) (by decide) (by simp)) ?_
   conv=>whnf
   repeat' (first|refine qN ?_|refine dN ?_|refine dR ?_|refine d0 ?_|refine rT ?_|refine qT ?_|refine qU ?_|refine qL ?_|refine qK ?_|refine iF (fun h=>?_) (fun h=>?_)|refine aI (hn:=?_)|refine qR ?_|refine qS ?_|exact ⟨rfl,rfl⟩|fail)
   exact L_ret (RetQ.pick [0,2] rfl rfl rfl rfl ⟨rfl,rfl⟩)
 ·refine S_Q [] rfl rfl (QY.nilS rfl (by kernel_rfl) rfl hm) ?_
  repeat' (first|refine qN ?_|refine dN ?_|refine dR ?_|refine d0 ?_|refine rT ?_|refine qT ?_|refine qU ?_|refine qL ?_|refine qK ?_|refine iF (fun h=>?_) (fun h=>?_)|refine aI (hn:=?_)|refine qR ?_|refine qS ?_|exact ⟨rfl,rfl⟩|fail)
  refine S_wk [] rfl (wk_gro0 (b:=1) 1 rfl) ?_
  first|refine L_rs ?_|refine L_reg ?_ | skip
  refine eE rfl rfl (EW.appRS (bytes:=8) (xs:=[]) (i:=0) intC_ok rfl (by kernel_rfl) rfl rfl rfl rfl rfl rfl (by omega) (by decide) (by simp; omega)) ?_
  conv=>whnf
  repeat' (first|refine qN ?_|refine dN ?_|refine dR ?_|refine d0 ?_|refine rT ?_|refine qT ?_|refine qU ?_|refine qL ?_|refine qK ?_|refine iF (fun h=>?_) (fun h=>?_)|refine aI (hn:=?_)|refine qR ?_|refine qS ?_|exact ⟨rfl,rfl⟩|fail)
  exact L_ret (RetQ.pick [0,2] rfl rfl rfl rfl ⟨by show Value.slice _ (0+k) (0+k)=_; rw [Nat.zero_add]; rfl,rfl⟩)
theorem cloneB_tr (xs:List Bk) (k c:Nat) (h:k≤xs.length) (hb:xs.length≤65536):Tr Try.prog 36 [slC 0 k c] [.gro 2 (rowsC Bk.cells xs)] (fun v K=>v=slC 1 k k∧K=[.gro 2 (rowsC Bk.cells xs),.gro 2 (rowsC Bk.cells (xs.take k))]):=by
 refine Tr.of row_slices_Clone_spec_block_spec_block__ok rfl ?_
 repeat' (first|refine qN ?_|refine dN ?_|refine dR ?_|refine d0 ?_|refine rT ?_|refine qT ?_|refine qU ?_|refine qL ?_|refine qK ?_|refine iF (fun h=>?_) (fun h=>?_)|refine aI (hn:=?_)|refine qR ?_|refine qS ?_|exact ⟨rfl,rfl⟩|fail)
 rcases Nat.eq_zero_or_pos k with rfl | hm
 ·refine S_Q2 [] rfl rfl (QY.nilS2 rfl (by kernel_rfl) rfl) ?_ ?_
  ·refine S_done [] rfl (Nx.goL (L_true rfl (L_rs (S_done [] rfl (Nx.goL ?_)))))
   refine LWp.nilE 2 2 rfl ?_
   exact L_ret (RetQ.pick [0,1] rfl rfl rfl rfl ⟨rfl,rfl⟩)
  ·repeat' (first|refine qN ?_|refine dN ?_|refine dR ?_|refine d0 ?_|refine rT ?_|refine qT ?_|refine qU ?_|refine qL ?_|refine qK ?_|refine iF (fun h=>?_) (fun h=>?_)|refine aI (hn:=?_)|refine qR ?_|refine qS ?_|exact ⟨rfl,rfl⟩|fail)
   refine S_wk [] rfl (wk_gro0 (b:=1) 2 rfl) ?_
   first|refine L_rs ?_|refine L_reg ?_ | skip
   refine eE rfl rfl (EW.appRS (bytes:=16) (xs:=[]) (i:=0) Bk.ok rfl (by kernel_rfl) rfl rfl rfl rfl rfl rfl (by omega) (by decide) (by simp)) ?_
   conv=>whnf
   repeat' (first|refine qN ?_|refine dN ?_|refine dR ?_|refine d0 ?_|refine rT ?_|refine qT ?_|refine qU ?_|refine qL ?_|refine qK ?_|refine iF (fun h=>?_) (fun h=>?_)|refine aI (hn:=?_)|refine qR ?_|refine qS ?_|exact ⟨rfl,rfl⟩|fail)
   exact L_ret (RetQ.pick [0,2] rfl rfl rfl rfl ⟨rfl,rfl⟩)
 ·refine S_Q [] rfl rfl (QY.nilS rfl (by kernel_rfl) rfl hm) ?_
  repeat' (first|refine qN ?_|refine dN ?_|refine dR ?_|refine d0 ?_|refine rT ?_|refine qT ?_|refine qU ?_|refine qL ?_|refine qK ?_|refine iF (fun h=>?_) (fun h=>?_)|refine aI (hn:=?_)|refine qR ?_|refine qS ?_|exact ⟨rfl,rfl⟩|fail)
  refine S_wk [] rfl (wk_gro0 (b:=1) 2 rfl) ?_
  first|refine L_rs ?_|refine L_reg ?_ | skip
  refine eE rfl rfl (EW.appRS (bytes:=16) (xs:=[]) (i:=0) Bk.ok rfl (by kernel_rfl) rfl rfl rfl rfl rfl rfl (by omega) (by decide) (by simp; omega)) ?_
  conv=>whnf
  repeat' (first|refine qN ?_|refine dN ?_|refine dR ?_|refine d0 ?_|refine rT ?_|refine qT ?_|refine qU ?_|refine qL ?_|refine qK ?_|refine iF (fun h=>?_) (fun h=>?_)|refine aI (hn:=?_)|refine qR ?_|refine qS ?_|exact ⟨rfl,rfl⟩|fail)
  exact L_ret (RetQ.pick [0,2] rfl rfl rfl rfl ⟨by show Value.slice _ (0+k) (0+k)=_; rw [Nat.zero_add]; rfl,rfl⟩)
theorem delete_tr (xs:List Bk) (i m:Nat) (hn:xs.length=i+1+m) (hb:xs.length≤65536) :
  Tr Try.prog 39 [slC 0 (i+1+m) (i+1+m),.int .i64 (i:Nat),.int .i64 (i+1:Nat)] [.gro 2 (rowsC Bk.cells xs)]
   (fun v K=>v=slC 0 (i+m) (i+1+m)∧K=[.gro 2 (rowsC Bk.cells (xs.take i++xs.drop (i+1)++[B0]))]):=by
 have e1:i+1+m-(i+1)=m:=by omega
 refine Tr.of row_slices_Delete_spec_block_spec_block__ok rfl ?_
 repeat' (first|refine qN ?_|refine dN ?_|refine dR ?_|refine d0 ?_|refine rT ?_|refine qT ?_|refine qU ?_|refine qL ?_|refine qK ?_|refine iF (fun h=>?_) (fun h=>?_)|refine aI (hn:=?_)|refine qR ?_|refine qS ?_|exact ⟨rfl,rfl⟩|fail)
 refine arun_ok [] _ _ _ _ rfl (S_slc3 (lo':=i) (hi':=i+1) (mx':=i+1+m) rfl Try.underlying25 (by kernel_rfl) rfl rfl rfl rfl rfl (by omega) (by omega) (by omega) (by omega) ?_)
 repeat' (first|refine qN ?_|refine dN ?_|refine dR ?_|refine d0 ?_|refine rT ?_|refine qT ?_|refine qU ?_|refine qL ?_|refine qK ?_|refine iF (fun h=>?_) (fun h=>?_)|refine S_Q [] rfl rfl (QY.slc0 (lo':=0) (hi':=i) rfl rfl rfl (by omega) (by omega)) ?_|refine S_Q [] rfl rfl (QY.slc0 (lo':=i+1) (hi':=i+1+m) rfl rfl rfl (by omega) (by omega)) ?_|refine aI (hn:=?_)|refine qR ?_|refine qS ?_|exact ⟨rfl,rfl⟩|fail)
 ·exfalso; omega
 ·have e2:(xs.drop (i+1)).take (i+1+m-(i+1))=xs.drop (i+1):=List.take_of_length_le (by rw [List.length_drop]; omega)
  have e3:i+1+m-(i+m)=1:=by omega
  have e4:(xs.take i++xs.drop (i+1)).length=i+m:=by rw [List.length_append,List.length_take,List.length_drop]; omega
  have e5:(xs.take i++xs.drop (i+1)++xs.drop (i+m)).take (i+m)=xs.take i++xs.drop (i+1):=by rw [List.take_append_of_le_length (by omega),List.take_of_length_le (by omega)]
  have e6:(xs.take i++xs.drop (i+1)++xs.drop (i+m)).drop (i+m+1)=[]:=List.drop_of_length_le (by rw [List.length_append,e4,List.length_drop]; omega)
  refine eE rfl rfl ((EW.appInS (bytes:=16) (xs:=xs) (ys:=xs) (k:=i) (j:=i+1) (m:=i+1+m-(i+1)) Bk.ok rfl (by kernel_rfl) rfl rfl rfl rfl hn (by omega) (by omega) (by decide) (by omega) (by omega)).mono fun v K h=>(⟨h.1.trans (by rw [e1]),h.2.trans (by rw [e2,e1]; rfl)⟩:v=slC 0 (i+m) (i+1+m)∧K=[.gro 2 (rowsC Bk.cells (xs.take i++xs.drop (i+1)++xs.drop (i+m))),.dead])) ?_
  conv=>whnf
  repeat' (first|refine qN ?_|refine dN ?_|refine dR ?_|refine d0 ?_|refine rT ?_|refine qT ?_|refine qU ?_|refine qL ?_|refine qK ?_|refine iF (fun h=>?_) (fun h=>?_)|refine S_Q [] rfl rfl (QY.slc0 (lo':=i+m) (hi':=i+1+m) rfl rfl rfl (by omega) (by omega)) ?_|refine aI (hn:=?_)|refine qR ?_|refine qS ?_|exact ⟨rfl,rfl⟩|fail)
  refine eE rfl rfl ((EW.clearg (xs:=xs.take i++xs.drop (i+1)++xs.drop (i+m)) (i:=i+m) (dn:=i+1+m-(i+m)) Bk.ok rfl (by kernel_rfl) (rfl:Bk.cells B0=_) rfl rfl (by rw [List.length_append,e4,List.length_drop]; omega)).mono fun v K h=>(⟨h.1,h.2.trans (by rw [e3,e5,e6,List.append_nil]; rfl)⟩:v=.tuple #[]∧K=[.gro 2 (rowsC Bk.cells (xs.take i++xs.drop (i+1)++[B0])),.dead])) ?_
  conv=>whnf
  repeat' (first|refine qN ?_|refine dN ?_|refine dR ?_|refine d0 ?_|refine rT ?_|refine qT ?_|refine qU ?_|refine qL ?_|refine qK ?_|refine iF (fun h=>?_) (fun h=>?_)|refine aI (hn:=?_)|refine qR ?_|refine qS ?_|exact ⟨rfl,rfl⟩|fail)
theorem deleteF_tr (xs:List Int) (n:Nat) (hn:xs.length=n) (hb:n≤65536) (a z:Int) (hx:∀ x∈xs,0≤x∧x≤65536) (ha:0≤a∧a≤65536) (fs:List Int) (hfs:fs=xs.filter (fun x => !inB a z x)) :
  Tr Try.prog 43 [slC 0 n n,nxF] [.gro 1 (rowsC intC xs),clC a z]
   (fun v K=>v=slC 0 fs.length n∧K=[.gro 1 (rowsC intC (fs++List.replicate (n-fs.length) 0)),clC a z]):=by
 have h1:=idxI_tr xs n n (by omega) (by omega) a z hx ha
 rw [List.take_of_length_le (by omega)] at h1
 refine Tr.of row_slices_DeleteFunc_int_int__ok rfl ?_
 by_cases hany:xs.any (inB a z)=true
 ·obtain ⟨i,hi⟩:∃ i,i=xs.findIdx (inB a z):=⟨_,rfl⟩
  have hf:firstI xs (inB a z)=i:=by rw [firstI,if_pos hany,hi]
  rw [hf] at h1
  have hil:i<n:=by
   rw [hi,← hn]
   obtain ⟨x,h2,h3⟩:=List.any_eq_true.1 hany
   exact List.findIdx_lt_length_of_exists ⟨x,h2,h3⟩
  have hpi:inB a z xs[i]=true:=by subst hi; exact List.findIdx_getElem
  have hlt:∀ x∈xs.take i,(!inB a z x)=true:=by
   intro x hx
   obtain ⟨j,hj⟩:=List.getElem?_of_mem hx
   rw [List.getElem?_take] at hj
   split at hj
   ·rename_i hji
    have hjl:j<xs.length:=by omega
    rw [List.getElem?_eq_getElem hjl] at hj; cases hj
    have:=List.not_of_lt_findIdx (p:=inB a z) (xs:=xs) (i:=j) (by rw [← hi]; exact hji)
    simpa using this
   ·cases hj
  have hft:(xs.take (i+1)).filter (fun x => !inB a z x)=xs.take i:=by
   rw [List.take_add_one,List.getElem?_eq_getElem (by omega),List.filter_append,List.filter_eq_self.2 hlt]
   simp [hpi]
  clear hpi hlt hf hi hany
  repeat' (first|refine qN ?_|refine dN ?_|refine dR ?_|refine d0 ?_|refine qB ?_|refine rT ?_|refine qT ?_|refine qU ?_|refine qL ?_|refine qK ?_|refine qF ?_|refine qE ?_|refine iF (fun h=>?_) (fun h=>?_)|refine aX ?_|refine cP [0,1] (h1) ?_|refine aA ?_|refine aI (hn:=?_)|refine qR ?_|refine qS ?_|exact ⟨rfl,rfl⟩|fail)
  all_goals first | (exfalso; omega) | skip
  refine LWp.pick [0,1,5,6] [0,1] rfl rfl rfl (L_loop (fun q l L=>∃ (j i':Nat) (ys:List Int),q=n-j∧j≤n∧i'<j∧ys.length=n∧((xs.take j).filter (fun x => !inB a z x)).length=i'∧ys.take i'=(xs.take j).filter (fun x => !inB a z x)∧ys.drop j=xs.drop j∧l=[(0,slC 0 n n),(1,nxF),(5,.int .i64 i'),(6,.int .i64 j)]∧L=[.gro 1 (rowsC intC ys),clC a z]) (n-(i+1)) ⟨i+1,i,xs,rfl,hil,by omega,hn,by rw [hft,List.length_take]; omega,hft.symm,rfl,rfl,rfl⟩ ?_)
  clear hft h1
  rintro q _ _ ⟨j,i',ys,rfl,hj,hij,hyl,hfl,hyt,hyd,rfl,rfl⟩
  first|refine L_seq (L_rs (S_done [] rfl (Nx.goL (iF (fun h=>L_skip (Nx.goL ?_)) (fun h=>L_exit ?_)))))|refine L_rs (S_done [] rfl (Nx.goL (L_seq (iF (fun h=>L_skip (Nx.goL ?_)) (fun h=>L_exit ?_)))))
  ·have hj2:j<n:=by omega
   obtain ⟨x,hx1⟩:∃ x,xs[j]?=some x:=⟨_,List.getElem?_eq_getElem (by omega)⟩
   have hy1:ys[j]?=some x:=by
    have:=congrArg (fun l=>l[0]?) hyd
    simpa [hx1] using this
   have hc:=nextC_tr x a z (hx x (List.mem_of_getElem? hx1)) ha
   have hft2:(xs.take (j+1)).filter (fun x => !inB a z x)=(xs.take j).filter (fun x => !inB a z x)++(if inB a z x then [] else [x]):=by
    rw [List.take_add_one,hx1,List.filter_append]
    congr 1
    cases hq:inB a z x <;> simp [hq]
   have hyd2:ys.drop (j+1)=xs.drop (j+1):=by
    have:=congrArg (List.drop 1) hyd
    simpa [List.drop_drop] using this
   cases hxt:inB a z x
   ·rw [hxt] at hc hft2
    repeat' (first|refine qN ?_|refine dN ?_|refine dR ?_|refine d0 ?_|refine qB ?_|refine rT ?_|refine qT ?_|refine qU ?_|refine qL ?_|refine qK ?_|refine qF ?_|refine qE ?_|refine iF (fun h=>?_) (fun h=>?_)|refine aX ?_|refine S_Q [] rfl rfl (QY.ldI rfl rfl hy1) ?_|(refine cV [1] hc ?_; conv=>whnf)|(refine eE rfl rfl (EW.stI (k:=i') rfl rfl rfl (by omega)) ?_; conv=>whnf)|refine aA ?_|refine aI (hn:=?_)|refine qR ?_|refine qS ?_|exact ⟨rfl,rfl⟩|fail)
    refine Nx.pick [0,1,5,6] [0,1] rfl rfl rfl ⟨n-(j+1),by omega,j+1,i'+1,ys.set i' x,rfl,by omega,by omega,by rw [List.length_set]; exact hyl,by rw [hft2]; simp [hfl],?_,?_,rfl,rfl⟩
    ·rw [hft2,← hyt,take_set_succ (by omega)]; simp
    ·rw [List.drop_set,if_pos (by omega)]; exact hyd2
   ·rw [hxt] at hc hft2
    repeat' (first|refine qN ?_|refine dN ?_|refine dR ?_|refine d0 ?_|refine qB ?_|refine rT ?_|refine qT ?_|refine qU ?_|refine qL ?_|refine qK ?_|refine qF ?_|refine qE ?_|refine iF (fun h=>?_) (fun h=>?_)|refine aX ?_|refine S_Q [] rfl rfl (QY.ldI rfl rfl hy1) ?_|(refine cV [1] hc ?_; conv=>whnf)|refine aA ?_|refine aI (hn:=?_)|refine qR ?_|refine qS ?_|exact ⟨rfl,rfl⟩|fail)
    refine Nx.pick [0,1,5,6] [0,1] rfl rfl rfl ⟨n-(j+1),by omega,j+1,i',ys,rfl,by omega,by omega,hyl,by rw [hft2]; simp [hfl],?_,hyd2,rfl,rfl⟩
    rw [hft2,hyt]; simp
  ·refine Nx.goL ?_
   obtain rfl:j=n:=by omega
   have e0:xs.take j=xs:=List.take_of_length_le (by omega)
   rw [e0] at hfl hyt
   rw [← hfs] at hfl hyt
   have e1:ys.drop (i'+(j-i'))=[]:=List.drop_of_length_le (by omega)
   repeat' (first|refine qN ?_|refine dN ?_|refine dR ?_|refine d0 ?_|refine qB ?_|refine rT ?_|refine qT ?_|refine qU ?_|refine qL ?_|refine qK ?_|refine qF ?_|refine qE ?_|refine iF (fun h=>?_) (fun h=>?_)|refine aX ?_|refine S_Q [] rfl rfl (QY.slc0 (lo':=i') (hi':=j) rfl rfl rfl (by omega) (by omega)) ?_|refine aA ?_|refine aI (hn:=?_)|refine qR ?_|refine qS ?_|exact ⟨rfl,rfl⟩|fail)
   refine eE rfl rfl ((EW.clearg (xs:=ys) (i:=i') (dn:=j-i') (z0:=(0:Int)) intC_ok rfl (by kernel_rfl) rfl rfl rfl (by omega)).mono fun v K h=>(⟨h.1,h.2.trans (by rw [e1,List.append_nil,hyt]; rfl)⟩:v=.tuple #[]∧K=[.gro 1 (rowsC intC (fs++List.replicate (j-i') 0)),clC a z])) ?_
   conv=>whnf
   repeat' (first|refine qN ?_|refine dN ?_|refine dR ?_|refine d0 ?_|refine qB ?_|refine rT ?_|refine qT ?_|refine qU ?_|refine qL ?_|refine qK ?_|refine qF ?_|refine qE ?_|refine iF (fun h=>?_) (fun h=>?_)|refine aX ?_|refine S_Q [] rfl rfl (QY.slc0 (lo':=0) (hi':=i') rfl rfl rfl (by omega) (by omega)) ?_|refine aA ?_|refine aI (hn:=?_)|refine qR ?_|refine qS ?_|exact ⟨rfl,rfl⟩|fail)
   rw [hfl]
   exact ⟨rfl,rfl⟩
 ·have hf:firstI xs (inB a z) = -1:=by rw [firstI,if_neg hany]
  rw [hf] at h1
  have hfe:fs=xs:=by
   rw [hfs,List.filter_eq_self]
   intro x hx
   have:¬ inB a z x=true:=fun h=>hany (List.any_eq_true.2 ⟨x,hx,h⟩)
   simpa using this
  rw [hfe,hn,Nat.sub_self,show xs++List.replicate 0 (0:Int)=xs by simp]
  repeat' (first|refine qN ?_|refine dN ?_|refine dR ?_|refine d0 ?_|refine qB ?_|refine rT ?_|refine qT ?_|refine qU ?_|refine qL ?_|refine qK ?_|refine qF ?_|refine qE ?_|refine iF (fun h=>?_) (fun h=>?_)|refine aX ?_|refine cP [0,1] (h1) ?_|refine aA ?_|refine aI (hn:=?_)|refine qR ?_|refine qS ?_|exact ⟨rfl,rfl⟩|fail)
end Go.Proofs.Ythgmdlmeeebfiaa
end
section
namespace Go.Proofs.Ythgmdlmeeebfiaa
open Go Go.Tum
set_option maxRecDepth 4000
theorem wk_one {α:Type} {gr:α→List Value} {sz b:Nat} {a:α} {L:LH} (h:RowOk gr sz) (hz:0<sz) (hb:L[b]?=some (.cells 0 (gr a))):∀ X w0 E w,Rep X w0 E L w→Rep X w0 E (L.set b (.gro sz (rowsC gr [a]))) w:=by
 rw [rowsC_one]
 exact wk_new sz hb (by intro e; have:=h.len a; rw [e] at this; simp at this; omega) hz (h.still a)
theorem ovlI_run (args:Array Value) (w:World):(callFunc 60 args).run Try.prog w=((Extern.SlicesOverlaps.overlaps #[26,26] #[4] args).run Try.prog w).andThen fun v w'=>.ok (.value v) w' :=
 run_callFunc_extern Try.func60 (by kernel_rfl) (by kernel_rfl) (by kernel_rfl) (by kernel_rfl) args w
theorem ovlB_run (args:Array Value) (w:World):(callFunc 62 args).run Try.prog w=((Extern.SlicesOverlaps.overlaps #[25,25] #[4] args).run Try.prog w).andThen fun v w'=>.ok (.value v) w' :=
 run_callFunc_extern Try.func62 (by kernel_rfl) (by kernel_rfl) (by kernel_rfl) (by kernel_rfl) args w
set_option maxHeartbeats 2000000 in
theorem insI_tr (xs:List Int) (n:Nat) (hn:xs.length=n) (hb:n≤65536) (i:Nat) (hi:i≤n) (a:Int) :
  Tr Try.prog 41 [slC 0 n n,.int .i64 i,slC 1 1 1] [.gro 1 (rowsC intC xs),.cells 0 (intC a)] (fun v K=>v=slC 2 (n+1) (n+1)∧K=[.dead,.dead,.gro 1 (rowsC intC (xs.take i++[a]++xs.drop i))]):=by
 have hTT:=Try.underlying26
 refine Tr.of row_slices_Insert_int_int__ok rfl ?_
 repeat' (first|refine qN ?_|refine dN ?_|refine dR ?_|refine d0 ?_|refine rT ?_|refine qT ?_|refine qU ?_|refine qL ?_|refine qK ?_|refine iF (fun h=>?_) (fun h=>?_)|refine S_Q [] rfl rfl (QY.slc0 (lo':=i) (hi':=n) rfl rfl rfl (by omega) (by omega)) ?_|refine aA ?_|refine aS ?_|refine aI (hn:=?_)|refine qR ?_|refine qS ?_|exact ⟨rfl,rfl⟩|fail)
 ·-- at the end
  have e:i=n:=by omega
  have e1:xs.take i++[a]++xs.drop i=xs++[a]:=by
   rw [List.take_of_length_le (by omega),List.drop_of_length_le (by omega),List.append_nil]
  rw [e1]
  refine eE rfl rfl (EW.appR1 (bytes:=8) (xs:=xs) (a:=a) intC_ok rfl (by kernel_rfl) rfl rfl rfl rfl hn (by omega)) ?_
  conv=>whnf
  refine S_wk [] rfl (wk_dead 1 rfl) ?_
  repeat' (first|refine qN ?_|refine dN ?_|refine d0 ?_|refine qT ?_|refine qU ?_|refine qL ?_|refine qK ?_|refine iF (fun h=>?_) (fun h=>?_)|refine aA ?_|refine aS ?_|refine aI (hn:=?_)|refine qR ?_|refine qS ?_|exact ⟨rfl,rfl⟩|fail)
  exact L_ret (RetQ.pick [0,1,2] rfl rfl rfl rfl ⟨rfl,rfl⟩)
 ·have hlt:i<n:=by omega
  have e1:n+1-(i+1)=n-i:=by omega
  refine arun_ok [] _ _ _ _ rfl (LSt.drop [29,0,1,2,6,7,8,28] ?_)
  refine S_cap (t1:=29) (t:=0) (rest:=[(1,.int .i64 i),(2,slC 1 1 1),(6,.slice none 0 0),(7,.int .i64 (1:Nat)),(8,.int .i64 n),(28,.int .i64 ((n:Int)+1))]) intC_ok (by decide) hn (by omega) rfl (by kernel_rfl) rfl rfl rfl rfl ?_ (fun c zs hzl hc=>?_)
  ·-- no room
   have e2:i+(n+1-i)=n+1:=by omega
   have e3:(xs.take i).length=i:=by rw [List.length_take]; omega
   have e4:n+1-i=1+(n-i):=by omega
   repeat' (first|refine qN ?_|refine dN ?_|refine dR ?_|refine d0 ?_|refine rT ?_|refine qT ?_|refine qU ?_|refine qL ?_|refine qK ?_|refine iF (fun h=>?_) (fun h=>?_)|refine S_Q [] rfl rfl (QY.slc0 (lo':=0) (hi':=i) rfl rfl rfl (by omega) (by omega)) ?_|refine S_Q [] rfl rfl (QY.sub (c:=((n+1-i:Nat):Int)) rfl rfl (by omega) (by omega) (by omega)) ?_|refine aA ?_|refine aS ?_|refine aI (hn:=?_)|refine qR ?_|refine qS ?_|exact ⟨rfl,rfl⟩|fail)
   all_goals first | (exfalso; omega) | skip
   have e5:min 1 (n+1-i)=1:=by omega
   have e6:min (n-i) (n+1-(i+1))=n-i:=by omega
   have x1:(xs.take i++List.replicate (n+1-i) (0:Int)).take i=xs.take i:=by rw [List.take_append_of_le_length (by omega),List.take_of_length_le (by omega)]
   have x2:(xs.take i++List.replicate (n+1-i) (0:Int)).drop (i+1)=List.replicate (n-i) (0:Int):=by rw [List.drop_append,e3,List.drop_of_length_le (by omega),List.nil_append,List.drop_replicate]; congr 1; omega
   have x3:(xs.take i++[a]++List.replicate (n-i) (0:Int)).take (i+1)=xs.take i++[a]:=by rw [List.take_append_of_le_length (by simp; omega),List.take_of_length_le (by simp; omega)]
   have x4:(xs.take i++[a]++List.replicate (n-i) (0:Int)).drop (i+1+(n-i))=[]:=List.drop_of_length_le (by simp; omega)
   have x5:(xs.drop i).take (n-i)=xs.drop i:=List.take_of_length_le (by rw [List.length_drop]; omega)
   refine eE rfl rfl ((EW.appZ (b:=0) (bytes:=8) (xs:=xs) (i:=i) (n:=n) (k:=n+1-i) (z0:=(0:Int)) intC_ok rfl (by kernel_rfl) rfl rfl rfl rfl hn hi (by omega) (by omega) (by rw [e2]; omega)).mono fun v K h=>(⟨h.1.trans (by rw [e2]; rfl),h.2⟩:v=slC 2 (n+1) (n+1)∧K=[.gro 1 (rowsC intC xs),.cells 0 (intC a),.gro 1 (rowsC intC (xs.take i++List.replicate (n+1-i) (0:Int)))])) ?_
   conv=>whnf
   repeat' (first|refine qN ?_|refine dN ?_|refine dR ?_|refine d0 ?_|refine rT ?_|refine qT ?_|refine qU ?_|refine qL ?_|refine qK ?_|refine iF (fun h=>?_) (fun h=>?_)|refine S_Q [] rfl rfl (QY.slc0 (lo':=i) (hi':=n+1) rfl rfl rfl (by omega) (by omega)) ?_|refine aA ?_|refine aS ?_|refine aI (hn:=?_)|refine qR ?_|refine qS ?_|exact ⟨rfl,rfl⟩|fail)
   refine S_wk [] rfl (wk_one (a:=a) (b:=1) intC_ok (by decide) rfl) ?_
   refine eE rfl rfl ((EW.copyg (i:=i) (j:=0) (xs:=xs.take i++List.replicate (n+1-i) (0:Int)) (ys:=[a]) intC_ok rfl (by kernel_rfl) rfl rfl rfl rfl (by simp; omega) (by simp) (by decide)).mono fun v K h=>(⟨h.1,h.2.trans (by rw [e5,x1,x2]; rfl)⟩:v=.int .i64 ((min 1 (n+1-i):Nat):Int)∧K=[.gro 1 (rowsC intC xs),.gro 1 (rowsC intC [a]),.gro 1 (rowsC intC (xs.take i++[a]++List.replicate (n-i) (0:Int)))])) ?_
   conv=>whnf
   repeat' (first|refine qN ?_|refine dN ?_|refine dR ?_|refine d0 ?_|refine rT ?_|refine qT ?_|refine qU ?_|refine qL ?_|refine qK ?_|refine iF (fun h=>?_) (fun h=>?_)|refine S_Q [] rfl rfl (QY.slc0 (lo':=i+1) (hi':=n+1) rfl rfl rfl (by omega) (by omega)) ?_|refine S_Q [] rfl rfl (QY.slc0 (lo':=i) (hi':=n) rfl rfl rfl (by omega) (by omega)) ?_|refine aA ?_|refine aS ?_|refine aI (hn:=?_)|refine qR ?_|refine qS ?_|exact ⟨rfl,rfl⟩|fail)
   refine eE rfl rfl ((EW.copyg (i:=i+1) (j:=i) (xs:=xs.take i++[a]++List.replicate (n-i) (0:Int)) (ys:=xs) intC_ok rfl (by kernel_rfl) rfl rfl rfl rfl (by simp; omega) (by omega) (by decide)).mono fun v K h=>(⟨h.1,h.2.trans (by rw [e6,x3,x4,x5,List.append_nil]; rfl)⟩:v=.int .i64 ((min (n-i) (n+1-(i+1)):Nat):Int)∧K=[.gro 1 (rowsC intC xs),.gro 1 (rowsC intC [a]),.gro 1 (rowsC intC (xs.take i++[a]++xs.drop i))])) ?_
   conv=>whnf
   refine S_wk [] rfl (wk_dead 1 rfl) ?_
   refine S_wk [] rfl (wk_dead 0 rfl) ?_
   repeat' (first|refine qN ?_|refine dN ?_|refine d0 ?_|refine qT ?_|refine qU ?_|refine qL ?_|refine qK ?_|refine iF (fun h=>?_) (fun h=>?_)|refine aA ?_|refine aS ?_|refine aI (hn:=?_)|refine qR ?_|refine qS ?_|exact ⟨rfl,rfl⟩|fail)
   exact L_ret (RetQ.pick [0,1,2] rfl rfl rfl rfl ⟨rfl,rfl⟩)
  ·-- room
   have e3:(xs.take i).length=i:=by rw [List.length_take]; omega
   have e5:min 1 (n+1-i)=1:=by omega
   have y1:(xs.take (i+1)++xs.drop i).take i=xs.take i:=by rw [List.take_append_of_le_length (by rw [List.length_take]; omega),List.take_take,Nat.min_eq_left (by omega)]
   have y2:(xs.take (i+1)++xs.drop i).drop (i+1)=xs.drop i:=by rw [List.drop_append_of_le_length (by rw [List.length_take]; omega),List.drop_of_length_le (by rw [List.length_take]; omega),List.nil_append]
   have yl:(xs.take (i+1)++xs.drop i).length=n+1:=by rw [List.length_append,List.length_take,List.length_drop]; omega
   have hne:rowsC intC xs++zs≠[]:=by intro e; have:=congrArg List.length e; rw [List.length_append,hzl] at this; simp at this
   repeat' (first|refine qN ?_|refine dN ?_|refine dR ?_|refine d0 ?_|refine rT ?_|refine qT ?_|refine qU ?_|refine qL ?_|refine qK ?_|refine iF (fun h=>?_) (fun h=>?_)|refine S_Q [] rfl rfl (QY.slc0 (lo':=0) (hi':=n+1) rfl rfl rfl (by omega) (by omega)) ?_|refine S_Q [] rfl rfl (QY.slc0 (lo':=i+1) (hi':=n+1) rfl rfl rfl (by omega) (by omega)) ?_|(refine eE rfl rfl (EW.ovl (bx:=1) (b:=2) rfl ovlI_run hTT (by kernel_rfl) rfl rfl rfl rfl (by decide) (by omega) hne (by decide)) ?_; conv=>whnf)|refine aA ?_|refine aS ?_|refine aI (hn:=?_)|refine qR ?_|refine qS ?_|exact ⟨rfl,rfl⟩|fail)
   all_goals first | (exfalso; omega) | skip
   refine S_wk [] rfl (wk_one (a:=a) (b:=1) intC_ok (by decide) rfl) ?_
   repeat' (first|refine qN ?_|refine dN ?_|refine dR ?_|refine d0 ?_|refine rT ?_|refine qT ?_|refine qU ?_|refine qL ?_|refine qK ?_|refine iF (fun h=>?_) (fun h=>?_)|refine S_Q [] rfl rfl (QY.slc0 (lo':=i+1) (hi':=n+1) rfl rfl rfl (by omega) (by omega)) ?_|refine S_Q [] rfl rfl (QY.slc0 (lo':=i) (hi':=n+1) rfl rfl rfl (by omega) (by omega)) ?_|refine aA ?_|refine aS ?_|refine aI (hn:=?_)|refine qR ?_|refine qS ?_|exact ⟨rfl,rfl⟩|fail)
   refine eE rfl rfl (EW.copyUp (n:=n) (i:=i) (xs:=xs) (zs:=zs) intC_ok rfl (by kernel_rfl) rfl rfl rfl e1 rfl hn hlt hzl (by decide)) ?_
   conv=>whnf
   repeat' (first|refine qN ?_|refine dN ?_|refine dR ?_|refine d0 ?_|refine rT ?_|refine qT ?_|refine qU ?_|refine qL ?_|refine qK ?_|refine iF (fun h=>?_) (fun h=>?_)|refine S_Q [] rfl rfl (QY.slc0 (lo':=i) (hi':=n+1) rfl rfl rfl (by omega) (by omega)) ?_|refine aA ?_|refine aS ?_|refine aI (hn:=?_)|refine qR ?_|refine qS ?_|exact ⟨rfl,rfl⟩|fail)
   refine eE rfl rfl ((EW.copyg (i:=i) (j:=0) (xs:=xs.take (i+1)++xs.drop i) (ys:=[a]) intC_ok rfl (by kernel_rfl) rfl rfl rfl rfl (by omega) (by simp) (by decide)).mono fun v K h=>(⟨h.1,h.2.trans (by rw [e5,y1,y2]; rfl)⟩:v=.int .i64 ((min 1 (n+1-i):Nat):Int)∧K=[.dead,.gro 1 (rowsC intC [a]),.gro 1 (rowsC intC (xs.take i++[a]++xs.drop i))])) ?_
   conv=>whnf
   refine S_wk [] rfl (wk_dead 1 rfl) ?_
   repeat' (first|refine qN ?_|refine dN ?_|refine d0 ?_|refine qT ?_|refine qU ?_|refine qL ?_|refine qK ?_|refine iF (fun h=>?_) (fun h=>?_)|refine aA ?_|refine aS ?_|refine aI (hn:=?_)|refine qR ?_|refine qS ?_|exact ⟨rfl,rfl⟩|fail)
   exact L_ret (RetQ.pick [0,1,2] rfl rfl rfl rfl ⟨rfl,rfl⟩)
set_option maxHeartbeats 2000000 in
theorem insB_tr (xs:List Bk) (n:Nat) (hn:xs.length=n) (hb:n≤65536) (i:Nat) (hi:i≤n) (a:Bk) :
  Tr Try.prog 42 [slC 0 n n,.int .i64 i,slC 1 1 1] [.gro 2 (rowsC Bk.cells xs),.cells 0 (Bk.cells a)] (fun v K=>v=slC 2 (n+1) (n+1)∧K=[.dead,.dead,.gro 2 (rowsC Bk.cells (xs.take i++[a]++xs.drop i))]):=by
 have hTT:=Try.underlying25
 refine Tr.of row_slices_Insert_spec_block_spec_block__ok rfl ?_
 repeat' (first|refine qN ?_|refine dN ?_|refine dR ?_|refine d0 ?_|refine rT ?_|refine qT ?_|refine qU ?_|refine qL ?_|refine qK ?_|refine iF (fun h=>?_) (fun h=>?_)|refine S_Q [] rfl rfl (QY.slc0 (lo':=i) (hi':=n) rfl rfl rfl (by omega) (by omega)) ?_|refine aA ?_|refine aS ?_|refine aI (hn:=?_)|refine qR ?_|refine qS ?_|exact ⟨rfl,rfl⟩|fail)
 ·-- at the end
  have e:i=n:=by omega
  have e1:xs.take i++[a]++xs.drop i=xs++[a]:=by
   rw [List.take_of_length_le (by omega),List.drop_of_length_le (by omega),List.append_nil]
  rw [e1]
  refine eE rfl rfl (EW.appR1 (bytes:=16) (xs:=xs) (a:=a) Bk.ok rfl (by kernel_rfl) rfl rfl rfl rfl hn (by omega)) ?_
  conv=>whnf
  refine S_wk [] rfl (wk_dead 1 rfl) ?_
  repeat' (first|refine qN ?_|refine dN ?_|refine d0 ?_|refine qT ?_|refine qU ?_|refine qL ?_|refine qK ?_|refine iF (fun h=>?_) (fun h=>?_)|refine aA ?_|refine aS ?_|refine aI (hn:=?_)|refine qR ?_|refine qS ?_|exact ⟨rfl,rfl⟩|fail)
  exact L_ret (RetQ.pick [0,1,2] rfl rfl rfl rfl ⟨rfl,rfl⟩)
 ·have hlt:i<n:=by omega
  have e1:n+1-(i+1)=n-i:=by omega
  refine arun_ok [] _ _ _ _ rfl (LSt.drop [29,0,1,2,6,7,8,28] ?_)
  refine S_cap (t1:=29) (t:=0) (rest:=[(1,.int .i64 i),(2,slC 1 1 1),(6,.slice none 0 0),(7,.int .i64 (1:Nat)),(8,.int .i64 n),(28,.int .i64 ((n:Int)+1))]) Bk.ok (by decide) hn (by omega) rfl (by kernel_rfl) rfl rfl rfl rfl ?_ (fun c zs hzl hc=>?_)
  ·-- no room
   have e2:i+(n+1-i)=n+1:=by omega
   have e3:(xs.take i).length=i:=by rw [List.length_take]; omega
   have e4:n+1-i=1+(n-i):=by omega
   repeat' (first|refine qN ?_|refine dN ?_|refine dR ?_|refine d0 ?_|refine rT ?_|refine qT ?_|refine qU ?_|refine qL ?_|refine qK ?_|refine iF (fun h=>?_) (fun h=>?_)|refine S_Q [] rfl rfl (QY.slc0 (lo':=0) (hi':=i) rfl rfl rfl (by omega) (by omega)) ?_|refine S_Q [] rfl rfl (QY.sub (c:=((n+1-i:Nat):Int)) rfl rfl (by omega) (by omega) (by omega)) ?_|refine aA ?_|refine aS ?_|refine aI (hn:=?_)|refine qR ?_|refine qS ?_|exact ⟨rfl,rfl⟩|fail)
   all_goals first | (exfalso; omega) | skip
   have e5:min 1 (n+1-i)=1:=by omega
   have e6:min (n-i) (n+1-(i+1))=n-i:=by omega
   have x1:(xs.take i++List.replicate (n+1-i) B0).take i=xs.take i:=by rw [List.take_append_of_le_length (by omega),List.take_of_length_le (by omega)]
   have x2:(xs.take i++List.replicate (n+1-i) B0).drop (i+1)=List.replicate (n-i) B0:=by rw [List.drop_append,e3,List.drop_of_length_le (by omega),List.nil_append,List.drop_replicate]; congr 1; omega
   have x3:(xs.take i++[a]++List.replicate (n-i) B0).take (i+1)=xs.take i++[a]:=by rw [List.take_append_of_le_length (by simp; omega),List.take_of_length_le (by simp; omega)]
   have x4:(xs.take i++[a]++List.replicate (n-i) B0).drop (i+1+(n-i))=[]:=List.drop_of_length_le (by simp; omega)
   have x5:(xs.drop i).take (n-i)=xs.drop i:=List.take_of_length_le (by rw [List.length_drop]; omega)
   refine eE rfl rfl ((EW.appZ (b:=0) (bytes:=16) (xs:=xs) (i:=i) (n:=n) (k:=n+1-i) (z0:=B0) Bk.ok rfl (by kernel_rfl) rfl rfl rfl rfl hn hi (by omega) (by omega) (by rw [e2]; omega)).mono fun v K h=>(⟨h.1.trans (by rw [e2]; rfl),h.2⟩:v=slC 2 (n+1) (n+1)∧K=[.gro 2 (rowsC Bk.cells xs),.cells 0 (Bk.cells a),.gro 2 (rowsC Bk.cells (xs.take i++List.replicate (n+1-i) B0))])) ?_
   conv=>whnf
   repeat' (first|refine qN ?_|refine dN ?_|refine dR ?_|refine d0 ?_|refine rT ?_|refine qT ?_|refine qU ?_|refine qL ?_|refine qK ?_|refine iF (fun h=>?_) (fun h=>?_)|refine S_Q [] rfl rfl (QY.slc0 (lo':=i) (hi':=n+1) rfl rfl rfl (by omega) (by omega)) ?_|refine aA ?_|refine aS ?_|refine aI (hn:=?_)|refine qR ?_|refine qS ?_|exact ⟨rfl,rfl⟩|fail)
   refine S_wk [] rfl (wk_one (a:=a) (b:=1) Bk.ok (by decide) rfl) ?_
   refine eE rfl rfl ((EW.copyg (i:=i) (j:=0) (xs:=xs.take i++List.replicate (n+1-i) B0) (ys:=[a]) Bk.ok rfl (by kernel_rfl) rfl rfl rfl rfl (by simp; omega) (by simp) (by decide)).mono fun v K h=>(⟨h.1,h.2.trans (by rw [e5,x1,x2]; rfl)⟩:v=.int .i64 ((min 1 (n+1-i):Nat):Int)∧K=[.gro 2 (rowsC Bk.cells xs),.gro 2 (rowsC Bk.cells [a]),.gro 2 (rowsC Bk.cells (xs.take i++[a]++List.replicate (n-i) B0))])) ?_
   conv=>whnf
   repeat' (first|refine qN ?_|refine dN ?_|refine dR ?_|refine d0 ?_|refine rT ?_|refine qT ?_|refine qU ?_|refine qL ?_|refine qK ?_|refine iF (fun h=>?_) (fun h=>?_)|refine S_Q [] rfl rfl (QY.slc0 (lo':=i+1) (hi':=n+1) rfl rfl rfl (by omega) (by omega)) ?_|refine S_Q [] rfl rfl (QY.slc0 (lo':=i) (hi':=n) rfl rfl rfl (by omega) (by omega)) ?_|refine aA ?_|refine aS ?_|refine aI (hn:=?_)|refine qR ?_|refine qS ?_|exact ⟨rfl,rfl⟩|fail)
   refine eE rfl rfl ((EW.copyg (i:=i+1) (j:=i) (xs:=xs.take i++[a]++List.replicate (n-i) B0) (ys:=xs) Bk.ok rfl (by kernel_rfl) rfl rfl rfl rfl (by simp; omega) (by omega) (by decide)).mono fun v K h=>(⟨h.1,h.2.trans (by rw [e6,x3,x4,x5,List.append_nil]; rfl)⟩:v=.int .i64 ((min (n-i) (n+1-(i+1)):Nat):Int)∧K=[.gro 2 (rowsC Bk.cells xs),.gro 2 (rowsC Bk.cells [a]),.gro 2 (rowsC Bk.cells (xs.take i++[a]++xs.drop i))])) ?_
   conv=>whnf
   refine S_wk [] rfl (wk_dead 1 rfl) ?_
   refine S_wk [] rfl (wk_dead 0 rfl) ?_
   repeat' (first|refine qN ?_|refine dN ?_|refine d0 ?_|refine qT ?_|refine qU ?_|refine qL ?_|refine qK ?_|refine iF (fun h=>?_) (fun h=>?_)|refine aA ?_|refine aS ?_|refine aI (hn:=?_)|refine qR ?_|refine qS ?_|exact ⟨rfl,rfl⟩|fail)
   exact L_ret (RetQ.pick [0,1,2] rfl rfl rfl rfl ⟨rfl,rfl⟩)
  ·-- room
   have e3:(xs.take i).length=i:=by rw [List.length_take]; omega
   have e5:min 1 (n+1-i)=1:=by omega
   have y1:(xs.take (i+1)++xs.drop i).take i=xs.take i:=by rw [List.take_append_of_le_length (by rw [List.length_take]; omega),List.take_take,Nat.min_eq_left (by omega)]
   have y2:(xs.take (i+1)++xs.drop i).drop (i+1)=xs.drop i:=by rw [List.drop_append_of_le_length (by rw [List.length_take]; omega),List.drop_of_length_le (by rw [List.length_take]; omega),List.nil_append]
   have yl:(xs.take (i+1)++xs.drop i).length=n+1:=by rw [List.length_append,List.length_take,List.length_drop]; omega
   have hne:rowsC Bk.cells xs++zs≠[]:=by intro e; have:=congrArg List.length e; rw [List.length_append,hzl] at this; simp at this
   repeat' (first|refine qN ?_|refine dN ?_|refine dR ?_|refine d0 ?_|refine rT ?_|refine qT ?_|refine qU ?_|refine qL ?_|refine qK ?_|refine iF (fun h=>?_) (fun h=>?_)|refine S_Q [] rfl rfl (QY.slc0 (lo':=0) (hi':=n+1) rfl rfl rfl (by omega) (by omega)) ?_|refine S_Q [] rfl rfl (QY.slc0 (lo':=i+1) (hi':=n+1) rfl rfl rfl (by omega) (by omega)) ?_|(refine eE rfl rfl (EW.ovl (bx:=1) (b:=2) rfl ovlB_run hTT (by kernel_rfl) rfl rfl rfl rfl (by decide) (by omega) hne (by decide)) ?_; conv=>whnf)|refine aA ?_|refine aS ?_|refine aI (hn:=?_)|refine qR ?_|refine qS ?_|exact ⟨rfl,rfl⟩|fail)
   all_goals first | (exfalso; omega) | skip
   refine S_wk [] rfl (wk_one (a:=a) (b:=1) Bk.ok (by decide) rfl) ?_
   repeat' (first|refine qN ?_|refine dN ?_|refine dR ?_|refine d0 ?_|refine rT ?_|refine qT ?_|refine qU ?_|refine qL ?_|refine qK ?_|refine iF (fun h=>?_) (fun h=>?_)|refine S_Q [] rfl rfl (QY.slc0 (lo':=i+1) (hi':=n+1) rfl rfl rfl (by omega) (by omega)) ?_|refine S_Q [] rfl rfl (QY.slc0 (lo':=i) (hi':=n+1) rfl rfl rfl (by omega) (by omega)) ?_|refine aA ?_|refine aS ?_|refine aI (hn:=?_)|refine qR ?_|refine qS ?_|exact ⟨rfl,rfl⟩|fail)
   refine eE rfl rfl (EW.copyUp (n:=n) (i:=i) (xs:=xs) (zs:=zs) Bk.ok rfl (by kernel_rfl) rfl rfl rfl e1 rfl hn hlt hzl (by decide)) ?_
   conv=>whnf
   repeat' (first|refine qN ?_|refine dN ?_|refine dR ?_|refine d0 ?_|refine rT ?_|refine qT ?_|refine qU ?_|refine qL ?_|refine qK ?_|refine iF (fun h=>?_) (fun h=>?_)|refine S_Q [] rfl rfl (QY.slc0 (lo':=i) (hi':=n+1) rfl rfl rfl (by omega) (by omega)) ?_|refine aA ?_|refine aS ?_|refine aI (hn:=?_)|refine qR ?_|refine qS ?_|exact ⟨rfl,rfl⟩|fail)
   refine eE rfl rfl ((EW.copyg (i:=i) (j:=0) (xs:=xs.take (i+1)++xs.drop i) (ys:=[a]) Bk.ok rfl (by kernel_rfl) rfl rfl rfl rfl (by omega) (by simp) (by decide)).mono fun v K h=>(⟨h.1,h.2.trans (by rw [e5,y1,y2]; rfl)⟩:v=.int .i64 ((min 1 (n+1-i):Nat):Int)∧K=[.dead,.gro 2 (rowsC Bk.cells [a]),.gro 2 (rowsC Bk.cells (xs.take i++[a]++xs.drop i))])) ?_
   conv=>whnf
   refine S_wk [] rfl (wk_dead 1 rfl) ?_
   repeat' (first|refine qN ?_|refine dN ?_|refine d0 ?_|refine qT ?_|refine qU ?_|refine qL ?_|refine qK ?_|refine iF (fun h=>?_) (fun h=>?_)|refine aA ?_|refine aS ?_|refine aI (hn:=?_)|refine qR ?_|refine qS ?_|exact ⟨rfl,rfl⟩|fail)
   exact L_ret (RetQ.pick [0,1,2] rfl rfl rfl rfl ⟨rfl,rfl⟩)
end Go.Proofs.Ythgmdlmeeebfiaa
end
section
namespace Go.Proofs.Ythgmdlmeeebfiaa
open Go Go.Tum
set_option maxRecDepth 4000
structure Sp where
 ma:Int
 ar:Int
 lv:List Bk
 lz:Nat
 fr:List Int
 fz:Nat
def lrow (s:Sp):List Bk:=s.lv++List.replicate s.lz B0
def frow (s:Sp):List Int:=s.fr++List.replicate s.fz 0
def spV (bl bf:Nat) (s:Sp):Value:=.agg ⟨[.int .i64 s.ma,.int .i64 s.ar,slC bl s.lv.length (s.lv.length+s.lz),slC bf s.fr.length (s.fr.length+s.fz)]⟩
def spB (s:Sp):LH:=[.gro 2 (rowsC Bk.cells (lrow s)),.gro 1 (rowsC intC (frow s))]
structure SOk (s:Sp):Prop where
 ma:0≤s.ma∧s.ma≤8191
 ar:0≤s.ar∧s.ar≤8191
 ls:(s.lv.map Bk.at_).Pairwise (· < ·)
 li:∀ x∈s.lv,x.In
 fs:s.fr.Pairwise (· < ·)
 fi:∀ x∈s.fr,0≤x∧x≤65536
 ll:s.lv.length+s.lz≤1000
 fl:s.fr.length+s.fz≤1000
theorem lrow_take (s:Sp):(lrow s).take s.lv.length=s.lv:=by rw [lrow,List.take_append_of_le_length (Nat.le_refl _),List.take_length]
theorem frow_take (s:Sp):(frow s).take s.fr.length=s.fr:=by rw [frow,List.take_append_of_le_length (Nat.le_refl _),List.take_length]
theorem lrow_length (s:Sp):(lrow s).length=s.lv.length+s.lz:=by simp [lrow]
theorem frow_length (s:Sp):(frow s).length=s.fr.length+s.fz:=by simp [frow]
theorem lrow_in {s:Sp} (h:SOk s):∀ x∈lrow s,x.In:=fun x hx=>by
 rcases List.mem_append.1 hx with hx | hx
 ·exact h.li x hx
 ·rw [List.eq_of_mem_replicate hx]; exact ⟨by decide,by decide,by decide,by decide⟩
structure Cl where
 free:Bool
 arg:Int
 at_:Int
 fault:Int
def Cl.cells (c:Cl):List Value:=[.bool c.free,.int .i64 c.arg,.int .i64 c.at_,.int .i64 c.fault]
def clV (c:Cl):Value:=.agg ⟨c.cells⟩
def keys (l:List Bk):List Int:=l.map Bk.at_
theorem find_tr (s:Sp) (h:SOk s) (t:Int):Tr Try.prog 38 [spV 0 1 s,.int .i64 t] (spB s) (fun v K=>v=.tuple ⟨[.int .i64 (lw (keys s.lv) t),.bool (decide (t∈keys s.lv))]⟩∧K=spB s):=by
 have hF:=bsF_tr (lrow s) s.lv.length (s.lv.length+s.lz) (by rw [lrow_length]; omega) (by rw [lrow_length]; have:=h.ll; omega) ⟨t,0⟩ (by rw [lrow_take]; exact h.ls)
 rw [lrow_take] at hF
 refine Tr.of row_spec_State_find_ok rfl ?_
 repeat' (first|refine qN ?_|refine dN ?_|refine dR ?_|refine d0 ?_|refine rT ?_|refine cP [0] (hF) ?_|refine aI (hn:=?_)|refine qR ?_|refine qS ?_|exact ⟨rfl,rfl⟩|fail)
theorem meets_tr (s:Sp) (h:SOk s) (a n:Int) (ha:0≤a∧a≤65536):Tr Try.prog 67 [spV 0 1 s,.int .i64 a,.int .i64 n] (spB s) (fun v K=>v=.bool (s.lv.any (meetB a n))∧K=spB s):=by
 have hF:=contF_tr (lrow s) s.lv.length (s.lv.length+s.lz) (by rw [lrow_length]; omega) (by rw [lrow_length]; have:=h.ll; omega) a n (lrow_in h) ha
 rw [lrow_take] at hF
 refine Tr.of row_spec_State_meets_ok rfl ?_
 repeat' (first|refine qN ?_|refine dN ?_|refine dR ?_|refine d0 ?_|refine rT ?_|refine cP [0,3,4] (hF) ?_|refine aI (hn:=?_)|refine qR ?_|refine qS ?_|exact ⟨rfl,rfl⟩|fail)
def mallocB (s:Sp) (c:Cl):Bool:=decide (c.fault=0) && (decide (1≤c.arg) && (decide (c.arg≤4096) && (decide (c.at_ = -1) || (decide (0≤c.at_) && (decide (c.at_ % 16=0) && (decide (c.at_≤s.ma-c.arg) && !s.lv.any (meetB c.at_ c.arg)))))))
theorem malloc_tr (s:Sp) (hs:SOk s) (c:Cl):Tr Try.prog 46 [spV 0 1 s,clV c] (spB s) (fun v K=>v=.bool (mallocB s c)∧K=spB s):=by
 have h0:=hs.ma
 refine Tr.of row_spec_State_malloc_ok rfl ?_
 repeat' (first|refine qN ?_|refine dN ?_|refine dR ?_|refine d0 ?_|refine rT ?_|refine qT ?_|refine qU ?_|refine qL ?_|refine qK ?_|refine iF (fun h=>?_) (fun h=>?_)|refine cP [0,1] (meets_tr s hs c.at_ c.arg (by omega)) ?_|refine aS ?_|refine aI (hn:=?_)|refine aR ?_|refine sP 8 (fun h=>?_) (fun h=>?_)|refine sP 13 (fun h=>?_) (fun h=>?_)|refine sP 24 (fun h=>?_) (fun h=>?_)|refine sP 30 (fun h=>?_) (fun h=>?_)|refine sP 41 (fun h=>?_) (fun h=>?_)|refine qR ?_|refine qS ?_|exact ⟨rfl,rfl⟩|fail)
 all_goals (refine ⟨congrArg Value.bool ?_,rfl⟩; clear h0; simp_all [mallocB]; try omega)
theorem vt2 {k:IntKind} {a c:Int} {b d:Bool} (h1:a=c) (h2:b=d):Value.tuple ⟨[.int k a,.bool b]⟩=Value.tuple ⟨[.int k c,.bool d]⟩:=by rw [h1,h2]
def mustI (s:Sp) (t:Int):Int:=if t<0∨t≥s.ar then 1 else if t≥s.ma then 2 else if t∈keys s.lv then 0 else 3
def mustB (s:Sp) (t:Int):Bool:=decide (t<0∨t≥s.ar) || (decide (t≥s.ma) || decide (t∈keys s.lv))
theorem must_tr (s:Sp) (hs:SOk s) (t:Int):Tr Try.prog 65 [spV 0 1 s,.int .i64 t] (spB s) (fun v K=>v=.tuple ⟨[.int .i64 (mustI s t),.bool (mustB s t)]⟩∧K=spB s):=by
 have hF:=find_tr s hs t
 refine Tr.of row_spec_State_must_ok rfl ?_
 repeat' (first|refine qN ?_|refine dN ?_|refine dR ?_|refine d0 ?_|refine qB ?_|refine rT ?_|refine qT ?_|refine qU ?_|refine qL ?_|refine qK ?_|refine iF (fun h=>?_) (fun h=>?_)|refine cP [0,1] (hF) ?_|refine aI (hn:=?_)|refine sP 17 (fun h=>?_) (fun h=>?_)|refine qR ?_|refine qS ?_|exact ⟨rfl,rfl⟩|fail)
 all_goals
  refine ⟨vt2 ?_ ?_,rfl⟩
  ·clear hF; unfold mustI; (repeat' split) <;> first | rfl | omega | simp_all
  ·clear hF; unfold mustB; first | (simp_all; done) | (simp_all; omega)
def freeB (s:Sp) (c:Cl):Bool :=
 decide (c.at_ = -1) && (if mustB s c.arg then decide (c.fault=mustI s c.arg) else if c.fault=4 then (match s.lv with | x::_=>decide (x.at_<c.arg) | []=>false) else if c.fault=5 then s.fr.any (c.arg == ·) else decide (c.fault=3))
theorem free_tr (s:Sp) (hs:SOk s) (c:Cl):Tr Try.prog 45 [spV 0 1 s,clV c] (spB s) (fun v K=>v=.bool (freeB s c)∧K=spB s):=by
 have hF:=must_tr s hs c.arg
 have hC:=contains_tr (frow s) s.fr.length (s.fr.length+s.fz) (by rw [frow_length]; omega) (by rw [frow_length]; have:=hs.fl; omega) c.arg
 rw [frow_take] at hC
 refine Tr.of row_spec_State_free_ok rfl ?_
 cases hm:mustB s c.arg
 ·rw [hm] at hF
  cases hl:s.lv with
  | nil =>
   have hl0:((s.lv.length:Nat):Int)=0:=by rw [hl]; rfl
   repeat' (first|refine qN ?_|refine dN ?_|refine dR ?_|refine d0 ?_|refine qB ?_|refine rT ?_|refine qT ?_|refine qU ?_|refine qL ?_|refine qK ?_|refine iF (fun h=>?_) (fun h=>?_)|refine aX ?_|refine cP [0,1] (hF) ?_|refine cP [1] (hC) ?_|refine aI (hn:=?_)|refine sP 32 (fun h=>?_) (fun h=>?_)|refine qR ?_|refine qS ?_|exact ⟨rfl,rfl⟩|fail)
   all_goals first | (exfalso; omega)|(refine ⟨congrArg Value.bool ?_,rfl⟩; clear hF hC; simp_all [freeB]; done)|(refine ⟨congrArg Value.bool ?_,rfl⟩; clear hF hC; rw [Bool.eq_iff_iff]; simp_all [freeB]; done)
  | cons x r =>
   have hx:(lrow s)[0]?=some x:=by simp [lrow,hl]
   have hl0:0<s.lv.length:=by rw [hl]; exact Nat.succ_pos _
   repeat' (first|refine qN ?_|refine dN ?_|refine dR ?_|refine d0 ?_|refine qB ?_|refine rT ?_|refine qT ?_|refine qU ?_|refine qL ?_|refine qK ?_|refine iF (fun h=>?_) (fun h=>?_)|refine aX ?_|refine cP [0,1] (hF) ?_|refine cP [1] (hC) ?_|refine S_Q [] rfl rfl (QY.idxN (k:=0) rfl rfl hl0) ?_|refine S_Q [] rfl rfl (QY.ldF (k:=0) (j:=0) Bk.ok rfl rfl hx rfl rfl) ?_|refine aI (hn:=?_)|refine sP 32 (fun h=>?_) (fun h=>?_)|refine qR ?_|refine qS ?_|exact ⟨rfl,rfl⟩|fail)
   all_goals first | (exfalso; omega)|(refine ⟨congrArg Value.bool ?_,rfl⟩; clear hF hC; simp_all [freeB]; done)|(refine ⟨congrArg Value.bool ?_,rfl⟩; clear hF hC; rw [Bool.eq_iff_iff]; simp_all [freeB]; done)
 ·rw [hm] at hF
  repeat' (first|refine qN ?_|refine dN ?_|refine dR ?_|refine d0 ?_|refine qB ?_|refine rT ?_|refine qT ?_|refine qU ?_|refine qL ?_|refine qK ?_|refine iF (fun h=>?_) (fun h=>?_)|refine aX ?_|refine cP [0,1] (hF) ?_|refine aI (hn:=?_)|refine sP 32 (fun h=>?_) (fun h=>?_)|refine qR ?_|refine qS ?_|exact ⟨rfl,rfl⟩|fail)
  all_goals first | (exfalso; omega)|(refine ⟨congrArg Value.bool ?_,rfl⟩; clear hF hC; simp_all [freeB]; done)|(refine ⟨congrArg Value.bool ?_,rfl⟩; clear hF hC; rw [Bool.eq_iff_iff]; simp_all [freeB]; done)
def mayB (s:Sp) (c:Cl):Bool:=if c.free then freeB s c else mallocB s c
theorem may_tr (s:Sp) (hs:SOk s) (c:Cl):Tr Try.prog 18 [spV 0 1 s,clV c] (spB s) (fun v K=>v=.bool (mayB s c)∧K=spB s):=by
 have h1:=free_tr s hs c
 have h2:=malloc_tr s hs c
 refine Tr.of row_spec_State_May_ok rfl ?_
 rcases hc:c with ⟨free,arg,at_,fault⟩
 rw [hc] at h1 h2
 cases free
 all_goals
  repeat' (first|refine qN ?_|refine dN ?_|refine dR ?_|refine d0 ?_|refine rT ?_|refine qT ?_|refine qU ?_|refine qL ?_|refine qK ?_|refine iF (fun h=>?_) (fun h=>?_)|refine cP [0,1] (h1) ?_|refine cP [0,1] (h2) ?_|refine aI (hn:=?_)|refine qR ?_|refine qS ?_|exact ⟨rfl,rfl⟩|fail)
end Go.Proofs.Ythgmdlmeeebfiaa
end
section
namespace Go.Proofs.Ythgmdlmeeebfiaa
open Go Go.Tum
set_option maxRecDepth 4000
def insL (l:List Bk) (x:Bk):List Bk:=l.take (lw (keys l) x.at_)++[x]++l.drop (lw (keys l) x.at_)
def insN (l:List Int) (x:Int):List Int:=l.take (lw l x)++[x]++l.drop (lw l x)
def delL (l:List Bk) (t:Int):List Bk:=l.take (lw (keys l) t)++l.drop (lw (keys l) t+1)
def keepN (l:List Int) (a n:Int):List Int:=l.filter (fun x => !inB a n x)
def nextS (s:Sp) (c:Cl):Sp :=
 if c.free=true∧c.fault=0 then ⟨s.ma,s.ar,delL s.lv c.arg,1,if c.arg∈s.fr then s.fr else insN s.fr c.arg,0⟩
 else if c.free=false∧c.at_ ≠ -1 then ⟨s.ma,s.ar,insL s.lv ⟨c.at_,c.arg⟩,0,keepN s.fr c.at_ c.arg,s.fr.length-(keepN s.fr c.at_ c.arg).length⟩
 else ⟨s.ma,s.ar,s.lv,0,s.fr,0⟩
theorem may_free0 {s:Sp} {arg at_:Int} (h:mayB s ⟨true,arg,at_,0⟩=true):arg∈keys s.lv:=by
 simp only [mayB,freeB,if_true,Bool.and_eq_true,decide_eq_true_eq] at h
 obtain ⟨_,h⟩:=h
 split at h
 ·have h:(0:Int)=mustI s arg:=by simpa using h
  unfold mustI at h
  (repeat' split at h) <;> first | omega | assumption
 ·rw [if_neg (by decide),if_neg (by decide)] at h
  simp at h
theorem may_malloc {s:Sp} {arg at_ fault:Int} (h:mayB s ⟨false,arg,at_,fault⟩=true) (ha:at_ ≠ -1):fault=0∧1≤arg∧arg≤4096∧0≤at_∧at_ % 16=0∧at_≤s.ma-arg∧s.lv.any (meetB at_ arg)=false:=by
 simp only [mayB,mallocB,Bool.false_eq_true,if_false,Bool.and_eq_true,Bool.or_eq_true,decide_eq_true_eq,Bool.not_eq_true'] at h
 obtain ⟨h1,h2,h3,h4 | h4⟩:=h
 ·exact absurd h4 ha
 ·exact ⟨h1,h2,h3,h4.1,h4.2.1,h4.2.2.1,h4.2.2.2⟩
theorem L_mid {P:Program} {n0:NA} {a:MC} {Q:Exit→Env→LH→Prop} {K':Env→LH→Prop} {l:Env} {L:LH} (K:Env→LH→Prop) (ha:LWp P n0 a (thenL (Nx n0 K) Q) l L) (hb:∀ l L,K l L→K' l L):LWp P n0 a (thenL (Nx n0 K') Q) l L:=by
 refine ha.mono fun e l L h=>?_
 cases e with
 | normal=>exact Nx.mono h hb
 | ret=>exact h
 | exit i=>exact h
 | goto i=>exact h
 | panic c=>exact h
 | outgrown=>exact h
theorem next_no (s:Sp) (hs:SOk s) (c:Cl) (hm:mayB s c=false):Tr Try.prog 15 [spV 0 1 s,clV c] (spB s) (fun v K=>v=.tuple ⟨[.agg ⟨[.int .i64 0,.int .i64 0,.slice none 0 0,.slice none 0 0]⟩,.int .i64 8]⟩∧K=spB s):=by
 have h1:=may_tr s hs c
 rw [hm] at h1
 refine Tr.of row_spec_State_Next_ok rfl ?_
 repeat' (first|refine qN ?_|refine dN ?_|refine dR ?_|refine d0 ?_|refine qB ?_|refine rT ?_|refine qT ?_|refine qU ?_|refine qL ?_|refine qK ?_|refine iF (fun h=>?_) (fun h=>?_)|refine cP [0,1] (h1) ?_|refine aA ?_|refine aI (hn:=?_)|refine sP 29 (fun h=>?_) (fun h=>?_)|refine sP 70 (fun h=>?_) (fun h=>?_)|refine qR ?_|refine qS ?_|exact ⟨rfl,rfl⟩|fail)
abbrev s0 (s:Sp):Sp:=⟨s.ma,s.ar,s.lv,0,s.fr,0⟩
theorem s0_ok {s:Sp} (h:SOk s):SOk (s0 s):=⟨h.ma,h.ar,h.ls,h.li,h.fs,h.fi,by have:=h.ll; show s.lv.length+0≤1000; omega,by have:=h.fl; show s.fr.length+0≤1000; omega⟩
theorem lrow_s0 (s:Sp):lrow (s0 s)=s.lv:=by simp [lrow]
theorem frow_s0 (s:Sp):frow (s0 s)=s.fr:=by simp [frow]
def NX (s:Sp) (c:Cl):LH:=spB s++[.cells 0 [.int .i64 s.ma,.int .i64 s.ar,slC 0 s.lv.length (s.lv.length+s.lz),slC 1 s.fr.length (s.fr.length+s.fz)],.cells 0 c.cells,.cells 0 [.int .i64 0,.int .i64 0,.slice none 0 0,.slice none 0 0],
 .gro 2 (rowsC Bk.cells (lrow (s0 s))),.gro 1 (rowsC intC (frow (s0 s))),.cells 0 [.int .i64 s.ma,.int .i64 s.ar,slC 5 s.lv.length s.lv.length,slC 6 s.fr.length s.fr.length]]
abbrev pp (k:Nat):Value:=.pointer (some ⟨k,0,none⟩)
theorem clone2B_tr (s:Sp) (hs:SOk s):Tr Try.prog 36 [slC 0 s.lv.length (s.lv.length+s.lz)] [.gro 2 (rowsC Bk.cells (lrow s))] (fun v K=>v=slC 1 s.lv.length s.lv.length∧K=[.gro 2 (rowsC Bk.cells (lrow s)),.gro 2 (rowsC Bk.cells (lrow (s0 s)))]):=by
 have h:=cloneB_tr (lrow s) s.lv.length (s.lv.length+s.lz) (by rw [lrow_length]; omega) (by rw [lrow_length]; have:=hs.ll; omega)
 rw [lrow_take] at h
 rw [lrow_s0]
 exact h
theorem clone2I_tr (s:Sp) (hs:SOk s):Tr Try.prog 37 [slC 0 s.fr.length (s.fr.length+s.fz)] [.gro 1 (rowsC intC (frow s))] (fun v K=>v=slC 1 s.fr.length s.fr.length∧K=[.gro 1 (rowsC intC (frow s)),.gro 1 (rowsC intC (frow (s0 s)))]):=by
 have h:=cloneI_tr (frow s) s.fr.length (s.fr.length+s.fz) (by rw [frow_length]; omega) (by rw [frow_length]; have:=hs.fl; omega)
 rw [frow_take] at h
 rw [frow_s0]
 exact h
theorem ins2I_tr (s:Sp) (hs:SOk s) (t:Int):Tr Try.prog 41 [slC 0 s.fr.length s.fr.length,.int .i64 (lw s.fr t),slC 1 1 1] [.gro 1 (rowsC intC (frow (s0 s))),.cells 0 [.int .i64 t]]
  (fun v K=>v=slC 2 (insN s.fr t).length (insN s.fr t).length∧K=[.dead,.dead,.gro 1 (rowsC intC (insN s.fr t++List.replicate 0 0))]):=by
 have hl:=lw_len s.fr t
 have h:=insI_tr s.fr s.fr.length rfl (by have:=hs.fl; omega) (lw s.fr t) hl t
 have e1:s.fr.length+1=(insN s.fr t).length:=by simp [insN]; omega
 rw [e1] at h
 rw [frow_s0,show insN s.fr t++List.replicate 0 (0:Int)=insN s.fr t by simp]
 exact h
theorem keys_len (l:List Bk):(keys l).length=l.length:=by simp [keys]
theorem ins2B_tr (s:Sp) (hs:SOk s) (x:Bk):Tr Try.prog 42 [slC 0 s.lv.length s.lv.length,.int .i64 (lw (keys s.lv) x.at_),slC 1 1 1] [.gro 2 (rowsC Bk.cells (lrow (s0 s))),.cells 0 x.cells]
  (fun v K=>v=slC 2 (insL s.lv x).length (insL s.lv x).length∧K=[.dead,.dead,.gro 2 (rowsC Bk.cells (insL s.lv x++List.replicate 0 B0))]):=by
 have hl:=lw_len (keys s.lv) x.at_
 rw [keys_len] at hl
 have h:=insB_tr s.lv s.lv.length rfl (by have:=hs.ll; omega) (lw (keys s.lv) x.at_) hl x
 have e1:s.lv.length+1=(insL s.lv x).length:=by simp [insL]; omega
 rw [e1] at h
 rw [lrow_s0,show insL s.lv x++List.replicate 0 B0=insL s.lv x by simp]
 exact h
theorem delete2_tr (s:Sp) (hs:SOk s) (t:Int) (ht:t∈keys s.lv):Tr Try.prog 39 [slC 0 s.lv.length s.lv.length,.int .i64 (lw (keys s.lv) t),.int .i64 ((lw (keys s.lv) t:Int)+1)] [.gro 2 (rowsC Bk.cells (lrow (s0 s)))]
  (fun v K=>v=slC 0 (delL s.lv t).length ((delL s.lv t).length+1)∧K=[.gro 2 (rowsC Bk.cells (delL s.lv t++List.replicate 1 B0))]):=by
 have hm:lw (keys s.lv) t<(keys s.lv).length:=(List.getElem?_eq_some_iff.1 ((mem_at hs.ls).1 ht)).1
 rw [keys_len] at hm
 obtain ⟨m,hm⟩:∃ m,s.lv.length=lw (keys s.lv) t+1+m:=⟨s.lv.length-(lw (keys s.lv) t+1),by omega⟩
 have h:=delete_tr s.lv (lw (keys s.lv) t) m hm (by have:=hs.ll; omega)
 have e1:lw (keys s.lv) t+m=(delL s.lv t).length:=by simp [delL]; omega
 have e2:lw (keys s.lv) t+1+m=(delL s.lv t).length+1:=by omega
 rw [e1,e2] at h
 rw [lrow_s0,hm,e2]
 exact h
theorem del2F_tr (s:Sp) (hs:SOk s) (a n:Int) (ha:0≤a∧a≤65536):Tr Try.prog 43 [slC 0 s.fr.length s.fr.length,nxF] [.gro 1 (rowsC intC (frow (s0 s))),clC a n]
  (fun v K=>v=slC 0 (keepN s.fr a n).length ((keepN s.fr a n).length+(s.fr.length-(keepN s.fr a n).length))∧K=[.gro 1 (rowsC intC (keepN s.fr a n++List.replicate (s.fr.length-(keepN s.fr a n).length) 0)),clC a n]):=by
 have h:=deleteF_tr s.fr s.fr.length rfl (by have:=hs.fl; omega) a n hs.fi ha (keepN s.fr a n) rfl
 have e1:(keepN s.fr a n).length+(s.fr.length-(keepN s.fr a n).length)=s.fr.length:=by
  have:(keepN s.fr a n).length≤s.fr.length:=List.length_filter_le ..
  omega
 rw [frow_s0,e1]
 exact h
theorem bs2_tr (s:Sp) (hs:SOk s) (t:Int):Tr Try.prog 40 [slC 0 s.fr.length s.fr.length,.int .i64 t] [.gro 1 (rowsC intC (frow (s0 s)))] (fun v K=>v=.tuple ⟨[.int .i64 (lw s.fr t),.bool (decide (t∈s.fr))]⟩∧K=[.gro 1 (rowsC intC (frow (s0 s)))]):=by
 have h:=bsI_tr s.fr s.fr.length s.fr.length (Nat.le_refl _) (by have:=hs.fl; omega) t (by rw [List.take_length]; exact hs.fs)
 rw [List.take_length] at h
 rw [frow_s0]
 exact h
set_option maxHeartbeats 4000000 in
theorem next_free (s:Sp) (hs:SOk s) (arg at_:Int) (hm:mayB s ⟨true,arg,at_,0⟩=true):Tr Try.prog 15 [spV 0 1 s,clV ⟨true,arg,at_,0⟩] (spB s)
  (fun v K=>v=.tuple ⟨[spV 2 3 (nextS s ⟨true,arg,at_,0⟩),.int .i64 0]⟩∧K=spB s++spB (nextS s ⟨true,arg,at_,0⟩)):=by
 have h1:=may_tr s hs ⟨true,arg,at_,0⟩
 rw [hm] at h1
 have hB:=clone2B_tr s hs
 have hI:=clone2I_tr s hs
 have hF:=find_tr (s0 s) (s0_ok hs) arg
 have hD:=delete2_tr s hs arg (may_free0 hm)
 have hbs:=bs2_tr s hs arg
 have hins:=ins2I_tr s hs arg
 rw [show nextS s ⟨true,arg,at_,0⟩=⟨s.ma,s.ar,delL s.lv arg,1,if arg∈s.fr then s.fr else insN s.fr arg,0⟩ from if_pos ⟨rfl,rfl⟩]
 have hlw:lw (keys (s0 s).lv) arg≤1000:=Nat.le_trans (lw_len _ _) (by rw [keys_len]; have:=hs.ll; show s.lv.length≤1000; omega)
 refine Tr.of row_spec_State_Next_ok rfl ?_
 clear hm hs
 repeat' (first|refine qN ?_|refine dN ?_|refine dR ?_|refine d0 ?_|refine qB ?_|refine rT ?_|refine qT ?_|refine qU ?_|refine qL ?_|refine qK ?_|refine iF (fun h=>?_) (fun h=>?_)|refine cP [0,1] (h1) ?_|refine aA ?_|refine aI (hn:=?_)|refine sP 29 (fun h=>?_) (fun h=>?_)|refine sP 70 (fun h=>?_) (fun h=>?_)|refine qR ?_|refine qS ?_|exact ⟨rfl,rfl⟩|fail)
 refine L_mid (fun l L=>l=[(3,pp 3),(4,pp 4),(6,pp 7)]∧L=NX s ⟨true,arg,at_,0⟩) ?_ ?_
 ·repeat' (first|refine qN ?_|refine dN ?_|refine dR ?_|refine d0 ?_|refine qB ?_|refine rT ?_|refine qT ?_|refine qU ?_|refine qL ?_|refine qK ?_|refine iF (fun h=>?_) (fun h=>?_)|(refine cW [0] (hB) ?_; conv=>whnf)|(refine cW [1] (hI) ?_; conv=>whnf)|(refine S_Ed [] rfl rfl (EWd.new rfl) rfl rfl rfl ?_; rintro _ _ ⟨rfl,rfl⟩; refine ⟨(by repeat' (first|exact trivial|refine ⟨⟨qsafe_ok (st:=[]) rfl,Sure.of rfl⟩,?_⟩|refine ⟨.inl rfl,?_⟩|refine ⟨.inr ⟨qsafe_ok (st:=[]) rfl,Sure.of rfl⟩,?_⟩|refine ⟨⟨qsafe_ok (st:=[]) rfl,Sure.slice (by omega)⟩,?_⟩|refine ⟨.inr ⟨qsafe_ok (st:=[]) rfl,Sure.slice (by omega)⟩,?_⟩|refine ⟨.inr ⟨QY.neqB rfl (by kernel_rfl) rfl rfl,Sure.of rfl⟩,?_⟩|refine ⟨.inr ⟨QY.eqlB rfl (by kernel_rfl) rfl rfl,Sure.of rfl⟩,?_⟩ | fail)),LSt.nf ?_⟩; conv=>whnf)|refine L_rT ?_|refine L_regT ?_|refine P_lin rfl ?_|refine P_A [] rfl ?_ ?_|(refine P_Ed [] rfl rfl (EWd.callF [0] (hB) rfl rfl (by decide) (by repeat' (first|exact trivial|refine ⟨rfl,?_⟩ | fail)) rfl rfl rfl) rfl rfl rfl ?_; rintro _ _ ⟨rfl,rfl⟩; refine ⟨(by repeat' (first|exact trivial|refine ⟨⟨qsafe_ok (st:=[]) rfl,Sure.of rfl⟩,?_⟩|refine ⟨.inl rfl,?_⟩|refine ⟨.inr ⟨qsafe_ok (st:=[]) rfl,Sure.of rfl⟩,?_⟩|refine ⟨⟨qsafe_ok (st:=[]) rfl,Sure.slice (by omega)⟩,?_⟩|refine ⟨.inr ⟨qsafe_ok (st:=[]) rfl,Sure.slice (by omega)⟩,?_⟩|refine ⟨.inr ⟨QY.neqB rfl (by kernel_rfl) rfl rfl,Sure.of rfl⟩,?_⟩|refine ⟨.inr ⟨QY.eqlB rfl (by kernel_rfl) rfl rfl,Sure.of rfl⟩,?_⟩ | fail)),LPt.nf ?_⟩; conv=>whnf)|(refine P_Ed [] rfl rfl (EWd.callF [1] (hI) rfl rfl (by decide) (by repeat' (first|exact trivial|refine ⟨rfl,?_⟩ | fail)) rfl rfl rfl) rfl rfl rfl ?_; rintro _ _ ⟨rfl,rfl⟩; refine ⟨(by repeat' (first|exact trivial|refine ⟨⟨qsafe_ok (st:=[]) rfl,Sure.of rfl⟩,?_⟩|refine ⟨.inl rfl,?_⟩|refine ⟨.inr ⟨qsafe_ok (st:=[]) rfl,Sure.of rfl⟩,?_⟩|refine ⟨⟨qsafe_ok (st:=[]) rfl,Sure.slice (by omega)⟩,?_⟩|refine ⟨.inr ⟨qsafe_ok (st:=[]) rfl,Sure.slice (by omega)⟩,?_⟩|refine ⟨.inr ⟨QY.neqB rfl (by kernel_rfl) rfl rfl,Sure.of rfl⟩,?_⟩|refine ⟨.inr ⟨QY.eqlB rfl (by kernel_rfl) rfl rfl,Sure.of rfl⟩,?_⟩ | fail)),LPt.nf ?_⟩; conv=>whnf)|(refine P_Ed [] rfl rfl (EWd.new rfl) rfl rfl rfl ?_; rintro _ _ ⟨rfl,rfl⟩; refine ⟨(by repeat' (first|exact trivial|refine ⟨⟨qsafe_ok (st:=[]) rfl,Sure.of rfl⟩,?_⟩|refine ⟨.inl rfl,?_⟩|refine ⟨.inr ⟨qsafe_ok (st:=[]) rfl,Sure.of rfl⟩,?_⟩|refine ⟨⟨qsafe_ok (st:=[]) rfl,Sure.slice (by omega)⟩,?_⟩|refine ⟨.inr ⟨qsafe_ok (st:=[]) rfl,Sure.slice (by omega)⟩,?_⟩|refine ⟨.inr ⟨QY.neqB rfl (by kernel_rfl) rfl rfl,Sure.of rfl⟩,?_⟩|refine ⟨.inr ⟨QY.eqlB rfl (by kernel_rfl) rfl rfl,Sure.of rfl⟩,?_⟩ | fail)),LPt.nf ?_⟩; conv=>whnf)|refine aA ?_|refine aI (hn:=?_)|refine sP 29 (fun h=>?_) (fun h=>?_)|refine sP 70 (fun h=>?_) (fun h=>?_)|refine qR ?_|refine qS ?_|exact ⟨rfl,rfl⟩|fail)
  all_goals first
   |exact Nx.pick [3,4,6] [0,1,2,3,4,5,6,7] rfl rfl rfl ⟨rfl,rfl⟩
   |exact Nx.pick [3,4,6] [0,1,2,3,4,5,7,6] rfl rfl rfl ⟨rfl,rfl⟩
   |exact Nx.pick [3,4,6] [0,1,2,3,4,6,5,7] rfl rfl rfl ⟨rfl,rfl⟩
   |exact Nx.pick [3,4,6] [0,1,2,3,4,6,7,5] rfl rfl rfl ⟨rfl,rfl⟩
   |exact Nx.pick [3,4,6] [0,1,2,3,4,7,5,6] rfl rfl rfl ⟨rfl,rfl⟩
   |exact Nx.pick [3,4,6] [0,1,2,3,4,7,6,5] rfl rfl rfl ⟨rfl,rfl⟩
 ·rintro _ _ ⟨rfl,rfl⟩
  clear hB hI h1
  by_cases hin:arg∈s.fr
  ·rw [if_pos hin]
   rw [decide_eq_true hin] at hbs
   repeat' (first|refine qN ?_|refine dN ?_|refine d0 ?_|refine qB ?_|refine qT ?_|refine qU ?_|refine qL ?_|refine qK ?_|refine iF (fun h=>?_) (fun h=>?_)|refine cP [5,6] (hF) ?_|(refine cW [5] (hD) ?_; conv=>whnf)|refine cP [6] (hbs) ?_|refine aA ?_|refine aI (hn:=?_)|refine sP 29 (fun h=>?_) (fun h=>?_)|refine sP 70 (fun h=>?_) (fun h=>?_)|refine qR ?_|refine qS ?_|exact ⟨rfl,rfl⟩|fail)
   exact L_ret (RetQ.pick [0,1,5,6] rfl rfl rfl rfl ⟨rfl,rfl⟩)
  ·rw [if_neg hin]
   rw [decide_eq_false hin] at hbs
   repeat' (first|refine qN ?_|refine dN ?_|refine d0 ?_|refine qB ?_|refine qT ?_|refine qU ?_|refine qL ?_|refine qK ?_|refine iF (fun h=>?_) (fun h=>?_)|refine cP [5,6] (hF) ?_|(refine cW [5] (hD) ?_; conv=>whnf)|refine cP [6] (hbs) ?_|(refine cF [6,8] (hins) ?_; conv=>whnf)|refine aA ?_|refine aI (hn:=?_)|refine sP 29 (fun h=>?_) (fun h=>?_)|refine sP 70 (fun h=>?_) (fun h=>?_)|refine qR ?_|refine qS ?_|exact ⟨rfl,rfl⟩|fail)
   exact L_ret (RetQ.pick [0,1,5,9] rfl rfl rfl rfl ⟨rfl,rfl⟩)
set_option maxHeartbeats 4000000 in
theorem next_malloc (s:Sp) (hs:SOk s) (arg at_:Int) (hat:at_ ≠ -1) (hm:mayB s ⟨false,arg,at_,0⟩=true):Tr Try.prog 15 [spV 0 1 s,clV ⟨false,arg,at_,0⟩] (spB s)
  (fun v K=>v=.tuple ⟨[spV 2 3 (nextS s ⟨false,arg,at_,0⟩),.int .i64 0]⟩∧K=spB s++spB (nextS s ⟨false,arg,at_,0⟩)):=by
 have h1:=may_tr s hs ⟨false,arg,at_,0⟩
 rw [hm] at h1
 obtain ⟨_,m1,m2,m3,m4,m5,_⟩:=may_malloc hm hat
 have hma:=hs.ma
 have hB:=clone2B_tr s hs
 have hI:=clone2I_tr s hs
 have hF:=find_tr (s0 s) (s0_ok hs) at_
 have hins:=ins2B_tr s hs ⟨at_,arg⟩
 have hD:=del2F_tr s hs at_ arg (by omega)
 rw [show nextS s ⟨false,arg,at_,0⟩=⟨s.ma,s.ar,insL s.lv ⟨at_,arg⟩,0,keepN s.fr at_ arg,s.fr.length-(keepN s.fr at_ arg).length⟩ from (if_neg (fun h=>by cases h.1)).trans (if_pos ⟨rfl,hat⟩)]
 refine Tr.of row_spec_State_Next_ok rfl ?_
 clear hm hs m1 m2 m3 m4 m5 hma
 repeat' (first|refine qN ?_|refine dN ?_|refine dR ?_|refine d0 ?_|refine qB ?_|refine rT ?_|refine qT ?_|refine qU ?_|refine qL ?_|refine qK ?_|refine iF (fun h=>?_) (fun h=>?_)|refine cP [0,1] (h1) ?_|refine aA ?_|refine aI (hn:=?_)|refine sP 29 (fun h=>?_) (fun h=>?_)|refine sP 70 (fun h=>?_) (fun h=>?_)|refine qR ?_|refine qS ?_|exact ⟨rfl,rfl⟩|fail)
 refine L_mid (fun l L=>l=[(3,pp 3),(4,pp 4),(6,pp 7)]∧L=NX s ⟨false,arg,at_,0⟩) ?_ ?_
 ·repeat' (first|refine qN ?_|refine dN ?_|refine dR ?_|refine d0 ?_|refine qB ?_|refine rT ?_|refine qT ?_|refine qU ?_|refine qL ?_|refine qK ?_|refine iF (fun h=>?_) (fun h=>?_)|(refine cW [0] (hB) ?_; conv=>whnf)|(refine cW [1] (hI) ?_; conv=>whnf)|(refine S_Ed [] rfl rfl (EWd.new rfl) rfl rfl rfl ?_; rintro _ _ ⟨rfl,rfl⟩; refine ⟨(by repeat' (first|exact trivial|refine ⟨⟨qsafe_ok (st:=[]) rfl,Sure.of rfl⟩,?_⟩|refine ⟨.inl rfl,?_⟩|refine ⟨.inr ⟨qsafe_ok (st:=[]) rfl,Sure.of rfl⟩,?_⟩|refine ⟨⟨qsafe_ok (st:=[]) rfl,Sure.slice (by omega)⟩,?_⟩|refine ⟨.inr ⟨qsafe_ok (st:=[]) rfl,Sure.slice (by omega)⟩,?_⟩|refine ⟨.inr ⟨QY.neqB rfl (by kernel_rfl) rfl rfl,Sure.of rfl⟩,?_⟩|refine ⟨.inr ⟨QY.eqlB rfl (by kernel_rfl) rfl rfl,Sure.of rfl⟩,?_⟩ | fail)),LSt.nf ?_⟩; conv=>whnf)|refine L_rT ?_|refine L_regT ?_|refine P_lin rfl ?_|refine P_A [] rfl ?_ ?_|(refine P_Ed [] rfl rfl (EWd.callF [0] (hB) rfl rfl (by decide) (by repeat' (first|exact trivial|refine ⟨rfl,?_⟩ | fail)) rfl rfl rfl) rfl rfl rfl ?_; rintro _ _ ⟨rfl,rfl⟩; refine ⟨(by repeat' (first|exact trivial|refine ⟨⟨qsafe_ok (st:=[]) rfl,Sure.of rfl⟩,?_⟩|refine ⟨.inl rfl,?_⟩|refine ⟨.inr ⟨qsafe_ok (st:=[]) rfl,Sure.of rfl⟩,?_⟩|refine ⟨⟨qsafe_ok (st:=[]) rfl,Sure.slice (by omega)⟩,?_⟩|refine ⟨.inr ⟨qsafe_ok (st:=[]) rfl,Sure.slice (by omega)⟩,?_⟩|refine ⟨.inr ⟨QY.neqB rfl (by kernel_rfl) rfl rfl,Sure.of rfl⟩,?_⟩|refine ⟨.inr ⟨QY.eqlB rfl (by kernel_rfl) rfl rfl,Sure.of rfl⟩,?_⟩ | fail)),LPt.nf ?_⟩; conv=>whnf)|(refine P_Ed [] rfl rfl (EWd.callF [1] (hI) rfl rfl (by decide) (by repeat' (first|exact trivial|refine ⟨rfl,?_⟩ | fail)) rfl rfl rfl) rfl rfl rfl ?_; rintro _ _ ⟨rfl,rfl⟩; refine ⟨(by repeat' (first|exact trivial|refine ⟨⟨qsafe_ok (st:=[]) rfl,Sure.of rfl⟩,?_⟩|refine ⟨.inl rfl,?_⟩|refine ⟨.inr ⟨qsafe_ok (st:=[]) rfl,Sure.of rfl⟩,?_⟩|refine ⟨⟨qsafe_ok (st:=[]) rfl,Sure.slice (by omega)⟩,?_⟩|refine ⟨.inr ⟨qsafe_ok (st:=[]) rfl,Sure.slice (by omega)⟩,?_⟩|refine ⟨.inr ⟨QY.neqB rfl (by kernel_rfl) rfl rfl,Sure.of rfl⟩,?_⟩|refine ⟨.inr ⟨QY.eqlB rfl (by kernel_rfl) rfl rfl,Sure.of rfl⟩,?_⟩ | fail)),LPt.nf ?_⟩; conv=>whnf)|(refine P_Ed [] rfl rfl (EWd.new rfl) rfl rfl rfl ?_; rintro _ _ ⟨rfl,rfl⟩; refine ⟨(by repeat' (first|exact trivial|refine ⟨⟨qsafe_ok (st:=[]) rfl,Sure.of rfl⟩,?_⟩|refine ⟨.inl rfl,?_⟩|refine ⟨.inr ⟨qsafe_ok (st:=[]) rfl,Sure.of rfl⟩,?_⟩|refine ⟨⟨qsafe_ok (st:=[]) rfl,Sure.slice (by omega)⟩,?_⟩|refine ⟨.inr ⟨qsafe_ok (st:=[]) rfl,Sure.slice (by omega)⟩,?_⟩|refine ⟨.inr ⟨QY.neqB rfl (by kernel_rfl) rfl rfl,Sure.of rfl⟩,?_⟩|refine ⟨.inr ⟨QY.eqlB rfl (by kernel_rfl) rfl rfl,Sure.of rfl⟩,?_⟩ | fail)),LPt.nf ?_⟩; conv=>whnf)|refine aA ?_|refine aI (hn:=?_)|refine sP 29 (fun h=>?_) (fun h=>?_)|refine sP 70 (fun h=>?_) (fun h=>?_)|refine qR ?_|refine qS ?_|exact ⟨rfl,rfl⟩|fail)
  all_goals first
   |exact Nx.pick [3,4,6] [0,1,2,3,4,5,6,7] rfl rfl rfl ⟨rfl,rfl⟩
   |exact Nx.pick [3,4,6] [0,1,2,3,4,5,7,6] rfl rfl rfl ⟨rfl,rfl⟩
   |exact Nx.pick [3,4,6] [0,1,2,3,4,6,5,7] rfl rfl rfl ⟨rfl,rfl⟩
   |exact Nx.pick [3,4,6] [0,1,2,3,4,6,7,5] rfl rfl rfl ⟨rfl,rfl⟩
   |exact Nx.pick [3,4,6] [0,1,2,3,4,7,5,6] rfl rfl rfl ⟨rfl,rfl⟩
   |exact Nx.pick [3,4,6] [0,1,2,3,4,7,6,5] rfl rfl rfl ⟨rfl,rfl⟩
 ·rintro _ _ ⟨rfl,rfl⟩
  clear hB hI h1
  repeat' (first|refine qN ?_|refine dN ?_|refine d0 ?_|refine qB ?_|refine qT ?_|refine qU ?_|refine qL ?_|refine qK ?_|refine iF (fun h=>?_) (fun h=>?_)|refine cP [5,6] (hF) ?_|(refine cF [5,8] (hins) ?_; conv=>whnf)|(refine cW [6,3] (hD) ?_; conv=>whnf)|refine aA ?_|refine aI (hn:=?_)|refine sP 29 (fun h=>?_) (fun h=>?_)|refine sP 70 (fun h=>?_) (fun h=>?_)|refine qR ?_|refine qS ?_|exact ⟨rfl,rfl⟩|fail)
  ·exact L_ret (RetQ.pick [0,1,9,6] rfl rfl rfl rfl ⟨rfl,rfl⟩)
  ·exact absurd h (by simpa using hat)
set_option maxHeartbeats 4000000 in
theorem next_same1 (s:Sp) (hs:SOk s) (arg at_ fault:Int) (hf:fault≠0) (hm:mayB s ⟨true,arg,at_,fault⟩=true):Tr Try.prog 15 [spV 0 1 s,clV ⟨true,arg,at_,fault⟩] (spB s)
  (fun v K=>v=.tuple ⟨[spV 2 3 (nextS s ⟨true,arg,at_,fault⟩),.int .i64 0]⟩∧K=spB s++spB (nextS s ⟨true,arg,at_,fault⟩)):=by
 have h1:=may_tr s hs ⟨true,arg,at_,fault⟩
 rw [hm] at h1
 have hB:=clone2B_tr s hs
 have hI:=clone2I_tr s hs
 rw [show nextS s ⟨true,arg,at_,fault⟩=s0 s from (if_neg (fun h=>hf h.2)).trans (if_neg (fun h=>by cases h.1))]
 refine Tr.of row_spec_State_Next_ok rfl ?_
 clear hm hs
 repeat' (first|refine qN ?_|refine dN ?_|refine dR ?_|refine d0 ?_|refine qB ?_|refine rT ?_|refine qT ?_|refine qU ?_|refine qL ?_|refine qK ?_|refine iF (fun h=>?_) (fun h=>?_)|refine cP [0,1] (h1) ?_|refine aA ?_|refine aI (hn:=?_)|refine sP 29 (fun h=>?_) (fun h=>?_)|refine sP 70 (fun h=>?_) (fun h=>?_)|refine qR ?_|refine qS ?_|exact ⟨rfl,rfl⟩|fail)
 refine L_mid (fun l L=>l=[(3,pp 3),(4,pp 4),(6,pp 7)]∧L=NX s ⟨true,arg,at_,fault⟩) ?_ ?_
 ·repeat' (first|refine qN ?_|refine dN ?_|refine dR ?_|refine d0 ?_|refine qB ?_|refine rT ?_|refine qT ?_|refine qU ?_|refine qL ?_|refine qK ?_|refine iF (fun h=>?_) (fun h=>?_)|(refine cW [0] (hB) ?_; conv=>whnf)|(refine cW [1] (hI) ?_; conv=>whnf)|(refine S_Ed [] rfl rfl (EWd.new rfl) rfl rfl rfl ?_; rintro _ _ ⟨rfl,rfl⟩; refine ⟨(by repeat' (first|exact trivial|refine ⟨⟨qsafe_ok (st:=[]) rfl,Sure.of rfl⟩,?_⟩|refine ⟨.inl rfl,?_⟩|refine ⟨.inr ⟨qsafe_ok (st:=[]) rfl,Sure.of rfl⟩,?_⟩|refine ⟨⟨qsafe_ok (st:=[]) rfl,Sure.slice (by omega)⟩,?_⟩|refine ⟨.inr ⟨qsafe_ok (st:=[]) rfl,Sure.slice (by omega)⟩,?_⟩|refine ⟨.inr ⟨QY.neqB rfl (by kernel_rfl) rfl rfl,Sure.of rfl⟩,?_⟩|refine ⟨.inr ⟨QY.eqlB rfl (by kernel_rfl) rfl rfl,Sure.of rfl⟩,?_⟩ | fail)),LSt.nf ?_⟩; conv=>whnf)|refine L_rT ?_|refine L_regT ?_|refine P_lin rfl ?_|refine P_A [] rfl ?_ ?_|(refine P_Ed [] rfl rfl (EWd.callF [0] (hB) rfl rfl (by decide) (by repeat' (first|exact trivial|refine ⟨rfl,?_⟩ | fail)) rfl rfl rfl) rfl rfl rfl ?_; rintro _ _ ⟨rfl,rfl⟩; refine ⟨(by repeat' (first|exact trivial|refine ⟨⟨qsafe_ok (st:=[]) rfl,Sure.of rfl⟩,?_⟩|refine ⟨.inl rfl,?_⟩|refine ⟨.inr ⟨qsafe_ok (st:=[]) rfl,Sure.of rfl⟩,?_⟩|refine ⟨⟨qsafe_ok (st:=[]) rfl,Sure.slice (by omega)⟩,?_⟩|refine ⟨.inr ⟨qsafe_ok (st:=[]) rfl,Sure.slice (by omega)⟩,?_⟩|refine ⟨.inr ⟨QY.neqB rfl (by kernel_rfl) rfl rfl,Sure.of rfl⟩,?_⟩|refine ⟨.inr ⟨QY.eqlB rfl (by kernel_rfl) rfl rfl,Sure.of rfl⟩,?_⟩ | fail)),LPt.nf ?_⟩; conv=>whnf)|(refine P_Ed [] rfl rfl (EWd.callF [1] (hI) rfl rfl (by decide) (by repeat' (first|exact trivial|refine ⟨rfl,?_⟩ | fail)) rfl rfl rfl) rfl rfl rfl ?_; rintro _ _ ⟨rfl,rfl⟩; refine ⟨(by repeat' (first|exact trivial|refine ⟨⟨qsafe_ok (st:=[]) rfl,Sure.of rfl⟩,?_⟩|refine ⟨.inl rfl,?_⟩|refine ⟨.inr ⟨qsafe_ok (st:=[]) rfl,Sure.of rfl⟩,?_⟩|refine ⟨⟨qsafe_ok (st:=[]) rfl,Sure.slice (by omega)⟩,?_⟩|refine ⟨.inr ⟨qsafe_ok (st:=[]) rfl,Sure.slice (by omega)⟩,?_⟩|refine ⟨.inr ⟨QY.neqB rfl (by kernel_rfl) rfl rfl,Sure.of rfl⟩,?_⟩|refine ⟨.inr ⟨QY.eqlB rfl (by kernel_rfl) rfl rfl,Sure.of rfl⟩,?_⟩ | fail)),LPt.nf ?_⟩; conv=>whnf)|(refine P_Ed [] rfl rfl (EWd.new rfl) rfl rfl rfl ?_; rintro _ _ ⟨rfl,rfl⟩; refine ⟨(by repeat' (first|exact trivial|refine ⟨⟨qsafe_ok (st:=[]) rfl,Sure.of rfl⟩,?_⟩|refine ⟨.inl rfl,?_⟩|refine ⟨.inr ⟨qsafe_ok (st:=[]) rfl,Sure.of rfl⟩,?_⟩|refine ⟨⟨qsafe_ok (st:=[]) rfl,Sure.slice (by omega)⟩,?_⟩|refine ⟨.inr ⟨qsafe_ok (st:=[]) rfl,Sure.slice (by omega)⟩,?_⟩|refine ⟨.inr ⟨QY.neqB rfl (by kernel_rfl) rfl rfl,Sure.of rfl⟩,?_⟩|refine ⟨.inr ⟨QY.eqlB rfl (by kernel_rfl) rfl rfl,Sure.of rfl⟩,?_⟩ | fail)),LPt.nf ?_⟩; conv=>whnf)|refine aA ?_|refine aI (hn:=?_)|refine sP 29 (fun h=>?_) (fun h=>?_)|refine sP 70 (fun h=>?_) (fun h=>?_)|refine qR ?_|refine qS ?_|exact ⟨rfl,rfl⟩|fail)
  all_goals first
   |exact Nx.pick [3,4,6] [0,1,2,3,4,5,6,7] rfl rfl rfl ⟨rfl,rfl⟩
   |exact Nx.pick [3,4,6] [0,1,2,3,4,5,7,6] rfl rfl rfl ⟨rfl,rfl⟩
   |exact Nx.pick [3,4,6] [0,1,2,3,4,6,5,7] rfl rfl rfl ⟨rfl,rfl⟩
   |exact Nx.pick [3,4,6] [0,1,2,3,4,6,7,5] rfl rfl rfl ⟨rfl,rfl⟩
   |exact Nx.pick [3,4,6] [0,1,2,3,4,7,5,6] rfl rfl rfl ⟨rfl,rfl⟩
   |exact Nx.pick [3,4,6] [0,1,2,3,4,7,6,5] rfl rfl rfl ⟨rfl,rfl⟩
 ·rintro _ _ ⟨rfl,rfl⟩
  clear hB hI h1
  repeat' (first|refine qN ?_|refine dN ?_|refine d0 ?_|refine qB ?_|refine qT ?_|refine qU ?_|refine qL ?_|refine qK ?_|refine iF (fun h=>?_) (fun h=>?_)|refine aA ?_|refine aI (hn:=?_)|refine sP 29 (fun h=>?_) (fun h=>?_)|refine sP 70 (fun h=>?_) (fun h=>?_)|refine qR ?_|refine qS ?_|exact ⟨rfl,rfl⟩|fail)
  all_goals first|exact L_ret (RetQ.pick [0,1,5,6] rfl rfl rfl rfl ⟨rfl,rfl⟩) | skip
  all_goals exact absurd h (by simpa using hf)
set_option maxHeartbeats 4000000 in
theorem next_same2 (s:Sp) (hs:SOk s) (arg fault:Int) (hm:mayB s ⟨false,arg,-1,fault⟩=true):Tr Try.prog 15 [spV 0 1 s,clV ⟨false,arg,-1,fault⟩] (spB s)
  (fun v K=>v=.tuple ⟨[spV 2 3 (nextS s ⟨false,arg,-1,fault⟩),.int .i64 0]⟩∧K=spB s++spB (nextS s ⟨false,arg,-1,fault⟩)):=by
 have h1:=may_tr s hs ⟨false,arg,-1,fault⟩
 rw [hm] at h1
 have hB:=clone2B_tr s hs
 have hI:=clone2I_tr s hs
 rw [show nextS s ⟨false,arg,-1,fault⟩=s0 s from (if_neg (fun h=>by cases h.1)).trans (if_neg (fun h=>h.2 rfl))]
 refine Tr.of row_spec_State_Next_ok rfl ?_
 clear hm hs
 repeat' (first|refine qN ?_|refine dN ?_|refine dR ?_|refine d0 ?_|refine qB ?_|refine rT ?_|refine qT ?_|refine qU ?_|refine qL ?_|refine qK ?_|refine iF (fun h=>?_) (fun h=>?_)|refine cP [0,1] (h1) ?_|refine aA ?_|refine aI (hn:=?_)|refine sP 29 (fun h=>?_) (fun h=>?_)|refine sP 70 (fun h=>?_) (fun h=>?_)|refine qR ?_|refine qS ?_|exact ⟨rfl,rfl⟩|fail)
 refine L_mid (fun l L=>l=[(3,pp 3),(4,pp 4),(6,pp 7)]∧L=NX s ⟨false,arg,-1,fault⟩) ?_ ?_
 ·repeat' (first|refine qN ?_|refine dN ?_|refine dR ?_|refine d0 ?_|refine qB ?_|refine rT ?_|refine qT ?_|refine qU ?_|refine qL ?_|refine qK ?_|refine iF (fun h=>?_) (fun h=>?_)|(refine cW [0] (hB) ?_; conv=>whnf)|(refine cW [1] (hI) ?_; conv=>whnf)|(refine S_Ed [] rfl rfl (EWd.new rfl) rfl rfl rfl ?_; rintro _ _ ⟨rfl,rfl⟩; refine ⟨(by repeat' (first|exact trivial|refine ⟨⟨qsafe_ok (st:=[]) rfl,Sure.of rfl⟩,?_⟩|refine ⟨.inl rfl,?_⟩|refine ⟨.inr ⟨qsafe_ok (st:=[]) rfl,Sure.of rfl⟩,?_⟩|refine ⟨⟨qsafe_ok (st:=[]) rfl,Sure.slice (by omega)⟩,?_⟩|refine ⟨.inr ⟨qsafe_ok (st:=[]) rfl,Sure.slice (by omega)⟩,?_⟩|refine ⟨.inr ⟨QY.neqB rfl (by kernel_rfl) rfl rfl,Sure.of rfl⟩,?_⟩|refine ⟨.inr ⟨QY.eqlB rfl (by kernel_rfl) rfl rfl,Sure.of rfl⟩,?_⟩ | fail)),LSt.nf ?_⟩; conv=>whnf)|refine L_rT ?_|refine L_regT ?_|refine P_lin rfl ?_|refine P_A [] rfl ?_ ?_|(refine P_Ed [] rfl rfl (EWd.callF [0] (hB) rfl rfl (by decide) (by repeat' (first|exact trivial|refine ⟨rfl,?_⟩ | fail)) rfl rfl rfl) rfl rfl rfl ?_; rintro _ _ ⟨rfl,rfl⟩; refine ⟨(by repeat' (first|exact trivial|refine ⟨⟨qsafe_ok (st:=[]) rfl,Sure.of rfl⟩,?_⟩|refine ⟨.inl rfl,?_⟩|refine ⟨.inr ⟨qsafe_ok (st:=[]) rfl,Sure.of rfl⟩,?_⟩|refine ⟨⟨qsafe_ok (st:=[]) rfl,Sure.slice (by omega)⟩,?_⟩|refine ⟨.inr ⟨qsafe_ok (st:=[]) rfl,Sure.slice (by omega)⟩,?_⟩|refine ⟨.inr ⟨QY.neqB rfl (by kernel_rfl) rfl rfl,Sure.of rfl⟩,?_⟩|refine ⟨.inr ⟨QY.eqlB rfl (by kernel_rfl) rfl rfl,Sure.of rfl⟩,?_⟩ | fail)),LPt.nf ?_⟩; conv=>whnf)|(refine P_Ed [] rfl rfl (EWd.callF [1] (hI) rfl rfl (by decide) (by repeat' (first|exact trivial|refine ⟨rfl,?_⟩ | fail)) rfl rfl rfl) rfl rfl rfl ?_; rintro _ _ ⟨rfl,rfl⟩; refine ⟨(by repeat' (first|exact trivial|refine ⟨⟨qsafe_ok (st:=[]) rfl,Sure.of rfl⟩,?_⟩|refine ⟨.inl rfl,?_⟩|refine ⟨.inr ⟨qsafe_ok (st:=[]) rfl,Sure.of rfl⟩,?_⟩|refine ⟨⟨qsafe_ok (st:=[]) rfl,Sure.slice (by omega)⟩,?_⟩|refine ⟨.inr ⟨qsafe_ok (st:=[]) rfl,Sure.slice (by omega)⟩,?_⟩|refine ⟨.inr ⟨QY.neqB rfl (by kernel_rfl) rfl rfl,Sure.of rfl⟩,?_⟩|refine ⟨.inr ⟨QY.eqlB rfl (by kernel_rfl) rfl rfl,Sure.of rfl⟩,?_⟩ | fail)),LPt.nf ?_⟩; conv=>whnf)|(refine P_Ed [] rfl rfl (EWd.new rfl) rfl rfl rfl ?_; rintro _ _ ⟨rfl,rfl⟩; refine ⟨(by repeat' (first|exact trivial|refine ⟨⟨qsafe_ok (st:=[]) rfl,Sure.of rfl⟩,?_⟩|refine ⟨.inl rfl,?_⟩|refine ⟨.inr ⟨qsafe_ok (st:=[]) rfl,Sure.of rfl⟩,?_⟩|refine ⟨⟨qsafe_ok (st:=[]) rfl,Sure.slice (by omega)⟩,?_⟩|refine ⟨.inr ⟨qsafe_ok (st:=[]) rfl,Sure.slice (by omega)⟩,?_⟩|refine ⟨.inr ⟨QY.neqB rfl (by kernel_rfl) rfl rfl,Sure.of rfl⟩,?_⟩|refine ⟨.inr ⟨QY.eqlB rfl (by kernel_rfl) rfl rfl,Sure.of rfl⟩,?_⟩ | fail)),LPt.nf ?_⟩; conv=>whnf)|refine aA ?_|refine aI (hn:=?_)|refine sP 29 (fun h=>?_) (fun h=>?_)|refine sP 70 (fun h=>?_) (fun h=>?_)|refine qR ?_|refine qS ?_|exact ⟨rfl,rfl⟩|fail)
  all_goals first
   |exact Nx.pick [3,4,6] [0,1,2,3,4,5,6,7] rfl rfl rfl ⟨rfl,rfl⟩
   |exact Nx.pick [3,4,6] [0,1,2,3,4,5,7,6] rfl rfl rfl ⟨rfl,rfl⟩
   |exact Nx.pick [3,4,6] [0,1,2,3,4,6,5,7] rfl rfl rfl ⟨rfl,rfl⟩
   |exact Nx.pick [3,4,6] [0,1,2,3,4,6,7,5] rfl rfl rfl ⟨rfl,rfl⟩
   |exact Nx.pick [3,4,6] [0,1,2,3,4,7,5,6] rfl rfl rfl ⟨rfl,rfl⟩
   |exact Nx.pick [3,4,6] [0,1,2,3,4,7,6,5] rfl rfl rfl ⟨rfl,rfl⟩
 ·rintro _ _ ⟨rfl,rfl⟩
  clear hB hI h1
  repeat' (first|refine qN ?_|refine dN ?_|refine d0 ?_|refine qB ?_|refine qT ?_|refine qU ?_|refine qL ?_|refine qK ?_|refine iF (fun h=>?_) (fun h=>?_)|refine aA ?_|refine aI (hn:=?_)|refine sP 29 (fun h=>?_) (fun h=>?_)|refine sP 70 (fun h=>?_) (fun h=>?_)|refine qR ?_|refine qS ?_|exact ⟨rfl,rfl⟩|fail)
  all_goals exact L_ret (RetQ.pick [0,1,5,6] rfl rfl rfl rfl ⟨rfl,rfl⟩)
theorem next_tr (s:Sp) (hs:SOk s) (c:Cl) (hm:mayB s c=true):Tr Try.prog 15 [spV 0 1 s,clV c] (spB s)
  (fun v K=>v=.tuple ⟨[spV 2 3 (nextS s c),.int .i64 0]⟩∧K=spB s++spB (nextS s c)):=by
 obtain ⟨free,arg,at_,fault⟩:=c
 cases free
 ·by_cases ha:at_ = -1
  ·subst ha; exact next_same2 s hs arg fault hm
  ·obtain ⟨rfl,_⟩:=may_malloc hm ha
   exact next_malloc s hs arg at_ ha hm
 ·by_cases hf:fault=0
  ·subst hf; exact next_free s hs arg at_ hm
  ·exact next_same1 s hs arg at_ fault hf hm
end Go.Proofs.Ythgmdlmeeebfiaa
end
section
namespace Go.Proofs.Ythgmdlmeeebfiaa
open Go Go.Tum
set_option maxRecDepth 4000
theorem rIn_tr (x:Bk) (t:Int) (hx:0≤x.at_∧x.at_≤65536) (ht : -9223372036854700000≤t∧t≤9223372036854775807):Tr Try.prog 10 [.agg ⟨x.cells⟩,.int .i64 t] [] (fun v K=>v=.bool (inB x.at_ x.n t)∧K=[]):=by
 refine Tr.of row_tumbrelref15_In_ok rfl ?_
 repeat' (first|refine qN ?_|refine dN ?_|refine dR ?_|refine d0 ?_|refine rT ?_|refine aS ?_|refine aI (hn:=?_)|refine sP 9 (fun h=>?_) (fun h=>?_)|refine qR ?_|refine qS ?_|exact ⟨rfl,rfl⟩|fail)
 all_goals (refine ⟨congrArg Value.bool ?_,rfl⟩; simp [inB,h])
theorem rHas_tr (w:Sp) (hl:w.lv.length+w.lz≤1000) (t:Int):Tr Try.prog 19 [spV 0 1 w,.int .i64 t] (spB w) (fun v K=>v=.bool (w.lv.any (fun x=>x.at_ == t))∧K=spB w):=by
 refine Tr.of row_tumbrelref15_Has_ok rfl ?_
 repeat' (first|refine qN ?_|refine dN ?_|refine dR ?_|refine d0 ?_|refine qB ?_|refine rT ?_|refine qT ?_|refine qU ?_|refine qL ?_|refine qK ?_|refine qF ?_|refine qE ?_|refine iF (fun h=>?_) (fun h=>?_)|refine aX ?_|refine aA ?_|refine aI (hn:=?_)|refine qR ?_|refine qS ?_|exact ⟨rfl,rfl⟩|fail)
 refine LWp.pick [1,8,9,10] [0,1] rfl rfl rfl (L_loop (fun q l L=>∃ i:Nat,q=w.lv.length-i∧i≤w.lv.length∧(∀ x∈w.lv.take i,(x.at_ == t)=false)∧l=[(1,.int .i64 t),(8,slC 0 w.lv.length (w.lv.length+w.lz)),(9,.int .i64 w.lv.length),(10,.int .i64 i)]∧L=spB w) w.lv.length ⟨0,rfl,by omega,by simp,rfl,rfl⟩ ?_)
 rintro q _ _ ⟨i,rfl,hi,hn,rfl,rfl⟩
 first|refine L_seq (L_rs (S_done [] rfl (Nx.goL (iF (fun h=>L_skip (Nx.goL ?_)) (fun h=>L_exit ?_)))))|refine L_rs (S_done [] rfl (Nx.goL (L_seq (iF (fun h=>L_skip (Nx.goL ?_)) (fun h=>L_exit ?_)))))
 ·have hik:i<w.lv.length:=by omega
  obtain ⟨x,hx⟩:∃ x,w.lv[i]?=some x:=⟨_,List.getElem?_eq_getElem hik⟩
  have hx2:(lrow w)[i]?=some x:=by rw [lrow,List.getElem?_append_left hik]; exact hx
  cases hxt:(x.at_ == t)
  ·repeat' (first|refine qN ?_|refine dN ?_|refine d0 ?_|refine qB ?_|refine qT ?_|refine qU ?_|refine qL ?_|refine qK ?_|refine qF ?_|refine qE ?_|refine iF (fun h=>?_) (fun h=>?_)|refine aX ?_|refine S_Q [] rfl rfl (QY.ldRow Bk.ok rfl rfl hx2 (by decide)) ?_|refine aA ?_|refine aI (hn:=?_)|refine qR ?_|refine qS ?_|exact ⟨rfl,rfl⟩|fail)
   all_goals first | (exfalso; simp at hxt; omega)|exact Nx.pick [1,8,9,10] [0,1] rfl rfl rfl ⟨w.lv.length-(i+1),by omega,i+1,rfl,by omega,take_no hn hx hxt,rfl,rfl⟩
  ·have hany:w.lv.any (fun x=>x.at_ == t)=true:=List.any_eq_true.2 ⟨x,List.mem_of_getElem? hx,hxt⟩
   rw [hany]
   repeat' (first|refine qN ?_|refine dN ?_|refine d0 ?_|refine qB ?_|refine qT ?_|refine qU ?_|refine qL ?_|refine qK ?_|refine qF ?_|refine qE ?_|refine iF (fun h=>?_) (fun h=>?_)|refine aX ?_|refine S_Q [] rfl rfl (QY.ldRow Bk.ok rfl rfl hx2 (by decide)) ?_|refine aA ?_|refine aI (hn:=?_)|refine qR ?_|refine qS ?_|exact ⟨rfl,rfl⟩|fail)
   all_goals first | (exfalso; simp at hxt; omega)|exact L_ret (RetQ.pick [0,1] rfl rfl rfl rfl ⟨rfl,rfl⟩)
 ·refine Nx.goL ?_
  have hany:w.lv.any (fun x=>x.at_ == t)=false:=by
   rw [List.take_of_length_le (by omega)] at hn
   exact List.any_eq_false.2 fun x hx=>by simp [hn x hx]
  rw [hany]
  repeat' (first|refine qN ?_|refine dN ?_|refine dR ?_|refine d0 ?_|refine qB ?_|refine rT ?_|refine qT ?_|refine qU ?_|refine qL ?_|refine qK ?_|refine qF ?_|refine qE ?_|refine iF (fun h=>?_) (fun h=>?_)|refine aX ?_|refine aA ?_|refine aI (hn:=?_)|refine qR ?_|refine qS ?_|exact ⟨rfl,rfl⟩|fail)
def rmeet (a n:Int) (x:Bk):Bool:=inB x.at_ x.n a || inB a n x.at_
def rmallocB (w:Sp) (c:Cl):Bool:=decide (c.fault=0) && (decide (1≤c.arg) && (decide (c.arg≤4096) && (decide (c.at_ = -1) || (decide (0≤c.at_) && (decide (c.at_ % 16=0) && (decide (c.at_≤w.ma-c.arg) && !w.lv.any (rmeet c.at_ c.arg)))))))
set_option maxHeartbeats 1000000 in
theorem rmalloc_tr (w:Sp) (hw:0≤w.ma∧w.ma≤8191) (hl:w.lv.length+w.lz≤1000) (hx:∀ x∈w.lv,x.In) (c:Cl):Tr Try.prog 52 [spV 0 1 w,clV c] (spB w) (fun v K=>v=.bool (rmallocB w c)∧K=spB w):=by
 refine Tr.of row_tumbrelref15_malloc_ok rfl ?_
 repeat' (first|refine qN ?_|refine dN ?_|refine dR ?_|refine d0 ?_|refine qB ?_|refine rT ?_|refine qT ?_|refine qU ?_|refine qL ?_|refine qK ?_|refine qF ?_|refine qE ?_|refine iF (fun h=>?_) (fun h=>?_)|refine aX ?_|refine aA ?_|refine aS ?_|refine aI (hn:=?_)|refine aR ?_|refine sP 10 (fun h=>?_) (fun h=>?_)|refine sP 15 (fun h=>?_) (fun h=>?_)|refine sP 26 (fun h=>?_) (fun h=>?_)|refine sP 32 (fun h=>?_) (fun h=>?_)|refine sP 53 (fun h=>?_) (fun h=>?_)|refine qR ?_|refine qS ?_|exact ⟨rfl,rfl⟩|fail)
 all_goals first|(refine ⟨congrArg Value.bool ?_,rfl⟩; clear hw; simp_all [rmallocB]; done)|(refine ⟨congrArg Value.bool ?_,rfl⟩; clear hw; simp_all [rmallocB]; omega) | skip
 rename_i g0 g1 g2 g3 g4 g5
 have e:rmallocB w c = !w.lv.any (rmeet c.at_ c.arg):=by
  have a1:c.fault=0:=by simpa using g0
  have a2:1≤c.arg:=by omega
  have a3:c.arg≤4096:=by omega
  have a4:0≤c.at_:=by omega
  have a5:c.at_ % 16=0:=by simpa using g5
  have a6:c.at_≤w.ma-c.arg:=by omega
  simp [rmallocB,a1,a2,a3,a4,a5,a6,g3]
 rw [e]
 refine LWp.pick [3,43,44,45] [0,1,2,3] rfl rfl rfl (L_loop (fun q l L=>∃ i:Nat,q=w.lv.length-i∧i≤w.lv.length∧(∀ x∈w.lv.take i,rmeet c.at_ c.arg x=false)∧l=[(3,pp 3),(43,slC 0 w.lv.length (w.lv.length+w.lz)),(44,.int .i64 w.lv.length),(45,.int .i64 i)]∧L=spB w++[.cells 0 [.int .i64 w.ma,.int .i64 w.ar,slC 0 w.lv.length (w.lv.length+w.lz),slC 1 w.fr.length (w.fr.length+w.fz)],.cells 0 c.cells]) w.lv.length ⟨0,rfl,by omega,by simp,rfl,rfl⟩ ?_)
 rintro q _ _ ⟨i,rfl,hi,hn,rfl,rfl⟩
 first|refine L_seq (L_rs (S_done [] rfl (Nx.goL (iF (fun h=>L_skip (Nx.goL ?_)) (fun h=>L_exit ?_)))))|refine L_rs (S_done [] rfl (Nx.goL (L_seq (iF (fun h=>L_skip (Nx.goL ?_)) (fun h=>L_exit ?_)))))
 ·have hik:i<w.lv.length:=by omega
  obtain ⟨x,hx1⟩:∃ x,w.lv[i]?=some x:=⟨_,List.getElem?_eq_getElem hik⟩
  have hx2:(lrow w)[i]?=some x:=by rw [lrow,List.getElem?_append_left hik]; exact hx1
  obtain ⟨b1,b2,b3,b4⟩:=hx x (List.mem_of_getElem? hx1)
  have hI1:=rIn_tr x c.at_ ⟨b1,b2⟩ (by omega)
  have hI2:=rIn_tr ⟨c.at_,c.arg⟩ x.at_ (by show 0≤c.at_∧c.at_≤65536; omega) (by omega)
  cases hxt:rmeet c.at_ c.arg x
  ·have hA:inB x.at_ x.n c.at_=false:=by simp only [rmeet,Bool.or_eq_false_iff] at hxt; exact hxt.1
   have hB:inB c.at_ c.arg x.at_=false:=by simp only [rmeet,Bool.or_eq_false_iff] at hxt; exact hxt.2
   rw [hA] at hI1
   rw [hB] at hI2
   repeat' (first|refine qN ?_|refine dN ?_|refine d0 ?_|refine qB ?_|refine qT ?_|refine qU ?_|refine qL ?_|refine qK ?_|refine qF ?_|refine qE ?_|refine iF (fun h=>?_) (fun h=>?_)|refine aX ?_|refine S_Q [] rfl rfl (QY.ldRow Bk.ok rfl rfl hx2 (by decide)) ?_|refine cP [] (hI1) ?_|refine cP [] (hI2) ?_|refine aA ?_|refine aS ?_|refine aI (hn:=?_)|refine aR ?_|refine sP 10 (fun h=>?_) (fun h=>?_)|refine sP 15 (fun h=>?_) (fun h=>?_)|refine sP 26 (fun h=>?_) (fun h=>?_)|refine sP 32 (fun h=>?_) (fun h=>?_)|refine sP 53 (fun h=>?_) (fun h=>?_)|refine qR ?_|refine qS ?_|exact ⟨rfl,rfl⟩|fail)
   exact Nx.pick [3,43,44,45] [0,1,2,3] rfl rfl rfl ⟨w.lv.length-(i+1),by omega,i+1,rfl,by omega,take_no hn hx1 hxt,rfl,rfl⟩
  ·have hany:w.lv.any (rmeet c.at_ c.arg)=true:=List.any_eq_true.2 ⟨x,List.mem_of_getElem? hx1,hxt⟩
   rw [hany]
   cases hA:inB x.at_ x.n c.at_
   ·have hB:inB c.at_ c.arg x.at_=true:=by simpa [rmeet,hA] using hxt
    rw [hA] at hI1
    rw [hB] at hI2
    repeat' (first|refine qN ?_|refine dN ?_|refine d0 ?_|refine qB ?_|refine qT ?_|refine qU ?_|refine qL ?_|refine qK ?_|refine qF ?_|refine qE ?_|refine iF (fun h=>?_) (fun h=>?_)|refine aX ?_|refine S_Q [] rfl rfl (QY.ldRow Bk.ok rfl rfl hx2 (by decide)) ?_|refine cP [] (hI1) ?_|refine cP [] (hI2) ?_|refine aA ?_|refine aS ?_|refine aI (hn:=?_)|refine aR ?_|refine sP 10 (fun h=>?_) (fun h=>?_)|refine sP 15 (fun h=>?_) (fun h=>?_)|refine sP 26 (fun h=>?_) (fun h=>?_)|refine sP 32 (fun h=>?_) (fun h=>?_)|refine sP 53 (fun h=>?_) (fun h=>?_)|refine qR ?_|refine qS ?_|exact ⟨rfl,rfl⟩|fail)
    exact L_ret (RetQ.pick [0,1] rfl rfl rfl rfl ⟨rfl,rfl⟩)
   ·rw [hA] at hI1
    repeat' (first|refine qN ?_|refine dN ?_|refine d0 ?_|refine qB ?_|refine qT ?_|refine qU ?_|refine qL ?_|refine qK ?_|refine qF ?_|refine qE ?_|refine iF (fun h=>?_) (fun h=>?_)|refine aX ?_|refine S_Q [] rfl rfl (QY.ldRow Bk.ok rfl rfl hx2 (by decide)) ?_|refine cP [] (hI1) ?_|refine aA ?_|refine aS ?_|refine aI (hn:=?_)|refine aR ?_|refine sP 10 (fun h=>?_) (fun h=>?_)|refine sP 15 (fun h=>?_) (fun h=>?_)|refine sP 26 (fun h=>?_) (fun h=>?_)|refine sP 32 (fun h=>?_) (fun h=>?_)|refine sP 53 (fun h=>?_) (fun h=>?_)|refine qR ?_|refine qS ?_|exact ⟨rfl,rfl⟩|fail)
    exact L_ret (RetQ.pick [0,1] rfl rfl rfl rfl ⟨rfl,rfl⟩)
 ·refine Nx.goL ?_
  have hany:w.lv.any (rmeet c.at_ c.arg)=false:=by
   rw [List.take_of_length_le (by omega)] at hn
   exact List.any_eq_false.2 fun x hx=>by simp [hn x hx]
  rw [hany]
  repeat' (first|refine qN ?_|refine dN ?_|refine dR ?_|refine d0 ?_|refine qB ?_|refine rT ?_|refine qT ?_|refine qU ?_|refine qL ?_|refine qK ?_|refine qF ?_|refine qE ?_|refine iF (fun h=>?_) (fun h=>?_)|refine aX ?_|refine aA ?_|refine aS ?_|refine aI (hn:=?_)|refine aR ?_|refine sP 10 (fun h=>?_) (fun h=>?_)|refine sP 15 (fun h=>?_) (fun h=>?_)|refine sP 26 (fun h=>?_) (fun h=>?_)|refine sP 32 (fun h=>?_) (fun h=>?_)|refine sP 53 (fun h=>?_) (fun h=>?_)|refine qR ?_|refine qS ?_|exact ⟨rfl,rfl⟩|fail)
def rmayB (w:Sp) (c:Cl):Bool :=
 if c.free=false then rmallocB w c else decide (c.at_ = -1) && (if c.arg<0∨c.arg≥w.ar then decide (c.fault=1) else if c.arg≥w.ma then decide (c.fault=2) else if w.lv.any (fun x=>x.at_ == c.arg) then decide (c.fault=0)
  else decide (c.fault=3) || (decide (c.fault=4) && w.lv.any (fun x=>decide (x.at_<c.arg)) || decide (c.fault=5) && w.fr.any (· == c.arg)))
theorem any_snoc {α:Type} {l:List α} {p:α→Bool} {i:Nat} {x:α} (hx:l[i]?=some x):(l.take (i+1)).any p=((l.take i).any p || p x):=by
 rw [List.take_add_one,hx,List.any_append]; simp
set_option maxHeartbeats 1000000 in
theorem rmay_tr (w:Sp) (hw:0≤w.ma∧w.ma≤8191) (hl:w.lv.length+w.lz≤1000) (hf:w.fr.length+w.fz≤1000) (hx:∀ x∈w.lv,x.In) (c:Cl):Tr Try.prog 28 [spV 0 1 w,clV c] (spB w) (fun v K=>v=.bool (rmayB w c)∧K=spB w):=by
 have hM:=rmalloc_tr w hw hl hx c
 have hH:=rHas_tr w hl c.arg
 refine Tr.of row_tumbrelref15_May_ok rfl ?_
 rcases hc:c with ⟨free,arg,at_,fault⟩
 rw [hc] at hM hH
 clear hw hx hc
 cases free
 ·repeat' (first|refine qN ?_|refine dN ?_|refine dR ?_|refine d0 ?_|refine qB ?_|refine rT ?_|refine qT ?_|refine qU ?_|refine qL ?_|refine qK ?_|refine qF ?_|refine qE ?_|refine iF (fun h=>?_) (fun h=>?_)|refine aX ?_|refine cP [0,1] (hM) ?_|refine aA ?_|refine aI (hn:=?_)|refine sP 23 (fun h=>?_) (fun h=>?_)|refine sP 56 (fun h=>?_) (fun h=>?_)|refine sP 72 (fun h=>?_) (fun h=>?_)|refine sP 82 (fun h=>?_) (fun h=>?_)|refine sP 86 (fun h=>?_) (fun h=>?_)|refine sP 90 (fun h=>?_) (fun h=>?_)|refine sP 94 (fun h=>?_) (fun h=>?_)|refine qR ?_|refine qS ?_|exact ⟨rfl,rfl⟩|fail)
 ·cases hA:w.lv.any (fun x=>x.at_ == arg)
  ·rw [hA] at hH
   repeat' (first|refine qN ?_|refine dN ?_|refine dR ?_|refine d0 ?_|refine qB ?_|refine rT ?_|refine qT ?_|refine qU ?_|refine qL ?_|refine qK ?_|refine qF ?_|refine qE ?_|refine iF (fun h=>?_) (fun h=>?_)|refine aX ?_|refine cP [0,1] (hH) ?_|refine aA ?_|refine aI (hn:=?_)|refine sP 23 (fun h=>?_) (fun h=>?_)|refine sP 56 (fun h=>?_) (fun h=>?_)|refine sP 72 (fun h=>?_) (fun h=>?_)|refine sP 82 (fun h=>?_) (fun h=>?_)|refine sP 86 (fun h=>?_) (fun h=>?_)|refine sP 90 (fun h=>?_) (fun h=>?_)|refine sP 94 (fun h=>?_) (fun h=>?_)|refine qR ?_|refine qS ?_|exact ⟨rfl,rfl⟩|fail)
   all_goals first|(refine ⟨congrArg Value.bool ?_,rfl⟩; clear hM hH; rw [Bool.eq_iff_iff]; unfold rmayB; (repeat' split) <;> first | (exfalso; simp only at *; omega) | (simp_all; done) | (simp_all; omega)) | skip
   refine LWp.pick [2,3,5,6,49,50,51] [0,1,2,3] rfl rfl rfl (L_loop (fun q l L=>∃ i:Nat,q=w.lv.length-i∧i≤w.lv.length∧l=[(2,pp 2),(3,pp 3),(5,.bool ((w.lv.take i).any (fun x=>decide (x.at_<arg)))),(6,.bool false),(49,slC 0 w.lv.length (w.lv.length+w.lz)),(50,.int .i64 w.lv.length),(51,.int .i64 i)]∧L=spB w++[.cells 0 [.int .i64 w.ma,.int .i64 w.ar,slC 0 w.lv.length (w.lv.length+w.lz),slC 1 w.fr.length (w.fr.length+w.fz)],.cells 0 [.bool true,.int .i64 arg,.int .i64 at_,.int .i64 fault]]) w.lv.length ⟨0,rfl,by omega,by rfl,rfl⟩ ?_)
   rintro q _ _ ⟨i,rfl,hi,rfl,rfl⟩
   first|refine L_seq (L_rs (S_done [] rfl (Nx.goL (iF (fun h=>L_skip (Nx.goL ?_)) (fun h=>L_exit ?_)))))|refine L_rs (S_done [] rfl (Nx.goL (L_seq (iF (fun h=>L_skip (Nx.goL ?_)) (fun h=>L_exit ?_)))))
   ·have hik:i<w.lv.length:=by omega
    obtain ⟨x,hx1⟩:∃ x,w.lv[i]?=some x:=⟨_,List.getElem?_eq_getElem hik⟩
    have hx2:(lrow w)[i]?=some x:=by rw [lrow,List.getElem?_append_left hik]; exact hx1
    have hs:=any_snoc (p:=fun x:Bk=>decide (x.at_<arg)) hx1
    cases hb:(w.lv.take i).any (fun x=>decide (x.at_<arg))
    all_goals
     rw [hb] at hs
     repeat' (first|refine qN ?_|refine dN ?_|refine dR ?_|refine d0 ?_|refine qB ?_|refine rT ?_|refine qT ?_|refine qU ?_|refine qL ?_|refine qK ?_|refine qF ?_|refine qE ?_|refine iF (fun h=>?_) (fun h=>?_)|refine aX ?_|refine S_Q [] rfl rfl (QY.ldRow Bk.ok rfl rfl hx2 (by decide)) ?_|refine aA ?_|refine aI (hn:=?_)|refine sP 23 (fun h=>?_) (fun h=>?_)|refine sP 56 (fun h=>?_) (fun h=>?_)|refine sP 72 (fun h=>?_) (fun h=>?_)|refine sP 82 (fun h=>?_) (fun h=>?_)|refine sP 86 (fun h=>?_) (fun h=>?_)|refine sP 90 (fun h=>?_) (fun h=>?_)|refine sP 94 (fun h=>?_) (fun h=>?_)|refine qR ?_|refine qS ?_|exact ⟨rfl,rfl⟩|fail)
     exact Nx.pick [2,3,5,6,49,50,51] [0,1,2,3] rfl rfl rfl ⟨w.lv.length-(i+1),by omega,i+1,rfl,by omega,by rw [hs]; rfl,rfl⟩
   ·refine Nx.goL ?_
    obtain rfl:i=w.lv.length:=by omega
    rw [List.take_length]
    rename_i g1 g2 g3 g4
    have e:rmayB w ⟨true,arg,at_,fault⟩=(decide (fault=3) || (decide (fault=4) && w.lv.any (fun x=>decide (x.at_<arg)) || decide (fault=5) && w.fr.any (· == arg))):=by
     simp only at g1 g2 g3 g4
     have a1:at_ = -1:=by simpa using g1
     simp [rmayB,a1,hA,show ¬ (arg<0∨w.ar≤arg) by omega,show ¬ w.ma≤arg by omega]
    rw [e]
    clear e g1 g2 g3 g4 hH hM hA
    generalize w.lv.any (fun x=>decide (x.at_<arg))=bl at *
    repeat' (first|refine qN ?_|refine dN ?_|refine dR ?_|refine d0 ?_|refine qB ?_|refine rT ?_|refine qT ?_|refine qU ?_|refine qL ?_|refine qK ?_|refine qF ?_|refine qE ?_|refine iF (fun h=>?_) (fun h=>?_)|refine aX ?_|refine aA ?_|refine aI (hn:=?_)|refine sP 23 (fun h=>?_) (fun h=>?_)|refine sP 56 (fun h=>?_) (fun h=>?_)|refine sP 72 (fun h=>?_) (fun h=>?_)|refine sP 82 (fun h=>?_) (fun h=>?_)|refine sP 86 (fun h=>?_) (fun h=>?_)|refine sP 90 (fun h=>?_) (fun h=>?_)|refine sP 94 (fun h=>?_) (fun h=>?_)|refine qR ?_|refine qS ?_|exact ⟨rfl,rfl⟩|fail)
    refine LWp.pick [3,5,6,65,66,67] [0,1,2,3] rfl rfl rfl (L_loop (fun q l L=>∃ i:Nat,q=w.fr.length-i∧i≤w.fr.length∧l=[(3,pp 3),(5,.bool bl),(6,.bool ((w.fr.take i).any (· == arg))),(65,slC 1 w.fr.length (w.fr.length+w.fz)),(66,.int .i64 w.fr.length),(67,.int .i64 i)]∧L=spB w++[.cells 0 [.int .i64 w.ma,.int .i64 w.ar,slC 0 w.lv.length (w.lv.length+w.lz),slC 1 w.fr.length (w.fr.length+w.fz)],.cells 0 [.bool true,.int .i64 arg,.int .i64 at_,.int .i64 fault]]) w.fr.length ⟨0,rfl,by omega,by rfl,rfl⟩ ?_)
    rintro q _ _ ⟨i,rfl,hi,rfl,rfl⟩
    first|refine L_seq (L_rs (S_done [] rfl (Nx.goL (iF (fun h=>L_skip (Nx.goL ?_)) (fun h=>L_exit ?_)))))|refine L_rs (S_done [] rfl (Nx.goL (L_seq (iF (fun h=>L_skip (Nx.goL ?_)) (fun h=>L_exit ?_)))))
    ·have hik:i<w.fr.length:=by omega
     obtain ⟨x,hx1⟩:∃ x,w.fr[i]?=some x:=⟨_,List.getElem?_eq_getElem hik⟩
     have hx2:(frow w)[i]?=some x:=by rw [frow,List.getElem?_append_left hik]; exact hx1
     have hs:=any_snoc (p:=fun x:Int=>x == arg) hx1
     cases hb:(w.fr.take i).any (· == arg)
     all_goals
      rw [hb] at hs
      repeat' (first|refine qN ?_|refine dN ?_|refine dR ?_|refine d0 ?_|refine qB ?_|refine rT ?_|refine qT ?_|refine qU ?_|refine qL ?_|refine qK ?_|refine qF ?_|refine qE ?_|refine iF (fun h=>?_) (fun h=>?_)|refine aX ?_|refine S_Q [] rfl rfl (QY.ldI rfl rfl hx2) ?_|refine aA ?_|refine aI (hn:=?_)|refine sP 23 (fun h=>?_) (fun h=>?_)|refine sP 56 (fun h=>?_) (fun h=>?_)|refine sP 72 (fun h=>?_) (fun h=>?_)|refine sP 82 (fun h=>?_) (fun h=>?_)|refine sP 86 (fun h=>?_) (fun h=>?_)|refine sP 90 (fun h=>?_) (fun h=>?_)|refine sP 94 (fun h=>?_) (fun h=>?_)|refine qR ?_|refine qS ?_|exact ⟨rfl,rfl⟩|fail)
      exact Nx.pick [3,5,6,65,66,67] [0,1,2,3] rfl rfl rfl ⟨w.fr.length-(i+1),by omega,i+1,rfl,by omega,by rw [hs]; rfl,rfl⟩
    ·refine Nx.goL ?_
     obtain rfl:i=w.fr.length:=by omega
     rw [List.take_length]
     generalize w.fr.any (· == arg)=bf at *
     cases bl <;> cases bf
     all_goals
      repeat' (first|refine qN ?_|refine dN ?_|refine dR ?_|refine d0 ?_|refine qB ?_|refine rT ?_|refine qT ?_|refine qU ?_|refine qL ?_|refine qK ?_|refine qF ?_|refine qE ?_|refine iF (fun h=>?_) (fun h=>?_)|refine aX ?_|refine aA ?_|refine aI (hn:=?_)|refine sP 23 (fun h=>?_) (fun h=>?_)|refine sP 56 (fun h=>?_) (fun h=>?_)|refine sP 72 (fun h=>?_) (fun h=>?_)|refine sP 82 (fun h=>?_) (fun h=>?_)|refine sP 86 (fun h=>?_) (fun h=>?_)|refine sP 90 (fun h=>?_) (fun h=>?_)|refine sP 94 (fun h=>?_) (fun h=>?_)|refine qR ?_|refine qS ?_|exact ⟨rfl,rfl⟩|fail)
     all_goals (refine ⟨congrArg Value.bool ?_,rfl⟩; simp_all)
  ·rw [hA] at hH
   repeat' (first|refine qN ?_|refine dN ?_|refine dR ?_|refine d0 ?_|refine qB ?_|refine rT ?_|refine qT ?_|refine qU ?_|refine qL ?_|refine qK ?_|refine qF ?_|refine qE ?_|refine iF (fun h=>?_) (fun h=>?_)|refine aX ?_|refine cP [0,1] (hH) ?_|refine aA ?_|refine aI (hn:=?_)|refine sP 23 (fun h=>?_) (fun h=>?_)|refine sP 56 (fun h=>?_) (fun h=>?_)|refine sP 72 (fun h=>?_) (fun h=>?_)|refine sP 82 (fun h=>?_) (fun h=>?_)|refine sP 86 (fun h=>?_) (fun h=>?_)|refine sP 90 (fun h=>?_) (fun h=>?_)|refine sP 94 (fun h=>?_) (fun h=>?_)|refine qR ?_|refine qS ?_|exact ⟨rfl,rfl⟩|fail)
   all_goals first|(refine ⟨congrArg Value.bool ?_,rfl⟩; clear hM hH; rw [Bool.eq_iff_iff]; unfold rmayB; (repeat' split) <;> first | (exfalso; simp only at *; omega) | (simp_all; done) | (simp_all; omega))
end Go.Proofs.Ythgmdlmeeebfiaa
end
section
namespace Go.Proofs.Ythgmdlmeeebfiaa
open Go Go.Tum
set_option maxRecDepth 4000
def keepB (c:Cl) (x:Bk):Bool := !c.free || (decide (c.fault≠0) || decide (x.at_≠c.arg))
def keepF (c:Cl) (x:Int):Bool:=c.free || (decide (c.at_ = -1) || !inB c.at_ c.arg x)
def rf2 (w:Sp) (c:Cl):List Int:=if c.free=true∧c.fault=0∧((w.fr.filter (keepF c)).any (· == c.arg))=false then w.fr.filter (keepF c)++[c.arg] else w.fr.filter (keepF c)
def rl2 (w:Sp) (c:Cl):List Bk:=if c.free=false∧c.at_ ≠ -1 then w.lv.filter (keepB c)++[⟨c.at_,c.arg⟩] else w.lv.filter (keepB c)
def rnextS (w:Sp) (c:Cl):Sp:=⟨w.ma,w.ar,rl2 w c,0,rf2 w c,0⟩
theorem filter_snoc {α:Type} {l:List α} {p:α→Bool} {i:Nat} {x:α} (hx:l[i]?=some x):(l.take (i+1)).filter p=(l.take i).filter p++(if p x then [x] else []):=by
 rw [List.take_add_one,hx,List.filter_append]
 congr 1
 cases hq:p x <;> simp [hq]
theorem spB_z (ma ar:Int) (o:List Bk) (f:List Int):spB ⟨ma,ar,o,0,f,0⟩=[.gro 2 (rowsC Bk.cells o),.gro 1 (rowsC intC f)]:=by simp [spB,lrow,frow]
theorem spV_z (bl bf:Nat) (ma ar:Int) (o:List Bk) (f:List Int):spV bl bf ⟨ma,ar,o,0,f,0⟩=.agg ⟨[.int .i64 ma,.int .i64 ar,slC bl o.length o.length,slC bf f.length f.length]⟩:=rfl
def RX (w:Sp) (c:Cl) (o:List Bk) (f:List Int):LH:=spB w++[.cells 0 [.int .i64 w.ma,.int .i64 w.ar,slC 0 w.lv.length (w.lv.length+w.lz),slC 1 w.fr.length (w.fr.length+w.fz)],.cells 0 c.cells,.cells 0 [.int .i64 0,.int .i64 0,.slice none 0 0,.slice none 0 0],
 .cells 0 [.int .i64 w.ma,.int .i64 w.ar,slC 6 o.length o.length,slC 7 f.length f.length],.gro 2 (rowsC Bk.cells o),.gro 1 (rowsC intC f)]
set_option maxHeartbeats 4000000 in
theorem rnext_tr (w:Sp) (hl:w.lv.length+w.lz≤1000) (hf:w.fr.length+w.fz≤1000) (hfi:∀ x∈w.fr,0≤x∧x≤65536) (c:Cl) (hc:c.free=false→c.at_ ≠ -1→0≤c.at_∧c.at_≤65536):Tr Try.prog 29 [spV 0 1 w,clV c] (spB w)
  (fun v K=>v=spV 2 3 (rnextS w c)∧K=spB w++spB (rnextS w c)):=by
 refine Tr.of row_tumbrelref15_Next_ok rfl ?_
 repeat' (first|refine qN ?_|refine dN ?_|refine dR ?_|refine d0 ?_|refine qB ?_|refine rT ?_|refine qT ?_|refine qU ?_|refine qL ?_|refine qK ?_|refine qF ?_|refine qE ?_|refine iF (fun h=>?_) (fun h=>?_)|refine aX ?_|refine aA ?_|refine aI (hn:=?_)|refine sP 28 (fun h=>?_) (fun h=>?_)|refine sP 33 (fun h=>?_) (fun h=>?_)|refine sP 56 (fun h=>?_) (fun h=>?_)|refine sP 61 (fun h=>?_) (fun h=>?_)|refine sP 80 (fun h=>?_) (fun h=>?_)|refine sP 93 (fun h=>?_) (fun h=>?_)|refine sP 112 (fun h=>?_) (fun h=>?_)|refine qR ?_|refine qS ?_|exact ⟨rfl,rfl⟩|fail)
 refine LWp.nilC 5 2 2 rfl rfl (LWp.nilC 5 3 1 rfl rfl ?_)
 refine LWp.pick [3,4,5,2,19,20,21] [0,1,2,3,4,5,6,7] rfl rfl rfl (L_loop (fun q l L=>∃ i:Nat,q=w.lv.length-i∧i≤w.lv.length∧l=[(3,pp 3),(4,pp 4),(5,pp 5),(2,pp 2),(19,slC 0 w.lv.length (w.lv.length+w.lz)),(20,.int .i64 w.lv.length),(21,.int .i64 i)]∧L=RX w c ((w.lv.take i).filter (keepB c)) []) w.lv.length ⟨0,rfl,by omega,rfl,rfl⟩ ?_)
 rintro q _ _ ⟨i,rfl,hi,rfl,rfl⟩
 first|refine L_seq (L_rs (S_done [] rfl (Nx.goL (iF (fun h=>L_skip (Nx.goL ?_)) (fun h=>L_exit ?_)))))|refine L_rs (S_done [] rfl (Nx.goL (L_seq (iF (fun h=>L_skip (Nx.goL ?_)) (fun h=>L_exit ?_)))))
 ·have hik:i<w.lv.length:=by omega
  obtain ⟨x,hx1⟩:∃ x,w.lv[i]?=some x:=⟨_,List.getElem?_eq_getElem hik⟩
  have hx2:(lrow w)[i]?=some x:=by rw [lrow,List.getElem?_append_left hik]; exact hx1
  have hs:=filter_snoc (p:=keepB c) hx1
  have hol:((w.lv.take i).filter (keepB c)).length≤1000:=Nat.le_trans (List.length_filter_le ..) (by rw [List.length_take]; omega)
  generalize (w.lv.take i).filter (keepB c)=o at *
  rcases c with ⟨free,arg,at_,fault⟩
  cases hp:keepB ⟨free,arg,at_,fault⟩ x
  ·rw [hp] at hs
   cases free
   all_goals
    repeat' (first|refine qN ?_|refine dN ?_|refine dR ?_|refine d0 ?_|refine qB ?_|refine rT ?_|refine qT ?_|refine qU ?_|refine qL ?_|refine qK ?_|refine qF ?_|refine qE ?_|refine iF (fun h=>?_) (fun h=>?_)|refine aX ?_|refine S_Q [] rfl rfl (QY.ldRow Bk.ok rfl rfl hx2 (by decide)) ?_|refine aA ?_|refine aI (hn:=?_)|refine sP 28 (fun h=>?_) (fun h=>?_)|refine sP 33 (fun h=>?_) (fun h=>?_)|refine sP 56 (fun h=>?_) (fun h=>?_)|refine sP 61 (fun h=>?_) (fun h=>?_)|refine sP 80 (fun h=>?_) (fun h=>?_)|refine sP 93 (fun h=>?_) (fun h=>?_)|refine sP 112 (fun h=>?_) (fun h=>?_)|refine qR ?_|refine qS ?_|exact ⟨rfl,rfl⟩|fail)
   all_goals first | (exfalso; simp [keepB] at hp; done) | (exfalso; simp [keepB] at hp; simp_all; done)|exact Nx.pick [3,4,5,2,19,20,21] [0,1,2,3,4,5,6,7] rfl rfl rfl ⟨w.lv.length-(i+1),by omega,i+1,rfl,by omega,rfl,by rw [hs]; simp; rfl⟩
  ·rw [hp] at hs
   cases free
   all_goals
    repeat' (first|refine qN ?_|refine dN ?_|refine dR ?_|refine d0 ?_|refine qB ?_|refine rT ?_|refine qT ?_|refine qU ?_|refine qL ?_|refine qK ?_|refine qF ?_|refine qE ?_|refine iF (fun h=>?_) (fun h=>?_)|refine aX ?_|refine S_Q [] rfl rfl (QY.ldRow Bk.ok rfl rfl hx2 (by decide)) ?_|(refine eE rfl rfl (EW.appR1 (bytes:=16) (xs:=o) (a:=x) Bk.ok rfl (by kernel_rfl) rfl rfl rfl rfl rfl (by omega)) ?_; conv=>whnf)|refine aA ?_|refine aI (hn:=?_)|refine sP 28 (fun h=>?_) (fun h=>?_)|refine sP 33 (fun h=>?_) (fun h=>?_)|refine sP 56 (fun h=>?_) (fun h=>?_)|refine sP 61 (fun h=>?_) (fun h=>?_)|refine sP 80 (fun h=>?_) (fun h=>?_)|refine sP 93 (fun h=>?_) (fun h=>?_)|refine sP 112 (fun h=>?_) (fun h=>?_)|refine qR ?_|refine qS ?_|exact ⟨rfl,rfl⟩|fail)
   all_goals first | (exfalso; simp [keepB] at hp; done) | (exfalso; simp [keepB] at hp; simp_all; done)|exact Nx.pick [3,4,5,2,19,20,21] [0,1,2,3,4,5,10,7] rfl rfl rfl ⟨w.lv.length-(i+1),by omega,i+1,rfl,by omega,rfl,by rw [hs,if_pos rfl,RX,List.length_append]; rfl⟩
 ·refine Nx.goL ?_
  obtain rfl:i=w.lv.length:=by omega
  rw [List.take_length]
  obtain ⟨o,ho⟩:∃ o,o=w.lv.filter (keepB c):=⟨_,rfl⟩
  have hol:o.length≤1000:=by rw [ho]; exact Nat.le_trans (List.length_filter_le ..) (by omega)
  have hR:rnextS w c=⟨w.ma,w.ar,if c.free=false∧c.at_ ≠ -1 then o++[⟨c.at_,c.arg⟩] else o,0,rf2 w c,0⟩:=by rw [rnextS,rl2,ho]
  rw [hR,← ho]
  clear hR ho hi
  repeat' (first|refine qN ?_|refine dN ?_|refine dR ?_|refine d0 ?_|refine qB ?_|refine rT ?_|refine qT ?_|refine qU ?_|refine qL ?_|refine qK ?_|refine qF ?_|refine qE ?_|refine iF (fun h=>?_) (fun h=>?_)|refine aX ?_|refine aA ?_|refine aI (hn:=?_)|refine sP 28 (fun h=>?_) (fun h=>?_)|refine sP 33 (fun h=>?_) (fun h=>?_)|refine sP 56 (fun h=>?_) (fun h=>?_)|refine sP 61 (fun h=>?_) (fun h=>?_)|refine sP 80 (fun h=>?_) (fun h=>?_)|refine sP 93 (fun h=>?_) (fun h=>?_)|refine sP 112 (fun h=>?_) (fun h=>?_)|refine qR ?_|refine qS ?_|exact ⟨rfl,rfl⟩|fail)
  refine LWp.pick [3,4,5,48,49,50] [0,1,2,3,4,5,6,7] rfl rfl rfl (L_loop (fun q l L=>∃ i:Nat,q=w.fr.length-i∧i≤w.fr.length∧l=[(3,pp 3),(4,pp 4),(5,pp 5),(48,slC 1 w.fr.length (w.fr.length+w.fz)),(49,.int .i64 w.fr.length),(50,.int .i64 i)]∧L=RX w c o ((w.fr.take i).filter (keepF c))) w.fr.length ⟨0,rfl,by omega,rfl,rfl⟩ ?_)
  clear h
  rintro q _ _ ⟨i,rfl,hi,rfl,rfl⟩
  first|refine L_seq (L_rs (S_done [] rfl (Nx.goL (iF (fun h=>L_skip (Nx.goL ?_)) (fun h=>L_exit ?_)))))|refine L_rs (S_done [] rfl (Nx.goL (L_seq (iF (fun h=>L_skip (Nx.goL ?_)) (fun h=>L_exit ?_)))))
  ·have hik:i<w.fr.length:=by omega
   obtain ⟨x,hx1⟩:∃ x,w.fr[i]?=some x:=⟨_,List.getElem?_eq_getElem hik⟩
   have hx2:(frow w)[i]?=some x:=by rw [frow,List.getElem?_append_left hik]; exact hx1
   have hs:=filter_snoc (p:=keepF c) hx1
   have hfl:((w.fr.take i).filter (keepF c)).length≤1000:=Nat.le_trans (List.length_filter_le ..) (by rw [List.length_take]; omega)
   have hxi:=hfi x (List.mem_of_getElem? hx1)
   generalize (w.fr.take i).filter (keepF c)=f at *
   clear hfi
   rcases c with ⟨free,arg,at_,fault⟩
   cases free
   ·by_cases ha:at_ = -1
    ·have hp:keepF ⟨false,arg,at_,fault⟩ x=true:=by simp [keepF,ha]
     rw [hp] at hs
     subst ha
     repeat' (first|refine qN ?_|refine dN ?_|refine dR ?_|refine d0 ?_|refine qB ?_|refine rT ?_|refine qT ?_|refine qU ?_|refine qL ?_|refine qK ?_|refine qF ?_|refine qE ?_|refine iF (fun h=>?_) (fun h=>?_)|refine aX ?_|refine S_Q [] rfl rfl (QY.ldI rfl rfl hx2) ?_|(refine eE rfl rfl (EW.appR1 (bytes:=8) (xs:=f) (a:=x) intC_ok rfl (by kernel_rfl) rfl rfl rfl rfl rfl (by omega)) ?_; conv=>whnf)|refine aA ?_|refine aI (hn:=?_)|refine sP 28 (fun h=>?_) (fun h=>?_)|refine sP 33 (fun h=>?_) (fun h=>?_)|refine sP 56 (fun h=>?_) (fun h=>?_)|refine sP 61 (fun h=>?_) (fun h=>?_)|refine sP 80 (fun h=>?_) (fun h=>?_)|refine sP 93 (fun h=>?_) (fun h=>?_)|refine sP 112 (fun h=>?_) (fun h=>?_)|refine qR ?_|refine qS ?_|exact ⟨rfl,rfl⟩|fail)
     all_goals first | (exfalso; omega)|exact Nx.pick [3,4,5,48,49,50] [0,1,2,3,4,5,6,9] rfl rfl rfl ⟨w.fr.length-(i+1),by omega,i+1,rfl,by omega,rfl,by rw [hs,if_pos rfl,RX,List.length_append]; rfl⟩
    ·have hI:=rIn_tr ⟨at_,arg⟩ x (hc rfl ha) (by omega)
     cases hp:inB at_ arg x
     ·have hp2:keepF ⟨false,arg,at_,fault⟩ x=true:=by simp [keepF,hp]
      rw [hp2] at hs
      rw [show inB (Bk.mk at_ arg).at_ (Bk.mk at_ arg).n x=false from hp] at hI
      repeat' (first|refine qN ?_|refine dN ?_|refine dR ?_|refine d0 ?_|refine qB ?_|refine rT ?_|refine qT ?_|refine qU ?_|refine qL ?_|refine qK ?_|refine qF ?_|refine qE ?_|refine iF (fun h=>?_) (fun h=>?_)|refine aX ?_|refine S_Q [] rfl rfl (QY.ldI rfl rfl hx2) ?_|refine cP [] (hI) ?_|(refine eE rfl rfl (EW.appR1 (bytes:=8) (xs:=f) (a:=x) intC_ok rfl (by kernel_rfl) rfl rfl rfl rfl rfl (by omega)) ?_; conv=>whnf)|refine aA ?_|refine aI (hn:=?_)|refine sP 28 (fun h=>?_) (fun h=>?_)|refine sP 33 (fun h=>?_) (fun h=>?_)|refine sP 56 (fun h=>?_) (fun h=>?_)|refine sP 61 (fun h=>?_) (fun h=>?_)|refine sP 80 (fun h=>?_) (fun h=>?_)|refine sP 93 (fun h=>?_) (fun h=>?_)|refine sP 112 (fun h=>?_) (fun h=>?_)|refine qR ?_|refine qS ?_|exact ⟨rfl,rfl⟩|fail)
      all_goals first|exact absurd h ha|exact Nx.pick [3,4,5,48,49,50] [0,1,2,3,4,5,6,9] rfl rfl rfl ⟨w.fr.length-(i+1),by omega,i+1,rfl,by omega,rfl,by rw [hs,if_pos rfl,RX,List.length_append]; rfl⟩
     ·have hp2:keepF ⟨false,arg,at_,fault⟩ x=false:=by simp [keepF,hp,ha]
      rw [hp2] at hs
      rw [show inB (Bk.mk at_ arg).at_ (Bk.mk at_ arg).n x=true from hp] at hI
      repeat' (first|refine qN ?_|refine dN ?_|refine dR ?_|refine d0 ?_|refine qB ?_|refine rT ?_|refine qT ?_|refine qU ?_|refine qL ?_|refine qK ?_|refine qF ?_|refine qE ?_|refine iF (fun h=>?_) (fun h=>?_)|refine aX ?_|refine S_Q [] rfl rfl (QY.ldI rfl rfl hx2) ?_|refine cP [] (hI) ?_|refine aA ?_|refine aI (hn:=?_)|refine sP 28 (fun h=>?_) (fun h=>?_)|refine sP 33 (fun h=>?_) (fun h=>?_)|refine sP 56 (fun h=>?_) (fun h=>?_)|refine sP 61 (fun h=>?_) (fun h=>?_)|refine sP 80 (fun h=>?_) (fun h=>?_)|refine sP 93 (fun h=>?_) (fun h=>?_)|refine sP 112 (fun h=>?_) (fun h=>?_)|refine qR ?_|refine qS ?_|exact ⟨rfl,rfl⟩|fail)
      all_goals first|exact absurd h ha|exact Nx.pick [3,4,5,48,49,50] [0,1,2,3,4,5,6,7] rfl rfl rfl ⟨w.fr.length-(i+1),by omega,i+1,rfl,by omega,rfl,by rw [hs]; simp; rfl⟩
   ·have hp:keepF ⟨true,arg,at_,fault⟩ x=true:=by simp [keepF]
    rw [hp] at hs
    repeat' (first|refine qN ?_|refine dN ?_|refine dR ?_|refine d0 ?_|refine qB ?_|refine rT ?_|refine qT ?_|refine qU ?_|refine qL ?_|refine qK ?_|refine qF ?_|refine qE ?_|refine iF (fun h=>?_) (fun h=>?_)|refine aX ?_|refine S_Q [] rfl rfl (QY.ldI rfl rfl hx2) ?_|(refine eE rfl rfl (EW.appR1 (bytes:=8) (xs:=f) (a:=x) intC_ok rfl (by kernel_rfl) rfl rfl rfl rfl rfl (by omega)) ?_; conv=>whnf)|refine aA ?_|refine aI (hn:=?_)|refine sP 28 (fun h=>?_) (fun h=>?_)|refine sP 33 (fun h=>?_) (fun h=>?_)|refine sP 56 (fun h=>?_) (fun h=>?_)|refine sP 61 (fun h=>?_) (fun h=>?_)|refine sP 80 (fun h=>?_) (fun h=>?_)|refine sP 93 (fun h=>?_) (fun h=>?_)|refine sP 112 (fun h=>?_) (fun h=>?_)|refine qR ?_|refine qS ?_|exact ⟨rfl,rfl⟩|fail)
    exact Nx.pick [3,4,5,48,49,50] [0,1,2,3,4,5,6,9] rfl rfl rfl ⟨w.fr.length-(i+1),by omega,i+1,rfl,by omega,rfl,by rw [hs,if_pos rfl,RX,List.length_append]; rfl⟩
  ·refine Nx.goL ?_
   obtain rfl:i=w.fr.length:=by omega
   rw [List.take_length]
   obtain ⟨f,hff⟩:∃ f,f=w.fr.filter (keepF c):=⟨_,rfl⟩
   have hfl:f.length≤1000:=by rw [hff]; exact Nat.le_trans (List.length_filter_le ..) (by omega)
   have hR:rf2 w c=if c.free=true∧c.fault=0∧(f.any (· == c.arg))=false then f++[c.arg] else f:=by rw [rf2,← hff]
   rw [hR,← hff]
   clear hR hff h hi hfi hc
   rcases c with ⟨free,arg,at_,fault⟩
   cases free
   ·rw [if_neg (c:=false=true∧_) (fun h=>by cases h.1)]
    by_cases ha:at_ = -1
    ·rw [if_neg (fun h=>h.2 ha),spB_z,spV_z]
     repeat' (first|refine qN ?_|refine dN ?_|refine d0 ?_|refine qB ?_|refine qT ?_|refine qU ?_|refine qL ?_|refine qK ?_|refine qF ?_|refine qE ?_|refine iF (fun h=>?_) (fun h=>?_)|refine aX ?_|refine aA ?_|refine aI (hn:=?_)|refine sP 28 (fun h=>?_) (fun h=>?_)|refine sP 33 (fun h=>?_) (fun h=>?_)|refine sP 56 (fun h=>?_) (fun h=>?_)|refine sP 61 (fun h=>?_) (fun h=>?_)|refine sP 80 (fun h=>?_) (fun h=>?_)|refine sP 93 (fun h=>?_) (fun h=>?_)|refine sP 112 (fun h=>?_) (fun h=>?_)|refine qR ?_|refine qS ?_|exact ⟨rfl,rfl⟩|fail)
     all_goals first|exact absurd ha h|exact L_ret (RetQ.pick [0,1,6,7] rfl rfl rfl rfl ⟨rfl,rfl⟩)
    ·rw [if_pos ⟨rfl,ha⟩,spB_z,spV_z,List.length_append]
     repeat' (first|refine qN ?_|refine dN ?_|refine d0 ?_|refine qB ?_|refine qT ?_|refine qU ?_|refine qL ?_|refine qK ?_|refine qF ?_|refine qE ?_|refine iF (fun h=>?_) (fun h=>?_)|refine aX ?_|(refine eE rfl rfl (EW.appR1 (bytes:=16) (xs:=o) (a:=⟨at_,arg⟩) Bk.ok rfl (by kernel_rfl) rfl rfl rfl rfl rfl (by omega)) ?_; conv=>whnf)|refine aA ?_|refine aI (hn:=?_)|refine sP 28 (fun h=>?_) (fun h=>?_)|refine sP 33 (fun h=>?_) (fun h=>?_)|refine sP 56 (fun h=>?_) (fun h=>?_)|refine sP 61 (fun h=>?_) (fun h=>?_)|refine sP 80 (fun h=>?_) (fun h=>?_)|refine sP 93 (fun h=>?_) (fun h=>?_)|refine sP 112 (fun h=>?_) (fun h=>?_)|refine qR ?_|refine qS ?_|exact ⟨rfl,rfl⟩|fail)
     all_goals first|exact absurd h ha|exact absurd ha h|exact L_ret (RetQ.pick [0,1,9,7] rfl rfl rfl rfl ⟨rfl,rfl⟩)
   ·rw [if_neg (c:=true=false∧_) (fun h=>by cases h.1)]
    by_cases hf0:fault=0
    ·subst hf0
     repeat' (first|refine qN ?_|refine dN ?_|refine dR ?_|refine d0 ?_|refine qB ?_|refine rT ?_|refine qT ?_|refine qU ?_|refine qL ?_|refine qK ?_|refine qF ?_|refine qE ?_|refine iF (fun h=>?_) (fun h=>?_)|refine aX ?_|refine aA ?_|refine aI (hn:=?_)|refine sP 28 (fun h=>?_) (fun h=>?_)|refine sP 33 (fun h=>?_) (fun h=>?_)|refine sP 56 (fun h=>?_) (fun h=>?_)|refine sP 61 (fun h=>?_) (fun h=>?_)|refine sP 80 (fun h=>?_) (fun h=>?_)|refine sP 93 (fun h=>?_) (fun h=>?_)|refine sP 112 (fun h=>?_) (fun h=>?_)|refine qR ?_|refine qS ?_|exact ⟨rfl,rfl⟩|fail)
     refine LWp.pick [3,4,5,10,86,87,88] [0,1,2,3,4,5,6,7] rfl rfl rfl (L_loop (fun q l L=>∃ i:Nat,q=f.length-i∧i≤f.length∧l=[(3,pp 3),(4,pp 4),(5,pp 5),(10,.bool ((f.take i).any (· == arg))),(86,slC 7 f.length f.length),(87,.int .i64 f.length),(88,.int .i64 i)]∧L=RX w ⟨true,arg,at_,0⟩ o f) f.length ⟨0,rfl,by omega,by rfl,rfl⟩ ?_)
     rintro q _ _ ⟨i,rfl,hi,rfl,rfl⟩
     first|refine L_seq (L_rs (S_done [] rfl (Nx.goL (iF (fun h=>L_skip (Nx.goL ?_)) (fun h=>L_exit ?_)))))|refine L_rs (S_done [] rfl (Nx.goL (L_seq (iF (fun h=>L_skip (Nx.goL ?_)) (fun h=>L_exit ?_)))))
     ·have hik:i<f.length:=by omega
      obtain ⟨x,hx1⟩:∃ x,f[i]?=some x:=⟨_,List.getElem?_eq_getElem hik⟩
      have hs:=any_snoc (p:=fun x:Int=>x == arg) hx1
      cases hb:(f.take i).any (· == arg)
      all_goals
       rw [hb] at hs
       repeat' (first|refine qN ?_|refine dN ?_|refine dR ?_|refine d0 ?_|refine qB ?_|refine rT ?_|refine qT ?_|refine qU ?_|refine qL ?_|refine qK ?_|refine qF ?_|refine qE ?_|refine iF (fun h=>?_) (fun h=>?_)|refine aX ?_|refine S_Q [] rfl rfl (QY.ldI rfl rfl hx1) ?_|refine aA ?_|refine aI (hn:=?_)|refine sP 28 (fun h=>?_) (fun h=>?_)|refine sP 33 (fun h=>?_) (fun h=>?_)|refine sP 56 (fun h=>?_) (fun h=>?_)|refine sP 61 (fun h=>?_) (fun h=>?_)|refine sP 80 (fun h=>?_) (fun h=>?_)|refine sP 93 (fun h=>?_) (fun h=>?_)|refine sP 112 (fun h=>?_) (fun h=>?_)|refine qR ?_|refine qS ?_|exact ⟨rfl,rfl⟩|fail)
       exact Nx.pick [3,4,5,10,86,87,88] [0,1,2,3,4,5,6,7] rfl rfl rfl ⟨f.length-(i+1),by omega,i+1,rfl,by omega,by rw [hs]; rfl,rfl⟩
     ·refine Nx.goL ?_
      obtain rfl:i=f.length:=by omega
      rw [List.take_length]
      cases hb:f.any (· == arg)
      ·rw [if_pos ⟨rfl,rfl,rfl⟩,spB_z,spV_z,List.length_append]
       repeat' (first|refine qN ?_|refine dN ?_|refine d0 ?_|refine qB ?_|refine qT ?_|refine qU ?_|refine qL ?_|refine qK ?_|refine qF ?_|refine qE ?_|refine iF (fun h=>?_) (fun h=>?_)|refine aX ?_|(refine eE rfl rfl (EW.appR1 (bytes:=8) (xs:=f) (a:=arg) intC_ok rfl (by kernel_rfl) rfl rfl rfl rfl rfl (by omega)) ?_; conv=>whnf)|refine aA ?_|refine aI (hn:=?_)|refine sP 28 (fun h=>?_) (fun h=>?_)|refine sP 33 (fun h=>?_) (fun h=>?_)|refine sP 56 (fun h=>?_) (fun h=>?_)|refine sP 61 (fun h=>?_) (fun h=>?_)|refine sP 80 (fun h=>?_) (fun h=>?_)|refine sP 93 (fun h=>?_) (fun h=>?_)|refine sP 112 (fun h=>?_) (fun h=>?_)|refine qR ?_|refine qS ?_|exact ⟨rfl,rfl⟩|fail)
       exact L_ret (RetQ.pick [0,1,6,9] rfl rfl rfl rfl ⟨rfl,rfl⟩)
      ·rw [if_neg (fun h=>by cases h.2.2),spB_z,spV_z]
       repeat' (first|refine qN ?_|refine dN ?_|refine d0 ?_|refine qB ?_|refine qT ?_|refine qU ?_|refine qL ?_|refine qK ?_|refine qF ?_|refine qE ?_|refine iF (fun h=>?_) (fun h=>?_)|refine aX ?_|refine aA ?_|refine aI (hn:=?_)|refine sP 28 (fun h=>?_) (fun h=>?_)|refine sP 33 (fun h=>?_) (fun h=>?_)|refine sP 56 (fun h=>?_) (fun h=>?_)|refine sP 61 (fun h=>?_) (fun h=>?_)|refine sP 80 (fun h=>?_) (fun h=>?_)|refine sP 93 (fun h=>?_) (fun h=>?_)|refine sP 112 (fun h=>?_) (fun h=>?_)|refine qR ?_|refine qS ?_|exact ⟨rfl,rfl⟩|fail)
       exact L_ret (RetQ.pick [0,1,6,7] rfl rfl rfl rfl ⟨rfl,rfl⟩)
    ·rw [if_neg (fun h=>hf0 h.2.1),spB_z,spV_z]
     repeat' (first|refine qN ?_|refine dN ?_|refine d0 ?_|refine qB ?_|refine qT ?_|refine qU ?_|refine qL ?_|refine qK ?_|refine qF ?_|refine qE ?_|refine iF (fun h=>?_) (fun h=>?_)|refine aX ?_|refine aA ?_|refine aI (hn:=?_)|refine sP 28 (fun h=>?_) (fun h=>?_)|refine sP 33 (fun h=>?_) (fun h=>?_)|refine sP 56 (fun h=>?_) (fun h=>?_)|refine sP 61 (fun h=>?_) (fun h=>?_)|refine sP 80 (fun h=>?_) (fun h=>?_)|refine sP 93 (fun h=>?_) (fun h=>?_)|refine sP 112 (fun h=>?_) (fun h=>?_)|refine qR ?_|refine qS ?_|exact ⟨rfl,rfl⟩|fail)
     all_goals first|exact absurd h hf0|exact absurd hf0 h|exact L_ret (RetQ.pick [0,1,6,7] rfl rfl rfl rfl ⟨rfl,rfl⟩) | (exfalso; simp_all; done)
end Go.Proofs.Ythgmdlmeeebfiaa
end
section
namespace Go.Tum.Base
open Go Go.Tum
abbrev Bytes:=List (BitVec 8)
def byteAt (v:BitVec 64) (k:Nat):BitVec 8:=(v >>> (8*k)).setWidth 8
def putB (v:BitVec 64):Nat→Bytes
 | 0=>[]
 | k+1=>putB v k++[byteAt v k]
theorem putB_length (v:BitVec 64):∀ k,(putB v k).length=k
 | 0=>rfl
 | k+1=>by simp [putB,putB_length v k]
theorem putB_get (v:BitVec 64):∀ (n k:Nat),k<n→(putB v n)[k]?=some (byteAt v k)
 | n+1,k,h=>by
  rw [putB]
  by_cases e:k=n
  ·subst e
   have:=putB_length v k
   rw [List.getElem?_append_right (by omega),this]; simp
  ·have:=putB_length v n
   rw [List.getElem?_append_left (by omega),putB_get v n k (by omega)]
def getF (bs:Bytes):Nat→BitVec 64
 | 0=>0
 | k+1=>getF bs k ||| ((bs.getD k 0).setWidth 64 <<< (8*k))
def getW (bs:Bytes):BitVec 64:=getF bs (min bs.length 8)
theorem getF_put (v:BitVec 64):∀ k,k≤8→∀ i,i<64→(getF (putB v 8) k).getLsbD i=(decide (i<8*k) && v.getLsbD i)
 | 0,_,i,_=>by simp [getF]
 | k+1,hk,i,hi=>by
  have hg:(putB v 8).getD k 0=byteAt v k:=by rw [List.getD_eq_getElem?_getD,putB_get v 8 k (by omega)]; rfl
  rw [getF,BitVec.getLsbD_or,getF_put v k (by omega) i hi,hg,BitVec.getLsbD_shiftLeft,byteAt,BitVec.getLsbD_setWidth,BitVec.getLsbD_setWidth,BitVec.getLsbD_ushiftRight]
  by_cases h1:i<8*k
  ·simp [h1,show i<8*(k+1) by omega]
  ·by_cases h2:i<8*(k+1)
   ·have e:8*k+(i-8*k)=i:=by omega
    simp [h1,h2,hi,e,show i-8*k<64 by omega,show i-8*k<8 by omega]
   ·simp [h1,h2,show ¬ i-8*k<8 by omega]
theorem getW_put (v:BitVec 64):getW (putB v 8)=v:=by
 apply BitVec.eq_of_getLsbD_eq
 intro i hi
 have:min (putB v 8).length 8=8:=by rw [putB_length]; rfl
 rw [getW,this,getF_put v 8 (Nat.le_refl _) i hi]
 simp [show i<8*8 by omega]
end Go.Tum.Base
end
section
namespace Go.Proofs.Ythgmdlmeeebfiaa
open Go Go.Tum Go.Tum.Base
set_option maxRecDepth 4000
theorem new_tr (ma ar:Int):Tr Try.prog 33 [.agg ⟨[.int .i64 ma,.int .i64 ar]⟩] [] (fun v K=>v=.agg ⟨[.int .i64 ma,.int .i64 ar,.slice none 0 0,.slice none 0 0]⟩∧K=[]):=by
 refine Tr.of row_spec_New_ok rfl ?_
 repeat' (first|refine qN ?_|refine dN ?_|refine dR ?_|refine d0 ?_|refine rT ?_|refine aI (hn:=?_)|refine qR ?_|refine qS ?_|exact ⟨rfl,rfl⟩|fail)
abbrev slB (b n:Nat):Value:=.slice (some ⟨b,0,none⟩) n n
def BL (bs:Bytes):LB:=.gro 1 (rowsC byteC bs)
set_option maxRecDepth 4000 in
theorem numPut_tr (v:BitVec 64):Tr Try.prog 35 [.int .i64 8,.int .u64 (v.toNat:Int)] [] (fun u K=>u=slB 0 8∧K=[BL (putB v 8)]):=by
 refine Tr.of row_num_Put_ok rfl ?_
 repeat' (first|refine qN ?_|refine dN ?_|refine dR ?_|refine d0 ?_|refine qB ?_|refine rT ?_|refine qT ?_|refine qU ?_|refine qL ?_|refine qK ?_|refine qF ?_|refine qE ?_|refine iF (fun h=>?_) (fun h=>?_)|refine aX ?_|refine aA ?_|refine aI (hn:=?_)|refine aM ?_|refine sP 9 (fun h=>?_) (fun h=>?_)|refine qR ?_|refine qS ?_|exact ⟨rfl,rfl⟩|fail)
 first|refine L_rs ?_|refine L_reg ?_ | skip
 refine eE rfl rfl (EW.mk (sz:=1) (bytes:=1) (k:=8) (zs:=byteC 0) rfl (by kernel_rfl) rfl rfl (by omega) (by omega)) ?_
 conv=>whnf
 refine S_done [] rfl (Nx.goL ?_)
 refine L_cut (fun l L=>l=[(5,slB 0 8)]∧L=[BL (putB v 8)]) ?_ ?_
 ·refine L_rs (S_done [] rfl (Nx.pick [1,5,16,17] [0] rfl rfl rfl ?_))
  refine L_block (L_loop (fun r l L=>∃ k:Nat,r=8-k∧k≤8∧l=[(1,.int .u64 (v.toNat:Int)),(5,slB 0 8),(16,.int .i64 8),(17,.int .i64 k)]∧L=[BL (putB v k++List.replicate (8-k) 0)]) 8 ⟨0,rfl,by omega,rfl,by rw [repC_rows (0:BitVec 8)]; rfl⟩ ?_)
  rintro r _ _ ⟨k,rfl,hk,rfl,rfl⟩
  have hl:=putB_length v k
  first|refine L_seq (L_rs (S_done [] rfl (Nx.goL (iF (fun h=>L_skip (Nx.goL ?_)) (fun h=>L_exit ?_)))))|refine L_rs (S_done [] rfl (Nx.goL (L_seq (iF (fun h=>L_skip (Nx.goL ?_)) (fun h=>L_exit ?_)))))
  ·have hk8:k<8:=by omega
   repeat' (first|refine qN ?_|refine dN ?_|refine dR ?_|refine d0 ?_|refine qB ?_|refine rT ?_|refine qT ?_|refine qU ?_|refine qL ?_|refine qK ?_|refine qF ?_|refine qE ?_|refine iF (fun h=>?_) (fun h=>?_)|refine aX ?_|refine aA ?_|refine aI (hn:=?_)|refine aM ?_|refine sP 9 (fun h=>?_) (fun h=>?_)|refine qR ?_|refine qS ?_|exact ⟨rfl,rfl⟩|fail)
   first|refine L_rs ?_|refine L_reg ?_ | skip
   refine S_Q [] rfl rfl (QY.shrW (n:=8*k) rfl rfl) ?_
   first|refine L_rs ?_|refine L_reg ?_ | skip
   refine S_Q [] rfl rfl (QY.cvWB rfl) ?_
   first|refine L_rs ?_|refine L_reg ?_ | skip
   refine S_Q [] rfl rfl (QY.idxN rfl rfl hk8) ?_
   first|refine L_rs ?_|refine L_reg ?_ | skip
   refine eE rfl rfl (EW.stY (k:=k) rfl rfl rfl (by simp; omega)) ?_
   conv=>whnf
   repeat' (first|refine qN ?_|refine dN ?_|refine dR ?_|refine d0 ?_|refine qB ?_|refine rT ?_|refine qT ?_|refine qU ?_|refine qL ?_|refine qK ?_|refine qF ?_|refine qE ?_|refine iF (fun h=>?_) (fun h=>?_)|refine aX ?_|refine aA ?_|refine aI (hn:=?_)|refine aM ?_|refine sP 9 (fun h=>?_) (fun h=>?_)|refine qR ?_|refine qS ?_|exact ⟨rfl,rfl⟩|fail)
   refine Nx.pick [1,5,16,17] [0] rfl rfl rfl ⟨8-(k+1),by omega,k+1,rfl,by omega,rfl,?_⟩
   have e:(putB v k++List.replicate (8-k) 0).set k ((v >>> (8*k)).setWidth 8)=putB v (k+1)++List.replicate (8-(k+1)) 0:=by
    rw [List.set_append_right _ _ (by omega),hl,Nat.sub_self,show 8-k=(8-(k+1))+1 by omega,List.replicate_succ,List.set_cons_zero,putB,List.append_assoc]; rfl
   rw [← e]; rfl
  ·obtain rfl:k=8:=by omega
   exact Nx.pick [5] [0] rfl rfl rfl ⟨rfl,by rw [Nat.sub_self,List.replicate_zero,List.append_nil]; rfl⟩
 rintro _ _ ⟨rfl,rfl⟩
 repeat' (first|refine qN ?_|refine dN ?_|refine dR ?_|refine d0 ?_|refine qB ?_|refine rT ?_|refine qT ?_|refine qU ?_|refine qL ?_|refine qK ?_|refine qF ?_|refine qE ?_|refine iF (fun h=>?_) (fun h=>?_)|refine aX ?_|refine aA ?_|refine aI (hn:=?_)|refine aM ?_|refine sP 9 (fun h=>?_) (fun h=>?_)|refine qR ?_|refine qS ?_|exact ⟨rfl,rfl⟩|fail)
 exact L_ret (RetQ.pick [0] rfl rfl rfl rfl ⟨rfl,rfl⟩)
def w8 (x:Int):Bytes:=putB (BitVec.ofInt 64 x) 8
theorem w8_len (x:Int):(w8 x).length=8:=putB_length _ _
theorem keyC_tr (xs:Bytes) (hx:xs.length≤65536) (x:Int):Tr Try.prog 34 [.int .i64 x,.pointer (some ⟨0,0,none⟩)] [.cells 0 [slB 1 xs.length],BL xs] (fun v K=>v=.tuple ⟨[]⟩∧K=[.cells 0 [slB 2 (xs.length+8)],.dead,BL (xs++w8 x)]):=by
 have hP:=numPut_tr (BitVec.ofInt 64 x)
 refine Tr.of row_spec_State_Key_c1_ok rfl ?_
 repeat' (first|refine qN ?_|refine dN ?_|refine dR ?_|refine d0 ?_|refine rT ?_|refine S_Q [] rfl rfl (QY.cvi rfl (wrap_u64 x)) ?_|(refine cW [] (hP) ?_; conv=>whnf)|(refine eE rfl rfl (EW.appRR (bytes:=1) (xs:=xs) (ys:=putB (BitVec.ofInt 64 x) 8) byteC_ok rfl (by kernel_rfl) rfl rfl rfl rfl rfl (putB_length _ _) (by decide) (by omega)) ?_; conv=>whnf)|refine aI (hn:=?_)|refine qR ?_|refine qS ?_|exact ⟨rfl,rfl⟩|fail)
 exact RetQ.end [0,1,3] rfl rfl rfl rfl ⟨rfl,rfl⟩
theorem keyC2_tr {o:Bytes} {n:Nat} (hn:o.length=n) (hx:n≤65536) (x:Int):Tr Try.prog 34 [.int .i64 x,.pointer (some ⟨0,0,none⟩)] [.cells 0 [slB 1 n],BL o] (fun v K=>v=.tuple ⟨[]⟩∧K=[.cells 0 [slB 2 (n+8)],.dead,BL (o++w8 x)]):=by
 subst hn; exact keyC_tr o hx x
def blkB (l:List Bk):Bytes:=l.flatMap (fun x=>w8 x.at_++w8 x.n)
theorem blkB_len (l:List Bk):(blkB l).length=16*l.length:=by
 induction l with
 | nil=>rfl
 | cons a r ih=>simp only [blkB,List.flatMap_cons,List.length_append,w8_len,List.length_cons] at *; omega
def intB (l:List Int):Bytes:=l.flatMap w8
theorem intB_len (l:List Int):(intB l).length=8*l.length:=by
 induction l with
 | nil=>rfl
 | cons a r ih=>simp only [intB,List.flatMap_cons,List.length_append,w8_len,List.length_cons] at *; omega
theorem blkB_snoc {l:List Bk} {i:Nat} {x:Bk} (hx:l[i]?=some x):blkB (l.take (i+1))=blkB (l.take i)++w8 x.at_++w8 x.n:=by
 rw [List.take_add_one,hx]; simp [blkB]
theorem intB_snoc {l:List Int} {i:Nat} {x:Int} (hx:l[i]?=some x):intB (l.take (i+1))=intB (l.take i)++w8 x:=by
 rw [List.take_add_one,hx]; simp [intB]
def keyB (s:Sp):Bytes:=w8 s.ma++w8 s.ar++w8 s.lv.length++blkB s.lv++intB s.fr
abbrev keF:Value:=.func (.func 34) ⟨[]⟩ ⟨[.pointer (some ⟨3,0,none⟩)]⟩
def KX (s:Sp) (n:Nat) (o:Bytes):LH:=spB s++[.cells 0 [.int .i64 s.ma,.int .i64 s.ar,slC 0 s.lv.length (s.lv.length+s.lz),slC 1 s.fr.length (s.fr.length+s.fz)],.cells 0 [slB 4 n],BL o]
set_option maxHeartbeats 1000000 in
theorem key_tr (s:Sp) (hs:SOk s):Tr Try.prog 13 [spV 0 1 s] (spB s) (fun v K=>v=.string (bytesS (keyB s))∧K=spB s):=by
 have hl:=hs.ll
 have hf:=hs.fl
 have h1:=keyC2_tr (o:=[]) (n:=0) rfl (by omega) s.ma
 have h2:=keyC2_tr (o:=[]++w8 s.ma) (n:=8) (by simp [w8_len]) (by omega) s.ar
 have h3:=keyC2_tr (o:=[]++w8 s.ma++w8 s.ar) (n:=16) (by simp [w8_len]) (by omega) s.lv.length
 refine Tr.of row_spec_State_Key_ok rfl ?_
 refine L_rs (S_done [] rfl (Nx.goL (L_rs (S_done [] rfl (Nx.goL ?_)))))
 refine LWp.nilC 3 0 1 rfl rfl ?_
 repeat' (first|refine qN ?_|refine dN ?_|refine dR ?_|refine d0 ?_|refine qB ?_|refine rT ?_|refine qT ?_|refine qU ?_|refine qL ?_|refine qK ?_|refine qF ?_|refine qE ?_|refine iF (fun h=>?_) (fun h=>?_)|refine aX ?_|(refine cV [3,4] h1 ?_; conv=>whnf)|(refine cV [3,5] h2 ?_; conv=>whnf)|(refine cV [3,6] h3 ?_; conv=>whnf)|refine aA ?_|refine aI (hn:=?_)|refine qR ?_|refine qS ?_|exact ⟨rfl,rfl⟩|fail)
 obtain ⟨o0,ho⟩:∃ o0,o0=[]++w8 s.ma++w8 s.ar++w8 s.lv.length:=⟨_,rfl⟩
 have hol:o0.length=24:=by rw [ho]; simp [w8_len]
 have hK:keyB s=o0++blkB s.lv++intB s.fr:=by rw [keyB,ho,List.nil_append]
 rw [hK,← ho]
 clear hK ho h1 h2 h3
 refine LWp.pick [1,3,4,26,27,28] [0,1,2,3,7] rfl rfl rfl (L_loop (fun q l L=>∃ i:Nat,q=s.lv.length-i∧i≤s.lv.length∧l=[(1,pp 2),(3,pp 3),(4,keF),(26,slC 0 s.lv.length (s.lv.length+s.lz)),(27,.int .i64 s.lv.length),(28,.int .i64 i)]∧L=KX s (24+16*i) (o0++blkB (s.lv.take i))) s.lv.length ⟨0,rfl,by omega,rfl,by rw [List.take_zero,show blkB []=[] from rfl,List.append_nil]; rfl⟩ ?_)
 rintro q _ _ ⟨i,rfl,hi,rfl,rfl⟩
 first|refine L_seq (L_rs (S_done [] rfl (Nx.goL (iF (fun h=>L_skip (Nx.goL ?_)) (fun h=>L_exit ?_)))))|refine L_rs (S_done [] rfl (Nx.goL (L_seq (iF (fun h=>L_skip (Nx.goL ?_)) (fun h=>L_exit ?_)))))
 ·have hik:i<s.lv.length:=by omega
  obtain ⟨x,hx1⟩:∃ x,s.lv[i]?=some x:=⟨_,List.getElem?_eq_getElem hik⟩
  have hx2:(lrow s)[i]?=some x:=by rw [lrow,List.getElem?_append_left hik]; exact hx1
  have hsn:=blkB_snoc hx1
  have hln:=blkB_len (s.lv.take i)
  rw [List.length_take,Nat.min_eq_left hi] at hln
  generalize blkB (s.lv.take i)=o at *
  have h1:=keyC2_tr (o:=o0++o) (n:=24+16*i) (by rw [List.length_append]; omega) (by omega) x.at_
  have h2:=keyC2_tr (o:=o0++o++w8 x.at_) (n:=24+16*i+8) (by rw [List.length_append,List.length_append,w8_len]; omega) (by omega) x.n
  repeat' (first|refine qN ?_|refine dN ?_|refine dR ?_|refine d0 ?_|refine qB ?_|refine rT ?_|refine qT ?_|refine qU ?_|refine qL ?_|refine qK ?_|refine qF ?_|refine qE ?_|refine iF (fun h=>?_) (fun h=>?_)|refine aX ?_|refine S_Q [] rfl rfl (QY.ldRow Bk.ok rfl rfl hx2 (by decide)) ?_|(refine cV [3,4] h1 ?_; conv=>whnf)|(refine cV [3,6] h2 ?_; conv=>whnf)|refine aA ?_|refine aI (hn:=?_)|refine qR ?_|refine qS ?_|exact ⟨rfl,rfl⟩|fail)
  exact Nx.pick [1,3,4,26,27,28] [0,1,2,3,7] rfl rfl rfl ⟨s.lv.length-(i+1),by omega,i+1,rfl,by omega,rfl,by rw [hsn,show 24+16*(i+1)=24+16*i+8+8 by omega,← List.append_assoc,← List.append_assoc]; rfl⟩
 ·refine Nx.goL ?_
  obtain rfl:i=s.lv.length:=by omega
  rw [List.take_length]
  obtain ⟨o1,ho⟩:∃ o1,o1=o0++blkB s.lv:=⟨_,rfl⟩
  obtain ⟨n1,hn1⟩:∃ n1,n1=24+16*s.lv.length:=⟨_,rfl⟩
  have hol1:o1.length=n1:=by rw [ho,List.length_append,blkB_len]; omega
  have hn2:n1≤20000:=by omega
  rw [← ho,← hn1]
  clear ho hn1 hol h hi
  repeat' (first|refine qN ?_|refine dN ?_|refine dR ?_|refine d0 ?_|refine qB ?_|refine rT ?_|refine qT ?_|refine qU ?_|refine qL ?_|refine qK ?_|refine qF ?_|refine qE ?_|refine iF (fun h=>?_) (fun h=>?_)|refine aX ?_|refine aA ?_|refine aI (hn:=?_)|refine qR ?_|refine qS ?_|exact ⟨rfl,rfl⟩|fail)
  refine LWp.pick [3,4,42,43,44] [0,1,2,3,4] rfl rfl rfl (L_loop (fun q l L=>∃ i:Nat,q=s.fr.length-i∧i≤s.fr.length∧l=[(3,pp 3),(4,keF),(42,slC 1 s.fr.length (s.fr.length+s.fz)),(43,.int .i64 s.fr.length),(44,.int .i64 i)]∧L=KX s (n1+8*i) (o1++intB (s.fr.take i))) s.fr.length ⟨0,rfl,by omega,rfl,by rw [List.take_zero,show intB []=[] from rfl,List.append_nil]; rfl⟩ ?_)
  rintro q _ _ ⟨i,rfl,hi,rfl,rfl⟩
  first|refine L_seq (L_rs (S_done [] rfl (Nx.goL (iF (fun h=>L_skip (Nx.goL ?_)) (fun h=>L_exit ?_)))))|refine L_rs (S_done [] rfl (Nx.goL (L_seq (iF (fun h=>L_skip (Nx.goL ?_)) (fun h=>L_exit ?_)))))
  ·have hik:i<s.fr.length:=by omega
   obtain ⟨x,hx1⟩:∃ x,s.fr[i]?=some x:=⟨_,List.getElem?_eq_getElem hik⟩
   have hx2:(frow s)[i]?=some x:=by rw [frow,List.getElem?_append_left hik]; exact hx1
   have hsn:=intB_snoc hx1
   have hln:=intB_len (s.fr.take i)
   rw [List.length_take,Nat.min_eq_left hi] at hln
   generalize intB (s.fr.take i)=o at *
   have h1:=keyC2_tr (o:=o1++o) (n:=n1+8*i) (by rw [List.length_append]; omega) (by omega) x
   repeat' (first|refine qN ?_|refine dN ?_|refine dR ?_|refine d0 ?_|refine qB ?_|refine rT ?_|refine qT ?_|refine qU ?_|refine qL ?_|refine qK ?_|refine qF ?_|refine qE ?_|refine iF (fun h=>?_) (fun h=>?_)|refine aX ?_|refine S_Q [] rfl rfl (QY.ldI rfl rfl hx2) ?_|(refine cV [3,4] h1 ?_; conv=>whnf)|refine aA ?_|refine aI (hn:=?_)|refine qR ?_|refine qS ?_|exact ⟨rfl,rfl⟩|fail)
   exact Nx.pick [3,4,42,43,44] [0,1,2,3,5] rfl rfl rfl ⟨s.fr.length-(i+1),by omega,i+1,rfl,by omega,rfl,by rw [hsn,show n1+8*(i+1)=n1+8*i+8 by omega,← List.append_assoc]; rfl⟩
  ·refine Nx.goL ?_
   obtain rfl:i=s.fr.length:=by omega
   rw [List.take_length]
   have hol2:(o1++intB s.fr).length=n1+8*s.fr.length:=by rw [List.length_append,intB_len,hol1]
   obtain ⟨o2,ho⟩:∃ o2,o2=o1++intB s.fr:=⟨_,rfl⟩
   obtain ⟨n2,hn1⟩:∃ n2,n2=n1+8*s.fr.length:=⟨_,rfl⟩
   rw [← ho,← hn1] at hol2
   rw [← ho,← hn1]
   repeat' (first|refine qN ?_|refine dN ?_|refine dR ?_|refine d0 ?_|refine qB ?_|refine rT ?_|refine qT ?_|refine qU ?_|refine qL ?_|refine qK ?_|refine qF ?_|refine qE ?_|refine iF (fun h=>?_) (fun h=>?_)|refine aX ?_|refine S_Q [] rfl rfl (QY.str (i:=0) (ys:=o2) rfl (by kernel_rfl) rfl rfl (by omega)) ?_|refine aA ?_|refine aI (hn:=?_)|refine qR ?_|refine qS ?_|exact ⟨rfl,rfl⟩|fail)
   refine ⟨?_,rfl⟩
   show Value.string (bytesS ((o2.drop 0).take n2))=_
   rw [List.drop_zero,List.take_of_length_le (by omega)]
end Go.Proofs.Ythgmdlmeeebfiaa
end
section
namespace Go.Proofs.Ythgmdlmeeebfiaa
open Go Go.Tum
structure PI (k:Nat) (s w:Sp):Prop where
 mb:0≤s.ma∧s.ma≤8191
 ab:0≤s.ar∧s.ar≤8191
 ma:w.ma=s.ma
 ar:w.ar=s.ar
 wl:w.lz=0
 wf:w.fz=0
 pl:s.lv.Perm w.lv
 pf:s.fr.Perm w.fr
 bl:∀ x∈s.lv,0≤x.at_∧x.at_ % 16=0∧1≤x.n∧x.n≤4096∧x.at_+x.n≤s.ma
 dj:s.lv.Pairwise (fun x y=>x.at_+x.n≤y.at_)
 fs:s.fr.Pairwise (· < ·)
 fi:∀ x∈s.fr,0≤x∧x≤65536
 nl:s.lv.length+s.lz≤k
 nf:s.fr.length+s.fz≤k
theorem PI.ks {k:Nat} {s w:Sp} (h:PI k s w):(keys s.lv).Pairwise (· < ·):=by
 rw [keys,List.pairwise_map]
 refine h.dj.imp_of_mem fun hx _ hxy=>?_
 have:=h.bl _ hx
 omega
theorem PI.ok {k:Nat} {s w:Sp} (h:PI k s w) (hk:k≤1000):SOk s :=
 ⟨h.mb,h.ab,h.ks,fun x hx=>by have:=h.bl x hx; have:=h.mb; exact ⟨by omega,by omega,by omega,by omega⟩,h.fs,h.fi,Nat.le_trans h.nl hk,Nat.le_trans h.nf hk⟩
theorem any_perm {α:Type} {a b:List α} (h:a.Perm b) {p q:α→Bool} (hp:∀ x∈a,p x=q x):a.any p=b.any q:=by
 rw [Bool.eq_iff_iff,List.any_eq_true,List.any_eq_true]
 constructor
 ·rintro ⟨x,hx,h1⟩; exact ⟨x,h.mem_iff.1 hx,by rw [← hp x hx]; exact h1⟩
 ·rintro ⟨x,hx,h1⟩; exact ⟨x,h.mem_iff.2 hx,by rw [hp x (h.mem_iff.2 hx)]; exact h1⟩
theorem meet_same {a n:Int} {x:Bk} (hn:1≤n) (hx:1≤x.n):meetB a n x=rmeet a n x:=by
 rw [Bool.eq_iff_iff]
 simp only [meetB,rmeet,inB,Bool.and_eq_true,Bool.or_eq_true,decide_eq_true_eq]
 omega
theorem head_lt (l:List Bk) (t:Int):(keys l).Pairwise (· < ·)→(match l with | x::_=>decide (x.at_<t) | []=>false)=l.any (fun x=>decide (x.at_<t)):=by
 cases l with
 | nil=>intro _; rfl
 | cons x r =>
  intro hs
  rw [Bool.eq_iff_iff,List.any_eq_true]
  simp only [decide_eq_true_eq]
  constructor
  ·intro h; exact ⟨x,List.mem_cons_self ..,h⟩
  ·rintro ⟨y,hy,h⟩
   rcases List.mem_cons.1 hy with rfl | hy
   ·exact h
   ·simp only [keys,List.map_cons,List.pairwise_cons] at hs
    have:=hs.1 y.at_ (List.mem_map_of_mem hy)
    omega
theorem key_any {l:List Bk} {t:Int}:(t∈keys l)↔l.any (fun x=>x.at_ == t)=true:=by
 rw [List.any_eq_true,keys,List.mem_map]
 simp
theorem may_same {k:Nat} {s w:Sp} (h:PI k s w) (c:Cl):mayB s c=rmayB w c:=by
 obtain ⟨free,arg,at_,fault⟩:=c
 cases free
 ·simp only [mayB,rmayB,Bool.false_eq_true,if_false,if_true,mallocB,rmallocB,h.ma]
  by_cases ha:1≤arg
  ·rw [any_perm h.pl (q:=rmeet at_ arg) fun x hx=>meet_same ha (h.bl x hx).2.2.1]
  ·simp [ha]
 ·have e1:s.lv.any (fun x=>x.at_ == arg)=w.lv.any (fun x=>x.at_ == arg):=any_perm h.pl fun _ _=>rfl
  have e2:s.fr.any (arg == ·)=w.fr.any (· == arg):=any_perm h.pf fun x _=>by rw [Bool.eq_iff_iff]; simp; exact eq_comm
  have e3:s.lv.any (fun x=>decide (x.at_<arg))=w.lv.any (fun x=>decide (x.at_<arg)):=any_perm h.pl fun _ _=>rfl
  have hk := @key_any s.lv arg
  simp only [mayB,rmayB,if_true,freeB,mustB,mustI,Bool.true_eq_false,if_false,h.ma,h.ar,e2]
  congr 1
  by_cases g1:arg<0∨arg≥s.ar
  ·simp [g1]
  ·by_cases g2:arg≥s.ma
   ·simp [g1,g2]
   ·cases g3:w.lv.any (fun x=>x.at_ == arg)
    ·have g4:arg∉keys s.lv:=by rw [hk,e1,g3]; simp
     simp only [g1,g2,g4,decide_false,Bool.or_self,Bool.false_eq_true,if_false]
     by_cases f4:fault=4
     ·subst f4; simp; exact (head_lt s.lv arg h.ks).trans e3
     ·by_cases f5:fault=5
      ·subst f5; simp
      ·simp [f4,f5]
    ·have g4:arg∈keys s.lv:=by rw [hk,e1,g3]
     simp [g1,g2,g4]
theorem lw_split {ks:List Int} (hs:ks.Pairwise (· < ·)) (t:Int):(∀ x∈ks.take (lw ks t),x<t)∧(∀ x∈ks.drop (lw ks t),t≤x):=by
 induction ks with
 | nil=>simp [lw]
 | cons a r ih =>
  rw [List.pairwise_cons] at hs
  obtain ⟨h1,h2⟩:=ih hs.2
  by_cases ha:a<t
  ·have e:lw (a::r) t=lw r t+1:=by simp [lw,ha]
   rw [e,List.take_succ_cons,List.drop_succ_cons]
   refine ⟨fun x hx=>?_,h2⟩
   rcases List.mem_cons.1 hx with rfl | hx
   ·exact ha
   ·exact h1 x hx
  ·have e0:lw r t=0:=by
    rw [lw,List.countP_eq_zero]
    intro x hx; have:=hs.1 x hx; simp; omega
   have e:lw (a::r) t=0:=by
    have:=e0
    simp only [lw] at this
    simp [lw,ha,this]
   rw [e]
   refine ⟨by simp,fun x hx=>?_⟩
   rw [List.drop_zero] at hx
   rcases List.mem_cons.1 hx with rfl | hx
   ·omega
   ·have:=hs.1 x hx; omega
theorem ins_perm {α:Type} (l:List α) (i:Nat) (x:α):(l.take i++[x]++l.drop i).Perm (l++[x]):=by
 have h:(l.take i++([x]++l.drop i)).Perm (l.take i++(l.drop i++[x])):=List.Perm.append_left _ List.perm_append_comm
 rw [← List.append_assoc,← List.append_assoc,List.take_append_drop] at h
 exact h
theorem insN_sorted {l:List Int} (hs:l.Pairwise (· < ·)) {t:Int} (ht:t∉l):(insN l t).Pairwise (· < ·):=by
 obtain ⟨h1,h2⟩:=lw_split hs t
 have hd:∀ x∈l.drop (lw l t),t<x:=fun x hx=>by
  have:=h2 x hx
  have:x≠t:=fun e=>ht (e ▸ List.mem_of_mem_drop hx)
  omega
 unfold insN
 rw [List.pairwise_append,List.pairwise_append]
 refine ⟨⟨hs.sublist (List.take_sublist ..),by simp,fun a ha b hb=>?_⟩,hs.sublist (List.drop_sublist ..),fun a ha b hb=>?_⟩
 ·simp at hb; subst hb; exact h1 a ha
 ·rcases List.mem_append.1 ha with ha | ha
  ·have:=h1 a ha; have:=hd b hb; omega
  ·simp at ha; subst ha; exact hd b hb
theorem keys_takeE (l:List Bk) (i:Nat):(keys l).take i=keys (l.take i):=by simp [keys]
theorem keys_dropE (l:List Bk) (i:Nat):(keys l).drop i=keys (l.drop i):=by simp [keys]
theorem insL_dj {l:List Bk} {x:Bk} (hs:(keys l).Pairwise (· < ·)) (hd:l.Pairwise (fun x y=>x.at_+x.n≤y.at_)) (hn:1≤x.n) (hb:∀ y∈l,1≤y.n) (hm:l.any (meetB x.at_ x.n)=false):(insL l x).Pairwise (fun x y=>x.at_+x.n≤y.at_):=by
 obtain ⟨h1,h2⟩:=lw_split hs x.at_
 rw [keys_takeE] at h1
 rw [keys_dropE] at h2
 have hm':∀ y∈l,¬ (y.at_-x.at_<x.n∧x.at_-y.at_<y.n):=fun y hy=>by
  have:=List.any_eq_false.1 hm y hy
  simpa [meetB] using this
 have ha:∀ y∈l.take (lw (keys l) x.at_),y.at_+y.n≤x.at_:=fun y hy=>by
  have h3:=h1 y.at_ (List.mem_map_of_mem hy)
  have hy:=List.mem_of_mem_take hy
  have:=hm' y hy; have:=hb y hy
  omega
 have hc:∀ y∈l.drop (lw (keys l) x.at_),x.at_+x.n≤y.at_:=fun y hy=>by
  have h3:=h2 y.at_ (List.mem_map_of_mem hy)
  have hy:=List.mem_of_mem_drop hy
  have:=hm' y hy; have:=hb y hy
  omega
 unfold insL
 rw [List.pairwise_append,List.pairwise_append]
 refine ⟨⟨hd.sublist (List.take_sublist ..),by simp,fun a h b hb=>?_⟩,hd.sublist (List.drop_sublist ..),fun a h b h'=>?_⟩
 ·simp at hb; subst hb; exact ha a h
 ·rcases List.mem_append.1 h with h | h
  ·have:=ha a h; have:=hc b h'; omega
  ·simp at h; subst h; exact hc b h'
theorem delL_filter {l:List Bk} (hs:(keys l).Pairwise (· < ·)) {t:Int} (ht:t∈keys l):delL l t=l.filter (fun x=>decide (x.at_≠t)):=by
 have hg:=(mem_at hs).1 ht
 obtain ⟨h1,h2⟩:=lw_split hs t
 rw [keys_takeE] at h1
 have hl:lw (keys l) t<l.length:=by have:=(List.getElem?_eq_some_iff.1 hg).1; rwa [keys_len] at this
 obtain ⟨x,hx⟩:∃ x,l[lw (keys l) t]?=some x:=⟨_,List.getElem?_eq_getElem hl⟩
 have hxt:x.at_=t:=by
  simp only [keys,List.getElem?_map] at hg
  simp only [keys] at hx
  rw [hx] at hg; simpa using hg
 have hsp:l=l.take (lw (keys l) t)++(x::l.drop (lw (keys l) t+1)):=by
  conv=>lhs; rw [← List.take_append_drop (lw (keys l) t) l]
  congr 1
  rw [List.drop_eq_getElem_cons hl]
  rw [List.getElem?_eq_getElem hl] at hx
  cases hx; rfl
 have hpk:(keys l).Pairwise (· < ·):=hs
 have hgt:∀ y∈l.drop (lw (keys l) t+1),y.at_≠t:=by
  intro y hy e
  rw [hsp,keys,List.map_append,List.pairwise_append] at hpk
  have h3:=hpk.2.1
  rw [List.map_cons,List.pairwise_cons] at h3
  have:=h3.1 y.at_ (List.mem_map_of_mem hy)
  omega
 have hlt:∀ y∈l.take (lw (keys l) t),y.at_≠t:=fun y hy e=>by
  have:=h1 y.at_ (List.mem_map_of_mem hy); omega
 have:l.filter (fun x=>decide (x.at_≠t))=(l.take (lw (keys l) t)++(x::l.drop (lw (keys l) t+1))).filter (fun x=>decide (x.at_≠t)):=by rw [← hsp]
 rw [this,List.filter_append,List.filter_cons,if_neg (by simp [hxt]),List.filter_eq_self.2 (fun y hy=>by simpa using hlt y hy),List.filter_eq_self.2 (fun y hy=>by simpa using hgt y hy)]
 rfl
theorem filter_all {α:Type} {l:List α} {p:α→Bool} (h:∀ x,p x=true):l.filter p=l:=List.filter_eq_self.2 fun x _=>h x
theorem PI.next {k:Nat} {s w:Sp} (h:PI k s w) {c:Cl} (hm:mayB s c=true):PI (k+1) (nextS s c) (rnextS w c):=by
 obtain ⟨free,arg,at_,fault⟩:=c
 have hnl:=h.nl
 have hnf:=h.nf
 cases free
 ·by_cases ha:at_ = -1
  ·subst ha
   have e1:nextS s ⟨false,arg,-1,fault⟩=s0 s:=(if_neg (fun h=>by cases h.1)).trans (if_neg (fun h=>h.2 rfl))
   have e2:rnextS w ⟨false,arg,-1,fault⟩=⟨w.ma,w.ar,w.lv,0,w.fr,0⟩:=by
    unfold rnextS rl2 rf2
    rw [if_neg (fun h=>h.2 rfl),if_neg (fun h=>by cases h.1),filter_all (p:=keepB _) (by simp [keepB]),filter_all (p:=keepF _) (by simp [keepF])]
   rw [e1,e2]
   exact ⟨h.mb,h.ab,h.ma,h.ar,rfl,rfl,h.pl,h.pf,h.bl,h.dj,h.fs,h.fi,by show s.lv.length+0≤_; omega,by show s.fr.length+0≤_; omega⟩
  ·obtain ⟨rfl,m1,m2,m3,m4,m5,m6⟩:=may_malloc hm ha
   have e1:nextS s ⟨false,arg,at_,0⟩=⟨s.ma,s.ar,insL s.lv ⟨at_,arg⟩,0,keepN s.fr at_ arg,s.fr.length-(keepN s.fr at_ arg).length⟩:=(if_neg (fun h=>by cases h.1)).trans (if_pos ⟨rfl,ha⟩)
   have e2:rnextS w ⟨false,arg,at_,0⟩=⟨w.ma,w.ar,w.lv++[⟨at_,arg⟩],0,w.fr.filter (fun x => !inB at_ arg x),0⟩:=by
    unfold rnextS rl2 rf2
    rw [if_pos ⟨rfl,ha⟩,if_neg (fun h=>by cases h.1),filter_all (p:=keepB _) (by simp [keepB])]
    congr 1
    exact List.filter_congr fun x _=>by simp [keepF,ha]
   rw [e1,e2]
   have hle:(keepN s.fr at_ arg).length≤s.fr.length:=List.length_filter_le ..
   have hp:(insL s.lv ⟨at_,arg⟩).Perm (s.lv++[⟨at_,arg⟩]):=ins_perm _ _ _
   refine ⟨h.mb,h.ab,h.ma,h.ar,rfl,rfl,hp.trans (List.Perm.append_right _ h.pl),h.pf.filter _,fun x hx=>?_,insL_dj h.ks h.dj m1 (fun y hy=>(h.bl y hy).2.2.1) m6,h.fs.filter _,fun x hx=>h.fi x (List.mem_filter.1 hx).1,?_,?_⟩
   ·rcases List.mem_append.1 (hp.mem_iff.1 hx) with hx | hx
    ·exact h.bl x hx
    ·simp at hx; subst hx; exact ⟨m3,m4,m1,m2,by show at_+arg≤s.ma; omega⟩
   ·have:=hp.length_eq
    rw [List.length_append] at this
    show (insL s.lv ⟨at_,arg⟩).length+0≤_
    simp at this; omega
   ·show (keepN s.fr at_ arg).length+(s.fr.length-(keepN s.fr at_ arg).length)≤_
    omega
 ·by_cases hf:fault=0
  ·subst hf
   have ht:=may_free0 hm
   have e1:nextS s ⟨true,arg,at_,0⟩=⟨s.ma,s.ar,delL s.lv arg,1,if arg∈s.fr then s.fr else insN s.fr arg,0⟩:=if_pos ⟨rfl,rfl⟩
   have hany:w.fr.any (· == arg)=decide (arg∈s.fr):=by
    rw [Bool.eq_iff_iff,List.any_eq_true,decide_eq_true_eq,h.pf.mem_iff]
    simp
   have e2:rnextS w ⟨true,arg,at_,0⟩=⟨w.ma,w.ar,w.lv.filter (fun x=>decide (x.at_≠arg)),0,if arg∈s.fr then w.fr else w.fr++[arg],0⟩:=by
    unfold rnextS rl2 rf2
    rw [if_neg (fun h=>by cases h.1),filter_all (p:=keepF _) (by simp [keepF]),hany]
    have q1:w.lv.filter (keepB ⟨true,arg,at_,0⟩)=w.lv.filter (fun x=>decide (x.at_≠arg)):=List.filter_congr fun x _=>by simp [keepB]
    rw [q1]
    congr 1
    by_cases hin:arg∈s.fr <;> simp [hin]
   obtain ⟨x,hx,hxa⟩:=List.mem_map.1 ht
   have hb:=h.bl x hx
   have hmb:=h.mb
   rw [e1,e2]
   refine ⟨h.mb,h.ab,h.ma,h.ar,rfl,rfl,by rw [delL_filter h.ks ht]; exact h.pl.filter _,?_,fun x hx=>?_,?_,?_,fun x hx=>?_,?_,?_⟩
   ·show List.Perm (if arg∈s.fr then s.fr else insN s.fr arg) (if arg∈s.fr then w.fr else w.fr++[arg])
    by_cases hin:arg∈s.fr
    ·rw [if_pos hin,if_pos hin]; exact h.pf
    ·rw [if_neg hin,if_neg hin]; exact (ins_perm _ _ _).trans (List.Perm.append_right _ h.pf)
   ·have hx:x∈delL s.lv arg:=hx
    rw [delL_filter h.ks ht] at hx
    exact h.bl x (List.mem_filter.1 hx).1
   ·show (delL s.lv arg).Pairwise _
    rw [delL_filter h.ks ht]; exact h.dj.filter _
   ·show (if arg∈s.fr then s.fr else insN s.fr arg).Pairwise _
    by_cases hin:arg∈s.fr
    ·rw [if_pos hin]; exact h.fs
    ·rw [if_neg hin]; exact insN_sorted h.fs hin
   ·have hx:x∈(if arg∈s.fr then s.fr else insN s.fr arg):=hx
    by_cases hin:arg∈s.fr
    ·rw [if_pos hin] at hx; exact h.fi x hx
    ·rw [if_neg hin] at hx
     rcases List.mem_append.1 ((ins_perm _ _ _).mem_iff.1 hx) with hx | hx
     ·exact h.fi x hx
     ·simp at hx; subst hx; omega
   ·show (delL s.lv arg).length+1≤_
    rw [delL_filter h.ks ht]
    have:=List.length_filter_le (fun x:Bk=>decide (x.at_≠arg)) s.lv
    omega
   ·show (if arg∈s.fr then s.fr else insN s.fr arg).length+0≤_
    by_cases hin:arg∈s.fr
    ·rw [if_pos hin]; omega
    ·rw [if_neg hin,insN,(ins_perm _ _ _).length_eq]; simp; omega
  ·have e1:nextS s ⟨true,arg,at_,fault⟩=s0 s:=(if_neg (fun h=>hf h.2)).trans (if_neg (fun h=>by cases h.1))
   have e2:rnextS w ⟨true,arg,at_,fault⟩=⟨w.ma,w.ar,w.lv,0,w.fr,0⟩:=by
    unfold rnextS rl2 rf2
    rw [if_neg (fun h=>by cases h.1),if_neg (fun h=>hf h.2.1),filter_all (p:=keepB _) (by simp [keepB,hf]),filter_all (p:=keepF _) (by simp [keepF])]
   rw [e1,e2]
   exact ⟨h.mb,h.ab,h.ma,h.ar,rfl,rfl,h.pl,h.pf,h.bl,h.dj,h.fs,h.fi,by show s.lv.length+0≤_; omega,by show s.fr.length+0≤_; omega⟩
end Go.Proofs.Ythgmdlmeeebfiaa
end
section
namespace Go.Proofs.Ythgmdlmeeebfiaa
open Go Go.Tum Go.Tum.Base
set_option maxRecDepth 4000
def spC (bl bf:Nat) (s:Sp):List Value:=[.int .i64 s.ma,.int .i64 s.ar,slC bl s.lv.length (s.lv.length+s.lz),slC bf s.fr.length (s.fr.length+s.fz)]
theorem PI.zero {ma ar:Int} (hm:0≤ma∧ma≤8191) (ha:0≤ar∧ar≤8191):PI 0 ⟨ma,ar,[],0,[],0⟩ ⟨ma,ar,[],0,[],0⟩ :=
 ⟨hm,ha,rfl,rfl,rfl,rfl,.rfl,.rfl,by simp,by simp,by simp,by simp,by simp,by simp⟩
theorem PI.wl' {k:Nat} {s w:Sp} (h:PI k s w):w.lv.length+w.lz≤k:=by rw [h.wl,← h.pl.length_eq]; have:=h.nl; omega
theorem PI.wf' {k:Nat} {s w:Sp} (h:PI k s w):w.fr.length+w.fz≤k:=by rw [h.wf,← h.pf.length_eq]; have:=h.nf; omega
theorem PI.wi {k:Nat} {s w:Sp} (h:PI k s w):∀ x∈w.lv,x.In:=fun x hx=>by
 have:=h.bl x (h.pl.mem_iff.2 hx); have:=h.mb; exact ⟨by omega,by omega,by omega,by omega⟩
theorem PI.wfi {k:Nat} {s w:Sp} (h:PI k s w):∀ x∈w.fr,0≤x∧x≤65536:=fun x hx=>h.fi x (h.pf.mem_iff.2 hx)
theorem PI.wm {k:Nat} {s w:Sp} (h:PI k s w):0≤w.ma∧w.ma≤8191:=by rw [h.ma]; exact h.mb
theorem next_ca {s:Sp} (h0:s.ma≤8191) {c:Cl} (hm:mayB s c=true):c.free=false→c.at_ ≠ -1→0≤c.at_∧c.at_≤65536:=by
 obtain ⟨free,arg,at_,fault⟩:=c
 intro h1 h2
 simp only at h1 h2 ⊢
 subst h1
 obtain ⟨_,m1,m2,m3,m4,m5,m6⟩:=may_malloc hm h2
 omega
end Go.Proofs.Ythgmdlmeeebfiaa
end
section
namespace Go.Proofs.Ythgmdlmeeebfiaa
open Go Go.Tum Go.Tum.Base
set_option maxRecDepth 4000
structure Ev where
 t:Int
 free:Bool
 arg:Int
 at_:Int
 fault:Int
 frm:Int
 mom:Int
 to_:Int
instance : Inhabited Ev:=⟨⟨0,false,0,0,0,0,0,0⟩⟩
def Ev.cells (e:Ev):List Value:=[.int .i64 e.t,.bool e.free,.int .i64 e.arg,.int .i64 e.at_,.int .i64 e.fault,.int .i64 e.frm,.int .i64 e.mom,.int .i64 e.to_]
theorem Ev.ok:RowOk Ev.cells 8:=⟨fun _=>rfl,fun _=>rfl⟩
abbrev evV (e:Ev):Value:=.agg ⟨e.cells⟩
def Ev.cl (e:Ev):Cl:=⟨e.free,e.arg,e.at_,e.fault⟩
def Ev.few (e:Ev):Ev:={ e with frm:=e.frm % 16,to_:=e.frm % 16+1+e.to_ % 8 }
def aheadB (a b:Ev):Bool:=decide (a.to_≤b.frm)
theorem lcall_tr (e:Ev):Tr Try.prog 51 [evV e] [] (fun v K=>v=clV e.cl∧K=[]):=by
 refine Tr.of row_linear_call_ok rfl ?_
 repeat' (first|refine qN ?_|refine dN ?_|refine dR ?_|refine d0 ?_|refine rT ?_|refine aI (hn:=?_)|refine qR ?_|refine qS ?_|exact ⟨rfl,rfl⟩|fail)
theorem rcall_tr (e:Ev):Tr Try.prog 48 [evV e] [] (fun v K=>v=clV e.cl∧K=[]):=by
 refine Tr.of row_tumbrelref16_Call_ok rfl ?_
 repeat' (first|refine qN ?_|refine dN ?_|refine dR ?_|refine d0 ?_|refine rT ?_|refine aI (hn:=?_)|refine qR ?_|refine qS ?_|exact ⟨rfl,rfl⟩|fail)
theorem ahead_tr (a b:Ev):Tr Try.prog 50 [evV a,evV b] [] (fun v K=>v=.bool (aheadB a b)∧K=[]):=by
 refine Tr.of row_linear_ahead_ok rfl ?_
 repeat' (first|refine qN ?_|refine dN ?_|refine dR ?_|refine d0 ?_|refine rT ?_|refine aI (hn:=?_)|refine qR ?_|refine qS ?_|exact ⟨rfl,rfl⟩|fail)
theorem bounds_tr (ma ar:Int):Tr Try.prog 20 [.int .i64 ma,.int .i64 ar] [] (fun v K=>v=.tuple ⟨[.agg ⟨[.int .i64 ma,.int .i64 ar]⟩,.agg ⟨[.int .i64 ma,.int .i64 ar,.slice none 0 0,.slice none 0 0]⟩]⟩∧K=[]):=by
 refine Tr.of row_tumbrellaw16_bounds_ok rfl ?_
 repeat' (first|refine qN ?_|refine dN ?_|refine dR ?_|refine d0 ?_|refine rT ?_|refine aI (hn:=?_)|refine qR ?_|refine qS ?_|exact ⟨rfl,rfl⟩|fail)
set_option maxHeartbeats 1000000 in
theorem ours16_tr (xs:List Ev) (n:Nat) (hx:xs.length=n) (hn:n≤1000):Tr Try.prog 23 [slB 0 n] [.gro 8 (rowsC Ev.cells xs)] (fun v K=>v=slB 1 n∧K=[.gro 8 (rowsC Ev.cells xs),.gro 8 (rowsC Ev.cells xs)]):=by
 refine Tr.of row_tumbrellaw16_ours_ok rfl ?_
 repeat' (first|refine qN ?_|refine dN ?_|refine dR ?_|refine d0 ?_|refine qB ?_|refine rT ?_|refine qT ?_|refine qU ?_|refine qL ?_|refine qK ?_|refine qF ?_|refine qE ?_|refine iF (fun h=>?_) (fun h=>?_)|refine aX ?_|refine aA ?_|refine aI (hn:=?_)|refine qR ?_|refine qS ?_|exact ⟨rfl,rfl⟩|fail)
 refine LWp.nilE 3 8 rfl ?_
 refine LWp.pick [3,6,7,8] [0,1] rfl rfl rfl (L_loop (fun q l L=>∃ i:Nat,q=n-i∧i≤n∧l=[(3,slB 1 i),(6,slB 0 n),(7,.int .i64 n),(8,.int .i64 i)]∧L=[.gro 8 (rowsC Ev.cells xs),.gro 8 (rowsC Ev.cells (xs.take i))]) n ⟨0,rfl,by omega,rfl,rfl⟩ ?_)
 rintro q _ _ ⟨i,rfl,hi,rfl,rfl⟩
 first|refine L_seq (L_rs (S_done [] rfl (Nx.goL (iF (fun h=>L_skip (Nx.goL ?_)) (fun h=>L_exit ?_)))))|refine L_rs (S_done [] rfl (Nx.goL (L_seq (iF (fun h=>L_skip (Nx.goL ?_)) (fun h=>L_exit ?_)))))
 ·have hik:i<n:=by omega
  obtain ⟨x,hx1⟩:∃ x,xs[i]?=some x:=⟨_,List.getElem?_eq_getElem (by omega)⟩
  have hs:xs.take (i+1)=xs.take i++[x]:=by rw [List.take_add_one,hx1]; rfl
  have hl:(xs.take i).length=i:=by rw [List.length_take]; omega
  generalize xs.take i=o at *
  repeat' (first|refine qN ?_|refine dN ?_|refine dR ?_|refine d0 ?_|refine qB ?_|refine rT ?_|refine qT ?_|refine qU ?_|refine qL ?_|refine qK ?_|refine qF ?_|refine qE ?_|refine iF (fun h=>?_) (fun h=>?_)|refine aX ?_|refine S_Q [] rfl rfl (QY.ldRow Ev.ok rfl rfl hx1 (by decide)) ?_|(refine eE rfl rfl (EW.appR1 (bytes:=64) (xs:=o) (a:=x) Ev.ok rfl (by kernel_rfl) rfl rfl rfl rfl hl (by omega)) ?_; conv=>whnf)|refine aA ?_|refine aI (hn:=?_)|refine qR ?_|refine qS ?_|exact ⟨rfl,rfl⟩|fail)
  exact Nx.pick [3,6,7,8] [0,4] rfl rfl rfl ⟨n-(i+1),by omega,i+1,rfl,by omega,rfl,by rw [hs]; rfl⟩
 ·refine Nx.goL ?_
  obtain rfl:i=n:=by omega
  rw [List.take_of_length_le (by omega)]
  repeat' (first|refine qN ?_|refine dN ?_|refine d0 ?_|refine qB ?_|refine qT ?_|refine qU ?_|refine qL ?_|refine qK ?_|refine qF ?_|refine qE ?_|refine iF (fun h=>?_) (fun h=>?_)|refine aX ?_|refine aA ?_|refine aI (hn:=?_)|refine qR ?_|refine qS ?_|exact ⟨rfl,rfl⟩|fail)
  exact L_ret (RetQ.pick [0,1] rfl rfl rfl rfl ⟨rfl,rfl⟩)
set_option maxHeartbeats 1000000 in
theorem same16_tr (xs ys:List Int) (n m:Nat) (hx:xs.length=n) (hy:ys.length=m) (hn:n≤1000) (hm:m≤1000):Tr Try.prog 25 [slB 0 n,slB 1 m] [.gro 1 (rowsC intC xs),.gro 1 (rowsC intC ys)] (fun v K=>v=.bool (decide (xs=ys))∧K=[.gro 1 (rowsC intC xs),.gro 1 (rowsC intC ys)]):=by
 refine Tr.of row_tumbrellaw16_same_ok rfl ?_
 by_cases hnm:n=m
 ·subst hnm
  repeat' (first|refine qN ?_|refine dN ?_|refine dR ?_|refine d0 ?_|refine qB ?_|refine rT ?_|refine qT ?_|refine qU ?_|refine qL ?_|refine qK ?_|refine qF ?_|refine qE ?_|refine iF (fun h=>?_) (fun h=>?_)|refine aX ?_|refine aA ?_|refine aI (hn:=?_)|refine qR ?_|refine qS ?_|exact ⟨rfl,rfl⟩|fail)
  all_goals first | (exfalso; omega) | skip
  refine LWp.pick [0,1,11,12,13] [0,1] rfl rfl rfl (L_loop (fun q l L=>∃ i:Nat,q=n-i∧i≤n∧xs.take i=ys.take i∧l=[(0,slB 0 n),(1,slB 1 n),(11,slB 0 n),(12,.int .i64 n),(13,.int .i64 i)]∧L=[.gro 1 (rowsC intC xs),.gro 1 (rowsC intC ys)]) n ⟨0,rfl,by omega,rfl,rfl,rfl⟩ ?_)
  rintro q _ _ ⟨i,rfl,hi,hall,rfl,rfl⟩
  first|refine L_seq (L_rs (S_done [] rfl (Nx.goL (iF (fun h=>L_skip (Nx.goL ?_)) (fun h=>L_exit ?_)))))|refine L_rs (S_done [] rfl (Nx.goL (L_seq (iF (fun h=>L_skip (Nx.goL ?_)) (fun h=>L_exit ?_)))))
  ·have hik:i<n:=by omega
   obtain ⟨x,hx1⟩:∃ x,xs[i]?=some x:=⟨_,List.getElem?_eq_getElem (by omega)⟩
   obtain ⟨y,hy1⟩:∃ y,ys[i]?=some y:=⟨_,List.getElem?_eq_getElem (by omega)⟩
   repeat' (first|refine qN ?_|refine dN ?_|refine d0 ?_|refine qB ?_|refine qT ?_|refine qU ?_|refine qL ?_|refine qK ?_|refine qF ?_|refine qE ?_|refine iF (fun h=>?_) (fun h=>?_)|refine aX ?_|refine S_Q [] rfl rfl (QY.ldI rfl rfl hx1) ?_|refine S_Q [] rfl rfl (QY.ldI rfl rfl hy1) ?_|refine aA ?_|refine aI (hn:=?_)|refine qR ?_|refine qS ?_|exact ⟨rfl,rfl⟩|fail)
   ·have hne:xs≠ys:=fun e=>by rw [e,hy1] at hx1; cases hx1; exact h rfl
    rw [decide_eq_false hne]
    exact L_ret (RetQ.pick [0,1] rfl rfl rfl rfl ⟨rfl,rfl⟩)
   ·obtain rfl:x=y:=by omega
    exact Nx.pick [0,1,11,12,13] [0,1] rfl rfl rfl ⟨n-(i+1),by omega,i+1,rfl,by omega,by rw [List.take_add_one,List.take_add_one,hx1,hy1,hall],rfl,rfl⟩
  ·refine Nx.goL ?_
   obtain rfl:i=n:=by omega
   rw [List.take_of_length_le (by omega),List.take_of_length_le (by omega)] at hall
   rw [decide_eq_true hall]
   repeat' (first|refine qN ?_|refine dN ?_|refine d0 ?_|refine qB ?_|refine qT ?_|refine qU ?_|refine qL ?_|refine qK ?_|refine qF ?_|refine qE ?_|refine iF (fun h=>?_) (fun h=>?_)|refine aX ?_|refine aA ?_|refine aI (hn:=?_)|refine qR ?_|refine qS ?_|exact ⟨rfl,rfl⟩|fail)
   exact L_ret (RetQ.pick [0,1] rfl rfl rfl rfl ⟨rfl,rfl⟩)
 ·have hne:xs≠ys:=fun e=>hnm (by rw [← hx,← hy,e])
  rw [decide_eq_false hne]
  repeat' (first|refine qN ?_|refine dN ?_|refine d0 ?_|refine qB ?_|refine qT ?_|refine qU ?_|refine qL ?_|refine qK ?_|refine qF ?_|refine qE ?_|refine iF (fun h=>?_) (fun h=>?_)|refine aX ?_|refine aA ?_|refine aI (hn:=?_)|refine qR ?_|refine qS ?_|exact ⟨rfl,rfl⟩|fail)
  all_goals first | (exfalso; omega)|exact L_ret (RetQ.pick [0,1] rfl rfl rfl rfl ⟨rfl,rfl⟩)
end Go.Proofs.Ythgmdlmeeebfiaa
end
section
namespace Go.Proofs.Ythgmdlmeeebfiaa
open Go Go.Tum Go.Tum.Base
set_option maxRecDepth 4000
def fewL (op:Nat→Ev) (m:Nat):List Ev:=(takeA op m).map Ev.few
theorem fewL_len (op:Nat→Ev) (m:Nat):(fewL op m).length=m:=by simp [fewL,takeA_length]
theorem fewL_snoc (op:Nat→Ev) (m:Nat):fewL op (m+1)=fewL op m++[(op m).few]:=by simp [fewL,takeA,List.range_succ]
set_option maxHeartbeats 1000000 in
theorem few_tr (nb:Nat) (hnb:nb≤9223372036854775807) (get:Nat→List Value) (op:Nat→Ev) (hop:∀ i,i<nb→get i=(op i).cells) (most:Nat) (hmo:most≤100) :
  TrK Try.prog [(0,nb*8,rowG 8 get)] [0] 21 [slB 0 nb,.int .i64 most] [.dead] (fun v K=>v=slB 1 (min nb most)∧K=[.dead,.gro 8 (rowsC Ev.cells (fewL op (min nb most)))]):=by
 refine Tr.of row_tumbrellaw16_few_ok rfl ?_
 repeat' (first|refine qN ?_|refine dN ?_|refine dR ?_|refine d0 ?_|refine qB ?_|refine rT ?_|refine qT ?_|refine qU ?_|refine qL ?_|refine qK ?_|refine qF ?_|refine qE ?_|refine iF (fun h=>?_) (fun h=>?_)|refine aX ?_|refine aA ?_|refine aK ?_|refine aI (hn:=?_)|refine qR ?_|refine qS ?_|exact ⟨rfl,rfl⟩|fail)
 refine LWp.nilE 5 8 rfl ?_
 refine LWp.pick [1,5,8,9,10] [0,1] rfl rfl rfl (L_loop (fun q l L=>∃ i:Nat,q=nb-i∧i≤nb∧i≤most∧l=[(1,.int .i64 most),(5,slB 1 i),(8,slB 0 nb),(9,.int .i64 nb),(10,.int .i64 i)]∧L=[.dead,.gro 8 (rowsC Ev.cells (fewL op i))]) nb ⟨0,rfl,by omega,by omega,rfl,rfl⟩ ?_)
 rintro q _ _ ⟨i,rfl,hi,him,rfl,rfl⟩
 have hl:=fewL_len op i
 have hs:=fewL_snoc op i
 first|refine L_seq (L_rs (S_done [] rfl (Nx.goL (iF (fun h=>L_skip (Nx.goL ?_)) (fun h=>L_exit ?_)))))|refine L_rs (S_done [] rfl (Nx.goL (L_seq (iF (fun h=>L_skip (Nx.goL ?_)) (fun h=>L_exit ?_)))))
 ·have hi':i<nb:=by omega
  have e:=hop i hi'
  repeat' (first|refine qN ?_|refine dN ?_|refine d0 ?_|refine qB ?_|refine qT ?_|refine qU ?_|refine qL ?_|refine qK ?_|refine qF ?_|refine qE ?_|refine iF (fun h=>?_) (fun h=>?_)|refine aX ?_|refine S_Q (v:=.agg ⟨(op i).cells⟩) [] rfl rfl (by rw [← e]; exact QY.rowA (j:=0) i rfl rfl rfl hi' (by rw [e]; rfl) (by rw [e]; rfl)) ?_|refine S_Q [] rfl rfl (QY.mask rfl rfl (by decide) (rfl:(op i).frm % 16=(op i).frm % 16)) ?_|refine S_Q [] rfl rfl (QY.mask rfl rfl (by decide) (rfl:(op i).to_ % 8=(op i).to_ % 8)) ?_|(refine eE rfl rfl (EW.appR1 (bytes:=64) (xs:=fewL op i) (a:=(op i).few) Ev.ok rfl (by kernel_rfl) rfl rfl rfl rfl hl (by omega)) ?_; conv=>whnf)|refine aA ?_|refine aK ?_|refine aI (hn:=?_)|refine qR ?_|refine qS ?_|exact ⟨rfl,rfl⟩|fail)
  ·rw [show min nb most=i by omega]
   exact L_ret (RetQ.pick [0,1] rfl rfl rfl rfl ⟨rfl,rfl⟩)
  ·exact Nx.pick [1,5,8,9,10] [0,4] rfl rfl rfl ⟨nb-(i+1),by omega,i+1,rfl,by omega,by omega,rfl,by rw [hs]; rfl⟩
 ·refine Nx.goL ?_
  obtain rfl:i=nb:=by omega
  rw [Nat.min_eq_left him]
  repeat' (first|refine qN ?_|refine dN ?_|refine d0 ?_|refine qB ?_|refine qT ?_|refine qU ?_|refine qL ?_|refine qK ?_|refine qF ?_|refine qE ?_|refine iF (fun h=>?_) (fun h=>?_)|refine aX ?_|refine aA ?_|refine aK ?_|refine aI (hn:=?_)|refine qR ?_|refine qS ?_|exact ⟨rfl,rfl⟩|fail)
  exact L_ret (RetQ.pick [0,1] rfl rfl rfl rfl ⟨rfl,rfl⟩)
end Go.Proofs.Ythgmdlmeeebfiaa
end
section
namespace Go.Proofs.Ythgmdlmeeebfiaa
open Go Go.Proofs Go.Tum Go.Tum.Base
set_option maxRecDepth 4000
abbrev valF (k:Nat):Value:=.func (.func 80) ⟨[]⟩ ⟨[.pointer (some ⟨k,0,none⟩)]⟩
theorem intsAt_of {X:Nat→Prop} {w0 w wr:World} {E:Emb} {L:LH} {k n c:Nat} {sv:Value} {xs:List Int} (hR:Rep X w0 E L w) (hs:Sim wr w) (hk:L[k]?=some (.gro 1 (rowsC intC xs))) (hx:xs.length=c) (hn:n≤c) (hv:S0 E (slC k n c) sv):IntsAt wr.heap.size wr sv (xs.take n):=by
 subst hx
 obtain ⟨_,r,hr,hcase⟩:=hv
 by_cases hl:n=0
 ·subst hl
  rcases hcase with ⟨a',c',rfl,_⟩ | ⟨_,_,a',rfl⟩
  ·exact .inl ⟨_,_,rfl,rfl⟩
  ·exact .inl ⟨_,_,rfl,rfl⟩
 ·have hz:xs≠[]:=fun e=>by subst e; simp at hn; exact hl hn
  obtain ⟨c',rfl⟩:∃ c',sv=.slice (some ⟨r.1,0+r.2.1,none⟩) n c':=by
   rcases hcase with ⟨a',c',h1,⟨h2,_⟩ | ⟨h2,_⟩⟩ | ⟨h1,_⟩
   ·exact ⟨c',by rw [h1,h2]⟩
   ·exact absurd h2 hl
   ·exact absurd h1 hl
  have hb:=hR.blk k _ r hk hr
  rcases hb with ⟨h1,_⟩ | ⟨h1,_,cs,⟨t,hcs⟩,h3,h4⟩
  ·exact absurd (rowsC_nil_iff.1 h1) hz
  rw [rowsC_int,List.length_map] at h3 h4
  have hcs':wr.heap[r.1]?=some (.cells cs.toArray t (0,0)):=by rw [hs.heap]; exact hcs
  have hln:(xs.take n).length=n:=by rw [List.length_take]; omega
  refine .inr ⟨_,_,c',by rw [hln],(Array.getElem?_eq_some_iff.1 hcs').1,fun j hj=>?_⟩
  rw [hln] at hj
  have hj':j<xs.length:=by omega
  have h5:(cs.drop r.2.1)[j]?=some (.int .i64 xs[j]):=by
   have:=congrArg (·[j]?) h3
   simp only [List.getElem?_take_of_lt hj'] at this
   rw [this]; simp [hj']
  rw [List.getElem?_drop] at h5
  simp only [World.cell?,hcs',List.getElem?_take_of_lt hj]
  simp [h5,hj']
theorem appSeq_tr (xs:List Int) (n c:Nat) (hx:xs.length=c) (hn:n≤c) (hc:c≤100000):Tr Try.prog 86 [.slice none 0 0,valF 1] [.gro 1 (rowsC intC xs),.cells 0 [slC 0 n c]]
  (fun v K=>v=slB 2 n∧K=[.gro 1 (rowsC intC xs),.cells 0 [slC 0 n c],.gro 1 (rowsC intC (xs.take n))]):=by
 have hln:(xs.take n).length=n:=by rw [List.length_take]; omega
 have:=Tr.rowNew (P:=Try.prog) (L:=[.gro 1 (rowsC intC xs),.cells 0 [slC 0 n c]]) (f:=86) (vs:=[.slice none 0 0,valF 1]) (t:=3) (zs:=xs.take n) (by kernel_rfl) ?_
 ·rw [hln] at this; exact this
 intro X w0 w E vs' hR hv wr hs
 obtain ⟨b,rfl,hb⟩:∃ b,vs'=[.slice none 0 0,b]∧VR E (valF 1) b:=by
  cases vs' with
  | nil=>exact hv.elim
  | cons a r =>
   obtain ⟨h1,h2⟩:=hv
   obtain rfl:a=.slice none 0 0:=h1
   cases r with
   | nil=>exact h2.elim
   | cons b r=>cases r with
    | nil=>exact ⟨b,rfl,h2.1⟩
    | cons _ _=>exact h2.2.elim
 obtain ⟨a',c',rfl,ha,hc⟩:=hb
 obtain rfl:a'=[]:=by cases a' with
  | nil=>rfl
  | cons _ _=>exact ha.elim
 obtain ⟨p,rfl,hp⟩:∃ p,c'=[p]∧S0 E (.pointer (some ⟨1,0,none⟩)) p:=by
  cases c' with
  | nil=>exact hc.elim
  | cons a r=>cases r with
   | nil=>exact ⟨a,rfl,hc.1⟩
   | cons _ _=>exact hc.2.elim
 obtain ⟨_,rfl,_,r,hr,rfl⟩:=hp
 obtain ⟨cs,⟨t,hcs⟩,h1,h2,h3⟩:=hR.blk 1 _ r rfl hr
 have hcs':wr.heap[r.1]?=some (.cells cs.toArray t (0,0)):=by rw [hs.heap]; exact hcs
 obtain ⟨sv,hsv,hsr⟩:=h1.get (i:=0) rfl
 have hcell:wr.cell? ⟨r.1,0+r.2.1,none⟩=some sv:=by
  simp only [World.cell?,hcs']
  simp at hsv
  simpa using hsv
 have h5:=appSeq_in Fence.wide 3 trivial trivial rfl (by decide) r.1 (0+r.2.1) sv (xs.take n) (by rw [hln]; show n≤maxLen; unfold maxLen; omega) (by omega) wr (Array.getElem?_eq_some_iff.1 hcs').1 hcell (intsAt_of hR hs (k:=0) rfl hx hn hsr)
 exact callsIn_wide.1 h5
theorem sortI_tr (xs:List Int) (n:Nat) (hx:xs.length=n) (hn:n≤100000):Tr Try.prog 79 [slB 0 n] [.gro 1 (rowsC intC xs)] (fun v K=>v=.tuple ⟨[]⟩∧K=[.gro 1 (rowsC intC (sortZ xs))]):=by
 have:=Tr.sortI (P:=Try.prog) (f:=79) (by kernel_rfl) sortI_ok xs (by omega)
 rw [hx] at this; exact this
theorem values_tr (xs:List Int) (n c:Nat):Tr Try.prog 70 [slC 0 n c] [.gro 1 (rowsC intC xs)] (fun v K=>v=valF 1∧K=[.gro 1 (rowsC intC xs),.cells 0 [slC 0 n c]]):=by
 refine Tr.of row_slices_Values_int_int__ok rfl ?_
 repeat' (first|refine qN ?_|refine dN ?_|refine d0 ?_|refine aI (hn:=?_)|refine qR ?_|refine qS ?_|exact ⟨rfl,rfl⟩|fail)
 exact L_ret (RetQ.pick [0,1] rfl rfl rfl rfl ⟨rfl,rfl⟩)
theorem collect_tr (xs:List Int) (n c:Nat) (hx:xs.length=c) (hn:n≤c) (hc:c≤100000):Tr Try.prog 78 [valF 1] [.gro 1 (rowsC intC xs),.cells 0 [slC 0 n c]]
  (fun v K=>v=slB 2 n∧K=[.gro 1 (rowsC intC xs),.cells 0 [slC 0 n c],.gro 1 (rowsC intC (xs.take n))]):=by
 have hA:=appSeq_tr xs n c hx hn hc
 refine Tr.of row_slices_Collect_int__ok rfl ?_
 repeat' (first|refine qN ?_|refine dN ?_|refine d0 ?_|(refine cF [0,1] (hA) ?_; conv=>whnf)|refine aI (hn:=?_)|refine qR ?_|refine qS ?_|exact ⟨rfl,rfl⟩|fail)
 exact L_ret (RetQ.pick [0,1,2] rfl rfl rfl rfl ⟨rfl,rfl⟩)
theorem sorted_tr (xs:List Int) (n c:Nat) (hx:xs.length=c) (hn:n≤c) (hc:c≤100000):Tr Try.prog 69 [valF 1] [.gro 1 (rowsC intC xs),.cells 0 [slC 0 n c]]
  (fun v K=>v=slB 2 n∧K=[.gro 1 (rowsC intC xs),.cells 0 [slC 0 n c],.gro 1 (rowsC intC (sortZ (xs.take n)))]):=by
 have hA:=collect_tr xs n c hx hn hc
 have hS:=sortI_tr (xs.take n) n (by rw [List.length_take]; omega) (by omega)
 refine Tr.of row_slices_Sorted_int__ok rfl ?_
 repeat' (first|refine qN ?_|refine dN ?_|refine d0 ?_|(refine cF [0,1] (hA) ?_; conv=>whnf)|(refine cF [2] (hS) ?_; conv=>whnf)|refine aI (hn:=?_)|refine qR ?_|refine qS ?_|exact ⟨rfl,rfl⟩|fail)
 exact L_ret (RetQ.pick [0,1,2] rfl rfl rfl rfl ⟨rfl,rfl⟩)
def iotaZ (n:Nat):List Int:=(List.range n).map Int.ofNat
theorem iotaZ_len (n:Nat):(iotaZ n).length=n:=by simp [iotaZ]
theorem iotaZ_get {n i:Nat} (h:i<n):(iotaZ n)[i]?=some (i:Int):=by simp [iotaZ,h]
def wholeB (xs:List Int) (m:Int):Bool:=decide (sortZ xs=iotaZ xs.length) && decide ((xs.length:Int)=m)
set_option maxHeartbeats 1000000 in
theorem whole_tr (xs:List Int) (n c:Nat) (hx:xs.length=c) (hn:n≤c) (hc:c≤1000) (m:Int):Tr Try.prog 49 [slC 0 n c,.int .i64 m] [.gro 1 (rowsC intC xs)] (fun v K=>v=.bool (wholeB (xs.take n) m)∧K=[.gro 1 (rowsC intC xs)]):=by
 have hV:=values_tr xs n c
 have hS:=sorted_tr xs n c hx hn (by omega)
 have hln:(xs.take n).length=n:=by rw [List.length_take]; omega
 have hzl:(sortZ (xs.take n)).length=n:=by rw [sortZ_len]; exact hln
 unfold wholeB
 rw [hln]
 generalize sortZ (xs.take n)=zs at *
 refine Tr.of row_linear_whole_ok rfl ?_
 repeat' (first|refine qN ?_|refine dN ?_|refine dR ?_|refine d0 ?_|refine qB ?_|refine rT ?_|refine qT ?_|refine qU ?_|refine qL ?_|refine qK ?_|refine qF ?_|refine qE ?_|refine iF (fun h=>?_) (fun h=>?_)|refine aX ?_|(refine cF [0] (hV) ?_; conv=>whnf)|(refine cF [0,1] (hS) ?_; conv=>whnf)|refine aA ?_|refine aI (hn:=?_)|refine qR ?_|refine qS ?_|exact ⟨rfl,rfl⟩|fail)
 refine LWp.pick [0,1,11,12,13] [0,2] rfl rfl rfl (L_loop (fun q l L=>∃ i:Nat,q=n-i∧i≤n∧zs.take i=iotaZ i∧l=[(0,slC 0 n c),(1,.int .i64 m),(11,slB 1 n),(12,.int .i64 n),(13,.int .i64 i)]∧L=[.gro 1 (rowsC intC xs),.gro 1 (rowsC intC zs)]) n ⟨0,rfl,by omega,rfl,rfl,rfl⟩ ?_)
 clear hV hS
 rintro q _ _ ⟨i,rfl,hi,hall,rfl,rfl⟩
 first|refine L_seq (L_rs (S_done [] rfl (Nx.goL (iF (fun h=>L_skip (Nx.goL ?_)) (fun h=>L_exit ?_)))))|refine L_rs (S_done [] rfl (Nx.goL (L_seq (iF (fun h=>L_skip (Nx.goL ?_)) (fun h=>L_exit ?_)))))
 ·have hik:i<n:=by omega
  obtain ⟨x,hx1⟩:∃ x,zs[i]?=some x:=⟨_,List.getElem?_eq_getElem (by omega)⟩
  repeat' (first|refine qN ?_|refine dN ?_|refine d0 ?_|refine qB ?_|refine qT ?_|refine qU ?_|refine qL ?_|refine qK ?_|refine qF ?_|refine qE ?_|refine iF (fun h=>?_) (fun h=>?_)|refine aX ?_|refine S_Q [] rfl rfl (QY.ldI rfl rfl hx1) ?_|refine aA ?_|refine aI (hn:=?_)|refine qR ?_|refine qS ?_|exact ⟨rfl,rfl⟩|fail)
  ·have hne:zs≠iotaZ n:=fun e=>by rw [e,iotaZ_get hik] at hx1; cases hx1; exact h rfl
   rw [decide_eq_false hne]
   exact L_ret (RetQ.pick [0] rfl rfl rfl rfl ⟨rfl,rfl⟩)
  ·obtain rfl:x=i:=by omega
   exact Nx.pick [0,1,11,12,13] [0,1] rfl rfl rfl ⟨n-(i+1),by omega,i+1,rfl,by omega,by rw [List.take_add_one,hx1,hall]; simp [iotaZ,List.range_succ],rfl,rfl⟩
 ·refine Nx.goL ?_
  obtain rfl:i=n:=by omega
  rw [List.take_of_length_le (by omega)] at hall
  rw [decide_eq_true hall,Bool.true_and]
  repeat' (first|refine qN ?_|refine dN ?_|refine d0 ?_|refine qB ?_|refine qT ?_|refine qU ?_|refine qL ?_|refine qK ?_|refine qF ?_|refine qE ?_|refine iF (fun h=>?_) (fun h=>?_)|refine aX ?_|refine aA ?_|refine aI (hn:=?_)|refine qR ?_|refine qS ?_|exact ⟨rfl,rfl⟩|fail)
  exact L_ret (RetQ.pick [0] rfl rfl rfl rfl ⟨rfl,rfl⟩)
end Go.Proofs.Ythgmdlmeeebfiaa
end
