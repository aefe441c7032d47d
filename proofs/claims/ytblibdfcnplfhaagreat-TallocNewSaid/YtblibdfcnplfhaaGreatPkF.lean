/-
  What the proof leans on, part 6: of the texts Lw9, Lw10, Lw11, Lw12, Lw13, Lw14, Lw15, Lw16, Lw17, BaseM, BaseC, TaA, RemoteSpec, MailA, MailB, LargeC, Lw18, Lw19, Lw21, Lw20, Lw22, Lw26, Lw32, Lw33, Lw34, Lw23.
-/
import Derived.Test.YtblibdfcnplfhaaGreatPkE
import Derived.Lib.AppendZerosOnto
import Derived.Lib.Overlaps
set_option linter.unusedVariables false
set_option linter.unusedSimpArgs false
set_option linter.unusedSectionVars false
section
/-
 The logic over named blocks: copies and clearings of parts of rows.
-/
namespace Go.Tum
open Go

section
variable {P:Program} {n0:NA} {l:Env} {L:LH}
theorem set_self {α:Type} {l:List α} {i:Nat} {a:α} (h:l[i]?=some a):l.set i a=l:=by
 obtain ⟨hi,rfl⟩:=List.getElem?_eq_some_iff.1 h
 exact List.set_getElem_self hi
/-- cells are written over a part of a row -/
theorem Rep.putg {X:Nat→Prop} {w0 w:World} {E:Emb} {b sz o:Nat} {vs us:List Value} {r:Nat × Nat × Nat} (hR:Rep X w0 E L w) (hb:L[b]?=some (.gro sz vs)) (hr:E[b]?=some r) (hu:us.all stillS=true) (ho:o+us.length≤vs.length) (hn0:0<us.length) :
  ∃ cs,Blk w r.1 cs∧o+r.2.1+us.length≤cs.length∧Rep X w0 E (L.set b (.gro sz (splice vs o us))) (putCells w ⟨r.1,o+r.2.1,none⟩ 0 us):=by
 rcases hR.blk b _ r hb hr with ⟨rfl,_⟩ | ⟨hne,hsz,cs,hB,hcs,hroom⟩
 ·simp only [List.length_nil] at ho; omega
 ·have hcl:o+r.2.1+us.length≤cs.length:=by omega
  have hls:(splice vs o us).length=vs.length:=splice_length (by omega)
  have hne2:splice vs o us≠[]:=by intro e; apply hne; have:=congrArg List.length e; rw [hls] at this; exact List.length_eq_zero_iff.1 (by simpa using this)
  have hpb:=putCells_blk (o:=o+r.2.1) us 0 w _ hB (by omega)
  refine ⟨cs,hB,hcl,hR.upd hb hr ?_ (.inr ⟨hne2,hsz,_,hpb,?_,?_⟩) ?_⟩
  ·rw [gro_foot hne]; exact putCells_fr (p:=⟨r.1,o+r.2.1,none⟩) us 0 w
  ·rw [hls,Nat.add_zero,splice_drop hcl (by omega),show o+r.2.1-r.2.1=o by omega,splice_take (by omega) (by simp; omega),hcs]
  ·rw [hls,Nat.add_zero,splice_length hcl]; exact hroom
  ·rw [gro_foot hne,gro_foot hne2]; exact fun _ h=>.inl h

variable {α:Type} {g:α→List Value} {sz:Nat}
theorem rowsC_splice (h:RowOk g sz) {xs ys:List α} {k:Nat}:splice (rowsC g xs) (k*sz) (rowsC g ys)=rowsC g (xs.take k++ys++xs.drop (k+ys.length)):=by
 rw [splice,rowsC_length h,← Nat.add_mul,rowsC_take h,rowsC_drop h,rowsC_append,rowsC_append]
theorem lcells_rows {b k m:Nat} {xs:List α} (h:RowOk g sz) (hb:L[b]?=some (.gro sz (rowsC g xs))) (hm:k+m≤xs.length) (hz:0<sz) (hm0:0<m):lcells L ⟨b,k*sz,none⟩ (m*sz)=some (rowsC g ((xs.drop k).take m)):=by
 have:=lslc_rows (L:=L) (c:=m) h hb (rfl:k*sz=k*sz) hm hz
 cases m with
 | zero=>omega
 | succ m=>simpa [lslc] using this

/-- whose elements a type of slices has: so many cells -/
def cpyT (P:Program) (dT:TypeId):Option Nat :=
 match elemOf P dT with
 | some (_,i,_)=>some i.size
 | none=>none
theorem form_slice {E:Emb} {a:Option Addr} {n c:Nat} {v:Value} (hv:VR E (.slice a n c) v):∃ a' c',v=.slice a' n c':=by
 cases a with
 | none=>cases hv; exact ⟨_,_,rfl⟩
 | some a=>rcases a with ⟨b,o,_ | s⟩ <;> first | (rcases hv with hv | ⟨rfl,rfl,_,hv⟩ <;> exact ⟨_,_,hv⟩) | (obtain ⟨_,r,_,⟨a',c',rfl,_⟩ | ⟨rfl,_,_,rfl⟩⟩:=hv <;> exact ⟨_,_,rfl⟩)

theorem EW.copyg {o:Oper} {x y:Operand} {dT sT:TypeId} {b i dn dc bx j sn sc:Nat} {xs ys:List α} (h:RowOk g sz) (ho:o.op=.call ⟨.builtin .copy,⟨[x,y]⟩,⟨[dT,sT]⟩⟩) (ht:cpyT P dT=some sz)
  (hx:lv l x=some (.slice (some ⟨b,i*sz,none⟩) dn dc)) (hy:lv l y=some (.slice (some ⟨bx,j*sz,none⟩) sn sc)) (hb:L[b]?=some (.gro sz (rowsC g xs))) (hbx:L[bx]?=some (.gro sz (rowsC g ys)))
  (hd:i+dn≤xs.length) (hs:j+sn≤ys.length) (hz:0<sz) :
  EW P n0 L l (.raw o) (fun v K=>v=.int .i64 (min sn dn:Nat)∧K=L.set b (.gro sz (rowsC g (xs.take i++(ys.drop j).take (min sn dn)++xs.drop (i+min sn dn))))):=by
 intro X w0 E0 w E l' Kf h0 hE hR hl hK
 unfold cpyT at ht
 split at ht
 rotate_left
 ·cases ht
 rename_i e ie z he
 cases ht
 obtain ⟨hu,hi,_⟩:=elemOf_ok he
 obtain ⟨vd',h1,h2⟩:=lv_ev hl hx
 obtain ⟨vs',h3,h4⟩:=lv_ev hl hy
 obtain ⟨d,op,ty,pos,af,gg⟩:=o
 simp only at ho
 subst ho
 obtain ⟨base',dc',rfl⟩:=form_slice h2
 obtain ⟨sb',sc',rfl⟩:=form_slice h4
 refine copy_any (ty:=ty) hu hi h1 h3 (fun hm=>?_) (fun hp=>?_)
 ·refine hK w E _ _ _ ⟨rfl,rfl⟩ (Ext.refl E) ?_ (by rw [hm]; rfl)
  rw [hm]
  have e:xs.take i++(ys.drop j).take 0++xs.drop (i+0)=xs:=by simp
  rw [e,set_self hb]
  exact hR
 ·have hdn:dn≠0:=by omega
  have hsn:sn≠0:=by omega
  obtain ⟨_,r,hr,⟨a1,c1,e1,hcase⟩ | ⟨hz0,_⟩⟩:=h2
  rotate_left
  ·exact absurd hz0 hdn
  rcases hcase with ⟨rfl,rfl⟩ | ⟨hz0,_⟩
  rotate_left
  ·exact absurd hz0 hdn
  cases e1
  obtain ⟨hsp,q,hq,⟨a2,c2,e2,hcase⟩ | ⟨hz0,_⟩⟩:=h4
  rotate_left
  ·exact absurd hz0 hsn
  rcases hcase with ⟨rfl,rfl⟩ | ⟨hz0,_⟩
  rotate_left
  ·exact absurd hz0 hsn
  cases e2
  have hcs:=lcells_rows (L:=L) (k:=j) (m:=min sn dn) h hbx (by omega) hz hp
  obtain ⟨ss,us,hS,_,hsl,hus,hL,hul⟩:=lcells_ok hR (a:=⟨bx,j*ie.size,none⟩) (a':=⟨q.1,j*ie.size+q.2.1,none⟩) ⟨hsp,q,hq,rfl⟩ hcs
  simp only at hS hsl hus
  have hst:=rowsC_still h ((ys.drop j).take (min sn dn))
  have hue:us=rowsC g ((ys.drop j).take (min sn dn)):=L2.eq_still hst hL
  have hlen:us.length=min sn dn*ie.size:=hul
  have hle:(i+min sn dn)*ie.size≤xs.length*ie.size:=Nat.mul_le_mul_right _ (by omega)
  rw [Nat.add_mul] at hle
  have hpos:0<min sn dn*ie.size:=Nat.mul_pos hp hz
  obtain ⟨cs,hB,hcl,hR'⟩:=hR.putg (o:=i*ie.size) (us:=us) hb hr (by rw [hue]; exact hst) (by rw [hlen,rowsC_length h]; exact hle) (by omega)
  refine ⟨_,_,_,_,cs,ss,rfl,rfl,hB,hS,by rw [← hlen]; exact hcl,hsl,fun u hu=>?_,hK _ E _ _ _ ⟨rfl,rfl⟩ (Ext.refl E) ?_ rfl⟩
  ·rw [← hus] at hu
   obtain ⟨u0,_,h5⟩:=hL.mem u hu
   exact h5.one.2
  ·rw [← hus]
   have e:=rowsC_splice h (xs:=xs) (ys:=(ys.drop j).take (min sn dn)) (k:=i)
   rw [hue] at hR'
   rw [e] at hR'
   have e2:((ys.drop j).take (min sn dn)).length=min sn dn:=by simp; omega
   rw [e2] at hR'
   rw [hue]
   exact hR'

/-- the zero of an element,cell by cell -/
def clrT (P:Program) (dT:TypeId):Option (Nat × List Value) :=
 match elemOf P dT with
 | some (_,i,z)=>bif Nat.blt 0 z.cells.toList.length && Nat.beq z.cells.toList.length i.size && z.cells.toList.all stillS then some (i.size,z.cells.toList) else none
 | none=>none
theorem EW.clearg {o:Oper} {x:Operand} {dT:TypeId} {b i dn dc:Nat} {xs:List α} {zs:List Value} {z0:α} (h:RowOk g sz) (ho:o.op=.call ⟨.builtin .clear,⟨[x]⟩,⟨[dT]⟩⟩) (ht:clrT P dT=some (sz,zs)) (hg0:g z0=zs)
  (hx:lv l x=some (.slice (some ⟨b,i*sz,none⟩) dn dc)) (hb:L[b]?=some (.gro sz (rowsC g xs))) (hd:i+dn≤xs.length) :
  EW P n0 L l (.raw o) (fun v K=>v=.tuple #[]∧K=L.set b (.gro sz (rowsC g (xs.take i++List.replicate dn z0++xs.drop (i+dn))))):=by
 intro X w0 E0 w E l' Kf h0 hE hR hl hK
 unfold clrT at ht
 split at ht
 rotate_left
 ·cases ht
 rename_i e ie z he
 cases hc:(Nat.blt 0 z.cells.toList.length && Nat.beq z.cells.toList.length ie.size && z.cells.toList.all stillS)
 ·rw [hc] at ht; cases ht
 rw [hc] at ht; cases ht
 simp only [Bool.and_eq_true] at hc
 obtain ⟨hu,hi,hzz⟩:=elemOf_ok he
 have hzp:0<z.cells.toList.length:=Nat.le_of_ble_eq_true hc.1.1
 have hzl:=Nat.eq_of_beq_eq_true hc.1.2
 have hzsz:z.cells.size=ie.size:=by simpa using hzl
 obtain ⟨vd',h1,h2⟩:=lv_ev hl hx
 obtain ⟨d,op,ty,pos,af,gg⟩:=o
 simp only at ho
 subst ho
 obtain ⟨base',dc',rfl⟩:=form_slice h2
 have hone:∀ u∈z.cells.toList,one u=true:=fun u hu=>(SR.still (E:=E) (List.all_eq_true.1 hc.2 u hu)).one.1
 refine clear_any (ty:=ty) hu hi hzz (by simpa using hzp) hone h1 (fun hm=>?_) (fun hp=>?_)
 ·subst hm
  refine hK w E _ _ _ ⟨rfl,rfl⟩ (Ext.refl E) ?_ ⟨[],rfl,trivial⟩
  have e:xs.take i++List.replicate 0 z0++xs.drop (i+0)=xs:=by simp
  rw [e,set_self hb]
  exact hR
 ·obtain ⟨_,r,hr,⟨a1,c1,e1,hcase⟩ | ⟨hz0,_⟩⟩:=h2
  rotate_left
  ·exact absurd hz0 (by omega)
  rcases hcase with ⟨rfl,rfl⟩ | ⟨hz0,_⟩
  rotate_left
  ·exact absurd hz0 (by omega)
  cases e1
  have hrows:repC dn z.cells.toList=rowsC g (List.replicate dn z0):=by rw [← hg0]; exact repC_rows z0 dn
  have hst:=rowsC_still h (List.replicate dn z0)
  have hlen:(repC dn z.cells.toList).length=dn*ie.size:=by rw [hrows,rowsC_length h,List.length_replicate]
  have hle:(i+dn)*ie.size≤xs.length*ie.size:=Nat.mul_le_mul_right _ hd
  rw [Nat.add_mul] at hle
  have hpos:0<dn*ie.size:=Nat.mul_pos hp (by omega)
  obtain ⟨cs,hB,hcl,hR'⟩:=hR.putg (o:=i*ie.size) (us:=repC dn z.cells.toList) hb hr (by rw [hrows]; exact hst) (by rw [hlen,rowsC_length h]; exact hle) (by omega)
  refine ⟨_,_,cs,rfl,hB,by rw [hzsz,← hlen]; exact hcl,hK _ E _ _ _ ⟨rfl,rfl⟩ (Ext.refl E) ?_ ⟨[],rfl,trivial⟩⟩
  rw [hrows] at hR' ⊢
  have e:=rowsC_splice h (xs:=xs) (ys:=List.replicate dn z0) (k:=i)
  rw [e] at hR'
  rw [List.length_replicate] at hR'
  exact hR'
end
end Go.Tum
end
section
/-
 The logic over named blocks: maps whose keys are whole numbers.
-/
namespace Go.Tum
open Go

theorem ikEq_self (k:IntKind):ikEq k k=true:=by simp [ikEq]
theorem mInt_back (k:IntKind):∀ mi:List (Int × Value × Nat),mInt k (mBack k mi)=some mi
 | []=>rfl
 | (a,v,b)::r=>by
  have:=mInt_back k r
  simp only [mBack] at this
  simp only [mBack,List.map_cons,mInt,ikEq_self,cond_true,this]

section
variable {P:Program} {n0:NA} {l:Env} {L:LH}
theorem lmapOf_at {x:Operand} {b c:Nat} {k:IntKind} {mi:List (Int × Value × Nat)} (hx:lv l x=some (.map (some b))) (hb:L[b]?=some (.map (mBack k mi) c)):lmapOf L l k x=some (b,mi,c):=by
 simp only [lmapOf,hx,hb,mInt_back]
theorem QY.mget {o:Oper} {mT et:TypeId} {x y:Operand} {z v:Value} {b c:Nat} {k:IntKind} {mi:List (Int × Value × Nat)} {a:Int} (ho:o.op=.lookup mT x y false) (hk:keyKind P mT=some et) (hz:zeroOf P et=some z) (hs:still z=true)
  (hx:lv l x=some (.map (some b))) (hy:lv l y=some (.int k a)) (hb:L[b]?=some (.map (mBack k mi) c)) (hv:((mfind mi a).map (·.2.1)).getD z=v):QY P n0 L l (.raw o) v:=by
 refine QY.of ?_
 show rawQ1 P L l o=_
 unfold rawQ1
 rw [ho]
 simp only [hk,hy,hz,lmapOf_at hx hb,hs,cond_true]
 cases hf:mfind mi a with
 | none=>rw [hf] at hv; rw [← hv]; rfl
 | some e=>rw [hf] at hv; rw [← hv]; rfl
theorem QY.mgetok {o:Oper} {mT et:TypeId} {x y:Operand} {z v:Value} {b c:Nat} {k:IntKind} {mi:List (Int × Value × Nat)} {a:Int} (ho:o.op=.lookup mT x y true) (hk:keyKind P mT=some et) (hz:zeroOf P et=some z) (hs:still z=true)
  (hx:lv l x=some (.map (some b))) (hy:lv l y=some (.int k a)) (hb:L[b]?=some (.map (mBack k mi) c)) (hv:.tuple ⟨[((mfind mi a).map (·.2.1)).getD z,.bool (mfind mi a).isSome]⟩=v):QY P n0 L l (.raw o) v:=by
 refine QY.of ?_
 show rawQ1 P L l o=_
 unfold rawQ1
 rw [ho]
 simp only [hk,hy,hz,lmapOf_at hx hb,hs,cond_true]
 cases hf:mfind mi a with
 | none=>rw [hf] at hv; rw [← hv]; rfl
 | some e=>rw [hf] at hv; rw [← hv]; rfl
theorem EW.mput {o:Oper} {mT et:TypeId} {x y u:Operand} {v:Value} {b c:Nat} {k:IntKind} {mi:List (Int × Value × Nat)} {a:Int} (ho:o.op=.mapUpdate mT x y u) (hk:keyKind P mT=some et)
  (hx:lv l x=some (.map (some b))) (hy:lv l y=some (.int k a)) (hu:lv l u=some v) (hb:L[b]?=some (.map (mBack k mi) c)) (hw:wfB mi c=true) (hv:notTup v=true) :
  EW P n0 L l (.raw o) (fun w K=>w=undef∧K=L.set b (.map (mBack k (mset mi a v c).1) (mset mi a v c).2)):=by
 refine EW.of ?_
 show rawE2 P L l o=_
 have h1:rawE2 P L l o=rawE1 P L l o:=by unfold rawE2; rw [ho]
 rw [h1]
 unfold rawE1
 rw [ho]
 simp only [hk,hy,hu,lmapOf_at hx hb,hw,hv,Bool.and_self,cond_true]
theorem EW.mdel {o:Oper} {mT kT et:TypeId} {x y:Operand} {b c:Nat} {k:IntKind} {mi:List (Int × Value × Nat)} {a:Int} (ho:o.op=.call ⟨.builtin .delete,⟨[x,y]⟩,⟨[mT,kT]⟩⟩) (hk:keyKind P mT=some et)
  (hx:lv l x=some (.map (some b))) (hy:lv l y=some (.int k a)) (hb:L[b]?=some (.map (mBack k mi) c)) (hw:wfB mi c=true) :
  EW P n0 L l (.raw o) (fun w K=>w=.tuple #[]∧K=L.set b (.map (mBack k (mdel mi a)) c)):=by
 refine EW.of ?_
 show rawE2 P L l o=_
 have h1:rawE2 P L l o=rawE1 P L l o:=by unfold rawE2; rw [ho]
 rw [h1]
 unfold rawE1
 rw [ho]
 simp only [hk,hy,lmapOf_at hx hb,hw,cond_true]
theorem EW.mmake {o:Oper} {mT:TypeId} (k:IntKind) (ho:o.op=.makeMap mT none):EW P n0 L l (.raw o) (fun w K=>w=.map (some L.length)∧K=L++[.map (mBack k []) 0]):=by
 refine EW.of ?_
 show rawE2 P L l o=_
 have h1:rawE2 P L l o=rawE1 P L l o:=by unfold rawE2; rw [ho]
 rw [h1]
 unfold rawE1
 rw [ho]
 rfl
end
end Go.Tum
end
section
/-
 The logic over named blocks: bytes as strings.
-/
namespace Go.Tum
open Go

/-- the string of some bytes -/
def bytesS (bs:List (BitVec 8)):ByteArray:=⟨(bs.map fun b=>UInt8.ofNat b.toNat).toArray⟩
theorem ofNat_toNat_inj {a b:BitVec 8} (h:UInt8.ofNat a.toNat=UInt8.ofNat b.toNat):a=b:=by
 have h1:=congrArg UInt8.toNat h
 simp only [UInt8.toNat_ofNat'] at h1
 rw [Nat.mod_eq_of_lt a.isLt,Nat.mod_eq_of_lt b.isLt] at h1
 exact BitVec.eq_of_toNat_eq h1
theorem bytesS_inj {a b:List (BitVec 8)} (h:bytesS a=bytesS b):a=b:=by
 unfold bytesS at h
 injection h with h
 have h2:a.map (fun b=>UInt8.ofNat b.toNat)=b.map fun b=>UInt8.ofNat b.toNat:=by
  have:=congrArg Array.toList h
  simpa using this
 clear h
 induction a generalizing b with
 | nil=>cases b with
  | nil=>rfl
  | cons=>simp at h2
 | cons x r ih=>cases b with
  | nil=>simp at h2
  | cons y s =>
   simp only [List.map_cons,List.cons.injEq] at h2
   rw [ofNat_toNat_inj h2.1,ih h2.2]
theorem bytesS_eq (a b:List (BitVec 8)):(bytesS a == bytesS b)=decide (a=b):=by
 have e:(bytesS a == bytesS b)=((bytesS a).data == (bytesS b).data):=rfl
 rw [e,Bool.eq_iff_iff,beq_iff_eq,decide_eq_true_eq]
 exact ⟨fun h=>bytesS_inj (by cases hx:bytesS a; cases hy:bytesS b; rw [hx,hy] at h; simp only at h; rw [h]),fun h=>by rw [h]⟩

section
variable {P:Program} {w:World}
theorem str_loop {f:Value→ByteArray→Sem (ForInStep ByteArray)} (hf:∀ (n:Int) (s:ByteArray),f (.int .u8 n) s=pure (ForInStep.yield (s.push (UInt8.ofNat n.toNat)))) (bs:List (BitVec 8)):∀ s:ByteArray,(forIn (bs.map fun b=>Value.int .u8 (b.toNat:Int)) s f).run P w=.ok (⟨s.data++(bs.map fun b=>UInt8.ofNat b.toNat).toArray⟩) w:=by
 induction bs with
 | nil=>intro s; simp
 | cons b r ih =>
  intro s
  simp only [List.map_cons,List.forIn_cons,hf,Sem.run_bind,Sem.run_pure,Result.andThen_ok]
  rw [ih]
  congr 2
  simp [ByteArray.push]
theorem bytesToString_run {a:Addr} {n c:Nat} {bs:List (BitVec 8)} (h:(loadCells a n).run P w=.ok (bs.map fun b=>Value.int .u8 (b.toNat:Int)).toArray w):(Conv.bytesToString (.slice (some a) n c)).run P w=.ok (.string (bytesS bs)) w:=by
 unfold Conv.bytesToString
 simp only [Sem.run_bind,h,Result.andThen_ok,List.forIn_toArray,Sem.run_pure]
 rw [str_loop (fun _ _=>rfl) bs]
 simp [bytesS,ByteArray.empty,ByteArray.emptyWithCapacity]
 rfl
end
theorem byteC_map (bs:List (BitVec 8)):rowsC byteC bs=bs.map fun b=>Value.int .u8 (b.toNat:Int):=by
 induction bs with
 | nil=>rfl
 | cons x r ih=>simp only [rowsC,byteC,ih,List.map_cons]; rfl

section
variable {P:Program} {n0:NA} {l:Env} {L:LH}
/-- a conversion of bytes to a string -/
def strT (P:Program) (src dst:TypeId):Bool:=match P.underlying src,P.underlying dst with
 | some (.slice e),some .string=>match P.underlying e with
  | some (.int .u8)=>true
  | _=>false
 | _,_=>false
theorem QY.str {o:Oper} {src dst:TypeId} {x:Operand} {b i m c:Nat} {ys:List (BitVec 8)} (ho:o.op=.convert src dst x) (ht:strT P src dst=true) (hx:lv l x=some (.slice (some ⟨b,i*1,none⟩) m c)) (hb:L[b]?=some (.gro 1 (rowsC byteC ys))) (hm:i+m≤ys.length) :
  QY P n0 L l (.raw o) (.string (bytesS ((ys.drop i).take m))):=by
 intro X w0 E0 w E l' _ hE hR hl
 unfold strT at ht
 split at ht
 rotate_left
 ·cases ht
 rename_i e hs hd
 split at ht
 rotate_left
 ·cases ht
 rename_i he
 obtain ⟨vx,h1,h2⟩:=lv_ev hl hx
 obtain ⟨d,op,ty,pos,af,g⟩:=o
 simp only at ho
 subst ho
 have key:∀ w1:World,Sim w1 w→(convert src dst vx).run P w1=.ok (.string (bytesS ((ys.drop i).take m))) w1:=by
  intro w1 hs1
  obtain ⟨_,r,hr,⟨a',c',rfl,hcase⟩ | ⟨rfl,_,a',rfl⟩⟩:=h2
  ·simp only [convert,Sem.run_bind,run_underlying hs,run_underlying hd,run_underlying he,Result.andThen_ok]
   refine bytesToString_run ?_
   rcases Nat.eq_zero_or_pos m with rfl | hm0
   ·simp [loadCells_none]
   ·rcases hcase with ⟨rfl,_⟩ | ⟨h0,_⟩
    rotate_left
    ·omega
    have hcs:=lcells_rows (L:=L) (k:=i) (m:=m) byteC_ok hb hm (by omega) hm0
    obtain ⟨ss,us,hS,_,hsl,hus,hL,hul⟩:=lcells_ok hR (a:=⟨b,i*1,none⟩) (a':=⟨r.1,i*1+r.2.1,none⟩) ⟨rfl,r,hr,rfl⟩ hcs
    have hue:us=_:=L2.eq_still (rowsC_still byteC_ok _) hL
    simp only at hS hsl hus
    simp only [Nat.mul_one] at hsl hus hS ⊢
    rw [loadCells_blk (hS.sim hs1) (o:=i+r.2.1) (n:=m) hsl,← hus,hue,byteC_map]
  ·simp only [convert,Sem.run_bind,run_underlying hs,run_underlying hd,run_underlying he,Result.andThen_ok]
   cases a' with
   | none=>simp [Conv.bytesToString,bytesS]; rfl
   | some a' =>
    refine bytesToString_run ?_
    simp [loadCells_none]
 refine ⟨_,fun ρ w1 ha hs1=>?_,rfl⟩
 simp only [execOp,ha x _ h1,Sem.run_bind,key w1 hs1]
 rfl

theorem toList_bytesS (a b:List (BitVec 8)):((bytesS a).toList == (bytesS b).toList)=decide (a=b):=by
 rw [ByteArray.toList_eq,ByteArray.toList_eq,Bool.eq_iff_iff,beq_iff_eq,decide_eq_true_eq]
 refine ⟨fun h=>bytesS_inj ?_,fun h=>by rw [h]⟩
 cases hx:bytesS a with
 | mk da=>cases hy:bytesS b with
  | mk db =>
   rw [hx,hy] at h
   simp only at h
   congr 1
   exact Array.toList_inj.1 h
theorem QY.eqlStr {o:Oper} {t ty:TypeId} {x y:Operand} {a b:List (BitVec 8)} (ho:o.op=.binOp .eql t x y ty) (hx:lv l x=some (.string (bytesS a))) (hy:lv l y=some (.string (bytesS b))):QY P n0 L l (.raw o) (.bool (decide (a=b))):=by
 intro X w0 E0 w E l' _ hE hR hl
 obtain ⟨_,h1,rfl⟩:=lv_ev hl hx
 obtain ⟨_,h2,rfl⟩:=lv_ev hl hy
 obtain ⟨d,op,ty',pos,af,g⟩:=o
 simp only at ho
 subst ho
 refine ⟨_,fun ρ w1 ha hs1=>?_,rfl⟩
 simp [execOp,ha x _ h1,ha y _ h2,eqGuard,binOp,Op.stringOp,toList_bytesS]
theorem QY.neqStr {o:Oper} {t ty:TypeId} {x y:Operand} {a b:List (BitVec 8)} (ho:o.op=.binOp .neq t x y ty) (hx:lv l x=some (.string (bytesS a))) (hy:lv l y=some (.string (bytesS b))):QY P n0 L l (.raw o) (.bool (!decide (a=b))):=by
 intro X w0 E0 w E l' _ hE hR hl
 obtain ⟨_,h1,rfl⟩:=lv_ev hl hx
 obtain ⟨_,h2,rfl⟩:=lv_ev hl hy
 obtain ⟨d,op,ty',pos,af,g⟩:=o
 simp only at ho
 subst ho
 refine ⟨_,fun ρ w1 ha hs1=>?_,rfl⟩
 simp [execOp,ha x _ h1,ha y _ h2,eqGuard,binOp,Op.stringOp,toList_bytesS]

/-! ### a part of a row,from its begin -/
theorem QY.slc0 {x:Operand} {lo hi:Option Operand} {size b n c lo' hi':Nat} (hx:lv l x=some (.slice (some ⟨b,0,none⟩) n c)) (h1:lbound l lo 0=some lo') (h2:lbound l hi n=some hi') (h3:lo'≤hi') (h4:hi'≤c) :
  QY P n0 L l (.slc x lo hi size) (.slice (some ⟨b,lo'*size,none⟩) (hi'-lo') (c-lo')):=by
 have:=QY.slc (P:=P) (n0:=n0) (L:=L) (size:=size) hx h1 h2 h3 h4
 rwa [Nat.zero_add] at this
theorem QY.ldYo {x:Operand} {b o k:Nat} {xs:List (BitVec 8)} {a:BitVec 8} (hx:lv l x=some (.pointer (some ⟨b,o,none⟩))) (ho:o=k) (hb:L[b]?=some (.gro 1 (rowsC byteC xs))) (hk:xs[k]?=some a):QY P n0 L l (.ld x) (.int .u8 (a.toNat:Int)) :=
 QY.ldY (by rw [hx,ho,Nat.mul_one]) hb hk

theorem QY.idxO {x i:Operand} {b o n c k sz:Nat} {kd:IntKind} (hx:lv l x=some (.slice (some ⟨b,o,none⟩) n c)) (hi:lv l i=some (.int kd (k:Int))) (h1:k<n):QY P n0 L l (.idx x i sz) (.pointer (some ⟨b,o+k*sz,none⟩)):=by
 have:=QY.idx (P:=P) (n0:=n0) (L:=L) (size:=sz) hx hi (by omega) (by omega)
 simpa using this

/-! ### is a slice nil? -/
variable {K:Env→LH→Prop} {T T1:Taken} {ss r:List Step} {l1:Env} {L1:LH} {k:Nat} {d:Option Nat} {g:Option (Nat × Bool)} {op:QOp} {rd:Bool}
def QY2 (P:Program) (n0:NA) (L:LH) (l:Env) (q:QOp) (v u:Value):Prop :=
 ∀ (X:Nat→Prop) (w0:World) (E0:Emb) (w:World) (E:Emb) (l':Env),n0.Ok P X w0 E0→n0.Ext E0 E→Rep X w0 E L w→ER E l l'→∃ v',q.Y P l' v' w∧(VR E v v'∨VR E u v')
/-- an operation that yields the one,or the other one -/
theorem S_Q2 {v u:Value} (st:List Nat) (h:arun st ss l T L=(.q k d g op rd::r,l1,T1,L1)) (hg:gw g l1=some true) (hy:QY2 P n0 L1 l1 op v u) (h1:LSt P n0 r K (dpush d v l1) (bif rd then (k,op,l1,v)::T1 else T1) L1) (h2:LSt P n0 r K (dpush d u l1) (bif rd then (k,op,l1,u)::T1 else T1) L1):LSt P n0 ss K l T L:=by
 refine arun_ok st ss l T L h ?_
 refine ⟨fun X w0 E0 w E l' F h0 hE hR hl hT=>?_⟩
 simp only [stepsWp]
 refine gw_ok hl hg (fun _=>?_) (fun e=>by cases e)
 obtain ⟨v',e1,e2⟩:=hy X w0 E0 w E l' h0 hE hR hl
 refine ⟨v',e1,?_⟩
 rcases e2 with e2 | e2
 ·cases rd
  ·exact h1.go X w0 E0 w E _ _ h0 hE hR (hl.dpush e2 d) hT
  ·exact h1.go X w0 E0 w E _ _ h0 hE hR (hl.dpush e2 d) ⟨rfl,⟨l',v',rfl,hl,e2⟩,hT⟩
 ·cases rd
  ·exact h2.go X w0 E0 w E _ _ h0 hE hR (hl.dpush e2 d) hT
  ·exact h2.go X w0 E0 w E _ _ h0 hE hR (hl.dpush e2 d) ⟨rfl,⟨l',v',rfl,hl,e2⟩,hT⟩
def sliceT (P:Program) (t:TypeId):Bool:=match P.underlying t with
 | some (.slice _)=>true
 | _=>false
theorem nil_run {t:TypeId} {a:Option Addr} {n c:Nat} {w:World} (ht:sliceT P t=true):(Op.equal t (.slice a n c) (.slice none 0 0)).run P w=.ok a.isNone w:=by
 unfold sliceT at ht
 split at ht
 ·rename_i e hu
  unfold Op.equal Op.maxDepth
  unfold Op.equalIn
  simp only [Sem.run_bind,run_underlying hu,Result.andThen_ok]
  cases a <;> rfl
 ·cases ht
/-- a slice with an element is not nil -/
theorem QY.nilS {o:Oper} {t ty:TypeId} {x:Operand} {b off n c:Nat} (ho:o.op=.binOp .eql t x (.const (.slice none 0 0)) ty) (ht:sliceT P t=true) (hx:lv l x=some (.slice (some ⟨b,off,none⟩) n c)) (hn:0<n):QY P n0 L l (.raw o) (.bool false):=by
 intro X w0 E0 w E l' _ hE hR hl
 obtain ⟨vx,h1,h2⟩:=lv_ev hl hx
 obtain ⟨_,r,hr,⟨a',c',rfl,_⟩ | ⟨h0,_⟩⟩:=h2
 rotate_left
 ·omega
 obtain ⟨d,op,ty',pos,af,g⟩:=o
 simp only at ho
 subst ho
 refine ⟨_,fun ρ w1 ha hs1=>?_,rfl⟩
 have hc:ρ (.const (.slice none 0 0))=.slice none 0 0:=ha _ _ rfl
 simp [execOp,ha x _ h1,hc,eqGuard,binOp,nil_run ht]
theorem QY.nilS2 {o:Oper} {t ty:TypeId} {x:Operand} {b off n c:Nat} (ho:o.op=.binOp .eql t x (.const (.slice none 0 0)) ty) (ht:sliceT P t=true) (hx:lv l x=some (.slice (some ⟨b,off,none⟩) n c)):QY2 P n0 L l (.raw o) (.bool true) (.bool false):=by
 intro X w0 E0 w E l' _ hE hR hl
 obtain ⟨vx,h1,h2⟩:=lv_ev hl hx
 obtain ⟨a',c',rfl⟩:=form_slice h2
 obtain ⟨d,op,ty',pos,af,g⟩:=o
 simp only at ho
 subst ho
 refine ⟨.bool a'.isNone,fun ρ w1 ha hs1=>?_,?_⟩
 ·have hc:ρ (.const (.slice none 0 0))=.slice none 0 0:=ha _ _ rfl
  simp [execOp,ha x _ h1,hc,eqGuard,binOp,nil_run ht]
 ·cases a'
  ·exact .inl rfl
  ·exact .inr rfl
end
end Go.Tum
end
section
/-
 The logic over named blocks: ranges over maps (in whichever order),copies out of rows that came in.
-/
namespace Go.Tum
open Go

section
variable {P:Program} {w:World}
theorem choose_any (n:Nat) (hn:0<n):∃ j w',(choose (.mapNext n)).run P w=.ok j w'∧j<n∧(w'=w∨w'=w.drew):=by
 by_cases h:n≤1
 ·exact ⟨0,w,by simp [choose,Sem.run,Question.forced,h],hn,.inl rfl⟩
 ·exact ⟨w.tape w.drawn (.mapNext n) % n,w.drew,by simp [choose,Sem.run,Question.forced,h,Question.cut],Nat.mod_lt _ hn,.inr rfl⟩
theorem next_runM {r q c:Nat} {seen:List Nat} {es:List MapEntry} {ty:TypeId} (hi:w.heap[r]?=some (.mapIter (some q) c seen.toArray c)) (hm:w.heap[q]?=some (.map es.toArray c)) (hlt:∀ e∈es,e.born<c) :
  ((∀ e∈es,e.born∈seen)∧(Instr.next (.pointer (some ⟨r,0,none⟩)) false ty).run P w=.ok (.tuple #[.bool false]) w) ∨
  ∃ e∈es,e.born∉seen∧∃ w',(w'=w∨w'=w.drew)∧(Instr.next (.pointer (some ⟨r,0,none⟩)) false ty).run P w=.ok (.tuple #[.bool true,e.key,e.val]) { w' with heap:=w'.heap.setIfInBounds r (.mapIter (some q) c (seen++[e.born]).toArray c) }:=by
 have hg1:=getObjI_run (P:=P) hi (fun _ _ _ h=>by cases h)
 have hg2:=getObjI_run (P:=P) hm (fun _ _ _ h=>by cases h)
 have hleft:(es.toArray.filter fun e => !seen.toArray.contains e.born)=(es.filter fun e=>decide (e.born∉seen)).toArray:=by
  rw [List.filter_toArray]
  congr 1
  apply List.filter_congr
  intro e _
  simp
 have hu':(!seen.toArray.isEmpty && !es.toArray.isEmpty && es.toArray.all (fun e=>decide (e.born≥c)))=false:=by
  cases es with
  | nil=>simp
  | cons e t =>
   have:¬ e.born≥c:=by have:=hlt e (List.mem_cons_self ..); omega
   simp [this]
 have hL:∀ e∈es.filter (fun e=>decide (e.born∉seen)),e∈es∧e.born∉seen:=fun e he=>by simpa using he
 have hold:((es.filter fun e=>decide (e.born∉seen)).toArray.filter fun e=>decide (e.born<c))=(es.filter fun e=>decide (e.born∉seen)).toArray:=by
  rw [List.filter_toArray]
  congr 1
  exact List.filter_eq_self.2 fun e he=>by simpa using hlt e (hL e he).1
 have hnew:((es.filter fun e=>decide (e.born∉seen)).toArray.filter fun e=>decide (e.born≥c)) = #[]:=by
  rw [List.filter_toArray]
  congr 1
  exact List.filter_eq_nil_iff.2 fun e he=>by have:=hlt e (hL e he).1; simp; omega
 have key:(Instr.next (.pointer (some ⟨r,0,none⟩)) false ty).run P w=(do
   let left:=(es.filter fun e=>decide (e.born∉seen)).toArray
   let candidates:=(if left.isEmpty then #[none] else #[])++left.map some
   match candidates[← choose (.mapNext candidates.size)]? with
   | some (some e) =>
    setObj r (.mapIter (some q) c (seen.toArray.push e.born) c)
    pure (.tuple #[.bool true,e.key,e.val])
   | some none=>pure (.tuple #[.bool false])
   | none=>stuck "Next: no such candidate" : Sem Value).run P w:=by
  unfold Instr.next
  simp only [Sem.run_bind,hg1,Result.andThen_ok,hg2,hu',Bool.false_eq_true,if_false,hleft,hold,hnew,Array.append_empty]
  rfl
 rw [key]
 generalize hls:(es.filter fun e=>decide (e.born∉seen))=ls at hL
 cases ls with
 | nil =>
  refine .inl ⟨fun e he=>?_,?_⟩
  ·have:=List.filter_eq_nil_iff.1 hls e he
   simpa using this
  ·simp only [show ([]:List MapEntry).toArray.isEmpty=true from rfl,if_true,List.map_toArray,List.map_nil,Array.append_empty,Sem.run_bind,List.size_toArray,List.length_cons,List.length_nil,Nat.zero_add,choose_one,Result.andThen_ok]
   simp
 | cons e0 t =>
  obtain ⟨j,w',hj,hjl,hw⟩:=choose_any (P:=P) (w:=w) (e0::t).length (by simp)
  obtain ⟨he1,he2⟩:=hL (e0::t)[j] (List.getElem_mem hjl)
  refine .inr ⟨(e0::t)[j],he1,he2,w',hw,?_⟩
  have hsz:((#[]:Array (Option MapEntry))++(e0::t).toArray.map some).size=(e0::t).length:=by simp
  simp only [show (e0::t).toArray.isEmpty=false from rfl,Bool.false_eq_true,if_false,Sem.run_bind,hsz,hj,Result.andThen_ok]
  have hget:((#[]:Array (Option MapEntry))++(e0::t).toArray.map some)[j]?=some (some (e0::t)[j]):=by
   simp only [Array.empty_append,List.map_toArray,List.getElem?_toArray,List.getElem?_map]
   rw [List.getElem?_eq_getElem hjl]; rfl
  rw [hget]
  have hi':w'.heap[r]?=some (.mapIter (some q) c seen.toArray c):=by rcases hw with rfl | rfl <;> exact hi
  simp only [Sem.run_bind,setObjI_run (P:=P) hi' (fun _ _ _ h=>by cases h),Result.andThen_ok,Sem.run_pure]
  simp
end
section
variable {P:Program} {n0:NA} {l:Env} {L:LH}
theorem M2.memR {E:Emb}:∀ {m:List (Value × Value × Nat)} {es:List MapEntry},M2 E m es→∀ e∈es,∃ x∈m,ME E x e
 | [],[],_,e,he=>by cases he
 | a::r,b::s,h,e,he=>by
  rcases List.mem_cons.1 he with rfl | he
  ·exact ⟨a,List.mem_cons_self ..,h.1⟩
  ·obtain ⟨x,h1,h2⟩:=M2.memR h.2 e he; exact ⟨x,List.mem_cons_of_mem _ h1,h2⟩
 | [],_::_,h,_,_=>h.elim
 | _::_,[],h,_,_=>h.elim
theorem M2.memL {E:Emb}:∀ {m:List (Value × Value × Nat)} {es:List MapEntry},M2 E m es→∀ x∈m,∃ e∈es,ME E x e
 | [],[],_,e,he=>by cases he
 | a::r,b::s,h,e,he=>by
  rcases List.mem_cons.1 he with rfl | he
  ·exact ⟨b,List.mem_cons_self ..,h.1⟩
  ·obtain ⟨x,h1,h2⟩:=M2.memL h.2 e he; exact ⟨x,List.mem_cons_of_mem _ h1,h2⟩
 | [],_::_,h,_,_=>h.elim
 | _::_,[],h,_,_=>h.elim
/-- the next entry,whichever it is -/
theorem EW.nextM {o:Oper} {it:Operand} {b q c:Nat} {seen:List Nat} {m:List (Value × Value × Nat)} (ho:o.op=.next it false) (hit:lv l it=some (.pointer (some ⟨b,0,none⟩))) (hb:L[b]?=some (.iter (some q) c seen c)) (hq:L[q]?=some (.map m c)) (hc:∀ x∈m,x.2.2<c) :
  EW P n0 L l (.raw o) (fun v K=>(∃ e∈m,e.2.2∉seen∧v=.tuple ⟨[.bool true,e.1,e.2.1]⟩∧K=L.set b (.iter (some q) c (seen++[e.2.2]) c))∨((∀ e∈m,e.2.2∈seen)∧v=.tuple ⟨[.bool false]⟩∧K=L)):=by
 intro X w0 E0 w E l' Kf h0 hE hR hl hK
 obtain ⟨_,h1,a',rfl,_,r,h3,rfl⟩:=lv_ev hl hit
 have h3:E[b]?=some r:=h3
 obtain ⟨hr0,m',h5,q',h6,rfl⟩:=hR.blk b _ r hb h3
 obtain ⟨r1,r2⟩:=r
 simp only at hr0 h5
 subst hr0
 obtain ⟨es,h7,h8⟩:=hR.blk q _ q' hq h6
 obtain ⟨d,op,ty,pos,af,g⟩:=o
 simp only at ho
 subst ho
 have hlt:∀ e∈es,e.born<c:=fun e he=>by
  obtain ⟨x,hx,h9⟩:=h8.memR e he
  rw [h9.2.2]; exact hc x hx
 intro ρ w1 ha hs
 have h5':=h5
 rw [← hs.heap] at h5'
 have h7':=h7
 rw [← hs.heap] at h7'
 have hlb:=(Array.getElem?_eq_some_iff.1 h5).1
 rcases next_runM (P:=P) (ty:=ty) h5' h7' hlt with ⟨h9,hrun⟩ | ⟨e,he,hns,w2,hw2,hrun⟩
 ·refine Eff.value (v:=.tuple #[.bool false]) (w':=w1) ?_ ⟨w,hs,hK w E _ _ _ (.inr ⟨fun x hx=>?_,rfl,rfl⟩) (Ext.refl E) hR ⟨[.bool false],rfl,rfl,trivial⟩⟩
  ·simp only [execOp,ha it _ h1,Sem.run_bind]
   rw [show (0+0)=0 from rfl,hrun]; rfl
  ·obtain ⟨e,he,h10⟩:=h8.memL x hx
   rw [← h10.2.2]; exact h9 e he
 ·obtain ⟨x,hx,h10⟩:=h8.memR e he
  have hsim:Sim w2 w:=by
   rcases hw2 with rfl | rfl
   ·exact hs
   ·exact ⟨hs.heap,hs.tape,hs.os,hs.output⟩
  refine Eff.value (v:=.tuple #[.bool true,e.key,e.val]) ?_ ⟨_,hsim.setObj r1 (.mapIter (some q'.1) c (seen++[e.born]).toArray c),?_⟩
  ·simp only [execOp,ha it _ h1,Sem.run_bind]
   rw [show (0+0)=0 from rfl,hrun]; rfl
  ·refine hK _ E _ _ _ (.inl ⟨x,hx,by rw [← h10.2.2]; exact hns,rfl,rfl⟩) (Ext.refl E) (hR.upd hb h3 (Fr.setObj w r1 _) ⟨rfl,some q'.1,?_,q',h6,rfl⟩ (fun _ h=>.inl h)) ⟨[.bool true,e.key,e.val],rfl,rfl,h10.1,h10.2.1,trivial⟩
   rw [h10.2.2]
   simp [hlb]
/-- the entry that came last -/
theorem EW.entryM {o:Oper} {it:Operand} {b q c:Nat} {seen:List Nat} {m:List (Value × Value × Nat)} {e:Value × Value × Nat} (ho:o.op=.entry it) (hit:lv l it=some (.pointer (some ⟨b,0,none⟩))) (hb:L[b]?=some (.iter (some q) c (seen++[e.2.2]) c)) (hq:L[q]?=some (.map m c)) (he:m.find? (fun x=>Nat.beq x.2.2 e.2.2)=some e) :
  EW P n0 L l (.raw o) (fun v K=>v=.tuple ⟨[e.1,e.2.1]⟩∧K=L):=by
 refine EW.of ?_
 show rawE2 P L l o=_
 unfold rawE2
 rw [ho]
 simp only [lptr,hit,hb,hq,List.getLast?_append,List.getLast?_singleton,Option.some_or,Nat.beq_refl,cond_true,he]
theorem find_born {m:List (Int × Value × Nat)} {c:Nat} {k:IntKind} (hw:wfB m c=true) {x:Value × Value × Nat} (hx:x∈mBack k m):(mBack k m).find? (fun y=>Nat.beq y.2.2 x.2.2)=some x:=by
 simp only [wfB,Bool.and_eq_true] at hw
 have hnd:(m.map (·.2.2)).Nodup:=ndup_ok hw.1.2
 clear hw
 unfold mBack at *
 induction m with
 | nil=>cases hx
 | cons a r ih =>
  simp only [List.map_cons,List.nodup_cons] at hnd
  simp only [List.map_cons,List.find?_cons]
  rcases List.mem_cons.1 hx with rfl | hx
  ·simp
  ·have hne:Nat.beq a.2.2 x.2.2=false:=by
    cases hb:Nat.beq a.2.2 x.2.2
    ·rfl
    ·exfalso
     have:=Nat.eq_of_beq_eq_true hb
     obtain ⟨y,hy,rfl⟩:=List.mem_map.1 hx
     exact hnd.1 (by rw [this]; exact List.mem_map_of_mem hy)
   rw [hne]
   exact ih hx hnd.2
theorem born_lt {m:List (Int × Value × Nat)} {c:Nat} {k:IntKind} (hw:wfB m c=true):∀ x∈mBack k m,x.2.2<c:=by
 simp only [wfB,Bool.and_eq_true] at hw
 intro x hx
 obtain ⟨y,hy,rfl⟩:=List.mem_map.1 hx
 exact Nat.le_of_ble_eq_true (List.all_eq_true.1 hw.2 _ (List.mem_map_of_mem hy))

/-! ### a copy out of rows that came in -/
variable {α:Type} {g:α→List Value} {sz:Nat}
theorem copy_anyL {w:World} {Kw:Value→World→Prop} {d:Option Tmp} {pos:String} {af:Array Edge} {gg:Option (Nat × Bool)} {x y:Operand} {dT sT e ty:TypeId} {i:TypeInfo} {base sb:Option Addr} {dn dc sn sc:Nat} (he:P.underlying dT=some (.slice e)) (hi:P.info? e=some i)
  (hx:ev l x=some (.slice base dn dc)) (hy:ev l y=some (.slice sb sn sc))
  (h0:min sn dn=0→Kw (.int .i64 0) w)
  (h1:0<min sn dn→∃ b o sa cs us,base=some ⟨b,o,none⟩∧sb=some sa∧Blk w b cs∧o+min sn dn*i.size≤cs.length∧us.length=min sn dn*i.size∧(∀ j,j<min sn dn*i.size→w.cell? (sa.add j)=us[j]?)∧(∀ u∈us,one u=true) ∧
   Kw (.int .i64 (min sn dn:Nat)) (putCells w ⟨b,o,none⟩ 0 us)) :
  (EOp.raw ⟨d,.call ⟨.builtin .copy,#[x,y],#[dT,sT]⟩,ty,pos,af,gg⟩).W P Kw l w:=by
 intro ρ w0 ha hs
 have hexec:execOp ρ ⟨d,.call ⟨.builtin .copy,#[x,y],#[dT,sT]⟩,ty,pos,af,gg⟩=(do let r ← Builtin.copy_ #[dT,sT] ty #[.slice base dn dc,.slice sb sn sc]; pure (Next.value r)):=by
  simp [execOp,resolve,invoke,builtin,ha x _ hx,ha y _ hy]
 have hmin:∀ a b:Nat,Nat.min a b=min a b:=fun _ _=>rfl
 by_cases hz:min sn dn=0
 ·refine Eff.value (v:=.int .i64 0) (w':=w0) ?_ ⟨w,hs,h0 hz⟩
  rw [hexec]
  cases sb <;> cases base <;> simp [Builtin.copy_,run_underlying he,Builtin.lenOf,sizeOf_run hi,Builtin.firstCells,hmin,hz,loadCells_none,storeCells,goInt]
 ·obtain ⟨b,o,sa,cs,us,rfl,rfl,hB,hle,hul,hcell,hone,hK⟩:=h1 (by omega)
  have hload:(loadCells sa (min sn dn*i.size)).run P w0=.ok us.toArray w0 :=
   loadCells_run _ 0 #[] us.toArray (by simpa using hul) (fun j _ hj=>by rw [hs.cell]; rw [hcell j (by omega)]; simp) (by simp)
  have hst:=storeCells_blk (P:=P) (w:=w0) (hB.sim hs) (o:=o) (vs:=us) (by omega) hone
  refine Eff.value (v:=.int .i64 (min sn dn:Nat)) (w':=putCells w0 ⟨b,o,none⟩ 0 us) ?_ ⟨_,putCells_sim hs _ _ _,hK⟩
  rw [hexec]
  simp only [Builtin.copy_,List.getElem?_toArray,List.getElem?_cons_zero,List.getElem?_cons_succ,Sem.run_bind,run_underlying he,Result.andThen_ok,Builtin.lenOf,Sem.run_pure,sizeOf_run hi,Builtin.firstCells,hmin,hload,hst,goInt]

/-- so many of what came in -/
def takeA {α:Type} (op:Nat→α) (n:Nat):List α:=(List.range n).map op
theorem takeA_length {α:Type} (op:Nat→α) (n:Nat):(takeA op n).length=n:=by simp [takeA]
theorem EW.copyA {o:Oper} {x y:Operand} {dT sT:TypeId} {b i dn dc k j n sn sc:Nat} {xs:List α} {f:Nat→List Value} {op:Nat→α} (h:RowOk g sz) (hop:∀ i,i<n→f i=g (op i)) (ho:o.op=.call ⟨.builtin .copy,⟨[x,y]⟩,⟨[dT,sT]⟩⟩) (ht:cpyT P dT=some sz)
  (hx:lv l x=some (.slice (some ⟨b,i*sz,none⟩) dn dc)) (hy:lv l y=some (.slice (some ⟨k,0,none⟩) sn sc)) (hb:L[b]?=some (.gro sz (rowsC g xs))) (hA:n0.A[j]?=some (k,n*sz,rowG sz f))
  (hd:i+dn≤xs.length) (hs:sn≤n) (hz:0<sz) :
  EW P n0 L l (.raw o) (fun v K=>v=.int .i64 (min sn dn:Nat)∧K=L.set b (.gro sz (rowsC g (xs.take i++takeA op (min sn dn)++xs.drop (i+min sn dn))))):=by
 intro X w0 E0 w E l' Kf h0 hE hR hl hK
 unfold cpyT at ht
 split at ht
 rotate_left
 ·cases ht
 rename_i e ie z he
 cases ht
 obtain ⟨hu,hi,_⟩:=elemOf_ok he
 obtain ⟨vd',h1,h2⟩:=lv_ev hl hx
 obtain ⟨vs',h3,h4⟩:=lv_ev hl hy
 obtain ⟨d,opp,ty,pos,af,gg⟩:=o
 simp only at ho
 subst ho
 obtain ⟨base',dc',rfl⟩:=form_slice h2
 obtain ⟨sb',sc',rfl⟩:=form_slice h4
 refine copy_anyL (ty:=ty) hu hi h1 h3 (fun hm=>?_) (fun hp=>?_)
 ·refine hK w E _ _ _ ⟨rfl,rfl⟩ (Ext.refl E) ?_ (by rw [hm]; rfl)
  rw [hm]
  have e:xs.take i++takeA op 0++xs.drop (i+0)=xs:=by simp [takeA]
  rw [e,set_self hb]
  exact hR
 ·have hdn:dn≠0:=by omega
  have hsn:sn≠0:=by omega
  obtain ⟨_,r,hr,⟨a1,c1,e1,hcase⟩ | ⟨hz0,_⟩⟩:=h2
  rotate_left
  ·exact absurd hz0 hdn
  rcases hcase with ⟨rfl,rfl⟩ | ⟨hz0,_⟩
  rotate_left
  ·exact absurd hz0 hdn
  cases e1
  obtain ⟨hsp,q,hq,⟨a2,c2,e2,hcase⟩ | ⟨hz0,_⟩⟩:=h4
  rotate_left
  ·exact absurd hz0 hsn
  rcases hcase with ⟨rfl,rfl⟩ | ⟨hz0,_⟩
  rotate_left
  ·exact absurd hz0 hsn
  cases e2
  have hq:E[k]?=some q:=hq
  have hlen:=takeA_length op (min sn dn)
  have hst:=rowsC_still h (takeA op (min sn dn))
  have hul:(rowsC g (takeA op (min sn dn))).length=min sn dn*ie.size:=by rw [rowsC_length h,hlen]
  have hle:(i+min sn dn)*ie.size≤xs.length*ie.size:=Nat.mul_le_mul_right _ (by omega)
  rw [Nat.add_mul] at hle
  have hpos:0<min sn dn*ie.size:=Nat.mul_pos hp hz
  obtain ⟨cs,hB,hcl,hR'⟩:=hR.putg (o:=i*ie.size) (us:=rowsC g (takeA op (min sn dn))) hb hr hst (by rw [hul,rowsC_length h]; exact hle) (by omega)
  refine ⟨_,_,_,cs,rowsC g (takeA op (min sn dn)),rfl,rfl,hB,by rw [← hul]; exact hcl,hul,fun j' hj'=>?_,fun u hu=>(SR.still (E:=E) (List.all_eq_true.1 hst u hu)).one.1,hK _ E _ _ _ ⟨rfl,rfl⟩ (Ext.refl E) ?_ rfl⟩
  ·have hdiv:j' / ie.size<min sn dn:=Nat.div_lt_of_lt_mul (by rw [Nat.mul_comm]; exact hj')
   have hmod:j' % ie.size<ie.size:=Nat.mod_lt _ hz
   have hj2:j'<n*ie.size:=Nat.lt_of_lt_of_le hj' (Nat.mul_le_mul_right _ (by omega))
   obtain ⟨r',y,g1,g2,g3⟩:=arg_cell h0 hE hR (List.mem_of_getElem? hA) hj2
   rw [hq] at g1; cases g1
   have hj3:j'=j' / ie.size*ie.size+j' % ie.size:=by rw [Nat.mul_comm,Nat.div_add_mod]
   have hfl:(f (j' / ie.size)).length=ie.size:=by rw [hop _ (by omega)]; exact h.len _
   have hu:(f (j' / ie.size))[j' % ie.size]?=some ((f (j' / ie.size))[j' % ie.size]'(by omega)):=List.getElem?_eq_getElem (by omega)
   have hG:=rowG_at (i:=j' / ie.size) (j:=j' % ie.size) hfl hu
   rw [← hj3] at hG
   rw [hG] at g3
   have g3:y=_:=g3
   subst g3
   rw [add_none]
   have hget:(rowsC g (takeA op (min sn dn)))[j']?=(f (j' / ie.size))[j' % ie.size]?:=by
    have ha:(takeA op (min sn dn))[j' / ie.size]?=some (op (j' / ie.size)):=by simp [takeA,hdiv]
    have:=rowsC_cell h ha hmod
    rw [← hj3] at this
    rw [this,hop _ (by omega)]
   rw [hget,hu,← g2]
   congr 2; show 0+q.2.1+j'=_; omega
  ·have e:=rowsC_splice h (xs:=xs) (ys:=takeA op (min sn dn)) (k:=i)
   rw [e] at hR'
   rw [hlen] at hR'
   exact hR'
end
end Go.Tum
end
section
/-
 The logic over named blocks: maps of whole numbers as blocks of their own.
-/
namespace Go.Tum
open Go

abbrev IMap:=List (Int × Int × Nat)
def gfind (G:IMap) (a:Int):Option (Int × Int × Nat):=G.find? fun x=>decide (x.1=a)
def gget (G:IMap) (a:Int):Int:=((gfind G a).map (·.2.1)).getD 0
def ghas (G:IMap) (a:Int):Bool:=(gfind G a).isSome
def gput (G:IMap) (a n:Int) (c:Nat):IMap:=G++[(a,n,c)]
def gset (G:IMap) (a n:Int):IMap:=G.map fun x=>if x.1=a then (x.1,n,x.2.2) else x
def gdel (G:IMap) (a:Int):IMap:=G.filter fun x => !decide (x.1=a)
theorem mfind_mI (G:IMap) (a:Int):mfind (mI G) a=(gfind G a).map fun x=>(x.1,.int .i64 x.2.1,x.2.2):=by
 simp only [mfind,mI,gfind,List.find?_map]
 rfl
theorem mdel_mI (G:IMap) (a:Int):mdel (mI G) a=mI (gdel G a):=by
 simp only [mdel,mI,gdel,List.filter_map]
 rfl
theorem mset_none {G:IMap} {a n:Int} {c:Nat} (h:gfind G a=none):mset (mI G) a (.int .i64 n) c=(mI (gput G a n c),c+1):=by
 unfold mset
 rw [mfind_mI,h]
 simp [mI,gput]
theorem mset_some {G:IMap} {a n:Int} {c:Nat} {x:Int × Int × Nat} (h:gfind G a=some x):mset (mI G) a (.int .i64 n) c=(mI (gset G a n),c):=by
 unfold mset
 rw [mfind_mI,h]
 simp only [Option.map_some,mput,mI,gset,List.map_map]
 congr 1
 apply List.map_congr_left
 intro y _
 simp only [Function.comp]
 split <;> rfl
theorem gfind_none {G:IMap} {a:Int} (h:gfind G a=none):∀ x∈G,x.1≠a:=by
 intro x hx
 have:=List.find?_eq_none.1 h x hx
 simpa using this
theorem gfind_some {G:IMap} {a:Int} {x:Int × Int × Nat} (h:gfind G a=some x):x∈G∧x.1=a:=⟨List.mem_of_find?_eq_some h,by simpa using List.find?_some h⟩
theorem gfind_put (G:IMap) (a n:Int) (c:Nat) (b:Int):gfind (gput G a n c) b=(gfind G b).or (if a=b then some (a,n,c) else none):=by
 simp only [gfind,gput,List.find?_append,List.find?_singleton,decide_eq_true_eq]
theorem gget_put {G:IMap} {a n:Int} {c:Nat} (h:gfind G a=none) (b:Int):gget (gput G a n c) b=if b=a then n else gget G b:=by
 rw [gget,gfind_put]
 by_cases e:b=a
 ·subst e; rw [h]; simp
 ·rw [if_neg (fun q=>e q.symm),Option.or_none,if_neg e]; rfl
theorem gfind_del (G:IMap) (a b:Int):gfind (gdel G a) b=if b=a then none else gfind G b:=by
 induction G with
 | nil=>simp [gfind,gdel]
 | cons x r ih =>
  simp only [gfind,gdel,List.filter_cons] at *
  by_cases e:x.1=a
  ·subst e
   simp only [decide_true,Bool.not_true,Bool.false_eq_true,if_false,List.find?_cons]
   rw [ih]
   by_cases e2:b=x.1
   ·rw [if_pos e2,if_pos e2]
   ·rw [if_neg e2,if_neg e2]
    have:decide (x.1=b)=false:=by simpa using fun q:x.1=b=>e2 q.symm
    rw [this]
  ·simp only [e,decide_false,Bool.not_false,if_true,List.find?_cons]
   by_cases e2:x.1=b
   ·subst e2
    simp [e]
   ·simp only [e2,decide_false]
    exact ih
/-- as a map is -/
structure GOk (G:IMap) (c:Nat):Prop where
 keys:(G.map (·.1)).Nodup
 borns:(G.map (·.2.2)).Nodup
 lt:∀ x∈G,x.2.2<c
theorem GOk.of {G:IMap} {c:Nat} (h:Wf (mI G) c):GOk G c:=by
 obtain ⟨h1,h2,h3⟩:=h
 have e1:(mI G).map (·.1)=G.map (·.1):=by simp [mI]
 have e2:(mI G).map (·.2.2)=G.map (·.2.2):=by simp [mI]
 rw [e1] at h1
 rw [e2] at h2
 exact ⟨h1,h2,fun x hx=>h3 (x.1,.int .i64 x.2.1,x.2.2) (List.mem_map.2 ⟨x,hx,rfl⟩)⟩
theorem GOk.nil:GOk [] 0:=⟨by simp,by simp,by simp⟩
theorem GOk.put {G:IMap} {c:Nat} (h:GOk G c) {a n:Int} (hn:gfind G a=none):GOk (gput G a n c) (c+1):=by
 refine ⟨?_,?_,fun x hx=>?_⟩
 ·rw [gput,List.map_append,List.nodup_append]
  refine ⟨h.keys,by simp,fun b hb d hd e=>?_⟩
  obtain ⟨x,hx,rfl⟩:=List.mem_map.1 hb
  simp at hd
  exact gfind_none hn x hx (e.trans hd)
 ·rw [gput,List.map_append,List.nodup_append]
  refine ⟨h.borns,by simp,fun b hb d hd e=>?_⟩
  obtain ⟨x,hx,rfl⟩:=List.mem_map.1 hb
  have:=h.lt x hx
  simp at hd; omega
 ·rcases List.mem_append.1 hx with hx | hx
  ·have:=h.lt x hx; omega
  ·rw [List.mem_singleton] at hx; subst hx; simp
theorem GOk.del {G:IMap} {c:Nat} (h:GOk G c) (a:Int):GOk (gdel G a) c :=
 ⟨h.keys.sublist (List.Sublist.map _ List.filter_sublist),h.borns.sublist (List.Sublist.map _ List.filter_sublist),fun x hx=>h.lt x (List.mem_filter.1 hx).1⟩
theorem GOk.find {G:IMap} {c:Nat} (h:GOk G c) {x:Int × Int × Nat} (hx:x∈G):gfind G x.1=some x:=by
 have hk:=h.keys
 clear h
 induction G with
 | nil=>cases hx
 | cons a r ih =>
  simp only [List.map_cons,List.nodup_cons] at hk
  simp only [gfind,List.find?_cons]
  rcases List.mem_cons.1 hx with rfl | hx
  ·simp
  ·have:a.1≠x.1:=fun e=>hk.1 (e ▸ List.mem_map_of_mem hx)
   simp only [this,decide_false]
   exact ih hx hk.2
theorem GOk.born {G:IMap} {c:Nat} (h:GOk G c) {x y:Int × Int × Nat} (hx:x∈G) (hy:y∈G) (e:x.2.2=y.2.2):x=y:=by
 have hb:=h.borns
 clear h
 induction G with
 | nil=>cases hx
 | cons a r ih =>
  simp only [List.map_cons,List.nodup_cons] at hb
  rcases List.mem_cons.1 hx with hx1 | hx1
  ·rcases List.mem_cons.1 hy with hy1 | hy1
   ·rw [hx1,hy1]
   ·refine absurd ?_ hb.1
    rw [← hx1,e]; exact List.mem_map_of_mem hy1
  ·rcases List.mem_cons.1 hy with hy1 | hy1
   ·refine absurd ?_ hb.1
    rw [← hy1,← e]; exact List.mem_map_of_mem hx1
   ·exact ih hx1 hy1 hb.2
/-- how many have not been seen -/
def unseen (G:IMap) (seen:List Nat):Nat:=(G.filter fun x=>decide (x.2.2∉seen)).length
theorem unseen_lt {G:IMap} {seen:List Nat} {x:Int × Int × Nat} (hx:x∈G) (hs:x.2.2∉seen):unseen G (seen++[x.2.2])<unseen G seen:=by
 unfold unseen
 induction G with
 | nil=>cases hx
 | cons a r ih =>
  have hle:(r.filter fun y=>decide (y.2.2∉seen++[x.2.2])).length≤(r.filter fun y=>decide (y.2.2∉seen)).length:=by
   rw [← List.countP_eq_length_filter,← List.countP_eq_length_filter]
   apply List.countP_mono_left
   intro y _ hy
   simp only [decide_eq_true_eq,List.mem_append,not_or] at hy ⊢
   exact hy.1
  simp only [List.filter_cons]
  rcases List.mem_cons.1 hx with rfl | hx
  ·rw [if_neg (by simp),if_pos (by simpa using hs),List.length_cons]; omega
  ·have:=ih hx
   by_cases h1:a.2.2∈seen
   ·rw [if_neg (by simp [h1]),if_neg (by simp [h1])]; exact this
   ·by_cases h2:a.2.2=x.2.2
    ·rw [if_neg (by simp [h2]),if_pos (by simpa using h1),List.length_cons]; omega
    ·rw [if_pos (by simp [h1,h2]),if_pos (by simpa using h1),List.length_cons,List.length_cons]; omega

section
variable {P:Program} {n0:NA} {l:Env} {L:LH}
/-- a map's type: its keys,its elements are whole numbers -/
def imT (P:Program) (mT:TypeId):Bool:=match P.underlying mT with
 | some (.map kt et)=>match P.underlying kt,zeroOf P et with
  | some (.int .i64),some (.int .i64 (.ofNat 0))=>true
  | _,_=>false
 | _=>false
theorem imT_ok {mT:TypeId} (h:imT P mT=true):∃ kt et,P.underlying mT=some (.map kt et)∧P.underlying kt=some (.int .i64)∧zeroOf P et=some (.int .i64 0):=by
 unfold imT at h
 split at h
 rotate_left
 ·cases h
 rename_i kt et hu
 split at h
 ·rename_i h1 h2; exact ⟨kt,et,hu,h1,h2⟩
 ·cases h
theorem imap_at {X:Nat→Prop} {w0 w:World} {E:Emb} {l':Env} {x:Operand} {b c:Nat} {G:IMap} (hR:Rep X w0 E L w) (hl:ER E l l') (hx:lv l x=some (.map (some b))) (hb:L[b]?=some (.imap G c)) :
  ∃ r,E[b]?=some r∧ev l' x=some (.map (some r.1))∧Mp (Value.int .i64) w r.1 (mI G) c∧Wf (mI G) c:=by
 obtain ⟨_,h1,r,h2,rfl⟩:=lv_ev hl hx
 obtain ⟨h3,h4⟩:=hR.blk b _ r hb h2
 exact ⟨r,h2,h1,h3,h4⟩
theorem QY.iget {o:Oper} {mT:TypeId} {x y:Operand} {b c:Nat} {G:IMap} {a n:Int} (ho:o.op=.lookup mT x y false) (ht:imT P mT=true) (hx:lv l x=some (.map (some b))) (hy:lv l y=some (.int .i64 a)) (hb:L[b]?=some (.imap G c)) (hn:gget G a=n):QY P n0 L l (.raw o) (.int .i64 n):=by
 intro X w0 E0 w E l' _ hE hR hl
 obtain ⟨kt,et,hT,hkt,hz⟩:=imT_ok ht
 obtain ⟨r,h2,h3,h4,_⟩:=imap_at hR hl hx hb
 obtain ⟨_,h6,rfl⟩:=lv_ev hl hy
 obtain ⟨d,op,ty,pos,af,g⟩:=o
 simp only at ho
 subst ho
 refine ⟨_,lookup_Y (ty:=ty) hT (keyLaw_int hkt) (zeroOf_ok hz) h3 h6 h4 rfl,?_⟩
 rw [mfind_mI]
 show _=_
 subst hn
 unfold gget
 cases gfind G a <;> rfl
theorem QY.igetok {o:Oper} {mT:TypeId} {x y:Operand} {b c:Nat} {G:IMap} {a n:Int} {t:Bool} (ho:o.op=.lookup mT x y true) (ht:imT P mT=true) (hx:lv l x=some (.map (some b))) (hy:lv l y=some (.int .i64 a)) (hb:L[b]?=some (.imap G c)) (hn:gget G a=n) (hh:ghas G a=t):QY P n0 L l (.raw o) (.tuple ⟨[.int .i64 n,.bool t]⟩):=by
 intro X w0 E0 w E l' _ hE hR hl
 obtain ⟨kt,et,hT,hkt,hz⟩:=imT_ok ht
 obtain ⟨r,h2,h3,h4,_⟩:=imap_at hR hl hx hb
 obtain ⟨_,h6,rfl⟩:=lv_ev hl hy
 obtain ⟨d,op,ty,pos,af,g⟩:=o
 simp only at ho
 subst ho
 refine ⟨_,lookupOk_Y (ty:=ty) hT (keyLaw_int hkt) (zeroOf_ok hz) h3 h6 h4 rfl,?_⟩
 rw [mfind_mI]
 subst hn; subst hh
 refine ⟨_,rfl,?_,?_,trivial⟩
 ·show _=_
  unfold gget
  cases gfind G a <;> rfl
 ·show _=_
  unfold ghas
  cases gfind G a <;> rfl
theorem EW.iputN {o:Oper} {mT:TypeId} {x y u:Operand} {b c:Nat} {G:IMap} {a n:Int} (ho:o.op=.mapUpdate mT x y u) (ht:imT P mT=true) (hx:lv l x=some (.map (some b))) (hy:lv l y=some (.int .i64 a)) (hu:lv l u=some (.int .i64 n)) (hb:L[b]?=some (.imap G c)) (hn:gfind G a=none) :
  EW P n0 L l (.raw o) (fun w K=>w=undef∧K=L.set b (.imap (gput G a n c) (c+1))):=by
 intro X w0 E0 w E l' Kf h0 hE hR hl hK
 obtain ⟨kt,et,hT,hkt,hz⟩:=imT_ok ht
 obtain ⟨r,h2,h3,h4,h5⟩:=imap_at hR hl hx hb
 obtain ⟨_,h6,rfl⟩:=lv_ev hl hy
 obtain ⟨_,h7,rfl⟩:=lv_ev hl hu
 obtain ⟨d,op,ty,pos,af,g⟩:=o
 simp only at ho
 subst ho
 have hs:=mset_none (n:=n) (c:=c) hn
 have hw:=h5.mset (k:=a) (.int .i64 n)
 rw [hs] at hw
 refine mapUpdate_W (ty:=ty) (k:=a) hT (keyLaw_int hkt) h3 h6 h7 h4 h5 (fun w' hM hf hsz=>hK w' E _ _ _ ⟨rfl,rfl⟩ (Ext.refl E) (hR.upd hb h2 hf ⟨?_,hw⟩ (fun _ h=>.inl h)) VR.undef)
 rw [hs] at hM; exact hM
theorem EW.iputS {o:Oper} {mT:TypeId} {x y u:Operand} {b c:Nat} {G:IMap} {a n:Int} {e:Int × Int × Nat} (ho:o.op=.mapUpdate mT x y u) (ht:imT P mT=true) (hx:lv l x=some (.map (some b))) (hy:lv l y=some (.int .i64 a)) (hu:lv l u=some (.int .i64 n)) (hb:L[b]?=some (.imap G c)) (hn:gfind G a=some e) :
  EW P n0 L l (.raw o) (fun w K=>w=undef∧K=L.set b (.imap (gset G a n) c)):=by
 intro X w0 E0 w E l' Kf h0 hE hR hl hK
 obtain ⟨kt,et,hT,hkt,hz⟩:=imT_ok ht
 obtain ⟨r,h2,h3,h4,h5⟩:=imap_at hR hl hx hb
 obtain ⟨_,h6,rfl⟩:=lv_ev hl hy
 obtain ⟨_,h7,rfl⟩:=lv_ev hl hu
 obtain ⟨d,op,ty,pos,af,g⟩:=o
 simp only at ho
 subst ho
 have hs:=mset_some (n:=n) (c:=c) hn
 have hw:=h5.mset (k:=a) (.int .i64 n)
 rw [hs] at hw
 refine mapUpdate_W (ty:=ty) (k:=a) hT (keyLaw_int hkt) h3 h6 h7 h4 h5 (fun w' hM hf hsz=>hK w' E _ _ _ ⟨rfl,rfl⟩ (Ext.refl E) (hR.upd hb h2 hf ⟨?_,hw⟩ (fun _ h=>.inl h)) VR.undef)
 rw [hs] at hM; exact hM
theorem EW.idel {o:Oper} {mT kT:TypeId} {x y:Operand} {b c:Nat} {G:IMap} {a:Int} (ho:o.op=.call ⟨.builtin .delete,⟨[x,y]⟩,⟨[mT,kT]⟩⟩) (ht:imT P mT=true) (hx:lv l x=some (.map (some b))) (hy:lv l y=some (.int .i64 a)) (hb:L[b]?=some (.imap G c)) :
  EW P n0 L l (.raw o) (fun w K=>w=.tuple #[]∧K=L.set b (.imap (gdel G a) c)):=by
 intro X w0 E0 w E l' Kf h0 hE hR hl hK
 obtain ⟨kt,et,hT,hkt,hz⟩:=imT_ok ht
 obtain ⟨r,h2,h3,h4,h5⟩:=imap_at hR hl hx hb
 obtain ⟨_,h6,rfl⟩:=lv_ev hl hy
 obtain ⟨d,op,ty,pos,af,g⟩:=o
 simp only at ho
 subst ho
 have hw:=Wf.del (k:=a) h5
 rw [mdel_mI] at hw
 refine delete_W (ty:=ty) (k:=a) hT (keyLaw_int hkt) h3 h6 h4 h5 (fun w' hM hf hsz=>hK w' E _ _ _ ⟨rfl,rfl⟩ (Ext.refl E) (hR.upd hb h2 hf ⟨?_,hw⟩ (fun _ h=>.inl h)) ⟨[],rfl,trivial⟩)
 rw [mdel_mI] at hM; exact hM
theorem EW.imake {o:Oper} {mT:TypeId} (ho:o.op=.makeMap mT none):EW P n0 L l (.raw o) (fun w K=>w=.map (some L.length)∧K=L++[.imap [] 0]):=by
 intro X w0 E0 w E l' Kf h0 hE hR hl hK
 obtain ⟨d,op,ty,pos,af,g⟩:=o
 simp only at ho
 subst ho
 exact makeMap_W (ty:=ty) (mT:=mT) (Value.int .i64) (fun w' hM hf hsz=>hK w' (E++[(w.heap.size,0,0)]) _ _ _ ⟨rfl,rfl⟩ (Ext.push E _) (hR.push1 hf rfl hsz (fun _ h=>h) ⟨hM,by simp [mI],by simp [mI],by simp [mI]⟩) ⟨_,hR.last _,rfl⟩)
theorem EW.irange {o:Oper} {mT:TypeId} {x:Operand} {b c:Nat} {G:IMap} (ho:o.op=.range mT x) (ht:imT P mT=true) (hx:lv l x=some (.map (some b))) (hb:L[b]?=some (.imap G c)) :
  EW P n0 L l (.raw o) (fun v K=>v=.pointer (some ⟨L.length,0,none⟩)∧K=L++[.iter (some b) c [] c]):=by
 intro X w0 E0 w E l' Kf h0 hE hR hl hK
 obtain ⟨kt,et,hT,hkt,hz⟩:=imT_ok ht
 obtain ⟨r,h2,h1,h3,h4⟩:=imap_at hR hl hx hb
 obtain ⟨d,op,ty,pos,af,g⟩:=o
 simp only at ho
 subst ho
 intro ρ w1 ha hs
 have h3':w1.heap[r.1]?=some (.map ((mI G).map (mkE (Value.int .i64))).toArray c):=by rw [hs.heap]; exact h3
 refine Eff.value (v:=.pointer (some ⟨w1.heap.size,0,none⟩)) (w':=w1.alloc (.mapIter (some r.1) c #[] c)) ?_ ⟨w.alloc (.mapIter (some r.1) c #[] c),hs.push _,?_⟩
 ·simp [execOp,Instr.range,ha x _ h1,run_underlying hT,getObj_run (P:=P) h3']
 ·rw [hs.heap]
  refine hK _ (E++[(w.heap.size,0,0)]) _ _ _ ⟨rfl,rfl⟩ (Ext.push E _) (hR.push1 (Fr.alloc _ w _) rfl (alloc_size _ _) (fun _ h=>h) ⟨rfl,some r.1,?_,r,Ext.push E _ b r h2,rfl⟩) ⟨_,rfl,rfl,_,hR.last _,by simp⟩
  show (w.heap.push _)[w.heap.size]?=_
  simp
theorem EW.inext {o:Oper} {it:Operand} {b q c:Nat} {seen:List Nat} {G:IMap} (ho:o.op=.next it false) (hit:lv l it=some (.pointer (some ⟨b,0,none⟩))) (hb:L[b]?=some (.iter (some q) c seen c)) (hq:L[q]?=some (.imap G c)) :
  EW P n0 L l (.raw o) (fun v K=>(∃ e∈G,e.2.2∉seen∧v=.tuple ⟨[.bool true,.int .i64 e.1,.int .i64 e.2.1]⟩∧K=L.set b (.iter (some q) c (seen++[e.2.2]) c))∨((∀ e∈G,e.2.2∈seen)∧v=.tuple ⟨[.bool false]⟩∧K=L)):=by
 intro X w0 E0 w E l' Kf h0 hE hR hl hK
 obtain ⟨_,h1,a',rfl,_,r,h3,rfl⟩:=lv_ev hl hit
 have h3:E[b]?=some r:=h3
 obtain ⟨hr0,m',h5,q',h6,rfl⟩:=hR.blk b _ r hb h3
 obtain ⟨r1,r2⟩:=r
 simp only at hr0 h5
 subst hr0
 obtain ⟨h7,h8⟩:=hR.blk q _ q' hq h6
 have hG:=GOk.of h8
 obtain ⟨d,op,ty,pos,af,g⟩:=o
 simp only at ho
 subst ho
 have hmem:∀ e∈(mI G).map (mkE (Value.int .i64)),∃ y∈G,e=⟨.int .i64 y.1,.int .i64 y.2.1,y.2.2⟩:=fun e he=>by
  obtain ⟨z,hz,rfl⟩:=List.mem_map.1 he
  obtain ⟨y,hy,rfl⟩:=List.mem_map.1 hz
  exact ⟨y,hy,rfl⟩
 have hlt:∀ e∈(mI G).map (mkE (Value.int .i64)),e.born<c:=fun e he=>by
  obtain ⟨y,hy,rfl⟩:=hmem e he
  exact hG.lt y hy
 intro ρ w1 ha hs
 have h5':=h5
 rw [← hs.heap] at h5'
 have h7':w1.heap[q'.1]?=some (.map ((mI G).map (mkE (Value.int .i64))).toArray c):=by rw [hs.heap]; exact h7
 have hlb:=(Array.getElem?_eq_some_iff.1 h5).1
 rcases next_runM (P:=P) (ty:=ty) h5' h7' hlt with ⟨h9,hrun⟩ | ⟨e,he,hns,w2,hw2,hrun⟩
 ·refine Eff.value (v:=.tuple #[.bool false]) (w':=w1) ?_ ⟨w,hs,hK w E _ _ _ (.inr ⟨fun x hx=>?_,rfl,rfl⟩) (Ext.refl E) hR ⟨[.bool false],rfl,rfl,trivial⟩⟩
  ·simp only [execOp,ha it _ h1,Sem.run_bind]
   rw [show (0+0)=0 from rfl,hrun]; rfl
  ·exact h9 ⟨.int .i64 x.1,.int .i64 x.2.1,x.2.2⟩ (List.mem_map.2 ⟨(x.1,.int .i64 x.2.1,x.2.2),List.mem_map.2 ⟨x,hx,rfl⟩,rfl⟩)
 ·obtain ⟨y,hy,rfl⟩:=hmem e he
  have hsim:Sim w2 w:=by
   rcases hw2 with rfl | rfl
   ·exact hs
   ·exact ⟨hs.heap,hs.tape,hs.os,hs.output⟩
  refine Eff.value (v:=.tuple #[.bool true,.int .i64 y.1,.int .i64 y.2.1]) ?_ ⟨_,hsim.setObj r1 (.mapIter (some q'.1) c (seen++[y.2.2]).toArray c),?_⟩
  ·simp only [execOp,ha it _ h1,Sem.run_bind]
   rw [show (0+0)=0 from rfl,hrun]; rfl
  ·refine hK _ E _ _ _ (.inl ⟨y,hy,hns,rfl,rfl⟩) (Ext.refl E) (hR.upd hb h3 (Fr.setObj w r1 _) ⟨rfl,some q'.1,?_,q',h6,rfl⟩ (fun _ h=>.inl h)) ⟨[.bool true,.int .i64 y.1,.int .i64 y.2.1],rfl,rfl,rfl,rfl,trivial⟩
   simp [hlb]
/-- the entry that came last -/
theorem EW.ientry {o:Oper} {it:Operand} {b q c:Nat} {seen:List Nat} {G:IMap} {e:Int × Int × Nat} (ho:o.op=.entry it) (hit:lv l it=some (.pointer (some ⟨b,0,none⟩))) (hb:L[b]?=some (.iter (some q) c (seen++[e.2.2]) c)) (hq:L[q]?=some (.imap G c)) (he:e∈G) :
  EW P n0 L l (.raw o) (fun v K=>v=.tuple ⟨[.int .i64 e.1,.int .i64 e.2.1]⟩∧K=L):=by
 intro X w0 E0 w E l' Kf h0 hE hR hl hK
 obtain ⟨_,h1,a',rfl,_,r,h3,rfl⟩:=lv_ev hl hit
 have h3:E[b]?=some r:=h3
 obtain ⟨hr0,m',h5,q',h6,rfl⟩:=hR.blk b _ r hb h3
 obtain ⟨r1,r2⟩:=r
 simp only at hr0 h5
 subst hr0
 obtain ⟨h7,h8⟩:=hR.blk q _ q' hq h6
 have hG:=GOk.of h8
 obtain ⟨d,op,ty,pos,af,g⟩:=o
 simp only at ho
 subst ho
 intro ρ w1 ha hs
 have h5':=h5
 rw [← hs.heap] at h5'
 have h7':w1.heap[q'.1]?=some (.map ((mI G).map (mkE (Value.int .i64))).toArray c):=by rw [hs.heap]; exact h7
 have hg1:=getObjI_run (P:=P) h5' (fun _ _ _ h=>by cases h)
 have hg2:=getObjI_run (P:=P) h7' (fun _ _ _ h=>by cases h)
 have hbk:(seen++[e.2.2]).toArray.back?=some e.2.2:=by rw [List.back?_toArray,List.getLast?_append,List.getLast?_singleton]; rfl
 have hfd:((mI G).map (mkE (Value.int .i64))).toArray.find? (fun x=>x.born == e.2.2)=some ⟨.int .i64 e.1,.int .i64 e.2.1,e.2.2⟩:=by
  rw [List.find?_toArray]
  have hbn:=hG.borns
  clear hG h7 h7' h8 hg2 hq h5 h5' hg1 hb hbk
  induction G with
  | nil=>cases he
  | cons a t ih =>
   simp only [List.map_cons,List.nodup_cons] at hbn
   simp only [mI,List.map_cons,List.find?_cons,mkE]
   rcases List.mem_cons.1 he with rfl | he
   ·simp
   ·have hne:(a.2.2 == e.2.2)=false:=by
     rw [beq_eq_false_iff_ne]
     intro q; exact hbn.1 (q ▸ List.mem_map_of_mem he)
    rw [hne]
    exact ih he hbn.2
 refine Eff.value (v:=.tuple #[.int .i64 e.1,.int .i64 e.2.1]) (w':=w1) ?_ ⟨w,hs,hK w E _ _ _ ⟨rfl,rfl⟩ (Ext.refl E) hR ⟨_,rfl,rfl,rfl,trivial⟩⟩
 simp [execOp,ha it _ h1,Instr.entry,hg1,hg2,hbk,hfd]
/-- a truth that is known -/
theorem QY.tt {q:QOp} {t u:Bool} (h:QY P n0 L l q (.bool t)) (e:t=u):QY P n0 L l q (.bool u):=by rwa [e] at h
end
end Go.Tum
end
section
/-
 The logic over named blocks: math/bits' table,read in one go.
-/
namespace Go.Tum
open Go

section
variable {P:Program} {n0:NA} {l:Env} {L:LH} {K:Env→LH→Prop} {T:Taken} {r:List Step}
/-- .. its place is no block's: what is read there is known,the place itself is not -/
theorem S_tab {k1 k2 d1 d2 gl j:Nat} {i:Operand} {kd:IntKind} {y:Int} (hg:tabG P=some gl) (hi:lv l i=some (.int kd (j:Int))) (hj:j<64) (hy:tabTz[j]?=some y) (hd:eget l d1=none)
  (h:LSt P n0 r K ((d2,.int .u8 y)::l) ((k2,.ld (.tmp d1),[],.int .u8 y)::T) L):LSt P n0 (.q k1 (some d1) none (.idxa (.global gl) i 64 1) false::.q k2 (some d2) none (.ld (.tmp d1)) true::r) K l T L:=by
 refine ⟨fun X w0 E0 w E l' F h0 hE hR hl hT=>?_⟩
 obtain ⟨h1,h2,h3⟩:=h0.2.2 gl hg
 obtain ⟨_,g5,rfl⟩:=lv_ev hl hi
 have hc:w.cell? ⟨gl,j,none⟩=some (.int .u8 y):=by rw [← h1 j y hy]; simp only [World.cell?,hR.fr.keep _ h3 h2]
 have hl1:ER E l ((d1,.pointer (some ⟨gl,j,none⟩))::l'):=by
  intro t v ht
  obtain ⟨v',e1,e2⟩:=hl t v ht
  refine ⟨v',?_,e2⟩
  rw [eget_cons,if_neg (fun e=>by subst e; rw [hd] at ht; cases ht)]
  exact e1
 simp only [stepsWp,gcase]
 refine ⟨.pointer (some ⟨gl,j,none⟩),⟨_,kd,(j:Int),rfl,g5,by omega,by omega,by simp [Addr.add]⟩,?_⟩
 refine ⟨.int .u8 y,⟨_,by simp [ev,dpush,eget],hc⟩,?_⟩
 exact h.go X w0 E0 w E _ _ h0 hE hR (hl1.cons d2 (VR.still rfl)) ⟨rfl,⟨_,_,rfl,ER.nil _ _,VR.still rfl⟩,hT⟩
end
end Go.Tum
end
section
/-
 The logic over named blocks: regions whose order of effects is drawn (trees of orders).
-/
namespace Go.Tum
open Go

section
variable {P:Program} {n0:NA} {K:Env→LH→Prop} {l:Env} {L:LH} {T:Taken}
variable {k:Nat} {d:Option Nat} {g:Option (Nat × Bool)} {op:QOp} {eo:EOp} {rd:Bool} {r:PT} {pend:List Nat} {v:Value}

theorem P_done (h:K l L):LPt P n0 .done K l T L:=fun _ _ _ _ E _ _ _ hE hR hl _=>⟨E,l,L,hE,hR,hl,h⟩
theorem P_alt {a b:PT} (ha:LPt P n0 a K l T L) (hb:LPt P n0 b K l T L):LPt P n0 (.alt a b) K l T L :=
 fun X w0 E0 w E l' F h0 hE hR hl hT=>⟨ha X w0 E0 w E l' F h0 hE hR hl hT,hb X w0 E0 w E l' F h0 hE hR hl hT⟩
theorem P_q (hg:gw g l=some true) (hy:QY P n0 L l op v) (h:LPt P n0 r K (dpush d v l) (bif rd then (k,op,l,v)::T else T) L):LPt P n0 (.q k d g op rd r) K l T L:=by
 intro X w0 E0 w E l' F h0 hE hR hl hT
 simp only [ptWp]
 refine gw_ok hl hg (fun _=>?_) (fun e=>by cases e)
 obtain ⟨v',h1,h2⟩:=hy X w0 E0 w E l' h0 hE hR hl
 refine ⟨v',h1,?_⟩
 cases rd
 ·exact h X w0 E0 w E _ _ h0 hE hR (hl.dpush h2 d) hT
 ·exact h X w0 E0 w E _ _ h0 hE hR (hl.dpush h2 d) ⟨rfl,⟨l',v',rfl,hl,h2⟩,hT⟩
theorem P_e {R:Value→LH→Prop} (hg:gw g l=some true) (hw:EW P n0 L l eo R) (h:∀ v L',R v L'→chkP P n0 T L' pend∧LPt P n0 r K (dpush d v l) T L'):LPt P n0 (.e d g eo pend r) K l T L:=by
 intro X w0 E0 w E l' F h0 hE hR hl hT
 simp only [ptWp]
 refine gw_ok hl hg (fun _=>?_) (fun e=>by cases e)
 refine hw X w0 E0 w E l' _ h0 hE hR hl fun w' E' v' v L' hr h1 h2 h3=>?_
 obtain ⟨hc,hn⟩:=h v L' hr
 exact ⟨chkP_ok h0 (hE.trans h1) h2 (hT.ext h1) _ hc,hn X w0 E0 w' E' _ _ h0 (hE.trans h1) h2 ((hl.ext h1).dpush h3 d) (hT.ext h1)⟩
theorem P_qno (hg:gw g l=some false) (h:LPt P n0 r K (dpush d undef l) T L):LPt P n0 (.q k d g op rd r) K l T L:=by
 intro X w0 E0 w E l' F h0 hE hR hl hT
 simp only [ptWp]
 exact gw_ok hl hg (fun e=>by cases e) (fun _=>h X w0 E0 w E _ _ h0 hE hR (hl.dpush VR.undef d) hT)
theorem P_eno (hg:gw g l=some false) (h:LPt P n0 r K (dpush d undef l) T L):LPt P n0 (.e d g eo pend r) K l T L:=by
 intro X w0 E0 w E l' F h0 hE hR hl hT
 simp only [ptWp]
 exact gw_ok hl hg (fun e=>by cases e) (fun _=>h X w0 E0 w E _ _ h0 hE hR (hl.dpush VR.undef d) hT)
theorem P_ed {fr dr:List Nat} {R:Value→LH→Prop} (hg:gw g l=some true) (hw:EWd P n0 fr dr L l eo R) (hd:disj dr n0.keep=true) (hn:nmE dr l=true) (ht:nmT dr T=true) (h:∀ v L',R v L'→chkG P n0 fr T L L' pend∧LPt P n0 r K (dpush d v l) T L'):LPt P n0 (.e d g eo pend r) K l T L:=by
 intro X w0 E0 w E l' F h0 hE hR hl hT
 simp only [ptWp]
 refine gw_ok hl hg (fun _=>?_) (fun e=>by cases e)
 refine hw X w0 E0 w E l' _ h0 hE hR hl fun w' E' v' v L' hr h1 hL h2 h3=>?_
 obtain ⟨hc,hn'⟩:=h v L' hr
 have hE':n0.Ext E0 E':=fun k r hk hr=>h1 k r (disj_ok hd hk) (hE k r hk hr)
 exact ⟨chkG_ok h0 hE' hL h2 hT (hT.extD h1 ht) _ hc,hn' X w0 E0 w' E' _ _ h0 hE' h2 ((hl.extD h1 hn).dpush h3 d) (hT.extD h1 ht)⟩

/-- a tree without choices -/
def lin:PT→Option (List Step)
 | .done=>some []
 | .q k d g op rd r=>match lin r with
  | some s=>some (.q k d g op rd::s)
  | none=>none
 | .e d g op pend r=>match lin r with
  | some s=>some (.e d g op pend::s)
  | none=>none
 | .alt _ _=>none
theorem lin_wp:∀ {t:PT} {ss:List Step},lin t=some ss→∀ {K:Env→World→Prop} {l:Env} {F:Facts} {w:World},stepsWp P ss K l F w→ptWp P t K l F w
 | .done,ss,h,K,l,F,w,hs=>by cases h; exact hs
 | .q k d g op rd r,ss,h,K,l,F,w,hs=>by
  simp only [lin] at h
  split at h <;> first | (cases h; done) | skip
  rename_i s hr
  cases h
  simp only [ptWp,stepsWp] at hs ⊢
  exact gcase_mono (fun _ ⟨v,a,b⟩=>⟨v,a,lin_wp hr b⟩) (fun _ a=>lin_wp hr a) hs
 | .e d g op pend r,ss,h,K,l,F,w,hs=>by
  simp only [lin] at h
  split at h <;> first | (cases h; done) | skip
  rename_i s hr
  cases h
  simp only [ptWp,stepsWp] at hs ⊢
  exact gcase_mono (fun _ a=>EOp.W_mono (fun v w' ⟨b,c⟩=>⟨b,lin_wp hr c⟩) a) (fun _ a=>lin_wp hr a) hs
 | .alt _ _,ss,h,_,_,_,_,_=>by cases h
theorem P_lin {t:PT} {ss:List Step} (h:lin t=some ss) (hs:LSt P n0 ss K l T L):LPt P n0 t K l T L:=fun X w0 E0 w E l' F h0 hE hR hl hT=>lin_wp h (hs.go X w0 E0 w E l' F h0 hE hR hl hT)

def aprun (st:List Nat):PT→Env→Taken→LH→PT × Env × Taken × LH
 | .q k d g op rd r,l,T,L=>match gsafe st g l with
  | some true=>match qsafe st L l op with
   | some v=>match rd with
    | true=>aprun st r (dpush d v l) ((k,op,l,v)::T) L
    | false=>aprun st r (dpush d v l) T L
   | none=>(.q k d g op rd r,l,T,L)
  | some false=>aprun st r (dpush d undef l) T L
  | none=>(.q k d g op rd r,l,T,L)
 | .e d g op pend r,l,T,L=>match gsafe st g l with
  | some true=>match pend with
   | []=>match esafe L l op with
    | some (v,L')=>aprun st r (dpush d v l) T L'
    | none=>(.e d g op pend r,l,T,L)
   | _::_=>(.e d g op pend r,l,T,L)
  | some false=>aprun st r (dpush d undef l) T L
  | none=>(.e d g op pend r,l,T,L)
 | .done,l,T,L=>(.done,l,T,L)
 | .alt a b,l,T,L=>(.alt a b,l,T,L)
theorem aprun_ok (st:List Nat):∀ (t:PT) (l:Env) (T:Taken) (L:LH) {t1:PT} {l1:Env} {T1:Taken} {L1:LH},aprun st t l T L=(t1,l1,T1,L1)→LPt P n0 t1 K l1 T1 L1→LPt P n0 t K l T L
 | .done,l,T,L,_,_,_,_,h,k=>by cases h; exact k
 | .alt _ _,l,T,L,_,_,_,_,h,k=>by cases h; exact k
 | .q k d g op rd r,l,T,L,_,_,_,_,h,hk=>by
  simp only [aprun] at h
  split at h
  ·rename_i hg
   split at h
   ·rename_i v hv
    split at h
    ·exact P_q (gsafe_ok hg) (qsafe_ok hv) (aprun_ok st r _ _ L h hk)
    ·exact P_q (gsafe_ok hg) (qsafe_ok hv) (aprun_ok st r _ _ L h hk)
   ·cases h; exact hk
  ·rename_i hg; exact P_qno (gsafe_ok hg) (aprun_ok st r _ _ L h hk)
  ·cases h; exact hk
 | .e d g op pend r,l,T,L,_,_,_,_,h,hk=>by
  simp only [aprun] at h
  split at h
  ·rename_i hg
   split at h
   ·split at h
    ·rename_i v L' hv
     exact P_e (gsafe_ok hg) (esafe_ok hv) fun v L' ⟨e1,e2⟩=>by subst e1; subst e2; exact ⟨trivial,aprun_ok st r _ _ _ h hk⟩
    ·cases h; exact hk
   ·cases h; exact hk
  ·rename_i hg; exact P_eno (gsafe_ok hg) (aprun_ok st r _ _ L h hk)
  ·cases h; exact hk
variable {t:PT} {l1:Env} {T1:Taken} {L1:LH} {a b:PT}
theorem P_A (st:List Nat) (h:aprun st t l T L=(.alt a b,l1,T1,L1)) (ha:LPt P n0 a K l1 T1 L1) (hb:LPt P n0 b K l1 T1 L1):LPt P n0 t K l T L:=aprun_ok st t l T L h (P_alt ha hb)
theorem P_Q (st:List Nat) (h:aprun st t l T L=(.q k d g op rd r,l1,T1,L1)) (hg:gw g l1=some true) (hy:QY P n0 L1 l1 op v) (hn:LPt P n0 r K (dpush d v l1) (bif rd then (k,op,l1,v)::T1 else T1) L1):LPt P n0 t K l T L :=
 aprun_ok st t l T L h (P_q hg hy hn)
theorem P_E (st:List Nat) {R:Value→LH→Prop} (h:aprun st t l T L=(.e d g eo pend r,l1,T1,L1)) (hg:gw g l1=some true) (hw:EW P n0 L1 l1 eo R) (hn:∀ v L',R v L'→chkP P n0 T1 L' pend∧LPt P n0 r K (dpush d v l1) T1 L'):LPt P n0 t K l T L :=
 aprun_ok st t l T L h (P_e hg hw hn)
theorem P_Ed (st:List Nat) {fr dr:List Nat} {R:Value→LH→Prop} (h:aprun st t l T L=(.e d g eo pend r,l1,T1,L1)) (hg:gw g l1=some true) (hw:EWd P n0 fr dr L1 l1 eo R) (hd:disj dr n0.keep=true) (hn:nmE dr l1=true) (ht:nmT dr T1=true) (hk:∀ v L',R v L'→chkG P n0 fr T1 L1 L' pend∧LPt P n0 r K (dpush d v l1) T1 L'):LPt P n0 t K l T L :=
 aprun_ok st t l T L h (P_ed hg hw hd hn ht hk)
theorem LPt.nf (h:nE l fun l=>nL L fun L=>LPt P n0 t K l T L):LPt P n0 t K l T L:=by rw [nE_eq,nL_eq] at h; exact h
end
end Go.Tum
end
section
/-
 The logic over named blocks: words by division; a second name for a row's place.
-/
namespace Go.Tum
open Go

theorem quo_shift (a:BitVec 64) (j:Nat) (hj:j<64):IntKind.u64.wrap ((a.toNat:Int).tdiv ((2 ^ j:Nat):Int))=((a >>> j).toNat:Int):=by
 rw [BitVec.toNat_ushiftRight,Nat.shiftRight_eq_div_pow,Int.tdiv_eq_ediv_of_nonneg (by omega),← Int.natCast_ediv,IntKind.wrap_u64]
 have:=a.isLt
 have h1:a.toNat / 2 ^ j≤a.toNat:=Nat.div_le_self _ _
 generalize a.toNat / 2 ^ j=q at *
 omega
theorem rem_byte (a:BitVec 64):IntKind.u8.wrap ((a.toNat:Int).tmod 256)=((a.setWidth 8).toNat:Int):=by
 rw [BitVec.toNat_setWidth,Int.tmod_eq_emod_of_nonneg (by omega),IntKind.wrap_u8]
 omega
section
variable {P:Program} {n0:NA} {l:Env} {L:LH} {x y:Operand}
/-- / by a power of 2 -/
theorem QY.quoW {a:BitVec 64} {m:Int} (j:Nat) (hx:lv l x=some (.int .u64 (a.toNat:Int))) (hy:lv l y=some (.int .u64 m)) (hm:m=((2 ^ j:Nat):Int)) (hj:j<64):QY P n0 L l (.bin .quo x y) (.int .u64 ((a >>> j).toNat:Int)):=by
 refine QY.arith hx hy ?_ rfl
 have h2:=Nat.two_pow_pos j
 simp only [ibin]
 rw [if_neg (by omega),hm,quo_shift a j hj]
theorem QY.rem256 {a:BitVec 64} (hx:lv l x=some (.int .u64 (a.toNat:Int))) (hy:lv l y=some (.int .u64 256)):QY P n0 L l (.bin .rem x y) (.int .u64 ((a.toNat:Int).tmod 256)):=by
 refine QY.arith hx hy ?_ rfl
 simp only [ibin]
 rw [if_neg (by decide)]

/-- a cell that holds a row: the row's place under a second name,of which nothing is known -/
theorem LWp.alias {Q:Exit→Env→LH→Prop} {m:MC} {b o sz0 q n c:Nat} {vs:List Value} (hb:L[b]?=some (.cells sz0 vs)) (hv:vs[o]?=some (.slice (some ⟨q,0,none⟩) n c)) (hq:q<L.length) (h:LWp P n0 m Q l (L.set b (.cells sz0 (vs.set o (.slice (some ⟨L.length,0,none⟩) n c)))++[.dead])):LWp P n0 m Q l L:=by
 refine ⟨fun X w0 E0 w E l' h0 hE hR hl=>?_⟩
 obtain ⟨rq,hrq⟩:∃ rq,E[q]?=some rq:=⟨_,List.getElem?_eq_getElem (by rw [hR.len]; exact hq)⟩
 refine h.go X w0 E0 w (E++[rq]) l' h0 (hE.trans (Ext.push E _)) ?_ (hl.ext (Ext.push E _))
 obtain ⟨r,hr⟩:=hR.ent hb
 have h1:Rep X w0 (E++[rq]) (L++[.dead]) w:=hR.push (Fr.refl _ w) (fun _ h=>h.elim) trivial
 have hblt:=(List.getElem?_eq_some_iff.1 hb).1
 have hb':(L++[LB.dead])[b]?=some (.cells sz0 vs):=by rw [List.getElem?_append_left hblt]; exact hb
 have hr':(E++[rq])[b]?=some r:=Ext.push E _ b r hr
 obtain ⟨cs,hB,hl2,hroom,hz⟩:=h1.blk b _ r hb' hr'
 have h2:=h1.upd (x:=.cells sz0 (vs.set o (.slice (some ⟨L.length,0,none⟩) n c))) hb' hr' (Fr.refl _ w) ⟨cs,hB,?_,by simpa using hroom,hz⟩ (fun _ h=>.inl h)
 ·rw [List.set_append_left _ _ hblt] at h2; exact h2
 ·rw [List.length_set]
  obtain ⟨v',g1,g2⟩:=hl2.get hv
  have hlast:(E++[rq])[L.length]?=some rq:=by rw [← hR.len]; simp
  have hold:(E++[rq])[q]?=some rq:=Ext.push E _ q rq hrq
  have hset:((cs.drop r.2.1).take vs.length)=((cs.drop r.2.1).take vs.length).set o v':=by
   apply List.ext_getElem?
   intro i
   rw [List.getElem?_set]
   split
   ·rename_i e; subst e
    rw [if_pos (List.getElem?_eq_some_iff.1 g1).1]; exact g1
   ·rfl
  rw [hset]
  refine hl2.set o ?_
  obtain ⟨e1,rr,e2,e3⟩:=g2
  have:rr=rq:=by have:=e2.symm.trans hold; simpa using this
  subst this
  exact ⟨e1,rr,hlast,e3⟩
end
end Go.Tum
end
section
/-
 The steps of a walk,each by one short name: what is but looking is found by itself.
-/
namespace Go.Tum
open Go
/-! ### what is behind a call,block by block -/
def jfind:List Nat→LH→Nat→LB→LB
 | j::φ,x::xs,k,d=>match Nat.beq j k with
  | true=>x
  | false=>jfind φ xs k d
 | _,_,_,d=>d
def jgo (φ:List Nat) (xs:LH):Nat→LH→LH
 | _,[]=>[]
 | i,y::r=>jfind φ xs i y::jgo φ xs (i+1) r
theorem jgo_get (φ:List Nat) (xs:LH):∀ (M:LH) (i k:Nat),(jgo φ xs i M)[k]?=(M[k]?).map (jfind φ xs (i+k))
 | [],i,k=>by simp [jgo]
 | y::r,i,0=>by simp [jgo]
 | y::r,i,k+1=>by
  rw [jgo,List.getElem?_cons_succ,List.getElem?_cons_succ,jgo_get φ xs r (i+1) k,show i+1+k=i+(k+1) by omega]
theorem jfind_no:∀ (φ:List Nat) (xs:LH) (k:Nat) (d:LB),k∉φ→jfind φ xs k d=d
 | [],_,_,_,_=>rfl
 | _::_,[],_,_,_=>rfl
 | j::φ,x::xs,k,d,h=>by
  simp only [List.mem_cons,not_or] at h
  have:Nat.beq j k=false:=by
   cases hb:Nat.beq j k
   ·rfl
   ·exact absurd (Nat.eq_of_beq_eq_true hb).symm h.1
  rw [jfind,this]
  exact jfind_no φ xs k d h.2
theorem jset_get:∀ (φ:List Nat) (M xs:LH) (k:Nat),φ.Nodup→(jset M φ xs)[k]?=(M[k]?).map (jfind φ xs k)
 | [],M,xs,k,_=>by simp only [jset]; cases M[k]? <;> rfl
 | j::φ,M,[],k,_=>by simp only [jset]; cases M[k]? <;> rfl
 | j::φ,M,x::xs,k,hn=>by
  have hn:=List.nodup_cons.1 hn
  rw [jset,jset_get φ (M.set j x) xs k hn.2,List.getElem?_set]
  by_cases e:j=k
  ·subst e
   rw [if_pos rfl]
   have h1:∀ d,jfind (j::φ) (x::xs) j d=x:=fun d=>by rw [jfind,Nat.beq_refl]
   by_cases hl:j<M.length
   ·rw [if_pos hl,List.getElem?_eq_getElem hl,Option.map_some,Option.map_some,h1,jfind_no φ xs j x hn.1]
   ·rw [if_neg hl,List.getElem?_eq_none (by omega)]; rfl
  ·rw [if_neg e]
   have:Nat.beq j k=false:=by
    cases hb:Nat.beq j k
    ·rfl
    ·exact absurd (Nat.eq_of_beq_eq_true hb) e
   have h1:jfind (j::φ) (x::xs) k=jfind φ xs k:=by funext d; rw [jfind,this]
   rw [h1]
def joinQ (φ:List Nat) (M L1:LH):LH :=
 jgo φ ((L1.take φ.length).map (rnB (M.length+L1.length) (phi2 φ M.length L1))) 0 M++(L1.drop φ.length).map (rnB (M.length+L1.length) (phi2 φ M.length L1))
theorem joinQ_eq {φ:List Nat} {M L1:LH} (h:φ.Nodup):joinL φ M L1=joinQ φ M L1:=by
 unfold joinL joinQ
 congr 1
 apply List.ext_getElem?
 intro k
 rw [jset_get _ _ _ _ h,jgo_get,Nat.zero_add]
section
variable {P:Program} {n0:NA} {Q:Exit→Env→LH→Prop} {K:Env→LH→Prop} {l l1:Env} {L L1 L2 K2 Lc:LH} {T T1:Taken} {k:Nat} {d:Option Nat} {g:Option (Nat × Bool)} {rd:Bool} {r ss ss1:List Step} {x y:Operand} {b:MC} {op:QOp} {eo:EOp} {pend:List Nat} {v v1 v2:Value}

theorem dN (hn:LWp P n0 b Q l1 L1) (h:arun [] ss l T L=([],l1,T1,L1):=by exact rfl) (hQ:Nx n0 (LWp P n0 b Q) l1 L1→K l1 L1:=by exact fun h=>h):LSt P n0 ss K l T L:=S_done [] h (hQ (Nx.goL hn))
theorem dR {res:List RV} {R:Value→LH→Prop} {us:List Value} (hr:R v L2) (h:arun [] ss l T L=([],l1,T1,L1):=by exact rfl) (hQ:RetQ n0 res R .normal l1 L1→K l1 L1:=by exact fun h=>h) (h1:lres l1 L1 res=some us:=by exact rfl) (h2:(n0.keep.all fun k=>Nat.blt k n0.n)=true:=by exact rfl) (h3:letGoV (seqN 0 n0.n) L1 (lret us)=some v:=by exact rfl) (h4:letGo (seqN 0 n0.n) L1=some L2:=by exact rfl):LSt P n0 ss K l T L:=S_done [] h (hQ (RetQ.keepN h1 h2 h3 h4 hr))
theorem d0 (hn:K l1 L1) (h:arun [] ss l T L=([],l1,T1,L1):=by exact rfl):LSt P n0 ss K l T L:=S_done [] h hn
theorem rT {res:List RV} {R:Value→LH→Prop} {us:List Value} (hr:R v L2) (hQ:RetQ n0 res R .ret l L→Q .ret l L:=by exact fun h=>h) (h1:lres l L res=some us:=by exact rfl) (h2:(n0.keep.all fun k=>Nat.blt k n0.n)=true:=by exact rfl) (h3:letGoV (seqN 0 n0.n) L (lret us)=some v:=by exact rfl) (h4:letGo (seqN 0 n0.n) L=some L2:=by exact rfl):LWp P n0 .ret Q l L:=L_ret (hQ (RetQ.keep h1 h2 h3 h4 hr))
theorem iF {c:Operand} {x y:MC} {t:Bool} {p:Prop} (ht:p→LWp P n0 x Q (knows c true l) L) (hf:¬ p→LWp P n0 y Q (knows c false l) L) (hc:lv l c=some (.bool t):=by exact rfl)
  (hp:t=true↔p:=by first|exact bD|exact bE|exact bN|exact bNB|exact bEB|exact bNot bD|exact bNot bE|exact bNot bN):LWp P n0 (.cond c x y) Q l L:=L_ifp hc hp ht hf
theorem sP (s:Nat) {t:Bool} {p:Prop} (ht:p→LSt P n0 ss1 K ((s,.bool true)::l1) T1 L1) (hf:¬ p→LSt P n0 ss1 K ((s,.bool false)::l1) T1 L1) (h0:arun [s] ss l T L=(ss1,l1,T1,L1):=by exact rfl) (hh:headGuard ss1=some s:=by exact rfl) (hb:eget l1 s=some (.bool t):=by exact rfl)
  (hp:t=true↔p:=by first|exact bD|exact bE|exact bN|exact bNB|exact bEB|exact bNot bD|exact bNot bE|exact bNot bN):LSt P n0 ss K l T L:=S_splitp s h0 hh hb hp ht hf

theorem aX {i:Operand} {b n c j sz:Nat} {kd:IntKind} (hn:LSt P n0 r K (dpush d (.pointer (some ⟨b,j*sz,none⟩)) l1) (bif rd then (k,.idx x i sz,l1,.pointer (some ⟨b,j*sz,none⟩))::T1 else T1) L1) (h:arun [] ss l T L=(.q k d g (.idx x i sz) rd::r,l1,T1,L1):=by exact rfl) (hg:gw g l1=some true:=by exact rfl)
  (hx:lv l1 x=some (.slice (some ⟨b,0,none⟩) n c):=by exact rfl) (hi:lv l1 i=some (.int kd (j:Int)):=by exact rfl) (h1:j<n:=by omega):LSt P n0 ss K l T L:=S_Q [] h hg (QY.idxN hx hi h1) hn
theorem aA {a b:Int} (hn:LSt P n0 r K (dpush d (.int .i64 (a+b)) l1) (bif rd then (k,.bin .add x y,l1,.int .i64 (a+b))::T1 else T1) L1) (h:arun [] ss l T L=(.q k d g (.bin .add x y) rd::r,l1,T1,L1):=by exact rfl) (hg:gw g l1=some true:=by exact rfl)
  (hx:lv l1 x=some (.int .i64 a):=by exact rfl) (hy:lv l1 y=some (.int .i64 b):=by exact rfl) (h0 : -9223372036854775808≤a+b:=by omega) (h1:a+b≤9223372036854775807:=by omega):LSt P n0 ss K l T L:=S_Q [] h hg (QY.add hx hy rfl h0 h1) hn
theorem aS {a b:Int} (hn:LSt P n0 r K (dpush d (.int .i64 (a-b)) l1) (bif rd then (k,.bin .sub x y,l1,.int .i64 (a-b))::T1 else T1) L1) (h:arun [] ss l T L=(.q k d g (.bin .sub x y) rd::r,l1,T1,L1):=by exact rfl) (hg:gw g l1=some true:=by exact rfl)
  (hx:lv l1 x=some (.int .i64 a):=by exact rfl) (hy:lv l1 y=some (.int .i64 b):=by exact rfl) (h0 : -9223372036854775808≤a-b:=by omega) (h1:a-b≤9223372036854775807:=by omega):LSt P n0 ss K l T L:=S_Q [] h hg (QY.sub hx hy rfl h0 h1) hn
theorem aM {a b:Int} (hn:LSt P n0 r K (dpush d (.int .i64 (a*b)) l1) (bif rd then (k,.bin .mul x y,l1,.int .i64 (a*b))::T1 else T1) L1) (h:arun [] ss l T L=(.q k d g (.bin .mul x y) rd::r,l1,T1,L1):=by exact rfl) (hg:gw g l1=some true:=by exact rfl)
  (hx:lv l1 x=some (.int .i64 a):=by exact rfl) (hy:lv l1 y=some (.int .i64 b):=by exact rfl) (h0 : -9223372036854775808≤a*b:=by omega) (h1:a*b≤9223372036854775807:=by omega):LSt P n0 ss K l T L:=S_Q [] h hg (QY.mul hx hy rfl h0 h1) hn
theorem aD {a b:Int} (hn:LSt P n0 r K (dpush d (.int .i64 (a / b)) l1) (bif rd then (k,.bin .quo x y,l1,.int .i64 (a / b))::T1 else T1) L1) (h:arun [] ss l T L=(.q k d g (.bin .quo x y) rd::r,l1,T1,L1):=by exact rfl) (hg:gw g l1=some true:=by exact rfl)
  (hx:lv l1 x=some (.int .i64 a):=by exact rfl) (hy:lv l1 y=some (.int .i64 b):=by exact rfl) (h0:0≤a∧a≤9223372036854775807:=by omega) (h1:0<b:=by omega):LSt P n0 ss K l T L:=S_Q [] h hg (QY.divN hx hy rfl h0 h1) hn
theorem aR {a b:Int} (hn:LSt P n0 r K (dpush d (.int .i64 (a % b)) l1) (bif rd then (k,.bin .rem x y,l1,.int .i64 (a % b))::T1 else T1) L1) (h:arun [] ss l T L=(.q k d g (.bin .rem x y) rd::r,l1,T1,L1):=by exact rfl) (hg:gw g l1=some true:=by exact rfl)
  (hx:lv l1 x=some (.int .i64 a):=by exact rfl) (hy:lv l1 y=some (.int .i64 b):=by exact rfl) (h0:0≤a:=by omega) (h1:0<b:=by omega):LSt P n0 ss K l T L:=S_Q [] h hg (QY.remN hx hy rfl h0 h1) hn
theorem aK {a:Int} {m:Nat} (hn:LSt P n0 r K (dpush d (.int .i64 (a % ((m:Int)+1))) l1) (bif rd then (k,.bin .and x y,l1,.int .i64 (a % ((m:Int)+1)))::T1 else T1) L1) (h:arun [] ss l T L=(.q k d g (.bin .and x y) rd::r,l1,T1,L1):=by exact rfl) (hg:gw g l1=some true:=by exact rfl)
  (hx:lv l1 x=some (.int .i64 a):=by exact rfl) (hy:lv l1 y=some (.int .i64 (m:Int)):=by exact rfl) (h0:2 ^ (m+1).log2=m+1∧(m+1).log2<63:=by decide):LSt P n0 ss K l T L:=S_Q [] h hg (QY.mask hx hy h0 rfl) hn
theorem aI {b j:Nat} {xs:List Int} (h:arun [] ss l T L=(.q k d g (.ld x) rd::r,l1,T1,L1):=by exact rfl) (hg:gw g l1=some true:=by exact rfl)
  (hx:lv l1 x=some (.pointer (some ⟨b,j*1,none⟩)):=by exact rfl) (hb:L1[b]?=some (.gro 1 (rowsC intC xs)):=by exact rfl) (hk:j<xs.length:=by omega)
  (hn:LSt P n0 r K (dpush d (.int .i64 xs[j]) l1) (bif rd then (k,.ld x,l1,.int .i64 xs[j])::T1 else T1) L1):LSt P n0 ss K l T L:=S_Q [] h hg (QY.ldI hx hb (List.getElem?_eq_getElem hk)) hn

/-- a call whose answer is told,and nothing changes -/
theorem cP {f:FuncId} {args:List Operand} {vs us:List Value} (φ:List Nat) (ht:Tr P f us Lc (fun v K=>v=v1∧K=Lc)) (hn:LSt P n0 r K (dpush d v1 l1) T1 L1) (h:arun [] ss l T L=(.e d g (.call f args) pend::r,l1,T1,L1):=by exact rfl) (hg:gw g l1=some true:=by exact rfl)
  (hv:lvs l1 args=some vs:=by exact rfl) (he:us.map (rnV L1.length φ)=vs:=by exact rfl) (h1:φ.Nodup:=by decide) (h2:partL L1 φ φ Lc:=by repeat' (first|exact trivial|refine ⟨rfl,?_⟩ | fail)) (h3:closedL Lc=true:=by exact rfl) (h4:stillT v1=true:=by exact rfl)
  (hc:chkG P n0 φ T1 L1 L1 pend:=by repeat' (first|exact trivial|refine ⟨⟨qsafe_ok (st:=[]) rfl,Sure.of rfl⟩,?_⟩|refine ⟨.inl rfl,?_⟩|refine ⟨.inr ⟨qsafe_ok (st:=[]) rfl,Sure.of rfl⟩,?_⟩|refine ⟨⟨qsafe_ok (st:=[]) rfl,Sure.slice (by omega)⟩,?_⟩|refine ⟨.inr ⟨qsafe_ok (st:=[]) rfl,Sure.slice (by omega)⟩,?_⟩|refine ⟨.inr ⟨QY.neqB rfl (by kernel_rfl) rfl rfl,Sure.of rfl⟩,?_⟩|refine ⟨.inr ⟨QY.eqlB rfl (by kernel_rfl) rfl rfl,Sure.of rfl⟩,?_⟩ | fail)):LSt P n0 ss K l T L :=
 S_Ed [] h hg (EWd.callP φ ht hv he h1 h2 h3 h4) (disj_nil _) (nm_nilE _) (nm_nilT _) (by rintro _ _ ⟨rfl,rfl⟩; exact ⟨hc,hn⟩)
/-- a call whose answer is told: all names stay,blocks may come new -/
theorem cF {f:FuncId} {args:List Operand} {vs us:List Value} (φ:List Nat) (ht:Tr P f us Lc (fun v K=>v=v1∧K=L2)) (hn:nE (dpush d v2 l1) fun l=>nL K2 fun L=>LSt P n0 r K l T1 L) (h:arun [] ss l T L=(.e d g (.call f args) pend::r,l1,T1,L1):=by exact rfl) (hg:gw g l1=some true:=by exact rfl)
  (hv:lvs l1 args=some vs:=by exact rfl) (he:us.map (rnV L1.length φ)=vs:=by exact rfl) (h1:φ.Nodup:=by decide) (h2:partL L1 φ φ Lc:=by repeat' (first|exact trivial|refine ⟨rfl,?_⟩ | fail)) (h3:rnV (L1.length+L2.length) (phi2 φ L1.length L2) v1=v2:=by exact rfl) (h4:joinQ φ L1 L2=K2:=by exact rfl)
  (hc:chkP P n0 T1 K2 pend:=by repeat' (first|exact trivial|refine ⟨⟨qsafe_ok (st:=[]) rfl,Sure.of rfl⟩,?_⟩|refine ⟨⟨qsafe_ok (st:=[]) rfl,Sure.slice (by omega)⟩,?_⟩|refine ⟨⟨QY.neqB rfl (by kernel_rfl) rfl rfl,Sure.of rfl⟩,?_⟩|refine ⟨⟨QY.eqlB rfl (by kernel_rfl) rfl rfl,Sure.of rfl⟩,?_⟩ | fail)):LSt P n0 ss K l T L :=
 S_E [] h hg (EW.callF φ ht hv he h1 h2 h3 ((joinQ_eq h1).trans h4)) (by rintro _ _ ⟨rfl,rfl⟩; exact ⟨hc,LSt.nf hn⟩)
/-- a call whose answer is told: just the names in keep stay -/
theorem cW {keep:List Nat} {f:FuncId} {args:List Operand} {vs us:List Value} (φ:List Nat) (ht:TrK P [] keep f us Lc (fun v K=>v=v1∧K=L2)) (hn:nE (dpush d v2 l1) fun l=>nL K2 fun L=>LSt P n0 r K l T1 L) (h:arun [] ss l T L=(.e d g (.call f args) pend::r,l1,T1,L1):=by exact rfl) (hg:gw g l1=some true:=by exact rfl)
  (hv:lvs l1 args=some vs:=by exact rfl) (he:us.map (rnV L1.length φ)=vs:=by exact rfl) (h1:φ.Nodup:=by decide) (h2:partL L1 φ φ Lc:=by repeat' (first|exact trivial|refine ⟨rfl,?_⟩ | fail)) (hm:nmL (dropped keep 0 φ) φ 0 L1=true:=by kernel_rfl) (h3:rnV (L1.length+L2.length) (phi2 φ L1.length L2) v1=v2:=by exact rfl) (h4:joinQ φ L1 L2=K2:=by exact rfl)
  (h5:disj (dropped keep 0 φ) n0.keep=true:=by kernel_rfl) (h6:nmE (dropped keep 0 φ) l1=true:=by kernel_rfl) (h7:nmT (dropped keep 0 φ) T1=true:=by kernel_rfl)
  (hc:chkG P n0 φ T1 L1 K2 pend:=by repeat' (first|exact trivial|refine ⟨.inl rfl,?_⟩|refine ⟨.inr ⟨qsafe_ok (st:=[]) rfl,Sure.of rfl⟩,?_⟩|refine ⟨.inr ⟨qsafe_ok (st:=[]) rfl,Sure.slice (by omega)⟩,?_⟩|refine ⟨.inr ⟨QY.neqB rfl (by kernel_rfl) rfl rfl,Sure.of rfl⟩,?_⟩|refine ⟨.inr ⟨QY.eqlB rfl (by kernel_rfl) rfl rfl,Sure.of rfl⟩,?_⟩ | fail)):LSt P n0 ss K l T L :=
 S_Ed [] h hg (EWd.callF φ ht hv he h1 h2 hm h3 ((joinQ_eq h1).trans h4)) h5 h6 h7 (by rintro _ _ ⟨rfl,rfl⟩; exact ⟨hc,LSt.nf hn⟩)
/-- one effect that is told -/
theorem eE (h:arun [] ss l T L=(.e d g eo pend::r,l1,T1,L1)) (hg:gw g l1=some true) (hw:EW P n0 L1 l1 eo (fun u K=>u=v1∧K=L2)) (hn:nE (dpush d v1 l1) fun l=>nL L2 fun L=>LSt P n0 r K l T1 L)
  (hc:chkP P n0 T1 L2 pend:=by repeat' (first|exact trivial|refine ⟨⟨qsafe_ok (st:=[]) rfl,Sure.of rfl⟩,?_⟩|refine ⟨⟨qsafe_ok (st:=[]) rfl,Sure.slice (by omega)⟩,?_⟩|refine ⟨⟨QY.neqB rfl (by kernel_rfl) rfl rfl,Sure.of rfl⟩,?_⟩|refine ⟨⟨QY.eqlB rfl (by kernel_rfl) rfl rfl,Sure.of rfl⟩,?_⟩ | fail)):LSt P n0 ss K l T L :=
 S_E [] h hg hw (by rintro _ _ ⟨rfl,rfl⟩; exact ⟨hc,LSt.nf hn⟩)
theorem qS {a b:MC} (h:LWp P n0 a (thenL (Nx n0 (LWp P n0 b Q)) Q) l L):LWp P n0 (.seq a b) Q l L:=L_seq h
theorem qR {ss:List Step} (h:LSt P n0 ss (Q .normal) l [] L):LWp P n0 (.reg ss) Q l L:=L_reg h
theorem qB {id:Nat} {b:MC} (h:LWp P n0 b (blkL id Q) l L):LWp P n0 (.block id b) Q l L:=L_block h
theorem qN {ss:List Step} {b:MC} (h:LSt P n0 ss (Nx n0 (LWp P n0 b Q)) l [] L):LWp P n0 (.seq (.reg ss) b) Q l L:=L_rs h
theorem qK (h:Q .normal l L):LWp P n0 .skip Q l L:=L_skip h
theorem qE {id:Nat} (h:Q (.exit id) l L):LWp P n0 (.exit id) Q l L:=L_exit h
theorem qL {b:MC} {Q2:Exit→Env→LH→Prop} (h:LWp P n0 b Q2 l L) (e:Nx n0 (LWp P n0 b Q2) l L→Q .normal l L:=by exact fun h=>h):LWp P n0 .skip Q l L:=L_skip (e (Nx.goL h))
theorem qF {id:Nat} {b:MC} {Q2:Exit→Env→LH→Prop} (h:LWp P n0 b Q2 l L) (e:Nx n0 (LWp P n0 b Q2) l L→Q (.exit id) l L:=by exact fun h=>h):LWp P n0 (.exit id) Q l L:=L_exit (e (Nx.goL h))
theorem qT {c:Operand} {x y:MC} (h:LWp P n0 x Q (knows c true l) L) (hc:lv l c=some (.bool true):=by exact rfl):LWp P n0 (.cond c x y) Q l L:=L_true hc h
theorem qU {c:Operand} {x y:MC} (h:LWp P n0 y Q (knows c false l) L) (hc:lv l c=some (.bool false):=by exact rfl):LWp P n0 (.cond c x y) Q l L:=L_false hc h
end
end Go.Tum
end
section
namespace Go.Tum.Base
open Go Go.Tum
def mixW (x:BitVec 64):BitVec 64 :=
 let a:=(x ^^^ x >>> 30)*0xBF58476D1CE4E5B9#64
 let b:=(a ^^^ a >>> 27)*0x94D049BB133111EB#64
 b ^^^ b >>> 31
def keyW (seed:BitVec 64):BitVec 64:=mixW (seed+0x9E3779B97F4A7C15#64)
abbrev Bytes:=List (BitVec 8)
end Go.Tum.Base
end
section
namespace Go.Proofs.YtblibdfcnplfhaaGreat
open Go Go.Tum Go.Tum.Base
set_option maxRecDepth 4000
theorem mix_tr (x:BitVec 64):Tr Tryz.prog 170 [.int .u64 (x.toNat:Int)] [] (fun v K=>v=.int .u64 ((mixW x).toNat:Int)∧K=[]):=by
 refine Tr.of row_link_mix_ok rfl ?_
 repeat' (first|refine qN ?_|refine dN ?_|refine dR ?_|refine d0 ?_|refine rT ?_|refine aI (hn:=?_)|refine aM ?_|refine qR ?_|refine qS ?_|exact ⟨rfl,rfl⟩|fail)
 first|refine L_rs ?_|refine L_reg ?_ | skip
 refine S_Q [] rfl rfl (QY.shrW (n:=30) rfl rfl) ?_
 first|refine L_rs ?_|refine L_reg ?_ | skip
 refine S_Q [] rfl rfl (QY.xorW rfl rfl) ?_
 first|refine L_rs ?_|refine L_reg ?_ | skip
 refine S_Q [] rfl rfl (QY.mulW (b:=0xBF58476D1CE4E5B9#64) rfl rfl) ?_
 repeat' (first|refine qN ?_|refine dN ?_|refine dR ?_|refine d0 ?_|refine rT ?_|refine aI (hn:=?_)|refine aM ?_|refine qR ?_|refine qS ?_|exact ⟨rfl,rfl⟩|fail)
 first|refine L_rs ?_|refine L_reg ?_ | skip
 refine S_Q [] rfl rfl (QY.shrW (n:=27) rfl rfl) ?_
 first|refine L_rs ?_|refine L_reg ?_ | skip
 refine S_Q [] rfl rfl (QY.xorW rfl rfl) ?_
 first|refine L_rs ?_|refine L_reg ?_ | skip
 refine S_Q [] rfl rfl (QY.mulW (b:=0x94D049BB133111EB#64) rfl rfl) ?_
 repeat' (first|refine qN ?_|refine dN ?_|refine dR ?_|refine d0 ?_|refine rT ?_|refine aI (hn:=?_)|refine aM ?_|refine qR ?_|refine qS ?_|exact ⟨rfl,rfl⟩|fail)
 first|refine L_rs ?_|refine L_reg ?_ | skip
 refine S_Q [] rfl rfl (QY.shrW (n:=31) rfl rfl) ?_
 first|refine L_rs ?_|refine L_reg ?_ | skip
 refine S_Q [] rfl rfl (QY.xorW rfl rfl) ?_
 repeat' (first|refine qN ?_|refine dN ?_|refine dR ?_|refine d0 ?_|refine rT ?_|refine aI (hn:=?_)|refine aM ?_|refine qR ?_|refine qS ?_|exact ⟨rfl,rfl⟩|fail)
theorem linkNew_tr (x:BitVec 64):Tr Tryz.prog 123 [.int .u64 (x.toNat:Int)] [] (fun v K=>v=.agg ⟨[.int .u64 ((keyW x).toNat:Int)]⟩∧K=[]):=by
 refine Tr.of row_link_New_ok rfl ?_
 repeat' (first|refine qN ?_|refine dN ?_|refine dR ?_|refine d0 ?_|refine rT ?_|refine aA ?_|refine aI (hn:=?_)|refine qR ?_|refine qS ?_|exact ⟨rfl,rfl⟩|fail)
 first|refine L_rs ?_|refine L_reg ?_ | skip
 refine S_Q [] rfl rfl (QY.addW (b:=0x9E3779B97F4A7C15#64) rfl rfl) ?_
 first|refine L_rs ?_|refine L_reg ?_ | skip
 refine cP [] (mix_tr (x+0x9E3779B97F4A7C15#64)) ?_
 repeat' (first|refine qN ?_|refine dN ?_|refine dR ?_|refine d0 ?_|refine rT ?_|refine aA ?_|refine aI (hn:=?_)|refine qR ?_|refine qS ?_|exact ⟨rfl,rfl⟩|fail)
abbrev slB (b n:Nat):Value:=.slice (some ⟨b,0,none⟩) n n
abbrev ptr (b:Nat):Value:=.pointer (some ⟨b,0,none⟩)
def BL (bs:Bytes):LB:=.gro 1 (rowsC byteC bs)
def AL (bs:Bytes):LH:=[.cells 0 [slB 1 bs.length],BL bs]
set_option maxRecDepth 4000 in
theorem arenaNew_tr (p:Int) (n:Nat) (hn:256*min (max p 0) 256=n):Tr Tryz.prog 122 [.int .i64 p] [] (fun v K=>v=ptr 0∧K=AL (List.replicate n 0)):=by
 refine Tr.of row_arena_New_ok rfl ?_
 repeat' (first|refine qN ?_|refine dN ?_|refine dR ?_|refine d0 ?_|refine rT ?_|refine S_Q [] rfl rfl (QY.mul rfl rfl hn (by omega) (by omega)) ?_|refine aI (hn:=?_)|refine aM ?_|refine qR ?_|refine qS ?_|exact ⟨rfl,rfl⟩|fail)
 first|refine L_rs ?_|refine L_reg ?_ | skip
 refine eE rfl rfl (EW.mk (sz:=1) (bytes:=1) (k:=n) (zs:=byteC 0) rfl (by kernel_rfl) rfl rfl (by omega) (by omega)) ?_
 conv=>whnf
 repeat' (first|refine qN ?_|refine dN ?_|refine dR ?_|refine d0 ?_|refine rT ?_|refine aI (hn:=?_)|refine aM ?_|refine qR ?_|refine qS ?_|exact ⟨rfl,rfl⟩|fail)
 refine L_ret (RetQ.pick [1,0] rfl rfl rfl rfl ⟨rfl,?_⟩)
 rw [repC_rows (0:BitVec 8),AL,BL,List.length_replicate]
 rfl
end Go.Proofs.YtblibdfcnplfhaaGreat
end
section
namespace Go.Tum.Base
open Go Go.Tum Go.Proofs.YtblibdfcnplfhaaGreat
set_option maxRecDepth 4000
structure Qr where
 xs:List Int
 f:Nat
 l:List Int
 most:Nat
def QC (xs:List Int) (f n m:Int):List Value:=rowsC intC xs++[.int .i64 f,.int .i64 n,.int .i64 m]
def Qr.cells (q:Qr):List Value:=QC q.xs q.f q.l.length q.most
end Go.Tum.Base
namespace Go.Proofs.YtblibdfcnplfhaaGreat
open Go Go.Tum Go.Tum.Base
set_option maxRecDepth 4000
abbrev QB (q:Qr):LB:=.gro 1 q.cells
def mostQ (w:Int):Nat:=(min (max w 0) 64).toNat
def newQ (w:Int):Qr:=⟨List.replicate 65 0,0,[],mostQ w⟩
theorem qNew_tr (w:Int):Tr Tryz.prog 79 [.int .i64 w] [] (fun v K=>v=ptr 0∧K=[QB (newQ w)]):=by
 refine Tr.of row_quar_New_ok rfl ?_
 repeat' (first|refine qN ?_|refine dN ?_|refine d0 ?_|refine aI (hn:=?_)|refine qR ?_|refine qS ?_|exact ⟨rfl,rfl⟩|fail)
 refine LWp.wk (wk_new (b:=0) 1 rfl (fun h=>absurd (congrArg List.length h) (by show ¬ (68=0); decide)) (by decide) rfl) ?_
 have e:imm false (imm true w 0) 64=((mostQ w:Nat):Int):=by unfold mostQ imm; simp; omega
 refine L_ret (RetQ.pick [0] rfl rfl rfl rfl ⟨rfl,?_⟩)
 show [LB.gro 1 (QC (List.replicate 65 0) 0 0 (imm false (imm true w 0) 64))]=[LB.gro 1 (QC (List.replicate 65 0) 0 0 ((mostQ w:Nat):Int))]
 rw [e]
end Go.Proofs.YtblibdfcnplfhaaGreat
end
section
namespace Go.Tum.Remote
open Go Go.Tum
structure Mail where
 n:Nat
 bt:Nat
 come:List (List Int)
 held:Int × Int→List Int
def upd (f:Int × Int→List Int) (k:Int × Int) (v:List Int):Int × Int→List Int:=fun k'=>if k'=k then v else f k'
def Mail.row (s:Mail) (t:Nat):List Int:=s.come.getD t []
def Mail.new (threads batch:Int):Mail:={ n:=(min (max threads 0) 64).toNat,bt:=(min (max batch 1) 64).toNat,come:=List.replicate (min (max threads 0) 64).toNat [],held:=fun _=>[] }
def ints (l:List Int):List Value:=l.map (Value.int .i64)
abbrev encW:Int × Int→Value:=pairV
abbrev Own:=Nat→Option (Nat × Int × Int)
structure MailR (w:World) (p:Nat) (s:Mail) (own:Own) (cb hb:Nat) (vs:List Value) (m:List ((Int × Int) × Value × Nat)) (c:Nat):Prop where
 small:∀ b,own b≠none→b<w.heap.size
 op:own p=some (0,0,0)
 oc:own cb=some (1,0,0)
 oh:own hb=some (2,0,0)
 blk:Blk w p [.int .i64 s.n,.int .i64 s.bt,.slice (some ⟨cb,0,none⟩) s.n s.n,.map (some hb)]
 cblk:Blk w cb vs
 vlen:vs.length=s.n
 clen:s.come.length=s.n
 rows:∀ (t:Nat) (v:Value),vs[t]?=some v→∃ F,Sl w 1 v (s.row t).length (ints (s.row t)) F∧∀ b∈F,own b=some (3,(t:Int),0)
 map:Mp encW w hb m c
 wf:Wf m c
 ents:∀ e∈m,∃ F,Sl w 1 e.2.1 (s.held e.1).length (ints (s.held e.1)) F∧∀ b∈F,own b=some (4,e.1.1,e.1.2)
 absent:∀ k,mfind m k=none→s.held k=[]
def MailIs (w:World) (p:Nat) (s:Mail) (G:Nat→Prop):Prop:=∃ own cb hb vs m c,MailR w p s own cb hb vs m c∧G=fun b=>own b≠none
section
variable {w w':World} {p:Nat} {s:Mail} {own:Own} {cb hb:Nat} {vs:List Value} {m:List ((Int × Int) × Value × Nat)} {c:Nat}
theorem MailR.fr {G:Nat→Prop} (h:MailR w p s own cb hb vs m c) (hf:Fr G w w') (hd:∀ b,own b≠none→¬ G b):MailR w' p s own cb hb vs m c :=
 { h with
  small:=fun b hb=>Nat.lt_of_lt_of_le (h.small b hb) hf.size
  blk:=hf.blk h.blk (hd _ (by rw [h.op]; simp))
  cblk:=hf.blk h.cblk (hd _ (by rw [h.oc]; simp))
  rows:=fun t v hv=>let ⟨F,h1,h2⟩:=h.rows t v hv; ⟨F,h1.fr hf fun b hb=>hd b (by rw [h2 b hb]; simp),h2⟩
  map:=h.map.fr hf (hd _ (by rw [h.oh]; simp))
  ents:=fun e he=>let ⟨F,h1,h2⟩:=h.ents e he; ⟨F,h1.fr hf fun b hb=>hd b (by rw [h2 b hb]; simp),h2⟩ }
theorem MailIs.fr {G H:Nat→Prop} (h:MailIs w p s H) (hf:Fr G w w') (hd:∀ b,G b→H b→False):MailIs w' p s H:=by
 obtain ⟨own,cb,hb,vs,m,c,hR,rfl⟩:=h
 exact ⟨own,cb,hb,vs,m,c,hR.fr hf fun b hb hg=>hd b hg hb,rfl⟩
theorem MailIs.small {G:Nat→Prop} (h:MailIs w p s G):∀ b,G b→b<w.heap.size:=by
 obtain ⟨own,cb,hb,vs,m,c,hR,rfl⟩:=h
 exact hR.small
end
end Go.Tum.Remote
end
section
namespace Go.Proofs.YtblibdfcnplfhaaGreat
open Go Go.Tum Go.Tum.Remote
set_option maxRecDepth 8000
theorem New_ok (w:World) (threads batch:Int):Does Tryz.prog 78 #[.int .i64 threads,.int .i64 batch] w fun v w' =>
  ∃ p G,v=.pointer (some ⟨p,0,none⟩)∧MailIs w' p (Mail.new threads batch) G∧Fr (fun _=>False) w w'∧∀ b,G b→w.heap.size≤b:=by
 obtain ⟨n,hn⟩:∃ n:Nat,min (max threads 0) 64=n:=⟨_,(Int.toNat_of_nonneg (by omega)).symm⟩
 obtain ⟨bt,hbt⟩:∃ n:Nat,min (max batch 1) 64=n:=⟨_,(Int.toNat_of_nonneg (by omega)).symm⟩
 have hs:Mail.new threads batch={ n:=n,bt:=bt,come:=List.replicate n [],held:=fun _=>[] }:=by
  simp [Mail.new,hn,hbt]
 rw [hs]
 refine e_remote_New rfl ?_
 refine w_rs (s_end rfl (n_all ?_))
 refine w_rs (s_end rfl (n_pick [0,1] rfl ?_))
 rw [show imm false (imm true threads 0) 64=(n:Int) from hn]
 refine w_rs ?_
 refine s_rawE rfl rfl (makeSlice_W (z:=.slice none 0 0) (sz:=1) (bytes:=24) Tryz.underlying72 ⟨_,rfl,by kernel_rfl,by kernel_rfl,by kernel_rfl⟩ rfl rfl rfl (by omega) (by omega) rfl rfl (fun w1 v1 hS1 hf1 hz1 hv1 hB1=>⟨trivial,?_⟩))
 subst hv1
 refine s_rawE rfl rfl (makeMap_W pairV (fun w2 hM2 hf2 hz2=>⟨trivial,?_⟩))
 refine s_box rfl rfl rfl trivial ?_
 rw [show imm false (imm true batch 1) 64=(bt:Int) from hbt]
 have hB2:=hf2.blk hB1 (fun x=>x)
 generalize hw3:w2.alloc (.cells (Value.agg #[.int .i64 n,.int .i64 bt,.slice (some ⟨w.heap.size,0,none⟩) n n,.map (some w1.heap.size)]).cells 191)=w3
 have hf3:Fr (fun _=>False) w2 w3:=by rw [← hw3]; exact Fr.alloc _ w2 _
 have hB3:Blk w3 w2.heap.size [.int .i64 n,.int .i64 bt,.slice (some ⟨w.heap.size,0,none⟩) n n,.map (some w1.heap.size)]:=by rw [← hw3]; exact Blk.new w2 _ _
 refine s_end rfl (n_all ?_)
 refine w_ret (RQ.one (t:=4) rfl (.inl rfl) rfl ⟨w2.heap.size,fun b=>(if b=w.heap.size then some ((1,0,0):Nat × Int × Int) else if b=w1.heap.size then some (2,0,0) else if b=w2.heap.size then some (0,0,0) else none)≠none,rfl,⟨fun b=>if b=w.heap.size then some ((1,0,0):Nat × Int × Int) else if b=w1.heap.size then some (2,0,0) else if b=w2.heap.size then some (0,0,0) else none,w.heap.size,w1.heap.size,List.replicate n (.slice none 0 0),[],0,?_,rfl⟩,?_,?_⟩)
 ·refine ⟨fun b hb=>?_,?_,?_,?_,hB3,hf3.blk hB2 (fun x=>x),by simp,by simp,fun t v hv=>?_,hM2.fr hf3 (fun x=>x),⟨by simp,by simp,fun x hx=>(by cases hx)⟩,fun e he=>(by cases he),fun _ _=>rfl⟩
  ·have:=hB3.lt
   by_cases h1:b=w.heap.size
   ·omega
   ·rw [if_neg h1] at hb
    by_cases h2:b=w1.heap.size
    ·omega
    ·rw [if_neg h2] at hb
     by_cases h3:b=w2.heap.size
     ·omega
     ·rw [if_neg h3] at hb; exact absurd rfl hb
  ·rw [if_neg (by omega),if_neg (by omega),if_pos rfl]
  ·rw [if_pos rfl]
  ·rw [if_neg (by omega),if_pos rfl]
  ·have ht:t<n:=by
    have:=(List.getElem?_eq_some_iff.1 hv).1
    simpa using this
   have hv':v=.slice none 0 0:=by
    rw [List.getElem?_replicate,if_pos ht] at hv
    cases hv; rfl
   subst hv'
   refine ⟨[],?_,fun b hb=>by cases hb⟩
   have hrow:Mail.row { n:=n,bt:=bt,come:=List.replicate n [],held:=fun _=>[] } t=[]:=by simp [Mail.row,ht]
   rw [hrow]
   exact Sl.nil w3 1
 ·exact (hf1.trans hf2 fun _ _ x=>x).trans hf3 fun _ _ x=>x
 ·intro b hb
  by_cases h1:b=w.heap.size
  ·omega
  ·rw [if_neg h1] at hb
   by_cases h2:b=w1.heap.size
   ·omega
   ·rw [if_neg h2] at hb
    by_cases h3:b=w2.heap.size
    ·omega
    ·rw [if_neg h3] at hb; exact absurd rfl hb
end Go.Proofs.YtblibdfcnplfhaaGreat
end
section
namespace Go.Proofs.YtblibdfcnplfhaaGreat
open Go Go.Tum Go.Tum.Remote
def MA (s:Mail) (G:Nat→Prop):Nat→World→Prop:=fun p w=>MailIs w p s G
theorem MA_ok (s:Mail) (G:Nat→Prop):ObjOk (MA s G) G:=⟨fun _ _ h=>MailIs.small h,fun _ _ _ _ h hf hd=>MailIs.fr h hf fun b h1 h2=>hd b h2 h1⟩
def MB (s:Mail) (G:Nat→Prop):LB:=.abs (MA s G) G
abbrev op:Value:=.pointer (some ⟨0,0,none⟩)
theorem mNew_tr (threads batch:Int):Tr Tryz.prog 78 [.int .i64 threads,.int .i64 batch] [] (fun v K=>v=op∧∃ G,K=[MB (Mail.new threads batch) G]) :=
 Tr.newObj (A':=MA (Mail.new threads batch)) (by kernel_rfl) rfl (MA_ok _) fun w=>New_ok w threads batch
end Go.Proofs.YtblibdfcnplfhaaGreat
end
section
namespace Go.Tum.Base
open Go Go.Tum
abbrev Great:=IMap
end Go.Tum.Base
namespace Go.Proofs.YtblibdfcnplfhaaGreat
open Go Go.Tum Go.Tum.Base
set_option maxRecDepth 4000
theorem largeNew_tr (bs:Bytes) (key:BitVec 64):TrK Tryz.prog [] [0,1] 125 [ptr 0,.agg ⟨[.int .u64 (key.toNat:Int)]⟩] (AL bs) (fun v K=>v=ptr 2∧K=AL bs++[.cells 0 [ptr 0,.int .u64 (key.toNat:Int),.map (some 3)],.imap [] 0]):=by
 refine Tr.of row_large_New_ok rfl ?_
 repeat' (first|refine qN ?_|refine dN ?_|refine dR ?_|refine d0 ?_|refine rT ?_|refine qT ?_|refine qU ?_|refine qL ?_|refine qK ?_|refine iF (fun h=>?_) (fun h=>?_)|refine aI (hn:=?_)|refine qR ?_|refine qS ?_|exact ⟨rfl,rfl⟩|fail)
 first|refine L_rs ?_|refine L_reg ?_ | skip
 refine eE rfl rfl (EW.imake rfl) ?_
 conv=>whnf
 repeat' (first|refine qN ?_|refine dN ?_|refine dR ?_|refine d0 ?_|refine rT ?_|refine qT ?_|refine qU ?_|refine qL ?_|refine qK ?_|refine iF (fun h=>?_) (fun h=>?_)|refine aI (hn:=?_)|refine qR ?_|refine qS ?_|exact ⟨rfl,rfl⟩|fail)
 exact L_ret (RetQ.pick [0,1,4,3] rfl rfl rfl rfl ⟨rfl,rfl⟩)
end Go.Proofs.YtblibdfcnplfhaaGreat
end
section
/-
 A call that was run by itself,where the table lies.
-/
namespace Go.Tum
open Go
theorem Tr.closedT {P:Program} {f:FuncId} {vs:List Value} {v:Value} (hc:callable P f=true) (hvs:vs.all stillS=true) (hs:stillT v=true) (h:∀ w,TabOk P (fun _=>False) w→Does P f vs.toArray w fun v' w'=>v'=v∧Fr (fun _=>False) w w'):Tr P f vs [] (fun u K=>u=v∧K=[]):=by
 intro X w0 w E vs' hA hR hv
 obtain rfl:=L2.vr_still hvs hv
 refine ⟨hc,(h w fun g hg=>?_).mono ?_⟩
 ·obtain ⟨h1,h2,h3⟩:=hA.2.2 g hg
  exact ⟨fun i x hx=>by rw [hR.fr.cell h3 h2]; exact h1 i x hx,fun e=>e,Nat.lt_of_lt_of_le h3 hR.fr.size⟩
 ·rintro _ w' ⟨rfl,hf⟩
  exact ⟨E,_,[],NA.Ext.refl _ E,Nat.le_refl _,VR.selfT hs,hR.keep hf,rfl,rfl⟩
end Go.Tum
end
section
/-
 append where a slice has room within its rows: the row behind it is written in its place.
-/
namespace Go.Tum
open Go
section
variable {P:Program} {n0:NA} {L:LH} {l:Env}
theorem EW.appIn {α:Type} {g:α→List Value} {sz:Nat} {o:Oper} {s x:Operand} {sT xT:TypeId} {bytes b n k bx:Nat} {xs:List α} {a:α} (h:RowOk g sz) (ho:o.op=.call ⟨.builtin .append,⟨[s,x]⟩,⟨[sT,xT]⟩⟩) (ht:appT P sT xT=some (sz,bytes)) (hs:lv l s=some (.slice (some ⟨b,0,none⟩) k n)) (hx:lv l x=some (.slice (some ⟨bx,0,none⟩) 1 1))
  (hb:L[b]?=some (.gro sz (rowsC g xs))) (hbx:L[bx]?=some (.cells 0 (g a))) (hn:xs.length=n) (hk:k<n) (hz0:0<sz) (hbd:(2*(k+1)+2048)*bytes≤281474976710656) :
  EW P n0 L l (.raw o) (fun v K=>v=.slice (some ⟨b,0,none⟩) (k+1) n∧K=L.set b (.gro sz (rowsC g (xs.set k a)))):=by
 intro X w0 E0 w E l' Kf h0 hE hR hl hK
 have hrl:(rowsC g xs).length=n*sz:=by rw [rowsC_length h,hn]
 have hks:k*sz+sz≤n*sz:=by rw [← Nat.succ_mul]; exact Nat.mul_le_mul_right _ hk
 have hga:=h.len a
 have hc1:∃ cells,lslc L sz (.slice (some ⟨b,0,none⟩) k n)=some cells:=by
  cases k with
  | zero=>exact ⟨[],rfl⟩
  | succ k =>
   have h1:Nat.ble (0+(k+1)*sz) (rowsC g xs).length=true:=Nat.ble_eq_true_of_le (by omega)
   have h2:(rowsC g xs).isEmpty=false:=by
    cases hq:rowsC g xs with
    | nil=>rw [hq] at hrl; simp at hrl; omega
    | cons=>rfl
   have h3:(((rowsC g xs).drop 0).take ((k+1)*sz)).all stillS=true:=List.all_eq_true.2 fun a ha=>List.all_eq_true.1 (rowsC_still h xs) a (List.mem_of_mem_drop (List.mem_of_mem_take ha))
   exact ⟨_,by simp only [lslc,lcells,hb,h1,h2,h3,Bool.and_self,Bool.not_false,cond_true]; rfl⟩
 have hc2:lslc L sz (.slice (some ⟨bx,0,none⟩) 1 1)=some (g a):=by
  have h1:Nat.ble (0+(0+1)*sz) (g a).length=true:=Nat.ble_eq_true_of_le (by rw [h.len]; omega)
  have h3:((g a).drop 0).take ((0+1)*sz)=g a:=by rw [List.drop_zero,List.take_of_length_le]; rw [h.len]; omega
  simp only [lslc,lcells,hbx,h1,h3,cond_true]
 obtain ⟨cells,hc1⟩:=hc1
 obtain ⟨vs',h1,hsr⟩:=lv_ev hl hs
 obtain ⟨vx',h3,hxr⟩:=lv_ev hl hx
 obtain ⟨us,hrd1,hl1⟩:=lslc_ok hR (hsr.sr rfl) hc1
 obtain ⟨us2,hrd2,hl2⟩:=lslc_ok hR (hxr.sr rfl) hc2
 obtain rfl:us2=g a:=L2.eq_still (h.still a) hl2
 have hlen1:us.length=k*sz:=hrd1.1
 unfold appT at ht
 split at ht
 rotate_left
 ·cases ht
 rename_i e i z he
 cases hc:(isSl P xT && Nat.beq z.cells.toList.length i.size && z.cells.toList.all one && Nat.blt 0 i.bytes && Nat.blt 0 i.size)
 ·rw [hc] at ht; cases ht
 rw [hc] at ht
 cases ht
 simp only [Bool.and_eq_true] at hc
 obtain ⟨hu,hi,hz⟩:=elemOf_ok he
 have he':ElemT P sT e i.size i.bytes:=⟨hu,i,z,hi,rfl,rfl,hz,by simpa using Nat.eq_of_beq_eq_true hc.1.1.1.2,fun u hu=>List.all_eq_true.1 hc.1.1.2 u hu⟩
 obtain ⟨d,op,ty,pos,af,g'⟩:=o
 simp only at ho
 subst ho
 rcases hR.blk b _ _ hb (hR.ent hb).choose_spec with ⟨hne,_⟩ | ⟨hne,hsz,cs,hB,hcs,hroom⟩
 ·rw [hne] at hrl; simp at hrl; omega
 obtain ⟨hsp,r,hr,⟨a',c',rfl,⟨rfl,rfl⟩ | ⟨_,hc0,_⟩⟩ | ⟨_,hc0,_⟩⟩:=hsr.sr rfl
 rotate_left
 ·omega
 ·omega
 have er:(hR.ent hb).choose=r:=Option.some.inj ((hR.ent hb).choose_spec.symm.trans hr)
 rw [er] at hB hcs hroom
 refine append_any he' (isSl_ok hc.1.1.1.1) h1 h3 hrd1 hrd2 hbd (Nat.le_of_ble_eq_true hc.1.2) (fun hle' a2 ha=>.inr ?_) (fun _ ha=>by cases ha) (fun hlt' c'' zs hc'' hlz=>by omega)
 cases ha
 have hcl:0+r.2.1+k*i.size+(g a).length≤cs.length:=by omega
 have hls:(rowsC g (xs.set k a)).length=(rowsC g xs).length:=by rw [rowsC_length h,rowsC_length h,List.length_set]
 have hne2:rowsC g (xs.set k a)≠[]:=by intro e; rw [e] at hls; simp at hls; exact hne (List.length_eq_zero_iff.1 hls.symm)
 refine ⟨_,_,cs,rfl,hB,hcl,hK _ E _ _ _ ⟨rfl,rfl⟩ (Ext.refl E) (hR.upd hb hr ?_ (.inr ⟨hne2,hsz,_,putCells_blk (g a) 0 w cs hB (by omega),?_,?_⟩) ?_) ⟨rfl,r,hr,.inl ⟨_,_,rfl,.inl ⟨rfl,rfl⟩⟩⟩⟩
 ·rw [gro_foot hne]; exact putCells_fr (p:=⟨r.1,0+r.2.1+k*i.size,none⟩) (g a) 0 w
 ·rw [hls,Nat.add_zero,splice_drop hcl (by omega),show 0+r.2.1+k*i.size-r.2.1=k*i.size by omega,splice_take (by omega) (by simp; omega),hcs,rowsC_set h a (by omega)]
 ·rw [hls,Nat.add_zero,splice_length hcl]; exact hroom
 ·rw [gro_foot hne,gro_foot hne2]; exact fun _ h=>.inl h

/-- a part of a row,copied to an empty one -/
theorem EW.cpy {α:Type} {g:α→List Value} {sz:Nat} {o:Oper} {s x:Operand} {sT xT:TypeId} {bytes b bx ox i m cx:Nat} {ys:List α} (zs:List α) (h:RowOk g sz) (ho:o.op=.call ⟨.builtin .append,⟨[s,x]⟩,⟨[sT,xT]⟩⟩) (ht:appT P sT xT=some (sz,bytes)) (hs:lv l s=some (.slice (some ⟨b,0,none⟩) 0 0)) (hx:lv l x=some (.slice (some ⟨bx,ox,none⟩) m cx))
  (hb:L[b]?=some (.gro sz [])) (hbx:L[bx]?=some (.gro sz (rowsC g ys))) (hox:ox=i*sz) (hm:i+m≤ys.length) (hzs:(ys.drop i).take m=zs) (hz:0<sz) (hbd:(2*m+2048)*bytes≤281474976710656) :
  EW P n0 L l (.raw o) (fun v K=>v=.slice (some ⟨L.length,0,none⟩) m m∧K=L.set b .dead++[.gro sz (rowsC g zs)]):=by
 have:=EW.appRS (P:=P) (n0:=n0) (L:=L) (xs:=[]) h ho ht hs hx hb hbx hox rfl hm hz (by rw [Nat.zero_add]; exact hbd)
 rw [hzs,List.nil_append,Nat.zero_add] at this
 exact this

/-! ### nil in a cell,as an empty row that may grow -/
theorem L2.setL {R:Value→Value→Prop}:∀ {x y:List Value} {j:Nat} {u:Value},L2 R x y→(∀ a c,x[j]?=some a→R a c→R u c)→L2 R (x.set j u) y
 | [],_,_,_,h,_=>h
 | _::_,[],_,_,h,_=>h.elim
 | a::x,c::y,0,u,h,hu=>⟨hu a c rfl h.1,h.2⟩
 | a::x,c::y,j+1,u,h,hu=>⟨h.1,L2.setL h.2 fun a' c' ha=>hu a' c' (by simpa using ha)⟩
theorem rep_nilC {b j sz:Nat} (szg:Nat) {vs:List Value} {X:Nat→Prop} {w0 w:World} {E:Emb} (hb:L[b]?=some (.cells sz vs)) (hv:vs[j]?=some (.slice none 0 0)) (hR:Rep X w0 E L w):Rep X w0 (E++[(0,0,0)]) (L.set b (.cells sz (vs.set j (.slice (some ⟨L.length,0,none⟩) 0 0)))++[.gro szg []]) w:=by
 have h1:Rep X w0 (E++[(0,0,0)]) (L++[.gro szg []]) w:=hR.push (Fr.refl _ w) (fun _ h=>h.elim) (.inl ⟨rfl,rfl⟩)
 have hlast:(E++[(0,0,0)])[L.length]?=some (0,0,0):=by rw [← hR.len]; simp
 have hlt:=(List.getElem?_eq_some_iff.1 hb).1
 have hb1:(L++[LB.gro szg []])[b]?=some (.cells sz vs):=by rw [List.getElem?_append_left hlt]; exact hb
 obtain ⟨r,hr⟩:=h1.ent hb1
 obtain ⟨cs,hB,hl2,hroom,hz⟩:=h1.blk b _ r hb1 hr
 have h2:=h1.upd (x:=.cells sz (vs.set j (.slice (some ⟨L.length,0,none⟩) 0 0))) hb1 hr (Fr.refl _ w) ⟨cs,hB,?_,by rw [List.length_set]; exact hroom,hz⟩ (fun _ h=>.inl h)
 ·rw [List.set_append_left _ _ hlt] at h2; exact h2
 ·rw [List.length_set]
  refine L2.setL hl2 fun a c ha hc=>?_
  rw [hv] at ha; cases ha
  have hc:c=Value.slice none 0 0:=hc
  subst hc
  exact ⟨rfl,_,hlast,.inr ⟨rfl,rfl,_,rfl⟩⟩
theorem LWp.nilC {m:MC} {Q:Exit→Env→LH→Prop} (b j szg:Nat) {sz:Nat} {vs:List Value} (hb:L[b]?=some (.cells sz vs)) (hv:vs[j]?=some (.slice none 0 0)) (h:LWp P n0 m Q l (L.set b (.cells sz (vs.set j (.slice (some ⟨L.length,0,none⟩) 0 0)))++[.gro szg []])):LWp P n0 m Q l L :=
 ⟨fun X w0 E0 w E l' h0 hE hR hl=>h.go X w0 E0 w (E++[(0,0,0)]) l' h0 (hE.trans (Ext.push E _)) (rep_nilC szg hb hv hR) (hl.ext (Ext.push E _))⟩
theorem Nx.nilC {k:Env→LH→Prop} (b j szg:Nat) {sz:Nat} {vs:List Value} (hb:L[b]?=some (.cells sz vs)) (hv:vs[j]?=some (.slice none 0 0)) (h:Nx n0 k l (L.set b (.cells sz (vs.set j (.slice (some ⟨L.length,0,none⟩) 0 0)))++[.gro szg []])):Nx n0 k l L:=by
 intro X w0 E0 w E l' hE hR hl
 exact h X w0 E0 w (E++[(0,0,0)]) l' (hE.trans (Ext.push E _)) (rep_nilC szg hb hv hR) (hl.ext (Ext.push E _))
/-- .. behind a call -/
theorem Tr.nilC {A:Args} {keep:List Nat} {f:FuncId} {us:List Value} {v1:Value} {K1:LH} (b j szg:Nat) {sz:Nat} {vs:List Value} (h:TrK P A keep f us L (fun v K=>v=v1∧K=K1)) (hb:K1[b]?=some (.cells sz vs)) (hv:vs[j]?=some (.slice none 0 0)):TrK P A keep f us L (fun v K=>v=v1∧K=K1.set b (.cells sz (vs.set j (.slice (some ⟨K1.length,0,none⟩) 0 0)))++[.gro szg []]):=by
 intro X w0 w E vs' h0 hR hv'
 obtain ⟨h1,h2⟩:=h X w0 w E vs' h0 hR hv'
 refine ⟨h1,h2.mono ?_⟩
 rintro v' w' ⟨E',v,L',hE,hle,hvr,hR',rfl,rfl⟩
 exact ⟨_,v,_,hE.trans (Ext.push E' _),by simp; omega,hvr.ext (Ext.push E' _),rep_nilC szg hb hv hR',rfl,rfl⟩
end
end Go.Tum
end
section
/-
 Layered after Lw19: blocks of which nothing is known; runs with letters; a call of a function's value.
-/
namespace Go.Tum
open Go
section
variable {P:Program} {L:LH}
/-- a block of which nothing is known,behind a call -/
theorem Tr.fillD {A:Args} {keep:List Nat} {f:FuncId} {us:List Value} {v1:Value} {K1:LH} (h:TrK P A keep f us L (fun v K=>v=v1∧K=K1)):TrK P A keep f us L (fun v K=>v=v1∧K=K1++[.dead]):=by
 intro X w0 w E vs' h0 hR hv'
 obtain ⟨h1,h2⟩:=h X w0 w E vs' h0 hR hv'
 refine ⟨h1,h2.mono ?_⟩
 rintro v' w' ⟨E',v,L',hE,hle,hvr,hR',rfl,rfl⟩
 exact ⟨E'++[(0,0,0)],v,_,hE.trans (Ext.push E' _),by simp; omega,hvr.ext (Ext.push E' _),hR'.push (x:=.dead) (Fr.refl _ _) (fun _ h=>h.elim) trivial,rfl,rfl⟩
/-- an empty row,behind a call -/
theorem Tr.fillG {A:Args} {keep:List Nat} {f:FuncId} {us:List Value} {v1:Value} {K1:LH} (sz:Nat) (h:TrK P A keep f us L (fun v K=>v=v1∧K=K1)):TrK P A keep f us L (fun v K=>v=v1∧K=K1++[.gro sz []]):=by
 intro X w0 w E vs' h0 hR hv'
 obtain ⟨h1,h2⟩:=h X w0 w E vs' h0 hR hv'
 refine ⟨h1,h2.mono ?_⟩
 rintro v' w' ⟨E',v,L',hE,hle,hvr,hR',rfl,rfl⟩
 exact ⟨E'++[(0,0,0)],v,_,hE.trans (Ext.push E' _),by simp; omega,hvr.ext (Ext.push E' _),hR'.push (x:=.gro sz []) (Fr.refl _ _) (fun _ h=>h.elim) (.inl ⟨rfl,rfl⟩),rfl,rfl⟩
/-- what is known of a block is forgotten -/
theorem Tr.deadK {A:Args} {keep:List Nat} {f:FuncId} {us:List Value} {v1:Value} {K1:LH} (b:Nat) {x:LB} (h:TrK P A keep f us L (fun v K=>v=v1∧K=K1)) (hb:K1[b]?=some x):TrK P A keep f us L (fun v K=>v=v1∧K=K1.set b .dead):=by
 intro X w0 w E vs' h0 hR hv'
 obtain ⟨h1,h2⟩:=h X w0 w E vs' h0 hR hv'
 refine ⟨h1,h2.mono ?_⟩
 rintro v' w' ⟨E',v,L',hE,hle,hvr,hR',rfl,rfl⟩
 obtain ⟨r,hr⟩:=hR'.ent hb
 exact ⟨E',v,_,hE,by rw [List.length_set]; exact hle,hvr,hR'.upd (x:=.dead) hb hr (Fr.refl _ _) trivial (fun _ h=>h.elim),rfl,rfl⟩
/-- blocks in another order,behind a call -/
theorem Tr.pickK {A:Args} {keep:List Nat} {f:FuncId} {us:List Value} {v1 v2:Value} {K1 K2:LH} (sel:List Nat) (h:TrK P A keep f us L (fun v K=>v=v1∧K=K1)) (g0:keepOk sel keep=true) (g1:letGoV sel K1 v1=some v2) (g2:letGo sel K1=some K2) (hn:Nat.ble L.length sel.length=true):TrK P A keep f us L (fun v K=>v=v2∧K=K2):=by
 intro X w0 w E vs' h0 hR hv'
 obtain ⟨h1,h2⟩:=h X w0 w E vs' h0 hR hv'
 refine ⟨h1,h2.mono ?_⟩
 rintro v' w' ⟨E',v,L',hE,hle,hvr,hR',rfl,rfl⟩
 exact ⟨subE E' sel,v2,K2,hE.sub g0,by rw [letGo_length g2]; exact Nat.le_of_ble_eq_true hn,letGoV_ok g1 hR' hvr,letGo_ok g2 hR',rfl,rfl⟩
/-- a call whose run hangs on no letter; what it leaves behind is let go -/
theorem Tr.runK {L2:LH} {tab:List FnRow} {rawQ:RawQ} {rawE:RawE} {keep:List Nat} (sel:List Nat) (ht:∀ x∈tab,x.Ok P) (hq:RawOk P rawQ) (he:RawEOk P rawE) {fuel:Nat} {f:FuncId} {vs:List Value} {v:Value}
  (hc:callable P f=true) (h:(match lcall noOv tab rawQ rawE fuel f vs L with
   | some x=>(match letGoV sel x.2 x.1,letGo sel x.2 with
    | some u,some K=>some (u,K)
    | _,_=>none)
   | none=>none)=some (v,L2)) (g0:keepOk sel keep=true) (hn:Nat.ble L.length sel.length=true):TrK P [] keep f vs L (fun u K=>u=v∧K=L2):=by
 intro X w0 w E vs' hA hR hv
 split at h
 ·rename_i x hx
  split at h
  ·rename_i u K h1 h2
   obtain ⟨u0,L1⟩:=x
   cases h
   refine ⟨hc,((lrun_ok (H:=fun _ _=>True) (noOv_ok _ P) ht hq he fuel).1 X w0 trivial w E L f vs vs' u0 L1 hx hR hv).2.mono ?_⟩
   rintro v' w' ⟨E',k1,k2,k3⟩
   exact ⟨subE E' sel,v,L2,NA.Ext.sub (fun k r _ hr=>k1 k r hr) g0,by rw [letGo_length h2]; exact Nat.le_of_ble_eq_true hn,letGoV_ok h1 k3 k2,letGo_ok h2 k3,rfl,rfl⟩
  ·cases h
 ·cases h
end
theorem wk_dead {L:LH} (b:Nat) {x:LB} (hb:L[b]?=some x):∀ X w0 E w,Rep X w0 E L w→Rep X w0 E (L.set b .dead) w:=by
 intro X w0 E w hR
 obtain ⟨r,hr⟩:=hR.ent hb
 exact hR.upd (x:=.dead) hb hr (Fr.refl _ w) trivial (fun _ h=>h.elim)
section
variable {P:Program} {n0:NA} {Q:Exit→Env→LH→Prop} {K:Env→LH→Prop} {l l1:Env} {L L1 L2 K2 Lc:LH} {T T1:Taken} {k:Nat} {d:Option Nat} {g:Option (Nat × Bool)} {rd:Bool} {r ss ss1:List Step} {x y:Operand} {b:MC} {op:QOp} {eo:EOp} {pend:List Nat} {v v1 v2:Value}
/-- a call of a function's value that is told -/
theorem cV {keep:List Nat} {f:FuncId} {args:List Operand} {a c vs us:List Value} (φ:List Nat) (ht:TrK P [] keep f us Lc (fun v K=>v=v1∧K=L2)) (hn:nE (dpush d v2 l1) fun l=>nL K2 fun L=>LSt P n0 r K l T1 L) (h:arun [] ss l T L=(.e d g (.callv x args) pend::r,l1,T1,L1):=by exact rfl) (hg:gw g l1=some true:=by exact rfl)
  (hx:lv l1 x=some (.func (.func f) ⟨a⟩ ⟨c⟩):=by exact rfl) (hv:lvs l1 args=some vs:=by exact rfl) (he:us.map (rnV L1.length φ)=a++vs++c:=by exact rfl) (h1:φ.Nodup:=by decide) (h2:partL L1 φ φ Lc:=by repeat' (first|exact trivial|refine ⟨rfl,?_⟩ | fail)) (hm:nmL (dropped keep 0 φ) φ 0 L1=true:=by kernel_rfl) (h3:rnV (L1.length+L2.length) (phi2 φ L1.length L2) v1=v2:=by exact rfl) (h4:joinQ φ L1 L2=K2:=by exact rfl)
  (h5:disj (dropped keep 0 φ) n0.keep=true:=by kernel_rfl) (h6:nmE (dropped keep 0 φ) l1=true:=by kernel_rfl) (h7:nmT (dropped keep 0 φ) T1=true:=by kernel_rfl)
  (hc:chkG P n0 φ T1 L1 K2 pend:=by repeat' (first|exact trivial|refine ⟨.inl rfl,?_⟩|refine ⟨.inr ⟨qsafe_ok (st:=[]) rfl,Sure.of rfl⟩,?_⟩ | fail)):LSt P n0 ss K l T L :=
 S_Ed [] h hg ((EWd.callv φ ht hx hv he (Part.of h1 h2) handed_nil hm).mono fun v K ⟨v',L',⟨h3',h4'⟩,h5',h6'⟩=>(by subst h3'; subst h4'; exact ⟨h5'.trans h3,h6'.trans ((joinQ_eq h1).trans h4)⟩:v=v2∧K=K2)) h5 h6 h7 (by rintro _ _ ⟨rfl,rfl⟩; exact ⟨hc,LSt.nf hn⟩)
end
end Go.Tum
end
section
/-
 The logic over named blocks: rows that came in within rows that came in,to any depth. Their addresses stand for themselves (spot 0).
-/
namespace Go.Tum
open Go Go.RowKit Go.WideShapes Go.ChangeShapes Go.Deep

instance : Inhabited AV:=⟨.v undef⟩
/-- how a cell that came in is named -/
def AV.val:AV→Value
 | .v u=>u
 | .s a n c _ _=>.slice (some ⟨a.block,a.off,some 0⟩) n c
def AV.still:AV→Bool
 | .v u=>stillS u
 | .s _ _ _ _ _=>true
theorem AV.sr {X:Nat→Prop} {w0:World} {E:Emb}:∀ {a:AV} {y:Value},a.is X w0 y→a.still=true→SR E a.val y
 | .v _,_,h,hs=>by
  have h:_=_:=h
  subst h
  exact SR.still hs
 | .s _ _ _ _ _,_,h,_=>h.1
/-- rows of sz cells,some of which may be rows themselves -/
def rowF (sz:Nat) (F:Nat→List AV):Nat→AV:=fun q=>(F (q / sz)).getD (q % sz) (.v undef)
theorem rowF_at {sz i j:Nat} {F:Nat→List AV} {u:AV} (hl:(F i).length=sz) (hu:(F i)[j]?=some u):rowF sz F (i*sz+j)=u:=by
 have hj:j<sz:=by rw [← hl]; exact (List.getElem?_eq_some_iff.1 hu).1
 have h1:(i*sz+j) / sz=i:=by rw [Nat.mul_comm,Nat.mul_add_div (by omega),Nat.div_eq_of_lt hj,Nat.add_zero]
 have h2:(i*sz+j) % sz=j:=by rw [Nat.mul_comm,Nat.mul_add_mod,Nat.mod_eq_of_lt hj]
 simp [rowF,h1,h2,hu]
theorem rowF_one {F:Nat→List AV} {i:Nat} {u:AV} (h:F i=[u]):rowF 1 F i=u:=by
 have:=rowF_at (sz:=1) (i:=i) (j:=0) (F:=F) (u:=u) (by rw [h]; rfl) (by rw [h]; rfl)
 simpa using this
theorem L2.ofIdx {R:Value→Value→Prop}:∀ {x y:List Value},x.length=y.length→(∀ (i:Nat) (a b:Value),x[i]?=some a→y[i]?=some b→R a b)→L2 R x y
 | [],[],_,_=>trivial
 | a::x,b::y,h,k=>⟨k 0 a b rfl rfl,L2.ofIdx (Nat.succ.inj h) fun i a b ha hb=>k (i+1) a b ha hb⟩
 | [],_::_,h,_=>by cases h
 | _::_,[],h,_=>by cases h

/-! ### what came in,and what it holds -/
def NA.Has (n0:NA) (P:Program) (a:AV):Prop:=∀ (X:Nat→Prop) (w0:World) (E0:Emb),n0.Ok P X w0 E0→∃ y,a.is X w0 y
section
variable {P:Program} {n0:NA} {Q:Exit→Env→LH→Prop} {l:Env} {L:LH}
theorem NA.Has.arg {k M p:Nat} {G:Nat→AV} (hA:(k,M,G)∈n0.A) (hp:p<M):n0.Has P (G p):=by
 intro X w0 E0 h0
 obtain ⟨_,hA'⟩:=h0.2.1 _ hA
 obtain ⟨r,_,_,_,h4⟩:=hA' (by simp only; omega)
 obtain ⟨y,_,h6⟩:=h4 p hp
 exact ⟨y,h6⟩
theorem NA.Has.sub {a:Addr} {n c m:Nat} {get:Nat→AV} (h:n0.Has P (.s a n c m get)) {i:Nat} (hi:i<m):n0.Has P (get i):=by
 intro X w0 E0 h0
 obtain ⟨y,h3⟩:=h X w0 E0 h0
 obtain ⟨h4,h5,h6⟩:=h3.2 (by omega)
 obtain ⟨y',_,h8⟩:=h6 i hi
 exact ⟨y',h8⟩
/-- the cell number j of the row number i -/
theorem NA.Has.row {k n sz i j:Nat} {F:Nat→List AV} {u:AV} (hA:(k,n*sz,rowF sz F)∈n0.A) (hi:i<n) (hl:(F i).length=sz) (hu:(F i)[j]?=some u):n0.Has P u:=by
 have hj:j<sz:=by rw [← hl]; exact (List.getElem?_eq_some_iff.1 hu).1
 have hlt:i*sz+j<n*sz:=by
  have:(i+1)*sz≤n*sz:=Nat.mul_le_mul_right _ hi
  rw [Nat.add_mul] at this; omega
 have:=NA.Has.arg (P:=P) hA hlt
 rwa [rowF_at hl hu] at this
theorem NA.Has.subRow {a:Addr} {n c n' sz i j:Nat} {F:Nat→List AV} {u:AV} (h:n0.Has P (.s a n c (n'*sz) (rowF sz F))) (hi:i<n') (hl:(F i).length=sz) (hu:(F i)[j]?=some u):n0.Has P u:=by
 have hj:j<sz:=by rw [← hl]; exact (List.getElem?_eq_some_iff.1 hu).1
 have hlt:i*sz+j<n'*sz:=by
  have:(i+1)*sz≤n'*sz:=Nat.mul_le_mul_right _ hi
  rw [Nat.add_mul] at this; omega
 have:=h.sub hlt
 rwa [rowF_at hl hu] at this
theorem QY.rowF {x:Operand} {k o n sz j:Nat} {F:Nat→List AV} (i:Nat) (hx:lv l x=some (.pointer (some ⟨k,o,none⟩))) (hA:n0.A[j]?=some (k,n*sz,Go.Tum.rowF sz F)) (ho:o=i*sz) (hi:i<n) (hl:(F i).length=sz) (hs:(F i).all AV.still=true):QY P n0 L l (.ldn x sz) (.agg ⟨(F i).map AV.val⟩):=by
 intro X w0 E0 w E l' h0 hE hR hl'
 obtain ⟨_,h1,a',rfl,_,r,hr,rfl⟩:=lv_ev hl' hx
 have hr:E[k]?=some r:=hr
 subst ho
 obtain ⟨ys,hys⟩:=choose_lt (n:=sz) (p:=fun j' (y:Value)=>w.cell? ⟨r.1,r.2.1+(i*sz+j'),none⟩=some y∧(Go.Tum.rowF sz F (i*sz+j')).is X w0 y) fun j' hj'=>by
  have hlt:i*sz+j'<n*sz:=by
   have:(i+1)*sz≤n*sz:=Nat.mul_le_mul_right _ hi
   rw [Nat.add_mul] at this; omega
  obtain ⟨r',y,h2,h3,h4⟩:=arg_cell h0 hE hR (List.mem_of_getElem? hA) hlt
  rw [hr] at h2; cases h2
  exact ⟨y,h3,h4⟩
 refine ⟨.agg ⟨(List.range sz).map ys⟩,⟨_,⟨(List.range sz).map ys⟩,h1,by simp,fun j' hj'=>?_,rfl⟩,⟨_,rfl,L2.ofIdx (by simp [hl]) fun j' a b ha hb=>?_⟩⟩
 ·rw [add_none,List.getElem?_toArray,List.getElem?_map,List.getElem?_range hj']
  show _=some (ys j')
  rw [← (hys j' hj').1]
  congr 2; show i*sz+r.2.1+j'=_; omega
 ·have hj':j'<sz:=by
   have:=(List.getElem?_eq_some_iff.1 hb).1
   rw [List.length_map,List.length_range] at this
   exact this
  rw [List.getElem?_map,List.getElem?_range hj'] at hb
  cases hb
  have hu:(F i)[j']?=some ((F i)[j']'(by omega)):=List.getElem?_eq_getElem (by omega)
  rw [List.getElem?_map,hu] at ha
  cases ha
  have h4:=(hys j' hj').2
  rw [rowF_at hl hu] at h4
  exact AV.sr h4 (List.all_eq_true.1 hs _ (List.getElem_mem _))
/-- one cell of it -/
theorem QY.rowF1 {x:Operand} {k o n sz j q:Nat} {F:Nat→List AV} {a:AV} (i:Nat) (hx:lv l x=some (.pointer (some ⟨k,o,none⟩))) (hA:n0.A[j]?=some (k,n*sz,Go.Tum.rowF sz F)) (ho:o=i*sz+q) (hi:i<n) (hl:(F i).length=sz) (hu:(F i)[q]?=some a) (hs:a.still=true):QY P n0 L l (.ld x) a.val:=by
 intro X w0 E0 w E l' h0 hE hR hl'
 obtain ⟨_,h1,a',rfl,_,r,hr,rfl⟩:=lv_ev hl' hx
 have hr:E[k]?=some r:=hr
 subst ho
 have hq:q<sz:=by rw [← hl]; exact (List.getElem?_eq_some_iff.1 hu).1
 have hlt:i*sz+q<n*sz:=by
  have:(i+1)*sz≤n*sz:=Nat.mul_le_mul_right _ hi
  rw [Nat.add_mul] at this; omega
 obtain ⟨r',y,h2,h3,h4⟩:=arg_cell h0 hE hR (List.mem_of_getElem? hA) hlt
 rw [hr] at h2; cases h2
 rw [rowF_at hl hu] at h4
 refine ⟨y,⟨_,h1,?_⟩,(AV.sr h4 hs).vr⟩
 rw [← h3]; congr 2; show i*sz+q+r.2.1=_; omega
/-- a cell of a row within a row -/
theorem argR_cell {X:Nat→Prop} {w0 w:World} {E0 E:Emb} {a:Addr} {n c m:Nat} {get:Nat→AV} (h0:n0.Ok P X w0 E0) (hR:Rep X w0 E L w) (h:n0.Has P (.s a n c m get)) {i:Nat} (hi:i<m) :
  ∃ y,w.cell? ⟨a.block,a.off+i,none⟩=some y∧(get i).is X w0 y:=by
 obtain ⟨y,h3⟩:=h X w0 E0 h0
 obtain ⟨h4,h5,h6⟩:=h3.2 (by omega)
 obtain ⟨y',h7,h8⟩:=h6 i hi
 exact ⟨y',by rw [← h7]; simp only [World.cell?,hR.fr.keep _ h4 h5],h8⟩
theorem QY.idxR {x i:Operand} {b o s n c k sz:Nat} {kd:IntKind} (hx:lv l x=some (.slice (some ⟨b,o,some s⟩) n c)) (hi:lv l i=some (.int kd (k:Int))) (h1:k<n):QY P n0 L l (.idx x i sz) (.pointer (some ⟨b,o+k*sz,some s⟩)):=by
 intro X w0 E0 w E l' h0 hE hR hl
 obtain ⟨_,g1,rfl | ⟨h2,_,_⟩⟩:=lv_ev hl hx
 rotate_left
 ·omega
 obtain ⟨_,g5,rfl⟩:=lv_ev hl hi
 refine ⟨_,⟨_,n,_,kd,(k:Int),g1,g5,by omega,by omega,rfl⟩,?_⟩
 rw [add_none]
 rfl
theorem QY.ldR {x:Operand} {b o s q:Nat} {n c m:Nat} {get:Nat→AV} {u:AV} (hx:lv l x=some (.pointer (some ⟨b,o,some s⟩))) (h:n0.Has P (.s ⟨b,q,none⟩ n c m get)) (i:Nat) (ho:o=q+i) (hi:i<m) (hu:get i=u) (hs:u.still=true):QY P n0 L l (.ld x) u.val:=by
 intro X w0 E0 w E l' h0 hE hR hl
 obtain ⟨_,h1,h2⟩:=lv_ev hl hx
 have h2:_=Value.pointer (some ⟨b,o,none⟩):=h2
 subst h2
 obtain ⟨y,h3,h4⟩:=argR_cell h0 hR h hi
 rw [hu] at h4
 subst ho
 exact ⟨y,⟨_,h1,h3⟩,(AV.sr h4 hs).vr⟩
theorem QY.ldnR {x:Operand} {b o s q:Nat} {n c n' sz:Nat} {F:Nat→List AV} (i:Nat) (hx:lv l x=some (.pointer (some ⟨b,o,some s⟩))) (h:n0.Has P (.s ⟨b,q,none⟩ n c (n'*sz) (Go.Tum.rowF sz F))) (ho:o=q+i*sz) (hi:i<n') (hl:(F i).length=sz) (hs:(F i).all AV.still=true):QY P n0 L l (.ldn x sz) (.agg ⟨(F i).map AV.val⟩):=by
 intro X w0 E0 w E l' h0 hE hR hl'
 obtain ⟨_,h1,h2⟩:=lv_ev hl' hx
 have h2:_=Value.pointer (some ⟨b,o,none⟩):=h2
 subst h2
 subst ho
 obtain ⟨ys,hys⟩:=choose_lt (n:=sz) (p:=fun j' (y:Value)=>w.cell? ⟨b,q+(i*sz+j'),none⟩=some y∧(Go.Tum.rowF sz F (i*sz+j')).is X w0 y) fun j' hj'=>by
  have hlt:i*sz+j'<n'*sz:=by
   have:(i+1)*sz≤n'*sz:=Nat.mul_le_mul_right _ hi
   rw [Nat.add_mul] at this; omega
  exact argR_cell h0 hR h hlt
 refine ⟨.agg ⟨(List.range sz).map ys⟩,⟨_,⟨(List.range sz).map ys⟩,h1,by simp,fun j' hj'=>?_,rfl⟩,⟨_,rfl,L2.ofIdx (by simp [hl]) fun j' a b ha hb=>?_⟩⟩
 ·rw [add_none,List.getElem?_toArray,List.getElem?_map,List.getElem?_range hj']
  show _=some (ys j')
  rw [← (hys j' hj').1]
  congr 2; show q+i*sz+j'=_; omega
 ·have hj':j'<sz:=by
   have:=(List.getElem?_eq_some_iff.1 hb).1
   rw [List.length_map,List.length_range] at this
   exact this
  rw [List.getElem?_map,List.getElem?_range hj'] at hb
  cases hb
  have hu:(F i)[j']?=some ((F i)[j']'(by omega)):=List.getElem?_eq_getElem (by omega)
  rw [List.getElem?_map,hu] at ha
  cases ha
  have h4:=(hys j' hj').2
  rw [rowF_at hl hu] at h4
  exact AV.sr h4 (List.all_eq_true.1 hs _ (List.getElem_mem _))
end

/-! ### what comes in: numbers,bools,structs of such,and slices of such,to any depth -/
inductive CN where
 | c (k:CK)
 | s (ks:List CN)
/-- how a cell may be: d deep at most -/
def CnOk:Nat→CN→AV→Prop
 | 0,_,_=>False
 | _+1,.c k,a=>∃ v,a=.v v∧CkOk k v
 | d+1,.s ks,a=>∃ b o n c F,a=.s ⟨b,o,none⟩ n c (n*ks.length) (rowF ks.length F)∧n≤c∧c≤9223372036854775807∧∀ i,i<n→(F i).length=ks.length∧∀ (j:Nat) (k:CN),ks[j]?=some k→∃ a',(F i)[j]?=some a'∧CnOk d k a'
def nestF (P:Program) (g:TypeId→Option (List CN)):List Field→Nat→Option (List CN)
 | [],_=>some []
 | f::fs,off=>match g f.type with
  | some ks=>if f.offset=off∧P.cellsOf f.type=ks.length then (match nestF P g fs (off+ks.length) with
   | some r=>some (ks++r)
   | none=>none) else none
  | none=>none
def nest (P:Program):Nat→TypeId→Option (List CN)
 | 0,_=>none
 | d+1,t=>match P.underlying t with
  | some (.int k)=>some [.c (some k)]
  | some .bool=>some [.c none]
  | some (.slice e)=>match nest P d e with
   | some ks=>if P.cellsOf e=ks.length∧0<ks.length then some [.s ks] else none
   | none=>none
  | some (.struct fs)=>match nestF P (nest P d) fs.toList 0 with
   | some ks=>if P.cellsOf t=ks.length then some ks else none
   | none=>none
  | _=>none
theorem CnOk.up:∀ {d:Nat} {k:CN} {a:AV},CnOk d k a→CnOk (d+1) k a
 | 0,_,_,h=>h.elim
 | _+1,.c _,_,h=>h
 | d+1,.s ks,a,h=>by
  obtain ⟨b,o,n,c,F,h1,h2,h3,h4⟩:=h
  exact ⟨b,o,n,c,F,h1,h2,h3,fun i hi=>⟨(h4 i hi).1,fun j k hk=>let ⟨a',g1,g2⟩:=(h4 i hi).2 j k hk; ⟨a',g1,g2.up⟩⟩⟩

section
variable {H:Type} {enc:TypeId × Value→H} {P:Program} {w:World}
/-- cells,as they may be -/
def FitN (d:Nat) (w:World) (ks:List CN) (cs:List Value):Prop:=cs.length=ks.length∧∀ (i:Nat) (k:CN),ks[i]?=some k→∃ v a,cs[i]?=some v∧CnOk d k a∧a.is (fun _=>False) w v
theorem nestF_fits {d:Nat} {g:TypeId→Option (List CN)} {fuel:Nat} (hg:∀ t ks,g t=some ks→∀ cs x,DataW.trod enc P w 0 (fun _=>true) true fuel t cs=some x→FitN d w ks cs) :
  ∀ (fs:List Field) (off:Nat) (ks:List CN) (cs:List Value) (xs:List (DataW H × List MemPlace)),nestF P g fs off=some ks→fs.mapM (fun f=>DataW.trod enc P w 0 (fun _=>true) true fuel f.type ((cs.drop f.offset).take (P.cellsOf f.type)))=some xs →
   ∀ (i:Nat) (k:CN),ks[i]?=some k→∃ v a,cs[off+i]?=some v∧CnOk d k a∧a.is (fun _=>False) w v
 | [],off,ks,cs,xs,h,_,i,k,hk=>by simp only [nestF,Option.some.injEq] at h; subst h; simp at hk
 | f::fs,off,ks,cs,xs,h,hm,i,k,hk=>by
  simp only [nestF] at h
  cases h1:g f.type with
  | none=>rw [h1] at h; cases h
  | some k1 =>
   rw [h1] at h
   simp only at h
   split at h
   ·rename_i hc
    cases h2:nestF P g fs (off+k1.length) with
    | none=>rw [h2] at h; cases h
    | some k2 =>
     rw [h2] at h; cases h
     simp only [List.mapM_cons,Option.bind_eq_bind,Option.bind_eq_some_iff] at hm
     obtain ⟨x,hx,ys,hys,_⟩:=hm
     have hfit:=hg f.type k1 h1 _ _ hx
     by_cases hi:i<k1.length
     ·rw [List.getElem?_append_left hi] at hk
      obtain ⟨v,a,hv,hok⟩:=hfit.2 i k hk
      rw [List.getElem?_take] at hv
      split at hv
      ·rw [List.getElem?_drop,hc.1] at hv; exact ⟨v,a,hv,hok⟩
      ·cases hv
     ·rw [List.getElem?_append_right (by omega)] at hk
      obtain ⟨v,a,hv,hok⟩:=nestF_fits hg fs (off+k1.length) k2 cs ys h2 hys (i-k1.length) k hk
      exact ⟨v,a,by rw [show off+i=off+k1.length+(i-k1.length) by omega]; exact hv,hok⟩
   ·cases h
/-- a row's cells,each told -/
theorem fits_row {d:Nat} {ks:List CN} {cs:List Value} (h:FitN d w ks cs):∃ L:List AV,L.length=ks.length∧∀ (j:Nat) (k:CN),ks[j]?=some k→∃ v a,cs[j]?=some v∧L[j]?=some a∧CnOk d k a∧a.is (fun _=>False) w v:=by
 obtain ⟨f,hf⟩:=choose_lt (n:=ks.length) (p:=fun j (a:AV)=>∀ k,ks[j]?=some k→∃ v,cs[j]?=some v∧CnOk d k a∧a.is (fun _=>False) w v) fun j hj=>by
  obtain ⟨v,a,h1,h2,h3⟩:=h.2 j _ (List.getElem?_eq_getElem hj)
  refine ⟨a,fun k hk=>?_⟩
  rw [List.getElem?_eq_getElem hj] at hk; cases hk
  exact ⟨v,h1,h2,h3⟩
 refine ⟨(List.range ks.length).map f,by simp,fun j k hk=>?_⟩
 have hj:=(List.getElem?_eq_some_iff.1 hk).1
 obtain ⟨v,h1,h2,h3⟩:=hf j hj k hk
 exact ⟨v,f j,h1,by rw [List.getElem?_map,List.getElem?_range hj]; rfl,h2,h3⟩
/-- the cells of a slice that came in,as an AV -/
theorem slice_av {d:Nat} {e:TypeId} {ks:List CN} {a:Addr} {len m nn:Nat} {D:Nat→DataW H} {Pl:Nat→List MemPlace} (hc:P.cellsOf e=ks.length) (hpos:0<ks.length) (hlm:len≤m)
  (hel:∀ i,i<m→∃ cs',w.cells? 0 (a.add (i*P.cellsOf e)) (P.cellsOf e)=some cs'∧DataW.trod enc P w 0 (fun _=>true) true nn e cs'=some (D i,Pl i))
  (hg:∀ cs x,DataW.trod enc P w 0 (fun _=>true) true nn e cs=some x→FitN d w ks cs) :
  ∃ F:Nat→List AV,(0<m→a.spot=none∧a.block<w.heap.size)∧(∀ i,i<m→(F i).length=ks.length∧∀ (j:Nat) (k:CN),ks[j]?=some k→∃ a',(F i)[j]?=some a'∧CnOk d k a') ∧
   ∀ i,i<m*ks.length→∃ y,w.cell? ⟨a.block,a.off+i,none⟩=some y∧(rowF ks.length F i).is (fun _=>False) w y:=by
 obtain ⟨get,hget⟩:=choose_lt (n:=m) (p:=fun i cs'=>w.cells? 0 (a.add (i*P.cellsOf e)) (P.cellsOf e)=some cs'∧DataW.trod enc P w 0 (fun _=>true) true nn e cs'=some (D i,Pl i)) hel
 obtain ⟨F,hF⟩:=choose_lt (n:=m) (p:=fun i (L:List AV)=>L.length=ks.length∧∀ (j:Nat) (k:CN),ks[j]?=some k→∃ v a,(get i)[j]?=some v∧L[j]?=some a∧CnOk d k a∧a.is (fun _=>False) w v) fun i hi=>fits_row (hg _ _ (hget i hi).2)
 obtain ⟨b,o,sp⟩:=a
 have hcell:∀ i,i<m→∀ (j:Nat) (u:Value),(get i)[j]?=some u→w.cell? ((⟨b,o,sp⟩:Addr).add (i*ks.length+j))=some u:=by
  intro i hi j u hu
  have:=(cells_cell (hget i hi).1).2 j u hu
  rw [add_add,hc] at this
  exact this
 have h00:0<m→sp=none∧b<w.heap.size:=by
  intro hm
  obtain ⟨v,_,hv,_⟩:=(hF 0 hm).2 0 _ (List.getElem?_eq_getElem hpos)
  have:=hcell 0 hm 0 v hv
  simp only [Nat.zero_mul,Nat.add_zero,Addr.add,if_true] at this
  have hsp:sp=none:=by
   cases sp with
   | none=>rfl
   | some x =>
    unfold World.cell? at this
    split at this
    ·simp at this
    ·cases this
  subst hsp
  refine ⟨rfl,?_⟩
  unfold World.cell? at this
  split at this
  ·rename_i hq; exact (Array.getElem?_eq_some_iff.1 hq).1
  ·cases this
 refine ⟨F,h00,fun i hi=>⟨(hF i hi).1,fun j k hk=>let ⟨v,a,_,h2,h3,_⟩:=(hF i hi).2 j k hk; ⟨a,h2,h3⟩⟩,fun i hi=>?_⟩
 have hdiv:i / ks.length<m:=Nat.div_lt_of_lt_mul (by rw [Nat.mul_comm]; exact hi)
 have hmod:i % ks.length<ks.length:=Nat.mod_lt _ hpos
 have hm:0<m:=Nat.lt_of_le_of_lt (Nat.zero_le _) hdiv
 obtain ⟨rfl,_⟩:=h00 hm
 obtain ⟨v,a,h1,h2,h3,h4⟩:=(hF _ hdiv).2 (i % ks.length) _ (List.getElem?_eq_getElem hmod)
 refine ⟨v,?_,?_⟩
 ·have:=hcell _ hdiv _ v h1
  rw [add_none,Nat.mul_comm,Nat.div_add_mod] at this
  exact this
 ·have:=rowF_at (F:=F) (i:=i / ks.length) (hF _ hdiv).1 h2
  rw [Nat.mul_comm,Nat.div_add_mod] at this
  rw [this]; exact h4
theorem nest_fits:∀ (d:Nat) (t:TypeId) (ks:List CN),nest P d t=some ks→∀ (fuel:Nat) (cs:List Value) (x:DataW H × List MemPlace),DataW.trod enc P w 0 (fun _=>true) true fuel t cs=some x→FitN d w ks cs:=by
 intro d
 induction d with
 | zero=>intro t ks h; cases h
 | succ d ih =>
  intro t ks h fuel cs x hx
  cases fuel with
  | zero=>cases hx
  | succ fuel =>
   simp only [nest] at h
   cases hu:P.underlying t with
   | none=>rw [hu] at h; cases h
   | some u =>
    rw [hu] at h
    cases u <;> simp only [reduceCtorEq] at h
    case int k =>
     cases h
     obtain ⟨n,e0,_,wn⟩:=DataW.trod_int hu hx
     subst e0
     refine ⟨rfl,fun i k' hk=>?_⟩
     cases i with
     | zero=>simp at hk; subst hk; exact ⟨_,.v _,rfl,⟨_,rfl,n,rfl,wn⟩,rfl⟩
     | succ i=>simp at hk
    case bool =>
     cases h
     obtain ⟨b,e0,_⟩:=DataW.trod_bool hu hx
     subst e0
     refine ⟨rfl,fun i k' hk=>?_⟩
     cases i with
     | zero=>simp at hk; subst hk; exact ⟨_,.v _,rfl,⟨_,rfl,b,rfl⟩,rfl⟩
     | succ i=>simp at hk
    case slice e =>
     cases hn:nest P d e with
     | none=>rw [hn] at h; cases h
     | some k1 =>
      rw [hn] at h
      simp only at h
      split at h
      rotate_left
      ·cases h
      rename_i hc
      cases h
      rcases open_slice hu hx with ⟨h0,_⟩ | ⟨a,len,cap,m,nn,D,Pl,h0,_,hl,hm,hmm,_,hel⟩
      ·subst h0
       refine ⟨rfl,fun i k' hk=>?_⟩
       cases i with
       | succ i=>simp at hk
       | zero =>
        simp at hk; subst hk
        exact ⟨_,.s ⟨0,0,none⟩ 0 0 (0*k1.length) (rowF k1.length fun _=>[]),rfl,⟨0,0,0,0,fun _=>[],rfl,by omega,by omega,fun i hi=>absurd hi (by omega)⟩,   .inr ⟨rfl,rfl,_,rfl⟩,fun h0=>absurd h0 (by omega)⟩
      ·subst h0
       have hm':m=cap:=by rw [hmm]; simp
       subst hm'
       have hmax:m≤9223372036854775807:=by unfold maxLen at hm; omega
       obtain ⟨F,h1,h2,h3⟩:=slice_av (d:=d) hc.1 hc.2 hl hel fun cs x hx=>ih e k1 hn nn cs x hx
       refine ⟨rfl,fun i k' hk=>?_⟩
       cases i with
       | succ i=>simp at hk
       | zero =>
        simp at hk; subst hk
        obtain ⟨b,o,sp⟩:=a
        rcases Nat.eq_zero_or_pos m with h0 | h0
        ·subst h0
         obtain rfl:len=0:=by omega
         exact ⟨_,.s ⟨b,o,none⟩ 0 0 (0*k1.length) (rowF k1.length fun _=>[]),rfl,⟨b,o,0,0,fun _=>[],rfl,by omega,by omega,fun i hi=>absurd hi (by omega)⟩,.inr ⟨rfl,rfl,_,rfl⟩,fun h0=>absurd h0 (by omega)⟩
        ·obtain ⟨rfl,hb⟩:=h1 h0
         have hle:len*k1.length≤m*k1.length:=Nat.mul_le_mul_right _ hl
         exact ⟨_,.s ⟨b,o,none⟩ len m (len*k1.length) (rowF k1.length F),rfl,⟨b,o,len,m,F,rfl,hl,hmax,fun i hi=>h2 i (by omega)⟩,.inl rfl,fun _=>⟨hb,fun x=>x,fun i hi=>h3 i (by omega)⟩⟩
    case struct fs =>
     cases hf:nestF P (nest P d) fs.toList 0 with
     | none=>rw [hf] at h; cases h
     | some k1 =>
      rw [hf] at h
      simp only at h
      split at h
      ·rename_i hc
       cases h
       have hx':(if cs.length=P.cellsOf t then (fs.toList.mapM fun f=>DataW.trod enc P w 0 (fun _=>true) true fuel f.type ((cs.drop f.offset).take (P.cellsOf f.type))).map fun xs=>((DataW.agg (xs.map (·.1)),xs.flatMap (·.2)):DataW H × List MemPlace) else none)=some x:=by
        rw [← hx]; simp only [DataW.trod,hu]
       split at hx'
       ·rename_i hl
        rw [Option.map_eq_some_iff] at hx'
        obtain ⟨xs,hxs,_⟩:=hx'
        refine ⟨by rw [hl,hc],fun i k hk=>?_⟩
        obtain ⟨v,a,h1,h2,h3⟩:=nestF_fits (enc:=enc) (w:=w) (fuel:=fuel) (fun t ks h cs x hx=>ih t ks h fuel cs x hx) fs.toList 0 _ cs xs hf hxs i k hk
        exact ⟨v,a,by simpa using h1,h2.up,h3⟩
       ·cases hx'
      ·cases h
/-- A slice that came in,whose rows may hold rows. -/
def SlInN (w:World) (sz:Nat) (v:Value) (n:Nat) (F:Nat→List AV):Prop :=
 n≤9223372036854775807∧∃ r:Nat × Nat × Nat,∀ (E:Emb) (k:Nat),E[k]?=some r→VR E (.slice (some ⟨k,0,none⟩) n n) v∧ArgAt (fun _=>False) w E k (n*sz) (rowF sz F)
theorem open_inN {t e:TypeId} {d:Nat} {ks:List CN} {v:Value} {dd:DataW H} {p:List MemPlace} (ht:P.underlying t=some (.slice e)) (hk:nest P d e=some ks) (hc:P.cellsOf e=ks.length) (hpos:0<ks.length)
  (hv:∃ a len cap,v=.slice a len cap) (h:DataW.Trod enc P w 0 (fun _=>true) true t v dd p):∃ n F,SlInN w ks.length v n F∧∀ i,i<n→(F i).length=ks.length∧∀ (j:Nat) (k:CN),ks[j]?=some k→∃ a,(F i)[j]?=some a∧CnOk d k a:=by
 obtain ⟨a0,len,cap,rfl⟩:=hv
 obtain ⟨fuel,hf⟩:=h
 have hf':DataW.trod enc P w 0 (fun _=>true) true fuel t [.slice a0 len cap]=some (dd,p):=hf
 rcases open_slice ht hf' with ⟨h0,_⟩ | ⟨a,len',cap',m,nn,D,Pl,h0,_,hl,hm,hmm,hx,hel⟩
 ·cases h0
  exact ⟨0,fun _=>[],⟨by omega,(0,0,0),fun E k hE=>⟨⟨rfl,_,hE,.inr ⟨rfl,rfl,_,rfl⟩⟩,fun h0=>by omega⟩⟩,fun i hi=>absurd hi (by omega)⟩
 ·cases h0
  have hm':m=cap:=by rw [hmm]; simp
  subst hm'
  have hmax:len≤9223372036854775807:=by unfold maxLen at hm; omega
  obtain ⟨F,h1,h2,h3⟩:=slice_av (d:=d) hc hpos hl hel fun cs x hx=>nest_fits d e ks hk nn cs x hx
  obtain ⟨b,o,sp⟩:=a
  rcases Nat.eq_zero_or_pos m with hm0 | hm0
  ·subst hm0
   have hl0:len=0:=by omega
   subst hl0
   exact ⟨0,F,⟨by omega,(0,0,0),fun E k hE=>⟨⟨rfl,_,hE,.inr ⟨rfl,rfl,_,rfl⟩⟩,fun h0=>by omega⟩⟩,fun i hi=>absurd hi (by omega)⟩
  ·obtain ⟨rfl,hb⟩:=h1 hm0
   have hle:len*ks.length≤m*ks.length:=Nat.mul_le_mul_right _ hl
   exact ⟨len,F,⟨hmax,(b,o,m-len),fun E k hE=>⟨⟨rfl,_,hE,.inl ⟨_,_,rfl,.inl ⟨by simp,by simp; omega⟩⟩⟩,fun h0=>⟨_,hE,hb,fun x=>x,fun i hi=>h3 i (by omega)⟩⟩⟩,fun i hi=>h2 i (by omega)⟩
end
end Go.Tum
end
section
/-
 The logic over named blocks: what slices.Insert and slices.Delete do to rows: cap,append in place,copies within a row,whether rows overlap.
-/
namespace Go.Tum
open Go

section
variable {P:Program} {n0:NA} {K:Env→LH→Prop} {l:Env} {L:LH} {T:Taken} {α:Type} {gr:α→List Value} {sz:Nat}

theorem get_slice {E:Emb} {b n c:Nat} {v:Value} (h:VR E (.slice (some ⟨b,0,none⟩) n c) v) (hn:0<n):∃ r,E[b]?=some r∧v=.slice (some ⟨r.1,0+r.2.1,none⟩) n (c+r.2.2):=by
 obtain ⟨_,r,hr,⟨a',c',rfl,⟨rfl,rfl⟩ | ⟨h0,_⟩⟩ | ⟨h0,_⟩⟩:=h
 ·exact ⟨r,hr,rfl⟩
 ·omega
 ·omega
/-- the capacity of a row: it is full,or there is room for one more -/
theorem S_cap {n b t t1 k:Nat} {xs:List α} {rest:Env} {o:Oper} {x:Operand} {sT:TypeId} {d:Option Nat} {g0:Option (Nat × Bool)} {rd:Bool} {r:List Step} (h:RowOk gr sz) (hz:0<sz) (hn:xs.length=n) (hpos:0<n) (ho:o.op=.call ⟨.builtin .cap,⟨[x]⟩,⟨[sT]⟩⟩)
  (hsT:(match P.underlying sT with | some (.slice _)=>true | _=>false)=true) (hg:gw g0 ((t1,.slice (some ⟨b,0,none⟩) n n)::(t,.slice (some ⟨b,0,none⟩) n n)::rest)=some true) (hx:lv ((t1,.slice (some ⟨b,0,none⟩) n n)::(t,.slice (some ⟨b,0,none⟩) n n)::rest) x=some (.slice (some ⟨b,0,none⟩) n n)) (hfr:eget rest t1=none) (hb:L[b]?=some (.gro sz (rowsC gr xs)))
  (hA:LSt P n0 r K (dpush d (.int .i64 n) ((t1,.slice (some ⟨b,0,none⟩) n n)::(t,.slice (some ⟨b,0,none⟩) n n)::rest)) (bif rd then (k,.raw o,(t1,.slice (some ⟨b,0,none⟩) n n)::(t,.slice (some ⟨b,0,none⟩) n n)::rest,.int .i64 n)::T else T) (L.set b (.cells 0 (rowsC gr xs))))
  (hB:∀ (c:Nat) (zs:List Value),zs.length=sz→n+1≤c→LSt P n0 r K (dpush d (.int .i64 c) ((t,.slice (some ⟨L.length,0,none⟩) n (n+1))::rest)) (bif rd then (k,.raw o,(t1,.slice (some ⟨b,0,none⟩) n n)::(t,.slice (some ⟨b,0,none⟩) n n)::rest,.int .i64 c)::T else T) (L.set b .dead++[.gro sz (rowsC gr xs++zs)])) :
  LSt P n0 (.q k d g0 (.raw o) rd::r) K ((t1,.slice (some ⟨b,0,none⟩) n n)::(t,.slice (some ⟨b,0,none⟩) n n)::rest) T L:=by
 refine ⟨fun X w0 E0 w E l' F h0 hE hR hl hT=>?_⟩
 simp only [stepsWp]
 refine gw_ok hl hg (fun _=>?_) (fun e=>by cases e)
 obtain ⟨v',h1,h2⟩:=lv_ev hl hx
 obtain ⟨q,hq,rfl⟩:=get_slice h2 hpos
 obtain ⟨vt,ht1,ht2⟩:=hl.get (t:=t) (v:=.slice (some ⟨b,0,none⟩) n n) (by rw [eget_cons]; split; rfl; rw [eget_cons,if_pos rfl])
 obtain ⟨q',hq',rfl⟩:=get_slice ht2 hpos
 rw [hq] at hq'; cases hq'
 have hlen:=rowsC_length h xs
 have hpos2:0<n*sz:=Nat.mul_pos hpos hz
 have hst:=rowsC_still h xs
 have hy:(QOp.raw o).Y P l' (.int .i64 ((n+q.2.2:Nat):Int)) w:=by
  intro ρ w1 ha hs
  obtain ⟨d',op,ty,pos,af,gg⟩:=o
  simp only at ho
  subst ho
  split at hsT
  ·rename_i e hu
   simp [execOp,resolve,invoke,builtin,ha x _ h1,Builtin.cap_,run_underlying hu,goInt]
  ·cases hsT
 refine ⟨_,hy,?_⟩
 rcases hR.blk b _ q hb hq with ⟨hne,_⟩ | ⟨hne,_,cs,hBk,hcs,hroom⟩
 ·rw [hne] at hlen; simp at hlen; rw [hn] at hlen; omega
 rcases Nat.eq_zero_or_pos q.2.2 with h00 | h01
 ·have hR':Rep X w0 E (L.set b (.cells 0 (rowsC gr xs))) w:=by
   refine hR.upd hb hq (Fr.refl _ w) ⟨cs,hBk,?_,by rw [h00]; omega,fun _=>h00⟩ (by rw [gro_foot hne]; exact fun _ h=>.inl h)
   rw [hcs]; exact L2.self fun u hu=>SR.still (List.all_eq_true.1 hst u hu)
  rw [h00,Nat.add_zero]
  cases rd
  ·exact hA.go X w0 E0 w E _ _ h0 hE hR' (ER.dpush hl (show VR E (.int .i64 (n:Int)) (.int .i64 (n:Int)) from rfl) d) hT
  ·exact hA.go X w0 E0 w E _ _ h0 hE hR' (ER.dpush hl (show VR E (.int .i64 (n:Int)) (.int .i64 (n:Int)) from rfl) d) ⟨rfl,⟨l',_,rfl,hl,rfl⟩,hT⟩
 ·obtain ⟨ρ,hρ⟩:∃ ρ,q.2.2=ρ+1:=⟨q.2.2-1,by omega⟩
  have hrm:q.2.1+(rowsC gr xs).length+sz+ρ*sz≤cs.length:=by
   have:=hroom
   rw [hρ,Nat.add_mul,Nat.one_mul] at this
   omega
  have hzl:((cs.drop (q.2.1+(rowsC gr xs).length)).take sz).length=sz:=by simp; omega
  have hcat:(cs.drop q.2.1).take (rowsC gr xs++(cs.drop (q.2.1+(rowsC gr xs).length)).take sz).length=rowsC gr xs++(cs.drop (q.2.1+(rowsC gr xs).length)).take sz:=by
   rw [List.length_append,hzl,List.take_add,hcs,List.drop_drop]
  have hne2:rowsC gr xs++(cs.drop (q.2.1+(rowsC gr xs).length)).take sz≠[]:=by
   intro e; have:=congrArg List.length e; rw [List.length_append,hzl] at this; simp at this; omega
  have hR':Rep X w0 (E++[(q.1,q.2.1,ρ)]) (L.set b .dead++[.gro sz (rowsC gr xs++(cs.drop (q.2.1+(rowsC gr xs).length)).take sz)]) w:=by
   refine hR.again hb hq (Fr.refl _ w) (fun c hc=>.inl ?_) (.inr ⟨hne2,hz,cs,hBk,hcat,?_⟩)
   ·rw [gro_foot hne]; rw [gro_foot hne2] at hc; exact hc
   ·show q.2.1+(rowsC gr xs++_).length+ρ*sz≤cs.length
    rw [List.length_append,hzl]; omega
  have hlast:(E++[(q.1,q.2.1,ρ)])[L.length]?=some (q.1,q.2.1,ρ):=by rw [← hR.len]; simp
  have hER:ER (E++[(q.1,q.2.1,ρ)]) ((t,.slice (some ⟨L.length,0,none⟩) n (n+1))::rest) l':=by
   intro u v hu
   rw [eget_cons] at hu
   by_cases e:t=u
   ·subst e
    rw [if_pos rfl] at hu; cases hu
    exact ⟨_,ht1,rfl,_,hlast,.inl ⟨_,_,rfl,.inl ⟨rfl,by rw [hρ]; simp only; omega⟩⟩⟩
   ·rw [if_neg e] at hu
    by_cases e1:t1=u
    ·subst e1; exact absurd hu (by rw [hfr]; exact fun h=>by cases h)
    ·obtain ⟨v',g1,g2⟩:=hl.get (t:=u) (v:=v) (by rw [eget_cons,if_neg e1,eget_cons,if_neg e]; exact hu)
     exact ⟨v',g1,g2.ext (Ext.push E _)⟩
  have hb':=hB (n+q.2.2) _ hzl (by omega)
  cases rd
  ·exact hb'.go X w0 E0 w _ _ _ h0 (hE.trans (Ext.push E _)) hR' (ER.dpush hER (show VR _ (.int .i64 ((n+q.2.2:Nat):Int)) (.int .i64 ((n+q.2.2:Nat):Int)) from rfl) d) (hT.ext (Ext.push E _))
  ·exact hb'.go X w0 E0 w _ _ _ h0 (hE.trans (Ext.push E _)) hR' (ER.dpush hER (show VR _ (.int .i64 ((n+q.2.2:Nat):Int)) (.int .i64 ((n+q.2.2:Nat):Int)) from rfl) d) ⟨rfl,⟨l',_,rfl,hl.ext (Ext.push E _),rfl⟩,hT.ext (Ext.push E _)⟩

/-- append of zeros,told by their number,to the beginning of a row that is full -/
def appZT (P:Program) (sT xT:TypeId):Option (Nat × Nat × List Value) :=
 match elemOf P sT,P.underlying xT with
 | some (_,i,z),some (.int _)=>bif Nat.beq z.cells.toList.length i.size && Nat.blt 0 i.size && Nat.blt 0 i.bytes then some (i.size,i.bytes,z.cells.toList) else none
 | _,_=>none
theorem EW.appZ {o:Oper} {s x:Operand} {sT xT:TypeId} {bytes b i n k:Nat} {zs:List Value} {xs:List α} {z0:α} (h:RowOk gr sz) (ho:o.op=.call ⟨.builtin .append,⟨[s,x]⟩,⟨[sT,xT]⟩⟩) (ht:appZT P sT xT=some (sz,bytes,zs)) (hg0:gr z0=zs)
  (hs:lv l s=some (.slice (some ⟨b,0,none⟩) i n)) (hx:lv l x=some (.int .i64 (k:Int))) (hb:L[b]?=some (.cells 0 (rowsC gr xs))) (hn:xs.length=n) (hi:i≤n) (hn0:0<n) (hk:n<i+k) (hbd:(i+k)*bytes≤140737488355328) :
  EW P n0 L l (.raw o) (fun v K=>v=.slice (some ⟨L.length,0,none⟩) (i+k) (i+k)∧K=L.set b (.gro sz (rowsC gr xs))++[.gro sz (rowsC gr (xs.take i++List.replicate k z0))]):=by
 intro X w0 E0 w E l' Kf h0 hE hR hl hK
 unfold appZT at ht
 split at ht
 rotate_left
 ·cases ht
 rename_i e ie z kn he hxT
 cases hc:(Nat.beq z.cells.toList.length ie.size && Nat.blt 0 ie.size && Nat.blt 0 ie.bytes)
 ·rw [hc] at ht; cases ht
 rw [hc] at ht; cases ht
 simp only [Bool.and_eq_true] at hc
 obtain ⟨hu,hie,hz⟩:=elemOf_ok he
 have hsz:0<ie.size:=Nat.le_of_ble_eq_true hc.1.2
 have hby:0<ie.bytes:=Nat.le_of_ble_eq_true hc.2
 have hzl:=Nat.eq_of_beq_eq_true hc.1.1
 obtain ⟨vs',h1,h2⟩:=lv_ev hl hs
 obtain ⟨_,h3,rfl⟩:=lv_ev hl hx
 obtain ⟨r,hr⟩:=hR.ent hb
 obtain ⟨cs,hB,hl2,hroom,hz0⟩:=hR.blk b _ r hb hr
 have hr0:r.2.2=0:=hz0 rfl
 have hst:=rowsC_still h xs
 have hce:=L2.eq_still hst hl2
 obtain ⟨a',c',rfl,hbase,hc'⟩:∃ a' c',vs'=.slice a' i c'∧(0<i→a'=some ⟨r.1,0+r.2.1,none⟩)∧c'≤n:=by
  obtain ⟨_,q,hq,⟨a',c',rfl,⟨rfl,rfl⟩ | ⟨h00,h01,h02,_⟩⟩ | ⟨h00,h01,_⟩⟩:=h2
  ·rw [hr] at hq; cases hq
   exact ⟨_,_,rfl,fun _=>rfl,by omega⟩
  ·omega
  ·omega
 have hlen:=rowsC_length h xs
 rw [hn] at hlen
 have hle:i*ie.size≤n*ie.size:=Nat.mul_le_mul_right _ hi
 obtain ⟨d,op,ty,pos,af,g'⟩:=o
 simp only at ho
 subst ho
 intro ρ w1 ha hsim
 have hRd:Rd w1 ie.size (.slice a' i c') i ((rowsC gr xs).take (i*ie.size)):=by
  refine ⟨by rw [List.length_take,hlen]; omega,fun u hu=>(SR.still (E:=E) (List.all_eq_true.1 hst u (List.mem_of_mem_take hu))).one.1,?_⟩
  rcases Nat.eq_zero_or_pos i with hi0 | hi0
  ·subst hi0; exact .inl ⟨⟨_,_,rfl⟩,by simp⟩
  ·refine .inr ⟨r.1,0+r.2.1,c',cs,by rw [hbase hi0],hB.sim hsim,by omega,?_⟩
   rw [← hce,List.take_take,hlen,Nat.min_eq_left hle]
   congr 2; omega
 have hfc:(Builtin.firstCells ie.size i (.slice a' i c')).run P w1.drew=.ok ((rowsC gr xs).take (i*ie.size)).toArray w1.drew:=firstCells_rd (hRd.sim (w0:=w1.drew) ⟨rfl,rfl,rfl,rfl⟩)
 have hk0:0<k:=by omega
 have hikb:k*ie.bytes≤(i+k)*ie.bytes:=Nat.mul_le_mul_right _ (by omega)
 have hik1:(i+k)*1≤(i+k)*ie.bytes:=Nat.mul_le_mul_left _ hby
 have hrun:=Lib.run_append_grow_zeros (P:=P) w1 sT xT ty e ie z .i64 kn hu hxT hie hz a' i c' _ hfc k hk0 hsz (by omega) (by omega) (by omega) (growslice_fits (by omega) hbd)
 have hzc:∀ m,(Builtin.zeroCells z.cells m).toList=repC m z.cells.toList:=fun m=>by
  unfold Builtin.zeroCells
  rw [rangeC z.cells m (by rw [← Array.length_toList,hzl]; exact hsz)]
 have hrk:repC k z.cells.toList=rowsC gr (List.replicate k z0):=by rw [← hg0]; exact repC_rows z0 k
 obtain ⟨G,hG⟩:∃ G,G=grownCap w1 (i+k) c' e:=⟨_,rfl⟩
 rw [← hG] at hrun
 have hGn:i+k≤G:=by rw [hG]; exact grownCap_ge w1 _ _ _
 have hcells:(((rowsC gr xs).take (i*ie.size)).toArray++Builtin.zeroCells z.cells k++Builtin.zeroCells z.cells (G-(i+k)))=(rowsC gr (xs.take i++List.replicate k z0)++repC (G-(i+k)) z.cells.toList).toArray:=by
  apply Array.ext'
  simp only [Array.toList_append,hzc,hrk,rowsC_append,rowsC_take h]
 rw [hcells] at hrun
 have hexec:execOp ρ ⟨d,.call ⟨.builtin .append,#[s,x],#[sT,xT]⟩,ty,pos,af,g'⟩=(do let r ← Builtin.append_ #[sT,xT] ty #[.slice a' i c',.int .i64 (k:Int)]; pure (Next.value r)):=by
  simp [execOp,resolve,invoke,builtin,ha s _ h1,ha x _ h3]
 refine Eff.value (v:=.slice (some ⟨w1.heap.size,0,none⟩) (i+k) G) (w':=w1.drew.alloc (.cells (rowsC gr (xs.take i++List.replicate k z0)++repC (G-(i+k)) z.cells.toList).toArray e)) ?_ ⟨w.alloc (.cells (rowsC gr (xs.take i++List.replicate k z0)++repC (G-(i+k)) z.cells.toList).toArray e),Sim.trans (b:=w1.alloc _) ?_ (hsim.push _),?_⟩
 ·show (execOp ρ ⟨d,.call ⟨.builtin .append,#[s,x],#[sT,xT]⟩,ty,pos,af,g'⟩).run P w1=_
  rw [hexec]; simp [hrun]
 ·exact ⟨rfl,rfl,rfl,rfl⟩
 ·rw [hsim.heap]
  have hrl:(rowsC gr (xs.take i++List.replicate k z0)).length=(i+k)*ie.size:=by rw [rowsC_length h,List.length_append,List.length_take,List.length_replicate,Nat.min_eq_left (by omega)]
  have hp2:0<(i+k)*ie.size:=Nat.mul_pos (by omega) hsz
  have hp3:0<n*ie.size:=Nat.mul_pos hn0 hsz
  have hRg:Rep X w0 E (L.set b (.gro ie.size (rowsC gr xs))) w:=wk_new ie.size hb (by intro e; rw [e] at hlen; simp at hlen; omega) hsz hst _ _ _ _ hR
  have hne:rowsC gr (xs.take i++List.replicate k z0)≠[]:=by intro e; rw [e] at hrl; simp at hrl; omega
  refine hK _ (E++[(w.heap.size,0,G-(i+k))]) _ _ _ ⟨rfl,rfl⟩ (Ext.push E _) (hRg.push1 (Fr.alloc _ w _) rfl (alloc_size _ _) (fun b hb=>by rw [gro_foot hne] at hb; exact hb) (.inr ⟨hne,hsz,_,Blk.new w _ _,by simp,?_⟩)) ⟨rfl,_,hR.last _,.inl ⟨_,_,rfl,.inl ⟨by simp,by simp; omega⟩⟩⟩
  show 0+_+(G-(i+k))*ie.size≤_
  rw [List.length_append,repC_length,hzl]; omega
/-- a row with room for one more: what stands from i on goes up by one -/
theorem EW.copyUp {o:Oper} {x y:Operand} {dT sT:TypeId} {b i n dn sn dc sc:Nat} {xs:List α} {zs:List Value} (h:RowOk gr sz) (ho:o.op=.call ⟨.builtin .copy,⟨[x,y]⟩,⟨[dT,sT]⟩⟩) (ht:cpyT P dT=some sz)
  (hx:lv l x=some (.slice (some ⟨b,(i+1)*sz,none⟩) dn dc)) (hy:lv l y=some (.slice (some ⟨b,i*sz,none⟩) sn sc)) (hb:L[b]?=some (.gro sz (rowsC gr xs++zs))) (hdn:dn=n-i) (hsn:sn=n+1-i)
  (hn:xs.length=n) (hi:i<n) (hzl:zs.length=sz) (hz:0<sz) :
  EW P n0 L l (.raw o) (fun v K=>v=.int .i64 (n-i:Nat)∧K=L.set b (.gro sz (rowsC gr (xs.take (i+1)++xs.drop i)))):=by
 subst hdn; subst hsn
 intro X w0 E0 w E l' Kf h0 hE hR hl hK
 unfold cpyT at ht
 split at ht
 rotate_left
 ·cases ht
 rename_i e ie z he
 cases ht
 obtain ⟨hu,hie,_⟩:=elemOf_ok he
 obtain ⟨vd',h1,h2⟩:=lv_ev hl hx
 obtain ⟨vs',h3,h4⟩:=lv_ev hl hy
 obtain ⟨d,op,ty,pos,af,gg⟩:=o
 simp only at ho
 subst ho
 have hmin:min (n+1-i) (n-i)=n-i:=by omega
 have hlen:=rowsC_length h xs
 rw [hn] at hlen
 obtain ⟨_,r,hr,⟨a1,c1,rfl,hcase⟩ | ⟨hz0,_⟩⟩:=h2
 rotate_left
 ·omega
 rcases hcase with ⟨rfl,rfl⟩ | ⟨hz0,_⟩
 rotate_left
 ·omega
 obtain ⟨_,q,hq,⟨a2,c2,rfl,hcase⟩ | ⟨hz0,_⟩⟩:=h4
 rotate_left
 ·omega
 rcases hcase with ⟨rfl,rfl⟩ | ⟨hz0,_⟩
 rotate_left
 ·omega
 have hq:E[b]?=some q:=hq
 have hr:E[b]?=some r:=hr
 rw [hr] at hq; cases hq
 have e1:i*ie.size+(n-i)*ie.size=n*ie.size:=by rw [← Nat.add_mul]; congr 1; omega
 have e2:(i+1)*ie.size=i*ie.size+ie.size:=by rw [Nat.add_mul,Nat.one_mul]
 have hpos:0<(n-i)*ie.size:=Nat.mul_pos (by omega) hz
 have hmv:((rowsC gr xs++zs).drop (i*ie.size)).take ((n-i)*ie.size)=rowsC gr (xs.drop i):=by
  rw [List.drop_append_of_le_length (by omega),List.take_append_of_le_length (by rw [List.length_drop]; omega),rowsC_drop h,List.take_of_length_le]
  rw [rowsC_length h,List.length_drop,hn]; omega
 have hml:(rowsC gr (xs.drop i)).length=(n-i)*ie.size:=by rw [rowsC_length h,List.length_drop,hn]
 have hst:=rowsC_still h (xs.drop i)
 obtain ⟨cs,hB,hcl,hR'⟩:=hR.putg (o:=(i+1)*ie.size) (us:=rowsC gr (xs.drop i)) hb hr hst (by rw [hml,List.length_append,hlen,hzl]; omega) (by rw [hml]; exact hpos)
 rcases hR.blk b _ r hb hr with ⟨hne,_⟩ | ⟨_,_,cs',hB',hcs,hroom⟩
 ·have:=congrArg List.length hne; rw [List.length_append,hzl] at this; simp at this; omega
 obtain rfl:=hB.eq hB'
 have hrd:(cs.drop (i*ie.size+r.2.1)).take ((n-i)*ie.size)=rowsC gr (xs.drop i):=by
  rw [← hmv,← hcs,List.length_append,hlen,hzl,List.drop_take,List.drop_drop,List.take_take,Nat.min_eq_left (by omega),Nat.add_comm]
 refine copy_any (ty:=ty) hu hie h1 h3 (fun hm=>by omega) (fun hp=>?_)
 rw [hmin]
 refine ⟨_,_,_,_,cs,cs,rfl,rfl,hB,hB,by rw [hml] at hcl; exact hcl,?_,?_,?_⟩
 ·have h9:i*ie.size+r.2.1+(n-i)*ie.size≤cs.length:=by rw [hml] at hcl; omega
  exact h9
 ·rw [hrd]; exact fun u hu=>(SR.still (E:=E) (List.all_eq_true.1 hst u hu)).one.1
 ·rw [hrd]
  refine hK _ E _ _ _ ⟨rfl,rfl⟩ (Ext.refl E) ?_ rfl
  have e3:splice (rowsC gr xs++zs) ((i+1)*ie.size) (rowsC gr (xs.drop i))=rowsC gr (xs.take (i+1)++xs.drop i):=by
   have hle1:(i+1)*ie.size≤n*ie.size:=Nat.mul_le_mul_right _ hi
   rw [splice,rowsC_append,List.take_append_of_le_length (by omega),rowsC_take h,hml]
   have e4:List.drop ((i+1)*ie.size+(n-i)*ie.size) (rowsC gr xs++zs)=[]:=List.drop_of_length_le (by rw [List.length_append,hlen,hzl]; omega)
   rw [e4,List.append_nil]
  rw [e3] at hR'
  exact hR'

/-- rows that lie in two blocks do not overlap -/
theorem EW.ovl {o:Oper} {x y:Operand} {f:FuncId} {tS tR e:TypeId} {ts:Array TypeId} {bx b i n c m mc:Nat} {us vs:List Value} (ho:o.op=.call ⟨.value (.func f),⟨[x,y]⟩,ts⟩)
  (hf:∀ (args:Array Value) (w:World),(callFunc f args).run P w=((Extern.SlicesOverlaps.overlaps #[tS,tS] #[tR] args).run P w).andThen fun v w'=>.ok (.value v) w') (hu:P.underlying tS=some (.slice e)) (hi:(P.info? e).isSome=true)
  (hx:lv l x=some (.slice (some ⟨bx,0,none⟩) m mc)) (hy:lv l y=some (.slice (some ⟨b,i,none⟩) n c)) (hbx:L[bx]?=some (.cells 0 us)) (hb:L[b]?=some (.gro sz vs)) (hm:0<m) (hn:0<n) (hv:vs≠[]) (hne:bx≠b) :
  EW P n0 L l (.raw o) (fun v K=>v=.bool false∧K=L):=by
 intro X w0 E0 w E l' Kf h0 hE hR hl hK
 obtain ⟨vd',h1,h2⟩:=lv_ev hl hx
 obtain ⟨vs',h3,h4⟩:=lv_ev hl hy
 obtain ⟨d,op,ty,pos,af,gg⟩:=o
 simp only at ho
 subst ho
 obtain ⟨_,r,hr,⟨a1,c1,rfl,hcase⟩ | ⟨hz0,_⟩⟩:=h2
 rotate_left
 ·omega
 rcases hcase with ⟨rfl,rfl⟩ | ⟨hz0,_⟩
 rotate_left
 ·omega
 obtain ⟨_,q,hq,⟨a2,c2,rfl,hcase⟩ | ⟨hz0,_⟩⟩:=h4
 rotate_left
 ·omega
 rcases hcase with ⟨rfl,rfl⟩ | ⟨hz0,_⟩
 rotate_left
 ·omega
 have hr:E[bx]?=some r:=hr
 have hq:E[b]?=some q:=hq
 obtain ⟨cs,hB,_,_,_⟩:=hR.blk bx _ r hbx hr
 rcases hR.blk b _ q hb hq with ⟨hne2,_⟩ | ⟨_,_,cs2,hB2,hcs2,_⟩
 ·exact absurd hne2 hv
 have hblk:r.1≠q.1:=fun e=>hne (hR.inj bx b _ _ r q r.1 hbx hb hr hq rfl (by rw [gro_foot hv]; exact e))
 have hk2:cs2.length≠0:=by
  intro e0
  have:cs2=[]:=List.length_eq_zero_iff.1 e0
  subst this; simp at hcs2; exact hv hcs2
 intro ρ w1 ha hsim
 obtain ⟨t1,ht1⟩:=hB.sim hsim
 obtain ⟨t2,ht2⟩:=hB2.sim hsim
 have hs1:w1.shape? r.1=some (t1,cs.length):=by simp [World.shape?,ht1]
 have hs2:w1.shape? q.1=some (t2,cs2.length):=by simp [World.shape?,ht2]
 obtain ⟨ie,hie⟩:=Option.isSome_iff_exists.1 hi
 have hrun:=Lib.run_overlaps_apart (P:=P) w1 tS tR e hu ie.size (fun w=>sizeOf_run hie) ⟨r.1,0+r.2.1,none⟩ ⟨q.1,i+q.2.1,none⟩ m (mc+r.2.2) n (c+q.2.2) hblk t1 t2 cs.length cs2.length hs1 hs2 hk2 ((hB.sim hsim).frozen _) ((hB.sim hsim).frozen _)
 refine Eff.value (v:=.bool false) (w':=w1) ?_ ⟨w,hsim,hK _ E _ _ _ ⟨rfl,rfl⟩ (Ext.refl E) hR rfl⟩
 show (execOp ρ ⟨d,.call ⟨.value (.func f),#[x,y],ts⟩,ty,pos,af,gg⟩).run P w1=_
 have hfv:ρ (.func f)=.func (.func f) #[] #[]:=ha (.func f) _ rfl
 simp [execOp,resolve,invoke,ha x _ h1,ha y _ h3,hfv,Deferred.ofValue,hf]
 simp at hrun
 rw [hrun]
 rfl
/-- a part of a row,bounded behind too: nothing is kept of it but that it is there -/
theorem S_slc3 {b n c k lo' hi' mx':Nat} {k1 k2 k3:IntKind} {o:Oper} {x lo hi mx:Operand} {sT e:TypeId} {d:Option Nat} {g0:Option (Nat × Bool)} {rd:Bool} {r:List Step} (ho:o.op=.slice sT x (some lo) (some hi) (some mx)) (hu:P.underlying sT=some (.slice e)) (hie:(P.info? e).isSome=true) (hg:gw g0 l=some true)
  (hx:lv l x=some (.slice (some ⟨b,0,none⟩) n c)) (h1:lv l lo=some (.int k1 (lo':Int))) (h2:lv l hi=some (.int k2 (hi':Int))) (h3:lv l mx=some (.int k3 (mx':Int))) (h4:lo'≤hi') (h5:hi'≤mx') (h6:mx'≤c) (hc:0<c)
  (hN:LSt P n0 r K (dpush d (.slice (some ⟨L.length,0,none⟩) (hi'-lo') (mx'-lo')) l) (bif rd then (k,.raw o,l,.slice (some ⟨L.length,0,none⟩) (hi'-lo') (mx'-lo'))::T else T) (L++[.dead])) :
  LSt P n0 (.q k d g0 (.raw o) rd::r) K l T L:=by
 refine ⟨fun X w0 E0 w E l' F h0 hE hR hl hT=>?_⟩
 simp only [stepsWp]
 refine gw_ok hl hg (fun _=>?_) (fun e=>by cases e)
 obtain ⟨v',g1,g2⟩:=lv_ev hl hx
 obtain ⟨_,q,hq,⟨a',c',rfl,⟨rfl,rfl⟩ | ⟨_,hc0,_⟩⟩ | ⟨_,hc0,_⟩⟩:=g2
 rotate_left
 ·omega
 ·omega
 obtain ⟨_,e1,rfl⟩:=lv_ev hl h1
 obtain ⟨_,e2,rfl⟩:=lv_ev hl h2
 obtain ⟨_,e3,rfl⟩:=lv_ev hl h3
 obtain ⟨ie,hie⟩:=Option.isSome_iff_exists.1 hie
 have hy:∃ o',(QOp.raw o).Y P l' (.slice (some ⟨q.1,o',none⟩) (hi'-lo') (mx'-lo')) w:=by
  refine ⟨if mx'=lo' then 0+q.2.1 else 0+q.2.1+lo'*ie.size,fun ρ w1 ha hs=>?_⟩
  obtain ⟨d',op,ty,pos,af,gg⟩:=o
  simp only at ho
  subst ho
  have b3:(Instr.sliceBound (.int k3 (mx':Int)) (c+q.2.2) .slice3Acap).run P w1=.ok mx' w1:=by
   simp [Instr.sliceBound,asIntOf,show (mx':Int)≤(c:Int)+(q.2.2:Int) by omega]
  have b2:(Instr.sliceBound (.int k2 (hi':Int)) mx' .slice3B).run P w1=.ok hi' w1:=by
   simp [Instr.sliceBound,asIntOf,show (hi':Int)≤(mx':Int) by omega]
  have b1:(Instr.sliceBound (.int k1 (lo':Int)) hi' .slice3C).run P w1=.ok lo' w1:=by
   simp [Instr.sliceBound,asIntOf,show (lo':Int)≤(hi':Int) by omega]
  have hb:(Instr.sliceBounds true n (c+q.2.2) (some (.int k1 (lo':Int))) (some (.int k2 (hi':Int))) (some (.int k3 (mx':Int)))).run P w1=.ok (lo',hi',mx') w1:=by
   simp [Instr.sliceBounds,b1,b2,b3]
  have hsl:(Instr.slice sT (.slice (some ⟨q.1,0+q.2.1,none⟩) n (c+q.2.2)) (some (.int k1 (lo':Int))) (some (.int k2 (hi':Int))) (some (.int k3 (mx':Int)))).run P w1=.ok (.slice (some ⟨q.1,if mx'=lo' then 0+q.2.1 else 0+q.2.1+lo'*ie.size,none⟩) (hi'-lo') (mx'-lo')) w1:=by
   simp only [Instr.slice,Sem.run_bind,run_underlying hu,Result.andThen_ok,hb,sizeOf_run hie,Sem.run_pure]
   by_cases e:mx'=lo'
   ·simp [e]
   ·simp [e,add_none]
  show (execOp ρ ⟨d',.slice sT x (some lo) (some hi) (some mx),ty,pos,af,gg⟩).run P w1=_
  simp only [execOp,Instr.sliceAt,Sem.run_bind,run_underlying hu,Result.andThen_ok,Option.map_some,ha x _ g1,ha lo _ e1,ha hi _ e2,ha mx _ e3]
  rw [hsl]
  rfl
 obtain ⟨o',hy⟩:=hy
 refine ⟨_,hy,?_⟩
 have hlast:(E++[(q.1,o',0)])[L.length]?=some (q.1,o',0):=by rw [← hR.len]; simp
 have hv:VR (E++[(q.1,o',0)]) (.slice (some ⟨L.length,0,none⟩) (hi'-lo') (mx'-lo')) (.slice (some ⟨q.1,o',none⟩) (hi'-lo') (mx'-lo')):=⟨rfl,_,hlast,.inl ⟨_,_,rfl,.inl ⟨by simp,by simp⟩⟩⟩
 have hR':Rep X w0 (E++[(q.1,o',0)]) (L++[.dead]) w:=hR.push (x:=.dead) (Fr.refl _ _) (fun _ h=>h.elim) trivial
 have hX:=Ext.push E (q.1,o',0)
 cases rd
 ·exact hN.go X w0 E0 w _ _ _ h0 (hE.trans hX) hR' ((hl.ext hX).dpush hv d) (hT.ext hX)
 ·exact hN.go X w0 E0 w _ _ _ h0 (hE.trans hX) hR' ((hl.ext hX).dpush hv d) ⟨rfl,⟨l',_,rfl,hl.ext hX,hv⟩,hT.ext hX⟩

/-- append of a part of a row to the beginning of another one (or of the same),where there is room -/
theorem EW.appInS {o:Oper} {s x:Operand} {sT xT:TypeId} {bytes b n k bx j m mc:Nat} {xs ys:List α} (h:RowOk gr sz) (ho:o.op=.call ⟨.builtin .append,⟨[s,x]⟩,⟨[sT,xT]⟩⟩) (ht:appT P sT xT=some (sz,bytes)) (hs:lv l s=some (.slice (some ⟨b,0,none⟩) k n)) (hx:lv l x=some (.slice (some ⟨bx,j*sz,none⟩) m mc))
  (hb:L[b]?=some (.gro sz (rowsC gr xs))) (hbx:L[bx]?=some (.gro sz (rowsC gr ys))) (hn:xs.length=n) (hk:k+m≤n) (hj:j+m≤ys.length) (hz0:0<sz) (hn0:0<n) (hbd:(2*(k+m)+2048)*bytes≤281474976710656) :
  EW P n0 L l (.raw o) (fun v K=>v=.slice (some ⟨b,0,none⟩) (k+m) n∧K=L.set b (.gro sz (rowsC gr (xs.take k++(ys.drop j).take m++xs.drop (k+m))))):=by
 intro X w0 E0 w E l' Kf h0 hE hR hl hK
 have hrl:(rowsC gr xs).length=n*sz:=by rw [rowsC_length h,hn]
 have hks:k*sz+m*sz≤n*sz:=by rw [← Nat.add_mul]; exact Nat.mul_le_mul_right _ hk
 have hc1:∃ cells,lslc L sz (.slice (some ⟨b,0,none⟩) k n)=some cells:=by
  cases k with
  | zero=>exact ⟨[],rfl⟩
  | succ k =>
   have hle:(k+1)*sz≤n*sz:=Nat.mul_le_mul_right _ (by omega)
   have h1:Nat.ble (0+(k+1)*sz) (rowsC gr xs).length=true:=Nat.ble_eq_true_of_le (by omega)
   have h2:(rowsC gr xs).isEmpty=false:=by
    cases hq:rowsC gr xs with
    | nil=>have:0<n*sz:=Nat.mul_pos hn0 hz0; rw [hq] at hrl; simp at hrl; omega
    | cons=>rfl
   have h3:(((rowsC gr xs).drop 0).take ((k+1)*sz)).all stillS=true:=List.all_eq_true.2 fun a ha=>List.all_eq_true.1 (rowsC_still h xs) a (List.mem_of_mem_drop (List.mem_of_mem_take ha))
   exact ⟨_,by simp only [lslc,lcells,hb,h1,h2,h3,Bool.and_self,Bool.not_false,cond_true]; rfl⟩
 have hc2:lslc L sz (.slice (some ⟨bx,j*sz,none⟩) m mc)=some (rowsC gr ((ys.drop j).take m)):=lslc_rows h hbx rfl hj hz0
 have hst2:=rowsC_still h ((ys.drop j).take m)
 have hml:((ys.drop j).take m).length=m:=by rw [List.length_take,List.length_drop]; omega
 have hul:(rowsC gr ((ys.drop j).take m)).length=m*sz:=by rw [rowsC_length h,hml]
 obtain ⟨cells,hc1⟩:=hc1
 obtain ⟨vs',h1,hsr⟩:=lv_ev hl hs
 obtain ⟨vx',h3,hxr⟩:=lv_ev hl hx
 obtain ⟨us,hrd1,hl1⟩:=lslc_ok hR (hsr.sr rfl) hc1
 obtain ⟨us2,hrd2,hl2⟩:=lslc_ok hR (hxr.sr rfl) hc2
 obtain rfl:us2=rowsC gr ((ys.drop j).take m):=L2.eq_still hst2 hl2
 have hlen1:us.length=k*sz:=hrd1.1
 unfold appT at ht
 split at ht
 rotate_left
 ·cases ht
 rename_i e i z he
 cases hc:(isSl P xT && Nat.beq z.cells.toList.length i.size && z.cells.toList.all one && Nat.blt 0 i.bytes && Nat.blt 0 i.size)
 ·rw [hc] at ht; cases ht
 rw [hc] at ht
 cases ht
 simp only [Bool.and_eq_true] at hc
 obtain ⟨hu,hi,hz⟩:=elemOf_ok he
 have he':ElemT P sT e i.size i.bytes:=⟨hu,i,z,hi,rfl,rfl,hz,by simpa using Nat.eq_of_beq_eq_true hc.1.1.1.2,fun u hu=>List.all_eq_true.1 hc.1.1.2 u hu⟩
 obtain ⟨d,op,ty,pos,af,g'⟩:=o
 simp only at ho
 subst ho
 obtain ⟨_,r,hr,⟨a',c',rfl,⟨rfl,rfl⟩ | ⟨_,hc0,_⟩⟩ | ⟨_,hc0,_⟩⟩:=hsr.sr rfl
 rotate_left
 ·omega
 ·omega
 have hr:E[b]?=some r:=hr
 refine append_any he' (isSl_ok hc.1.1.1.1) h1 h3 hrd1 hrd2 hbd (Nat.le_of_ble_eq_true hc.1.2) (fun hle' a2 ha=>?_) (fun _ ha=>by cases ha) (fun hlt' c'' zs hc'' hlz=>by omega)
 cases ha
 rcases Nat.eq_zero_or_pos m with hm0 | hm0
 ·subst hm0
  refine .inl ⟨by simp [rowsC],?_⟩
  refine hK w E _ _ _ ⟨rfl,rfl⟩ (Ext.refl E) ?_ ⟨rfl,r,hr,.inl ⟨_,_,rfl,.inl ⟨rfl,rfl⟩⟩⟩
  have e:xs.take k++(ys.drop j).take 0++xs.drop (k+0)=xs:=by simp
  rw [e,set_self hb]
  exact hR
 ·have hp:0<m*i.size:=Nat.mul_pos hm0 hz0
  obtain ⟨cs,hB,hcl,hR'⟩:=hR.putg (o:=k*i.size) (us:=rowsC gr ((ys.drop j).take m)) hb hr hst2 (by rw [hul,hrl]; exact hks) (by rw [hul]; exact hp)
  have e:=rowsC_splice h (xs:=xs) (ys:=(ys.drop j).take m) (k:=k)
  rw [e,hml] at hR'
  refine .inr ⟨_,_,cs,rfl,hB,by rw [hul] at hcl ⊢; show 0+r.2.1+k*i.size+m*i.size≤_; omega,?_⟩
  have e9:(⟨r.1,0+r.2.1+k*i.size,none⟩:Addr)=⟨r.1,k*i.size+r.2.1,none⟩:=by congr 1; omega
  refine hK _ E _ _ _ ⟨rfl,rfl⟩ (Ext.refl E) ?_ ⟨rfl,r,hr,.inl ⟨_,_,rfl,.inl ⟨rfl,rfl⟩⟩⟩
  show Rep X w0 E _ (putCells w ⟨r.1,0+r.2.1+k*i.size,none⟩ 0 _)
  rw [e9]; exact hR'

/-- a new block,beside which nothing changes -/
theorem EWd.new {t:TypeId} {zero:List Value} (hz:zero.all stillS=true):EWd P n0 [] [] L l (.new t zero) (fun v K=>v=.pointer (some ⟨L.length,0,none⟩)∧K=L++[.cells 0 zero]):=by
 intro X w0 E0 w E l' Kf h0 hE hR hl hK
 refine hK _ _ _ _ _ ⟨rfl,rfl⟩ (fun k r _ hk=>Ext.push E _ k r hk) (fun k x r b _ hx hr hb=>?_) (new_rep hR (cs:=zero.toArray) (by simpa using L2.self fun a ha=>SR.still (List.all_eq_true.1 hz a ha))) ⟨_,rfl,rfl,_,hR.last _,by simp⟩
 have:=(hR.rng k x r hx hr b hb).2
 show (w.heap.push _)[b]?=_
 rw [Array.getElem?_push,if_neg (by omega)]

/-- a store to a block's cells,beside which nothing changes -/
theorem EWd.stn_of {x y:Operand} {n b o sz:Nat} {vs:List Value} {R:Value→LH→Prop} (hw:EW P n0 L l (.stn x y n) R) (hx:lptr l x=some ⟨b,o,none⟩) (hb:L[b]?=some (.cells sz vs)):EWd P n0 [b] [] L l (.stn x y n) R:=by
 intro X w0 E0 w E l' Kf h0 hE hR hl hK
 obtain ⟨p,us,h1,h2,h3,h4,h5,E',v,L',k1,k2,k3,k4⟩:=hw X w0 E0 w E l' (fun v' w'=>∃ E' v L',R v L'∧Ext E E'∧Rep X w0 E' L' w'∧VR E' v v') h0 hE hR hl (fun w' E' v' v L' a b c d=>⟨E',v,L',a,b,c,d⟩)
 refine ⟨p,us,h1,h2,h3,h4,h5,hK _ E' _ v L' k1 (fun k r _ hk=>k2 k r hk) (fun k z r c hk hz hr hc=>?_) k3 k4⟩
 obtain ⟨p',g1,_,q,g2,rfl⟩:=lptr_ok hl hx
 rw [g1] at h1; cases h1
 refine (putCells_fr (p:=⟨q.1,o+q.2.1,none⟩) us.toList 0 w).keep c (hR.rng k z r hz hr c hc).2 (fun e=>?_)
 have e:c=q.1:=e
 have:=hR.inj k b z _ r q c hz hb hr g2 hc e
 subst this
 simp [inL] at hk

/-! ### nil within what a slot holds,or within an answer: an empty row -/
/-- the cell number j of a value made of cells,turned -/
def aset (j:Nat) (u:Value):Value→Value
 | .agg ⟨cs⟩=>.agg ⟨cs.set j u⟩
 | v=>v
theorem VR.nilA {E:Emb} {N j:Nat} {cs:List Value} {v':Value} {r:Nat × Nat × Nat} (hv:VR E (.agg ⟨cs⟩) v') (hj:cs[j]?=some (.slice none 0 0)) (hr:E[N]?=some r):VR E (.agg ⟨cs.set j (.slice (some ⟨N,0,none⟩) 0 0)⟩) v':=by
 obtain ⟨cs',rfl,h⟩:=hv
 refine ⟨cs',rfl,L2.setL h fun a c ha hc=>?_⟩
 rw [hj] at ha; cases ha
 have hc:c=Value.slice none 0 0:=hc
 subst hc
 exact ⟨rfl,r,hr,.inr ⟨rfl,rfl,_,rfl⟩⟩
/-- behind a call -/
theorem Tr.nilV {A:Args} {keep:List Nat} {f:FuncId} {us cs:List Value} {K1:LH} (j szg:Nat) (h:TrK P A keep f us L (fun v K=>v=.agg ⟨cs⟩∧K=K1)) (hj:cs[j]?=some (.slice none 0 0)):TrK P A keep f us L (fun v K=>v=.agg ⟨cs.set j (.slice (some ⟨K1.length,0,none⟩) 0 0)⟩∧K=K1++[.gro szg []]):=by
 intro X w0 w E vs' h0 hR hv'
 obtain ⟨h1,h2⟩:=h X w0 w E vs' h0 hR hv'
 refine ⟨h1,h2.mono ?_⟩
 rintro v' w' ⟨E',v,L',hE,hle,hvr,hR',rfl,rfl⟩
 refine ⟨E'++[(0,0,0)],_,_,hE.trans (Ext.push E' _),by simp; omega,VR.nilA (hvr.ext (Ext.push E' _)) hj (r:=(0,0,0)) (by rw [← hR'.len]; simp),hR'.push (x:=.gro szg []) (Fr.refl _ _) (fun _ h=>h.elim) (.inl ⟨rfl,rfl⟩),rfl,rfl⟩
end
end Go.Tum
end
section
/-
 A call that is told by a family of answers.
-/
namespace Go.Tum
open Go
section
variable {P:Program} {n0:NA} {l l1:Env} {L L1 Lc:LH} {T T1:Taken} {K:Env→LH→Prop} {ss r:List Step} {d:Option Nat} {g:Option (Nat × Bool)} {pend:List Nat}
/-- just the names in keep stay; whichever answer it is,on we go -/
theorem cX {ι:Type} {V V2:ι→Value} {B K2:ι→LH} {C:ι→Prop} {keep:List Nat} {f:FuncId} {args:List Operand} {vs us:List Value} (φ:List Nat) (ht:TrK P [] keep f us Lc (fun v K=>∃ i,C i∧v=V i∧K=B i)) (hn:∀ i,C i→nE (dpush d (V2 i) l1) fun l=>nL (K2 i) fun L=>LSt P n0 r K l T1 L) (h:arun [] ss l T L=(.e d g (.call f args) pend::r,l1,T1,L1):=by exact rfl) (hg:gw g l1=some true:=by exact rfl)
  (hv:lvs l1 args=some vs:=by exact rfl) (he:us.map (rnV L1.length φ)=vs:=by exact rfl) (h1:φ.Nodup:=by decide) (h2:partL L1 φ φ Lc:=by repeat' (first|exact trivial|refine ⟨rfl,?_⟩ | fail)) (hm:nmL (dropped keep 0 φ) φ 0 L1=true:=by kernel_rfl) (h3:∀ i,rnV (L1.length+(B i).length) (phi2 φ L1.length (B i)) (V i)=V2 i:=by exact fun _=>rfl) (h4:∀ i,joinQ φ L1 (B i)=K2 i:=by exact fun _=>rfl)
  (h5:disj (dropped keep 0 φ) n0.keep=true:=by kernel_rfl) (h6:nmE (dropped keep 0 φ) l1=true:=by kernel_rfl) (h7:nmT (dropped keep 0 φ) T1=true:=by kernel_rfl)
  (hc:∀ i,chkG P n0 φ T1 L1 (K2 i) pend:=by intro _; repeat' (first|exact trivial|refine ⟨.inl rfl,?_⟩|refine ⟨.inr ⟨qsafe_ok (st:=[]) rfl,Sure.of rfl⟩,?_⟩|refine ⟨.inr ⟨qsafe_ok (st:=[]) rfl,Sure.slice (by omega)⟩,?_⟩ | fail)):LSt P n0 ss K l T L :=
 S_Ed [] h hg ((EWd.call φ ht hv he (Part.of h1 h2) handed_nil hm).mono fun v K ⟨_,_,⟨i,hi,e1,e2⟩,e3,e4⟩=>(by subst e1; subst e2; exact ⟨i,hi,e3.trans (h3 i),e4.trans ((joinQ_eq h1).trans (h4 i))⟩:∃ i,C i∧v=V2 i∧K=K2 i)) h5 h6 h7 (by rintro _ _ ⟨i,hi,rfl,rfl⟩; exact ⟨hc i,LSt.nf (hn i hi)⟩)
/-- .. behind which just the slots ks are kept -/
theorem S_EdK {eo:EOp} (ks:List Nat) {fr dr:List Nat} {R:Value→LH→Prop} (h:arun [] ss l T L=(.e d g eo pend::r,l1,T1,L1)) (hg:gw g l1=some true) (hw:EWd P n0 fr dr L1 l1 eo R) (hd:disj dr n0.keep=true) (hn:nmE dr (repick l1 ks)=true) (ht:nmT dr T1=true) (hk:∀ v L',R v L'→chkG P n0 fr T1 L1 L' pend∧LSt P n0 r K (dpush d v (repick l1 ks)) T1 L'):LSt P n0 ss K l T L:=by
 refine arun_ok [] ss l T L h ⟨fun X w0 E0 w E l' F h0 hE hR hl hT=>?_⟩
 simp only [stepsWp]
 refine gw_ok hl hg (fun _=>?_) (fun e=>by cases e)
 refine hw X w0 E0 w E l' _ h0 hE hR hl fun w' E' v' v L' hr h1 hL h2 h3=>?_
 obtain ⟨hc,hn'⟩:=hk v L' hr
 have hE':n0.Ext E0 E':=fun k r hk hr=>h1 k r (disj_ok hd hk) (hE k r hk hr)
 exact ⟨chkG_ok h0 hE' hL h2 hT (hT.extD h1 ht) _ hc,hn'.go X w0 E0 w' E' _ _ h0 hE' h2 (((hl.repick ks).extD h1 hn).dpush h3 d) (hT.extD h1 ht)⟩
theorem cWK {keep:List Nat} {v1 v2:Value} {L2 K2:LH} {f:FuncId} {args:List Operand} {vs us:List Value} (ks φ:List Nat) (ht:TrK P [] keep f us Lc (fun v K=>v=v1∧K=L2)) (hn:nE (dpush d v2 (repick l1 ks)) fun l=>nL K2 fun L=>LSt P n0 r K l T1 L) (h:arun [] ss l T L=(.e d g (.call f args) pend::r,l1,T1,L1):=by exact rfl) (hg:gw g l1=some true:=by exact rfl)
  (hv:lvs l1 args=some vs:=by exact rfl) (he:us.map (rnV L1.length φ)=vs:=by exact rfl) (h1:φ.Nodup:=by decide) (h2:partL L1 φ φ Lc:=by repeat' (first|exact trivial|refine ⟨rfl,?_⟩ | fail)) (hm:nmL (dropped keep 0 φ) φ 0 L1=true:=by kernel_rfl) (h3:rnV (L1.length+L2.length) (phi2 φ L1.length L2) v1=v2:=by exact rfl) (h4:joinQ φ L1 L2=K2:=by exact rfl)
  (h5:disj (dropped keep 0 φ) n0.keep=true:=by kernel_rfl) (h6:nmE (dropped keep 0 φ) (repick l1 ks)=true:=by kernel_rfl) (h7:nmT (dropped keep 0 φ) T1=true:=by kernel_rfl)
  (hc:chkG P n0 φ T1 L1 K2 pend:=by repeat' (first|exact trivial|refine ⟨.inl rfl,?_⟩|refine ⟨.inr ⟨qsafe_ok (st:=[]) rfl,Sure.of rfl⟩,?_⟩ | fail)):LSt P n0 ss K l T L :=
 S_EdK ks h hg (EWd.callF φ ht hv he h1 h2 hm h3 ((joinQ_eq h1).trans h4)) h5 h6 h7 (by rintro _ _ ⟨rfl,rfl⟩; exact ⟨hc,LSt.nf hn⟩)
/-- an effect behind which less is asked -/
theorem EW.into {l:Env} {L K1 K2:LH} {e:EOp} {a:Value} (h:EW P n0 L l e (fun v K=>v=a∧K=K1)) (hw:∀ X w0 E w,Rep X w0 E K1 w→Rep X w0 E K2 w):EW P n0 L l e (fun v K=>v=a∧K=K2):=fun X w0 E0 w E l' Kf h0 hE hR hl hK =>
 h X w0 E0 w E l' Kf h0 hE hR hl fun w' E' v' v L' ⟨e1,e2⟩ h1 h2 h3=>hK w' E' v' v K2 ⟨e1,rfl⟩ h1 (hw _ _ _ _ (e2 ▸ h2)) h3
/-- a call that is handed rows that came in: all names stay,blocks may come new -/
theorem cAr {A:Args} {v1 v2:Value} {L2 K2:LH} {f:FuncId} {args:List Operand} {vs us:List Value} (φ:List Nat) (ht:TrK P A (seqN 0 Lc.length) f us Lc (fun v K=>v=v1∧K=L2)) (hd:handed φ (seqN 0 Lc.length) n0.A A) (hn:nE (dpush d v2 l1) fun l=>nL K2 fun L=>LSt P n0 r K l T1 L) (h:arun [] ss l T L=(.e d g (.call f args) pend::r,l1,T1,L1):=by exact rfl) (hg:gw g l1=some true:=by exact rfl)
  (hv:lvs l1 args=some vs:=by exact rfl) (he:us.map (rnV L1.length φ)=vs:=by exact rfl) (h1:φ.Nodup:=by decide) (h2:partL L1 φ φ Lc:=by repeat' (first|exact trivial|refine ⟨rfl,?_⟩ | fail)) (h3:rnV (L1.length+L2.length) (phi2 φ L1.length L2) v1=v2:=by exact rfl) (h4:joinQ φ L1 L2=K2:=by exact rfl)
  (hc:chkP P n0 T1 K2 pend:=by repeat' (first|exact trivial|refine ⟨⟨qsafe_ok (st:=[]) rfl,Sure.of rfl⟩,?_⟩ | fail)):LSt P n0 ss K l T L :=
 S_E [] h hg ((EW.callA φ ht hv he (Part.of h1 h2) hd).mono fun v K ⟨v',L',⟨h3',h4'⟩,h5',h6'⟩=>(by subst h3'; subst h4'; exact ⟨h5'.trans h3,h6'.trans ((joinQ_eq h1).trans h4)⟩:v=v2∧K=K2)) (by rintro _ _ ⟨rfl,rfl⟩; exact ⟨hc,LSt.nf hn⟩)
/-- an argument that is nil,told as an empty row -/
theorem TrK.nilArg {keep keep':List Nat} {f:FuncId} {us:List Value} {L:LH} {R:Value→LH→Prop} (j szg:Nat) (hj:us[j]?=some (.slice none 0 0)) (h:TrK P [] keep' f (us.set j (.slice (some ⟨L.length,0,none⟩) 0 0)) (L++[.gro szg []]) R) (hk:∀ k,inL k keep=true→inL k keep'=true):TrK P [] keep f us L R:=by
 intro X w0 w E vs' hA hR hv
 have hlt:=(List.getElem?_eq_some_iff.1 hj).1
 obtain ⟨b,hb,hb2⟩:=L2.get hv hj
 obtain rfl:b=.slice none 0 0:=hb2
 have hR2:Rep X w0 (E++[(0,0,0)]) (L++[.gro szg []]) w:=hR.push (Fr.refl _ _) (fun _ h=>h.elim) (.inl ⟨rfl,rfl⟩)
 have hv2:L2 (VR (E++[(0,0,0)])) (us.set j (.slice (some ⟨L.length,0,none⟩) 0 0)) vs':=by
  have h1:=(hv.mono fun _ _=>VR.ext (Ext.push E (0,0,0))).set j (a:=.slice (some ⟨L.length,0,none⟩) 0 0) (b:=.slice none 0 0) (show VR (E++[(0,0,0)]) (.slice (some ⟨L.length,0,none⟩) 0 0) (.slice none 0 0) from ⟨rfl,_,hR.last _,.inr ⟨rfl,rfl,none,rfl⟩⟩)
  have h2:vs'.set j (.slice none 0 0)=vs':=by
   apply List.ext_getElem?
   intro i
   rw [List.getElem?_set]
   by_cases e:j=i
   ·subst e
    have h3:=(List.getElem?_eq_some_iff.1 hb).1
    rw [if_pos rfl,if_pos h3,hb]
   ·rw [if_neg e]
  rw [h2] at h1; exact h1
 obtain ⟨h3,h4⟩:=h X w0 w (E++[(0,0,0)]) vs' ⟨by simp [hR.len],fun x hx=>(by cases hx),hA.2.2⟩ hR2 hv2
 refine ⟨h3,h4.mono ?_⟩
 rintro v' w' ⟨E',v,L',e1,e2,e3,e4,e5⟩
 exact ⟨E',v,L',fun k r hk1 hr=>e1 k r (hk k hk1) (Ext.push E _ k r hr),by rw [List.length_append] at e2; omega,e3,e4,e5⟩
/-- a literal slice -/
def bsParts (l:Env):List (Nat × Operand)→Option (List (Nat × Value))
 | []=>some []
 | (i,x)::r=>match lv l x,bsParts l r with
  | some u,some us=>bif sure u && still u then some ((i,u)::us) else none
  | _,_=>none
theorem bsParts_ok {E:Emb} {l l':Env} {ρ:Operand→Value} (hl:ER E l l') (ha:Agr l' ρ):∀ (ps:List (Nat × Operand)) (us:List (Nat × Value)),bsParts l ps=some us→ps.map (fun y=>(y.1,ρ y.2))=us
 | [],us,h=>by cases h; rfl
 | (i,x)::r,us,h=>by
  simp only [bsParts] at h
  cases hx:lv l x with
  | none=>rw [hx] at h; cases h
  | some u =>
   cases hr:bsParts l r with
   | none=>rw [hx,hr] at h; cases h
   | some vs =>
    rw [hx,hr] at h
    simp only at h
    cases hs:sure u && still u
    ·rw [hs] at h; cases h
    ·rw [hs] at h; cases h
     simp only [Bool.and_eq_true] at hs
     obtain ⟨v',h1,h2⟩:=lv_ev hl hx
     have h3:=VR.fn hs.1 h2 (VR.still hs.2)
     subst h3
     rw [List.map_cons,bsParts_ok hl ha r vs hr,ha x _ h1]
theorem EW.bsL {l:Env} {L:LH} {o:Oper} {t e:TypeId} {n sz:Nat} {ps:List (Nat × Operand)} {us:List (Nat × Value)} {ie:TypeInfo} {z:Value} {cs:List Value} (ho:o.op=.buildSlice t n ⟨ps⟩) (ht:P.underlying t=some (.slice e)) (he:P.info? e=some ie) (hz:ie.zero=some z) (hsz:ie.size=sz) (hn:0<n*sz∧n*sz≤16777216) (hu:bsParts l ps=some us)
  (hc:Instr.fill (fun i=>some (i*sz,sz)) ((Array.range (n*sz)).map (z.cells[· % z.cells.size]!)) us=some ⟨cs⟩) (hs:cs.all stillS=true) :
  EW P n0 L l (.raw o) (fun v K=>v=.slice (some ⟨L.length,0,none⟩) n n∧K=L++[.cells 0 cs]):=by
 subst hsz
 intro X w0 E0 w E l' Kf h0 hE hR hl hK ρ wr ha hsim
 obtain ⟨d,op,ty,pos,af,g⟩:=o
 simp only at ho
 subst ho
 have hps:=bsParts_ok hl ha ps us hu
 refine Eff.value (w':=wr.alloc (.cells ⟨cs⟩ e)) (v:=.slice (some ⟨wr.heap.size,0,none⟩) n n) ?_ ?_
 ·have hzv:(zeroValue e).run P wr=.ok z wr:=by simp [zeroValue,typeInfo_run he,hz,go_sem]
  have hb:(Instr.buildSlice t n ⟨us⟩).run P wr=.ok (.slice (some ⟨wr.heap.size,0,none⟩) n n) (wr.alloc (.cells ⟨cs⟩ e)):=by
   unfold Instr.buildSlice
   simp only [Sem.run_bind,run_underlying ht,Result.andThen_ok,sizeOf_run he,if_neg (show ¬ (n*ie.size > 2 ^ 24) by omega),Sem.run_pure,if_neg (show ¬ n*ie.size=0 by omega),hzv]
   rw [hc]
   rfl
  have hm:(⟨ps⟩:Array (Nat × Operand)).map (fun (y:Nat × Operand)=>(y.1,ρ y.2))=⟨us⟩:=by rw [← hps]; simp
  show Sem.run P (do let r ← Instr.buildSlice t n ((⟨ps⟩:Array (Nat × Operand)).map (fun (y:Nat × Operand)=>(y.1,ρ y.2))); pure (Next.value r)) wr=_
  rw [hm,Sem.run_bind,hb]
  rfl
 ·refine ⟨_,hsim.push _,?_⟩
  rw [hsim.heap]
  exact hK _ _ _ _ _ ⟨rfl,rfl⟩ (Ext.push E _) (new_rep hR (cs:=⟨cs⟩) (L2.self fun a ha=>SR.still (List.all_eq_true.1 hs a ha))) ⟨rfl,_,hR.last _,.inl ⟨_,_,rfl,.inl ⟨by simp,rfl⟩⟩⟩
/-- literals,beside which nothing changes -/
theorem EWd.bs0 {l:Env} {L:LH} {t:TypeId}:EWd P n0 [] [] L l (.bs0 t) (fun v K=>v=.slice (some ⟨L.length,0,none⟩) 0 0∧K=L++[.cells 0 []]):=by
 intro X w0 E0 w E l' Kf h0 hE hR hl hK
 refine hK _ _ _ _ _ ⟨rfl,rfl⟩ (fun k r _ hk=>Ext.push E _ k r hk) (fun k x r b _ hx hr hb=>?_) (new_rep hR (cs := #[]) trivial) ⟨rfl,_,hR.last _,.inl ⟨_,_,rfl,.inl ⟨by simp,rfl⟩⟩⟩
 have:=(hR.rng k x r hx hr b hb).2
 show (w.heap.push _)[b]?=_
 rw [Array.getElem?_push,if_neg (by omega)]
theorem EWd.bs1 {l:Env} {L:LH} {t:TypeId} {x:Operand} {k:IntKind} {a:Int} (hx:lv l x=some (.int k a)):EWd P n0 [] [] L l (.bs1 t 1 x) (fun v K=>v=.slice (some ⟨L.length,0,none⟩) 1 1∧K=L++[.cells 0 [.int k a]]):=by
 intro X w0 E0 w E l' Kf h0 hE hR hl hK
 obtain ⟨_,h1,rfl⟩:=lv_ev hl hx
 refine ⟨_,h1,rfl,hK _ _ _ _ _ ⟨rfl,rfl⟩ (fun k r _ hk=>Ext.push E _ k r hk) (fun k x r b _ hx hr hb=>?_) (new_rep hR (cs:=(Value.int k a).cells) (vs:=[.int k a]) ⟨rfl,trivial⟩) ⟨rfl,_,hR.last _,.inl ⟨_,_,rfl,.inl ⟨by simp,rfl⟩⟩⟩⟩
 have:=(hR.rng k x r hx hr b hb).2
 show (w.heap.push _)[b]?=_
 rw [Array.getElem?_push,if_neg (by omega)]
/-- an effect over blocks of which less is known -/
theorem EW.wk {L L1:LH} {l:Env} {e:EOp} {R:Value→LH→Prop} (hw:∀ X w0 E w,Rep X w0 E L w→Rep X w0 E L1 w) (h:EW P n0 L1 l e R):EW P n0 L l e R:=fun X w0 E0 w E l' Kf h0 hE hR hl hK=>h X w0 E0 w E l' Kf h0 hE (hw _ _ _ _ hR) hl hK
/-- append of a part to an empty literal -/
theorem EW.cpy0 {α:Type} {g:α→List Value} {sz:Nat} {o:Oper} {s x:Operand} {sT xT:TypeId} {bytes b bx ox i m cx:Nat} {ys:List α} (zs:List α) (h:RowOk g sz) (ho:o.op=.call ⟨.builtin .append,⟨[s,x]⟩,⟨[sT,xT]⟩⟩) (ht:appT P sT xT=some (sz,bytes)) (hs:lv l s=some (.slice (some ⟨b,0,none⟩) 0 0)) (hx:lv l x=some (.slice (some ⟨bx,ox,none⟩) m cx))
  (hb:L[b]?=some (.cells 0 [])) (hbx:L[bx]?=some (.gro sz (rowsC g ys))) (hox:ox=i*sz) (hm:i+m≤ys.length) (hzs:(ys.drop i).take m=zs) (hz:0<sz) (hbd:(2*m+2048)*bytes≤281474976710656) :
  EW P n0 L l (.raw o) (fun v K=>v=.slice (some ⟨L.length,0,none⟩) m m∧K=L.set b .dead++[.gro sz (rowsC g zs)]):=by
 have hne:b≠bx:=by
  rintro rfl
  rw [hb] at hbx; cases hbx
 have hlt:=(List.getElem?_eq_some_iff.1 hb).1
 have:=EW.cpy (P:=P) (n0:=n0) (L:=L.set b (.gro sz [])) zs h ho ht hs hx (List.getElem?_set_self hlt) (by rw [List.getElem?_set_ne hne]; exact hbx) hox hm hzs hz hbd
 rw [List.set_set,List.length_set] at this
 exact EW.wk (wk_gro0 sz hb) this
end
end Go.Tum
end
section
/-
 A contract over more blocks than a function is handed; a call that is handed all blocks.
-/
namespace Go.Tum
open Go

section
variable {P:Program} {n0:NA} {l:Env} {L:LH}
theorem jgo_length (φ:List Nat) (xs:LH):∀ (M:LH) (i:Nat),(jgo φ xs i M).length=M.length
 | [],_=>rfl
 | _::r,i=>by simp [jgo,jgo_length φ xs r (i+1)]
/-- the same contract where more blocks stand -/
theorem TrK.frame {keep keep2:List Nat} {f:FuncId} {us vs:List Value} {Lc K1 K2:LH} {v1 v2:Value} (φ:List Nat) (ht:TrK P [] keep f us Lc (fun v K=>v=v1∧K=K1)) (he:us.map (rnV L.length φ)=vs) (h1:φ.Nodup) (h2:partL L φ φ Lc) (hm:nmL (dropped keep 0 φ) φ 0 L=true)
  (h3:rnV (L.length+K1.length) (phi2 φ L.length K1) v1=v2) (h4:joinQ φ L K1=K2) (hk:disj (dropped keep 0 φ) keep2=true):TrK P [] keep2 f vs L (fun v K=>v=v2∧K=K2):=by
 intro X w0 w E vs' hA hR hv
 have h5:L2 (VR (subE E φ)) us vs':=by
  subst he
  rw [← hR.len] at hv
  exact L2.sub (f:=rnV E.length φ) (fun _ _ h=>VR.sub h) hv
 refine call_core (n0:=NA.mk L.length [] keep2) (E0:=E) ht (Part.of h1 h2) handed_nil hm hA (NA.Ext.refl _ _) hR h5 ?_
 rintro w' E' v' v L' ⟨_,_,⟨rfl,rfl⟩,rfl,rfl⟩ hx _ hR' hv'
 refine ⟨E',_,_,fun k r hk2 hr=>hx k r (disj_ok hk hk2) hr,?_,hv',hR',h3,(joinQ_eq h1).trans h4⟩
 rw [joinQ_eq h1,joinQ,List.length_append,jgo_length]
 omega
theorem dropped_inL {keep:List Nat}:∀ (n a b k:Nat),b≤k→k<b+n→inL (a+(k-b)) keep=false→inL k (dropped keep a (seqN b n))=true
 | 0,a,b,k,h1,h2,_=>by omega
 | n+1,a,b,k,h1,h2,h3=>by
  simp only [seqN,dropped]
  by_cases hk:k=b
  ·subst hk
   rw [Nat.sub_self,Nat.add_zero] at h3
   rw [h3]
   simp [inL]
  ·have:=dropped_inL (keep:=keep) n (a+1) (b+1) k (by omega) (by omega) (by rw [show a+1+(k-(b+1))=a+(k-b) by omega]; exact h3)
   cases inL a keep with
   | true=>simpa using this
   | false=>simp only [cond_false,inL,this]; cases Nat.beq b k <;> rfl
/-- a call that is handed all blocks -/
theorem EWd.whole {keep:List Nat} {f:FuncId} {args:List Operand} {vs:List Value} {R:Value→LH→Prop} (ht:TrK P [] keep f vs L R) (hv:lvs l args=some vs):EWd P n0 (seqN 0 L.length) (dropped keep 0 (seqN 0 L.length)) L l (.call f args) R:=by
 intro X w0 E0 w E l' Kf h0 hE hR hl hK
 obtain ⟨vs',h1,h2⟩:=lvs_evs hl hv
 have hc:=ht X w0 w E vs' ⟨hR.len,by simp,h0.2.2⟩ hR h2
 refine ⟨vs',h1,hc.2.mono ?_⟩
 rintro v' w' ⟨E',v,L',g1,g0,g2,g3,g4⟩
 refine hK w' E' v' v L' g4 (fun k r hk hr=>?_) (fun k x r b hk hx _ _=>?_) g3 g2
 ·refine g1 k r ?_ hr
  have hkl:k<L.length:=by rw [← hR.len]; exact (List.getElem?_eq_some_iff.1 hr).1
  cases hq:inL k keep with
  | true=>rfl
  | false =>
   have:=dropped_inL (keep:=keep) L.length 0 0 k (by omega) (by omega) (by simpa using hq)
   rw [hk] at this; cases this
 ·have hkl:k<L.length:=(List.getElem?_eq_some_iff.1 hx).1
  have:=seqN_get L.length 0 k hkl
  rw [Nat.zero_add] at this
  have:=inL_mem.2 (List.mem_of_getElem? this)
  rw [hk] at this; cases this
end
section
variable {P:Program} {n0:NA} {l:Env} {L:LH}
/-- a make,by reckoning,where so many blocks stand -/
theorem EW.ofM {o:Oper} {x y:Operand} {v:Value} {L':LH} (sT:TypeId) (N:Nat) (ho:o.op=.makeSlice sT x y) (hl:L.length=N) (h:le (fun _ _ _=>none) (rawE2 P) L l (.raw o)=some (v,L')):EW P n0 L l (.raw o) (fun u K=>u=v∧K=L') :=
 (fun (_:o.op=.makeSlice sT x y) (_:L.length=N)=>EW.of h) ho hl
theorem TrK.fewer {keep keep':List Nat} {f:FuncId} {us:List Value} {R:Value→LH→Prop} (h:TrK P [] keep f us L R) (hk:(keep'.all fun k=>inL k keep)=true):TrK P [] keep' f us L R:=by
 intro X w0 w E vs' hA hR hv
 obtain ⟨h1,h2⟩:=h X w0 w E vs' ⟨hA.1,by simp,hA.2.2⟩ hR hv
 refine ⟨h1,h2.mono ?_⟩
 rintro v' w' ⟨E',v,L',g1,g0,g2,g3,g4⟩
 exact ⟨E',v,L',fun k r hq hr=>g1 k r (List.all_eq_true.1 hk k (inL_mem.1 hq)) hr,g0,g2,g3,g4⟩
end
section
variable {P:Program} {n0:NA} {l l1:Env} {L L1:LH} {T T1:Taken} {K:Env→LH→Prop} {ss r:List Step} {d:Option Nat} {g:Option (Nat × Bool)} {pend:List Nat}
/-- .. its step -/
theorem cAll {ι:Type} {V:ι→Value} {B:ι→LH} {C:ι→Prop} {keep:List Nat} {f:FuncId} {args:List Operand} {vs:List Value} (ht:TrK P [] keep f vs L1 (fun v K=>∃ i,C i∧v=V i∧K=B i)) (hn:∀ i,C i→nE (dpush d (V i) l1) fun l=>nL (B i) fun L=>LSt P n0 r K l T1 L) (h:arun [] ss l T L=(.e d g (.call f args) pend::r,l1,T1,L1):=by exact rfl) (hg:gw g l1=some true:=by exact rfl)
  (hv:lvs l1 args=some vs:=by exact rfl) (h5:disj (dropped keep 0 (seqN 0 L1.length)) n0.keep=true:=by kernel_rfl) (h6:nmE (dropped keep 0 (seqN 0 L1.length)) l1=true:=by kernel_rfl) (h7:nmT (dropped keep 0 (seqN 0 L1.length)) T1=true:=by kernel_rfl)
  (hc:∀ i,chkG P n0 (seqN 0 L1.length) T1 L1 (B i) pend:=by intro _; repeat' (first|exact trivial|refine ⟨.inl rfl,?_⟩|refine ⟨.inr ⟨qsafe_ok (st:=[]) rfl,Sure.of rfl⟩,?_⟩ | fail)):LSt P n0 ss K l T L :=
 S_Ed [] h hg (EWd.whole ht hv) h5 h6 h7 (by rintro _ _ ⟨i,hi,rfl,rfl⟩; exact ⟨hc i,LSt.nf (hn i hi)⟩)
/-- .. told outright -/
theorem cWh {v1:Value} {K2:LH} {keep:List Nat} {f:FuncId} {args:List Operand} {vs:List Value} (ht:TrK P [] keep f vs L1 (fun v K=>v=v1∧K=K2)) (hn:nE (dpush d v1 l1) fun l=>nL K2 fun L=>LSt P n0 r K l T1 L) (h:arun [] ss l T L=(.e d g (.call f args) pend::r,l1,T1,L1):=by exact rfl) (hg:gw g l1=some true:=by exact rfl)
  (hv:lvs l1 args=some vs:=by exact rfl) (h5:disj (dropped keep 0 (seqN 0 L1.length)) n0.keep=true:=by kernel_rfl) (h6:nmE (dropped keep 0 (seqN 0 L1.length)) l1=true:=by kernel_rfl) (h7:nmT (dropped keep 0 (seqN 0 L1.length)) T1=true:=by kernel_rfl)
  (hc:chkG P n0 (seqN 0 L1.length) T1 L1 K2 pend:=by repeat' (first|exact trivial|refine ⟨.inl rfl,?_⟩|refine ⟨.inr ⟨qsafe_ok (st:=[]) rfl,Sure.of rfl⟩,?_⟩ | fail)):LSt P n0 ss K l T L :=
 S_Ed [] h hg (EWd.whole ht hv) h5 h6 h7 (by rintro _ _ ⟨rfl,rfl⟩; exact ⟨hc,LSt.nf hn⟩)
/-- .. and only some slots are told behind it -/
theorem cWhK {v1:Value} {K2:LH} {keep:List Nat} {f:FuncId} {args:List Operand} {vs:List Value} (ks:List Nat) (ht:TrK P [] keep f vs L1 (fun v K=>v=v1∧K=K2)) (hn:nE (dpush d v1 (repick l1 ks)) fun l=>nL K2 fun L=>LSt P n0 r K l T1 L) (h:arun [] ss l T L=(.e d g (.call f args) pend::r,l1,T1,L1):=by exact rfl) (hg:gw g l1=some true:=by exact rfl)
  (hv:lvs l1 args=some vs:=by exact rfl) (h5:disj (dropped keep 0 (seqN 0 L1.length)) n0.keep=true:=by kernel_rfl) (h6:nmE (dropped keep 0 (seqN 0 L1.length)) (repick l1 ks)=true:=by kernel_rfl) (h7:nmT (dropped keep 0 (seqN 0 L1.length)) T1=true:=by kernel_rfl)
  (hc:chkG P n0 (seqN 0 L1.length) T1 L1 K2 pend:=by repeat' (first|exact trivial|refine ⟨.inl rfl,?_⟩|refine ⟨.inr ⟨qsafe_ok (st:=[]) rfl,Sure.of rfl⟩,?_⟩ | fail)):LSt P n0 ss K l T L :=
 S_EdK ks h hg (EWd.whole ht hv) h5 h6 h7 (by rintro _ _ ⟨rfl,rfl⟩; exact ⟨hc,LSt.nf hn⟩)
end
end Go.Tum
end
section
/-
 Calls behind which the blocks are not written out (states with letters in the place of blocks).
-/
namespace Go.Tum
open Go

section
variable {P:Program} {n0:NA} {l l1:Env} {L L1 Lc:LH} {T T1:Taken} {K:Env→LH→Prop} {ss r:List Step} {d:Option Nat} {g:Option (Nat × Bool)} {pend:List Nat}
theorem cWhU {v1:Value} {K2:LH} {keep:List Nat} {f:FuncId} {args:List Operand} {vs:List Value} (ht:TrK P [] keep f vs L1 (fun v K=>v=v1∧K=K2)) (hn:LSt P n0 r K (dpush d v1 l1) T1 K2) (h:arun [] ss l T L=(.e d g (.call f args) pend::r,l1,T1,L1):=by exact rfl) (hg:gw g l1=some true:=by exact rfl)
  (hv:lvs l1 args=some vs:=by exact rfl) (h5:disj (dropped keep 0 (seqN 0 L1.length)) n0.keep=true:=by kernel_rfl) (h6:nmE (dropped keep 0 (seqN 0 L1.length)) l1=true:=by kernel_rfl) (h7:nmT (dropped keep 0 (seqN 0 L1.length)) T1=true:=by kernel_rfl)
  (hc:chkG P n0 (seqN 0 L1.length) T1 L1 K2 pend:=by repeat' (first|exact trivial|refine ⟨.inl rfl,?_⟩|refine ⟨.inr ⟨qsafe_ok (st:=[]) rfl,Sure.of rfl⟩,?_⟩ | fail)):LSt P n0 ss K l T L :=
 S_Ed [] h hg (EWd.whole ht hv) h5 h6 h7 (by rintro _ _ ⟨rfl,rfl⟩; exact ⟨hc,hn⟩)
theorem cWhKU {v1:Value} {K2:LH} {keep:List Nat} {f:FuncId} {args:List Operand} {vs:List Value} (ks:List Nat) (ht:TrK P [] keep f vs L1 (fun v K=>v=v1∧K=K2)) (hn:LSt P n0 r K (dpush d v1 (repick l1 ks)) T1 K2) (h:arun [] ss l T L=(.e d g (.call f args) pend::r,l1,T1,L1):=by exact rfl) (hg:gw g l1=some true:=by exact rfl)
  (hv:lvs l1 args=some vs:=by exact rfl) (h5:disj (dropped keep 0 (seqN 0 L1.length)) n0.keep=true:=by kernel_rfl) (h6:nmE (dropped keep 0 (seqN 0 L1.length)) (repick l1 ks)=true:=by kernel_rfl) (h7:nmT (dropped keep 0 (seqN 0 L1.length)) T1=true:=by kernel_rfl)
  (hc:chkG P n0 (seqN 0 L1.length) T1 L1 K2 pend:=by repeat' (first|exact trivial|refine ⟨.inl rfl,?_⟩|refine ⟨.inr ⟨qsafe_ok (st:=[]) rfl,Sure.of rfl⟩,?_⟩ | fail)):LSt P n0 ss K l T L :=
 S_EdK ks h hg (EWd.whole ht hv) h5 h6 h7 (by rintro _ _ ⟨rfl,rfl⟩; exact ⟨hc,hn⟩)
theorem cArU {A:Args} {v1 v2:Value} {L2 K2:LH} {f:FuncId} {args:List Operand} {vs us:List Value} (φ:List Nat) (ht:TrK P A (seqN 0 Lc.length) f us Lc (fun v K=>v=v1∧K=L2)) (hd:handed φ (seqN 0 Lc.length) n0.A A) (h4:joinQ φ L1 L2=K2) (hn:LSt P n0 r K (dpush d v2 l1) T1 K2) (h:arun [] ss l T L=(.e d g (.call f args) pend::r,l1,T1,L1):=by exact rfl) (hg:gw g l1=some true:=by exact rfl)
  (hv:lvs l1 args=some vs:=by exact rfl) (he:us.map (rnV L1.length φ)=vs:=by exact rfl) (h1:φ.Nodup:=by decide) (h2:partL L1 φ φ Lc:=by repeat' (first|exact trivial|refine ⟨rfl,?_⟩ | fail)) (h3:rnV (L1.length+L2.length) (phi2 φ L1.length L2) v1=v2:=by exact rfl)
  (hc:chkP P n0 T1 K2 pend:=by repeat' (first|exact trivial|refine ⟨⟨qsafe_ok (st:=[]) rfl,Sure.of rfl⟩,?_⟩ | fail)):LSt P n0 ss K l T L :=
 S_E [] h hg ((EW.callA φ ht hv he (Part.of h1 h2) hd).mono fun v K ⟨v',L',⟨h3',h4'⟩,h5',h6'⟩=>(by subst h3'; subst h4'; exact ⟨h5'.trans h3,h6'.trans ((joinQ_eq h1).trans h4)⟩:v=v2∧K=K2)) (by rintro _ _ ⟨rfl,rfl⟩; exact ⟨hc,hn⟩)
/-- what was read ahead,without the slots it was read out of -/
def thinT (T:Taken):Taken:=T.map fun x=>(x.1,x.2.1,[],x.2.2.2)
theorem TR.thin {E:Emb}:∀ {T:Taken} {F:Facts},TR P E T F→TR P E (thinT T) F
 | [],[],_=>trivial
 | (_,_,_,_)::_,(_,_)::_,⟨h1,⟨l',v',h2,_,h4⟩,h5⟩=>⟨h1,⟨l',v',h2,(fun t v ht=>(by cases ht)),h4⟩,h5.thin⟩
 | [],_::_,k=>k.elim
 | _::_,[],k=>k.elim
theorem LSt.thin (h:LSt P n0 ss K l (thinT T) L):LSt P n0 ss K l T L:=⟨fun X w0 E0 w E l' F h0 hE hR hl hT=>h.go X w0 E0 w E l' F h0 hE hR hl hT.thin⟩
theorem drop_all (N:Nat):dropped (seqN 0 N) 0 (seqN 0 N)=[]:=dropped_seq _ 0 N (by rw [seqN_length]; omega)
/-- a call that is handed all blocks,and changes nothing -/
theorem cSame {v1:Value} {f:FuncId} {args:List Operand} {vs:List Value} (ht:Tr P f vs L1 (fun v K=>v=v1∧K=L1)) (hn:LSt P n0 r K (dpush d v1 l1) T1 L1) (h:arun [] ss l T L=(.e d g (.call f args) pend::r,l1,T1,L1):=by exact rfl) (hg:gw g l1=some true:=by exact rfl)
  (hv:lvs l1 args=some vs:=by exact rfl)
  (hc:chkG P n0 (seqN 0 L1.length) T1 L1 L1 pend:=by repeat' (first|exact trivial|refine ⟨.inl rfl,?_⟩|refine ⟨.inr ⟨qsafe_ok (st:=[]) rfl,Sure.of rfl⟩,?_⟩ | fail)):LSt P n0 ss K l T L :=
 S_Ed [] h hg (EWd.whole ht hv) (by rw [drop_all]; exact disj_nil _) (by rw [drop_all]; exact nm_nilE _) (by rw [drop_all]; exact nm_nilT _) (by rintro _ _ ⟨rfl,rfl⟩; exact ⟨hc,hn⟩)
end
end Go.Tum
end
section
/-
 Boxes: a heap within one block,at real addresses.
-/
namespace Go.Tum
open Go

section
variable {X:Nat→Prop} {w0 w w':World} {E:Emb} {L:LH}
/-- the blocks Ls stand in w at Es -/
structure BoxAt (Es:Emb) (Ls:LH) (w:World):Prop where
 len:Es.length=Ls.length
 blk:∀ (k:Nat) (x:LB) (r:Nat × Nat × Nat),Ls[k]?=some x→Es[k]?=some r→LBis Es w r x
 inj:∀ (k k':Nat) (x x':LB) (r r':Nat × Nat × Nat) (b:Nat),Ls[k]?=some x→Ls[k']?=some x'→Es[k]?=some r→Es[k']?=some r'→foot r x b→foot r' x' b→k=k'
 lt:∀ (k:Nat) (x:LB) (r:Nat × Nat × Nat) (b:Nat),Ls[k]?=some x→Es[k]?=some r→foot r x b→b<w.heap.size
def box (Es:Emb) (Ls:LH):LB:=.abs (fun _ w=>BoxAt Es Ls w) (footL Es Ls)
theorem BoxAt.fr {Es:Emb} {Ls:LH} {G:Nat→Prop} (h:BoxAt Es Ls w) (hf:Fr G w w') (hn:∀ b,footL Es Ls b→¬ G b):BoxAt Es Ls w' :=
 ⟨h.len,fun k x r hx hr=>(h.blk k x r hx hr).fr hf (fun b hb=>h.lt k x r b hx hr hb) fun b hb=>hn b ⟨k,x,r,hx,hr,hb⟩,h.inj,fun k x r b hx hr hb=>Nat.lt_of_lt_of_le (h.lt k x r b hx hr hb) hf.size⟩
theorem BoxAt.is {Es Es':Emb} {Ls:LH} {r:Nat × Nat × Nat} (h:BoxAt Es Ls w) (hr:r.2=(0,0)):LBis Es' w r (box Es Ls) :=
 ⟨h,hr,fun _ _ _ h1 hf hn=>h1.fr hf hn⟩
theorem seq_rn {N n b M:Nat} (h:b<n):rn M (seqN N n) b=N+b:=by
 unfold rn
 rw [seqN_get n N b h]; rfl
theorem Ext.app (E Es:Emb):Ext E (E++Es):=fun k r h=>by
 rw [List.getElem?_append_left (List.getElem?_eq_some_iff.1 h).1]; exact h
theorem Into.app {Es:Emb} {n:Nat} (E:Emb) (M:Nat) (hn:Es.length=n):Into Es (E++Es) M (seqN E.length n):=fun b r h=>by
 have hb:=(List.getElem?_eq_some_iff.1 h).1
 rw [seq_rn (by omega),List.getElem?_append_right (by omega),show E.length+b-E.length=b by omega]
 exact h
/-- the blocks of a box,by names behind all others -/
def unbox (N:Nat) (Ls:LH):LH:=Ls.map (rnB (N+Ls.length) (seqN N Ls.length))
theorem Rep.open {b:Nat} {Es:Emb} {Ls:LH} (h:Rep X w0 E L w) (hb:L[b]?=some (box Es Ls)):Rep X w0 (E++Es) (L.set b .dead++unbox L.length Ls) w:=by
 obtain ⟨r0,hr0⟩:=h.ent hb
 have hA:BoxAt Es Ls w:=(h.blk b _ r0 hb hr0).1
 have hEL:=h.len
 have hbl:=(List.getElem?_eq_some_iff.1 hb).1
 have cut:∀ (k:Nat) (x:LB) (r:Nat × Nat × Nat),(L.set b .dead++unbox L.length Ls)[k]?=some x→(E++Es)[k]?=some r →
   (k=b∧x=.dead)∨(k≠b∧L[k]?=some x∧E[k]?=some r)∨(∃ i y,k=L.length+i∧Ls[i]?=some y∧Es[i]?=some r∧x=rnB (L.length+Ls.length) (seqN L.length Ls.length) y):=by
  intro k x r hx hr
  by_cases hk:k<L.length
  ·rw [List.getElem?_append_left (by rw [List.length_set]; exact hk)] at hx
   rw [List.getElem?_append_left (by omega)] at hr
   by_cases e:k=b
   ·subst e
    rw [List.getElem?_set_self hk] at hx
    exact .inl ⟨rfl,(Option.some.inj hx).symm⟩
   ·rw [List.getElem?_set_ne (fun q=>e q.symm)] at hx
    exact .inr (.inl ⟨e,hx,hr⟩)
  ·rw [List.getElem?_append_right (by rw [List.length_set]; omega),List.length_set] at hx
   rw [List.getElem?_append_right (by omega),hEL] at hr
   unfold unbox at hx
   rw [List.getElem?_map] at hx
   cases hq:Ls[k-L.length]? with
   | none=>rw [hq] at hx; cases hx
   | some y =>
    rw [hq] at hx
    exact .inr (.inr ⟨k-L.length,y,by omega,hq,hr,(Option.some.inj hx).symm⟩)
 refine ⟨h.fr,by unfold unbox; rw [List.length_append,List.length_append,List.length_set,List.length_map,hA.len,hEL],fun k x r hx hr c hc=>?_,fun k x r hx hr=>?_,fun k k' x x' r r' c hx hx' hr hr' hc hc'=>?_⟩
 ·rcases cut k x r hx hr with ⟨_,rfl⟩ | ⟨_,h1,h2⟩ | ⟨i,y,_,h1,h2,rfl⟩
  ·exact hc.elim
  ·exact h.rng k x r h1 h2 c hc
  ·rw [foot_rn] at hc
   exact h.rng b _ r0 hb hr0 c ⟨i,y,r,h1,h2,hc⟩
 ·rcases cut k x r hx hr with ⟨_,rfl⟩ | ⟨_,h1,h2⟩ | ⟨i,y,_,h1,h2,rfl⟩
  ·trivial
  ·exact (h.blk k x r h1 h2).ext (Ext.app E Es)
  ·have:=Into.app (Es:=Es) E (L.length+Ls.length) hA.len
   rw [hEL] at this
   exact (hA.blk i y r h1 h2).into this
 ·rcases cut k x r hx hr with ⟨_,rfl⟩ | ⟨n1,h1,h2⟩ | ⟨i,y,e1,h1,h2,rfl⟩
  ·exact hc.elim
  ·rcases cut k' x' r' hx' hr' with ⟨_,rfl⟩ | ⟨_,h3,h4⟩ | ⟨i',y',_,h3,h4,rfl⟩
   ·exact hc'.elim
   ·exact h.inj k k' x x' r r' c h1 h3 h2 h4 hc hc'
   ·rw [foot_rn] at hc'
    exact absurd (h.inj k b x _ r r0 c h1 hb h2 hr0 hc ⟨i',y',r',h3,h4,hc'⟩) n1
  ·rw [foot_rn] at hc
   rcases cut k' x' r' hx' hr' with ⟨_,rfl⟩ | ⟨n2,h3,h4⟩ | ⟨i',y',e2,h3,h4,rfl⟩
   ·exact hc'.elim
   ·exact absurd (h.inj k' b x' _ r' r0 c h3 hb h4 hr0 hc' ⟨i,y,r,h1,h2,hc⟩) n2
   ·rw [foot_rn] at hc'
    have:=hA.inj i i' y y' r r' c h1 h3 h2 h4 hc hc'
    omega
theorem subE_seq {n N:Nat} (h:E.length=N+n):subE E (seqN N n)=E.drop N:=by
 apply List.ext_getElem?
 intro k
 unfold subE
 rw [List.getElem?_map,List.getElem?_drop]
 by_cases hk:k<n
 ·rw [seqN_get n N k hk,Option.map_some,List.getD_eq_getElem?_getD,List.getElem?_eq_getElem (by omega)]; rfl
 ·rw [List.getElem?_eq_none (by rw [seqN_length]; omega),List.getElem?_eq_none (by omega)]; rfl
/-- blocks behind all others become a box,at a name of its own -/
theorem Rep.close {M Ls:LH} (h:Rep X w0 E (M++unbox M.length Ls) w):Rep X w0 (E++[(0,0,0)]) (M++List.replicate Ls.length .dead++[box (E.drop M.length) Ls]) w:=by
 have hlen:E.length=M.length+Ls.length:=by rw [h.len]; unfold unbox; rw [List.length_append,List.length_map]
 have hM:∀ (k:Nat) (x:LB),M[k]?=some x→k<M.length∧(M++unbox M.length Ls)[k]?=some x:=fun k x hx=>by
  have hk:=(List.getElem?_eq_some_iff.1 hx).1
  exact ⟨hk,by rw [List.getElem?_append_left hk]; exact hx⟩
 have hN:∀ (k:Nat) (x:LB),Ls[k]?=some x→(M++unbox M.length Ls)[M.length+k]?=some (rnB (M.length+Ls.length) (seqN M.length Ls.length) x):=fun k x hx=>by
  rw [List.getElem?_append_right (by omega),show M.length+k-M.length=k by omega]
  unfold unbox
  rw [List.getElem?_map,hx]; rfl
 have hE:∀ (k:Nat) (r:Nat × Nat × Nat),(E.drop M.length)[k]?=some r→E[M.length+k]?=some r:=fun k r hr=>by rwa [List.getElem?_drop] at hr
 have hA:BoxAt (E.drop M.length) Ls w:=by
  refine ⟨by rw [List.length_drop]; omega,fun k x r hx hr=>?_,fun k k' x x' r r' c hx hx' hr hr' hc hc'=>?_,fun k x r c hx hr hc=>?_⟩
  ·have:=h.blk _ _ r (hN k x hx) (hE k r hr)
   rw [← hlen] at this
   have:=this.sub
   rwa [subE_seq hlen] at this
  ·have:=h.inj _ _ _ _ r r' c (hN k x hx) (hN k' x' hx') (hE k r hr) (hE k' r' hr') (by rw [foot_rn]; exact hc) (by rw [foot_rn]; exact hc')
   omega
  ·exact (h.rng _ _ r (hN k x hx) (hE k r hr) c (by rw [foot_rn]; exact hc)).2
 have cut:∀ (k:Nat) (x:LB) (r:Nat × Nat × Nat),(M++List.replicate Ls.length LB.dead++[box (E.drop M.length) Ls])[k]?=some x→(E++[(0,0,0)])[k]?=some r →
   (M[k]?=some x∧E[k]?=some r)∨x=.dead∨(k=E.length∧x=box (E.drop M.length) Ls∧r=(0,0,0)):=by
  intro k x r hx hr
  by_cases h1:k<M.length
  ·rw [List.append_assoc,List.getElem?_append_left h1] at hx
   rw [List.getElem?_append_left (by omega)] at hr
   exact .inl ⟨hx,hr⟩
  ·by_cases h2:k<E.length
   ·rw [List.append_assoc,List.getElem?_append_right (by omega),List.getElem?_append_left (by rw [List.length_replicate]; omega),List.getElem?_replicate] at hx
    split at hx
    ·exact .inr (.inl (Option.some.inj hx).symm)
    ·cases hx
   ·have hk:k=E.length:=by
     have:=(List.getElem?_eq_some_iff.1 hr).1
     rw [List.length_append,List.length_singleton] at this; omega
    subst hk
    rw [List.getElem?_append_right (by rw [List.length_append,List.length_replicate]; omega)] at hx
    rw [List.getElem?_append_right (Nat.le_refl _),Nat.sub_self] at hr
    rw [show E.length-(M++List.replicate Ls.length LB.dead).length=0 by rw [List.length_append,List.length_replicate]; omega] at hx
    exact .inr (.inr ⟨rfl,(Option.some.inj hx).symm,(Option.some.inj hr).symm⟩)
 refine ⟨h.fr,by rw [List.length_append,List.length_append,List.length_append,List.length_replicate,hlen]; rfl,fun k x r hx hr c hc=>?_,fun k x r hx hr=>?_,fun k k' x x' r r' c hx hx' hr hr' hc hc'=>?_⟩
 ·rcases cut k x r hx hr with ⟨h1,h2⟩ | rfl | ⟨_,rfl,rfl⟩
  ·exact h.rng k x r (hM k x h1).2 h2 c hc
  ·exact hc.elim
  ·obtain ⟨i,y,q,h1,h2,h3⟩:=hc
   exact h.rng _ _ q (hN i y h1) (hE i q h2) c (by rw [foot_rn]; exact h3)
 ·rcases cut k x r hx hr with ⟨h1,h2⟩ | rfl | ⟨_,rfl,rfl⟩
  ·exact (h.blk k x r (hM k x h1).2 h2).ext (Ext.app E _)
  ·trivial
  ·exact hA.is rfl
 ·rcases cut k x r hx hr with ⟨h1,h2⟩ | rfl | ⟨e1,rfl,rfl⟩
  ·rcases cut k' x' r' hx' hr' with ⟨h3,h4⟩ | rfl | ⟨_,rfl,rfl⟩
   ·exact h.inj k k' x x' r r' c (hM k x h1).2 (hM k' x' h3).2 h2 h4 hc hc'
   ·exact hc'.elim
   ·obtain ⟨i,y,q,g1,g2,g3⟩:=hc'
    have:=h.inj k _ x _ r q c (hM k x h1).2 (hN i y g1) h2 (hE i q g2) hc (by rw [foot_rn]; exact g3)
    have:=(hM k x h1).1
    omega
  ·exact hc.elim
  ·rcases cut k' x' r' hx' hr' with ⟨h3,h4⟩ | rfl | ⟨e2,_,_⟩
   ·obtain ⟨i,y,q,g1,g2,g3⟩:=hc
    have:=h.inj k' _ x' _ r' q c (hM k' x' h3).2 (hN i y g1) h4 (hE i q g2) hc' (by rw [foot_rn]; exact g3)
    have:=(hM k' x' h3).1
    omega
   ·exact hc'.elim
   ·omega
/-- a real address in a box's block -/
def adR (r:Nat × Nat × Nat) (o:Nat):Value:=.pointer (some ⟨r.1,o+r.2.1,some 0⟩)
theorem VR.toName {Es:Emb} {i o:Nat} {r:Nat × Nat × Nat} {v:Value} (hi:Es[i]?=some r) (h:VR E (adR r o) v):VR (E++Es) (.pointer (some ⟨E.length+i,o,none⟩)) v:=by
 have h:v=.pointer (some ⟨r.1,o+r.2.1,none⟩):=h
 subst h
 refine ⟨_,rfl,rfl,r,?_,rfl⟩
 show (E++Es)[E.length+i]?=some r
 rw [List.getElem?_append_right (by omega),show E.length+i-E.length=i by omega]
 exact hi
theorem VR.toReal {k o:Nat} {r:Nat × Nat × Nat} {v:Value} (hk:E[k]?=some r) (h:VR E (.pointer (some ⟨k,o,none⟩)) v):v=.pointer (some ⟨r.1,o+r.2.1,none⟩):=by
 obtain ⟨a',h1,_,r',h3,h4⟩:=h
 have h3:E[k]?=some r':=h3
 rw [hk] at h3; cases h3
 rw [h1,h4]
/-- arguments: names behind N stand for real addresses -/
def RealL (N:Nat) (Es:Emb):List Value→List Value→Prop
 | [],[]=>True
 | u::us,v::vs=>(u=v∨∃ i o r,Es[i]?=some r∧u=.pointer (some ⟨N+i,o,none⟩)∧v=adR r o)∧RealL N Es us vs
 | _,_=>False
theorem RealL.vr {Es:Emb}:∀ {us vs vs':List Value},RealL E.length Es us vs→L2 (VR E) vs vs'→L2 (VR (E++Es)) us vs'
 | [],[],[],_,_=>trivial
 | u::us,v::vs,v'::vs',⟨h1,h2⟩,⟨k1,k2⟩=>by
  refine ⟨?_,RealL.vr h2 k2⟩
  rcases h1 with rfl | ⟨i,o,r,h3,rfl,rfl⟩
  ·exact k1.ext (Ext.app E Es)
  ·exact VR.toName h3 k1
 | [],[],_::_,_,k=>k.elim
 | [],_::_,_,h,_=>h.elim
 | _::_,[],_,h,_=>h.elim
 | _::_,_::_,[],_,k=>k.elim
end
section
variable {P:Program}
/-- a contract over a box's blocks is one over the box -/
theorem TrK.openB {keep:List Nat} {f:FuncId} {us vs:List Value} {L Ls:LH} {b:Nat} {Es:Emb} {R:Value→LH→Prop} (hb:L[b]?=some (box Es Ls)) (ht:TrK P [] keep f us (L.set b .dead++unbox L.length Ls) R) (hu:RealL L.length Es us vs):TrK P [] keep f vs L R:=by
 intro X w0 w E vs' hA hR hv
 have hO:=hR.open hb
 rw [← hR.len] at hu
 obtain ⟨h1,h2⟩:=ht X w0 w (E++Es) vs' ⟨hO.len,by simp,hA.2.2⟩ hO (hu.vr hv)
 refine ⟨h1,h2.mono ?_⟩
 rintro v' w' ⟨E',v,L',g1,g0,g2,g3,g4⟩
 refine ⟨E',v,L',fun k r hk hr=>g1 k r hk (Ext.app E Es k r hr),?_,g2,g3,g4⟩
 rw [List.length_append,List.length_set] at g0
 exact Nat.le_trans (Nat.le_add_right _ _) g0
/-- .. and what it leaves becomes a box again -/
theorem TrK.closeB {keep:List Nat} {f:FuncId} {us:List Value} {L M Ls:LH} {v1:Value} {v2:Emb→Value} (ht:TrK P [] keep f us L (fun v K=>v=v1∧K=M++unbox M.length Ls))
  (hv:∀ (E:Emb) (v':Value),E.length=M.length+Ls.length→VR E v1 v'→VR (E++[(0,0,0)]) (v2 (E.drop M.length)) v'):TrK P [] keep f us L (fun v K=>∃ Es:Emb,Es.length=Ls.length∧v=v2 Es∧K=M++List.replicate Ls.length .dead++[box Es Ls]):=by
 intro X w0 w E vs' hA hR hv'
 obtain ⟨h1,h2⟩:=ht X w0 w E vs' hA hR hv'
 refine ⟨h1,h2.mono ?_⟩
 rintro v' w' ⟨E',_,_,g1,g0,g2,g3,rfl,rfl⟩
 have hl:E'.length=M.length+Ls.length:=by rw [g3.len]; unfold unbox; rw [List.length_append,List.length_map]
 refine ⟨E'++[(0,0,0)],_,_,fun k r hk hr=>Ext.app E' _ k r (g1 k r hk hr),?_,hv E' v' hl g2,g3.close,E'.drop M.length,by rw [List.length_drop]; omega,rfl,rfl⟩
 unfold unbox at g0
 rw [List.length_append,List.length_map] at g0
 rw [List.length_append,List.length_append,List.length_replicate]
 omega
end
section
variable {P:Program} {n0:NA} {l:Env} {L:LH} {Q:Exit→Env→LH→Prop}
/-- a box is opened: a slot that holds a real address holds a name -/
theorem LWp.openB {m:MC} {Ls:LH} {b:Nat} {Es:Emb} (t i o:Nat) {r:Nat × Nat × Nat} (hb:L[b]?=some (box Es Ls)) (hi:Es[i]?=some r) (ht:eget l t=some (adR r o)) (h:LWp P n0 m Q ((t,.pointer (some ⟨L.length+i,o,none⟩))::l) (L.set b .dead++unbox L.length Ls)):LWp P n0 m Q l L:=by
 refine ⟨fun X w0 E0 w E l' h0 hE hR hl=>?_⟩
 have hO:=hR.open hb
 refine h.go X w0 E0 w (E++Es) l' h0 (hE.trans (Ext.app E Es)) hO (fun s v hs=>?_)
 have hl2:=hl.ext (Ext.app E Es)
 simp only [eget] at hs
 by_cases hts:t=s
 ·subst hts
  rw [show (Nat.beq t t)=true from Nat.beq_refl t] at hs
  obtain rfl:=(Option.some.inj hs).symm
  obtain ⟨v',h1,h2⟩:=hl.get ht
  exact ⟨v',h1,by rw [← hR.len]; exact VR.toName hi h2⟩
 ·have:Nat.beq t s=false:=by
   cases hq:Nat.beq t s with
   | false=>rfl
   | true=>exact absurd (Nat.eq_of_beq_eq_true hq) hts
  rw [this] at hs
  exact hl2 s v hs
end
end Go.Tum
end
section
/-
 The logic over named blocks: append of rows that came in.
-/
namespace Go.Tum
open Go

/-- v can be read as a slice of n elements,whoever owns it,cell by cell -/
def RdC (w:World) (sz:Nat) (v:Value) (n:Nat) (cells:List Value):Prop :=
 cells.length=n*sz∧(∀ u∈cells,one u=true) ∧
 (((∃ a c,v=.slice a 0 c)∧n=0)∨∃ sa c,v=.slice (some sa) n c∧∀ j,j<n*sz→w.cell? (sa.add j)=cells[j]?)
theorem RdC.sim {w w0:World} {sz:Nat} {v:Value} {n:Nat} {cells:List Value} (h:RdC w sz v n cells) (hs:Sim w0 w):RdC w0 sz v n cells:=by
 obtain ⟨h1,h2,h3⟩:=h
 refine ⟨h1,h2,?_⟩
 rcases h3 with h4 | ⟨sa,c,h4,h5⟩
 ·exact .inl h4
 ·exact .inr ⟨sa,c,h4,fun j hj=>by rw [hs.cell]; exact h5 j hj⟩
section
variable {P:Program} {w:World} {l:Env} {K:Value→World→Prop}
theorem firstCells_rdC {sz n:Nat} {v:Value} {cells:List Value} (h:RdC w sz v n cells):(Builtin.firstCells sz n v).run P w=.ok cells.toArray w:=by
 obtain ⟨h1,_,h3⟩:=h
 rcases h3 with ⟨⟨a,c,rfl⟩,rfl⟩ | ⟨sa,c,rfl,h5⟩
 ·have:cells=[]:=by simpa using h1
  subst this
  cases a with
  | none=>simp [Builtin.firstCells]
  | some a =>
   simp only [Builtin.firstCells,Nat.zero_mul]
   exact loadCells_run 0 0 #[] #[] rfl (fun j _ hj=>by omega) (by simp)
 ·simp only [Builtin.firstCells]
  exact loadCells_run _ 0 #[] cells.toArray (by simpa using h1) (fun j _ hj=>by rw [h5 j (by omega)]; simp) (by simp)
theorem append_runC {sT xT e:TypeId} {sz bytes n m c:Nat} {base:Option Addr} {vx:Value} {cells cells2:List Value} {ty:TypeId} (he:ElemT P sT e sz bytes) (hx:∃ e',P.underlying xT=some (.slice e'))
  (hs:Rd w sz (.slice base n c) n cells) (hr:RdC w sz vx m cells2) (hb:(2*(n+m)+2048)*bytes≤281474976710656) (hby:0<bytes) :
  ((n+m≤c∧(∀ a,base=some a→(Builtin.append_ #[sT,xT] ty #[.slice base n c,vx]).run P w=(do storeCells (a.add (n*sz)) cells2; pure (.slice base (n+m) c):Sem Value).run P w) ∧
    (base=none→(Builtin.append_ #[sT,xT] ty #[.slice base n c,vx]).run P w=.ok (.slice base (n+m) c) w)) ∨
   (c<n+m∧∃ c' zs w',n+m≤c'∧(cells++cells2++zs).length=c'*sz∧Sim w' (w.alloc (.cells (cells++cells2++zs).toArray e)) ∧
    (Builtin.append_ #[sT,xT] ty #[.slice base n c,vx]).run P w=.ok (.slice (some ⟨w.heap.size,0,none⟩) (n+m) c') w')):=by
 obtain ⟨hu,i,z,hi,h1,h2,hz,hzs,_⟩:=he
 obtain ⟨e',hx⟩:=hx
 have hl:(Builtin.lenOf vx).run P w=.ok m w:=by
  obtain ⟨_,_,h3⟩:=hr
  rcases h3 with ⟨⟨a,c,rfl⟩,rfl⟩ | ⟨sa,c,rfl,_⟩ <;> simp [Builtin.lenOf]
 have hzv:(zeroValue e).run P w=.ok z w:=by simp [zeroValue,typeInfo_run hi,hz]
 by_cases hc:n+m≤c
 ·refine .inl ⟨hc,fun a ha=>?_,fun ha=>?_⟩
  ·subst ha
   unfold Builtin.append_
   simp [run_underlying hu,run_underlying hx,sizeOf_run hi,h1,hl,hc,firstCells_rdC hr]
  ·subst ha
   unfold Builtin.append_
   simp [run_underlying hu,run_underlying hx,sizeOf_run hi,h1,hl,hc,firstCells_rdC hr]
 ·refine .inr ⟨by omega,?_⟩
  have hcap:=nextslicecap_le (n+m) c (by omega)
  have hle:Builtin.nextslicecap (n+m) c*bytes≤281474976710656:=Nat.le_trans (Nat.mul_le_mul_right _ hcap) hb
  have hnm:(2*(n+m)+2048)*1≤(2*(n+m)+2048)*bytes:=Nat.mul_le_mul_left _ hby
  have hq:(Question.appendCap (n+m) c e).forced=false:=rfl
  have hbig:¬ (IntKind.i64.max<((n:Int)+(m:Int))):=by
   have:IntKind.i64.max=9223372036854775807:=rfl
   rw [this]; omega
  let t:=w.tape w.drawn (Question.appendCap (n+m) c e)
  let c':=(n+m)+t % (2 ^ 63-(n+m))
  have hsim:Sim w.drew w:=⟨rfl,rfl,rfl,rfl⟩
  have f1:(Builtin.firstCells sz n (.slice base n c)).run P w.drew=.ok cells.toArray w.drew:=firstCells_rd (hs.sim hsim)
  have f2:(Builtin.firstCells sz m vx).run P w.drew=.ok cells2.toArray w.drew:=firstCells_rdC (hr.sim hsim)
  have hzv1:(zeroValue e).run P w.drew=.ok z w.drew:=by simp [zeroValue,typeInfo_run hi,hz]
  refine ⟨c',(Builtin.zeroCells z.cells (c'-(n+m))).toList,w.drew.alloc (.cells (cells.toArray++cells2.toArray++Builtin.zeroCells z.cells (c'-(n+m))) e),Nat.le_add_right _ _,?_,?_,?_⟩
  ·obtain ⟨k1,_,_⟩:=hs
   obtain ⟨k2,_,_⟩:=hr
   simp only [List.length_append,k1,k2,Builtin.zeroCells]
   simp only [Array.length_toList,Array.size_map,Array.size_range,hzs]
   have e1:c'-(n+m)+(n+m)=c':=Nat.sub_add_cancel (Nat.le_add_right _ _)
   rw [← Nat.add_mul,← Nat.add_mul]
   congr 1
   omega
  ·refine ⟨?_,rfl,rfl,rfl⟩
   show w.heap.push _=w.heap.push _
   congr 2
   simp
  ·unfold Builtin.append_
   have hle':¬ (281474976710656<Builtin.nextslicecap (n+m) c*bytes):=by omega
   have hne:bytes≠0:=by omega
   simp [run_underlying hu,run_underlying hx,sizeOf_run hi,h1,hl,hc,typeInfo_run hi,h2,hne,hle',newRow]
   rw [if_neg (by rw [hq]; simp),f1]
   simp only [Result.andThen_ok]
   rw [f2]
   simp only [Result.andThen_ok]
   rw [hzv1]
   simp only [Result.andThen_ok,Result.ok.injEq]
   refine ⟨rfl,?_⟩
   congr 2
   show cells.toArray++(cells2.toArray++Builtin.zeroCells z.cells (c'-(n+m)))=_
   generalize Builtin.zeroCells z.cells (c'-(n+m))=Z
   rw [← Array.append_assoc]
   simp
theorem append_anyC {d:Option Tmp} {pos:String} {af:Array Edge} {g:Option (Nat × Bool)} {s x:Operand} {sT xT ty e:TypeId} {sz bytes n m c:Nat} {base:Option Addr} {vx:Value} {cells cells2:List Value} (he:ElemT P sT e sz bytes) (hxT:∃ e',P.underlying xT=some (.slice e'))
  (hs:ev l s=some (.slice base n c)) (hx:ev l x=some vx) (hS:Rd w sz (.slice base n c) n cells) (hR:RdC w sz vx m cells2) (hb:(2*(n+m)+2048)*bytes≤281474976710656) (hby:0<bytes)
  (h1:n+m≤c→∀ a,base=some a→(cells2=[]∧K (.slice base (n+m) c) w)∨∃ b o cs,a=⟨b,o,none⟩∧Blk w b cs∧o+n*sz+cells2.length≤cs.length∧K (.slice base (n+m) c) (putCells w ⟨b,o+n*sz,none⟩ 0 cells2))
  (h0:n+m≤c→base=none→K (.slice base (n+m) c) w)
  (h2:c<n+m→∀ c' zs,n+m≤c'→(cells++cells2++zs).length=c'*sz→K (.slice (some ⟨w.heap.size,0,none⟩) (n+m) c') (w.alloc (.cells (cells++cells2++zs).toArray e))) :
  (EOp.raw ⟨d,.call ⟨.builtin .append,#[s,x],#[sT,xT]⟩,ty,pos,af,g⟩).W P K l w:=by
 intro ρ w0 ha hsim
 have hexec:execOp ρ ⟨d,.call ⟨.builtin .append,#[s,x],#[sT,xT]⟩,ty,pos,af,g⟩=(do let r ← Builtin.append_ #[sT,xT] ty #[.slice base n c,vx]; pure (Next.value r)):=by
  simp [execOp,resolve,invoke,builtin,ha s _ hs,ha x _ hx]
 have hrun:=append_runC (P:=P) (w:=w0) (ty:=ty) he hxT (hS.sim hsim) (hR.sim hsim) hb hby
 rcases hrun with ⟨hle,k1,k2⟩ | ⟨hlt,c',zs,w',hc',hlz,hsw,hr⟩
 ·cases base with
  | none =>
   refine Eff.value (v:=.slice none (n+m) c) (w':=w0) ?_ ⟨w,hsim,h0 hle rfl⟩
   rw [hexec]
   simp [k2 rfl]
  | some a =>
   rcases h1 hle a rfl with ⟨rfl,hK⟩ | ⟨b,o,cs,rfl,hB,hcl,hK⟩
   ·refine Eff.value (v:=.slice (some a) (n+m) c) (w':=w0) ?_ ⟨w,hsim,hK⟩
    rw [hexec]
    simp [k1 _ rfl,storeCells]
   have hst:=storeCells_blk (P:=P) (w:=w0) (hB.sim hsim) hcl hR.2.1
   refine Eff.value (v:=.slice (some ⟨b,o,none⟩) (n+m) c) (w':=putCells w0 ⟨b,o+n*sz,none⟩ 0 cells2) ?_ ⟨_,putCells_sim hsim _ _ _,hK⟩
   rw [hexec]
   simp only [Sem.run_bind,k1 _ rfl,add_none,hst]
   simp
 ·refine Eff.value (v:=.slice (some ⟨w0.heap.size,0,none⟩) (n+m) c') (w':=w') ?_ ⟨_,hsw.trans (hsim.push _),?_⟩
  ·rw [hexec]
   simp [hr]
  ·rw [hsim.heap]
   exact h2 hlt c' zs hc' hlz
end
section
variable {X:Nat→Prop} {w0 w w':World} {E:Emb} {L:LH}
theorem appG_ok {P:Program} {l:Env} {K:Value→World→Prop} {d:Option Tmp} {pos:String} {af:Array Edge} {g:Option (Nat × Bool)} {s x:Operand} {sT xT ty e:TypeId} {sz bytes b n m:Nat} {vs' vx':Value} {gs us us2:List Value} (he:ElemT P sT e sz bytes) (hxT:∃ e',P.underlying xT=some (.slice e')) (hby:0<bytes)
  (hsz:0<sz) (hR:Rep X w0 E L w) (hs:ev l s=some vs') (hx:ev l x=some vx') (hsr:VR E (.slice (some ⟨b,0,none⟩) n n) vs') (hb:L[b]?=some (.gro sz gs)) (e4:gs.length=n*sz) (hrd1:Rd w sz vs' n us) (hrd2:RdC w sz vx' m us2) (hbd:(2*(n+m)+2048)*bytes≤281474976710656)
  (hK:∀ w' E' v',Ext E E'→Rep X w0 E' (L.set b .dead++[.gro sz (gs++us2)]) w'→VR E' (.slice (some ⟨L.length,0,none⟩) (n+m) (n+m)) v'→K v' w'):(EOp.raw ⟨d,.call ⟨.builtin .append,#[s,x],#[sT,xT]⟩,ty,pos,af,g⟩).W P K l w:=by
 have hlen1:us.length=n*sz:=hrd1.1
 have hlen2:us2.length=m*sz:=hrd2.1
 have freshG:∀ (Lb:LH) (xs:List Value),Rep X w0 E Lb w→us++us2=xs→xs≠[]→∀ (c':Nat) (zs:List Value),n+m≤c'→(us++us2++zs).length=c'*sz →
   Rep X w0 (E++[(w.heap.size,0,c'-(n+m))]) (Lb++[.gro sz xs]) (w.alloc (.cells (us++us2++zs).toArray e)):=by
  intro Lb xs hRb hxs hne c' zs hc' hlz
  subst hxs
  refine hRb.push1 (Fr.alloc _ _ _) rfl (alloc_size _ _) (fun b hb=>?_) (.inr ⟨hne,hsz,_,Blk.new w _ e,?_,?_⟩)
  ·cases hq:us++us2 with
   | nil=>exact absurd hq hne
   | cons y ys=>rw [hq] at hb; exact hb
  ·simp only [List.drop_zero]
   rw [List.take_append_of_le_length (Nat.le_refl _),List.take_length]
  ·rw [hlz]
   simp only [List.length_append,hlen1,hlen2]
   rw [Nat.zero_add,← Nat.add_mul,← Nat.add_mul]
   exact Nat.mul_le_mul_right _ (by omega)
 have slcNew:∀ (Lb:LH),Rep X w0 E Lb w→∀ c',n+m≤c'→VR (E++[(w.heap.size,0,c'-(n+m))]) (.slice (some ⟨Lb.length,0,none⟩) (n+m) (n+m)) (.slice (some ⟨w.heap.size,0,none⟩) (n+m) c'):=by
  intro Lb hRb c' hc'
  exact ⟨rfl,_,hRb.last _,.inl ⟨_,_,rfl,.inl ⟨by simp,by simp; omega⟩⟩⟩
 obtain ⟨hsp,r,hr,⟨a',c',rfl,hcase⟩ | ⟨hn0,hc0,hnil⟩⟩:=hsr.sr rfl
 rotate_left
 ·obtain ⟨ax,rfl⟩:=hnil
  subst hn0
  have hr:E[b]?=some r:=hr
  have hgs:gs=[]:=List.length_eq_zero_iff.1 (by simpa using e4)
  subst hgs
  have hu1:us=[]:=List.length_eq_zero_iff.1 (by rw [hlen1]; simp)
  subst hu1
  have none0:0+m≤0→us2=[]∧K (.slice ax (0+m) 0) w:=fun hle=>by
   have:m=0:=by omega
   subst this
   have hc2e:us2=[]:=List.length_eq_zero_iff.1 (by rw [hlen2]; simp)
   subst hc2e
   exact ⟨rfl,hK _ (E++[(0,0,0)]) _ (Ext.push E _) (hR.again hb hr (Fr.refl _ w) (fun c hc=>hc.elim) (.inl ⟨rfl,rfl⟩)) ⟨rfl,_,hR.last _,.inr ⟨rfl,rfl,ax,rfl⟩⟩⟩
  refine append_anyC he hxT hs hx hrd1 hrd2 hbd hby (fun hle _ _=>.inl (none0 hle)) (fun hle _=>(none0 hle).2) (fun hlt c' zs hc' hlz=>?_)
  have hne:us2≠[]:=by
   intro e
   rw [e] at hlen2
   have:0<m*sz:=Nat.mul_pos (by omega) hsz
   simp at hlen2
   omega
  have k1:=freshG _ ([]++us2) (hR.kill b) rfl hne c' zs hc' hlz
  have k2:=slcNew _ (hR.kill b) c' hc'
  simp only [List.length_set] at k2
  exact hK _ _ _ (Ext.push E _) k1 k2
 have hr:E[b]?=some r:=hr
 rcases hR.blk b _ r hb hr with ⟨rfl,hr2⟩ | ⟨hne,_,cs,hB,hcs,hroom⟩
 ·have hn0:n=0:=by
   rcases Nat.eq_zero_or_pos n with h0 | h0
   ·exact h0
   ·have:0<n*sz:=Nat.mul_pos h0 hsz
    simp at e4; omega
  subst hn0
  have hc0:c'=0:=by rcases hcase with ⟨_,rfl⟩ | ⟨_,_,rfl,_⟩ <;> omega
  subst hc0
  have hu1:us=[]:=List.length_eq_zero_iff.1 (by rw [hlen1]; simp)
  subst hu1
  have hblk:a'.spot=none:=by rcases hcase with ⟨rfl,_⟩ | ⟨_,_,_,o',rfl,_⟩ <;> rfl
  have hab:∃ o',a'=⟨r.1,o',none⟩∧o'≤0+r.2.1:=by 
   rcases hcase with ⟨rfl,_⟩ | ⟨_,_,_,o',rfl,ho⟩
   ·exact ⟨_,rfl,Nat.le_refl _⟩
   ·exact ⟨_,rfl,ho⟩
  refine append_anyC he hxT hs hx hrd1 hrd2 hbd hby (fun hle a ha=>.inl ?_) (fun _ ha=>by cases ha) (fun hlt c'' zs hc'' hlz=>?_)
  ·have:m=0:=by omega
   subst this
   have hc2e:us2=[]:=List.length_eq_zero_iff.1 (by rw [hlen2]; simp)
   subst hc2e
   refine ⟨rfl,hK _ (E++[r]) _ (Ext.push E _) (hR.again hb hr (Fr.refl _ w) (fun c hc=>hc.elim) (.inl ⟨rfl,hr2⟩)) ?_⟩
   obtain ⟨o',rfl,ho'⟩:=hab
   exact ⟨rfl,r,hR.last _,.inl ⟨_,_,rfl,.inr ⟨rfl,rfl,rfl,o',rfl,by simpa using ho'⟩⟩⟩
  ·have hne:us2≠[]:=by
    intro e
    rw [e] at hlen2
    have:0<m*sz:=Nat.mul_pos (by omega) hsz
    simp at hlen2
    omega
   have k1:=freshG _ ([]++us2) (hR.kill b) rfl hne c'' zs hc'' hlz
   have k2:=slcNew _ (hR.kill b) c'' hc''
   simp only [List.length_set] at k2
   exact hK _ _ _ (Ext.push E _) k1 k2
 ·have hn0:0<n:=by
   rcases Nat.eq_zero_or_pos n with h0 | h0
   ·subst h0; simp at e4; exact absurd e4 hne
   ·exact h0
  rcases hcase with ⟨rfl,rfl⟩ | ⟨h0,_⟩
  rotate_left
  ·omega
  have hus:us=gs:=by
   rcases hrd1.2.2 with ⟨⟨_,_,e⟩,h0⟩ | ⟨b1,o1,c1,cs1,e,hB1,_,h5⟩
   ·omega
   ·cases e
    rw [← h5,← hB.eq hB1,← e4]
    simpa using hcs
  subst hus
  have hne2:us++us2≠[]:=by
   intro e
   rw [List.append_eq_nil_iff] at e
   exact hne e.1
  refine append_anyC he hxT hs hx hrd1 hrd2 hbd hby (fun hle' a ha=>.inr ?_) (fun _ ha=>by cases ha) (fun hlt' c'' zs hc'' hlz=>?_)
  ·cases ha
   have hsp:n*sz+m*sz≤n*sz+r.2.2*sz:=by
    rw [← Nat.add_mul,← Nat.add_mul]; exact Nat.mul_le_mul_right _ hle'
   have hcl:0+r.2.1+n*sz+us2.length≤cs.length:=by omega
   refine ⟨_,_,cs,rfl,hB,hcl,hK _ (E++[(r.1,0+r.2.1,n+r.2.2-(n+m))]) _ (Ext.push E _) ?_ ?_⟩
   ·refine hR.again hb hr ((putCells_fr (p:=⟨r.1,0+r.2.1+n*sz,none⟩) us2 0 w).mono fun c _ hc=>?_) (fun c hc=>.inl ?_) (.inr ⟨hne2,hsz,_,putCells_blk us2 0 w cs hB (by omega),?_,?_⟩)
    ·cases us with
     | nil=>exact absurd rfl hne
     | cons=>exact hc
    ·cases us with
     | nil=>exact absurd rfl hne
     | cons=>exact hc
    ·have:=take_splice (cs:=cs) (o:=0+r.2.1) (k:=n*sz) (b:=us2) (a:=us) hcl (by rw [← e4]; simpa using hcs)
     rw [List.length_append,hlen1,Nat.add_zero]
     exact this
    ·rw [List.length_append,hlen1,hlen2,Nat.add_zero,splice_length hcl]
     have e5:n*sz+m*sz+(n+r.2.2-(n+m))*sz=n*sz+r.2.2*sz:=by
      rw [← Nat.add_mul,← Nat.add_mul,← Nat.add_mul]; congr 1; omega
     show 0+r.2.1+(n*sz+m*sz)+(n+r.2.2-(n+m))*sz≤cs.length
     omega
   ·exact ⟨rfl,(r.1,0+r.2.1,n+r.2.2-(n+m)),hR.last _,.inl ⟨_,_,rfl,.inl ⟨by simp,by simp; omega⟩⟩⟩
  ·have k1:=freshG _ (us++us2) (hR.kill b) rfl hne2 c'' zs hc'' hlz
   have k2:=slcNew _ (hR.kill b) c'' hc''
   simp only [List.length_set] at k2
   exact hK _ _ _ (Ext.push E _) k1 k2
end
section
variable {P:Program} {n0:NA} {l:Env} {L:LH} {α:Type} {g:α→List Value} {sz:Nat}
/-- rows that came in,put behind rows of one's own -/
theorem EW.appA {o:Oper} {s x:Operand} {sT xT:TypeId} {bytes b n k j N m mc:Nat} {xs:List α} {f:Nat→List Value} {op:Nat→α} (h:RowOk g sz) (hop:∀ i,i<N→f i=g (op i)) (ho:o.op=.call ⟨.builtin .append,⟨[s,x]⟩,⟨[sT,xT]⟩⟩) (ht:appT P sT xT=some (sz,bytes))
  (hs:lv l s=some (.slice (some ⟨b,0,none⟩) n n)) (hx:lv l x=some (.slice (some ⟨k,0,none⟩) m mc)) (hb:L[b]?=some (.gro sz (rowsC g xs))) (hA:n0.A[j]?=some (k,N*sz,rowG sz f)) (hn:xs.length=n) (hm:m≤N) (hz:0<sz) (hbd:(2*(n+m)+2048)*bytes≤281474976710656) :
  EW P n0 L l (.raw o) (fun v K=>v=.slice (some ⟨L.length,0,none⟩) (n+m) (n+m)∧K=L.set b .dead++[.gro sz (rowsC g (xs++takeA op m))]):=by
 intro X w0 E0 w E l' Kf h0 hE hR hl hK
 have hrl:(rowsC g xs).length=n*sz:=by rw [rowsC_length h,hn]
 have hc1:∃ cells,lslc L sz (.slice (some ⟨b,0,none⟩) n n)=some cells:=by
  cases n with
  | zero=>exact ⟨[],rfl⟩
  | succ n =>
   have h1:Nat.ble (0+(n+1)*sz) (rowsC g xs).length=true:=Nat.ble_eq_true_of_le (by omega)
   have h2:(rowsC g xs).isEmpty=false:=by
    cases hq:rowsC g xs with
    | nil=>have:0<(n+1)*sz:=Nat.mul_pos (by omega) hz; rw [hq] at hrl; simp at hrl; omega
    | cons=>rfl
   have h3:(((rowsC g xs).drop 0).take ((n+1)*sz)).all stillS=true:=List.all_eq_true.2 fun a ha=>List.all_eq_true.1 (rowsC_still h xs) a (List.mem_of_mem_drop (List.mem_of_mem_take ha))
   exact ⟨_,by simp only [lslc,lcells,hb,h1,h2,h3,Bool.and_self,Bool.not_false,cond_true]; rfl⟩
 obtain ⟨cells,hc1⟩:=hc1
 obtain ⟨vs',h1,hsr⟩:=lv_ev hl hs
 obtain ⟨vx',h3,hxr⟩:=lv_ev hl hx
 obtain ⟨us,hrd1,hl1⟩:=lslc_ok hR (hsr.sr rfl) hc1
 have hst:=rowsC_still h (takeA op m)
 have hul:(rowsC g (takeA op m)).length=m*sz:=by rw [rowsC_length h,takeA_length]
 have hrd2:RdC w sz vx' m (rowsC g (takeA op m)):=by
  refine ⟨hul,fun u hu=>(SR.still (E:=E) (List.all_eq_true.1 hst u hu)).one.1,?_⟩
  rcases Nat.eq_zero_or_pos m with hm0 | hm0
  ·subst hm0
   obtain ⟨a,c,rfl⟩:=form_slice hxr
   exact .inl ⟨⟨a,c,rfl⟩,rfl⟩
  ·have hm1:m≠0:=by omega
   obtain ⟨hsp,q,hq,⟨a2,c2,e2,hcase⟩ | ⟨hz0,_⟩⟩:=hxr
   rotate_left
   ·exact absurd hz0 hm1
   rcases hcase with ⟨rfl,rfl⟩ | ⟨hz0,_⟩
   rotate_left
   ·exact absurd hz0 hm1
   have hq:E[k]?=some q:=hq
   refine .inr ⟨_,_,e2,fun j' hj'=>?_⟩
   have hdiv:j' / sz<m:=Nat.div_lt_of_lt_mul (by rw [Nat.mul_comm]; exact hj')
   have hmod:j' % sz<sz:=Nat.mod_lt _ hz
   have hj2:j'<N*sz:=Nat.lt_of_lt_of_le hj' (Nat.mul_le_mul_right _ hm)
   obtain ⟨r',y,g1,g2,g3⟩:=arg_cell h0 hE hR (List.mem_of_getElem? hA) hj2
   rw [hq] at g1; cases g1
   have hj3:j'=j' / sz*sz+j' % sz:=by rw [Nat.mul_comm,Nat.div_add_mod]
   have hfl:(f (j' / sz)).length=sz:=by rw [hop _ (by omega)]; exact h.len _
   have hu:(f (j' / sz))[j' % sz]?=some ((f (j' / sz))[j' % sz]'(by omega)):=List.getElem?_eq_getElem (by omega)
   have hG:=rowG_at (i:=j' / sz) (j:=j' % sz) hfl hu
   rw [← hj3] at hG
   rw [hG] at g3
   have g3:y=_:=g3
   subst g3
   rw [add_none]
   have hget:(rowsC g (takeA op m))[j']?=(f (j' / sz))[j' % sz]?:=by
    have ha:(takeA op m)[j' / sz]?=some (op (j' / sz)):=by simp [takeA,hdiv]
    have:=rowsC_cell h ha hmod
    rw [← hj3] at this
    rw [this,hop _ (by omega)]
   rw [hget,hu,← g2]
   congr 2; show 0+q.2.1+j'=_; omega
 unfold appT at ht
 split at ht
 rotate_left
 ·cases ht
 rename_i e i z he
 cases hc:(isSl P xT && Nat.beq z.cells.toList.length i.size && z.cells.toList.all one && Nat.blt 0 i.bytes && Nat.blt 0 i.size)
 ·rw [hc] at ht; cases ht
 rw [hc] at ht
 cases ht
 simp only [Bool.and_eq_true] at hc
 obtain ⟨hu,hi,hz'⟩:=elemOf_ok he
 have he':ElemT P sT e i.size i.bytes:=⟨hu,i,z,hi,rfl,rfl,hz',by simpa using Nat.eq_of_beq_eq_true hc.1.1.1.2,fun u hu=>List.all_eq_true.1 hc.1.1.2 u hu⟩
 obtain ⟨d,opp,ty,pos,af,g'⟩:=o
 simp only at ho
 subst ho
 refine appG_ok he' (isSl_ok hc.1.1.1.1) (Nat.le_of_ble_eq_true hc.1.2) hz hR h1 h3 hsr hb hrl hrd1 hrd2 hbd (fun w' E' v' hX hR' hv=>hK w' E' v' _ _ ⟨rfl,?_⟩ hX hR' hv)
 rw [rowsC_append]
end
end Go.Tum
end
