/-
  What the proof leans on, part 9: of the texts Lw41, FlA, FlB, FpB, Lw24, Lw30, ReaS, Lw43, FpC, FlX, FpD, FaultPlays.
-/
import Derived.Test.YtgfjgfapigekiaaGreatPkH
import Derived.Ground.GgzProg
import Derived.Ground.SlgmProg
import Derived.Lib.SlKeysI
import Derived.Shelf.SlIterI.Keys
import Derived.Shelf.SlIterI.Sorted
import Derived.Shelf.SortM.Plain
import Derived.Shelf.SortM.SortNone
import Derived.Sort.OwnSortedInts
import Derived.Test.YtgfjgfapigekiaaGreatProg
set_option linter.unusedVariables false
set_option linter.unusedSimpArgs false
set_option linter.unusedSectionVars false
section
namespace Go.Tum
open Go
set_option maxRecDepth 4000
abbrev GS:=List (Int × Nat)
def tE (x:Int × Nat):Int × Value × Nat:=(x.1,.bool true,x.2)
def tB (b0:Nat) (G:GS) (c:Nat):LB:=.abs (fun r w=>r=b0∧Mp (Value.int .i64) w r (G.map tE) c∧Wf (G.map tE) c) (·=b0)
def thas (G:GS) (a:Int):Bool:=G.any fun x=>decide (x.1=a)
structure GSOk (G:GS) (c:Nat):Prop where
 keys:(G.map (·.1)).Nodup
 borns:(G.map (·.2)).Nodup
 lt:∀ x∈G,x.2<c
def tput (G:GS) (a:Int) (c:Nat):GS × Nat:=bif thas G a then (G,c) else (G++[(a,c)],c+1)
theorem thas_iff {G:GS} {a:Int}:thas G a=true↔∃ b,(a,b)∈G:=by
 unfold thas
 rw [List.any_eq_true]
 constructor
 ·rintro ⟨x,hx,h⟩
  have h:=of_decide_eq_true h
  exact ⟨x.2,by rw [← h]; exact hx⟩
 ·rintro ⟨b,h⟩
  exact ⟨_,h,decide_eq_true rfl⟩
theorem thas_tput (G:GS) (a b:Int) (c:Nat):thas (tput G a c).1 b=(thas G b || decide (a=b)):=by
 unfold tput
 cases h:thas G a with
 | true =>
  show thas G b=_
  by_cases e:a=b
  ·subst e; rw [h]; rfl
  ·rw [decide_eq_false e,Bool.or_false]
 | false =>
  show thas (G++[(a,c)]) b=_
  unfold thas
  rw [List.any_append]
  simp
theorem GSOk.nil:GSOk [] 0:=⟨List.nodup_nil,List.nodup_nil,fun _ h=>by cases h⟩
theorem GSOk.filter {G:GS} {c:Nat} (h:GSOk G c) (p:Int × Nat→Bool):GSOk (G.filter p) c :=
 ⟨h.keys.sublist (List.filter_sublist.map _),h.borns.sublist (List.filter_sublist.map _),fun x hx=>h.lt x (List.mem_filter.1 hx).1⟩
theorem GSOk.tput {G:GS} {c:Nat} (h:GSOk G c) (a:Int):GSOk (tput G a c).1 (tput G a c).2:=by
 unfold Tum.tput
 cases hh:thas G a with
 | true=>exact h
 | false =>
  show GSOk (G++[(a,c)]) (c+1)
  refine ⟨?_,?_,fun x hx=>?_⟩
  ·rw [List.map_append,List.nodup_append]
   refine ⟨h.keys,by simp,fun b hb d hd e=>?_⟩
   obtain ⟨x,hx,rfl⟩:=List.mem_map.1 hb
   simp at hd
   have:=thas_iff.2 ⟨x.2,show (x.1,x.2)∈G from hx⟩
   rw [e,hd,hh] at this; cases this
  ·rw [List.map_append,List.nodup_append]
   refine ⟨h.borns,by simp,fun b hb d hd e=>?_⟩
   obtain ⟨x,hx,rfl⟩:=List.mem_map.1 hb
   have:=h.lt x hx
   simp at hd; omega
  ·rcases List.mem_append.1 hx with hx | hx
   ·have:=h.lt x hx; omega
   ·rw [List.mem_singleton] at hx; subst hx; exact Nat.lt_succ_self _
theorem GSOk.of {G:GS} {c:Nat} (h:Wf (G.map tE) c):GSOk G c:=by
 have e1:(G.map tE).map (·.1)=G.map (·.1):=by rw [List.map_map]; rfl
 have e2:(G.map tE).map (·.2.2)=G.map (·.2):=by rw [List.map_map]; rfl
 obtain ⟨h1,h2,h3⟩:=h
 rw [e1] at h1
 rw [e2] at h2
 exact ⟨h1,h2,fun x hx=>h3 (tE x) (List.mem_map_of_mem hx)⟩
theorem mfind_t (G:GS) (a:Int):mfind (G.map tE) a=(G.find? fun x=>decide (x.1=a)).map tE:=by
 unfold mfind
 rw [List.find?_map]
 rfl
theorem mset_t (G:GS) (a:Int) (c:Nat):mset (G.map tE) a (.bool true) c=((tput G a c).1.map tE,(tput G a c).2):=by
 unfold mset tput
 rw [mfind_t]
 cases h:G.find? fun x=>decide (x.1=a) with
 | some x =>
  have h1:thas G a=true:=by unfold thas; rw [List.any_eq_true]; exact ⟨x,List.mem_of_find?_eq_some h,by simpa using List.find?_some h⟩
  rw [h1]
  show (mput (G.map tE) a (.bool true),c)=(G.map tE,c)
  congr 1
  unfold mput
  rw [List.map_map]
  apply List.map_congr_left
  intro y _
  show (if (tE y).1=a then ((tE y).1,Value.bool true,(tE y).2.2) else tE y)=tE y
  split <;> rfl
 | none =>
  have h1:thas G a=false:=by
   unfold thas
   rw [List.any_eq_false]
   intro x hx e
   exact absurd e (List.find?_eq_none.1 h x hx)
  rw [h1]
  show ((G.map tE)++[(a,Value.bool true,c)],c+1)=((G++[(a,c)]).map tE,c+1)
  rw [List.map_append]; rfl
section
variable {P:Program} {n0:NA} {l:Env} {L:LH} {X:Nat→Prop} {w0 w:World} {E:Emb}
def tmT (P:Program) (mT:TypeId):Bool:=match P.underlying mT with
 | some (.map kt et)=>match P.underlying kt,zeroOf P et with
  | some (.int .i64),some (.bool false)=>true
  | _,_=>false
 | _=>false
theorem tmT_ok {mT:TypeId} (h:tmT P mT=true):∃ kt et,P.underlying mT=some (.map kt et)∧P.underlying kt=some (.int .i64)∧zeroOf P et=some (.bool false):=by
 unfold tmT at h
 split at h
 rotate_left
 ·cases h
 rename_i kt et hu
 split at h
 ·rename_i h1 h2; exact ⟨kt,et,hu,h1,h2⟩
 ·cases h
theorem tB_is {r:Nat × Nat × Nat} {b0 c:Nat} {G:GS} (h:Mp (Value.int .i64) w r.1 (G.map tE) c) (hw:Wf (G.map tE) c) (h1:r.1=b0) (h2:r.2=(0,0)):LBis E w r (tB b0 G c) :=
 ⟨⟨h1,h,hw⟩,h2,fun _ _ _ ⟨g1,g2,g3⟩ hf hn=>⟨g1,g2.fr hf (hn _ g1),g3⟩⟩
theorem tB_at {l':Env} {x:Operand} {b b0 c:Nat} {G:GS} (hR:Rep X w0 E L w) (hl:ER E l l') (hx:lv l x=some (.map (some b))) (hb:L[b]?=some (tB b0 G c)) :
  ∃ r,E[b]?=some r∧ev l' x=some (.map (some r.1))∧(Mp (Value.int .i64) w r.1 (G.map tE) c∧Wf (G.map tE) c)∧r.1=b0∧r.2=(0,0):=by
 obtain ⟨_,h1,r,h2,rfl⟩:=lv_ev hl hx
 obtain ⟨⟨h3,h4⟩,h5,_⟩:=hR.blk b _ r hb h2
 exact ⟨r,h2,h1,h4,h3,h5⟩
theorem QY.tget {o:Oper} {mT:TypeId} {x y:Operand} {b b0 c:Nat} {G:GS} {a:Int} {u:Bool} (ho:o.op=.lookup mT x y false) (ht:tmT P mT=true)
  (hx:lv l x=some (.map (some b))) (hy:lv l y=some (.int .i64 a)) (hb:L[b]?=some (tB b0 G c)) (hu:thas G a=u):QY P n0 L l (.raw o) (.bool u):=by
 intro X w0 E0 w E l' _ hE hR hl
 obtain ⟨kt,et,hT,hkt,hz⟩:=tmT_ok ht
 obtain ⟨r,h2,h3,⟨h4,h5⟩,_⟩:=tB_at hR hl hx hb
 obtain ⟨_,h7,rfl⟩:=lv_ev hl hy
 obtain ⟨d,op,ty,pos,af,g⟩:=o
 simp only at ho
 subst ho
 refine ⟨_,lookup_Y (ty:=ty) (k:=a) hT (keyLaw_int hkt) (zeroOf_ok hz) h3 h7 h4 rfl,?_⟩
 rw [mfind_t,← hu]
 cases h:G.find? fun x=>decide (x.1=a) with
 | some x =>
  have h1:thas G a=true:=by unfold thas; rw [List.any_eq_true]; exact ⟨x,List.mem_of_find?_eq_some h,by simpa using List.find?_some h⟩
  rw [h1]; rfl
 | none =>
  have h1:thas G a=false:=by
   unfold thas
   rw [List.any_eq_false]
   intro x hx e
   exact absurd e (List.find?_eq_none.1 h x hx)
  rw [h1]; rfl
theorem EW.tput {o:Oper} {mT:TypeId} {x y u:Operand} {b b0 c:Nat} {G:GS} {a:Int} (ho:o.op=.mapUpdate mT x y u) (ht:tmT P mT=true)
  (hx:lv l x=some (.map (some b))) (hy:lv l y=some (.int .i64 a)) (hu:lv l u=some (.bool true)) (hb:L[b]?=some (tB b0 G c)) :
  EW P n0 L l (.raw o) (fun w K=>w=undef∧K=L.set b (tB b0 (tput G a c).1 (tput G a c).2)):=by
 intro X w0 E0 w E l' Kf h0 hE hR hl hK
 obtain ⟨kt,et,hT,hkt,hz⟩:=tmT_ok ht
 obtain ⟨r,h2,h3,⟨h4,h5⟩,h8,h9⟩:=tB_at hR hl hx hb
 obtain ⟨_,h6,rfl⟩:=lv_ev hl hy
 obtain ⟨_,h7,rfl⟩:=lv_ev hl hu
 obtain ⟨d,op,ty,pos,af,g⟩:=o
 simp only at ho
 subst ho
 have hs:=mset_t G a c
 have hw:=h5.mset (k:=a) (.bool true)
 rw [hs] at hw
 refine mapUpdate_W (ty:=ty) (k:=a) hT (keyLaw_int hkt) h3 h6 h7 h4 h5 (fun w' hM hf hsz=>hK w' E _ _ _ ⟨rfl,rfl⟩ (Ext.refl E) (hR.upd hb h2 (hf.mono fun c _ hc=>?_) (tB_is ?_ hw h8 h9) (fun _ h=>.inl h)) VR.undef)
 ·have hc:c=r.1:=hc
  show c=b0
  omega
 ·rw [hs] at hM; exact hM
theorem EW.tdel {o:Oper} {mT kT:TypeId} {x y:Operand} {b b0 c:Nat} {G:GS} {a:Int} (ho:o.op=.call ⟨.builtin .delete,⟨[x,y]⟩,⟨[mT,kT]⟩⟩) (ht:tmT P mT=true)
  (hx:lv l x=some (.map (some b))) (hy:lv l y=some (.int .i64 a)) (hb:L[b]?=some (tB b0 G c)) :
  EW P n0 L l (.raw o) (fun w K=>w=.tuple #[]∧K=L.set b (tB b0 (G.filter fun x => !decide (x.1=a)) c)):=by
 intro X w0 E0 w E l' Kf h0 hE hR hl hK
 obtain ⟨kt,et,hT,hkt,hz⟩:=tmT_ok ht
 obtain ⟨r,h2,h3,⟨h4,h5⟩,h8,h9⟩:=tB_at hR hl hx hb
 obtain ⟨_,h6,rfl⟩:=lv_ev hl hy
 obtain ⟨d,op,ty,pos,af,g⟩:=o
 simp only at ho
 subst ho
 have e:Tum.mdel (G.map tE) a=(G.filter fun x => !decide (x.1=a)).map tE:=by
  unfold Tum.mdel
  rw [List.filter_map]
  rfl
 have hw:=Wf.del (k:=a) h5
 rw [e] at hw
 refine delete_W (ty:=ty) (k:=a) hT (keyLaw_int hkt) h3 h6 h4 h5 (fun w' hM hf hsz=>hK w' E _ _ _ ⟨rfl,rfl⟩ (Ext.refl E) (hR.upd hb h2 (hf.mono fun c _ hc=>?_) (tB_is ?_ hw h8 h9) (fun _ h=>.inl h)) ⟨[],rfl,trivial⟩)
 ·have hc:c=r.1:=hc
  show c=b0
  omega
 ·rw [e] at hM; exact hM
theorem EW.tmake {o:Oper} {mT:TypeId} (ho:o.op=.makeMap mT none):EW P n0 L l (.raw o) (fun w K=>∃ b0,w=.map (some L.length)∧K=L++[tB b0 [] 0]):=by
 intro X w0 E0 w E l' Kf h0 hE hR hl hK
 obtain ⟨d,op,ty,pos,af,g⟩:=o
 simp only at ho
 subst ho
 refine makeMap_W (ty:=ty) (Value.int .i64) fun w' hM hf hsz=>hK w' (E++[(w.heap.size,0,0)]) _ _ _ ⟨w.heap.size,rfl,rfl⟩ (Ext.push E _) (hR.push hf (fun b hb=>?_) (tB_is hM ⟨by simp,by simp,by simp⟩ rfl rfl)) ?_
 ·have hb:b=w.heap.size:=hb
  omega
 ·exact ⟨_,hR.last _,rfl⟩
theorem EW.trange {o:Oper} {mT:TypeId} {x:Operand} {b b0 c:Nat} {G:GS} (ho:o.op=.range mT x) (ht:tmT P mT=true) (hx:lv l x=some (.map (some b))) (hb:L[b]?=some (tB b0 G c)) :
  EW P n0 L l (.raw o) (fun v K=>GSOk G c∧v=.pointer (some ⟨L.length,0,none⟩)∧K=L++[.iter (some b) c [] c]):=by
 intro X w0 E0 w E l' Kf h0 hE hR hl hK
 obtain ⟨kt,et,hT,hkt,hz⟩:=tmT_ok ht
 obtain ⟨r,h2,h1,⟨h3,h4⟩,_⟩:=tB_at hR hl hx hb
 obtain ⟨d,op,ty,pos,af,g⟩:=o
 simp only at ho
 subst ho
 intro ρ w1 ha hs
 have h3':w1.heap[r.1]?=some (.map ((G.map tE).map (mkE (Value.int .i64))).toArray c):=by rw [hs.heap]; exact h3
 refine Eff.value (v:=.pointer (some ⟨w1.heap.size,0,none⟩)) (w':=w1.alloc (.mapIter (some r.1) c #[] c)) ?_ ⟨w.alloc (.mapIter (some r.1) c #[] c),hs.push _,?_⟩
 ·simp [execOp,Instr.range,ha x _ h1,run_underlying hT,getObj_run (P:=P) h3']
 ·rw [hs.heap]
  refine hK _ (E++[(w.heap.size,0,0)]) _ _ _ ⟨GSOk.of h4,rfl,rfl⟩ (Ext.push E _) (hR.push1 (Fr.alloc _ w _) rfl (alloc_size _ _) (fun _ h=>h) ⟨rfl,some r.1,?_,r,Ext.push E _ b r h2,rfl⟩) ⟨_,rfl,rfl,_,hR.last _,by simp⟩
  show (w.heap.push _)[w.heap.size]?=_
  simp
theorem EW.tnext {o:Oper} {it:Operand} {b b0 q c:Nat} {seen:List Nat} {G:GS} (ho:o.op=.next it false) (hit:lv l it=some (.pointer (some ⟨b,0,none⟩))) (hb:L[b]?=some (.iter (some q) c seen c)) (hq:L[q]?=some (tB b0 G c)) :
  EW P n0 L l (.raw o) (fun v K=>(∃ e∈G,e.2∉seen∧v=.tuple ⟨[.bool true,.int .i64 e.1,.bool true]⟩∧K=L.set b (.iter (some q) c (seen++[e.2]) c))∨((∀ e∈G,e.2∈seen)∧v=.tuple ⟨[.bool false]⟩∧K=L)):=by
 intro X w0 E0 w E l' Kf h0 hE hR hl hK
 obtain ⟨_,h1,a',rfl,_,r,h3,rfl⟩:=lv_ev hl hit
 have h3:E[b]?=some r:=h3
 obtain ⟨hr0,m',h5,q',h6,rfl⟩:=hR.blk b _ r hb h3
 obtain ⟨r1,r2⟩:=r
 simp only at hr0 h5
 subst hr0
 obtain ⟨⟨_,h7,h8⟩,_⟩:=hR.blk q _ q' hq h6
 have hG:=GSOk.of h8
 obtain ⟨d,op,ty,pos,af,g⟩:=o
 simp only at ho
 subst ho
 have hmem:∀ e∈(G.map tE).map (mkE (Value.int .i64)),∃ y∈G,e=⟨.int .i64 y.1,.bool true,y.2⟩:=fun e he=>by
  obtain ⟨z,hz,rfl⟩:=List.mem_map.1 he
  obtain ⟨y,hy,rfl⟩:=List.mem_map.1 hz
  exact ⟨y,hy,rfl⟩
 have hlt:∀ e∈(G.map tE).map (mkE (Value.int .i64)),e.born<c:=fun e he=>by
  obtain ⟨y,hy,rfl⟩:=hmem e he
  exact hG.lt y hy
 intro ρ w1 ha hs
 have h5':=h5
 rw [← hs.heap] at h5'
 have h7':w1.heap[q'.1]?=some (.map ((G.map tE).map (mkE (Value.int .i64))).toArray c):=by rw [hs.heap]; exact h7
 have hlb:=(Array.getElem?_eq_some_iff.1 h5).1
 rcases next_runM (P:=P) (ty:=ty) h5' h7' hlt with ⟨h9,hrun⟩ | ⟨e,he,hns,w2,hw2,hrun⟩
 ·refine Eff.value (v:=.tuple #[.bool false]) (w':=w1) ?_ ⟨w,hs,hK w E _ _ _ (.inr ⟨fun x hx=>?_,rfl,rfl⟩) (Ext.refl E) hR ⟨[.bool false],rfl,rfl,trivial⟩⟩
  ·simp only [execOp,ha it _ h1,Sem.run_bind]
   rw [show (0+0)=0 from rfl,hrun]; rfl
  ·exact h9 ⟨.int .i64 x.1,.bool true,x.2⟩ (List.mem_map.2 ⟨tE x,List.mem_map_of_mem hx,rfl⟩)
 ·obtain ⟨y,hy,rfl⟩:=hmem e he
  have hsim:Sim w2 w:=by
   rcases hw2 with rfl | rfl
   ·exact hs
   ·exact ⟨hs.heap,hs.tape,hs.os,hs.output⟩
  refine Eff.value (v:=.tuple #[.bool true,.int .i64 y.1,.bool true]) ?_ ⟨_,hsim.setObj r1 (.mapIter (some q'.1) c (seen++[y.2]).toArray c),?_⟩
  ·simp only [execOp,ha it _ h1,Sem.run_bind]
   rw [show (0+0)=0 from rfl,hrun]; rfl
  ·refine hK _ E _ _ _ (.inl ⟨y,hy,hns,rfl,rfl⟩) (Ext.refl E) (hR.upd hb h3 (Fr.setObj w r1 _) ⟨rfl,some q'.1,?_,q',h6,rfl⟩ (fun _ h=>.inl h)) ⟨[.bool true,.int .i64 y.1,.bool true],rfl,rfl,rfl,rfl,trivial⟩
   simp [hlb]
theorem EW.tentry {o:Oper} {it:Operand} {b b0 q c:Nat} {seen:List Nat} {G:GS} {e:Int × Nat} (ho:o.op=.entry it) (hit:lv l it=some (.pointer (some ⟨b,0,none⟩))) (hb:L[b]?=some (.iter (some q) c (seen++[e.2]) c)) (hq:L[q]?=some (tB b0 G c)) (he:e∈G) :
  EW P n0 L l (.raw o) (fun v K=>v=.tuple ⟨[.int .i64 e.1,.bool true]⟩∧K=L):=by
 intro X w0 E0 w E l' Kf h0 hE hR hl hK
 obtain ⟨_,h1,a',rfl,_,r,h3,rfl⟩:=lv_ev hl hit
 have h3:E[b]?=some r:=h3
 obtain ⟨hr0,m',h5,q',h6,rfl⟩:=hR.blk b _ r hb h3
 obtain ⟨r1,r2⟩:=r
 simp only at hr0 h5
 subst hr0
 obtain ⟨⟨-,h7,h8⟩,-⟩:=hR.blk q _ q' hq h6
 have hG:=GSOk.of h8
 obtain ⟨d,op,ty,pos,af,g⟩:=o
 simp only at ho
 subst ho
 intro ρ w1 ha hs
 have h5':=h5
 rw [← hs.heap] at h5'
 have h7':w1.heap[q'.1]?=some (.map ((G.map tE).map (mkE (Value.int .i64))).toArray c):=by rw [hs.heap]; exact h7
 have hg1:=getObjI_run (P:=P) h5' (fun _ _ _ h=>by cases h)
 have hg2:=getObjI_run (P:=P) h7' (fun _ _ _ h=>by cases h)
 have hbk:(seen++[e.2]).toArray.back?=some e.2:=by rw [List.back?_toArray,List.getLast?_append,List.getLast?_singleton]; rfl
 have hfd:((G.map tE).map (mkE (Value.int .i64))).toArray.find? (fun x=>x.born == e.2)=some ⟨.int .i64 e.1,.bool true,e.2⟩:=by
  rw [List.find?_toArray]
  have hbn:=hG.borns
  clear hG h7 h7' h8 hg2 hq h5 h5' hg1 hb hbk
  induction G with
  | nil=>cases he
  | cons a t ih =>
   simp only [List.map_cons,List.nodup_cons] at hbn
   simp only [List.map_cons,List.find?_cons,mkE,tE]
   rcases List.mem_cons.1 he with rfl | he
   ·simp
   ·have hne:(a.2 == e.2)=false:=by
     rw [beq_eq_false_iff_ne]
     intro q; exact hbn.1 (q ▸ List.mem_map_of_mem he)
    rw [hne]
    exact ih he hbn.2
 generalize ((G.map tE).map (mkE (Value.int .i64))).toArray=M at hg2 hfd
 refine Eff.value (v:=.tuple #[.int .i64 e.1,.bool true]) (w':=w1) ?_ ⟨w,hs,hK w E _ _ _ ⟨rfl,rfl⟩ (Ext.refl E) hR ⟨_,rfl,rfl,rfl,trivial⟩⟩
 simp [execOp,ha it _ h1,Instr.entry,hg1,hg2,hbk,hfd]
end
theorem nodup_inj {α β:Type} {f:α→β}:∀ {l:List α},(l.map f).Nodup→∀ {x y:α},x∈l→y∈l→f x=f y→x=y
 | [],_,_,_,hx,_,_=>by cases hx
 | a::r,h,x,y,hx,hy,e=>by
  have h:=List.nodup_cons.1 h
  rcases List.mem_cons.1 hx with e1 | h1 <;> rcases List.mem_cons.1 hy with e2 | h2
  ·rw [e1,e2]
  ·exact absurd (List.mem_map.2 ⟨y,h2,by rw [← e1]; exact e.symm⟩) h.1
  ·exact absurd (List.mem_map.2 ⟨x,h1,by rw [← e2]; exact e⟩) h.1
  ·exact nodup_inj h.2 h1 h2 e
def thru (G:GS) (p:Int→Bool) (seen:List Nat):GS:=G.filter fun x => !(decide (x.2∈seen) && p x.1)
theorem thru_keep {G:GS} {p:Int→Bool} {seen:List Nat} {e:Int × Nat} {c:Nat} (h:GSOk G c) (he:e∈G) (hp:p e.1=false):thru G p (seen++[e.2])=thru G p seen:=by
 unfold thru
 apply List.filter_congr
 intro x hx
 by_cases e1:x.2=e.2
 ·have:x=e:=nodup_inj h.borns hx he e1
  subst this
  rw [hp,Bool.and_false,Bool.and_false]
 ·have:(x.2∈seen++[e.2])↔x.2∈seen:=by simp [e1]
  simp only [this]
theorem thru_del {G:GS} {p:Int→Bool} {seen:List Nat} {e:Int × Nat} {c:Nat} (h:GSOk G c) (he:e∈G) (hp:p e.1=true):(thru G p seen).filter (fun x => !decide (x.1=e.1))=thru G p (seen++[e.2]):=by
 unfold thru
 rw [List.filter_filter]
 apply List.filter_congr
 intro x hx
 by_cases e1:x.1=e.1
 ·have:x=e:=nodup_inj h.keys hx he e1
  subst this
  simp [hp]
 ·have e2:x.2≠e.2:=fun q=>e1 (by rw [nodup_inj h.borns hx he q])
  have:(x.2∈seen++[e.2])↔x.2∈seen:=by simp [e2]
  simp only [this,decide_eq_false e1,Bool.not_false,Bool.true_and]
theorem thru_end {G:GS} {p:Int→Bool} {seen:List Nat} (h:∀ e∈thru G p seen,e.2∈seen):thru G p seen=G.filter fun x => !p x.1:=by
 unfold thru at h ⊢
 apply List.filter_congr
 intro x hx
 cases hp:p x.1 with
 | false=>rw [Bool.and_false]
 | true =>
  rw [Bool.and_true]
  by_cases hs:x.2∈seen
  ·rw [decide_eq_true hs]
  ·exact absurd (h x (List.mem_filter.2 ⟨hx,by simp [hs]⟩)) hs
theorem thru_nil (G:GS) (p:Int→Bool):thru G p []=G:=by
 unfold thru
 simp
theorem thas_filter (G:GS) (p:Int→Bool) (a:Int):thas (G.filter fun x => !p x.1) a=(thas G a && !p a):=by
 rw [Bool.eq_iff_iff,Bool.and_eq_true,thas_iff,thas_iff]
 constructor
 ·rintro ⟨b,h⟩
  have:=List.mem_filter.1 h
  exact ⟨⟨b,this.1⟩,this.2⟩
 ·rintro ⟨⟨b,h⟩,h2⟩
  exact ⟨b,List.mem_filter.2 ⟨h,h2⟩⟩
def unsn (G:GS) (seen:List Nat):Nat:=(G.filter fun x => !decide (x.2∈seen)).length
theorem unsn_lt {G:GS} {seen:List Nat} {e:Int × Nat} (he:e∈G) (hs:e.2∉seen):unsn G (seen++[e.2])<unsn G seen:=by
 unfold unsn
 have h1:(G.filter fun x => !decide (x.2∈seen++[e.2]))=(G.filter fun x => !decide (x.2∈seen)).filter fun x => !decide (x.2=e.2):=by
  rw [List.filter_filter]
  apply List.filter_congr
  intro x _
  by_cases e1:x.2=e.2 <;> by_cases e2:x.2∈seen <;> simp [e1,e2]
 rw [h1]
 have hm:e∈G.filter fun x => !decide (x.2∈seen):=List.mem_filter.2 ⟨he,by simp [hs]⟩
 have:∀ (l:GS),e∈l→(l.filter fun x => !decide (x.2=e.2)).length<l.length:=by
  intro l
  induction l with
  | nil=>intro h; cases h
  | cons a r ih =>
   intro h
   have hle:=List.length_filter_le (fun x:Int × Nat => !decide (x.2=e.2)) r
   rw [List.filter_cons]
   rcases List.mem_cons.1 h with rfl | h
   ·simp; omega
   ·have:=ih h
    split <;> simp only [List.length_cons] <;> omega
 exact this _ hm
end Go.Tum
end
section
namespace Go.Tum.Base
open Go Go.Tum Go.Proofs.YtgfjgfapigekiaaGreat
set_option maxRecDepth 4000
def PR.liv (r:PR) (a:Int):Option Pl:=match r.find a with
 | some p=>if p.st=1 then some p else none
 | none=>none
def endP (p:Pl):Int:=p.bs+(if p.gr then (p.sz+8+255) / 256*256 else p.sz+8)
def faultV (r:PR) (G:GS) (a:Int):Int:=if a<0∨(r.N:Int)≤a then 1 else if 256*(r.man:Int)≤a then 2 else match r.liv a with
 | some p=>if p.bs=a then 0 else 4
 | none=>bif thas G a then 5 else 3
theorem liv_live {r:PR} (ok:r.Ok) {p:Pl} (hp:p∈r.live):r.liv p.bs=some p:=by
 have hst:=(live_facts ok hp).2.2.2.1
 unfold PR.liv
 rcases (live_mem ok _).1 hp with ⟨x,hx,k,hk,hs,rfl⟩ | ⟨b,hb,rfl⟩
 ·rw [show (placeS x k).bs=(baseN x.t.pg (zC x.t.c) k:Nat) from rfl,ok.find_slot hx hk]
  exact if_pos hst
 ·rw [show (placeG b).bs=256*b.1 from rfl,ok.find_great hb]
  exact if_pos hst
theorem live_liv {r:PR} (ok:r.Ok) {a:Int} {p:Pl} (h:r.liv a=some p):p∈r.live:=by
 unfold PR.liv at h
 cases hf:r.find a with
 | none=>rw [hf] at h; cases h
 | some q =>
  rw [hf] at h
  simp only at h
  split at h
  ·rename_i hs
   cases h
   rcases ok.find_cases hf with ⟨i,x,k,hi,hk,_,_,rfl⟩ | ⟨b,hb,_,_,rfl⟩
   ·exact (live_mem ok _).2 (.inl ⟨x,List.mem_of_getElem? hi,k,hk,hs,rfl⟩)
   ·exact (live_mem ok _).2 (.inr ⟨b,hb,rfl⟩)
  ·cases h
end Go.Tum.Base
namespace Go.Proofs.YtgfjgfapigekiaaGreat
open Go Go.Tum Go.Tum.Base
set_option maxRecDepth 4000
structure Rp where
 th:Int
 at_:Int
 f:Int
def Rp.cells (p:Rp):List Value:=[.int .i64 p.th,.int .i64 p.at_,.int .i64 p.f]
theorem Rp.ok:RowOk Rp.cells 3:=⟨fun _=>rfl,fun _=>rfl⟩
def FL (r:PR) (b0:Nat) (G:GS) (c:Nat) (rs:List Rp):LH:=RPL r++[tB b0 G c,.cells 0 [ptr 0,.map (some 7),slB 9 rs.length],.gro 3 (rowsC Rp.cells rs)]
theorem flNew_tr (r:PR):Tr Tryz.prog 22 [ptr 0] (RPL r) (fun v K=>∃ b0:Nat,True∧v=ptr 8∧K=FL r b0 [] 0 []):=by
 refine Tr.of row_fault_New_ok rfl ?_
 repeat' (first|refine qN ?_|refine dN ?_|refine qU ?_|refine qL ?_|refine qS ?_|fail)
 refine S_E [] rfl rfl (EW.tmake rfl) ?_
 rintro _ _ ⟨b0,rfl,rfl⟩
 refine ⟨trivial,LSt.nf ?_⟩
 conv=>whnf
 repeat' (first|refine dN ?_|fail)
 refine LWp.nilC 8 2 3 rfl rfl ?_
 exact L_ret (RetQ.pick [0,1,2,3,4,5,6,7,8,9] rfl rfl rfl rfl ⟨b0,trivial,rfl,rfl⟩)
theorem flEnd_tr (p:Pl) (h0:0≤p.bs) (h1:0≤p.sz) (h2:p.bs+p.sz≤65536):Tr Tryz.prog 75 [.agg ⟨p.cells⟩] [] (fun v K=>v=.int .i64 (endP p)∧K=[]):=by
 obtain ⟨pg,sl,bs0,sz,st,gr⟩:=p
 simp only at h0 h1 h2
 obtain ⟨z,rfl⟩:∃ z:Nat,sz=z:=⟨sz.toNat,by omega⟩
 obtain ⟨a,rfl⟩:∃ a:Nat,bs0=a:=⟨bs0.toNat,by omega⟩
 cases gr
 ·change Tr Tryz.prog 75 [.agg ⟨[.int .i64 pg,.int .i64 sl,.int .i64 a,.int .i64 z,.int .i64 st,.bool false]⟩] [] (fun v K=>v=.int .i64 ((a:Int)+(z+8))∧K=[])
  refine Tr.of row_fault_end_ok rfl ?_
  repeat' (first|refine qN ?_|refine dN ?_|refine rT ?_|refine qU ?_|refine qL ?_|refine aA ?_|refine qS ?_|exact ⟨rfl,rfl⟩|fail)
 ·change Tr Tryz.prog 75 [.agg ⟨[.int .i64 pg,.int .i64 sl,.int .i64 a,.int .i64 z,.int .i64 st,.bool true]⟩] [] (fun v K=>v=.int .i64 ((a:Int)+((z:Int)+8+255) / 256*256)∧K=[])
  refine Tr.of row_fault_end_ok rfl ?_
  repeat' (first|refine qN ?_|refine dN ?_|refine rT ?_|refine qT ?_|refine aA ?_|refine aS ?_|refine aD ?_|refine aM ?_|refine qR ?_|refine qS ?_|fail)
  refine ⟨?_,rfl⟩
  show Value.int .i64 _=.int .i64 _
  congr 2
  omega
theorem flMan_tr (r:PR) (ok:r.Ok) (b0:Nat) (G:GS) (c:Nat) (rs:List Rp) (a:Int):Tr Tryz.prog 73 [ptr 8,.int .i64 a] (FL r b0 G c rs) (fun v K=>v=.bool (decide (0≤a∧a<256*(r.man:Int)))∧K=FL r b0 G c rs):=by
 have hC:=pgConfig_tr r
 have hn:=ok.n2
 by_cases h0:0≤a
 ·rw [show decide (0≤a∧a<256*(r.man:Int))=decide (a<256*(r.man:Int)) by simp [h0]]
  refine Tr.of row_fault_Ledger_manual_ok rfl ?_
  repeat' (first|refine qN ?_|refine dN ?_|refine rT ?_|(refine cF [0,1,2,3,4,5,6] (hC) ?_; conv=>whnf)|refine aM ?_|refine sP 7 (fun h=>?_) (fun h=>?_)|exact ⟨rfl,rfl⟩|fail)
  all_goals first | (exfalso; omega)|exact L_ret (RetQ.pick [0,1,2,3,4,5,6,7,8,9] rfl rfl rfl rfl ⟨rfl,rfl⟩)
 ·rw [show decide (0≤a∧a<256*(r.man:Int))=false by simp; omega]
  refine Tr.of row_fault_Ledger_manual_ok rfl ?_
  repeat' (first|refine qN ?_|refine dN ?_|refine rT ?_|(refine cF [0,1,2,3,4,5,6] (hC) ?_; conv=>whnf)|refine aM ?_|refine sP 7 (fun h=>?_) (fun h=>?_)|exact ⟨rfl,rfl⟩|fail)
  all_goals first | (exfalso; omega)|exact L_ret (RetQ.pick [0,1,2,3,4,5,6,7,8,9] rfl rfl rfl rfl ⟨rfl,rfl⟩)
theorem flLive_tr (r:PR) (ok:r.Ok) (b0:Nat) (G:GS) (c:Nat) (rs:List Rp) (a:Int):Tr Tryz.prog 74 [ptr 8,.int .i64 a] (FL r b0 G c rs) (fun v K=>v=.tuple ⟨[.agg ⟨((r.find a).getD Pl.Z).cells⟩,.bool (r.liv a).isSome]⟩∧K=FL r b0 G c rs):=by
 have hF:=pgFind_tr r ok a
 unfold PR.liv
 generalize r.find a=q at *
 cases q with
 | none =>
  change Tr Tryz.prog _ _ _ (fun v K=>v=.tuple ⟨[.agg ⟨Pl.Z.cells⟩,.bool false]⟩∧K=RPL r) at hF
  refine Tr.of row_fault_Ledger_live_ok rfl ?_
  repeat' (first|refine qN ?_|refine dN ?_|(refine cF [0,1,2,3,4,5,6] (hF) ?_; conv=>whnf)|fail)
  first|refine LSt.nf ?_|refine LWp.nf ?_
  conv=>whnf
  repeat' (first|refine dN ?_|(refine S_E [] rfl rfl (esafe_ok rfl) ?_; rintro _ _ ⟨rfl,rfl⟩; first|refine ⟨⟨trivial,trivial⟩,LSt.nf ?_⟩|refine ⟨(by repeat' fail),LSt.nf ?_⟩; conv=>whnf)|fail)
  exact L_ret (RetQ.pick [0,1,2,3,4,5,6,7,8,9] rfl rfl rfl rfl ⟨rfl,rfl⟩)
 | some p =>
  obtain ⟨pg,sl,bs0,sz,st,gr⟩:=p
  change Tr Tryz.prog _ _ _ (fun v K=>v=.tuple ⟨[.agg ⟨[.int .i64 pg,.int .i64 sl,.int .i64 bs0,.int .i64 sz,.int .i64 st,.bool gr]⟩,.bool true]⟩∧K=RPL r) at hF
  have e:(if st=1 then some (⟨pg,sl,bs0,sz,st,gr⟩:Pl) else none).isSome=(st == 1):=by by_cases h:st=1 <;> simp [h]
  change Tr Tryz.prog _ _ _ (fun v K=>v=.tuple ⟨[.agg ⟨[.int .i64 pg,.int .i64 sl,.int .i64 bs0,.int .i64 sz,.int .i64 st,.bool gr]⟩,.bool (if st=1 then some (⟨pg,sl,bs0,sz,st,gr⟩:Pl) else none).isSome]⟩∧K=FL r b0 G c rs)
  rw [e]
  refine Tr.of row_fault_Ledger_live_ok rfl ?_
  repeat' (first|refine qN ?_|refine dN ?_|(refine cF [0,1,2,3,4,5,6] (hF) ?_; conv=>whnf)|fail)
  first|refine LSt.nf ?_|refine LWp.nf ?_
  conv=>whnf
  repeat' (first|refine dN ?_|(refine S_E [] rfl rfl (esafe_ok rfl) ?_; rintro _ _ ⟨rfl,rfl⟩; refine ⟨(by repeat' (first|exact trivial|refine ⟨⟨qsafe_ok (st:=[]) rfl,Sure.of rfl⟩,?_⟩|fail)),LSt.nf ?_⟩; conv=>whnf)|fail)
  exact L_ret (RetQ.pick [0,1,2,3,4,5,6,7,8,9] rfl rfl rfl rfl ⟨rfl,rfl⟩)
theorem flLive_no (r:PR) (ok:r.Ok) (b0:Nat) (G:GS) (c:Nat) (rs:List Rp) (a:Int) (h:r.liv a=none):∃ pg sl bs sz st:Int,∃ gr:Bool,Tr Tryz.prog 74 [ptr 8,.int .i64 a] (FL r b0 G c rs) (fun v K=>v=.tuple ⟨[.agg ⟨[.int .i64 pg,.int .i64 sl,.int .i64 bs,.int .i64 sz,.int .i64 st,.bool gr]⟩,.bool false]⟩∧K=FL r b0 G c rs):=by
 have:=flLive_tr r ok b0 G c rs a
 rw [h] at this
 generalize (r.find a).getD Pl.Z=p at this
 exact ⟨p.pg,p.sl,p.bs,p.sz,p.st,p.gr,this⟩
theorem flLive_at (r:PR) (ok:r.Ok) (b0:Nat) (G:GS) (c:Nat) (rs:List Rp) (a:Int) {pg sl bs sz st:Int} {gr:Bool} (h:r.liv a=some ⟨pg,sl,bs,sz,st,gr⟩):Tr Tryz.prog 74 [ptr 8,.int .i64 a] (FL r b0 G c rs) (fun v K=>v=.tuple ⟨[.agg ⟨[.int .i64 pg,.int .i64 sl,.int .i64 bs,.int .i64 sz,.int .i64 st,.bool gr]⟩,.bool true]⟩∧K=FL r b0 G c rs):=by
 have:=flLive_tr r ok b0 G c rs a
 have hf:r.find a=some ⟨pg,sl,bs,sz,st,gr⟩:=by
  unfold PR.liv at h
  cases hq:r.find a with
  | none=>rw [hq] at h; cases h
  | some q =>
   rw [hq] at h
   simp only at h
   split at h
   ·exact h
   ·cases h
 rw [h,hf] at this
 exact this
set_option maxHeartbeats 1000000 in
theorem flFault_tr (r:PR) (ok:r.Ok) (b0:Nat) (G:GS) (c:Nat) (rs:List Rp) (a:Int):Tr Tryz.prog 26 [ptr 8,.int .i64 a] (FL r b0 G c rs) (fun v K=>v=.int .i64 (faultV r G a)∧K=FL r b0 G c rs):=by
 have hA:=pgArena_tr r
 have hL:=gLen r ok
 have hM:=flMan_tr r ok b0 G c rs a
 have hn:=ok.n2
 have hN:r.N=256*(r.man+r.mgd):=rfl
 unfold faultV
 by_cases h1:a<0∨(r.N:Int)≤a
 ·rw [if_pos h1]
  refine Tr.of row_fault_Ledger_Fault_ok rfl ?_
  repeat' (first|refine qN ?_|refine dN ?_|refine rT ?_|refine qT ?_|refine qL ?_|refine iF (fun h=>?_) (fun h=>?_)|(refine cF [0,1,2,3,4,5,6] (hA) ?_; conv=>whnf)|refine cP [5] (hL) ?_|refine sP 13 (fun h=>?_) (fun h=>?_)|refine qS ?_|exact ⟨rfl,rfl⟩|fail)
  all_goals first | (exfalso; omega)|exact L_ret (RetQ.pick [0,1,2,3,4,5,6,7,8,9] rfl rfl rfl rfl ⟨rfl,rfl⟩)
 rw [if_neg h1]
 by_cases h2:256*(r.man:Int)≤a
 ·rw [if_pos h2]
  rw [show decide (0≤a∧a<256*(r.man:Int))=false by simp; omega] at hM
  refine Tr.of row_fault_Ledger_Fault_ok rfl ?_
  repeat' (first|refine qN ?_|refine dN ?_|refine rT ?_|refine qT ?_|refine qL ?_|refine iF (fun h=>?_) (fun h=>?_)|(refine cF [0,1,2,3,4,5,6] (hA) ?_; conv=>whnf)|refine cP [5] (hL) ?_|(refine cF [0,1,2,3,4,5,6,7,8,9] (hM) ?_; conv=>whnf)|refine sP 13 (fun h=>?_) (fun h=>?_)|refine qS ?_|exact ⟨rfl,rfl⟩|fail)
  all_goals first | (exfalso; omega)|exact L_ret (RetQ.pick [0,1,2,3,4,5,6,7,8,9] rfl rfl rfl rfl ⟨rfl,rfl⟩)
 rw [if_neg h2]
 rw [show decide (0≤a∧a<256*(r.man:Int))=true by simp; omega] at hM
 cases hl:r.liv a with
 | none =>
  obtain ⟨pg,sl,bs,sz,st,gr,hV⟩:=flLive_no r ok b0 G c rs a hl
  cases ht:thas G a with
  | true =>
   refine Tr.of row_fault_Ledger_Fault_ok rfl ?_
   repeat' (first|refine qN ?_|refine dN ?_|refine qB ?_|refine rT ?_|refine qT ?_|refine qU ?_|refine qL ?_|refine iF (fun h=>?_) (fun h=>?_)|(refine cF [0,1,2,3,4,5,6] (hA) ?_; conv=>whnf)|refine cP [5] (hL) ?_|(refine cF [0,1,2,3,4,5,6,7,8,9] (hM) ?_; conv=>whnf)|(refine cF [0,1,2,3,4,5,6,7,8,9] (hV) ?_; conv=>whnf)|refine S_Q [] rfl rfl (QY.tget rfl (by kernel_rfl) rfl rfl rfl ht) ?_|refine sP 13 (fun h=>?_) (fun h=>?_)|refine qS ?_|exact ⟨rfl,rfl⟩|fail)
   all_goals (exfalso; omega)
  | false =>
   refine Tr.of row_fault_Ledger_Fault_ok rfl ?_
   repeat' (first|refine qN ?_|refine dN ?_|refine qB ?_|refine rT ?_|refine qT ?_|refine qU ?_|refine qL ?_|refine iF (fun h=>?_) (fun h=>?_)|(refine cF [0,1,2,3,4,5,6] (hA) ?_; conv=>whnf)|refine cP [5] (hL) ?_|(refine cF [0,1,2,3,4,5,6,7,8,9] (hM) ?_; conv=>whnf)|(refine cF [0,1,2,3,4,5,6,7,8,9] (hV) ?_; conv=>whnf)|refine S_Q [] rfl rfl (QY.tget rfl (by kernel_rfl) rfl rfl rfl ht) ?_|refine sP 13 (fun h=>?_) (fun h=>?_)|refine qS ?_|exact ⟨rfl,rfl⟩|fail)
   all_goals (exfalso; omega)
 | some p =>
  obtain ⟨pg,sl,bs,sz,st,gr⟩:=p
  have hV:=flLive_at r ok b0 G c rs a hl
  show Tr Tryz.prog _ _ _ (fun v K=>v=.int .i64 (if bs=a then 0 else 4)∧K=FL r b0 G c rs)
  by_cases h3:bs=a
  ·rw [if_pos h3]
   refine Tr.of row_fault_Ledger_Fault_ok rfl ?_
   repeat' (first|refine qN ?_|refine dN ?_|refine qB ?_|refine rT ?_|refine qT ?_|refine qU ?_|refine qL ?_|refine iF (fun h=>?_) (fun h=>?_)|(refine cF [0,1,2,3,4,5,6] (hA) ?_; conv=>whnf)|refine cP [5] (hL) ?_|(refine cF [0,1,2,3,4,5,6,7,8,9] (hM) ?_; conv=>whnf)|(refine cF [0,1,2,3,4,5,6,7,8,9] (hV) ?_; conv=>whnf)|refine sP 13 (fun h=>?_) (fun h=>?_)|refine qS ?_|exact ⟨rfl,rfl⟩|fail)
   all_goals (exfalso; omega)
  ·rw [if_neg h3]
   refine Tr.of row_fault_Ledger_Fault_ok rfl ?_
   repeat' (first|refine qN ?_|refine dN ?_|refine qB ?_|refine rT ?_|refine qT ?_|refine qU ?_|refine qL ?_|refine iF (fun h=>?_) (fun h=>?_)|(refine cF [0,1,2,3,4,5,6] (hA) ?_; conv=>whnf)|refine cP [5] (hL) ?_|(refine cF [0,1,2,3,4,5,6,7,8,9] (hM) ?_; conv=>whnf)|(refine cF [0,1,2,3,4,5,6,7,8,9] (hV) ?_; conv=>whnf)|refine sP 13 (fun h=>?_) (fun h=>?_)|refine qS ?_|exact ⟨rfl,rfl⟩|fail)
   all_goals (exfalso; omega)
theorem flDrop_tr (r:PR) (ok:r.Ok) (b0:Nat) (G:GS) (c:Nat) (rs:List Rp) (a:Int) (ha:0≤a∧a<256*(r.man:Int)) (hf:faultV r G a≠0):Tr Tryz.prog 24 [ptr 8,.int .i64 a] (FL r b0 G c rs) (fun v K=>v=.int .i64 0∧K=FL r b0 (tput G a c).1 (tput G a c).2 rs):=by
 have hM:=flMan_tr r ok b0 G c rs a
 have hF:=flFault_tr r ok b0 G c rs a
 rw [decide_eq_true ha] at hM
 generalize faultV r G a=u at *
 refine Tr.of row_fault_Ledger_Dropped_ok rfl ?_
 repeat' (first|refine qN ?_|refine dN ?_|refine qB ?_|refine rT ?_|refine qU ?_|refine qL ?_|refine iF (fun h=>?_) (fun h=>?_)|(refine cF [0,1,2,3,4,5,6,7,8,9] (hM) ?_; conv=>whnf)|(refine cF [0,1,2,3,4,5,6,7,8,9] (hF) ?_; conv=>whnf)|refine qS ?_|fail)
 all_goals try (exfalso; omega)
 repeat' fail
 first|refine L_rs ?_|refine L_reg ?_ | skip
 refine eE rfl rfl (EW.tput rfl (by kernel_rfl) rfl rfl rfl rfl) ?_
 conv=>whnf
 repeat' (first|refine qN ?_|refine dN ?_|refine rT ?_|exact ⟨rfl,rfl⟩|fail)
theorem flTook_tr (r:PR) (ok:r.Ok) (b0:Nat) (G:GS) (c:Nat) (rs:List Rp) {p:Pl} (hp:p∈r.live):Tr Tryz.prog 25 [ptr 8,.int .i64 p.bs] (FL r b0 G c rs) (fun v K=>v=.int .i64 0∧K=FL r b0 (G.filter fun x => !decide (p.bs≤x.1∧x.1<endP p)) c rs):=by
 have hl:=liv_live ok hp
 obtain ⟨f1,f2,f3,f4,f5⟩:=live_facts ok hp
 have hn:=ok.n2
 have hE:=flEnd_tr p f1 (by omega) (by omega)
 obtain ⟨pg,sl,bs,sz,st,gr⟩:=p
 have hV:=flLive_at r ok b0 G c rs bs hl
 change Tr Tryz.prog _ [.agg ⟨[.int .i64 pg,.int .i64 sl,.int .i64 bs,.int .i64 sz,.int .i64 st,.bool gr]⟩] _ _ at hE
 simp only at *
 generalize hen:endP ⟨pg,sl,bs,sz,st,gr⟩=en at *
 refine Tr.of row_fault_Ledger_Took_ok rfl ?_
 repeat' (first|refine qN ?_|refine dN ?_|refine rT ?_|refine qU ?_|refine qL ?_|refine iF (fun h=>?_) (fun h=>?_)|(refine cF [0,1,2,3,4,5,6,7,8,9] (hV) ?_; conv=>whnf)|refine qS ?_|fail)
 all_goals try (exfalso; omega)
 refine S_E [] rfl rfl (EW.trange rfl (by kernel_rfl) rfl rfl) ?_
 rintro _ _ ⟨hG,rfl,rfl⟩
 refine ⟨trivial,LSt.nf ?_⟩
 conv=>whnf
 refine S_done [] rfl (Nx.pick [0,5,28] [0,1,2,3,4,5,6,7,8,9,10,11] rfl rfl rfl ?_)
 refine L_block (L_loop (fun q l L=>∃ seen:List Nat,q=unsn G seen∧l=[(0,ptr 8),(5,ptr 10),(28,ptr 11)]∧L=FL r b0 (thru G (fun x=>decide (bs≤x∧x<en)) seen) c rs++[.cells 0 [.int .i64 pg,.int .i64 sl,.int .i64 bs,.int .i64 sz,.int .i64 st,.bool gr],.iter (some 7) c seen c]) (unsn G []) ⟨[],rfl,rfl,by rw [thru_nil]; rfl⟩ ?_)
 rintro q _ _ ⟨seen,rfl,rfl,rfl⟩
 refine L_rs (S_E [] rfl rfl (EW.tnext rfl rfl rfl rfl) ?_)
 rintro _ _ (⟨e,he,hns,rfl,rfl⟩ | ⟨hall,rfl,rfl⟩)
 ·refine ⟨trivial,LSt.nf ?_⟩
  conv=>whnf
  refine S_done [] rfl (Nx.goL (L_seq (L_true rfl (L_skip (Nx.goL (L_block ?_))))))
  have heG:e∈G:=(List.mem_filter.1 he).1
  first|refine L_rs ?_|refine L_reg ?_ | skip
  refine eE rfl rfl (EW.tentry rfl rfl rfl rfl he) ?_
  conv=>whnf
  by_cases h1:bs≤e.1∧e.1<en
  ·have hk:=thru_del (p:=fun x=>decide (bs≤x∧x<en)) (seen:=seen) hG heG (decide_eq_true h1)
   repeat' (first|refine qN ?_|refine dN ?_|refine qU ?_|refine qK ?_|refine iF (fun h=>?_) (fun h=>?_)|refine cP [] (hE) ?_|refine sP 37 (fun h=>?_) (fun h=>?_)|refine qR ?_|fail)
   all_goals try (exfalso; omega)
   first|refine L_rs ?_|refine L_reg ?_ | skip
   refine eE rfl rfl (EW.tdel rfl (by kernel_rfl) rfl rfl rfl) ?_
   conv=>whnf
   rw [hk]
   repeat' (first|refine d0 ?_|fail)
   exact Nx.pick [0,5,28] [0,1,2,3,4,5,6,7,8,9,10,11] rfl rfl rfl ⟨unsn G (seen++[e.2]),unsn_lt heG hns,seen++[e.2],rfl,rfl,rfl⟩
  ·have hk:=thru_keep (p:=fun x=>decide (bs≤x∧x<en)) (seen:=seen) hG heG (decide_eq_false h1)
   repeat' (first|refine qN ?_|refine dN ?_|refine qU ?_|refine qK ?_|refine iF (fun h=>?_) (fun h=>?_)|refine cP [] (hE) ?_|refine sP 37 (fun h=>?_) (fun h=>?_)|refine qR ?_|fail)
   all_goals try (exfalso; omega)
   all_goals exact Nx.pick [0,5,28] [0,1,2,3,4,5,6,7,8,9,10,11] rfl rfl rfl ⟨unsn G (seen++[e.2]),unsn_lt heG hns,seen++[e.2],rfl,rfl,by rw [hk]; rfl⟩
 ·rw [thru_end hall]
  refine ⟨trivial,?_⟩
  repeat' (first|refine qN ?_|refine dN ?_|refine rT ?_|refine qU ?_|refine qF ?_|refine qS ?_|exact ⟨rfl,rfl⟩|fail)
end Go.Proofs.YtgfjgfapigekiaaGreat
end
section
namespace Go.Tum.Base
open Go Go.Tum Go.Proofs.YtgfjgfapigekiaaGreat
set_option maxRecDepth 4000
theorem and_dec {p q:Prop} [Decidable p] [Decidable q] (h:p↔q) (b:Bool):(b && !decide p)=(b && !decide q):=by rw [decide_eq_decide.2 h]
def wasC (N:Nat) (G:GS) (a j:Int):List Bool:=(List.range N).map fun k:Nat=>thas G (k:Int) && !decide (a≤(k:Int)∧(k:Int)<j)
theorem wasC_length (N:Nat) (G:GS) (a j:Int):(wasC N G a j).length=N:=by unfold wasC; simp
theorem wasC_get {N:Nat} {G:GS} {a j:Int} {k:Nat} (hk:k<N):(wasC N G a j)[k]?=some (thas G k && !decide (a≤(k:Int)∧(k:Int)<j)):=by
 unfold wasC
 rw [List.getElem?_map,List.getElem?_range hk]
 rfl
theorem wasC_nil (N:Nat):List.replicate N false=wasC N [] 0 0:=by
 apply List.ext_getElem?
 intro k
 by_cases hk:k<N
 ·rw [wasC_get hk,List.getElem?_replicate,if_pos hk]; rfl
 ·rw [List.getElem?_eq_none (by rw [List.length_replicate]; omega),List.getElem?_eq_none (by rw [wasC_length]; omega)]
theorem wasC_put {N:Nat} {G:GS} {c:Nat} {a:Nat} (b:Int):(wasC N G b b).set a true=wasC N (tput G a c).1 b b:=by
 apply List.ext_getElem?
 intro k
 by_cases hk:k<N
 ·rw [List.getElem?_set,wasC_get hk,wasC_get hk,thas_tput,wasC_length]
  by_cases e:a=k
  ·subst e
   rw [if_pos rfl,if_pos hk]
   simp; omega
  ·rw [if_neg e,show decide ((a:Int)=(k:Int))=false by simp; omega,Bool.or_false]
 ·rw [List.getElem?_eq_none (by rw [List.length_set,wasC_length]; omega),List.getElem?_eq_none (by rw [wasC_length]; omega)]
theorem wasC_step {N:Nat} {G:GS} {a j:Nat} (h:a≤j):(wasC N G a j).set j false=wasC N G a (j+1:Nat):=by
 apply List.ext_getElem?
 intro k
 by_cases hk:k<N
 ·rw [List.getElem?_set,wasC_get hk,wasC_get hk,wasC_length]
  by_cases e:j=k
  ·subst e
   rw [if_pos rfl,if_pos hk]
   simp; omega
  ·rw [if_neg e]
   exact congrArg some (and_dec (by omega) _)
 ·rw [List.getElem?_eq_none (by rw [List.length_set,wasC_length]; omega),List.getElem?_eq_none (by rw [wasC_length]; omega)]
theorem wasC_same {N:Nat} {G:GS} {a b:Int}:wasC N G a a=wasC N G b b:=by
 apply List.ext_getElem?
 intro k
 by_cases hk:k<N
 ·rw [wasC_get hk,wasC_get hk]
  exact congrArg some (and_dec (by omega) _)
 ·rw [List.getElem?_eq_none (by rw [wasC_length]; omega),List.getElem?_eq_none (by rw [wasC_length]; omega)]
theorem wasC_done {N:Nat} {G:GS} {a j e:Int} (h:j=e∨((N:Int)≤j∧j≤e)):wasC N G a j=wasC N (G.filter fun x => !decide (a≤x.1∧x.1<e)) 0 0:=by
 apply List.ext_getElem?
 intro k
 by_cases hk:k<N
 ·rw [wasC_get hk,wasC_get hk]
  have:=thas_filter G (fun x=>decide (a≤x∧x<e)) k
  rw [this]
  have h2:decide ((0:Int)≤(k:Int)∧(k:Int)<0)=false:=decide_eq_false (by omega)
  rw [h2,Bool.not_false,Bool.and_true]
  exact congrArg some (and_dec (by omega) _)
 ·rw [List.getElem?_eq_none (by rw [wasC_length]; omega),List.getElem?_eq_none (by rw [wasC_length]; omega)]
structure Gone (r:PR) (G:GS):Prop where
 man:∀ k,thas G k=true→0≤k∧k<256*(r.man:Int)
 no:∀ p∈r.live,thas G p.bs=false
end Go.Tum.Base
end
section
namespace Go.Proofs.YtgfjgfapigekiaaGreat
open Go Go.Tum Go.Tum.Base
set_option maxRecDepth 4000
def DL (d:DR) (N:Nat) (G:GS):LH:=DRL d++[.gro 1 (rowsC boolC (wasC N G 0 0)),.cells 0 [ptr 0,slB 7 N]]
theorem liv_find {r:PR} {a:Int} {p:Pl} (h:r.liv a=some p):r.find a=some p∧p.st=1:=by
 unfold PR.liv at h
 cases hq:r.find a with
 | none=>rw [hq] at h; cases h
 | some q =>
  rw [hq] at h
  simp only at h
  split at h
  ·cases h; exact ⟨rfl,by assumption⟩
  ·cases h
theorem dlNew_tr (d:DR) (hN:d.N≤65536):Tr Tryz.prog 28 [ptr 0] (DRL d) (fun v K=>v=ptr 8∧K=DL d d.N []):=by
 refine Tr.of row_tumbrelref10_New_ok rfl ?_
 repeat' (first|refine qN ?_|refine dN ?_|fail)
 first|refine L_rs ?_|refine L_reg ?_ | skip
 refine eE rfl rfl (EW.mk (sz:=1) (bytes:=1) (k:=d.N) (zs:=boolC false) rfl (by kernel_rfl) rfl rfl (by omega) (by omega)) ?_
 conv=>whnf
 rw [repC_rows,wasC_nil]
 repeat' (first|refine dN ?_|fail)
 exact L_ret (RetQ.pick [0,1,2,3,4,5,6,7,8] rfl rfl rfl rfl ⟨rfl,rfl⟩)
theorem dlBytes_tr (pg sl bs sz st:Int) (gr:Bool) (h0:0≤bs) (h1:0≤sz) (h2:bs+sz≤65536) (hg:gr=true→120<sz∧sz≤4096):Tr Tryz.prog 76 [.agg ⟨[.int .i64 pg,.int .i64 sl,.int .i64 bs,.int .i64 sz,.int .i64 st,.bool gr]⟩] [] (fun v K=>v=.int .i64 (endP ⟨pg,sl,bs,sz,st,gr⟩-bs)∧K=[]):=by
 have hP:=rPages_tr sz
 obtain ⟨z,rfl⟩:∃ z:Nat,sz=z:=⟨sz.toNat,by omega⟩
 unfold endP
 simp only
 refine Tr.of row_tumbrelref10_bytes_ok rfl ?_
 cases gr
 ·repeat' (first|refine qN ?_|refine dN ?_|refine rT ?_|refine qU ?_|refine qL ?_|refine aA ?_|refine qS ?_|fail)
  refine ⟨?_,rfl⟩
  show Value.int .i64 ((z:Int)+8)=.int .i64 (bs+((z:Int)+8)-bs)
  rw [show bs+((z:Int)+8)-bs=(z:Int)+8 by omega]
 ·obtain ⟨g1,g2⟩:=hg rfl
  have e:pagesC z=((z:Int)+263) / 256:=by unfold pagesC; rw [if_neg (by omega)]
  rw [e] at hP
  repeat' (first|refine qN ?_|refine dN ?_|refine qT ?_|refine qS ?_|fail)
  first|refine LSt.nf ?_|refine LWp.nf ?_
  conv=>whnf
  repeat' (first|refine dN ?_|refine rT ?_|refine cP [] (hP) ?_|refine aM ?_|fail)
  refine ⟨?_,rfl⟩
  show Value.int .i64 (256*(((z:Int)+263) / 256))=.int .i64 (bs+((z:Int)+8+255) / 256*256-bs)
  rw [show bs+((z:Int)+8+255) / 256*256-bs=256*(((z:Int)+263) / 256) by omega]
set_option maxHeartbeats 1000000 in
theorem dlFault_tr (r:PR) (d:DR) (ok:r.Ok) (tie:Tie r d) (N:Nat) (hN:r.N=N) (G:GS) (a:Int):Tr Tryz.prog 32 [ptr 8,.int .i64 a] (DL d N G) (fun v K=>v=.int .i64 (faultV r G a)∧K=DL d N G):=by
 have hF:=dFind_tr r d ok tie a
 have hn:=ok.n2
 have hrN:r.N=256*(r.man+r.mgd):=rfl
 have hdN:d.N=N:=by rw [← hN,hrN]; unfold DR.N; rw [tie.n]
 have hdm:=tie.man
 unfold faultV
 by_cases h1:a<0∨(r.N:Int)≤a
 ·rw [if_pos h1]
  refine Tr.of row_tumbrelref10_Ledger_Fault_ok rfl ?_
  repeat' (first|refine qN ?_|refine dN ?_|refine rT ?_|refine qT ?_|refine qL ?_|refine iF (fun h=>?_) (fun h=>?_)|refine aM ?_|refine sP 9 (fun h=>?_) (fun h=>?_)|refine qS ?_|exact ⟨rfl,rfl⟩|fail)
  all_goals first | (exfalso; omega)|exact L_ret (RetQ.pick [0,1,2,3,4,5,6,7,8] rfl rfl rfl rfl ⟨rfl,rfl⟩)
 rw [if_neg h1]
 by_cases h2:256*(r.man:Int)≤a
 ·rw [if_pos h2]
  refine Tr.of row_tumbrelref10_Ledger_Fault_ok rfl ?_
  repeat' (first|refine qN ?_|refine dN ?_|refine rT ?_|refine qT ?_|refine qL ?_|refine iF (fun h=>?_) (fun h=>?_)|refine aM ?_|refine sP 9 (fun h=>?_) (fun h=>?_)|refine qS ?_|exact ⟨rfl,rfl⟩|fail)
  all_goals first | (exfalso; omega)|exact L_ret (RetQ.pick [0,1,2,3,4,5,6,7,8] rfl rfl rfl rfl ⟨rfl,rfl⟩)
 rw [if_neg h2]
 obtain ⟨k,rfl⟩:∃ k:Nat,a=k:=⟨a.toNat,by omega⟩
 have hk:k<N:=by omega
 have hw:=wasC_get (a:=0) (j:=0) (G:=G) hk
 rw [decide_eq_false (by omega),Bool.not_false,Bool.and_true] at hw
 unfold PR.liv
 cases hf:r.find k with
 | none =>
  rw [hf] at hF
  change Tr Tryz.prog _ _ _ (fun v K=>v=.tuple ⟨[.agg ⟨[.int .i64 0,.int .i64 0,.int .i64 0,.int .i64 0,.int .i64 0,.bool false]⟩,.bool false]⟩∧K=DRL d) at hF
  cases ht:thas G k with
  | true =>
   rw [ht] at hw
   refine Tr.of row_tumbrelref10_Ledger_Fault_ok rfl ?_
   repeat' (first|refine qN ?_|refine dN ?_|refine rT ?_|refine qT ?_|refine qU ?_|refine qL ?_|refine iF (fun h=>?_) (fun h=>?_)|refine aX ?_|(refine cF [0,1,2,3,4,5,6] (hF) ?_; conv=>whnf)|refine S_Q [] rfl rfl (QY.ldB rfl rfl hw) ?_|refine aM ?_|refine qS ?_|exact ⟨rfl,rfl⟩|fail)
   all_goals (exfalso; omega)
  | false =>
   rw [ht] at hw
   refine Tr.of row_tumbrelref10_Ledger_Fault_ok rfl ?_
   repeat' (first|refine qN ?_|refine dN ?_|refine rT ?_|refine qU ?_|refine qL ?_|refine iF (fun h=>?_) (fun h=>?_)|refine aX ?_|(refine cF [0,1,2,3,4,5,6] (hF) ?_; conv=>whnf)|refine S_Q [] rfl rfl (QY.ldB rfl rfl hw) ?_|refine aM ?_|refine qS ?_|exact ⟨rfl,rfl⟩|fail)
   all_goals (exfalso; omega)
 | some p =>
  obtain ⟨pg,sl,bs,sz,st,gr⟩:=p
  rw [hf] at hF
  change Tr Tryz.prog _ _ _ (fun v K=>v=.tuple ⟨[.agg ⟨[.int .i64 pg,.int .i64 sl,.int .i64 bs,.int .i64 sz,.int .i64 st,.bool gr]⟩,.bool true]⟩∧K=DRL d) at hF
  by_cases h3:st=1
  ·subst h3
   show Tr Tryz.prog _ _ _ (fun v K=>v=.int .i64 (if bs=(k:Int) then 0 else 4)∧K=DL d N G)
   by_cases h4:bs=k
   ·rw [if_pos h4]
    refine Tr.of row_tumbrelref10_Ledger_Fault_ok rfl ?_
    repeat' (first|refine qN ?_|refine dN ?_|refine rT ?_|refine qT ?_|refine qL ?_|refine iF (fun h=>?_) (fun h=>?_)|(refine cF [0,1,2,3,4,5,6] (hF) ?_; conv=>whnf)|refine aM ?_|refine qS ?_|exact ⟨rfl,rfl⟩|fail)
    all_goals (exfalso; omega)
   ·rw [if_neg h4]
    refine Tr.of row_tumbrelref10_Ledger_Fault_ok rfl ?_
    repeat' (first|refine qN ?_|refine dN ?_|refine rT ?_|refine qT ?_|refine qL ?_|refine iF (fun h=>?_) (fun h=>?_)|(refine cF [0,1,2,3,4,5,6] (hF) ?_; conv=>whnf)|refine aM ?_|refine qS ?_|exact ⟨rfl,rfl⟩|fail)
    all_goals (exfalso; omega)
  ·have e:(if (⟨pg,sl,bs,sz,st,gr⟩:Pl).st=1 then some (⟨pg,sl,bs,sz,st,gr⟩:Pl) else none)=none:=if_neg h3
   simp only [e]
   cases ht:thas G k with
   | true =>
    rw [ht] at hw
    refine Tr.of row_tumbrelref10_Ledger_Fault_ok rfl ?_
    repeat' (first|refine qN ?_|refine dN ?_|refine rT ?_|refine qT ?_|refine qU ?_|refine qL ?_|refine iF (fun h=>?_) (fun h=>?_)|refine aX ?_|(refine cF [0,1,2,3,4,5,6] (hF) ?_; conv=>whnf)|refine S_Q [] rfl rfl (QY.ldB rfl rfl hw) ?_|refine aM ?_|refine sP 46 (fun h=>?_) (fun h=>?_)|refine qS ?_|exact ⟨rfl,rfl⟩|fail)
    all_goals (exfalso; omega)
   | false =>
    rw [ht] at hw
    refine Tr.of row_tumbrelref10_Ledger_Fault_ok rfl ?_
    repeat' (first|refine qN ?_|refine dN ?_|refine rT ?_|refine qU ?_|refine qL ?_|refine iF (fun h=>?_) (fun h=>?_)|refine aX ?_|(refine cF [0,1,2,3,4,5,6] (hF) ?_; conv=>whnf)|refine S_Q [] rfl rfl (QY.ldB rfl rfl hw) ?_|refine aM ?_|refine sP 46 (fun h=>?_) (fun h=>?_)|refine qS ?_|exact ⟨rfl,rfl⟩|fail)
    all_goals (exfalso; omega)
theorem dlDrop_tr (r:PR) (d:DR) (ok:r.Ok) (tie:Tie r d) (N:Nat) (hN:r.N=N) (G:GS) (c:Nat) (a:Int) (ha:0≤a∧a<256*(r.man:Int)) (hf:faultV r G a≠0):Tr Tryz.prog 30 [ptr 8,.int .i64 a] (DL d N G) (fun v K=>v=.int .i64 0∧K=DL d N (tput G a c).1):=by
 have hF:=dlFault_tr r d ok tie N hN G a
 have hn:=ok.n2
 have hrN:r.N=256*(r.man+r.mgd):=rfl
 have hdm:=tie.man
 generalize faultV r G a=u at *
 obtain ⟨k,rfl⟩:∃ k:Nat,a=k:=⟨a.toNat,by omega⟩
 have hk:k<N:=by omega
 refine Tr.of row_tumbrelref10_Ledger_Dropped_ok rfl ?_
 repeat' (first|refine qN ?_|refine dN ?_|refine rT ?_|refine qL ?_|refine iF (fun h=>?_) (fun h=>?_)|refine aX ?_|(refine cF [0,1,2,3,4,5,6,7,8] (hF) ?_; conv=>whnf)|refine aM ?_|refine qS ?_|fail)
 all_goals try (exfalso; omega)
 first|refine L_rs ?_|refine L_reg ?_ | skip
 refine eE rfl rfl (EW.stB rfl rfl rfl (by rw [wasC_length]; omega)) ?_
 conv=>whnf
 rw [wasC_put (c:=c)]
 repeat' (first|refine qN ?_|refine dN ?_|refine rT ?_|exact ⟨rfl,rfl⟩|fail)
theorem dlDrop_no (r:PR) (d:DR) (ok:r.Ok) (tie:Tie r d) (N:Nat) (G:GS) (a:Int) (ha:¬ (0≤a∧a<256*(r.man:Int))):Tr Tryz.prog 30 [ptr 8,.int .i64 a] (DL d N G) (fun v K=>v=.int .i64 3∧K=DL d N G):=by
 have hn:=ok.n2
 have hdm:=tie.man
 refine Tr.of row_tumbrelref10_Ledger_Dropped_ok rfl ?_
 repeat' (first|refine qN ?_|refine dN ?_|refine rT ?_|refine qT ?_|refine qL ?_|refine iF (fun h=>?_) (fun h=>?_)|refine aM ?_|refine sP 7 (fun h=>?_) (fun h=>?_)|refine qS ?_|exact ⟨rfl,rfl⟩|fail)
 all_goals first | (exfalso; omega)|exact L_ret (RetQ.pick [0,1,2,3,4,5,6,7,8] rfl rfl rfl rfl ⟨rfl,rfl⟩)
theorem dlDrop_live (r:PR) (d:DR) (ok:r.Ok) (tie:Tie r d) (N:Nat) (hN:r.N=N) (G:GS) (a:Int) (ha:0≤a∧a<256*(r.man:Int)) (hf:faultV r G a=0):Tr Tryz.prog 30 [ptr 8,.int .i64 a] (DL d N G) (fun v K=>v=.int .i64 8∧K=DL d N G):=by
 have hF:=dlFault_tr r d ok tie N hN G a
 have hn:=ok.n2
 have hdm:=tie.man
 rw [hf] at hF
 refine Tr.of row_tumbrelref10_Ledger_Dropped_ok rfl ?_
 repeat' (first|refine qN ?_|refine dN ?_|refine rT ?_|refine qT ?_|refine qL ?_|refine iF (fun h=>?_) (fun h=>?_)|(refine cF [0,1,2,3,4,5,6,7,8] (hF) ?_; conv=>whnf)|refine aM ?_|refine sP 7 (fun h=>?_) (fun h=>?_)|refine qS ?_|exact ⟨rfl,rfl⟩|fail)
 all_goals first | (exfalso; omega)|exact L_ret (RetQ.pick [0,1,2,3,4,5,6,7,8] rfl rfl rfl rfl ⟨rfl,rfl⟩)
theorem live_end {r:PR} (ok:r.Ok) {p:Pl} (hp:p∈r.live):endP p≤256*r.man∧p.bs+8≤endP p∧(p.gr=true→120<p.sz∧p.sz≤4096):=by
 rcases (live_mem ok _).1 hp with ⟨x,hx,k,hk,hs,rfl⟩ | ⟨b,hb,rfl⟩
 ·have h1:=(ok.sok x hx).cls.base hk x.t.pg
  have h2:=(ok.sok x hx).pg
  have h3:=(ok.sok x hx).cls.bd
  unfold endP
  simp only [placeS]
  refine ⟨?_,?_,fun h=>by cases h⟩
  ·simp; omega
  ·simp; omega
 ·have h1:=(ok.gok b hb).lo
  have h2:=(ok.gok b hb).hi
  have h3:=(ok.gok b hb).gr
  unfold greatC at h3
  simp at h3
  unfold pagesC at h2
  rw [if_neg (by omega)] at h2
  unfold endP
  simp only [placeG]
  refine ⟨?_,?_,fun _=>by omega⟩
  ·simp; omega
  ·simp; omega
set_option maxHeartbeats 1000000 in
theorem dlTook_tr (r:PR) (d:DR) (ok:r.Ok) (tie:Tie r d) (N:Nat) (hN:r.N=N) (G:GS) {p:Pl} (hp:p∈r.live):Tr Tryz.prog 29 [ptr 8,.int .i64 p.bs] (DL d N G) (fun v K=>v=.int .i64 0∧K=DL d N (G.filter fun x => !decide (p.bs≤x.1∧x.1<endP p))):=by
 have hF:=dFind_tr r d ok tie p.bs
 rw [(liv_find (liv_live ok hp)).1] at hF
 obtain ⟨f1,f2,f3,f4,f5⟩:=live_facts ok hp
 obtain ⟨e1,e2,e3⟩:=live_end ok hp
 have hn:=ok.n2
 have hrN:r.N=256*(r.man+r.mgd):=rfl
 obtain ⟨pg,sl,bs,sz,st,gr⟩:=p
 simp only at f1 f2 f3 f4 f5 e1 e2 e3
 subst f4
 have hB:=dlBytes_tr pg sl bs sz 1 gr f1 (by omega) (by omega) e3
 change Tr Tryz.prog _ [ptr 0,.int .i64 bs] _ (fun v K=>v=.tuple ⟨[.agg ⟨[.int .i64 pg,.int .i64 sl,.int .i64 bs,.int .i64 sz,.int .i64 1,.bool gr]⟩,.bool true]⟩∧K=DRL d) at hF
 change Tr Tryz.prog _ [ptr 8,.int .i64 bs] _ (fun v K=>v=.int .i64 0∧K=DL d N (G.filter fun x => !decide (bs≤x.1∧x.1<endP ⟨pg,sl,bs,sz,1,gr⟩)))
 obtain ⟨a,rfl⟩:∃ a:Nat,bs=a:=⟨bs.toNat,by omega⟩
 obtain ⟨n,hn⟩:∃ n:Nat,endP ⟨pg,sl,a,sz,1,gr⟩=((a+n:Nat):Int):=⟨(endP ⟨pg,sl,a,sz,1,gr⟩-a).toNat,by omega⟩
 rw [hn] at e1 e2 hB ⊢
 rw [show (((a+n:Nat):Int)-a)=(n:Int) by omega] at hB
 refine Tr.of row_tumbrelref10_Ledger_Took_ok rfl ?_
 repeat' (first|refine qN ?_|refine dN ?_|refine qB ?_|refine rT ?_|refine qT ?_|refine qU ?_|refine qL ?_|(refine cF [0,1,2,3,4,5,6] (hF) ?_; conv=>whnf)|refine sP 25 (fun h=>?_) (fun h=>?_)|refine qS ?_|fail)
 all_goals try (exfalso; omega)
 refine LWp.pick [0,1,5,7] [0,1,2,3,4,5,6,7,8,9] rfl rfl rfl (L_loop (fun q l L=>∃ k:Nat,q=n-k∧k≤n∧l=[(0,ptr 8),(1,.int .i64 a),(5,ptr 9),(7,.int .i64 k)]∧L=DRL d++[.gro 1 (rowsC boolC (wasC N G a (a+k:Nat))),.cells 0 [ptr 0,slB 7 N],.cells 0 [.int .i64 pg,.int .i64 sl,.int .i64 a,.int .i64 sz,.int .i64 1,.bool gr]]) n ⟨0,rfl,by omega,rfl,by rw [show wasC N G a (a+0:Nat)=wasC N G 0 0 from wasC_same (a:=(a:Int)) (b:=0)]; rfl⟩ ?_)
 rintro q _ _ ⟨k,rfl,hk,rfl,rfl⟩
 by_cases hk1:k<n
 ·repeat' (first|refine qN ?_|refine dN ?_|refine qB ?_|refine qL ?_|refine qF ?_|refine iF (fun h=>?_) (fun h=>?_)|refine aX ?_|refine cP [] (hB) ?_|refine S_Q [] rfl rfl (QY.add (c:=((a+k:Nat):Int)) rfl rfl (by omega) (by omega) (by omega)) ?_|refine qR ?_|refine qS ?_|fail)
  all_goals try (exfalso; omega)
  first|refine L_rs ?_|refine L_reg ?_ | skip
  refine eE rfl rfl (EW.stB rfl rfl rfl (by rw [wasC_length]; omega)) ?_
  conv=>whnf
  rw [wasC_step (by omega)]
  repeat' (first|refine dN ?_|refine d0 ?_|refine aA ?_|refine qR ?_|fail)
  exact Nx.pick [0,1,5,7] [0,1,2,3,4,5,6,7,8,9] rfl rfl rfl ⟨n-(k+1),by omega,k+1,rfl,by omega,rfl,rfl⟩
 ·obtain rfl:k=n:=by omega
  rw [wasC_done (e:=((a+k:Nat):Int)) (.inl rfl)]
  repeat' (first|refine qN ?_|refine dN ?_|refine qB ?_|refine rT ?_|refine qL ?_|refine qF ?_|refine iF (fun h=>?_) (fun h=>?_)|refine aX ?_|refine cP [] (hB) ?_|refine aA ?_|refine qR ?_|refine qS ?_|exact ⟨rfl,rfl⟩|fail)
  all_goals first | (exfalso; omega)|exact L_ret (RetQ.pick [0,1,2,3,4,5,6,7,8] rfl rfl rfl rfl ⟨rfl,rfl⟩)
theorem dlTook_no (r:PR) (d:DR) (ok:r.Ok) (tie:Tie r d) (N:Nat) (G:GS) (a:Int) (h:∀ p,r.liv a=some p→p.bs≠a):Tr Tryz.prog 29 [ptr 8,.int .i64 a] (DL d N G) (fun v K=>v=.int .i64 6∧K=DL d N G):=by
 have hF:=dFind_tr r d ok tie a
 unfold PR.liv at h
 cases hf:r.find a with
 | none =>
  rw [hf] at hF
  change Tr Tryz.prog _ _ _ (fun v K=>v=.tuple ⟨[.agg ⟨[.int .i64 0,.int .i64 0,.int .i64 0,.int .i64 0,.int .i64 0,.bool false]⟩,.bool false]⟩∧K=DRL d) at hF
  refine Tr.of row_tumbrelref10_Ledger_Took_ok rfl ?_
  repeat' (first|refine qN ?_|refine dN ?_|refine rT ?_|refine qT ?_|(refine cF [0,1,2,3,4,5,6] (hF) ?_; conv=>whnf)|refine qS ?_|exact ⟨rfl,rfl⟩|fail)
 | some p =>
  rw [hf] at hF h
  obtain ⟨pg,sl,bs,sz,st,gr⟩:=p
  change Tr Tryz.prog _ _ _ (fun v K=>v=.tuple ⟨[.agg ⟨[.int .i64 pg,.int .i64 sl,.int .i64 bs,.int .i64 sz,.int .i64 st,.bool gr]⟩,.bool true]⟩∧K=DRL d) at hF
  have h1:st=1→bs≠a:=fun e=>h _ (if_pos e)
  clear h
  refine Tr.of row_tumbrelref10_Ledger_Took_ok rfl ?_
  by_cases h2:bs=a
  ·have h3:st≠1:=fun e=>h1 e h2
   clear h1
   repeat' (first|refine qN ?_|refine dN ?_|refine qB ?_|refine rT ?_|refine qT ?_|refine qL ?_|refine iF (fun h=>?_) (fun h=>?_)|(refine cF [0,1,2,3,4,5,6] (hF) ?_; conv=>whnf)|refine sP 25 (fun h=>?_) (fun h=>?_)|refine qS ?_|exact ⟨rfl,rfl⟩|fail)
   all_goals (exfalso; omega)
  ·clear h1
   repeat' (first|refine qN ?_|refine dN ?_|refine qB ?_|refine rT ?_|refine qT ?_|refine qL ?_|refine iF (fun h=>?_) (fun h=>?_)|(refine cF [0,1,2,3,4,5,6] (hF) ?_; conv=>whnf)|refine sP 25 (fun h=>?_) (fun h=>?_)|refine qS ?_|exact ⟨rfl,rfl⟩|fail)
   all_goals (exfalso; omega)
end Go.Proofs.YtgfjgfapigekiaaGreat
end
section
namespace Go.Tum
open Go Go.RowKit Go.Sort
theorem rowsC_int:∀ xs:List Int,rowsC intC xs=xs.map (Value.int .i64)
 | []=>rfl
 | x::r=>by simp [rowsC,intC,rowsC_int r]
theorem rowsC_nil_iff {xs:List Int}:rowsC intC xs=[]↔xs=[]:=by rw [rowsC_int]; simp
section
variable {P:Program} {L:LH} {f:FuncId} {vs:List Value}
def GivesRow (P:Program) (f:FuncId) (args:Array Value) (t:TypeId) (zs:List Int) (w:World):Prop :=
 Calls P f args w fun e w'=>∃ v,e=.returned v∧w'.ownsRow w.heap.size t 1 v zs.length (zs.map (Value.int .i64))∧(v=.slice none 0 0↔zs=[])∧Below w.heap.size w w'
theorem Rep.rowNew {X:Nat→Prop} {w0 w wr:World} {E:Emb} {args:Array Value} {t:TypeId} {zs:List Int} (hR:Rep X w0 E L w) (hs:Sim wr w) (h:GivesRow P f args t zs wr) :
  Calls P f args wr fun e w'=>∃ w1,Sim w' w1∧∃ v',e=.returned v'∧∃ E',Tum.Ext E E'∧VR E' (.slice (some ⟨L.length,0,none⟩) zs.length zs.length) v'∧Rep X w0 E' (L++[.gro 1 (rowsC intC zs)]) w1:=by
 refine Calls.mono h ?_
 rintro e w' ⟨v,rfl,hrow,hnil,hb⟩
 have hf:Fr (fun _=>False) w w':=⟨by rw [← hs.heap]; exact hb.size,fun b hb' _=>by rw [← hs.heap]; exact hb.block b (by rw [hs.heap]; exact hb'),hb.os.trans hs.os,hb.tape.trans hs.tape,hb.output.trans hs.output⟩
 refine ⟨w',Sim.refl w',v,rfl,?_⟩
 by_cases hz:zs=[]
 ·subst hz
  obtain rfl:=hnil.2 rfl
  exact ⟨E++[(0,0,0)],Ext.push E _,⟨rfl,_,hR.last _,.inr ⟨rfl,rfl,none,rfl⟩⟩,hR.push hf (fun _ h=>h.elim) (.inl ⟨rfl,rfl⟩)⟩
 ·rcases hrow.2 with ⟨rfl,h0⟩ | ⟨g,cap,cur,rfl,hbase,hgb,h1,h2,h3,h4⟩
  ·exact absurd (hnil.1 rfl) hz
  ·have hg:=(Array.getElem?_eq_some_iff.1 hgb).1
   rw [hs.heap] at hbase
   refine ⟨E++[(g,0,cap-zs.length)],Ext.push E _,⟨rfl,_,hR.last _,.inl ⟨_,_,rfl,.inl ⟨by simp,by show cap=zs.length+(cap-zs.length); omega⟩⟩⟩,hR.push hf (fun b hb=>?_) (.inr ⟨fun e=>hz (rowsC_nil_iff.1 e),by decide,cur.toList,⟨_,hgb⟩,?_,?_⟩)⟩
   ·have:b=g:=by
     revert hb
     cases hq:rowsC intC zs with
     | nil=>exact absurd (rowsC_nil_iff.1 hq) hz
     | cons x r=>exact fun h=>h
    subst this
    exact ⟨hbase,hg⟩
   ·rw [rowsC_int,List.length_map]
    simpa using h4
   ·rw [rowsC_int,List.length_map]
    simp only [Array.length_toList,h3]
    omega
theorem Tr.rowNew {t:TypeId} {zs:List Int} (hc:callable P f=true) (h:∀ (X:Nat→Prop) (w0 w:World) (E:Emb) (vs':List Value),Rep X w0 E L w→L2 (VR E) vs vs'→∀ wr,Sim wr w→GivesRow P f vs'.toArray t zs wr) :
  Tr P f vs L (fun v K=>v=.slice (some ⟨L.length,0,none⟩) zs.length zs.length∧K=L++[.gro 1 (rowsC intC zs)]):=by
 intro X w0 w E vs' hA hR hv
 refine ⟨hc,fun wr hs=>(hR.rowNew hs (h X w0 w E vs' hR hv wr hs)).mono ?_⟩
 rintro e w' ⟨w1,h1,v',rfl,E',h2,h3,h4⟩
 exact ⟨w1,h1,v',rfl,E',_,_,fun k r _ hk=>h2 k r hk,by simp,h3,h4,rfl,rfl⟩
def sortZ (xs:List Int):List Int:=xs.mergeSort fun x y=>decide (x≤y)
theorem sortZ_len (xs:List Int):(sortZ xs).length=xs.length:=List.length_mergeSort ..
end
end Go.Tum
end
section
namespace Go.Tum
open Go Go.RowKit Go.Sort Go.Maps Go.WideShapes
section
variable {P:Program}
theorem ownsMap_of {k:TypeId} (hk:P.underlying k=some (.int .i64)) {w:World} {b c:Nat} {m:List (Int × Value × Nat)} (hM:Mp (Value.int .i64) w b m c) (hw:Wf m c) (hb:∀ x∈m,(Lit.int .i64 x.1).wf=true) (hl:m.length≤maxLen) :
  ∃ D0:DataW Unit,w.ownsMap P k (fun _=>some (.lit (.bool true),[])) b m.length D0∧(intKeys D0).Perm (m.map (·.1))∧Maps.size D0=m.length:=by
 have hrd:∀ x∈m,WideElems.rd (H:=Unit) P k (fun _=>some (.lit (.bool true),[])) (mkE (Value.int .i64) x)=some (.int .i64 x.1,.lit (.bool true)):=fun x hx=>by
  unfold WideElems.rd
  rw [show (mkE (Value.int .i64) x).key=.int .i64 x.1 from rfl,keyOf_int_mk hk (hb x hx)]
  rfl
 have hrg:m.map (fun x=>WideElems.rg (H:=Unit) P k (fun _=>some (.lit (.bool true),[])) (mkE (Value.int .i64) x))=m.map fun x=>(Lit.int .i64 x.1,DataW.lit (.bool true)):=by
  apply List.map_congr_left
  intro x hx
  unfold WideElems.rg
  rw [hrd x hx]; rfl
 have hrg':((m.map (mkE (Value.int .i64))).toArray.toList.map (WideElems.rg (H:=Unit) P k (fun _=>some (.lit (.bool true),[]))))=m.map fun x=>(Lit.int .i64 x.1,DataW.lit (.bool true)):=by
  rw [← hrg]; simp [Function.comp]
 refine ⟨_,⟨_,_,hM,⟨by simpa using hl,⟨fun x hx=>?_,?_,?_⟩,fun x hx=>?_⟩,by simp,rfl⟩,?_,?_⟩
 ·simp only [List.mem_map] at hx
  obtain ⟨y,hy,rfl⟩:=hx
  exact hw.past y hy
 ·have:=hw.borns
  simp only [List.map_map]
  exact this
 ·have:=hw.keys
  simp only [List.map_map]
  rw [show ((fun x:MapEntry=>x.key) ∘ mkE (Value.int .i64))=(Value.int .i64) ∘ fun x:Int × Value × Nat=>x.1 from rfl,← List.map_map]
  rw [List.nodup_iff_pairwise_ne,List.pairwise_map]
  exact (List.nodup_iff_pairwise_ne.1 this).imp fun h e=>h (by cases e; rfl)
 ·simp only [List.mem_map] at hx
  obtain ⟨y,hy,rfl⟩:=hx
  exact ⟨_,hrd y hy⟩
 ·rw [hrg']
  unfold intKeys
  refine ((sorted_perm _).map _).trans ?_
  rw [List.map_map]
  exact .refl _
 ·rw [hrg']
  show List.length _=_
  rw [(sorted_perm _).length_eq]
  simp
theorem Fr.cellK {G:Nat→Prop} {w1 w2:World} {b o:Nat} {v:Value} (hf:Fr G w1 w2) (h:w1.cell? ⟨b,o,none⟩=some v) (hn:¬ G b):w2.cell? ⟨b,o,none⟩=some v:=by
 have hlt:b<w1.heap.size:=by
  simp only [World.cell?] at h
  cases hq:w1.heap[b]? with
  | none=>rw [hq] at h; cases h
  | some x=>exact (Array.getElem?_eq_some_iff.1 hq).1
 simp only [World.cell?,hf.keep b hlt hn] at h ⊢
 exact h
abbrev clo (g k:Nat):Value:=.func (.func g) ⟨[]⟩ ⟨[.pointer (some ⟨k,0,none⟩)]⟩
def boxB (A:Nat→World→Prop) (F:Nat→Prop) (b0 b1:Nat):LB:=.abs (fun r w=>r=b1∧w.cell? ⟨b1,0,none⟩=some (.map (some b0))∧A b0 w) (fun b=>b=b1∨F b)
def adB (b0:Nat):LB:=.abs (fun r _=>r=b0) (fun _=>False)
theorem boxB_is {E:Emb} {w:World} {r:Nat × Nat × Nat} {A:Nat→World→Prop} {F:Nat→Prop} {b0 b1:Nat} (h1:r=(b1,0,0)) (h2:w.cell? ⟨b1,0,none⟩=some (.map (some b0))) (h3:A b0 w) (hst:∀ w1 w2 G,A b0 w1→Fr G w1 w2→(∀ b,F b→¬ G b)→A b0 w2):LBis E w r (boxB A F b0 b1):=by
 subst h1
 exact ⟨⟨rfl,h2,h3⟩,rfl,fun w1 w2 G ⟨g1,g2,g3⟩ hf hn=>⟨g1,hf.cellK g2 (hn _ (.inl rfl)),hst w1 w2 G g3 hf fun b hb=>hn b (.inr hb)⟩⟩
def KeysC (P:Program) (f:FuncId) (g:Nat) (t:TypeId):Prop:=∀ (mb:Option Nat) (w:World),Calls P f #[.map mb] w fun e w'=>e=.returned (.func (.func g) #[] #[.pointer (some ⟨w.heap.size,0,none⟩)])∧w'=w.alloc (.cells #[.map mb] t)
section
variable {f:FuncId} {g:Nat} {t:TypeId}
theorem keys_box {X:Nat→Prop} {w0 w:World} {E:Emb} {vs':List Value} {y:LB} {A:Nat→World→Prop} {F:Nat→Prop} {r:Nat × Nat × Nat} (h:KeysC P f g t) (hR:Rep X w0 E [y] w) (hv:L2 (VR E) [.map (some 0)] vs') (hr:E[0]?=some r) (hA:A r.1 w) (hF:∀ b,F b→foot r y b) (hst:∀ w1 w2 G,A r.1 w1→Fr G w1 w2→(∀ b,F b→¬ G b)→A r.1 w2) :
  Does P f vs'.toArray w fun v' w'=>∃ b1,(b1,0,0)=(w.heap.size,0,0)∧VR (E++[(w.heap.size,0,0)]) (clo g 1) v'∧Rep X w0 (E++[(w.heap.size,0,0)]) [.dead,boxB A F r.1 w.heap.size] w':=by
 obtain ⟨v',rfl,hv'⟩:∃ v',vs'=[v']∧VR E (.map (some 0)) v':=by
  cases vs' with
  | nil=>exact hv.elim
  | cons a q=>cases q with
   | nil=>exact ⟨a,rfl,hv.1⟩
   | cons _ _=>exact hv.2.elim
 obtain ⟨r',hr',rfl⟩:=hv'
 have hr':E[0]?=some r':=hr'
 rw [hr] at hr'; cases hr'
 intro wr hs
 refine (h (some r.1) wr).mono ?_
 rintro e w' ⟨rfl,rfl⟩
 refine ⟨w.alloc (.cells #[.map (some r.1)] t),hs.push _,_,rfl,w.heap.size,rfl,?_,?_⟩
 ·refine ⟨[],_,rfl,trivial,⟨⟨_,rfl,rfl,(w.heap.size,0,0),?_,by rw [hs.heap]; rfl⟩,trivial⟩⟩
  have:=hR.last (w.heap.size,0,0)
  exact this
 ·have hfr:Fr (fun _=>False) w (w.alloc (.cells #[.map (some r.1)] t)):=Fr.alloc _ w _
  have:=hR.again (b:=0) (r':=(w.heap.size,0,0)) (x:=boxB A F r.1 w.heap.size) rfl hr (hfr.mono fun _ _ h=>h.elim) (fun c hc=>?_) (boxB_is rfl ?_ (hst _ _ _ hA hfr fun _ _ h=>h) hst)
  ·exact this
  ·rcases hc with hc | hc
   ·right
    rw [hc]
    exact ⟨Nat.le_refl _,by show _<(w.heap.push _).size; simp⟩
   ·exact .inl (hF c hc)
  ·have hb:(w.alloc (.cells #[.map (some r.1)] t)).heap[w.heap.size]?=some (.cells #[.map (some r.1)] t):=by
    show (w.heap.push _)[w.heap.size]?=_
    simp
   simp only [World.cell?,hb]
   rfl
def SortedC (P:Program) (f:FuncId) (g:Nat) (t:TypeId):Prop:=∀ (b0 b1 c:Nat) (m:List (Int × Value × Nat)) (w:World),Mp (Value.int .i64) w b0 m c→Wf m c→(∀ x∈m,(Lit.int .i64 x.1).wf=true)→m.length≤1000→w.cell? ⟨b1,0,none⟩=some (.map (some b0))→b1<w.heap.size →
 GivesRow P f #[.func (.func g) #[] #[.pointer (some ⟨b1,0,none⟩)]] t (sortZ (m.map (·.1))) w
theorem Tr.sortedK {A:Nat→World→Prop} {F:Nat→Prop} {x:LB} {b0 b1 c:Nat} {m:List (Int × Value × Nat)} (hc:callable P f=true) (h:SortedC P f g t) (hAm:∀ w,A b0 w→Mp (Value.int .i64) w b0 m c∧Wf m c) (hb:∀ x∈m,(Lit.int .i64 x.1).wf=true) (hl:m.length≤1000) :
  Tr P f [clo g 1] [x,boxB A F b0 b1] (fun v K=>v=.slice (some ⟨2,0,none⟩) m.length m.length∧K=[x,boxB A F b0 b1,.gro 1 (rowsC intC (sortZ (m.map (·.1))))]):=by
 have hln:(sortZ (m.map (·.1))).length=m.length:=by rw [sortZ_len,List.length_map]
 have:=Tr.rowNew (P:=P) (L:=[x,boxB A F b0 b1]) (f:=f) (vs:=[clo g 1]) (t:=t) (zs:=sortZ (m.map (·.1))) hc ?_
 ·rw [hln] at this; exact this
 intro X w0 w E vs' hR hv wr hs
 obtain ⟨v',rfl,hv'⟩:∃ v',vs'=[v']∧VR E (clo g 1) v':=by
  cases vs' with
  | nil=>exact hv.elim
  | cons a q=>cases q with
   | nil=>exact ⟨a,rfl,hv.1⟩
   | cons _ _=>exact hv.2.elim
 obtain ⟨a',c',rfl,ha,hcc⟩:=hv'
 obtain rfl:a'=[]:=by cases a' with
  | nil=>rfl
  | cons _ _=>exact ha.elim
 obtain ⟨p,rfl,hp⟩:∃ p,c'=[p]∧S0 E (.pointer (some ⟨1,0,none⟩)) p:=by
  cases c' with
  | nil=>exact hcc.elim
  | cons a q=>cases q with
   | nil=>exact ⟨a,rfl,hcc.1⟩
   | cons _ _=>exact hcc.2.elim
 obtain ⟨_,rfl,_,r,hr,rfl⟩:=hp
 have hr:E[1]?=some r:=hr
 obtain ⟨⟨h1,h2,h3⟩,h4,_⟩:=hR.blk 1 _ r rfl hr
 obtain ⟨r1,r2⟩:=r
 simp only at h1 h4
 subst h1 h4
 obtain ⟨g1,g2⟩:=hAm w h3
 have hlt:=(hR.rng 1 _ _ rfl hr r1 (.inl rfl)).2
 have h5:=h b0 r1 c m wr (g1.sim hs) g2 hb hl (by rw [hs.cell]; exact h2) (by rw [hs.heap]; exact hlt)
 exact h5
end
end
end Go.Tum
end
section
namespace Go.Proofs.YtgfjgfapigekiaaGreat
open Go Go.Proofs Go.Shelf Go.Tum Go.RowKit Go.Maps Go.Sort
def keysC_ren:Ren:=⟨fun | 7=>78 | 10=>128 | n=>n,fun | 23=>122 | 26=>3 | 3=>4 | 28=>130 | 0=>0 | 27=>129 | 33=>125 | 4=>4 | n=>n,fun | n=>n⟩
theorem keysC:SlLaysZI.n7 Tryz.prog keysC_ren:={
 mixed:=by kernel_rfl
 f7:=⟨Tryz.f78.name,by decide,Tryz.func78.trans (congrArg some (by kernel_rfl))⟩
 f10:=⟨Tryz.f128.name,by decide,Tryz.func128.trans (congrArg some (by kernel_rfl))⟩
 t0:=Tryz.underlying0
 a0:=Tryz.isAgg0
 z0:=Tryz.sizeOf0
 v0:=Tryz.zeroValue0
 t4:=Tryz.underlying4
 a4:=Tryz.isAgg4
 z4:=Tryz.sizeOf4
 v4:=Tryz.zeroValue4
 t23:=Tryz.underlying122
 a23:=Tryz.isAgg122
 z23:=Tryz.sizeOf122
 v23:=Tryz.zeroValue122
 t26:=Tryz.underlying3
 a26:=Tryz.isAgg3
 z26:=Tryz.sizeOf3
 v26:=Tryz.zeroValue3
 t27:=Tryz.underlying129
 a27:=Tryz.isAgg129
 z27:=Tryz.sizeOf129
 v27:=Tryz.zeroValue129
 t28:=Tryz.underlying130
 a28:=Tryz.isAgg130
 z28:=Tryz.sizeOf130
 v28:=Tryz.zeroValue130
 t33:=Tryz.underlying125
 a33:=Tryz.isAgg125
 z33:=Tryz.sizeOf125
 v33:=Tryz.zeroValue125 }
def sortedA_ren:Ren:=⟨fun | 6=>77 | 8=>126 | 9=>127 | 11=>157 | 13=>159 | 12=>158 | 23=>180 | 24=>181 | 14=>171 | 15=>172 | 16=>173 | 17=>174 | 18=>175 | 19=>176 | 20=>177 | 21=>178 | 22=>179 | 25=>182 | 26=>183 | 27=>184 | 28=>185 | 29=>186 | 30=>187 | 31=>188 | n=>n,fun | 26=>3 | 28=>130 | 24=>70 | 0=>0 | 3=>3 | 37=>199 | 48=>214 | 50=>22 | 4=>4 | 40=>208 | 39=>207 | 45=>97 | 5=>5 | 9=>9 | 51=>216 | 55=>220 | 57=>222 | 58=>110 | 33=>125 | n=>n,fun | n=>n⟩
theorem sortedA:SlLaysZI.n6 Tryz.prog sortedA_ren:={
 mixed:=by kernel_rfl
 f6:=⟨Tryz.f77.name,by decide,Tryz.func77.trans (congrArg some (by kernel_rfl))⟩
 f8:=⟨Tryz.f126.name,by decide,Tryz.func126.trans (congrArg some (by kernel_rfl))⟩
 f11:=⟨Tryz.f157.name,by decide,Tryz.func157.trans (congrArg some (by kernel_rfl))⟩
 t0:=Tryz.underlying0
 a0:=Tryz.isAgg0
 z0:=Tryz.sizeOf0
 v0:=Tryz.zeroValue0
 t24:=Tryz.underlying70
 a24:=Tryz.isAgg70
 z24:=Tryz.sizeOf70
 v24:=Tryz.zeroValue70
 t26:=Tryz.underlying3
 a26:=Tryz.isAgg3
 z26:=Tryz.sizeOf3
 v26:=Tryz.zeroValue3
 t28:=Tryz.underlying130
 a28:=Tryz.isAgg130
 z28:=Tryz.sizeOf130
 v28:=Tryz.zeroValue130
 i26:=by kernel_rfl }
def sortA_ren:Ren:=⟨fun | 5=>127 | 8=>159 | 7=>158 | 19=>180 | 20=>181 | 10=>171 | 11=>172 | 12=>173 | 13=>174 | 14=>175 | 15=>176 | 16=>177 | 17=>178 | 18=>179 | 30=>182 | 31=>183 | 32=>184 | 33=>185 | 34=>186 | 35=>187 | 40=>188 | n=>n,fun | 23=>70 | 25=>3 | 3=>3 | 32=>199 | 22=>70 | 0=>0 | 44=>214 | 46=>22 | 4=>4 | 36=>208 | 35=>207 | 41=>97 | 5=>5 | 9=>9 | 53=>216 | 57=>220 | 63=>222 | 64=>110 | n=>n,fun | n=>n⟩
theorem sortA:SlLaysM.n5 Tryz.prog sortA_ren:={
 mixed:=by kernel_rfl
 f5:=⟨Tryz.f127.name,by decide,Tryz.func127.trans (congrArg some (by kernel_rfl))⟩
 f7:=⟨Tryz.f158.name,by decide,Tryz.func158.trans (congrArg some (by kernel_rfl))⟩
 f8:=Tryz.func159.trans (congrArg some (by kernel_rfl))
 f10:=⟨Tryz.f171.name,by decide,Tryz.func171.trans (congrArg some (by kernel_rfl))⟩
 f11:=⟨Tryz.f172.name,by decide,Tryz.func172.trans (congrArg some (by kernel_rfl))⟩
 f12:=⟨Tryz.f173.name,by decide,Tryz.func173.trans (congrArg some (by kernel_rfl))⟩
 f13:=⟨Tryz.f174.name,by decide,Tryz.func174.trans (congrArg some (by kernel_rfl))⟩
 f14:=⟨Tryz.f175.name,by decide,Tryz.func175.trans (congrArg some (by kernel_rfl))⟩
 f15:=⟨Tryz.f176.name,by decide,Tryz.func176.trans (congrArg some (by kernel_rfl))⟩
 f16:=⟨Tryz.f177.name,by decide,Tryz.func177.trans (congrArg some (by kernel_rfl))⟩
 f17:=⟨Tryz.f178.name,by decide,Tryz.func178.trans (congrArg some (by kernel_rfl))⟩
 f18:=⟨Tryz.f179.name,by decide,Tryz.func179.trans (congrArg some (by kernel_rfl))⟩
 f19:=Tryz.func180.trans (congrArg some (by kernel_rfl))
 f20:=Tryz.func181.trans (congrArg some (by kernel_rfl))
 f30:=⟨Tryz.f182.name,by decide,Tryz.func182.trans (congrArg some (by kernel_rfl))⟩
 f31:=Tryz.func183.trans (congrArg some (by kernel_rfl))
 f32:=Tryz.func184.trans (congrArg some (by kernel_rfl))
 f33:=⟨Tryz.f185.name,by decide,Tryz.func185.trans (congrArg some (by kernel_rfl))⟩
 f34:=⟨Tryz.f186.name,by decide,Tryz.func186.trans (congrArg some (by kernel_rfl))⟩
 f35:=⟨Tryz.f187.name,by decide,Tryz.func187.trans (congrArg some (by kernel_rfl))⟩
 f40:=⟨Tryz.f188.name,by decide,Tryz.func188.trans (congrArg some (by kernel_rfl))⟩
 t0:=Tryz.underlying0
 a0:=Tryz.isAgg0
 z0:=Tryz.sizeOf0
 v0:=Tryz.zeroValue0
 t3:=Tryz.underlying3
 a3:=Tryz.isAgg3
 z3:=Tryz.sizeOf3
 v3:=Tryz.zeroValue3
 t4:=Tryz.underlying4
 a4:=Tryz.isAgg4
 z4:=Tryz.sizeOf4
 v4:=Tryz.zeroValue4
 t5:=Tryz.underlying5
 a5:=Tryz.isAgg5
 z5:=Tryz.sizeOf5
 v5:=Tryz.zeroValue5
 t9:=Tryz.underlying9
 a9:=Tryz.isAgg9
 z9:=Tryz.sizeOf9
 v9:=Tryz.zeroValue9
 t22:=Tryz.underlying70
 a22:=Tryz.isAgg70
 z22:=Tryz.sizeOf70
 v22:=Tryz.zeroValue70
 t23:=Tryz.underlying70
 a23:=Tryz.isAgg70
 z23:=Tryz.sizeOf70
 v23:=Tryz.zeroValue70
 t25:=Tryz.underlying3
 a25:=Tryz.isAgg3
 z25:=Tryz.sizeOf3
 v25:=Tryz.zeroValue3
 t32:=Tryz.underlying199
 a32:=Tryz.isAgg199
 z32:=Tryz.sizeOf199
 v32:=Tryz.zeroValue199
 t35:=Tryz.underlying207
 a35:=Tryz.isAgg207
 z35:=Tryz.sizeOf207
 v35:=Tryz.zeroValue207
 t36:=Tryz.underlying208
 a36:=Tryz.isAgg208
 z36:=Tryz.sizeOf208
 v36:=Tryz.zeroValue208
 t41:=Tryz.underlying97
 a41:=Tryz.isAgg97
 z41:=Tryz.sizeOf97
 v41:=Tryz.zeroValue97
 t44:=Tryz.underlying214
 a44:=Tryz.isAgg214
 z44:=Tryz.sizeOf214
 v44:=Tryz.zeroValue214
 t46:=Tryz.underlying22
 a46:=Tryz.isAgg22
 z46:=Tryz.sizeOf22
 v46:=Tryz.zeroValue22
 t53:=Tryz.underlying216
 a53:=Tryz.isAgg216
 z53:=Tryz.sizeOf216
 v53:=Tryz.zeroValue216
 t57:=Tryz.underlying220
 a57:=Tryz.isAgg220
 z57:=Tryz.sizeOf220
 v57:=Tryz.zeroValue220
 t63:=Tryz.underlying222
 a63:=Tryz.isAgg222
 z63:=Tryz.sizeOf222
 v63:=Tryz.zeroValue222
 t64:=Tryz.underlying110
 a64:=Tryz.isAgg110
 z64:=Tryz.sizeOf110
 v64:=Tryz.zeroValue110 }
theorem sortsA (m:Nat):AnyZI.SortsIn Tryz.prog sortedA_ren Fence.wide m :=
 ⟨fun blk off cap ss W hH hblk hsz=>callsIn_wide.2 (AnyM.slices_Sort_int sortA blk off cap ss W hH hblk hsz),fun p cap W=>callsIn_wide.2 (AnyM.slices_Sort_int_none sortA p cap W)⟩
theorem keysC_c:KeysC Tryz.prog 78 128 122:=fun mb w=>callsIn_wide.1 (AnyZI.keys_in keysC Fence.wide 5 trivial rfl mb w)
theorem keysC_s:SortedC Tryz.prog 77 128 3:=by
 intro b0 b1 c m w hM hW hb hl hcell hlt
 obtain ⟨D0,hown,hperm,hsz⟩:=ownsMap_of Tryz.underlying3 hM hW hb (Nat.le_trans hl (by decide))
 have hseq:SeqGives Fence.wide 2 Tryz.prog 128 #[.pointer (some ⟨b1,0,none⟩)] encZ (fun ss=>ss.Perm (intKeys D0)) (Maps.size D0) w :=
  AnyZI.keys_gives (ρ:=keysC_ren) { keysC with } Fence.wide _ trivial rfl (by omega) b1 b0 m.length D0 w hlt hcell hown
 have cS:=AnyZI.sorted_in sortedA Fence.wide 5 trivial trivial trivial trivial rfl (by omega) (sortsA _) (enters_of Tryz.func127 (by kernel_rfl) rfl) 128 #[.pointer (some ⟨b1,0,none⟩)] trivial (enters_of Tryz.func128 (by kernel_rfl) rfl) _ _ (by rw [hsz]; exact Nat.le_trans hl (by decide)) (by rw [hsz]; omega) _ hseq
 change CallsIn _ _ Tryz.prog 77 _ _ _ at cS
 refine Calls.mono (callsIn_wide.1 cS) ?_
 rintro e w' ⟨v,ss,rfl,hS,hrow,hnil,hbl⟩
 have hp:ss.Perm (m.map (·.1)):=hS.trans hperm
 have hz:sortZ (m.map (·.1))=ss.mergeSort (fun x y=>decide (x≤y)):=(mergeSort_of_perm_i hp).symm
 refine ⟨v,rfl,?_,?_,hbl⟩
 ·rw [hz,List.length_mergeSort]; exact hrow
 ·rw [hnil]
  constructor
  ·rintro rfl; rw [hz]; exact List.mergeSort_nil
  ·intro h
   rw [hz] at h
   have:=congrArg List.length h
   rw [List.length_mergeSort] at this
   exact List.length_eq_zero_iff.1 this
end Go.Proofs.YtgfjgfapigekiaaGreat
end
section
namespace Go.Tum
open Go
set_option maxRecDepth 4000
def tA (G:GS) (c:Nat) (r:Nat) (w:World):Prop:=Mp (Value.int .i64) w r (G.map tE) c∧Wf (G.map tE) c
theorem tA_st {G:GS} {c b0:Nat} (w1 w2:World) (H:Nat→Prop) (h:tA G c b0 w1) (hf:Fr H w1 w2) (hn:∀ b,b=b0→¬ H b):tA G c b0 w2:=⟨h.1.fr hf (hn _ rfl),h.2⟩
theorem Tr.keysT {P:Program} {f:FuncId} {g:Nat} {t:TypeId} {G:GS} {b0 c:Nat} (hc:callable P f=true) (h:KeysC P f g t):Tr P f [.map (some 0)] [tB b0 G c] (fun v K=>∃ b1:Nat,True∧v=clo g 1∧K=[adB b0,boxB (tA G c) (·=b0) b0 b1]):=by
 intro X w0 w E vs' hA hR hv
 obtain ⟨r,hr⟩:=hR.ent (b:=0) rfl
 obtain ⟨⟨rfl,h1⟩,h2,_⟩:=hR.blk 0 _ r rfl hr
 refine ⟨hc,(keys_box (A:=tA G c) (F:=(·=r.1)) h hR hv hr h1 (fun b hb=>hb) tA_st).mono ?_⟩
 rintro v' w' ⟨b1,_,h3,h4⟩
 refine ⟨_,_,[adB r.1,boxB (tA G c) (·=r.1) r.1 w.heap.size],fun k q _ hk=>Ext.push E _ k q hk,Nat.le_succ 1,h3,?_,w.heap.size,trivial,rfl,rfl⟩
 have:=h4.upd (b:=0) (x:=adB r.1) (y:=.dead) rfl (Ext.push E _ 0 r hr) (Fr.refl _ _) ⟨rfl,h2,fun _ _ _ h _ _=>h⟩ (fun c hc=>hc.elim)
 exact this
theorem wk_unboxT {L:LH} {i j b0 b1 c:Nat} {G:GS} (hne:i≠j) (hi:L[i]?=some (adB b0)) (hj:L[j]?=some (boxB (tA G c) (·=b0) b0 b1)):∀ X w0 E w,Rep X w0 E L w→Rep X w0 E ((L.set i (tB b0 G c)).set j .dead) w:=by
 intro X w0 E w hR
 obtain ⟨r,hr⟩:=hR.ent hi
 obtain ⟨q,hq⟩:=hR.ent hj
 obtain ⟨h1,h2,_⟩:=hR.blk i _ r hi hr
 obtain ⟨⟨_,_,h3⟩,_⟩:=hR.blk j _ q hj hq
 have h1:r.1=b0:=h1
 refine hR.merge hne hi hr hj hq (Fr.refl _ _) ?_ (fun c hc=>.inr (.inl (.inr hc)))
 obtain ⟨g1,g2⟩:=h3
 exact tB_is (by rw [h1]; exact g1) g2 h1 h2
end Go.Tum
end
section
namespace Go.Proofs.YtgfjgfapigekiaaGreat
open Go Go.Tum Go.Tum.Base
set_option maxRecDepth 4000
theorem flTook_no (r:PR) (ok:r.Ok) (b0:Nat) (G:GS) (c:Nat) (rs:List Rp) (a:Int) (h:∀ p,r.liv a=some p→p.bs≠a):Tr Tryz.prog 25 [ptr 8,.int .i64 a] (FL r b0 G c rs) (fun v K=>v=.int .i64 6∧K=FL r b0 G c rs):=by
 cases hl:r.liv a with
 | none =>
  obtain ⟨pg,sl,bs,sz,st,gr,hV⟩:=flLive_no r ok b0 G c rs a hl
  refine Tr.of row_fault_Ledger_Took_ok rfl ?_
  repeat' (first|refine qN ?_|refine dN ?_|refine rT ?_|refine qT ?_|refine qU ?_|refine qL ?_|(refine cF [0,1,2,3,4,5,6,7,8,9] (hV) ?_; conv=>whnf)|refine qS ?_|exact ⟨rfl,rfl⟩|fail)
 | some p =>
  have h1:=h p hl
  obtain ⟨pg,sl,bs,sz,st,gr⟩:=p
  change bs≠a at h1
  have hV:=flLive_at r ok b0 G c rs a hl
  clear h hl
  refine Tr.of row_fault_Ledger_Took_ok rfl ?_
  repeat' (first|refine qN ?_|refine dN ?_|refine rT ?_|refine qU ?_|refine qL ?_|refine iF (fun h=>?_) (fun h=>?_)|(refine cF [0,1,2,3,4,5,6,7,8,9] (hV) ?_; conv=>whnf)|refine qS ?_|exact ⟨rfl,rfl⟩|fail)
  all_goals (exfalso; omega)
theorem flDrop_no (r:PR) (ok:r.Ok) (b0:Nat) (G:GS) (c:Nat) (rs:List Rp) (a:Int) (ha:¬ (0≤a∧a<256*(r.man:Int))):Tr Tryz.prog 24 [ptr 8,.int .i64 a] (FL r b0 G c rs) (fun v K=>v=.int .i64 3∧K=FL r b0 G c rs):=by
 have hM:=flMan_tr r ok b0 G c rs a
 rw [decide_eq_false ha] at hM
 refine Tr.of row_fault_Ledger_Dropped_ok rfl ?_
 repeat' (first|refine qN ?_|refine dN ?_|refine qB ?_|refine rT ?_|refine qT ?_|refine qU ?_|(refine cF [0,1,2,3,4,5,6,7,8,9] (hM) ?_; conv=>whnf)|refine qS ?_|exact ⟨rfl,rfl⟩|fail)
theorem flDrop_live (r:PR) (ok:r.Ok) (b0:Nat) (G:GS) (c:Nat) (rs:List Rp) (a:Int) (ha:0≤a∧a<256*(r.man:Int)) (hf:faultV r G a=0):Tr Tryz.prog 24 [ptr 8,.int .i64 a] (FL r b0 G c rs) (fun v K=>v=.int .i64 8∧K=FL r b0 G c rs):=by
 have hM:=flMan_tr r ok b0 G c rs a
 have hF:=flFault_tr r ok b0 G c rs a
 rw [decide_eq_true ha] at hM
 rw [hf] at hF
 refine Tr.of row_fault_Ledger_Dropped_ok rfl ?_
 repeat' (first|refine qN ?_|refine dN ?_|refine qB ?_|refine rT ?_|refine qT ?_|refine qU ?_|(refine cF [0,1,2,3,4,5,6,7,8,9] (hM) ?_; conv=>whnf)|(refine cF [0,1,2,3,4,5,6,7,8,9] (hF) ?_; conv=>whnf)|refine qS ?_|exact ⟨rfl,rfl⟩|fail)
theorem flNote_no (r:PR) (b0:Nat) (G:GS) (c:Nat) (rs:List Rp) (th a f:Int) (hf:f=0):Tr Tryz.prog 31 [ptr 8,.int .i64 th,.int .i64 a,.int .i64 f] (FL r b0 G c rs) (fun v K=>v=.tuple ⟨[]⟩∧K=FL r b0 G c rs):=by
 subst hf
 refine Tr.of row_fault_Ledger_Note_ok rfl ?_
 repeat' (first|refine qN ?_|refine dN ?_|refine qU ?_|refine qK ?_|fail)
 exact RetQ.end [0,1,2,3,4,5,6,7,8,9] rfl rfl rfl rfl ⟨rfl,rfl⟩
set_option maxRecDepth 20000 in
theorem flNote_tr (r:PR) (b0:Nat) (G:GS) (c:Nat) (rs:List Rp) (hr:rs.length<4096) (th a f:Int) (hf:f≠0):TrK Tryz.prog [] [0,1,2,3,4,5,6,7,8] 31 [ptr 8,.int .i64 th,.int .i64 a,.int .i64 f] (FL r b0 G c rs) (fun v K=>v=.tuple ⟨[]⟩∧K=FL r b0 G c (rs++[⟨th,a,f⟩])):=by
 refine Tr.of row_fault_Ledger_Note_ok rfl ?_
 repeat' (first|refine qN ?_|refine dN ?_|refine qU ?_|refine qK ?_|refine iF (fun h=>?_) (fun h=>?_)|refine sP 14 (fun h=>?_) (fun h=>?_)|refine qR ?_|fail)
 all_goals try (exfalso; omega)
 repeat' fail
 first|refine L_rs ?_|refine L_reg ?_ | skip
 refine eE rfl rfl (EW.appR1 (bytes:=24) (a:=(⟨th,a,f⟩:Rp)) Rp.ok rfl (by kernel_rfl) rfl rfl rfl rfl rfl (by omega)) ?_
 conv=>whnf
 repeat' (first|refine d0 ?_|fail)
 exact RetQ.end [0,1,2,3,4,5,6,7,8,11] rfl rfl rfl rfl ⟨rfl,by unfold FL; rw [List.length_append]; rfl⟩
theorem cloneR_tr (rs:List Rp) (hb:rs.length≤4096):Tr Tryz.prog 79 [slB 0 rs.length] [.gro 3 (rowsC Rp.cells rs)] (fun v K=>v=slB 1 rs.length∧K=[.gro 3 (rowsC Rp.cells rs),.gro 3 (rowsC Rp.cells rs)]):=by
 refine Tr.of row_slices_Clone_fault_Report_fault_Report__ok rfl ?_
 generalize hk:rs.length=k at *
 repeat' (first|refine qN ?_|refine dN ?_|refine qS ?_|fail)
 rcases Nat.eq_zero_or_pos k with rfl | hm
 ·obtain rfl:rs=[]:=List.length_eq_zero_iff.1 hk
  refine S_Q2 [] rfl rfl (QY.nilS2 rfl (by kernel_rfl) rfl) ?_ ?_
  ·refine S_done [] rfl (Nx.goL (L_true rfl (L_rs (S_done [] rfl (Nx.goL ?_)))))
   refine LWp.nilE 2 3 rfl ?_
   exact L_ret (RetQ.pick [0,1] rfl rfl rfl rfl ⟨rfl,rfl⟩)
  ·repeat' (first|refine qN ?_|refine dN ?_|refine qU ?_|refine qL ?_|fail)
   refine S_wk [] rfl (wk_gro0 (b:=1) 3 rfl) ?_
   first|refine L_rs ?_|refine L_reg ?_ | skip
   refine eE rfl rfl (EW.appRR (bytes:=24) (xs:=[]) (ys:=[]) Rp.ok rfl (by kernel_rfl) rfl rfl rfl rfl rfl rfl (by decide) (by omega)) ?_
   conv=>whnf
   repeat' (first|refine dN ?_|fail)
   exact L_ret (RetQ.pick [0,2] rfl rfl rfl rfl ⟨rfl,rfl⟩)
 ·refine S_Q [] rfl rfl (QY.nilS rfl (by kernel_rfl) rfl hm) ?_
  repeat' (first|refine qN ?_|refine dN ?_|refine qU ?_|refine qL ?_|fail)
  refine S_wk [] rfl (wk_gro0 (b:=1) 3 rfl) ?_
  first|refine L_rs ?_|refine L_reg ?_ | skip
  refine eE rfl rfl (EW.appRR (bytes:=24) (xs:=[]) (ys:=rs) Rp.ok rfl (by kernel_rfl) rfl rfl rfl rfl rfl hk (by decide) (by omega)) ?_
  conv=>whnf
  repeat' (first|refine dN ?_|fail)
  exact L_ret (RetQ.pick [0,2] rfl rfl rfl rfl ⟨by show Value.slice _ (0+k) (0+k)=_; rw [Nat.zero_add]; rfl,rfl⟩)
theorem flReports_tr (r:PR) (b0:Nat) (G:GS) (c:Nat) (rs:List Rp) (hr:rs.length≤4096):Tr Tryz.prog 34 [ptr 8] (FL r b0 G c rs) (fun v K=>v=slB 10 rs.length∧K=FL r b0 G c rs++[.gro 3 (rowsC Rp.cells rs)]):=by
 have hC:=cloneR_tr rs hr
 refine Tr.of row_fault_Ledger_Reports_ok rfl ?_
 repeat' (first|refine qN ?_|refine dN ?_|refine qU ?_|refine qL ?_|(refine cF [9] (hC) ?_; conv=>whnf)|refine qS ?_|fail)
 exact L_ret (RetQ.pick [0,1,2,3,4,5,6,7,8,9,10] rfl rfl rfl rfl ⟨rfl,rfl⟩)
theorem keysT_tr (b0 c:Nat) (G:GS):Tr Tryz.prog 78 [.map (some 0)] [tB b0 G c] (fun v K=>∃ b1:Nat,True∧v=clo 128 1∧K=[adB b0,boxB (tA G c) (·=b0) b0 b1]):=Tr.keysT (by kernel_rfl) keysC_c
abbrev keysZ (G:GS):List Int:=sortZ (G.map (·.1))
theorem sortedT_tr (b0 b1 c:Nat) (G:GS) (hb:∀ x∈G,(Lit.int .i64 x.1).wf=true) (hl:G.length≤1000):Tr Tryz.prog 77 [clo 128 1] [adB b0,boxB (tA G c) (·=b0) b0 b1] (fun v K=>v=slB 2 G.length∧K=[adB b0,boxB (tA G c) (·=b0) b0 b1,.gro 1 (rowsC intC (keysZ G))]):=by
 have:=Tr.sortedK (P:=Tryz.prog) (f:=77) (A:=tA G c) (F:=(·=b0)) (x:=adB b0) (b0:=b0) (b1:=b1) (c:=c) (m:=G.map tE) (by kernel_rfl) keysC_s (fun w h=>h) (fun x hx=>by
  obtain ⟨y,hy,rfl⟩:=List.mem_map.1 hx
  exact hb y hy) (by rw [List.length_map]; exact hl)
 have e1:(G.map tE).length=G.length:=List.length_map ..
 have e2:(G.map tE).map (·.1)=G.map (·.1):=by rw [List.map_map]; rfl
 rw [e1,e2] at this
 exact this
theorem flGone_tr (r:PR) (b0:Nat) (G:GS) (c:Nat) (rs:List Rp) (hb:∀ x∈G,(Lit.int .i64 x.1).wf=true) (hl:G.length≤1000):Tr Tryz.prog 33 [ptr 8] (FL r b0 G c rs) (fun v K=>v=slB 10 G.length∧K=FL r b0 G c rs++[.gro 1 (rowsC intC (keysZ G))]):=by
 have hK:=keysT_tr b0 c G
 refine Tr.of row_fault_Ledger_Gone_ok rfl ?_
 repeat' (first|refine qN ?_|refine dN ?_|refine qU ?_|refine qL ?_|refine qS ?_|fail)
 refine cX [7] hK (fun b1 _=>?_)
 conv=>whnf
 have hS:=sortedT_tr b0 b1 c G hb hl
 repeat' (first|refine dN ?_|(refine cF [7,10] (hS) ?_; conv=>whnf)|fail)
 refine LWp.wk (wk_unboxT (i:=7) (j:=10) (by decide) rfl rfl) ?_
 exact L_ret (RetQ.pick [0,1,2,3,4,5,6,7,8,9,11] rfl rfl rfl rfl ⟨rfl,rfl⟩)
end Go.Proofs.YtgfjgfapigekiaaGreat
end
section
namespace Go.Proofs.YtgfjgfapigekiaaGreat
open Go Go.Tum Go.Tum.Base Go.Deep
set_option maxRecDepth 4000
def rowsRF:List FnRow:=[row_tumbrellaw10_awake,row_region_New,row_fault_New,row_region_Region_Open,row_region_Region_Take,row_fault_Ledger_Took,row_region_Region_Drop,row_fault_Ledger_Dropped,row_fault_Ledger_Fault,row_region_Region_Give,row_arena_New,row_link_New,row_pages_New,row_large_New,row_class_Size,row_pages_Table_Map,row_slab_Make,row_region_Region_slab,row_slab_Slab_Take,row_slab_Slab_Class,row_class_Base,row_fault_Ledger_live,row_fault_end,row_region_Region_base,row_slab_Slab_Drop,row_large_Set_Drop,row_pages_Table_Unmap,row_fault_Ledger_manual,row_region_Region_Arena,row_arena_Arena_Len,row_slab_Slab_Give,row_link_mix,row_class_may,row_pages_Row_first,row_pages_Table_cut,row_pages_Table_place,row_class_Slots,row_bitset_New,row_slab_Slab_join,row_slab_Slab_follow,row_class_Slot,row_class_Room,row_arena_Arena_Fill,row_slab_Slab_canary,row_arena_Arena_SetWord,row_bitset_Set_Put,row_region_Region_Find,row_slab_Slab_must,row_slab_Slab_stands,row_slab_Slab_base,row_large_Set_stands,row_large_run,row_pages_Table_Row,row_region_Region_Config,row_pages_Table_Len,row_pages_Row_free,row_link_Code_Put,row_arena_Arena_Word,row_link_Code_Get,row_slab_Slab_State,row_arena_Arena_in,row_link_Code_Canary,row_arena_Arena_word,row_num_Put,row_bitset_Set_in,row_region_Region_place,row_pages_Table_Head,row_large_Set_Size,row_large_Set_canary,row_class_Pages,row_link_Code_mask,row_num_Get,row_bitset_Set_Len,row_bitset_Set_Has,row_slab_Slab_Page]
theorem rowsRF_ok:∀ x∈rowsRF,x.Ok Tryz.prog:=by
 refine List.forall_mem_cons.2 ⟨row_tumbrellaw10_awake_ok,?_⟩
 refine List.forall_mem_cons.2 ⟨row_region_New_ok,?_⟩
 refine List.forall_mem_cons.2 ⟨row_fault_New_ok,?_⟩
 refine List.forall_mem_cons.2 ⟨row_region_Region_Open_ok,?_⟩
 refine List.forall_mem_cons.2 ⟨row_region_Region_Take_ok,?_⟩
 refine List.forall_mem_cons.2 ⟨row_fault_Ledger_Took_ok,?_⟩
 refine List.forall_mem_cons.2 ⟨row_region_Region_Drop_ok,?_⟩
 refine List.forall_mem_cons.2 ⟨row_fault_Ledger_Dropped_ok,?_⟩
 refine List.forall_mem_cons.2 ⟨row_fault_Ledger_Fault_ok,?_⟩
 refine List.forall_mem_cons.2 ⟨row_region_Region_Give_ok,?_⟩
 refine List.forall_mem_cons.2 ⟨row_arena_New_ok,?_⟩
 refine List.forall_mem_cons.2 ⟨row_link_New_ok,?_⟩
 refine List.forall_mem_cons.2 ⟨row_pages_New_ok,?_⟩
 refine List.forall_mem_cons.2 ⟨row_large_New_ok,?_⟩
 refine List.forall_mem_cons.2 ⟨row_class_Size_ok,?_⟩
 refine List.forall_mem_cons.2 ⟨row_pages_Table_Map_ok,?_⟩
 refine List.forall_mem_cons.2 ⟨row_slab_Make_ok,?_⟩
 refine List.forall_mem_cons.2 ⟨row_region_Region_slab_ok,?_⟩
 refine List.forall_mem_cons.2 ⟨row_slab_Slab_Take_ok,?_⟩
 refine List.forall_mem_cons.2 ⟨row_slab_Slab_Class_ok,?_⟩
 refine List.forall_mem_cons.2 ⟨row_class_Base_ok,?_⟩
 refine List.forall_mem_cons.2 ⟨row_fault_Ledger_live_ok,?_⟩
 refine List.forall_mem_cons.2 ⟨row_fault_end_ok,?_⟩
 refine List.forall_mem_cons.2 ⟨row_region_Region_base_ok,?_⟩
 refine List.forall_mem_cons.2 ⟨row_slab_Slab_Drop_ok,?_⟩
 refine List.forall_mem_cons.2 ⟨row_large_Set_Drop_ok,?_⟩
 refine List.forall_mem_cons.2 ⟨row_pages_Table_Unmap_ok,?_⟩
 refine List.forall_mem_cons.2 ⟨row_fault_Ledger_manual_ok,?_⟩
 refine List.forall_mem_cons.2 ⟨row_region_Region_Arena_ok,?_⟩
 refine List.forall_mem_cons.2 ⟨row_arena_Arena_Len_ok,?_⟩
 refine List.forall_mem_cons.2 ⟨row_slab_Slab_Give_ok,?_⟩
 refine List.forall_mem_cons.2 ⟨row_link_mix_ok,?_⟩
 refine List.forall_mem_cons.2 ⟨row_class_may_ok,?_⟩
 refine List.forall_mem_cons.2 ⟨row_pages_Row_first_ok,?_⟩
 refine List.forall_mem_cons.2 ⟨row_pages_Table_cut_ok,?_⟩
 refine List.forall_mem_cons.2 ⟨row_pages_Table_place_ok,?_⟩
 refine List.forall_mem_cons.2 ⟨row_class_Slots_ok,?_⟩
 refine List.forall_mem_cons.2 ⟨row_bitset_New_ok,?_⟩
 refine List.forall_mem_cons.2 ⟨row_slab_Slab_join_ok,?_⟩
 refine List.forall_mem_cons.2 ⟨row_slab_Slab_follow_ok,?_⟩
 refine List.forall_mem_cons.2 ⟨row_class_Slot_ok,?_⟩
 refine List.forall_mem_cons.2 ⟨row_class_Room_ok,?_⟩
 refine List.forall_mem_cons.2 ⟨row_arena_Arena_Fill_ok,?_⟩
 refine List.forall_mem_cons.2 ⟨row_slab_Slab_canary_ok,?_⟩
 refine List.forall_mem_cons.2 ⟨row_arena_Arena_SetWord_ok,?_⟩
 refine List.forall_mem_cons.2 ⟨row_bitset_Set_Put_ok,?_⟩
 refine List.forall_mem_cons.2 ⟨row_region_Region_Find_ok,?_⟩
 refine List.forall_mem_cons.2 ⟨row_slab_Slab_must_ok,?_⟩
 refine List.forall_mem_cons.2 ⟨row_slab_Slab_stands_ok,?_⟩
 refine List.forall_mem_cons.2 ⟨row_slab_Slab_base_ok,?_⟩
 refine List.forall_mem_cons.2 ⟨row_large_Set_stands_ok,?_⟩
 refine List.forall_mem_cons.2 ⟨row_large_run_ok,?_⟩
 refine List.forall_mem_cons.2 ⟨row_pages_Table_Row_ok,?_⟩
 refine List.forall_mem_cons.2 ⟨row_region_Region_Config_ok,?_⟩
 refine List.forall_mem_cons.2 ⟨row_pages_Table_Len_ok,?_⟩
 refine List.forall_mem_cons.2 ⟨row_pages_Row_free_ok,?_⟩
 refine List.forall_mem_cons.2 ⟨row_link_Code_Put_ok,?_⟩
 refine List.forall_mem_cons.2 ⟨row_arena_Arena_Word_ok,?_⟩
 refine List.forall_mem_cons.2 ⟨row_link_Code_Get_ok,?_⟩
 refine List.forall_mem_cons.2 ⟨row_slab_Slab_State_ok,?_⟩
 refine List.forall_mem_cons.2 ⟨row_arena_Arena_in_ok,?_⟩
 refine List.forall_mem_cons.2 ⟨row_link_Code_Canary_ok,?_⟩
 refine List.forall_mem_cons.2 ⟨row_arena_Arena_word_ok,?_⟩
 refine List.forall_mem_cons.2 ⟨row_num_Put_ok,?_⟩
 refine List.forall_mem_cons.2 ⟨row_bitset_Set_in_ok,?_⟩
 refine List.forall_mem_cons.2 ⟨row_region_Region_place_ok,?_⟩
 refine List.forall_mem_cons.2 ⟨row_pages_Table_Head_ok,?_⟩
 refine List.forall_mem_cons.2 ⟨row_large_Set_Size_ok,?_⟩
 refine List.forall_mem_cons.2 ⟨row_large_Set_canary_ok,?_⟩
 refine List.forall_mem_cons.2 ⟨row_class_Pages_ok,?_⟩
 refine List.forall_mem_cons.2 ⟨row_link_Code_mask_ok,?_⟩
 refine List.forall_mem_cons.2 ⟨row_num_Get_ok,?_⟩
 refine List.forall_mem_cons.2 ⟨row_bitset_Set_Len_ok,?_⟩
 refine List.forall_mem_cons.2 ⟨row_bitset_Set_Has_ok,?_⟩
 refine List.forall_mem_cons.2 ⟨row_slab_Slab_Page_ok,?_⟩
 exact fun x hx=>by cases hx
set_option maxRecDepth 20000 in
theorem awake10_tr:Tr Tryz.prog 27 [] [] (fun v K=>v=.bool true∧K=[]) :=
 Tr.closed (by kernel_rfl) rfl rfl fun w=>closed_call (vs:=[]) (fuel:=5000) rowsRF_ok (rawQ1_ok _) (rawE2_ok _) rfl rfl rfl (by kernel_rfl) w
end Go.Proofs.YtgfjgfapigekiaaGreat
end
section
namespace Go.Proofs.YtgfjgfapigekiaaGreat
open Go Go.Tum Go.Tum.Base Go.Deep
set_option maxRecDepth 4000
def OPIn9 (N:Nat) (F:Nat→List AV) (r:Nat→OP) (own:Nat→Int) (xs:Nat→Nat→BitVec 8):Prop:=∀ i,i<N→(∃ G:Nat→List AV,F i=[.v (.int .i64 (r i).kind),.v (.int .i64 (r i).cls),.v (.int .i64 (r i).ow),.v (.int .i64 (r i).page),.v (.int .i64 (r i).at_),.v (.int .i64 (r i).n),.v (.bool (r i).base),.s ⟨(r i).b,(r i).o,none⟩ (r i).m (r i).c ((r i).m*1) (rowF 1 G),.v (.int .i64 (own i))]∧∀ j,j<(r i).m→G j=[.v (.int .u8 ((xs i) j).toNat)])∧(r i).m≤(r i).c ∧ -9223372036854775808≤(r i).at_∧(r i).at_<9223372036854775808
theorem BIn9.of {N:Nat} {F:Nat→List AV} {r:Nat→OP} {own:Nat→Int} {xs:Nat→Nat→BitVec 8} (h:OPIn9 N F r own xs) {i:Nat} (hi:i<N) (m:Nat) (hm:m≤(r i).m):BIn9 N F ((r i).bytes m (xs i)):=by
 obtain ⟨⟨G,h1,h3⟩,h2,_⟩:=h i hi
 intro n0 k hA
 refine ⟨by simp [OP.bytes],(r i).m,(r i).c,G,hm,NA.Has.row (j:=7) hA hi (by rw [h1]; rfl) (by rw [h1]; rfl),fun j x hx=>?_⟩
 have hj:=(List.getElem?_eq_some_iff.1 hx).1
 simp only [OP.bytes,List.length_map,List.length_range] at hj
 rw [h3 j (by omega)]
 simp only [OP.bytes,List.getElem?_map,List.getElem?_range hj,Option.map_some,Option.some.injEq] at hx
 rw [hx]
theorem ldOP9 {n0:NA} {L:LH} {l:Env} {x:Operand} {i N k:Nat} {F:Nat→List AV} {z:Nat × Nat × (Nat→AV)} {r:OP} {own:Int} {G:Nat→List AV} (hx:lv l x=some (.pointer (some ⟨k,i*9,none⟩))) (hA:n0.A=[(k,N*9,rowF 9 F),z]) (hi:i<N) (e:F i=[.v (.int .i64 r.kind),.v (.int .i64 r.cls),.v (.int .i64 r.ow),.v (.int .i64 r.page),.v (.int .i64 r.at_),.v (.int .i64 r.n),.v (.bool r.base),.s ⟨r.b,r.o,none⟩ r.m r.c (r.m*1) (rowF 1 G),.v (.int .i64 own)]) :
  QY Tryz.prog n0 L l (.ldn x 9) (.agg ⟨OV r r.m++[.int .i64 own]⟩):=by
 have:=QY.rowF (P:=Tryz.prog) (n0:=n0) (L:=L) (l:=l) (sz:=9) (n:=N) (j:=0) (F:=F) i hx (by rw [hA]; rfl) rfl hi (by rw [e]; rfl) (by rw [e]; rfl)
 rw [e] at this; exact this
theorem ldInt {n0:NA} {L:LH} {l:Env} {x:Operand} {i n k:Nat} {f:Nat→List Value} {nx:Nat→Int} {z:Nat × Nat × (Nat→AV)} (hx:lv l x=some (.pointer (some ⟨k,i*1,none⟩))) (hA:n0.A=[z,(k,n*1,rowG 1 f)]) (hi:i<n) (e:f i=[.int .i64 (nx i)]):QY Tryz.prog n0 L l (.ld x) (.int .i64 (nx i)):=by
 refine QY.ldA (j:=1) (m:=n*1) (get:=rowG 1 f) hx (by rw [hA]; rfl) (by omega) ?_ rfl
 unfold rowG
 rw [Nat.mul_one,Nat.div_one,Nat.mod_one,e]
 rfl
abbrev opK10:List CN:=[.c (some .i64),.c (some .i64),.c (some .i64),.c (some .i64),.c (some .i64),.c (some .i64),.c none,.s [.c (some .u8)],.c (some .i64)]
theorem op10_in {L:List AV} (hl:L.length=9) (h:∀ (j:Nat) (k:CN),opK10[j]?=some k→∃ a,L[j]?=some a∧CnOk 6 k a):∃ r:OP × Int × (Nat→BitVec 8),(∃ G:Nat→List AV,L=[.v (.int .i64 r.1.kind),.v (.int .i64 r.1.cls),.v (.int .i64 r.1.ow),.v (.int .i64 r.1.page),.v (.int .i64 r.1.at_),.v (.int .i64 r.1.n),.v (.bool r.1.base),.s ⟨r.1.b,r.1.o,none⟩ r.1.m r.1.c (r.1.m*1) (rowF 1 G),.v (.int .i64 r.2.1)]∧∀ j,j<r.1.m→G j=[.v (.int .u8 (r.2.2 j).toNat)])∧r.1.m≤r.1.c ∧ -9223372036854775808≤r.1.at_∧r.1.at_<9223372036854775808:=by
 obtain ⟨a0,h0,v0,rfl,x0,rfl,_⟩:=h 0 _ rfl
 obtain ⟨a1,h1,v1,rfl,x1,rfl,_⟩:=h 1 _ rfl
 obtain ⟨a2,h2,v2,rfl,x2,rfl,_⟩:=h 2 _ rfl
 obtain ⟨a3,h3,v3,rfl,x3,rfl,_⟩:=h 3 _ rfl
 obtain ⟨a4,h4,v4,rfl,x4,rfl,w4⟩:=h 4 _ rfl
 obtain ⟨a5,h5,v5,rfl,x5,rfl,_⟩:=h 5 _ rfl
 obtain ⟨a6,h6,v6,rfl,x6,rfl⟩:=h 6 _ rfl
 obtain ⟨a7,h7,b,o,n,c,F,rfl,hnc,_,hF⟩:=h 7 _ rfl
 obtain ⟨a8,h8,v8,rfl,x8,rfl,_⟩:=h 8 _ rfl
 have hx:∀ i,i<n→∃ x:BitVec 8,F i=[.v (.int .u8 x.toNat)]:=fun i hi=>by
  obtain ⟨g1,g2⟩:=hF i hi
  obtain ⟨a',g3,v',rfl,x,rfl,hw⟩:=g2 0 _ rfl
  obtain ⟨z,rfl⟩:∃ z:BitVec 8,x=(z.toNat:Int):=⟨BitVec.ofNat 8 x.toNat,by have:=Go.bounds_u8 hw; rw [BitVec.toNat_ofNat,Nat.mod_eq_of_lt (by omega)]; omega⟩
  refine ⟨z,?_⟩
  match hq:F i,g1,g3 with
  | [y],_,g3 =>
   simp at g3; rw [g3]
 obtain ⟨xs,hxs⟩:=choose_lt hx
 refine ⟨(⟨x0,x1,x2,x3,x4,x5,x6,b,o,n,c⟩,x8,xs),⟨F,?_,hxs⟩,hnc,?_⟩
 ·match hq:L,hl,h0,h1,h2,h3,h4,h5,h6,h7,h8 with
  | [y0,y1,y2,y3,y4,y5,y6,y7,y8],_,h0,h1,h2,h3,h4,h5,h6,h7,h8 =>
   simp at h0 h1 h2 h3 h4 h5 h6 h7 h8
   simp only [h0,h1,h2,h3,h4,h5,h6,h7,h8,Nat.mul_one]
 ·have:=Go.bounds_i64 w4
  simp only
  omega
theorem ops10_in {n:Nat} {F:Nat→List AV} (hf:∀ i,i<n→(F i).length=9∧∀ (j:Nat) (k:CN),opK10[j]?=some k→∃ a,(F i)[j]?=some a∧CnOk 6 k a):∃ r own xs,OPIn9 n F r own xs:=by
 haveI:Inhabited (OP × Int × (Nat→BitVec 8)):=⟨(default,0,fun _=>0)⟩
 obtain ⟨r,hr⟩:=choose_lt (n:=n) fun i hi=>op10_in (hf i hi).1 (hf i hi).2
 exact ⟨fun i=>(r i).1,fun i=>(r i).2.1,fun i=>(r i).2.2,hr⟩
end Go.Proofs.YtgfjgfapigekiaaGreat
namespace Go.Tum.Base
open Go Go.Tum Go.Proofs.YtgfjgfapigekiaaGreat
def gonel (G:GS) (n:Nat):List Int:=((List.range n).filter fun k:Nat=>thas G (k:Int)).map fun k:Nat=>(k:Int)
theorem gonel_succ (G:GS) (n:Nat):gonel G (n+1)=gonel G n++(bif thas G (n:Int) then [(n:Int)] else []):=by
 unfold gonel
 rw [List.range_succ,List.filter_append,List.map_append]
 congr 1
 cases h:thas G (n:Int) <;> simp [h]
theorem gonel_len (G:GS) (n:Nat):(gonel G n).length≤n:=by
 unfold gonel
 rw [List.length_map]
 exact Nat.le_trans (List.length_filter_le ..) (by rw [List.length_range]; exact Nat.le_refl _)
theorem keysZ_eq {G:GS} {c N:Nat} (hg:GSOk G c) (hb:∀ k,thas G k=true→0≤k∧k<(N:Int)):keysZ G=gonel G N:=by
 have hp:(sortZ (G.map (·.1))).Perm (G.map (·.1)):=List.mergeSort_perm ..
 have hs:(sortZ (G.map (·.1))).Pairwise (fun a b=>decide (a≤b)=true):=List.pairwise_mergeSort (fun a b c=>by simp only [decide_eq_true_eq]; omega) (fun a b=>by simp only [Bool.or_eq_true,decide_eq_true_eq]; omega) _
 have hq:(gonel G N).Pairwise (fun a b=>decide (a≤b)=true):=by
  unfold gonel
  rw [List.pairwise_map]
  refine List.Pairwise.imp ?_ ((List.pairwise_lt_range).sublist List.filter_sublist)
  intro a b h
  simp only [decide_eq_true_eq]; omega
 have n2:(gonel G N).Nodup:=by
  unfold gonel
  rw [List.Nodup,List.pairwise_map]
  refine List.Pairwise.imp ?_ ((List.pairwise_lt_range).sublist List.filter_sublist)
  intro a b h; omega
 refine (hp.trans ((List.perm_ext_iff_of_nodup hg.keys n2).2 fun a=>?_)).eq_of_pairwise (le:=fun a b:Int=>decide (a≤b)=true) (fun a b _ _ h1 h2=>?_) hs hq
 ·unfold gonel
  simp only [List.mem_map,List.mem_filter,List.mem_range]
  constructor
  ·rintro ⟨x,hx,rfl⟩
   have ht:thas G x.1=true:=thas_iff.2 ⟨x.2,hx⟩
   have:=hb _ ht
   exact ⟨x.1.toNat,⟨by omega,by rw [Int.toNat_of_nonneg this.1]; exact ht⟩,Int.toNat_of_nonneg this.1⟩
  ·rintro ⟨k,⟨_,ht⟩,rfl⟩
   obtain ⟨b,h⟩:=thas_iff.1 ht
   exact ⟨_,h,rfl⟩
 ·simp only [decide_eq_true_eq] at h1 h2; omega
end Go.Tum.Base
end
section
namespace Go.Proofs.YtgfjgfapigekiaaGreat
open Go Go.Tum Go.Tum.Base Go.Deep
set_option maxRecDepth 4000
def ZP (r:PR) (d:DR) (N b0:Nat) (G:GS) (c:Nat) (rs:List Rp):LH:=PZ r d++[tB b0 G c,.cells 0 [ptr 3,.map (some 17),slB 19 rs.length],.gro 3 (rowsC Rp.cells rs),.gro 1 (rowsC boolC (wasC N G 0 0)),.cells 0 [ptr 10,slB 20 N],.gro 3 (rowsC Rp.cells rs)]
structure GI (m:Nat) (G:GS) (c i:Nat):Prop where
 gok:GSOk G c
 man:∀ k,thas G k=true→0≤k∧k<256*(m:Int)
 len:G.length≤i
theorem GI.up {m:Nat} {G:GS} {c i:Nat} (h:GI m G c i):GI m G c (i+1):=⟨h.gok,h.man,by have:=h.len; omega⟩
theorem GI.put {m:Nat} {G:GS} {c i:Nat} (h:GI m G c i) {a:Int} (ha:0≤a∧a<256*(m:Int)):GI m (tput G a c).1 (tput G a c).2 (i+1):=by
 refine ⟨h.gok.tput a,fun k hk=>?_,?_⟩
 ·rw [thas_tput,Bool.or_eq_true,decide_eq_true_eq] at hk
  rcases hk with hk | rfl
  ·exact h.man k hk
  ·exact ha
 ·have:=h.len
  unfold tput
  cases thas G a
  ·simp; omega
  ·simp; omega
theorem GI.cut {m:Nat} {G:GS} {c i:Nat} (h:GI m G c i) (p:Int→Bool):GI m (G.filter fun x => !p x.1) c (i+1):=by
 refine ⟨h.gok.filter _,fun k hk=>?_,?_⟩
 ·rw [thas_filter,Bool.and_eq_true] at hk
  exact h.man k hk.1
 ·have:=h.len
  have:=List.length_filter_le (fun x:Int × Nat => !p x.1) G
  omega
theorem L_mb {P:Program} {n0:NA} {a:MC} {i:Nat} {Q:Exit→Env→LH→Prop} {K':Env→LH→Prop} {l:Env} {L:LH} (K:Env→LH→Prop) (ha:LWp P n0 a (blkL i (thenL (Nx n0 K) Q)) l L) (hb:∀ l L,K l L→K' l L):LWp P n0 a (blkL i (thenL (Nx n0 K') Q)) l L:=by
 refine ha.mono fun e l L h=>?_
 cases e with
 | normal=>exact Nx.mono h hb
 | ret=>exact h
 | exit j =>
  by_cases hj:j=i
  ·subst hj
   simp only [blkL,if_true] at h ⊢
   exact Nx.mono h hb
  ·simp only [blkL,if_neg hj] at h ⊢
   exact h
 | goto i=>exact h
 | panic c=>exact h
 | outgrown=>exact h
set_option maxHeartbeats 8000000 in
theorem FaultPlays_tr (mn gn:Int) (hmn:0≤mn∧mn<256) (hgn:0≤gn∧gn<256) (nb:Nat) (hnb:nb≤9223372036854775807) (F:Nat→List AV) (op:Nat→OP) (own:Nat→Int) (xs:Nat→Nat→BitVec 8) (hop:OPIn9 nb F op own xs) (na:Nat) (hna:na≤9223372036854775807) (f:Nat→List Value) (nx:Nat→Int) (hnx:∀ i,i<na→f i=[.int .i64 (nx i)]) :
  TrK Tryz.prog [(0,nb*9,rowF 9 F),(1,na*1,rowG 1 f)] [0,1] 7 [.int .u8 mn,.int .u8 gn,slB 0 nb,slB 1 na] [.dead,.dead] (fun v _=>v=.bool true):=by
 obtain ⟨m,hm⟩:∃ m:Nat,mn % 7=m:=⟨(mn % 7).toNat,by omega⟩
 obtain ⟨g0,hg0⟩:∃ g0:Nat,gn % 3=g0:=⟨(gn % 3).toNat,by omega⟩
 have hMk:=Make_tr m (1+g0) 3#64 (by omega) (by omega)
 have hAw:=awake10_tr
 obtain ⟨N,hN⟩:∃ N:Nat,N=256*(m+(1+g0)):=⟨_,rfl⟩
 refine Tr.of row_tumbrellaw10_FaultPlays_ok rfl ?_
 repeat' (first|refine qN ?_|refine dN ?_|refine S_Q [] rfl rfl (QY.cvi (m:=mn) rfl (wrap64_id (by omega) (by omega))) ?_|refine S_Q [] rfl rfl (QY.cvi (m:=gn) rfl (wrap64_id (by omega) (by omega))) ?_|refine S_Q [] rfl rfl (QY.remN (c:=m) rfl rfl hm (by omega) (by omega)) ?_|refine S_Q [] rfl rfl (QY.remN (c:=g0) rfl rfl hg0 (by omega) (by omega)) ?_|refine S_Q [] rfl rfl (QY.add (c:=((1+g0:Nat):Int)) rfl rfl (by omega) (by omega) (by omega)) ?_|fail)
 refine cX (ι:=PR × DR) (C:=fun j=>j.1.Ok∧Tie j.1 j.2∧j.1.sl=[]∧j.1.G=[]∧j.1.man=m∧j.1.mgd=1+g0∧j.1.seed=3#64) (V:=fun _=>ptr 0) (B:=fun j=>PX j.1 j.2) [] hMk (fun j hj=>?_)
 conv=>whnf
 obtain ⟨r,d⟩:=j
 obtain ⟨ok,tie,j1,j2,hrm,hrg,j3⟩:=hj
 have hrN:r.N=N:=by rw [hN,← hrm]; unfold PR.N; rw [hrg]
 have hdN:d.N=N:=by rw [← hrN]; unfold DR.N PR.N; rw [tie.n]
 have hNw:=flNew_tr r
 have hNd:=dlNew_tr d (by omega)
 repeat' (first|refine qN ?_|refine dN ?_|refine qU ?_|refine qL ?_|refine qS ?_|fail)
 refine cX (ι:=Nat) (C:=fun _=>True) (V:=fun _=>ptr 8) (B:=fun b0=>FL r b0 [] 0 []) [3,4,5,6,7,8,9] hNw (fun b0 _=>?_)
 conv=>whnf
 first|refine L_rs ?_|refine L_reg ?_ | skip
 refine cF [10,11,12,13,14,15,16] (hNd) ?_
 conv=>whnf
 repeat' (first|refine qN ?_|refine dN ?_|refine qS ?_|fail)
 refine LWp.nilE 12 3 rfl ?_
 refine L_mid (fun l L=>∃ (r:PR) (d:DR) (G:GS) (c:Nat) (rs:List Rp),r.Ok∧Tie r d∧r.N=N∧r.man=m∧GI m G c 30∧rs.length≤30∧l=[(3,slB 1 na),(9,ptr 2),(10,ptr 18),(11,ptr 21),(12,slB 22 rs.length)]∧L=ZP r d N b0 G c rs) ?_ ?_
 ·refine L_block (LWp.pick [3,9,10,11,12,44,45,46] [0,1,2,3,4,5,6,7,8,9,10,11,12,13,14,15,16,17,18,19,20,21,22] rfl rfl rfl (L_loop (fun q l L=>∃ (i:Nat) (r:PR) (d:DR) (G:GS) (c:Nat) (rs:List Rp),q=nb-i∧i≤nb∧i≤30∧r.Ok∧Tie r d∧r.man=m∧r.mgd=1+g0∧GI m G c i∧rs.length≤i∧l=[(3,slB 1 na),(9,ptr 2),(10,ptr 18),(11,ptr 21),(12,slB 22 rs.length),(44,slB 0 nb),(45,.int .i64 nb),(46,.int .i64 i)]∧L=ZP r d N b0 G c rs) nb ⟨0,r,d,[],0,[],rfl,by omega,by omega,ok,tie,hrm,hrg,⟨.nil,fun k h=>(by cases h),Nat.le_refl _⟩,Nat.le_refl _,rfl,by rw [← hdN]; rfl⟩ ?_))
  clear hrN hdN hNw hNd ok tie hrm hrg j1 j2 j3 r d hMk
  rintro q _ _ ⟨i,r,d,G,c,rs,rfl,hi,hi30,ok,tie,hrm,hrg,hgi,hrs,rfl,rfl⟩
  have hrN:r.N=N:=by rw [hN,← hrm]; unfold PR.N; rw [hrg]
  first|refine L_seq (L_rs (S_done [] rfl (Nx.goL (iF (fun h=>L_skip (Nx.goL ?_)) (fun h=>L_exit ?_)))))|refine L_rs (S_done [] rfl (Nx.goL (L_seq (iF (fun h=>L_skip (Nx.goL ?_)) (fun h=>L_exit ?_)))))
  ·refine L_seq (L_block ?_)
   have hin:i<nb:=by omega
   have hB:=BIn9.of hop hin
   obtain ⟨⟨Gx,e,_⟩,hmc,hat0,hat⟩:=hop i hin
   refine L_cut (fun l L=>l=[(3,slB 1 na),(9,ptr 2),(10,ptr 18),(11,ptr 21),(12,slB 22 rs.length),(13,.int .i64 i),(14,ptr 23),(44,slB 0 nb),(45,.int .i64 nb),(46,.int .i64 i)]∧L=ZP r d N b0 G c rs++[.cells 0 (OV (op i) (op i).m++[.int .i64 (own i)])]) ?_ ?_
   ·repeat' (first|refine d0 ?_|refine aX ?_|refine S_Q [] rfl rfl (ldOP9 rfl rfl hin e) ?_|refine qR ?_|fail)
    exact Nx.pick [3,9,10,11,12,13,14,44,45,46] [0,1,2,3,4,5,6,7,8,9,10,11,12,13,14,15,16,17,18,19,20,21,22,23] rfl rfl rfl ⟨rfl,rfl⟩
   rintro _ _ ⟨rfl,rfl⟩
   generalize op i=o at *
   generalize own i=ow at *
   generalize xs i=xb at *
   clear e
   refine L_cut (fun l L=>i<30∧l=[(3,slB 1 na),(9,ptr 2),(10,ptr 18),(11,ptr 21),(12,slB 22 rs.length),(14,ptr 23),(44,slB 0 nb),(45,.int .i64 nb),(46,.int .i64 i)]∧L=ZP r d N b0 G c rs++[.cells 0 (OV o o.m++[.int .i64 ow])]) ?_ ?_
   ·repeat' (first|refine qN ?_|refine dN ?_|refine qK ?_|refine qE ?_|refine iF (fun h=>?_) (fun h=>?_)|fail)
    ·exact Nx.pick [3,9,10,11,12] [0,1,2,3,4,5,6,7,8,9,10,11,12,13,14,15,16,17,18,19,20,21,22] rfl rfl rfl ⟨r,d,G,c,rs,ok,tie,hrN,hrm,⟨hgi.gok,hgi.man,by have:=hgi.len; omega⟩,by omega,rfl,rfl⟩
    ·exact Nx.pick [3,9,10,11,12,14,44,45,46] [0,1,2,3,4,5,6,7,8,9,10,11,12,13,14,15,16,17,18,19,20,21,22,23] rfl rfl rfl ⟨by omega,rfl,rfl⟩
   rintro _ _ ⟨h30,rfl,rfl⟩
   refine L_cut (fun l L=>l=[(3,slB 1 na),(9,ptr 2),(10,ptr 18),(11,ptr 21),(12,slB 22 rs.length),(14,ptr 23),(44,slB 0 nb),(45,.int .i64 nb),(46,.int .i64 i),(54,.int .i64 ow)]∧L=ZP r d N b0 G c rs++[.cells 0 (OV o o.m++[.int .i64 ow])]) ?_ ?_
   ·repeat' (first|refine d0 ?_|refine qR ?_|fail)
    exact Nx.pick [3,9,10,11,12,14,44,45,46,54] [0,1,2,3,4,5,6,7,8,9,10,11,12,13,14,15,16,17,18,19,20,21,22,23] rfl rfl rfl ⟨rfl,rfl⟩
   rintro _ _ ⟨rfl,rfl⟩
   refine L_mb (fun l L=>∃ (r:PR) (d:DR) (G:GS) (c:Nat) (rs:List Rp),r.Ok∧Tie r d∧r.man=m∧r.mgd=1+g0∧GI m G c (i+1)∧rs.length≤i+1∧l=[(3,slB 1 na),(9,ptr 2),(10,ptr 18),(11,ptr 21),(12,slB 22 rs.length),(44,slB 0 nb),(45,.int .i64 nb),(46,.int .i64 i)]∧L=ZP r d N b0 G c rs) (L_block ?_) ?_
   ·by_cases o1:ow=1
    ·subst o1
     by_cases hp:∃ p∈r.live,p.bs=o.at_
     ·obtain ⟨p,hp,e⟩:=hp
      have h1:=flTook_tr r ok b0 G c rs hp
      have h2:=dlTook_tr r d ok tie N hrN G hp
      rw [e] at h1 h2
      repeat' (first|refine qN ?_|refine dN ?_|refine qT ?_|refine qU ?_|refine qK ?_|(refine cF [3,4,5,6,7,8,9,17,18,19] (h1) ?_; conv=>whnf)|(refine cF [10,11,12,13,14,15,16,20,21] (h2) ?_; conv=>whnf)|fail)
      all_goals first | (exfalso; omega)|exact Nx.pick [3,9,10,11,12,44,45,46] [0,1,2,3,4,5,6,7,8,9,10,11,12,13,14,15,16,17,18,19,20,21,22] rfl rfl rfl ⟨r,d,_,c,rs,ok,tie,hrm,hrg,hgi.cut (fun x=>decide (o.at_≤x∧x<endP p)),by omega,rfl,rfl⟩
     ·have hn:∀ p,r.liv o.at_=some p→p.bs≠o.at_:=fun p h e=>hp ⟨p,live_liv ok h,e⟩
      have h1:=flTook_no r ok b0 G c rs o.at_ hn
      have h2:=dlTook_no r d ok tie N G o.at_ hn
      repeat' (first|refine qN ?_|refine dN ?_|refine qT ?_|refine qU ?_|refine qK ?_|(refine cF [3,4,5,6,7,8,9,17,18,19] (h1) ?_; conv=>whnf)|(refine cF [10,11,12,13,14,15,16,20,21] (h2) ?_; conv=>whnf)|fail)
      all_goals first | (exfalso; omega)|exact Nx.pick [3,9,10,11,12,44,45,46] [0,1,2,3,4,5,6,7,8,9,10,11,12,13,14,15,16,17,18,19,20,21,22] rfl rfl rfl ⟨r,d,G,c,rs,ok,tie,hrm,hrg,hgi.up,by omega,rfl,rfl⟩
    by_cases o2:ow=2
    ·subst o2
     by_cases ha:0≤o.at_∧o.at_<256*(r.man:Int)
     ·by_cases hf:faultV r G o.at_=0
      ·have h1:=flDrop_live r ok b0 G c rs o.at_ ha hf
       have h2:=dlDrop_live r d ok tie N hrN G o.at_ ha hf
       repeat' (first|refine qN ?_|refine dN ?_|refine qT ?_|refine qU ?_|refine qK ?_|(refine cF [3,4,5,6,7,8,9,17,18,19] (h1) ?_; conv=>whnf)|(refine cF [10,11,12,13,14,15,16,20,21] (h2) ?_; conv=>whnf)|fail)
       all_goals first | (exfalso; omega)|exact Nx.pick [3,9,10,11,12,44,45,46] [0,1,2,3,4,5,6,7,8,9,10,11,12,13,14,15,16,17,18,19,20,21,22] rfl rfl rfl ⟨r,d,G,c,rs,ok,tie,hrm,hrg,hgi.up,by omega,rfl,rfl⟩
      ·have h1:=flDrop_tr r ok b0 G c rs o.at_ ha hf
       have h2:=dlDrop_tr r d ok tie N hrN G c o.at_ ha hf
       repeat' (first|refine qN ?_|refine dN ?_|refine qT ?_|refine qU ?_|refine qK ?_|(refine cF [3,4,5,6,7,8,9,17,18,19] (h1) ?_; conv=>whnf)|(refine cF [10,11,12,13,14,15,16,20,21] (h2) ?_; conv=>whnf)|fail)
       all_goals first | (exfalso; omega)|exact Nx.pick [3,9,10,11,12,44,45,46] [0,1,2,3,4,5,6,7,8,9,10,11,12,13,14,15,16,17,18,19,20,21,22] rfl rfl rfl ⟨r,d,_,_,rs,ok,tie,hrm,hrg,hgi.put (by rw [← hrm]; exact ha),by omega,rfl,rfl⟩
     ·have h1:=flDrop_no r ok b0 G c rs o.at_ ha
      have h2:=dlDrop_no r d ok tie N G o.at_ ha
      repeat' (first|refine qN ?_|refine dN ?_|refine qT ?_|refine qU ?_|refine qK ?_|(refine cF [3,4,5,6,7,8,9,17,18,19] (h1) ?_; conv=>whnf)|(refine cF [10,11,12,13,14,15,16,20,21] (h2) ?_; conv=>whnf)|fail)
      all_goals first | (exfalso; omega)|exact Nx.pick [3,9,10,11,12,44,45,46] [0,1,2,3,4,5,6,7,8,9,10,11,12,13,14,15,16,17,18,19,20,21,22] rfl rfl rfl ⟨r,d,G,c,rs,ok,tie,hrm,hrg,hgi.up,by omega,rfl,rfl⟩
    by_cases o3:ow=3
    ·subst o3
     by_cases h0:o.n=0
     ·have h1:=flNote_no r b0 G c rs o.ow o.at_ o.n h0
      repeat' (first|refine qN ?_|refine dN ?_|refine qT ?_|refine qU ?_|refine qK ?_|refine iF (fun h=>?_) (fun h=>?_)|(refine cF [3,4,5,6,7,8,9,17,18,19] (h1) ?_; conv=>whnf)|refine qR ?_|fail)
      all_goals first | (exfalso; omega)|exact Nx.pick [3,9,10,11,12,44,45,46] [0,1,2,3,4,5,6,7,8,9,10,11,12,13,14,15,16,17,18,19,20,21,22] rfl rfl rfl ⟨r,d,G,c,rs,ok,tie,hrm,hrg,hgi.up,by omega,rfl,rfl⟩
     ·have h1:=flNote_tr r b0 G c rs (by omega) o.ow o.at_ o.n h0
      repeat' (first|refine qN ?_|refine dN ?_|refine qT ?_|refine qU ?_|refine qK ?_|refine iF (fun h=>?_) (fun h=>?_)|(refine cW [3,4,5,6,7,8,9,17,18,19] (h1) ?_; conv=>whnf)|refine qR ?_|fail)
      all_goals try (exfalso; omega)
      repeat' fail
      first|refine L_rs ?_|refine L_reg ?_ | skip
      refine eE rfl rfl (EW.appR1 (bytes:=24) (a:=(⟨o.ow,o.at_,o.n⟩:Rp)) Rp.ok rfl (by kernel_rfl) rfl rfl rfl rfl rfl (by omega)) ?_
      conv=>whnf
      repeat' (first|refine d0 ?_|fail)
      exact Nx.pick [3,9,10,11,12,44,45,46] [0,1,2,3,4,5,6,7,8,9,10,11,12,13,14,15,16,17,18,19,20,21,25] rfl rfl rfl ⟨r,d,G,c,rs++[⟨o.ow,o.at_,o.n⟩],ok,tie,hrm,hrg,hgi.up,by rw [List.length_append]; exact Nat.succ_le_succ hrs,by rw [List.length_append]; rfl,rfl⟩
    by_cases o8:o.kind=8
    ·have hSt:=stepW_tr r d ok tie o hat hmc o8 nb F xb hB
     repeat' (first|refine qN ?_|refine dN ?_|refine iF (fun h=>?_) (fun h=>?_)|fail)
     all_goals try (exfalso; omega)
     refine cXW (ι:=PR × DR) (C:=fun j=>Kp r j.1∧Tie j.1 j.2) (V:=fun _=>.bool true) (B:=fun j=>PX j.1 j.2++[.dead]) [2,3,4,5,6,7,8,9,10,11,12,13,14,15,16,0] hSt (fun y hy=>by cases List.mem_singleton.1 hy; exact ⟨rfl,0,rfl,List.mem_cons_self ..⟩) (fun j hj=>?_)
     conv=>whnf
     obtain ⟨r',d'⟩:=j
     obtain ⟨hs,tie'⟩:=hj
     repeat' (first|refine dN ?_|refine qU ?_|refine qK ?_|fail)
     exact Nx.pick [3,9,10,11,12,44,45,46] [0,1,2,3,4,5,6,7,8,9,10,11,12,13,14,15,16,17,18,19,20,21,22] rfl rfl rfl ⟨r',d',G,c,rs,hs.ok,tie',hs.man.trans hrm,hs.mgd.trans hrg,hgi.up,by omega,rfl,rfl⟩
    ·have hSt:=stepO_tr r d ok tie true o hat hmc (fun h=>absurd h o8)
     repeat' (first|refine qN ?_|refine dN ?_|refine iF (fun h=>?_) (fun h=>?_)|fail)
     all_goals try (exfalso; omega)
     refine cX (ι:=PR × DR) (C:=fun j=>Stp r j.1∧Tie j.1 j.2) (V:=fun _=>.bool true) (B:=fun j=>PX j.1 j.2) [2,3,4,5,6,7,8,9,10,11,12,13,14,15,16] hSt (fun j hj=>?_)
     conv=>whnf
     obtain ⟨r',d'⟩:=j
     obtain ⟨hs,tie'⟩:=hj
     repeat' (first|refine dN ?_|refine qU ?_|refine qK ?_|fail)
     exact Nx.pick [3,9,10,11,12,44,45,46] [0,1,2,3,4,5,6,7,8,9,10,11,12,13,14,15,16,17,18,19,20,21,22] rfl rfl rfl ⟨r',d',G,c,rs,hs.ok ok,tie',hs.man.1.trans hrm,hs.man.2.1.trans hrg,hgi.up,by omega,rfl,rfl⟩
   ·rintro _ _ ⟨r,d,G,c,rs,ok,tie,hrm,hrg,hgi,hrs,rfl,rfl⟩
    repeat' (first|refine d0 ?_|refine aA ?_|refine qR ?_|fail)
    exact Nx.pick [3,9,10,11,12,44,45,46] [0,1,2,3,4,5,6,7,8,9,10,11,12,13,14,15,16,17,18,19,20,21,22] rfl rfl rfl ⟨nb-(i+1),by omega,i+1,r,d,G,c,rs,rfl,by omega,by omega,ok,tie,hrm,hrg,hgi,hrs,rfl,rfl⟩
  ·show Nx _ _ _ _
   exact Nx.pick [3,9,10,11,12] [0,1,2,3,4,5,6,7,8,9,10,11,12,13,14,15,16,17,18,19,20,21,22] rfl rfl rfl ⟨r,d,G,c,rs,ok,tie,hrN,hrm,⟨hgi.gok,hgi.man,by have:=hgi.len; omega⟩,by omega,rfl,rfl⟩
 ·rintro _ _ ⟨r,d,G,c,rs,ok,tie,hrN,hrm,hgi,hrs,rfl,rfl⟩
  have hNb:N≤65536:=by have:=ok.n2; rw [← hrN]; unfold PR.N; omega
  have hmN:256*m≤N:=by omega
  repeat' (first|refine qN ?_|refine dN ?_|refine qB ?_|refine qS ?_|fail)
  refine LWp.nilE 15 1 rfl (LWp.pick [3,10,11,12,15,120,121,122] [0,1,2,3,4,5,6,7,8,9,10,11,12,13,14,15,16,17,18,19,20,21,22,23] rfl rfl rfl (L_loop (fun q l L=>∃ k:Nat,q=N-k∧k≤N∧l=[(3,slB 1 na),(10,ptr 18),(11,ptr 21),(12,slB 22 rs.length),(15,slB 23 (gonel G k).length),(120,slB 20 N),(121,.int .i64 N),(122,.int .i64 k)]∧L=ZP r d N b0 G c rs++[.gro 1 (rowsC intC (gonel G k))]) N ⟨0,rfl,by omega,rfl,rfl⟩ ?_))
  rintro q _ _ ⟨k,rfl,hk,rfl,rfl⟩
  first|refine L_seq (L_rs (S_done [] rfl (Nx.goL (iF (fun h=>L_skip (Nx.goL ?_)) (fun h=>L_exit ?_)))))|refine L_rs (S_done [] rfl (Nx.goL (L_seq (iF (fun h=>L_skip (Nx.goL ?_)) (fun h=>L_exit ?_)))))
  ·have hk2:k<N:=by omega
   have hw:=wasC_get (a:=0) (j:=0) (G:=G) hk2
   rw [decide_eq_false (by omega),Bool.not_false,Bool.and_true] at hw
   have hF1:=flFault_tr r ok b0 G c rs k
   have hF2:=dlFault_tr r d ok tie N hrN G k
   have hgs:=gonel_succ G k
   have hgl:(gonel G k).length≤k:=gonel_len G k
   generalize faultV r G k=u at *
   refine L_seq (L_block ?_)
   cases ht:thas G k with
   | true =>
    rw [ht] at hw hgs
    change _=gonel G k++[(k:Int)] at hgs
    repeat' (first|refine qN ?_|refine dN ?_|refine qT ?_|refine aX ?_|refine S_Q [] rfl rfl (QY.ldB rfl rfl hw) ?_|refine qR ?_|refine qS ?_|fail)
    first|refine L_rs ?_|refine L_reg ?_ | skip
    refine eE rfl rfl (EW.appR1 (bytes:=8) (a:=(k:Int)) intC_ok rfl (by kernel_rfl) rfl rfl rfl rfl rfl (by omega)) ?_
    conv=>whnf
    repeat' (first|refine qN ?_|refine dN ?_|refine d0 ?_|refine qL ?_|refine iF (fun h=>?_) (fun h=>?_)|(refine cF [3,4,5,6,7,8,9,17,18,19] (hF1) ?_; conv=>whnf)|(refine cF [10,11,12,13,14,15,16,20,21] (hF2) ?_; conv=>whnf)|refine aA ?_|refine qR ?_|fail)
    all_goals first | (exfalso; omega)|exact Nx.pick [3,10,11,12,15,120,121,122] [0,1,2,3,4,5,6,7,8,9,10,11,12,13,14,15,16,17,18,19,20,21,22,25] rfl rfl rfl ⟨N-(k+1),by omega,k+1,rfl,by omega,by rw [hgs,List.length_append]; rfl,by rw [hgs]; rfl⟩
   | false =>
    rw [ht] at hw hgs
    change _=gonel G k++[] at hgs
    rw [List.append_nil] at hgs
    repeat' (first|refine qN ?_|refine dN ?_|refine d0 ?_|refine qU ?_|refine qL ?_|refine iF (fun h=>?_) (fun h=>?_)|refine aX ?_|refine S_Q [] rfl rfl (QY.ldB rfl rfl hw) ?_|(refine cF [3,4,5,6,7,8,9,17,18,19] (hF1) ?_; conv=>whnf)|(refine cF [10,11,12,13,14,15,16,20,21] (hF2) ?_; conv=>whnf)|refine aA ?_|refine qR ?_|refine qS ?_|fail)
    all_goals first | (exfalso; omega)|exact Nx.pick [3,10,11,12,15,120,121,122] [0,1,2,3,4,5,6,7,8,9,10,11,12,13,14,15,16,17,18,19,20,21,22,23] rfl rfl rfl ⟨N-(k+1),by omega,k+1,rfl,by omega,by rw [hgs]; rfl,by rw [hgs]; rfl⟩
  ·refine Nx.goL ?_
   obtain rfl:k=N:=by omega
   have hGn:=flGone_tr r b0 G c rs (fun x hx=>by
    have:=hgi.man x.1 (thas_iff.2 ⟨x.2,hx⟩)
    simp only [Lit.wf,Bool.and_eq_true,decide_eq_true_eq]
    exact ⟨by show (-9223372036854775808:Int)≤x.1; omega,by show x.1≤(9223372036854775807:Int); omega⟩) (by have:=hgi.len; omega)
   have hRp:=flReports_tr r b0 G c rs (by omega)
   have hkz:=keysZ_eq (N:=k) hgi.gok (fun a ha=>by have:=hgi.man a ha; omega)
   have hgl:G.length=(gonel G k).length:=by rw [← hkz,sortZ_len,List.length_map]
   rw [hkz,hgl] at hGn
   have hg30:(gonel G k).length≤30:=by rw [← hgl]; exact hgi.len
   have hF1:=fun a=>flFault_tr r ok b0 G c rs a
   have hF2:=fun a=>dlFault_tr r d ok tie k hrN G a
   generalize gonel G k=gl at *
   clear hkz
   repeat' (first|refine qN ?_|refine dN ?_|refine qB ?_|refine qT ?_|refine qL ?_|refine iF (fun h=>?_) (fun h=>?_)|(refine cF [3,4,5,6,7,8,9,17,18,19] (hGn) ?_; conv=>whnf)|(refine cF [3,4,5,6,7,8,9,17,18,19] (hRp) ?_; conv=>whnf)|refine sP 149 (fun h=>?_) (fun h=>?_)|refine qS ?_|fail)
   all_goals try (exfalso; omega)
   clear hGn hRp hgl hgi
   refine LWp.pick [3,10,11,12,15,18,19,156,157,158] [0,1,2,3,4,5,6,7,8,9,10,11,12,13,14,15,16,17,18,19,20,21,22,23,24,25] rfl rfl rfl (L_loop (fun q l L=>∃ j:Nat,q=gl.length-j∧j≤gl.length∧l=[(3,slB 1 na),(10,ptr 18),(11,ptr 21),(12,slB 22 rs.length),(15,slB 23 gl.length),(18,slB 24 gl.length),(19,slB 25 rs.length),(156,slB 23 gl.length),(157,.int .i64 gl.length),(158,.int .i64 j)]∧L=ZP r d k b0 G c rs++[.gro 1 (rowsC intC gl),.gro 1 (rowsC intC gl),.gro 3 (rowsC Rp.cells rs)]) gl.length ⟨0,rfl,by omega,rfl,rfl⟩ ?_)
   rintro q _ _ ⟨j,rfl,hj,rfl,rfl⟩
   first|refine L_seq (L_rs (S_done [] rfl (Nx.goL (iF (fun h=>L_skip (Nx.goL ?_)) (fun h=>L_exit ?_)))))|refine L_rs (S_done [] rfl (Nx.goL (L_seq (iF (fun h=>L_skip (Nx.goL ?_)) (fun h=>L_exit ?_)))))
   ·have hj2:j<gl.length:=by omega
    obtain ⟨x,hx⟩:∃ x,gl[j]?=some x:=⟨gl[j],List.getElem?_eq_getElem hj2⟩
    refine L_seq (L_block ?_)
    repeat' (first|refine qN ?_|refine dN ?_|refine d0 ?_|refine qL ?_|refine iF (fun h=>?_) (fun h=>?_)|refine aX ?_|refine S_Q [] rfl rfl (QY.ldI rfl rfl hx) ?_|refine aA ?_|refine qR ?_|fail)
    all_goals first | (exfalso; omega)|exact Nx.pick [3,10,11,12,15,18,19,156,157,158] [0,1,2,3,4,5,6,7,8,9,10,11,12,13,14,15,16,17,18,19,20,21,22,23,24,25] rfl rfl rfl ⟨gl.length-(j+1),by omega,j+1,rfl,by omega,rfl,rfl⟩
   refine Nx.goL ?_
   repeat' (first|refine qN ?_|refine dN ?_|refine qB ?_|refine qS ?_|fail)
   refine LWp.pick [3,10,11,12,19,171,172,173] [0,1,2,3,4,5,6,7,8,9,10,11,12,13,14,15,16,17,18,19,20,21,22,23,24,25] rfl rfl rfl (L_loop (fun q l L=>∃ j:Nat,q=rs.length-j∧j≤rs.length∧l=[(3,slB 1 na),(10,ptr 18),(11,ptr 21),(12,slB 22 rs.length),(19,slB 25 rs.length),(171,slB 22 rs.length),(172,.int .i64 rs.length),(173,.int .i64 j)]∧L=ZP r d k b0 G c rs++[.gro 1 (rowsC intC gl),.gro 1 (rowsC intC gl),.gro 3 (rowsC Rp.cells rs)]) rs.length ⟨0,rfl,by omega,rfl,rfl⟩ ?_)
   rintro q _ _ ⟨j,rfl,hj,rfl,rfl⟩
   first|refine L_seq (L_rs (S_done [] rfl (Nx.goL (iF (fun h=>L_skip (Nx.goL ?_)) (fun h=>L_exit ?_)))))|refine L_rs (S_done [] rfl (Nx.goL (L_seq (iF (fun h=>L_skip (Nx.goL ?_)) (fun h=>L_exit ?_)))))
   ·have hj2:j<rs.length:=by omega
    obtain ⟨x,hx⟩:∃ x,rs[j]?=some x:=⟨rs[j],List.getElem?_eq_getElem hj2⟩
    refine L_seq (L_block ?_)
    repeat' (first|refine qN ?_|refine dN ?_|refine d0 ?_|refine qU ?_|refine qL ?_|refine aX ?_|refine S_Q [] rfl rfl (QY.ldRow Rp.ok rfl rfl hx (by decide)) ?_|refine S_Q [] rfl rfl (QY.tt (u:=false) (QY.neqS (bs:=[x.th == x.th,x.at_ == x.at_,x.f == x.f]) rfl rfl rfl (by kernel_rfl)) (by simp)) ?_|refine aA ?_|refine qR ?_|fail)
    all_goals first | (exfalso; omega)|exact Nx.pick [3,10,11,12,19,171,172,173] [0,1,2,3,4,5,6,7,8,9,10,11,12,13,14,15,16,17,18,19,20,21,22,23,24,25] rfl rfl rfl ⟨rs.length-(j+1),by omega,j+1,rfl,by omega,rfl,rfl⟩
   refine Nx.goL ?_
   repeat' (first|refine qN ?_|refine dN ?_|refine qB ?_|refine qS ?_|fail)
   refine LWp.pick [10,11,186,187,188] [0,1,2,3,4,5,6,7,8,9,10,11,12,13,14,15,16,17,18,19,20,21,22,23,24,25] rfl rfl rfl (L_loop (fun q l L=>∃ j:Nat,q=na-j∧j≤na∧l=[(10,ptr 18),(11,ptr 21),(186,slB 1 na),(187,.int .i64 na),(188,.int .i64 j)]∧L=ZP r d k b0 G c rs++[.gro 1 (rowsC intC gl),.gro 1 (rowsC intC gl),.gro 3 (rowsC Rp.cells rs)]) na ⟨0,rfl,by omega,rfl,rfl⟩ ?_)
   rintro q _ _ ⟨j,rfl,hj,rfl,rfl⟩
   first|refine L_seq (L_rs (S_done [] rfl (Nx.goL (iF (fun h=>L_skip (Nx.goL ?_)) (fun h=>L_exit ?_)))))|refine L_rs (S_done [] rfl (Nx.goL (L_seq (iF (fun h=>L_skip (Nx.goL ?_)) (fun h=>L_exit ?_)))))
   ·have hj2:j<na:=by omega
    have hF1:=hF1 (nx j)
    have hF2:=hF2 (nx j)
    generalize faultV r G (nx j)=u at *
    refine L_seq (L_block ?_)
    repeat' (first|refine qN ?_|refine dN ?_|refine d0 ?_|refine qU ?_|refine qL ?_|refine iF (fun h=>?_) (fun h=>?_)|refine aX ?_|refine S_Q [] rfl rfl (ldInt rfl rfl hj2 (hnx j hj2)) ?_|(refine cF [3,4,5,6,7,8,9,17,18,19] (hF1) ?_; conv=>whnf)|(refine cF [10,11,12,13,14,15,16,20,21] (hF2) ?_; conv=>whnf)|refine aA ?_|refine sP 195 (fun h=>?_) (fun h=>?_)|refine qR ?_|fail)
    all_goals first | (exfalso; omega)|exact Nx.pick [10,11,186,187,188] [0,1,2,3,4,5,6,7,8,9,10,11,12,13,14,15,16,17,18,19,20,21,22,23,24,25] rfl rfl rfl ⟨na-(j+1),by omega,j+1,rfl,by omega,rfl,rfl⟩
   refine Nx.goL ?_
   repeat' (first|refine qN ?_|refine dN ?_|refine cP [] (hAw) ?_|fail)
   all_goals exact L_ret (RetQ.pick [0,1] rfl rfl rfl rfl rfl)
theorem FaultPlays_does (w:World) (mn gn:Int) (hmn:0≤mn∧mn<256) (hgn:0≤gn∧gn<256) {v u:Value} {n na:Nat} {F:Nat→List AV} {get:Nat→List Value} (hr:SlInN w 9 v n F) (hf:∀ i,i<n→(F i).length=9∧∀ (j:Nat) (k:CN),opK10[j]?=some k→∃ a,(F i)[j]?=some a∧CnOk 6 k a) (hb:SlIn w 1 u na get) (hg:∀ i,i<na→Fits [some .i64] (get i)) :
  Does Tryz.prog 7 #[.int .u8 mn,.int .u8 gn,v,u] w fun v w'=>v=.bool true∧Fr (fun _=>False) w w':=by
 obtain ⟨nx,hnx⟩:=choose_lt (n:=na) (p:=fun i (o:Int)=>get i=[.int .i64 o]) fun i hi=>by
  obtain ⟨a,r0,e0,_,h0⟩:=(hg i hi).int
  have e1:=h0.nil
  subst e1
  exact ⟨a,e0⟩
 obtain ⟨r,own,xs,hR⟩:=ops10_in hf
 obtain ⟨hn,q,hq⟩:=hr
 obtain ⟨hnb,s,hs⟩:=hb
 obtain ⟨h1,h2⟩:=hq [q,s] 0 rfl
 obtain ⟨h3,h4⟩:=hs [q,s] 1 rfl
 exact (FaultPlays_tr mn gn hmn hgn n hn F r own xs hR na hnb get nx hnx).law (vs':=[.int .u8 mn,.int .u8 gn,v,u]) [q,s] w rfl (by
  intro z hz
  rcases List.mem_cons.1 hz with rfl | hz
  ·exact ⟨rfl,h2⟩
  cases List.mem_singleton.1 hz; exact ⟨rfl,h4⟩) ⟨rfl,rfl,h1,h3,trivial⟩
end Go.Proofs.YtgfjgfapigekiaaGreat
end
