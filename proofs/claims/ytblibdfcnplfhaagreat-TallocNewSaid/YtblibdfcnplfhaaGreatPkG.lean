/-
  What the proof leans on, part 7: of the texts Lw28, Lw35, Lw36, Lw37, SlabM, SlabC, SlabD, SlabG, LargeG, PagesC, Lw38, RgM, RLargeB, Lw27, RgA, RgN, Lw39, Lw40, Lw41, FlA, TaB, TaF, Lw44, Lw45, Lw46, TaK, TaL, TnA.
-/
import Derived.Test.YtblibdfcnplfhaaGreatPkF
set_option linter.unusedVariables false
set_option linter.unusedSimpArgs false
set_option linter.unusedSectionVars false
section
/-
 Appends told of whatever can be read; maps of numbers to rows of numbers (rows that nobody changes any more),as one block.
-/
namespace Go.Tum
open Go

section
variable {P:Program} {n0:NA} {l:Env} {L:LH} {X:Nat→Prop} {w0 w w':World} {E:Emb}
theorem rd_gro {b n sz:Nat} {gs:List Value} {v':Value} (hR:Rep X w0 E L w) (hb:L[b]?=some (.gro sz gs)) (hl:gs.length=n*sz) (ho:∀ u∈gs,one u=true) (hz:0<sz) (hv:VR E (.slice (some ⟨b,0,none⟩) n n) v'):Rd w sz v' n gs:=by
 refine ⟨hl,ho,?_⟩
 obtain ⟨_,r,hr,hcase⟩:=hv
 by_cases h0:n=0
 ·subst h0
  left
  rcases hcase with ⟨a',c',rfl,_⟩ | ⟨_,_,a',rfl⟩
  ·exact ⟨⟨_,_,rfl⟩,rfl⟩
  ·exact ⟨⟨_,_,rfl⟩,rfl⟩
 ·right
  obtain ⟨c',rfl⟩:∃ c',v'=.slice (some ⟨r.1,0+r.2.1,none⟩) n c':=by
   rcases hcase with ⟨a',c',h1,⟨h2,_⟩ | ⟨h2,_⟩⟩ | ⟨h1,_⟩
   ·exact ⟨c',by rw [h1,h2]⟩
   ·exact absurd h2 h0
   ·exact absurd h1 h0
  rcases hR.blk b _ r hb hr with ⟨h1,_⟩ | ⟨_,_,cs,hB,h3,h4⟩
  ·subst h1
   have:=Nat.mul_pos (Nat.pos_of_ne_zero h0) hz
   simp at hl; omega
  ·exact ⟨_,_,c',cs,rfl,hB,by rw [← hl]; omega,by rw [← hl,Nat.zero_add]; exact h3⟩
/-- append of whatever can be read -/
theorem EW.appX {Q:List Value→Prop} {o:Oper} {s x:Operand} {sT xT:TypeId} {sz bytes b n m:Nat} {gs:List Value} (ho:o.op=.call ⟨.builtin .append,⟨[s,x]⟩,⟨[sT,xT]⟩⟩) (ht:appT P sT xT=some (sz,bytes))
  (hs:lv l s=some (.slice (some ⟨b,0,none⟩) n n)) (hb:L[b]?=some (.gro sz gs)) (hgl:gs.length=n*sz) (hone:∀ u∈gs,one u=true) (hbd:(2*(n+m)+2048)*bytes≤281474976710656)
  (hrd:∀ (X:Nat→Prop) (w0:World) (E0:Emb) (w:World) (E:Emb) (l':Env),n0.Ok P X w0 E0→n0.Ext E0 E→Rep X w0 E L w→ER E l l'→∃ vx' us2,ev l' x=some vx'∧RdC w sz vx' m us2∧Q us2) :
  EW P n0 L l (.raw o) (fun v K=>∃ us2,Q us2∧v=.slice (some ⟨L.length,0,none⟩) (n+m) (n+m)∧K=L.set b .dead++[.gro sz (gs++us2)]):=by
 intro X w0 E0 w E l' Kf h0 hE hR hl hK
 unfold appT at ht
 split at ht
 rotate_left
 ·cases ht
 rename_i e i z he
 cases hc:(isSl P xT && Nat.beq z.cells.toList.length i.size && z.cells.toList.all one && Nat.blt 0 i.bytes && Nat.blt 0 i.size)
 ·rw [hc] at ht; cases ht
 rw [hc] at ht
 cases ht
 simp only [Bool.and_eq_true] at hc
 obtain ⟨hu,hi,hz'⟩:=elemOf_ok he
 have he':ElemT P sT e i.size i.bytes:=⟨hu,i,z,hi,rfl,rfl,hz',by simpa using Nat.eq_of_beq_eq_true hc.1.1.1.2,fun u hu=>List.all_eq_true.1 hc.1.1.2 u hu⟩
 have hz:0<i.size:=Nat.le_of_ble_eq_true hc.2
 obtain ⟨d,opp,ty,pos,af,g'⟩:=o
 simp only at ho
 subst ho
 obtain ⟨vs',h1,hsr⟩:=lv_ev hl hs
 obtain ⟨vx',us2,h3,hrd2,hq⟩:=hrd X w0 E0 w E l' h0 hE hR hl
 exact appG_ok he' (isSl_ok hc.1.1.1.1) (Nat.le_of_ble_eq_true hc.1.2) hz hR h1 h3 hsr hb hgl (rd_gro hR hb hgl hone hz hsr) hrd2 hbd (fun w' E' v' hX hR' hv=>hK w' E' v' _ _ ⟨us2,hq,rfl,rfl⟩ hX hR' hv)
theorem one_intC {ys:List Int}:∀ u∈rowsC intC ys,one u=true:=fun u hu=>(SR.still (E:=[]) (List.all_eq_true.1 (rowsC_still intC_ok ys) u hu)).one.1
theorem rowsI_len (ys:List Int):(rowsC intC ys).length=ys.length*1:=rowsC_length intC_ok ys
theorem rowsI_get {ys:List Int} {j:Nat}:(rowsC intC ys)[j]?=ys[j]?.map (Value.int .i64):=by
 induction ys generalizing j with
 | nil=>simp [rowsC]
 | cons a r ih =>
  cases j with
  | zero=>simp [rowsC,intC]
  | succ j=>simp only [rowsC,intC,List.cons_append,List.nil_append,List.getElem?_cons_succ]; exact ih

/-! ### two blocks become one -/
theorem Rep.merge {b k:Nat} {x y z:LB} {r q:Nat × Nat × Nat} (h:Rep X w0 E L w) (hne:b≠k) (hy:L[b]?=some y) (hr:E[b]?=some r) (hz:L[k]?=some z) (hq:E[k]?=some q) (hf:Fr (foot r y) w w') (hx:LBis E w' r x)
  (hft:∀ c,foot r x c→foot r y c∨foot q z c∨(w.heap.size≤c∧c<w'.heap.size)):Rep X w0 E ((L.set b x).set k .dead) w':=by
 have hltb:=(List.getElem?_eq_some_iff.1 hy).1
 have hltk:=(List.getElem?_eq_some_iff.1 hz).1
 have cut:∀ (i:Nat) (u:LB),((L.set b x).set k .dead)[i]?=some u→(i=k∧u=.dead)∨(i=b∧u=x)∨(i≠b∧i≠k∧L[i]?=some u):=by
  intro i u hu
  rw [List.getElem?_set] at hu
  by_cases e:k=i
  ·subst e
   rw [if_pos rfl,if_pos (by rw [List.length_set]; exact hltk)] at hu; cases hu
   exact .inl ⟨rfl,rfl⟩
  ·rw [if_neg e,List.getElem?_set] at hu
   by_cases e':b=i
   ·subst e'
    rw [if_pos rfl,if_pos hltb] at hu; cases hu
    exact .inr (.inl ⟨rfl,rfl⟩)
   ·rw [if_neg e'] at hu
    exact .inr (.inr ⟨fun q=>e' q.symm,fun q=>e q.symm,hu⟩)
 have frs:=h.fr.size
 have key:∀ (i:Nat) (u:LB) (r':Nat × Nat × Nat) (c:Nat),i≠b→i≠k→L[i]?=some u→E[i]?=some r'→foot r' u c→foot r x c→False:=by
  intro i u r' c hib hik hu hr' hc hcx
  rcases hft c hcx with h1 | h1 | h1
  ·exact hib (h.inj i b u y r' r c hu hy hr' hr hc h1)
  ·exact hik (h.inj i k u z r' q c hu hz hr' hq hc h1)
  ·have:=(h.rng i u r' hu hr' c hc).2; omega
 refine ⟨h.frT hy hr hf,by rw [h.len,List.length_set,List.length_set],fun i u r' hu hr' c hc=>?_,fun i u r' hu hr'=>?_,fun i i' u u' r1 r2 c hu hu' h1 h2 e1 e2=>?_⟩
 ·rcases cut i u hu with ⟨rfl,rfl⟩ | ⟨rfl,rfl⟩ | ⟨hib,hik,hu⟩
  ·exact hc.elim
  ·rw [hr] at hr'; cases hr'
   rcases hft c hc with h1 | h1 | h1
   ·have:=h.rng i y _ hy hr c h1; exact ⟨this.1,Nat.lt_of_lt_of_le this.2 hf.size⟩
   ·have:=h.rng k z _ hz hq c h1; exact ⟨this.1,Nat.lt_of_lt_of_le this.2 hf.size⟩
   ·exact ⟨.inl (by omega),h1.2⟩
  ·have:=h.rng i u r' hu hr' c hc; exact ⟨this.1,Nat.lt_of_lt_of_le this.2 hf.size⟩
 ·rcases cut i u hu with ⟨rfl,rfl⟩ | ⟨rfl,rfl⟩ | ⟨hib,hik,hu⟩
  ·trivial
  ·rw [hr] at hr'; cases hr'; exact hx
  ·exact (h.blk i u r' hu hr').fr hf (fun c hc=>(h.rng i u r' hu hr' c hc).2) fun c hc hc'=>hib (h.inj i b u y r' r c hu hy hr' hr hc hc')
 ·rcases cut i u hu with ⟨rfl,rfl⟩ | ⟨rfl,rfl⟩ | ⟨hib,hik,hu⟩
  ·exact e1.elim
  ·rcases cut i' u' hu' with ⟨rfl,rfl⟩ | ⟨rfl,rfl⟩ | ⟨hib',hik',hu'⟩
   ·exact e2.elim
   ·rfl
   ·rw [hr] at h1; cases h1
    exact (key i' u' r2 c hib' hik' hu' h2 e2 e1).elim
  ·rcases cut i' u' hu' with ⟨rfl,rfl⟩ | ⟨rfl,rfl⟩ | ⟨hib',hik',hu2⟩
   ·exact e2.elim
   ·rw [hr] at h2; cases h2
    exact (key i u r1 c hib hik ‹L[i]?=some u› h1 e1 e2).elim
   ·exact h.inj i i' u u' r1 r2 c ‹L[i]?=some u› hu2 h1 h2 e1 e2
end

/-! ### maps of numbers to rows of numbers -/
structure GE where
 id:Int
 xs:List Int
 p:Nat
 o:Nat
 c:Nat
 z:Value
 born:Nat
def GE.sv (e:GE):Value:=match e.xs with
 | []=>e.z
 | _=>.slice (some ⟨e.p,e.o,none⟩) e.xs.length e.c
def GE.ok (w:World) (e:GE):Prop:=match e.xs with
 | []=>∃ a,e.z=.slice a 0 0
 | _=>∃ cs,Blk w e.p cs∧(cs.drop e.o).take e.xs.length=e.xs.map (Value.int .i64)
/-- as it is named: real blocks stand for themselves -/
def GE.sym (e:GE):Value:=.slice (some ⟨e.p,e.o,some 0⟩) e.xs.length (if e.xs=[] then 0 else e.c)
def ge (e:GE):Int × Value × Nat:=(e.id,e.sv,e.born)
def gF (b0:Nat) (es:List GE) (b:Nat):Prop:=b=b0∨∃ e∈es,e.xs≠[]∧e.p=b
def gB (b0:Nat) (es:List GE) (c:Nat):LB:=.abs (fun r w=>r=b0∧Mp (Value.int .i64) w r (es.map ge) c∧Wf (es.map ge) c∧∀ e∈es,e.ok w) (gF b0 es)
def gfe (es:List GE) (a:Int):Option GE:=es.find? fun e=>decide (e.id=a)
def gputE (es:List GE) (e:GE) (c:Nat):List GE × Nat:=match gfe es e.id with
 | some _=>(es.map fun x=>if x.id=e.id then { e with born:=x.born } else x,c)
 | none=>(es++[{ e with born:=c }],c+1)
theorem gputE_mem {es:List GE} {e e':GE} {c:Nat} (h:e'∈(gputE es e c).1):e'∈es∨∃ b,e'={ e with born:=b }:=by
 unfold gputE at h
 split at h
 ·obtain ⟨y,hy,rfl⟩:=List.mem_map.1 h
  split
  ·exact .inr ⟨_,rfl⟩
  ·exact .inl hy
 ·rcases List.mem_append.1 h with h | h
  ·exact .inl h
  ·exact .inr ⟨c,List.mem_singleton.1 h⟩
theorem mfind_ge (es:List GE) (a:Int):mfind (es.map ge) a=(gfe es a).map ge:=by
 simp only [mfind,gfe,List.find?_map]
 rfl
theorem ge_born (e:GE) (b:Nat):ge { e with born:=b }=(e.id,e.sv,b):=rfl
theorem mset_ge (es:List GE) (e:GE) (c:Nat):mset (es.map ge) e.id e.sv c=((gputE es e c).1.map ge,(gputE es e c).2):=by
 unfold mset gputE
 rw [mfind_ge]
 cases h:gfe es e.id with
 | none=>simp [ge_born]
 | some x =>
  simp only [Option.map_some,mput,List.map_map]
  congr 1
  apply List.map_congr_left
  intro y _
  simp only [Function.comp]
  by_cases hy:y.id=e.id
  ·have hy':(ge y).1=e.id:=hy
   rw [if_pos hy',if_pos hy,hy']; rfl
  ·have hy':¬ (ge y).1=e.id:=hy
   rw [if_neg hy',if_neg hy]
theorem GE.ok_fr {w w':World} {F:Nat→Prop} {e:GE} (h:e.ok w) (hf:Fr F w w') (hn:e.xs≠[]→¬ F e.p):e.ok w':=by
 unfold GE.ok at h ⊢
 split
 ·rename_i hx; rw [hx] at h; exact h
 ·rename_i hx
  split at h
  ·rename_i hx'; exact absurd hx' (by assumption)
  ·obtain ⟨cs,h1,h2⟩:=h
   exact ⟨cs,hf.blk h1 (hn (by assumption)),h2⟩
theorem GE.ok_born {w:World} {e:GE} {b:Nat}:({ e with born:=b }:GE).ok w↔e.ok w:=Iff.rfl
section
variable {P:Program} {n0:NA} {l:Env} {L:LH} {X:Nat→Prop} {w0 w w':World} {E:Emb}
theorem gB_is {r:Nat × Nat × Nat} {b0 c:Nat} {es:List GE} (h:Mp (Value.int .i64) w r.1 (es.map ge) c) (hw:Wf (es.map ge) c) (he:∀ e∈es,e.ok w) (h1:r.1=b0) (h2:r.2=(0,0)):LBis E w r (gB b0 es c) :=
 ⟨⟨h1,h,hw,he⟩,h2,fun _ _ _ ⟨g1,g2,g3,g4⟩ hf hn=>⟨g1,g2.fr hf (hn _ (.inl g1)),g3,fun e hm=>GE.ok_fr (g4 e hm) hf fun hx=>hn _ (.inr ⟨e,hm,hx,rfl⟩)⟩⟩
theorem gB_at {l':Env} {x:Operand} {b b0 c:Nat} {es:List GE} (hR:Rep X w0 E L w) (hl:ER E l l') (hx:lv l x=some (.map (some b))) (hb:L[b]?=some (gB b0 es c)) :
  ∃ r,E[b]?=some r∧ev l' x=some (.map (some r.1))∧(Mp (Value.int .i64) w r.1 (es.map ge) c∧Wf (es.map ge) c∧∀ e∈es,e.ok w)∧r.1=b0∧r.2=(0,0):=by
 obtain ⟨_,h1,r,h2,rfl⟩:=lv_ev hl hx
 obtain ⟨⟨h3,h4⟩,h5,_⟩:=hR.blk b _ r hb h2
 exact ⟨r,h2,h1,h4,h3,h5⟩
theorem GE.sv_nil {e:GE} (h:e.xs=[]):e.sv=e.z:=by unfold GE.sv; rw [h]
theorem GE.sv_ne {e:GE} (h:e.xs≠[]):e.sv=.slice (some ⟨e.p,e.o,none⟩) e.xs.length e.c:=by
 unfold GE.sv
 split
 ·rename_i h0; exact absurd h0 h
 ·rfl
theorem GE.sym_ok {e:GE} (h:e.ok w):S0 E e.sym e.sv:=by
 unfold GE.sym
 by_cases hx:e.xs=[]
 ·unfold GE.ok at h
  rw [hx] at h
  obtain ⟨a,h⟩:=h
  rw [GE.sv_nil hx]
  exact .inr ⟨by rw [hx]; rfl,if_pos hx,a,h⟩
 ·rw [GE.sv_ne hx,if_neg hx]
  exact .inl rfl
/-- is there such a node,and what it names -/
def gsym:Option GE→Value
 | none=>.slice (some ⟨0,0,some 0⟩) 0 0
 | some e=>e.sym
theorem QY.glook {o:Oper} {mT kt et:TypeId} {x y:Operand} {b b0 c:Nat} {es:List GE} {a:Int} {q:Option GE} (ho:o.op=.lookup mT x y true) (hT:P.underlying mT=some (.map kt et)) (hkt:P.underlying kt=some (.int .i64)) (hz:zeroOf P et=some (.slice none 0 0))
  (hx:lv l x=some (.map (some b))) (hy:lv l y=some (.int .i64 a)) (hb:L[b]?=some (gB b0 es c)) (hq:gfe es a=q):QY P n0 L l (.raw o) (.tuple ⟨[gsym q,.bool q.isSome]⟩):=by
 intro X w0 E0 w E l' _ hE hR hl
 obtain ⟨r,h2,h3,⟨h4,h5,h6⟩,_⟩:=gB_at hR hl hx hb
 obtain ⟨_,h7,rfl⟩:=lv_ev hl hy
 obtain ⟨d,op,ty,pos,af,g⟩:=o
 simp only at ho
 subst ho
 refine ⟨_,lookupOk_Y (ty:=ty) (k:=a) hT (keyLaw_int hkt) (zeroOf_ok hz) h3 h7 h4 rfl,?_⟩
 rw [mfind_ge]
 subst hq
 cases hq:gfe es a with
 | none=>exact ⟨_,rfl,.inr ⟨rfl,rfl,none,rfl⟩,rfl,trivial⟩
 | some e =>
  have:=GE.sym_ok (E:=E) (h6 e (List.mem_of_find?_eq_some hq))
  exact ⟨_,rfl,this,rfl,trivial⟩
/-- .. without asking whether -/
theorem QY.glook1 {o:Oper} {mT kt et:TypeId} {x y:Operand} {b b0 c:Nat} {es:List GE} {a:Int} {q:Option GE} (ho:o.op=.lookup mT x y false) (hT:P.underlying mT=some (.map kt et)) (hkt:P.underlying kt=some (.int .i64)) (hz:zeroOf P et=some (.slice none 0 0))
  (hx:lv l x=some (.map (some b))) (hy:lv l y=some (.int .i64 a)) (hb:L[b]?=some (gB b0 es c)) (hq:gfe es a=q):QY P n0 L l (.raw o) (gsym q):=by
 intro X w0 E0 w E l' _ hE hR hl
 obtain ⟨r,h2,h3,⟨h4,h5,h6⟩,_⟩:=gB_at hR hl hx hb
 obtain ⟨_,h7,rfl⟩:=lv_ev hl hy
 obtain ⟨d,op,ty,pos,af,g⟩:=o
 simp only at ho
 subst ho
 refine ⟨_,lookup_Y (ty:=ty) (k:=a) hT (keyLaw_int hkt) (zeroOf_ok hz) h3 h7 h4 rfl,?_⟩
 rw [mfind_ge]
 subst hq
 cases hq:gfe es a with
 | none=>exact .inr ⟨rfl,rfl,none,rfl⟩
 | some e =>
  have:=GE.sym_ok (E:=E) (h6 e (List.mem_of_find?_eq_some hq))
  exact this
theorem EW.gmake {o:Oper} {mT:TypeId} (ho:o.op=.makeMap mT none):EW P n0 L l (.raw o) (fun w K=>∃ b0,w=.map (some L.length)∧K=L++[gB b0 [] 0]):=by
 intro X w0 E0 w E l' Kf h0 hE hR hl hK
 obtain ⟨d,op,ty,pos,af,g⟩:=o
 simp only at ho
 subst ho
 refine makeMap_W (ty:=ty) (Value.int .i64) fun w' hM hf hsz=>hK w' (E++[(w.heap.size,0,0)]) _ _ _ ⟨w.heap.size,rfl,rfl⟩ (Ext.push E _) (hR.push hf (fun b hb=>?_) (gB_is hM ⟨by simp,by simp,by simp⟩ (by simp) rfl rfl)) ?_
 ·rcases hb with hb | ⟨e,he,_⟩
  ·rw [hb]; omega
  ·cases he
 ·exact ⟨_,hR.last _,rfl⟩
/-- a node,new or anew,with a row of one's own,which goes into the map -/
theorem EW.gput {o:Oper} {mT kt et:TypeId} {x y u:Operand} {b k b0 c n:Nat} {es:List GE} {a:Int} {ys:List Int} (ho:o.op=.mapUpdate mT x y u) (hT:P.underlying mT=some (.map kt et)) (hkt:P.underlying kt=some (.int .i64))
  (hx:lv l x=some (.map (some b))) (hy:lv l y=some (.int .i64 a)) (hu:lv l u=some (.slice (some ⟨k,0,none⟩) n n)) (hb:L[b]?=some (gB b0 es c)) (hk:L[k]?=some (.gro 1 (rowsC intC ys))) (hn:ys.length=n) :
  EW P n0 L l (.raw o) (fun w K=>∃ e:GE,(e.id=a∧e.xs=ys)∧w=undef∧K=(L.set b (gB b0 (gputE es e c).1 (gputE es e c).2)).set k .dead):=by
 intro X w0 E0 w E l' Kf h0 hE hR hl hK
 obtain ⟨r,h2,h3,⟨h4,h5,h6⟩,h7,h8⟩:=gB_at hR hl hx hb
 obtain ⟨_,h9,rfl⟩:=lv_ev hl hy
 obtain ⟨v',h10,_,q,hq,hcase⟩:=lv_ev hl hu
 obtain ⟨d,op,ty,pos,af,g⟩:=o
 simp only at ho
 subst ho
 have hq:E[k]?=some q:=hq
 have hne:b≠k:=by rintro rfl; rw [hb] at hk; cases hk
 obtain ⟨e,he1,he2,he3,he4,he5⟩:∃ e:GE,e.id=a∧e.xs=ys∧e.sv=v'∧e.ok w∧(e.xs≠[]→foot q (.gro 1 (rowsC intC ys)) e.p):=by
  by_cases h0:ys=[]
  ·subst h0
   have:n=0:=by rw [← hn]; rfl
   subst this
   have:∃ a',v'=.slice a' 0 0:=by
    rcases hR.blk k _ q hk hq with ⟨_,h1⟩ | ⟨h1,_⟩
    rotate_left
    ·exact absurd rfl h1
    rcases hcase with ⟨a',c',rfl,⟨_,rfl⟩ | ⟨_,_,rfl,_⟩⟩ | ⟨_,_,a',rfl⟩
    ·exact ⟨some a',by rw [h1]⟩
    ·exact ⟨_,rfl⟩
    ·exact ⟨_,rfl⟩
   exact ⟨⟨a,[],0,0,0,v',0⟩,rfl,rfl,rfl,this,fun h=>absurd rfl h⟩
  ·have hn0:n≠0:=by rw [← hn]; exact fun h=>h0 (List.length_eq_zero_iff.1 h)
   obtain ⟨c',rfl⟩:∃ c',v'=.slice (some ⟨q.1,0+q.2.1,none⟩) n c':=by
    rcases hcase with ⟨a',c',h1,⟨h2,_⟩ | ⟨h2,_⟩⟩ | ⟨h1,_⟩
    ·exact ⟨c',by rw [h1,h2]⟩
    ·exact absurd h2 hn0
    ·exact absurd h1 hn0
   rcases hR.blk k _ q hk hq with ⟨h1,_⟩ | ⟨h1,_,cs,hB,h3,_⟩
   ·cases ys with
    | nil=>exact absurd rfl h0
    | cons=>simp [rowsC,intC] at h1
   ·refine ⟨⟨a,ys,q.1,0+q.2.1,c',undef,0⟩,rfl,rfl,?_,?_,fun _=>?_⟩
    ·unfold GE.sv
     split
     ·rename_i h; exact absurd h h0
     ·simp only [hn]
    ·unfold GE.ok
     split
     ·rename_i h; exact absurd h h0
     ·refine ⟨cs,hB,?_⟩
      rw [rowsI_len,Nat.mul_one] at h3
      simp only [Nat.zero_add]
      rw [h3]
      apply List.ext_getElem?
      intro j
      rw [rowsI_get,List.getElem?_map]
    ·revert h1
     cases rowsC intC ys with
     | nil=>intro h1; exact absurd rfl h1
     | cons=>intro _; rfl
 subst he1 he3
 have hs:=mset_ge es e c
 have hwf:=h5.mset (k:=e.id) e.sv
 rw [hs] at hwf
 refine mapUpdate_W (ty:=ty) (k:=e.id) hT (keyLaw_int hkt) h3 h9 h10 h4 h5 (fun w' hM hf hsz=>?_)
 rw [hs] at hM
 have hlt:r.1<w.heap.size:=h4.lt
 refine hK w' E _ _ _ ⟨e,⟨rfl,he2⟩,rfl,rfl⟩ (Ext.refl E) (hR.merge hne hb h2 hk hq (hf.mono fun c' _ e'=>.inl (e'.trans h7)) (gB_is hM hwf (fun e' he'=>?_) h7 h8) (fun c' hc'=>?_)) VR.undef
 ·have hst:∀ e'':GE,e''.ok w→(e''.xs≠[]→e''.p≠r.1)→e''.ok w':=fun e'' h h'=>GE.ok_fr h hf fun hx he=>h' hx he
  have hold:∀ e''∈es,e''.xs≠[]→e''.p≠r.1:=fun e'' hm hx' hp=>by
   obtain ⟨cs,hB,_⟩:∃ cs,Blk w e''.p cs∧True:=by
    have:=h6 e'' hm
    unfold GE.ok at this
    split at this
    ·rename_i hx''; exact absurd hx'' hx'
    ·obtain ⟨cs,hB,_⟩:=this; exact ⟨cs,hB,trivial⟩
   obtain ⟨t,hB⟩:=hB
   rw [hp,show w.heap[r.1]?=_ from h4] at hB
   cases hB
  have hnew:e.xs≠[]→e.p≠r.1:=fun hx' hp=>by
   have:=he5 hx'
   rw [hp] at this
   exact hne (hR.inj b k _ _ _ _ r.1 hb hk h2 hq (.inl h7) this)
  rcases gputE_mem he' with h1 | ⟨b',rfl⟩
  ·exact hst e' (h6 e' h1) (hold e' h1)
  ·exact GE.ok_born.2 (hst e he4 hnew)
 ·rcases hc' with h1 | ⟨e',he',hx',hp⟩
  ·exact .inl (.inl h1)
  ·rcases gputE_mem he' with h1 | ⟨b',rfl⟩
   ·exact .inl (.inr ⟨e',h1,hx',hp⟩)
   ·exact .inr (.inl (by rw [← hp]; exact he5 hx'))
/-- such a row,put behind a row of one's own -/
theorem EW.appH {o:Oper} {s x:Operand} {sT xT:TypeId} {bytes b n k b0 c:Nat} {xs:List Int} {es:List GE} {e:GE} (he:e∈es) (ho:o.op=.call ⟨.builtin .append,⟨[s,x]⟩,⟨[sT,xT]⟩⟩) (ht:appT P sT xT=some (1,bytes))
  (hs:lv l s=some (.slice (some ⟨b,0,none⟩) n n)) (hx:lv l x=some e.sym) (hb:L[b]?=some (.gro 1 (rowsC intC xs))) (hk:L[k]?=some (gB b0 es c)) (hn:xs.length=n) (hbd:(2*(n+e.xs.length)+2048)*bytes≤281474976710656) :
  EW P n0 L l (.raw o) (fun v K=>v=.slice (some ⟨L.length,0,none⟩) (n+e.xs.length) (n+e.xs.length)∧K=L.set b .dead++[.gro 1 (rowsC intC (xs++e.xs))]):=by
 refine EW.mono (EW.appX (Q:=fun us=>us=rowsC intC e.xs) (m:=e.xs.length) ho ht hs hb (by rw [rowsI_len,hn]) one_intC hbd fun X w0 E0 w E l' h0 hE hR hl=>?_) ?_
 ·obtain ⟨vx',h3,hxr⟩:=lv_ev hl hx
  refine ⟨vx',_,h3,⟨rowsI_len _,one_intC,?_⟩,rfl⟩
  have hek:e.ok w:=by
   obtain ⟨r,hr⟩:=hR.ent hk
   exact (hR.blk k _ r hk hr).1.2.2.2 e he
  unfold GE.ok at hek
  unfold GE.sym at hxr
  split at hek
  ·rename_i h0'
   rw [h0'] at hxr ⊢
   rcases hxr with rfl | ⟨_,_,a',rfl⟩
   ·exact .inl ⟨⟨_,_,rfl⟩,rfl⟩
   ·exact .inl ⟨⟨_,_,rfl⟩,rfl⟩
  ·rename_i h0'
   obtain ⟨cs,⟨t,hB⟩,hcs⟩:=hek
   have hx2:=hxr
   have hln:e.xs.length≠0:=fun h=>h0' (List.length_eq_zero_iff.1 h)
   rcases hx2 with rfl | ⟨h1,_⟩
   rotate_left
   ·exact absurd h1 hln
   refine .inr ⟨_,_,rfl,fun j hj=>?_⟩
   rw [Nat.mul_one] at hj
   rw [add_none,rowsI_get]
   simp only [World.cell?,hB]
   have:=congrArg (·[j]?) hcs
   simp only [List.getElem?_take_of_lt hj,List.getElem?_drop,List.getElem?_map] at this
   rw [← this]
   simp [Nat.add_comm]
 ·rintro v K ⟨us,rfl,rfl,rfl⟩
  exact ⟨rfl,by rw [rowsC_append]⟩
end
end Go.Tum
end
section
/-
 Crowds: so many boxes as one block.
-/
namespace Go.Tum
open Go

abbrev Mem:=Emb × LH
def Mem.at (m:Mem) (b:Nat):Prop:=footL m.1 m.2 b
section
variable {X:Nat→Prop} {w0 w w':World} {E:Emb} {L:LH}
structure CrowdAt (ms:List Mem) (w:World):Prop where
 all:∀ m∈ms,BoxAt m.1 m.2 w
 apart:ms.Pairwise fun m m'=>∀ b,m.at b→¬ m'.at b
def crowd (ms:List Mem):LB:=.abs (fun _ w=>CrowdAt ms w) (fun b=>∃ m∈ms,m.at b)
theorem CrowdAt.fr {ms:List Mem} {G:Nat→Prop} (h:CrowdAt ms w) (hf:Fr G w w') (hn:∀ b,(∃ m∈ms,m.at b)→¬ G b):CrowdAt ms w' :=
 ⟨fun m hm=>(h.all m hm).fr hf fun b hb=>hn b ⟨m,hm,hb⟩,h.apart⟩
theorem CrowdAt.is {Es:Emb} {ms:List Mem} {r:Nat × Nat × Nat} (h:CrowdAt ms w) (hr:r.2=(0,0)):LBis Es w r (crowd ms) :=
 ⟨h,hr,fun _ _ _ h1 hf hn=>h1.fr hf hn⟩
theorem CrowdAt.perm {ms ms':List Mem} (hp:ms.Perm ms') (h:CrowdAt ms w):CrowdAt ms' w :=
 ⟨fun m hm=>h.all m (hp.mem_iff.2 hm),(hp.pairwise_iff (fun h1 b h2 h3=>h1 b h3 h2)).1 h.apart⟩
/-- in another order -/
theorem Rep.crowdP {b:Nat} {ms ms':List Mem} (h:Rep X w0 E L w) (hb:L[b]?=some (crowd ms)) (hp:ms.Perm ms'):Rep X w0 E (L.set b (crowd ms')) w:=by
 obtain ⟨r,hr⟩:=h.ent hb
 obtain ⟨h1,h2,_⟩:=h.blk b _ r hb hr
 have hft:∀ c,foot r (crowd ms') c→foot r (crowd ms) c:=fun c ⟨m,hm,hc⟩=>⟨m,hp.mem_iff.2 hm,hc⟩
 exact h.upd hb hr (Fr.refl _ w) ((h1.perm hp).is h2) fun c hc=>.inl (hft c hc)
/-- one is taken out -/
theorem Rep.crowdOut {b:Nat} {m:Mem} {ms:List Mem} (h:Rep X w0 E L w) (hb:L[b]?=some (crowd (m::ms))):Rep X w0 (E++[(0,0,0)]) (L.set b (crowd ms)++[box m.1 m.2]) w:=by
 obtain ⟨r0,hr0⟩:=h.ent hb
 obtain ⟨h1,h2,_⟩:=h.blk b _ r0 hb hr0
 have hap:=List.pairwise_cons.1 h1.apart
 have hEL:=h.len
 have hbl:=(List.getElem?_eq_some_iff.1 hb).1
 have hC:CrowdAt ms w:=⟨fun m hm=>h1.all m (List.mem_cons_of_mem _ hm),hap.2⟩
 have hin:∀ c,(∃ m∈ms,Mem.at m c)→foot r0 (crowd (m::ms)) c:=fun c ⟨m',hm,hc⟩=>⟨m',List.mem_cons_of_mem _ hm,hc⟩
 have hin0:∀ c,m.at c→foot r0 (crowd (m::ms)) c:=fun c hc=>⟨m,List.mem_cons_self ..,hc⟩
 have cut:∀ (k:Nat) (x:LB) (r:Nat × Nat × Nat),(L.set b (crowd ms)++[box m.1 m.2])[k]?=some x→(E++[(0,0,0)])[k]?=some r →
   (k=b∧x=crowd ms∧r=r0)∨(k≠b∧k<L.length∧L[k]?=some x∧E[k]?=some r)∨(k=L.length∧x=box m.1 m.2∧r=(0,0,0)):=by
  intro k x r hx hr
  by_cases hk:k<L.length
  ·rw [List.getElem?_append_left (by rw [List.length_set]; exact hk)] at hx
   rw [List.getElem?_append_left (by omega)] at hr
   by_cases e:k=b
   ·subst e
    rw [List.getElem?_set_self hk] at hx
    rw [hr0] at hr
    exact .inl ⟨rfl,(Option.some.inj hx).symm,(Option.some.inj hr).symm⟩
   ·rw [List.getElem?_set_ne (fun q=>e q.symm)] at hx
    exact .inr (.inl ⟨e,hk,hx,hr⟩)
  ·have hk2:k=L.length:=by
    have:=(List.getElem?_eq_some_iff.1 hr).1
    rw [List.length_append,List.length_singleton] at this; omega
   subst hk2
   rw [List.getElem?_append_right (by rw [List.length_set]; omega),List.length_set,Nat.sub_self] at hx
   rw [List.getElem?_append_right (by omega),hEL,Nat.sub_self] at hr
   exact .inr (.inr ⟨rfl,(Option.some.inj hx).symm,(Option.some.inj hr).symm⟩)
 refine ⟨h.fr,by rw [List.length_append,List.length_append,List.length_set,hEL]; rfl,fun k x r hx hr c hc=>?_,fun k x r hx hr=>?_,fun k k' x x' r r' c hx hx' hr hr' hc hc'=>?_⟩
 ·rcases cut k x r hx hr with ⟨_,rfl,rfl⟩ | ⟨_,_,h3,h4⟩ | ⟨_,rfl,rfl⟩
  ·exact h.rng b _ r hb hr0 c (hin c hc)
  ·exact h.rng k x r h3 h4 c hc
  ·exact h.rng b _ r0 hb hr0 c (hin0 c hc)
 ·rcases cut k x r hx hr with ⟨_,rfl,rfl⟩ | ⟨_,_,h3,h4⟩ | ⟨_,rfl,rfl⟩
  ·exact hC.is h2
  ·exact (h.blk k x r h3 h4).ext (Ext.app E _)
  ·exact (h1.all m (List.mem_cons_self ..)).is rfl
 ·rcases cut k x r hx hr with ⟨e1,rfl,rfl⟩ | ⟨n1,l1,h3,h4⟩ | ⟨e1,rfl,rfl⟩
  ·rcases cut k' x' r' hx' hr' with ⟨e2,_,_⟩ | ⟨n2,l2,h5,h6⟩ | ⟨e2,rfl,rfl⟩
   ·omega
   ·exact absurd (h.inj k' b x' _ r' r c h5 hb h6 hr0 hc' (hin c hc)) n2
   ·obtain ⟨m',hm',hc2⟩:=hc
    exact absurd hc2 (hap.1 m' hm' c hc')
  ·rcases cut k' x' r' hx' hr' with ⟨e2,rfl,rfl⟩ | ⟨n2,l2,h5,h6⟩ | ⟨e2,rfl,rfl⟩
   ·exact absurd (h.inj k b x _ r r' c h3 hb h4 hr0 hc (hin c hc')) n1
   ·exact h.inj k k' x x' r r' c h3 h5 h4 h6 hc hc'
   ·exact absurd (h.inj k b x _ r r0 c h3 hb h4 hr0 hc (hin0 c hc')) n1
  ·rcases cut k' x' r' hx' hr' with ⟨e2,rfl,rfl⟩ | ⟨n2,l2,h5,h6⟩ | ⟨e2,_,_⟩
   ·obtain ⟨m',hm',hc2⟩:=hc'
    exact absurd hc2 (hap.1 m' hm' c hc)
   ·exact absurd (h.inj k' b x' _ r' r0 c h5 hb h6 hr0 hc' (hin0 c hc)) n2
   ·omega
/-- one is put in -/
theorem Rep.crowdIn {b k:Nat} {Es:Emb} {Ls:LH} {ms:List Mem} (h:Rep X w0 E L w) (hne:b≠k) (hb:L[b]?=some (crowd ms)) (hk:L[k]?=some (box Es Ls)):Rep X w0 E ((L.set b (crowd ((Es,Ls)::ms))).set k .dead) w:=by
 obtain ⟨r,hr⟩:=h.ent hb
 obtain ⟨q,hq⟩:=h.ent hk
 obtain ⟨h1,h2,_⟩:=h.blk b _ r hb hr
 have h3:BoxAt Es Ls w:=(h.blk k _ q hk hq).1
 refine h.merge hne hb hr hk hq (Fr.refl _ w) (CrowdAt.is ⟨fun m hm=>?_,List.pairwise_cons.2 ⟨fun m hm c hc hc'=>?_,h1.apart⟩⟩ h2) fun c hc=>?_
 ·rcases List.mem_cons.1 hm with rfl | hm
  ·exact h3
  ·exact h1.all m hm
 ·exact hne (h.inj b k _ _ r q c hb hk hr hq ⟨m,hm,hc'⟩ hc)
 ·obtain ⟨m,hm,hc⟩:=hc
  rcases List.mem_cons.1 hm with rfl | hm
  ·exact .inr (.inl hc)
  ·exact .inl ⟨m,hm,hc⟩
end
section
variable {P:Program} {n0:NA} {l:Env} {L L1:LH} {Q:Exit→Env→LH→Prop} {T:Taken} {K:Env→LH→Prop} {ss:List Step}
/-- L can be told as L1: all names stay,names may come new -/
def More (L L1:LH):Prop:=L.length≤L1.length∧∀ (X:Nat→Prop) (w0:World) (E:Emb) (w:World),Rep X w0 E L w→∃ E',Ext E E'∧Rep X w0 E' L1 w
theorem More.refl (L:LH):More L L:=⟨Nat.le_refl _,fun _ _ E _ h=>⟨E,Ext.refl E,h⟩⟩
theorem More.trans {L L1 L2:LH} (h:More L L1) (k:More L1 L2):More L L2:=⟨Nat.le_trans h.1 k.1,fun X w0 E w hR=>by
 obtain ⟨E1,h1,h2⟩:=h.2 X w0 E w hR
 obtain ⟨E2,h3,h4⟩:=k.2 X w0 E1 w h2
 exact ⟨E2,fun i r hi=>h3 i r (h1 i r hi),h4⟩⟩
theorem More.out {b:Nat} {m:Mem} {ms:List Mem} (hb:L[b]?=some (crowd (m::ms))):More L (L.set b (crowd ms)++[box m.1 m.2]) :=
 ⟨by rw [List.length_append,List.length_set]; exact Nat.le_add_right _ _,fun _ _ E _ hR=>⟨_,Ext.app E _,hR.crowdOut hb⟩⟩
theorem More.in {b k:Nat} {Es:Emb} {Ls:LH} {ms:List Mem} (hne:b≠k) (hb:L[b]?=some (crowd ms)) (hk:L[k]?=some (box Es Ls)):More L ((L.set b (crowd ((Es,Ls)::ms))).set k .dead) :=
 ⟨by rw [List.length_set,List.length_set]; exact Nat.le_refl _,fun _ _ E _ hR=>⟨E,Ext.refl E,hR.crowdIn hne hb hk⟩⟩
theorem More.perm {b:Nat} {ms ms':List Mem} (hb:L[b]?=some (crowd ms)) (hp:ms.Perm ms'):More L (L.set b (crowd ms')) :=
 ⟨by rw [List.length_set]; exact Nat.le_refl _,fun _ _ E _ hR=>⟨E,Ext.refl E,hR.crowdP hb hp⟩⟩
theorem More.open {b:Nat} {Es:Emb} {Ls:LH} (hb:L[b]?=some (box Es Ls)):More L (L.set b .dead++unbox L.length Ls) :=
 ⟨by rw [List.length_append,List.length_set]; exact Nat.le_add_right _ _,fun _ _ E _ hR=>⟨_,Ext.app E _,hR.open hb⟩⟩
theorem TrK.pre {keep:List Nat} {f:FuncId} {us:List Value} {R:Value→LH→Prop} (hm:More L L1) (ht:TrK P [] keep f us L1 R):TrK P [] keep f us L R:=by
 intro X w0 w E vs' hA hR hv
 obtain ⟨E1,h1,h2⟩:=hm.2 X w0 E w hR
 obtain ⟨h3,h4⟩:=ht X w0 w E1 vs' ⟨h2.len,by simp,hA.2.2⟩ h2 (hv.mono fun _ _ k=>k.ext h1)
 refine ⟨h3,h4.mono ?_⟩
 rintro v' w' ⟨E',v,L',g1,g0,g2,g3,g4⟩
 exact ⟨E',v,L',fun k r hk hr=>g1 k r hk (h1 k r hr),Nat.le_trans hm.1 g0,g2,g3,g4⟩
theorem TrK.post {keep:List Nat} {f:FuncId} {us:List Value} {R R':Value→LH→Prop} (ht:TrK P [] keep f us L R) (hR':∀ v K,R v K→∃ K',More K K'∧R' v K'):TrK P [] keep f us L R':=by
 intro X w0 w E vs' hA hR hv
 obtain ⟨h3,h4⟩:=ht X w0 w E vs' hA hR hv
 refine ⟨h3,h4.mono ?_⟩
 rintro v' w' ⟨E',v,L',g1,g0,g2,g3,g4⟩
 obtain ⟨K',hm,hr⟩:=hR' v L' g4
 obtain ⟨E2,k1,k2⟩:=hm.2 X w0 E' w' g3
 exact ⟨E2,v,K',fun k r hk hr=>k1 k r (g1 k r hk hr),Nat.le_trans g0 hm.1,g2.ext k1,k2,hr⟩
theorem LWp.more {m:MC} (hm:More L L1) (h:LWp P n0 m Q l L1):LWp P n0 m Q l L:=⟨fun X w0 E0 w E l' h0 hE hR hl=>by
 obtain ⟨E1,h1,h2⟩:=hm.2 X w0 E w hR
 exact h.go X w0 E0 w E1 l' h0 (hE.trans h1) h2 (hl.ext h1)⟩
theorem LSt.more (hm:More L L1) (h:LSt P n0 ss K l T L1):LSt P n0 ss K l T L:=⟨fun X w0 E0 w E l' F h0 hE hR hl hT=>by
 obtain ⟨E1,h1,h2⟩:=hm.2 X w0 E w hR
 exact h.go X w0 E0 w E1 l' F h0 (hE.trans h1) h2 (hl.ext h1) (hT.ext h1)⟩
end
end Go.Tum
end
section
/-
 Boxes are closed: names of what is put away become real addresses.
-/
namespace Go.Tum
open Go

/-- a name behind N as a real address -/
def realV (N:Nat) (Es:Emb) (v:Value):Value:=match v with
 | .pointer (some ⟨b,o,none⟩)=>(match Nat.ble N b,Es[b-N]? with
  | true,some r=>adR r o
  | _,_=>.pointer (some ⟨b,o,none⟩))
 | v=>v
def realB (N:Nat) (Es:Emb):LB→LB
 | .cells sz vs=>.cells sz (vs.map (realV N Es))
 | .map m c=>.map (m.map fun x=>(x.1,realV N Es x.2.1,x.2.2)) c
 | x=>x
def realE (N:Nat) (Es:Emb):Env→Env
 | []=>[]
 | (t,v)::r=>(t,realV N Es v)::realE N Es r
/-- Es are E's from N on -/
def From (E:Emb) (N:Nat) (Es:Emb):Prop:=∀ (i:Nat) (r:Nat × Nat × Nat),Es[i]?=some r→E[N+i]?=some r
section
variable {E Es:Emb} {N:Nat}
theorem From.drop (E:Emb) (N:Nat):From E N (E.drop N):=fun i r h=>by rwa [List.getElem?_drop] at h
theorem From.ext {E':Emb} (h:From E N Es) (k:Ext E E'):From E' N Es:=fun i r hi=>k _ r (h i r hi)
theorem S0.real (hf:From E N Es) {b o:Nat} {v':Value} (k:S0 E (.pointer (some ⟨b,o,none⟩)) v'):S0 E (realV N Es (.pointer (some ⟨b,o,none⟩))) v':=by
 unfold realV
 simp only
 split
 ·rename_i r hb hr
  have hb:=Nat.le_of_ble_eq_true hb
  have h1:=hf _ r hr
  rw [show N+(b-N)=b by omega] at h1
  obtain ⟨a',g1,_,r',g3,g4⟩:=k
  have g3:E[b]?=some r':=g3
  rw [h1] at g3; cases g3
  show v'=_
  rw [g1,g4]
 ·exact k
theorem realV_other {v:Value} (h:∀ b o,v≠.pointer (some ⟨b,o,none⟩)):realV N Es v=v:=by
 unfold realV
 split
 ·exact absurd rfl (h _ _)
 ·rfl
theorem SR.real (hf:From E N Es) {v v':Value} (k:SR E v v'):SR E (realV N Es v) v':=by
 by_cases h:∃ b o,v=.pointer (some ⟨b,o,none⟩)
 ·obtain ⟨b,o,rfl⟩:=h
  have:=S0.real hf (show S0 E (.pointer (some ⟨b,o,none⟩)) v' from k)
  revert this
  unfold realV
  simp only
  split <;> exact fun h=>h
 ·rw [realV_other fun b o e=>h ⟨b,o,e⟩]; exact k
theorem V1.real (hf:From E N Es) {v v':Value} (k:V1 E v v'):V1 E (realV N Es v) v':=by
 by_cases h:∃ b o,v=.pointer (some ⟨b,o,none⟩)
 ·obtain ⟨b,o,rfl⟩:=h
  have:=S0.real hf (show S0 E (.pointer (some ⟨b,o,none⟩)) v' from k)
  revert this
  unfold realV
  simp only
  split <;> exact fun h=>h
 ·rw [realV_other fun b o e=>h ⟨b,o,e⟩]; exact k
theorem VR.real (hf:From E N Es) {v v':Value} (k:VR E v v'):VR E (realV N Es v) v':=by
 by_cases h:∃ b o,v=.pointer (some ⟨b,o,none⟩)
 ·obtain ⟨b,o,rfl⟩:=h
  have:=S0.real hf (show S0 E (.pointer (some ⟨b,o,none⟩)) v' from k)
  revert this
  unfold realV
  simp only
  split <;> exact fun h=>h
 ·rw [realV_other fun b o e=>h ⟨b,o,e⟩]; exact k
theorem M2.real (hf:From E N Es):∀ {m:List (Value × Value × Nat)} {es:List MapEntry},M2 E m es→M2 E (m.map fun x=>(x.1,realV N Es x.2.1,x.2.2)) es
 | [],[],_=>trivial
 | _::_,_::_,k=>⟨⟨k.1.1,k.1.2.1.real hf,k.1.2.2⟩,M2.real hf k.2⟩
 | [],_::_,k=>k.elim
 | _::_,[],k=>k.elim
theorem foot_real (r:Nat × Nat × Nat) (x:LB):foot r (realB N Es x)=foot r x:=by cases x <;> rfl
theorem LBis.real (hf:From E N Es) {w:World} {r:Nat × Nat × Nat} {x:LB} (k:LBis E w r x):LBis E w r (realB N Es x):=by
 cases x with
 | cells sz vs =>
  obtain ⟨cs,h1,h2,h3⟩:=k
  refine ⟨cs,h1,?_,?_⟩
  ·rw [List.length_map]; exact L2.into (f:=realV N Es) (fun _ _ k=>SR.real hf k) h2
  ·rw [List.length_map]; exact h3
 | map m c=>obtain ⟨es,h1,h2⟩:=k; exact ⟨es,h1,h2.real hf⟩
 | data vs=>exact k
 | bytes n x=>exact k
 | gro sz vs=>exact k
 | iter m a l b=>exact k
 | dead=>exact k
 | abs A F=>exact k
 | imap G c=>exact k
theorem ER.real (hf:From E N Es):∀ {l:Env} {l':Env},ER E l l'→ER E (realE N Es l) l':=by
 intro l l' h t v ht
 have key:∀ (l:Env) (t:Nat) (v:Value),eget (realE N Es l) t=some v→∃ u,eget l t=some u∧v=realV N Es u:=by
  intro l
  induction l with
  | nil=>intro t v h; cases h
  | cons a r ih =>
   intro t v h
   obtain ⟨s,u⟩:=a
   simp only [realE,eget] at h ⊢
   cases hq:Nat.beq s t with
   | true=>rw [hq] at h; exact ⟨u,rfl,(Option.some.inj h).symm⟩
   | false=>rw [hq] at h; exact ih t v h
 obtain ⟨u,h1,rfl⟩:=key l t v ht
 obtain ⟨v',h2,h3⟩:=h t u h1
 exact ⟨v',h2,h3.real hf⟩
variable {X:Nat→Prop} {w0 w:World} {L:LH}
theorem Rep.real (hf:From E N Es) (h:Rep X w0 E L w):Rep X w0 E (L.map (realB N Es)) w:=by
 have at_:∀ (k:Nat) (x:LB),(L.map (realB N Es))[k]?=some x→∃ y,L[k]?=some y∧x=realB N Es y:=fun k x hx=>by
  rw [List.getElem?_map] at hx
  cases hq:L[k]? with
  | none=>rw [hq] at hx; cases hx
  | some y=>rw [hq] at hx; exact ⟨y,rfl,(Option.some.inj hx).symm⟩
 refine ⟨h.fr,by rw [List.length_map]; exact h.len,fun k x r hx hr c hc=>?_,fun k x r hx hr=>?_,fun k k' x x' r r' c hx hx' hr hr' hc hc'=>?_⟩
 ·obtain ⟨y,h1,rfl⟩:=at_ k x hx
  rw [foot_real] at hc
  exact h.rng k y r h1 hr c hc
 ·obtain ⟨y,h1,rfl⟩:=at_ k x hx
  exact (h.blk k y r h1 hr).real hf
 ·obtain ⟨y,h1,rfl⟩:=at_ k x hx
  obtain ⟨y',h2,rfl⟩:=at_ k' x' hx'
  rw [foot_real] at hc hc'
  exact h.inj k k' y y' r r' c h1 h2 hr hr' hc hc'
/-- what the others look like when the last blocks have become a box -/
def closed (M:LH) (Ls:LH) (Es:Emb):LH:=M.map (realB M.length Es)++List.replicate Ls.length .dead++[box Es Ls]
theorem Rep.closeR {M Ls:LH} (h:Rep X w0 E (M++unbox M.length Ls) w):Rep X w0 (E++[(0,0,0)]) (closed M Ls (E.drop M.length)) w∧From (E++[(0,0,0)]) M.length (E.drop M.length)∧(E.drop M.length).length=Ls.length:=by
 have hlen:E.length=M.length+Ls.length:=by rw [h.len]; unfold unbox; rw [List.length_append,List.length_map]
 have hF:=(From.drop E M.length).ext (Ext.app E [(0,0,0)])
 refine ⟨?_,hF,by rw [List.length_drop]; omega⟩
 have:=h.close.real hF
 rw [List.map_append,List.map_append,List.map_replicate] at this
 exact this
end
section
variable {P:Program} {n0:NA} {l:Env} {L:LH} {Q:Exit→Env→LH→Prop}
theorem LWp.closeB {m:MC} {M Ls:LH} (h:∀ Es:Emb,Es.length=Ls.length→LWp P n0 m Q (realE M.length Es l) (closed M Ls Es)):LWp P n0 m Q l (M++unbox M.length Ls):=⟨fun X w0 E0 w E l' h0 hE hR hl=>by
 obtain ⟨h1,h2,h3⟩:=hR.closeR
 exact (h _ h3).go X w0 E0 w _ l' h0 (hE.trans (Ext.app E _)) h1 ((hl.ext (Ext.app E _)).real h2)⟩
theorem TrK.closeR {keep:List Nat} {f:FuncId} {us:List Value} {M Ls:LH} {R:Value→LH→Prop} {v1:Value} (ht:TrK P [] keep f us L (fun v K=>v=v1∧K=M++unbox M.length Ls)) (hR:∀ Es:Emb,Es.length=Ls.length→R (realV M.length Es v1) (closed M Ls Es)):TrK P [] keep f us L R:=by
 intro X w0 w E vs' hA hR' hv
 obtain ⟨h1,h2⟩:=ht X w0 w E vs' hA hR' hv
 refine ⟨h1,h2.mono ?_⟩
 rintro v' w' ⟨E',_,_,g1,g0,g2,g3,rfl,rfl⟩
 obtain ⟨k1,k2,k3⟩:=g3.closeR
 refine ⟨E'++[(0,0,0)],_,_,fun k r hk hr=>Ext.app E' _ k r (g1 k r hk hr),?_,(g2.ext (Ext.app E' _)).real k2,k1,hR _ k3⟩
 unfold closed
 unfold unbox at g0
 rw [List.length_append,List.length_map] at g0
 rw [List.length_append,List.length_append,List.length_replicate,List.length_map]
 omega
end
end Go.Tum
end
section
/-
 An object of a crowd,and what it shares with the others: contracts over both.
-/
namespace Go.Tum
open Go

section
variable {X:Nat→Prop} {w0 w w':World} {E ea em:Emb} {L A S T:LH}
/-- a value in an object's own names; the same where the shared blocks have names,too -/
def Up (ea:Emb) (v u:Value):Prop:=∀ (em:Emb) (v':Value),SR em v v'↔SR (ea++em) u v'
def UpB (ea:Emb) (x y:LB):Prop:=(∀ (em:Emb) (w:World) (r:Nat × Nat × Nat),LBis em w r x↔LBis (ea++em) w r y)∧∀ r,foot r x=foot r y
/-- shared blocks name nothing but themselves -/
def Self (A:LH):Prop:=∀ (i:Nat) (x:LB),A[i]?=some x→∀ (ea em:Emb) (w:World) (r:Nat × Nat × Nat),ea.length=A.length→(LBis ea w r x↔LBis (ea++em) w r x)
/-- a slice at a real address -/
def slR (r:Nat × Nat × Nat) (o n c:Nat):Value:=.slice (some ⟨r.1,o+r.2.1,some 0⟩) n (c+r.2.2)

theorem app_get {α:Type} {a b:List α} (i:Nat):(a++b)[a.length+i]?=b[i]?:=by
 rw [List.getElem?_append_right (by omega)]; congr 1; omega
theorem Up.int {k:IntKind} {n:Int}:Up ea (.int k n) (.int k n):=fun _ _=>Iff.rfl
theorem Up.ptr {i o a:Nat} (ha:ea.length+i=a):Up ea (.pointer (some ⟨i,o,none⟩)) (.pointer (some ⟨a,o,none⟩)):=fun em v'=>by
 subst ha
 constructor
 ·rintro ⟨a',h1,h2,r,h3,h4⟩
  exact ⟨a',h1,h2,r,by show (ea++em)[_]?=_; rw [app_get]; exact h3,h4⟩
 ·rintro ⟨a',h1,h2,r,h3,h4⟩
  exact ⟨a',h1,h2,r,by have h3:(ea++em)[ea.length+i]?=_:=h3; rw [app_get] at h3; exact h3,h4⟩
theorem Up.map {i a:Nat} (ha:ea.length+i=a):Up ea (.map (some i)) (.map (some a)):=fun em v'=>by
 subst ha
 constructor
 ·rintro ⟨r,h1,h2⟩
  exact ⟨r,by rw [app_get]; exact h1,h2⟩
 ·rintro ⟨r,h1,h2⟩
  exact ⟨r,by rw [app_get] at h1; exact h1,h2⟩
theorem Up.sl {i o n c a:Nat} (ha:ea.length+i=a):Up ea (.slice (some ⟨i,o,none⟩) n c) (.slice (some ⟨a,o,none⟩) n c):=fun em v'=>by
 subst ha
 constructor
 ·rintro ⟨h0,r,h1,h2⟩
  exact ⟨h0,r,by show (ea++em)[_]?=_; rw [app_get]; exact h1,h2⟩
 ·rintro ⟨h0,r,h1,h2⟩
  exact ⟨h0,r,by have h1:(ea++em)[ea.length+i]?=_:=h1; rw [app_get] at h1; exact h1,h2⟩
/-- what is shared has a real address in the object -/
theorem Up.adR {i o:Nat} {r:Nat × Nat × Nat} (hr:ea[i]?=some r):Up ea (adR r o) (.pointer (some ⟨i,o,none⟩)):=fun em v'=>by
 have hg:(ea++em)[i]?=some r:=by rw [List.getElem?_append_left (List.getElem?_eq_some_iff.1 hr).1]; exact hr
 constructor
 ·intro h
  have h:v'=.pointer (some ⟨r.1,o+r.2.1,none⟩):=h
  subst h
  exact ⟨_,rfl,rfl,r,hg,rfl⟩
 ·rintro ⟨a',h1,_,r',h3,h4⟩
  have h3:(ea++em)[i]?=_:=h3
  rw [hg] at h3; cases h3
  show v'=_
  rw [h1,h4]
theorem Up.slR {i o n c:Nat} {r:Nat × Nat × Nat} (hr:ea[i]?=some r) (hn:n≠0):Up ea (slR r o n c) (.slice (some ⟨i,o,none⟩) n c):=fun em v'=>by
 have hg:(ea++em)[i]?=some r:=by rw [List.getElem?_append_left (List.getElem?_eq_some_iff.1 hr).1]; exact hr
 constructor
 ·rintro (h | ⟨h,_⟩)
  ·exact ⟨rfl,r,hg,.inl ⟨_,_,h,.inl ⟨rfl,rfl⟩⟩⟩
  ·exact absurd h hn
 ·rintro ⟨_,r',h3,h4⟩
  have h3:(ea++em)[i]?=_:=h3
  rw [hg] at h3; cases h3
  rcases h4 with ⟨a',c',h5,⟨h6,h7⟩ | ⟨h6,_⟩⟩ | ⟨h6,_⟩
  ·left; rw [h5,h6,h7]
  ·exact absurd h6 hn
  ·exact absurd h6 hn
/-- stale ones -/
theorem Up.slice {a:Addr} {n c:Nat} {s:Nat} (hs:a.spot=some s):Up ea (.slice (some a) n c) (.slice (some a) n c):=fun em v'=>by
 obtain ⟨b,o,sp⟩:=a
 have hs:sp=some s:=hs
 subst hs
 exact Iff.rfl
theorem UpL2 {us vs:List Value} (h:L2 (Up ea) vs us):∀ (em:Emb) (cs:List Value),L2 (SR em) vs cs↔L2 (SR (ea++em)) us cs:=by
 induction vs generalizing us with
 | nil =>
  cases us with
  | nil=>exact fun _ cs=>by cases cs <;> exact Iff.rfl
  | cons _ _=>exact h.elim
 | cons v vs ih =>
  cases us with
  | nil=>exact h.elim
  | cons u us =>
   intro em cs
   cases cs with
   | nil=>exact Iff.rfl
   | cons c cs=>exact ⟨fun k=>⟨(h.1 em c).1 k.1,(ih h.2 em cs).1 k.2⟩,fun k=>⟨(h.1 em c).2 k.1,(ih h.2 em cs).2 k.2⟩⟩
theorem L2_len {R:Value→Value→Prop}:∀ {a b:List Value},L2 R a b→a.length=b.length
 | [],[],_=>rfl
 | _::_,_::_,h=>by simp [L2_len h.2]
 | [],_::_,h=>h.elim
 | _::_,[],h=>h.elim
theorem UpB.cells {sz:Nat} {us vs:List Value} (h:L2 (Up ea) vs us):UpB ea (.cells sz vs) (.cells sz us):=by
 have hl:=L2_len h
 refine ⟨fun em w r=>?_,fun _=>rfl⟩
 simp only [LBis]
 constructor
 ·rintro ⟨cs,h1,h2,h3⟩
  exact ⟨cs,h1,by rw [← hl]; exact (UpL2 h em _).1 h2,by rw [← hl]; exact h3⟩
 ·rintro ⟨cs,h1,h2,h3⟩
  exact ⟨cs,h1,by rw [hl]; exact (UpL2 h em _).2 (by rw [← hl] at h2 ⊢; exact h2),by rw [hl]; exact h3⟩
theorem UpB.gro {sz:Nat} {vs:List Value}:UpB ea (.gro sz vs) (.gro sz vs):=⟨fun _ _ _=>Iff.rfl,fun _=>rfl⟩
theorem UpB.imap {G:IMap} {c:Nat}:UpB ea (.imap G c) (.imap G c):=⟨fun _ _ _=>Iff.rfl,fun _=>rfl⟩
theorem UpB.dead:UpB ea .dead .dead:=⟨fun _ _ _=>Iff.rfl,fun _=>rfl⟩
def UpL (ea:Emb):LH→LH→Prop
 | [],[]=>True
 | x::S,y::T=>UpB ea x y∧UpL ea S T
 | _,_=>False
theorem UpL.len:∀ {S T:LH},UpL ea S T→S.length=T.length
 | [],[],_=>rfl
 | _::_,_::_,h=>by simp [UpL.len h.2]
 | [],_::_,h=>h.elim
 | _::_,[],h=>h.elim
theorem UpL.get:∀ {S T:LH},UpL ea S T→∀ (i:Nat) (y:LB),T[i]?=some y→∃ x,S[i]?=some x∧UpB ea x y
 | [],[],_,i,y,h=>by simp at h
 | x::S,z::T,h,0,y,e=>by simp at e; subst e; exact ⟨x,rfl,h.1⟩
 | x::S,z::T,h,i+1,y,e=>UpL.get h.2 i y e
 | [],_::_,h,_,_,_=>h.elim
 | _::_,[],h,_,_,_=>h.elim
theorem UpL.get':∀ {S T:LH},UpL ea S T→∀ (i:Nat) (x:LB),S[i]?=some x→∃ y,T[i]?=some y∧UpB ea x y
 | [],[],_,i,y,h=>by simp at h
 | x::S,z::T,h,0,y,e=>by simp at e; subst e; exact ⟨z,rfl,h.1⟩
 | x::S,z::T,h,i+1,y,e=>UpL.get' h.2 i y e
 | [],_::_,h,_,_,_=>h.elim
 | _::_,[],h,_,_,_=>h.elim
/-- values of shared blocks -/
def SelfV (a:Nat) (v:Value):Prop:=∀ (ea em:Emb) (v':Value),ea.length=a→(SR ea v v'↔SR (ea++em) v v')
theorem SelfV.int {a:Nat} {k:IntKind} {n:Int}:SelfV a (.int k n):=fun _ _ _ _=>Iff.rfl
theorem SelfV.sl {a i o n c:Nat} (h:i<a):SelfV a (.slice (some ⟨i,o,none⟩) n c):=fun ea em v' hl=>by
 have e:(ea++em)[i]?=ea[i]?:=List.getElem?_append_left (by omega)
 constructor
 ·rintro ⟨h0,r,h1,h2⟩; exact ⟨h0,r,by show (ea++em)[i]?=_; rw [e]; exact h1,h2⟩
 ·rintro ⟨h0,r,h1,h2⟩; exact ⟨h0,r,by rw [← e]; exact h1,h2⟩
theorem SelfL {a:Nat} {vs:List Value} (h:∀ v∈vs,SelfV a v):∀ (ea em:Emb) (cs:List Value),ea.length=a→(L2 (SR ea) vs cs↔L2 (SR (ea++em)) vs cs):=by
 induction vs with
 | nil=>intro ea em cs _; cases cs <;> exact Iff.rfl
 | cons v vs ih =>
  intro ea em cs hl
  cases cs with
  | nil=>exact Iff.rfl
  | cons c cs=>exact ⟨fun k=>⟨(h v (List.mem_cons_self ..) ea em c hl).1 k.1,(ih (fun v hv=>h v (List.mem_cons_of_mem _ hv)) ea em cs hl).1 k.2⟩,fun k=>⟨(h v (List.mem_cons_self ..) ea em c hl).2 k.1,(ih (fun v hv=>h v (List.mem_cons_of_mem _ hv)) ea em cs hl).2 k.2⟩⟩
theorem Self.cellsB {a sz:Nat} {vs:List Value} (h:∀ v∈vs,SelfV a v) (ea em:Emb) (w:World) (r:Nat × Nat × Nat) (hl:ea.length=a):LBis ea w r (.cells sz vs)↔LBis (ea++em) w r (.cells sz vs):=by
 simp only [LBis]
 constructor
 ·rintro ⟨cs,h1,h2,h3⟩; exact ⟨cs,h1,(SelfL h ea em _ hl).1 h2,h3⟩
 ·rintro ⟨cs,h1,h2,h3⟩; exact ⟨cs,h1,(SelfL h ea em _ hl).2 h2,h3⟩

theorem BoxAt.rep (h:BoxAt em S w):Rep (footL em S) w em S w :=
 ⟨Fr.refl _ w,h.len,fun k x r hx hr b hf=>⟨.inr ⟨k,x,r,hx,hr,hf⟩,h.lt k x r b hx hr hf⟩,h.blk,h.inj⟩
theorem Rep.boxAt (h:Rep X w0 E L w):BoxAt E L w:=⟨h.len,h.blk,h.inj,fun k x r b hx hr hb=>(h.rng k x r hx hr b hb).2⟩
theorem split_get {M N:LH} {i:Nat} {x:LB} {r:Nat × Nat × Nat} (hl:ea.length=M.length) (hx:(M++N)[i]?=some x) (hr:(ea++em)[i]?=some r):(M[i]?=some x∧ea[i]?=some r)∨∃ j,i=M.length+j∧N[j]?=some x∧em[j]?=some r:=by
 by_cases h:i<M.length
 ·rw [List.getElem?_append_left h] at hx
  rw [List.getElem?_append_left (by omega)] at hr
  exact .inl ⟨hx,hr⟩
 ·rw [List.getElem?_append_right (by omega)] at hx
  rw [List.getElem?_append_right (by omega),hl] at hr
  exact .inr ⟨i-M.length,by omega,hx,hr⟩
theorem BoxAt.join (h1:BoxAt ea A w) (h2:BoxAt em S w) (hd:∀ c,footL ea A c→¬ footL em S c) (hS:UpL ea S T) (hA:Self A):BoxAt (ea++em) (A++T) w:=by
 have hl:=h1.len
 have key:∀ (i:Nat) (x:LB) (r:Nat × Nat × Nat),(A++T)[i]?=some x→(ea++em)[i]?=some r→(A[i]?=some x∧ea[i]?=some r)∨∃ j y,i=A.length+j∧S[j]?=some y∧em[j]?=some r∧UpB ea y x:=fun i x r hx hr=>by
  rcases split_get hl hx hr with h | ⟨j,h3,h4,h5⟩
  ·exact .inl h
  ·obtain ⟨y,h6,h7⟩:=hS.get j x h4
   exact .inr ⟨j,y,h3,h6,h5,h7⟩
 refine ⟨by rw [List.length_append,List.length_append,hl,h2.len,hS.len],fun i x r hx hr=>?_,fun i i' x x' r r' c hx hx' hr hr' hc hc'=>?_,fun i x r c hx hr hc=>?_⟩
 ·rcases key i x r hx hr with ⟨h3,h4⟩ | ⟨j,y,_,h3,h4,h5⟩
  ·exact (hA i x h3 ea em w r hl).1 (h1.blk i x r h3 h4)
  ·exact (h5.1 em w r).1 (h2.blk j y r h3 h4)
 ·rcases key i x r hx hr with ⟨h3,h4⟩ | ⟨j,y,e1,h3,h4,h5⟩
  ·rcases key i' x' r' hx' hr' with ⟨h6,h7⟩ | ⟨j',y',_,h6,h7,h8⟩
   ·exact h1.inj i i' x x' r r' c h3 h6 h4 h7 hc hc'
   ·exact absurd ⟨j',y',r',h6,h7,by rw [h8.2]; exact hc'⟩ (hd c ⟨i,x,r,h3,h4,hc⟩)
  ·rcases key i' x' r' hx' hr' with ⟨h6,h7⟩ | ⟨j',y',e2,h6,h7,h8⟩
   ·exact absurd ⟨j,y,r,h3,h4,by rw [h5.2]; exact hc⟩ (hd c ⟨i',x',r',h6,h7,hc'⟩)
   ·have:=h2.inj j j' y y' r r' c h3 h6 h4 h7 (by rw [h5.2]; exact hc) (by rw [h8.2]; exact hc')
    omega
 ·rcases key i x r hx hr with ⟨h3,h4⟩ | ⟨j,y,_,h3,h4,h5⟩
  ·exact h1.lt i x r c h3 h4 hc
  ·exact h2.lt j y r c h3 h4 (by rw [h5.2]; exact hc)
theorem BoxAt.split (h:BoxAt (ea++em) (A++T) w) (hl:ea.length=A.length) (hS:UpL ea S T) (hA:Self A):BoxAt ea A w∧BoxAt em S w∧∀ c,footL ea A c→¬ footL em S c:=by
 have i1:∀ (i:Nat) (x:LB),A[i]?=some x→(A++T)[i]?=some x:=fun i x hx=>by rw [List.getElem?_append_left (List.getElem?_eq_some_iff.1 hx).1]; exact hx
 have i2:∀ (i:Nat) (r:Nat × Nat × Nat),ea[i]?=some r→(ea++em)[i]?=some r:=fun i r hr=>by rw [List.getElem?_append_left (List.getElem?_eq_some_iff.1 hr).1]; exact hr
 have i3:∀ (j:Nat) (r:Nat × Nat × Nat),em[j]?=some r→(ea++em)[A.length+j]?=some r:=fun j r hr=>by rw [← hl,app_get]; exact hr
 have i4:∀ (j:Nat) (x:LB),S[j]?=some x→∃ y,(A++T)[A.length+j]?=some y∧UpB ea x y:=fun j x hx=>by
  obtain ⟨y,h1,h2⟩:=hS.get' j x hx
  exact ⟨y,by rw [app_get]; exact h1,h2⟩
 refine ⟨⟨hl,fun i x r hx hr=>(hA i x hx ea em w r hl).2 (h.blk i x r (i1 i x hx) (i2 i r hr)),fun i i' x x' r r' c hx hx' hr hr' hc hc'=>h.inj i i' x x' r r' c (i1 i x hx) (i1 i' x' hx') (i2 i r hr) (i2 i' r' hr') hc hc',fun i x r c hx hr hc=>h.lt i x r c (i1 i x hx) (i2 i r hr) hc⟩,⟨?_,fun j x r hx hr=>?_,fun j j' x x' r r' c hx hx' hr hr' hc hc'=>?_,fun j x r c hx hr hc=>?_⟩,?_⟩
 ·have:=h.len
  rw [List.length_append,List.length_append,← hS.len] at this; omega
 ·obtain ⟨y,h1,h2⟩:=i4 j x hx
  exact (h2.1 em w r).2 (h.blk _ y r h1 (i3 j r hr))
 ·obtain ⟨y,h1,h2⟩:=i4 j x hx
  obtain ⟨y',h3,h4⟩:=i4 j' x' hx'
  have:=h.inj _ _ y y' r r' c h1 h3 (i3 j r hr) (i3 j' r' hr') (by rw [← h2.2]; exact hc) (by rw [← h4.2]; exact hc')
  omega
 ·obtain ⟨y,h1,h2⟩:=i4 j x hx
  exact h.lt _ y r c h1 (i3 j r hr) (by rw [← h2.2]; exact hc)
 ·rintro c ⟨i,x,r,hx,hr,hc⟩ ⟨j,y,q,hy,hq,hc'⟩
  obtain ⟨z,h1,h2⟩:=i4 j y hy
  have:=h.inj i _ x z r q c (i1 i x hx) h1 (i2 i r hr) (i3 j q hq) hc (by rw [← h2.2]; exact hc')
  have:=(List.getElem?_eq_some_iff.1 hx).1
  omega
theorem footL_app (hl:ea.length=A.length) (hS:UpL ea S T) (c:Nat):footL (ea++em) (A++T) c↔footL ea A c∨footL em S c:=by
 constructor
 ·rintro ⟨i,x,r,hx,hr,hc⟩
  rcases split_get hl hx hr with ⟨h1,h2⟩ | ⟨j,_,h1,h2⟩
  ·exact .inl ⟨i,x,r,h1,h2,hc⟩
  ·obtain ⟨y,h3,h4⟩:=hS.get j x h1
   exact .inr ⟨j,y,r,h3,h2,by rw [h4.2]; exact hc⟩
 ·rintro (⟨i,x,r,hx,hr,hc⟩ | ⟨j,y,r,hy,hr,hc⟩)
  ·exact ⟨i,x,r,by rw [List.getElem?_append_left (List.getElem?_eq_some_iff.1 hx).1]; exact hx,by rw [List.getElem?_append_left (List.getElem?_eq_some_iff.1 hr).1]; exact hr,hc⟩
  ·obtain ⟨x,h1,h2⟩:=hS.get' j y hy
   exact ⟨A.length+j,x,r,by rw [app_get]; exact h1,by rw [← hl,app_get]; exact hr,by rw [← h2.2]; exact hc⟩
/-- two blocks have changed -/
theorem Rep.upd2 {b k:Nat} {x x' y z:LB} {r q:Nat × Nat × Nat} (h:Rep X w0 E L w) (hy:L[b]?=some y) (hr:E[b]?=some r) (hz:L[k]?=some z) (hq:E[k]?=some q) (hf:Fr (fun c=>foot r y c∨foot q z c) w w') (hx:LBis E w' r x) (hx':LBis E w' q x')
  (f1:∀ c,foot r x c→(foot r y c∨foot q z c)∨(w.heap.size≤c∧c<w'.heap.size)) (f2:∀ c,foot q x' c→(foot r y c∨foot q z c)∨(w.heap.size≤c∧c<w'.heap.size)) (hd:∀ c,foot r x c→¬ foot q x' c):Rep X w0 E ((L.set b x).set k x') w':=by
 have hb:=(List.getElem?_eq_some_iff.1 hy).1
 have hkl:=(List.getElem?_eq_some_iff.1 hz).1
 have frs:=h.fr.size
 have cut:∀ (i:Nat) (u:LB) (p:Nat × Nat × Nat),((L.set b x).set k x')[i]?=some u→E[i]?=some p→(i=b∧u=x∧p=r)∨(i=k∧u=x'∧p=q)∨(i≠b∧i≠k∧L[i]?=some u∧E[i]?=some p):=by
  intro i u p hu hp
  rw [List.getElem?_set,List.length_set] at hu
  by_cases e:k=i
  ·subst e
   rw [if_pos rfl,if_pos hkl] at hu; cases hu
   rw [hq] at hp; cases hp
   exact .inr (.inl ⟨rfl,rfl,rfl⟩)
  ·rw [if_neg e,List.getElem?_set] at hu
   by_cases e2:b=i
   ·subst e2
    rw [if_pos rfl,if_pos hb] at hu; cases hu
    rw [hr] at hp; cases hp
    exact .inl ⟨rfl,rfl,rfl⟩
   ·rw [if_neg e2] at hu
    exact .inr (.inr ⟨fun e'=>e2 e'.symm,fun e'=>e e'.symm,hu,hp⟩)
 have old:∀ (c:Nat),foot r y c∨foot q z c→(w0.heap.size≤c∨X c)∧c<w.heap.size:=fun c hc=>by
  rcases hc with hc | hc
  ·exact h.rng b y r hy hr c hc
  ·exact h.rng k z q hz hq c hc
 have oth:∀ (i:Nat) (u:LB) (p:Nat × Nat × Nat) (c:Nat),i≠b→i≠k→L[i]?=some u→E[i]?=some p→foot p u c→¬ ((foot r y c∨foot q z c)∨(w.heap.size≤c∧c<w'.heap.size)):=by
  rintro i u p c n1 n2 hu hp hc ((h1 | h1) | h1)
  ·exact n1 (h.inj i b u y p r c hu hy hp hr hc h1)
  ·exact n2 (h.inj i k u z p q c hu hz hp hq hc h1)
  ·have:=(h.rng i u p hu hp c hc).2; omega
 have rg:∀ (c:Nat),((foot r y c∨foot q z c)∨(w.heap.size≤c∧c<w'.heap.size))→(w0.heap.size≤c∨X c)∧c<w'.heap.size:=fun c hc=>by
  rcases hc with hc | hc
  ·exact ⟨(old c hc).1,Nat.lt_of_lt_of_le (old c hc).2 hf.size⟩
  ·exact ⟨.inl (by omega),hc.2⟩
 refine ⟨h.fr.trans hf fun c hc e=>by rcases (old c e).1 with h1 | h1 <;> first | omega|exact h1,by rw [h.len,List.length_set,List.length_set],fun i u p hu hp c hc=>?_,fun i u p hu hp=>?_,fun i i' u u' p p' c hu hu' hp hp' hc hc'=>?_⟩
 ·rcases cut i u p hu hp with ⟨_,rfl,rfl⟩ | ⟨_,rfl,rfl⟩ | ⟨_,_,h1,h2⟩
  ·exact rg c (f1 c hc)
  ·exact rg c (f2 c hc)
  ·have:=h.rng i u p h1 h2 c hc; exact ⟨this.1,Nat.lt_of_lt_of_le this.2 hf.size⟩
 ·rcases cut i u p hu hp with ⟨_,rfl,rfl⟩ | ⟨_,rfl,rfl⟩ | ⟨n1,n2,h1,h2⟩
  ·exact hx
  ·exact hx'
  ·exact (h.blk i u p h1 h2).fr hf (fun c hc=>(h.rng i u p h1 h2 c hc).2) fun c hc hc'=>oth i u p c n1 n2 h1 h2 hc (.inl hc')
 ·rcases cut i u p hu hp with ⟨e1,rfl,rfl⟩ | ⟨e1,rfl,rfl⟩ | ⟨n1,n2,h1,h2⟩
  ·rcases cut i' u' p' hu' hp' with ⟨e2,_,_⟩ | ⟨e2,rfl,rfl⟩ | ⟨n3,n4,h3,h4⟩
   ·omega
   ·exact absurd hc' (hd c hc)
   ·exact absurd (f1 c hc) (oth i' u' p' c n3 n4 h3 h4 hc')
  ·rcases cut i' u' p' hu' hp' with ⟨e2,rfl,rfl⟩ | ⟨e2,_,_⟩ | ⟨n3,n4,h3,h4⟩
   ·exact absurd hc (hd c hc')
   ·omega
   ·exact absurd (f2 c hc) (oth i' u' p' c n3 n4 h3 h4 hc')
  ·rcases cut i' u' p' hu' hp' with ⟨e2,rfl,rfl⟩ | ⟨e2,rfl,rfl⟩ | ⟨n3,n4,h3,h4⟩
   ·exact absurd (f1 c hc') (oth i u p c n1 n2 h1 h2 hc)
   ·exact absurd (f2 c hc') (oth i u p c n1 n2 h1 h2 hc)
   ·exact h.inj i i' u u' p p' c h1 h3 h2 h4 hc hc'
theorem Rep.tab {P:Program} (h:Rep X w0 E L w) (hT:TabOk P X w0) {F:Nat→Prop} (hF:∀ c,F c→∃ (i:Nat) (x:LB) (r:Nat × Nat × Nat),L[i]?=some x∧E[i]?=some r∧foot r x c):TabOk P F w:=fun g hg=>by
 obtain ⟨h1,h2,h3⟩:=hT g hg
 refine ⟨fun i x hx=>?_,fun hc=>?_,Nat.lt_of_lt_of_le h3 h.fr.size⟩
 ·rw [h.fr.cell h3 h2]; exact h1 i x hx
 ·obtain ⟨i,x,r,e1,e2,e3⟩:=hF g hc
  rcases (h.rng i x r e1 e2 g e3).1 with h4 | h4
  ·omega
  ·exact h2 h4
/-- a member of a crowd,and the others -/
def Has (ms:List Mem) (m:Mem) (rest:List Mem):Prop:=(∀ w,CrowdAt ms w→CrowdAt (m::rest) w)∧∀ (c:Nat) (m':Mem),m'∈m::rest→m'.at c→∃ m2∈ms,m2.at c
theorem Has.perm {ms rest:List Mem} {m:Mem} (h:ms.Perm (m::rest)):Has ms m rest:=⟨fun _ k=>k.perm h,fun _ m' hm hc=>⟨m',h.mem_iff.2 hm,hc⟩⟩
theorem Has.self {m:Mem} {rest:List Mem}:Has (m::rest) m rest:=.perm (List.Perm.refl _)
theorem Has.none {ms:List Mem}:Has ms ([],[]) ms:=⟨fun _ h=>⟨fun m hm=>by
  rcases List.mem_cons.1 hm with rfl | hm
  ·exact ⟨rfl,fun k x r hx=>by simp at hx,fun k k' x x' r r' b hx=>by simp at hx,fun k x r b hx=>by simp at hx⟩
  ·exact h.all m hm,List.pairwise_cons.2 ⟨fun m' _ b hb=>by obtain ⟨k,x,r,hx,_⟩:=hb; simp at hx,h.apart⟩⟩,fun _ m' hm hc=>by
  rcases List.mem_cons.1 hm with rfl | hm
  ·obtain ⟨k,x,r,hx,_⟩:=hc; simp at hx
  ·exact ⟨m',hm,hc⟩⟩
/-- a contract over a member and what is shared -/
theorem TrK.shared {P:Program} {keep:List Nat} {f:FuncId} {us vs:List Value} {A A' S T T':LH} {ea em:Emb} {ms rest:List Mem} {L:LH} {b k:Nat} {v1:Value} {V:Emb→Emb→Value} {S':Emb→LH}
  (ht:TrK P [] keep f us (A++T) (fun v K=>v=v1∧K=A'++T')) (hb:L[b]?=some (box ea A)) (hk:L[k]?=some (crowd ms)) (hne:b≠k) (hm:Has ms (em,S) rest) (hS:UpL ea S T) (hA:Self A) (hA':Self A') (hl:A'.length=A.length)
  (hS':∀ ea' em':Emb,ea'.length=A.length→em'.length=T'.length→(∀ i r,inL i keep=true→(ea++em)[i]?=some r→(ea'++em')[i]?=some r)→UpL ea' (S' ea') T') (hu:∀ E vs',L2 (VR E) vs vs'→ea.length=A.length→em.length=T.length→L2 (VR (ea++em)) us vs') (hv:∀ ea' em' v',ea'.length=A.length→em'.length=T'.length→(∀ i r,inL i keep=true→(ea++em)[i]?=some r→(ea'++em')[i]?=some r)→VR (ea'++em') v1 v'→∀ E,VR E (V ea' em') v') :
  TrK P [] (seqN 0 L.length) f vs L (fun v K=>∃ ea' em',ea'.length=A.length∧em'.length=T'.length∧(∀ i r,inL i keep=true→(ea++em)[i]?=some r→(ea'++em')[i]?=some r)∧v=V ea' em'∧K=(L.set b (box ea' A')).set k (crowd ((em',S' ea')::rest))):=by
 intro X w0 w E vs' hA0 hR hv'
 obtain ⟨r,hr⟩:=hR.ent hb
 obtain ⟨q,hq⟩:=hR.ent hk
 obtain ⟨h1,h2,_⟩:=hR.blk b _ r hb hr
 obtain ⟨h3,h4,_⟩:=hR.blk k _ q hk hq
 have h3:=hm.1 w h3
 have hB:BoxAt ea A w:=h1
 have hM:BoxAt em S w:=h3.all _ (List.mem_cons_self ..)
 have hap:=List.pairwise_cons.1 h3.apart
 have hfS:∀ c,footL em S c→foot q (crowd ms) c:=fun c hc=>hm.2 c (em,S) (List.mem_cons_self ..) hc
 have hfR:∀ c,(∃ m∈rest,m.at c)→foot q (crowd ms) c:=fun c ⟨m,h,hc⟩=>hm.2 c m (List.mem_cons_of_mem _ h) hc
 have hdj:∀ c,footL ea A c→¬ foot q (crowd ms) c:=fun c hc hc'=>hne (hR.inj b k _ _ r q c hb hk hr hq hc hc')
 have hJ:=hB.join hM (fun c hc hc'=>hdj c hc (hfS c hc')) hS hA
 have hF:∀ c,footL (ea++em) (A++T) c→footL ea A c∨footL em S c:=fun c hc=>(footL_app hB.len hS c).1 hc
 have hT:=hR.tab hA0.2.2 (F:=footL (ea++em) (A++T)) fun c hc=>by
  rcases hF c hc with h | h
  ·exact ⟨b,_,r,hb,hr,h⟩
  ·exact ⟨k,_,q,hk,hq,hfS c h⟩
 have hc:=ht (footL (ea++em) (A++T)) w w (ea++em) vs' ⟨hJ.len,by simp,hT⟩ hJ.rep (hu E vs' hv' hB.len (by rw [hM.len,hS.len]))
 refine ⟨hc.1,hc.2.mono ?_⟩
 rintro v' w' ⟨E',_,_,g1,g0,g2,g3,rfl,rfl⟩
 have gl:=g3.len
 rw [List.length_append] at gl
 obtain ⟨ea',em',rfl,e1⟩:∃ ea' em',E'=ea'++em'∧ea'.length=A.length:=⟨E'.take A.length,E'.drop A.length,(List.take_append_drop _ _).symm,by rw [List.length_take]; omega⟩
 rw [List.length_append] at gl
 have e2:em'.length=T'.length:=by omega
 have e3:∀ i r,inL i keep=true→(ea++em)[i]?=some r→(ea'++em')[i]?=some r:=fun i p hi hp=>g1 i p hi hp
 have hS':=hS' ea' em' e1 e2 e3
 obtain ⟨k1,k2,k3⟩:=g3.boxAt.split (by rw [e1,hl]) hS' hA'
 have hfr:=g3.fr
 have new:∀ c,footL (ea'++em') (A'++T') c→(foot r (box ea A) c∨foot q (crowd ms) c)∨(w.heap.size≤c∧c<w'.heap.size):=fun c hc=>by
  obtain ⟨i,x,p,hx,hp,hc⟩:=hc
  obtain ⟨h5,h6⟩:=g3.rng i x p hx hp c hc
  rcases h5 with h5 | h5
  ·exact .inr ⟨h5,h6⟩
  ·left
   rcases hF c h5 with h | h
   ·exact .inl h
   ·exact .inr (hfS c h)
 have nA:∀ c,footL ea' A' c→footL (ea'++em') (A'++T') c:=fun c hc=>(footL_app (by rw [e1,hl]) hS' c).2 (.inl hc)
 have nS:∀ c,footL em' (S' ea') c→footL (ea'++em') (A'++T') c:=fun c hc=>(footL_app (by rw [e1,hl]) hS' c).2 (.inr hc)
 have hrest:∀ c,(∃ m∈rest,m.at c)→¬ footL (ea++em) (A++T) c:=fun c hc hc'=>by
  rcases hF c hc' with h | h
  ·exact hdj c h (hfR c hc)
  ·obtain ⟨m,hmm,hcm⟩:=hc
   exact hap.1 m hmm c h hcm
 have hrest2:∀ c,(∃ m∈rest,m.at c)→¬ footL (ea'++em') (A'++T') c:=fun c hc hc'=>by
  obtain ⟨i,x,p,hx,hp,hcc⟩:=hc'
  rcases (g3.rng i x p hx hp c hcc).1 with h5 | h5
  ·have:=(hR.rng k _ q hk hq c (hfR c hc)).2; omega
  ·exact hrest c hc h5
 have hCr:CrowdAt rest w':=CrowdAt.fr (w:=w) ⟨fun m hm=>h3.all m (List.mem_cons_of_mem _ hm),hap.2⟩ hfr hrest
 have hC:CrowdAt ((em',S' ea')::rest) w':=⟨fun m hm=>by
  rcases List.mem_cons.1 hm with rfl | hm
  ·exact k2
  ·exact hCr.all m hm,List.pairwise_cons.2 ⟨fun m hmm c hc hc'=>hrest2 c ⟨m,hmm,hc'⟩ (nS c hc),hap.2⟩⟩
 refine ⟨E,_,_,fun _ _ _ h=>h,?_,hv ea' em' v' e1 e2 e3 g2 E,?_,ea',em',e1,e2,e3,rfl,rfl⟩
 ·rw [List.length_set,List.length_set]; exact Nat.le_refl _
 ·refine hR.upd2 hb hr hk hq (hfr.mono fun c _ hc=>?_) (k1.is h2) (hC.is h4) (fun c hc=>new c (nA c hc)) (fun c hc=>?_) (fun c hc hc'=>?_)
  ·rcases hF c hc with h | h
   ·exact .inl h
   ·exact .inr (hfS c h)
  ·obtain ⟨m,hmm,hcm⟩:=hc
   rcases List.mem_cons.1 hmm with rfl | hmm
   ·exact new c (nS c hcm)
   ·exact .inl (.inr (hfR c ⟨m,hmm,hcm⟩))
  ·obtain ⟨m,hmm,hcm⟩:=hc'
   rcases List.mem_cons.1 hmm with rfl | hmm
   ·exact k3 c hc hcm
   ·exact hrest2 c ⟨m,hmm,hcm⟩ (nA c hc)
theorem crowd_perm {ms ms':List Mem} (h:ms.Perm ms'):crowd ms=crowd ms':=by
 unfold crowd
 congr 1
 ·funext _ w; exact propext ⟨fun k=>k.perm h,fun k=>k.perm h.symm⟩
 ·funext b; exact propext ⟨fun ⟨m,h1,h2⟩=>⟨m,h.mem_iff.1 h1,h2⟩,fun ⟨m,h1,h2⟩=>⟨m,h.mem_iff.2 h1,h2⟩⟩
/-- a value without names -/
def Plain (v:Value):Prop:=∀ (E E':Emb) (v':Value),VR E v v'→VR E' v v'
theorem L2.head {E E2:Emb} {v u:Value} {is vs':List Value} (h1:∀ v',VR E v v'→VR E2 u v') (h2:∀ v∈is,Plain v) (h:L2 (VR E) (v::is) vs'):L2 (VR E2) (u::is) vs':=by
 have key:∀ (is vs':List Value),(∀ v∈is,Plain v)→L2 (VR E) is vs'→L2 (VR E2) is vs':=by
  intro is
  induction is with
  | nil=>intro vs' _ h; cases vs' <;> exact h
  | cons a r ih=>intro vs' h h'; cases vs' with
   | nil=>exact h'
   | cons b s=>exact ⟨h a (List.mem_cons_self ..) _ _ _ h'.1,ih s (fun v hv=>h v (List.mem_cons_of_mem _ hv)) h'.2⟩
 cases vs' with
 | nil=>exact h.elim
 | cons b s=>exact ⟨h1 b h.1,key is s h2 h.2⟩
theorem VR.toIn {ea em E:Emb} {i o a:Nat} {r:Nat × Nat × Nat} {v':Value} (hr:em[i]?=some r) (ha:ea.length+i=a) (h:VR E (adR r o) v'):VR (ea++em) (.pointer (some ⟨a,o,none⟩)) v':=by
 have h:v'=.pointer (some ⟨r.1,o+r.2.1,none⟩):=h
 subst h; subst ha
 exact ⟨_,rfl,rfl,r,by show (ea++em)[_]?=_; rw [app_get]; exact hr,rfl⟩
theorem VR.toOut {ea em E:Emb} {i o a:Nat} {r:Nat × Nat × Nat} {v':Value} (hr:em[i]?=some r) (ha:ea.length+i=a) (h:VR (ea++em) (.pointer (some ⟨a,o,none⟩)) v'):VR E (adR r o) v':=by
 subst ha
 obtain ⟨a',h1,_,r',h3,h4⟩:=h
 have h3:(ea++em)[ea.length+i]?=_:=h3
 rw [app_get,hr] at h3; cases h3
 show v'=_
 rw [h1,h4]
theorem VR.in0 {em E:Emb} {i o:Nat} {r:Nat × Nat × Nat} {v':Value} (hr:em[i]?=some r) (h:VR E (adR r o) v'):VR em (.pointer (some ⟨i,o,none⟩)) v':=VR.toIn (ea:=[]) hr (by simp) h
theorem VR.out0 {em E:Emb} {i o:Nat} {r:Nat × Nat × Nat} {v':Value} (hr:em[i]?=some r) (h:VR em (.pointer (some ⟨i,o,none⟩)) v'):VR E (adR r o) v':=VR.toOut (ea:=[]) hr (by simp) h
theorem all_kept {a b:Emb} {n:Nat} (h:∀ i r,inL i (seqN 0 n)=true→a[i]?=some r→b[i]?=some r) (ha:a.length=n) (hb:b.length=n):b=a:=by
 apply List.ext_getElem?
 intro i
 by_cases hi:i<n
 ·rw [List.getElem?_eq_getElem (show i<a.length by omega)]
  exact h i _ (by
   rw [inL_mem]
   have:=seqN_get n 0 i hi
   rw [Nat.zero_add] at this
   exact List.mem_of_getElem? this) (List.getElem?_eq_getElem (by omega))
 ·rw [List.getElem?_eq_none (by omega),List.getElem?_eq_none (by omega)]
/-- all names stay -/
theorem TrK.sharedK {P:Program} {f:FuncId} {us vs:List Value} {A A' S S' T T':LH} {ea em:Emb} {ms ms' rest:List Mem} {v1 v2:Value}
  (ht:Tr P f us (A++T) (fun v K=>v=v1∧K=A'++T')) (hm:ms.Perm ((em,S)::rest)) (hm':ms'.Perm ((em,S')::rest)) (hS:UpL ea S T) (hS':UpL ea S' T') (hA:Self A) (hA':Self A') (hl:A'.length=A.length) (hlT:T'.length=T.length) (hea:ea.length=A.length) (hem:em.length=T.length)
  (hu:∀ E vs',L2 (VR E) vs vs'→L2 (VR (ea++em)) us vs') (hv:∀ v',VR (ea++em) v1 v'→∀ E,VR E v2 v') :
  Tr P f vs [crowd ms,box ea A] (fun v K=>v=v2∧K=[crowd ms',box ea A']):=by
 have eq:∀ ea' em':Emb,ea'.length=A.length→em'.length=T'.length→(∀ i r,inL i (seqN 0 (A++T).length)=true→(ea++em)[i]?=some r→(ea'++em')[i]?=some r)→ea'=ea∧em'=em:=fun ea' em' e1 e2 e3=>by
  have:=all_kept e3 (by rw [List.length_append,List.length_append]; omega) (by rw [List.length_append,List.length_append]; omega)
  exact List.append_inj this (by omega)
 refine Tr.mono (TrK.shared (A:=A) (A':=A') (S:=S) (T:=T) (T':=T') (S':=fun _=>S') (V:=fun _ _=>v2) (b:=1) (k:=0) ht rfl rfl (by decide) (.perm hm) hS hA hA' hl (fun ea' em' e1 e2 e3=>by rw [(eq ea' em' e1 e2 e3).1]; exact hS') (fun E vs' h _ _=>hu E vs' h) (fun ea' em' v' e1 e2 e3 h=>by
  obtain ⟨rfl,rfl⟩:=eq ea' em' e1 e2 e3
  exact hv v' h)) ?_
 rintro v K ⟨ea',em',e1,e2,e3,rfl,rfl⟩
 obtain ⟨rfl,rfl⟩:=eq ea' em' e1 e2 e3
 exact ⟨rfl,by rw [crowd_perm hm']; rfl⟩
/-- what is shared,alone -/
theorem TrK.boxed {P:Program} {f:FuncId} {us vs:List Value} {A A':LH} {ea:Emb} {v1 v2:Value}
  (ht:Tr P f us A (fun v K=>v=v1∧K=A')) (hl:A'.length=A.length) (hea:ea.length=A.length) (hu:∀ E vs',L2 (VR E) vs vs'→L2 (VR ea) us vs') (hv:∀ v',VR ea v1 v'→∀ E,VR E v2 v') :
  Tr P f vs [box ea A] (fun v K=>v=v2∧K=[box ea A']):=by
 intro X w0 w E vs' hA0 hR hv'
 obtain ⟨r,hr⟩:=hR.ent (b:=0) rfl
 obtain ⟨h1,h2,_⟩:=hR.blk 0 _ r rfl hr
 have hB:BoxAt ea A w:=h1
 have hT:=hR.tab hA0.2.2 (F:=footL ea A) fun c hc=>⟨0,_,r,rfl,hr,hc⟩
 have hc:=ht (footL ea A) w w ea vs' ⟨hB.len,by simp,hT⟩ hB.rep (hu E vs' hv')
 refine ⟨hc.1,hc.2.mono ?_⟩
 rintro v' w' ⟨E',v0,L',g1,g0,g2,g3,q1,q2⟩
 subst q1; subst q2
 have gl:=g3.len
 obtain rfl:E'=ea:=all_kept (fun i p hi hp=>g1 i p hi hp) hea (by omega)
 refine ⟨E,v2,[box E' L'],fun _ _ _ h=>h,Nat.le_refl _,hv v' g2 E,hR.upd (b:=0) (x:=box E' L') rfl hr g3.fr (g3.boxAt.is h2) fun c hc=>?_,rfl,rfl⟩
 ·obtain ⟨i,x,p,hx,hp,hc⟩:=hc
  obtain ⟨h5,h6⟩:=g3.rng i x p hx hp c hc
  rcases h5 with h5 | h5
  ·exact .inr ⟨h5,h6⟩
  ·exact .inl h5
/-- a member of a crowd,alone -/
theorem TrK.member {P:Program} {f:FuncId} {us vs:List Value} {S S':LH} {em:Emb} {ms ms' rest:List Mem} {v1 v2:Value}
  (ht:Tr P f us S (fun v K=>v=v1∧K=S')) (hm:ms.Perm ((em,S)::rest)) (hm':ms'.Perm ((em,S')::rest)) (hl:S'.length=S.length) (hem:em.length=S.length) (hu:∀ E vs',L2 (VR E) vs vs'→L2 (VR em) us vs') (hv:∀ v',VR em v1 v'→∀ E,VR E v2 v') :
  Tr P f vs [crowd ms] (fun v K=>v=v2∧K=[crowd ms']):=by
 intro X w0 w E vs' hA0 hR hv'
 obtain ⟨q,hq⟩:=hR.ent (b:=0) rfl
 obtain ⟨g1,g2,_⟩:=hR.blk 0 _ q rfl hq
 have g1:CrowdAt ((em,S)::rest) w:=CrowdAt.perm hm g1
 have hB:BoxAt em S w:=g1.all _ (List.mem_cons_self ..)
 have hap:=List.pairwise_cons.1 g1.apart
 have hfS:∀ c,footL em S c→foot q (crowd ms) c:=fun c hc=>⟨(em,S),hm.mem_iff.2 (List.mem_cons_self ..),hc⟩
 have hT:=hR.tab hA0.2.2 (F:=footL em S) fun c hc=>⟨0,_,q,rfl,hq,hfS c hc⟩
 have hc:=ht (footL em S) w w em vs' ⟨hB.len,by simp,hT⟩ hB.rep (hu E vs' hv')
 refine ⟨hc.1,hc.2.mono ?_⟩
 rintro v' w' ⟨E',v0,L',k1,k0,k2,k3,q1,q2⟩
 subst q1; subst q2
 have gl:=k3.len
 obtain rfl:E'=em:=all_kept (fun i p hi hp=>k1 i p hi hp) hem (by omega)
 have new:∀ c,footL E' L' c→foot q (crowd ms) c∨(w.heap.size≤c∧c<w'.heap.size):=fun c ⟨i,x,p,hx,hp,hcc⟩=>by
  obtain ⟨h5,h6⟩:=k3.rng i x p hx hp c hcc
  rcases h5 with h5 | h5
  ·exact .inr ⟨h5,h6⟩
  ·exact .inl (hfS c h5)
 have hrest:∀ c,(∃ m∈rest,m.at c)→¬ footL E' S c:=fun c ⟨m,h1,h2⟩ h3=>hap.1 m h1 c h3 h2
 have hrest2:∀ c,(∃ m∈rest,m.at c)→¬ footL E' L' c:=fun c hc ⟨i,x,p,hx,hp,hcc⟩=>by
  rcases (k3.rng i x p hx hp c hcc).1 with h5 | h5
  ·obtain ⟨m,h1,h2⟩:=hc
   have:=(hR.rng 0 _ q rfl hq c ⟨m,hm.mem_iff.2 (List.mem_cons_of_mem _ h1),h2⟩).2
   omega
  ·exact hrest c hc h5
 have hCr:CrowdAt rest w':=CrowdAt.fr (w:=w) ⟨fun m h=>g1.all m (List.mem_cons_of_mem _ h),hap.2⟩ k3.fr hrest
 have hC:CrowdAt ms' w':=CrowdAt.perm hm'.symm ⟨fun m h=>by
  rcases List.mem_cons.1 h with rfl | h
  ·exact k3.boxAt
  ·exact hCr.all m h,List.pairwise_cons.2 ⟨fun m h c h1 h2=>hrest2 c ⟨m,h,h2⟩ h1,hap.2⟩⟩
 refine ⟨E,v2,[crowd ms'],fun _ _ _ h=>h,Nat.le_refl _,hv v' k2 E,hR.upd (b:=0) (x:=crowd ms') rfl hq (k3.fr.mono fun c _ h=>hfS c h) (hC.is g2) fun c h=>?_,rfl,rfl⟩
 obtain ⟨m,h1,h2⟩:=h
 rcases List.mem_cons.1 (hm'.mem_iff.1 h1) with rfl | h1
 ·exact new c h2
 ·exact .inl ⟨m,hm.mem_iff.2 (List.mem_cons_of_mem _ h1),h2⟩
end
end Go.Tum
end
section
namespace Go.Tum.Base
open Go Go.Tum
def slotsC (c:Int):Int:=if c=0 then 16 else if c=1 then 8 else if c=2 then 4 else if c=3 then 2 else 0
def nC (c:Int):Nat:=(slotsC c).toNat
structure PS where
 pg:Nat
 c:Int
 ow:Int
 lw:BitVec 64
 hw:BitVec 64
 f:Int
end Go.Tum.Base
end
section
namespace Go.Proofs.YtblibdfcnplfhaaGreat
open Go Go.Tum Go.Tum.Base
set_option maxRecDepth 4000
def AN (N:Nat) (bs:Bytes):LH:=[.cells 0 [slB 1 N],BL bs]
end Go.Proofs.YtblibdfcnplfhaaGreat
end
section
namespace Go.Proofs.YtblibdfcnplfhaaGreat
open Go Go.Tum Go.Tum.Base
set_option maxRecDepth 4000
variable (key:BitVec 64) (N:Nat) (bs:Bytes) (hl:bs.length=N) {z n:Nat} (t:PS)
include hl
end Go.Proofs.YtblibdfcnplfhaaGreat
end
section
namespace Go.Tum.Base
open Go Go.Tum
abbrev RA:=Nat × Nat × Nat
structure SE where
 e0:RA
 e1:RA
 e2:RA
 e3:RA
 e4:RA
 bn:Nat
 t:PS
def SE.em (x:SE):Emb:=[x.e0,x.e1,x.e2,x.e3,x.e4]
abbrev SEs:=List SE
end Go.Tum.Base
namespace Go.Proofs.YtblibdfcnplfhaaGreat
open Go Go.Tum Go.Tum.Base
set_option maxRecDepth 4000
def PSr (a:RA) (key:BitVec 64) (n:Nat) (t:PS):LH:=[.cells 0 [adR a 0,.int .u64 (key.toNat:Int),.int .i64 t.pg,.int .i64 t.c,.int .i64 t.ow,ptr 1,ptr 3,.int .i64 t.f],.cells 0 [slB 2 1,.int .i64 n],.gro 1 (rowsC wordC [t.lw]),.cells 0 [slB 4 1,.int .i64 n],.gro 1 (rowsC wordC [t.hw])]
def memS (x:SE) (a:RA) (key:BitVec 64):Mem:=(x.em,PSr a key (nC x.t.c) x.t)
def crowdS (a:RA) (key:BitVec 64) (sl:SEs):LB:=crowd (sl.map fun x=>memS x a key)
end Go.Proofs.YtblibdfcnplfhaaGreat
end
section
namespace Go.Proofs.YtblibdfcnplfhaaGreat
open Go Go.Tum Go.Tum.Base
set_option maxRecDepth 4000
def LGr (a:RA) (key:BitVec 64) (G:Great) (c:Nat):LH:=[.cells 0 [adR a 0,.int .u64 (key.toNat:Int),.map (some 1)],.imap G c]
def crowdG (a:RA) (key:BitVec 64) (g0 g1:RA) (G:Great) (c:Nat):LB:=crowd [([g0,g1],LGr a key G c)]
end Go.Proofs.YtblibdfcnplfhaaGreat
end
section
namespace Go.Tum.Base
open Go Go.Tum
structure PRow where
 kind:Int
 cls:Int
 owner:Int
 run:Int
deriving DecidableEq
def PRow.cells (r:PRow):List Value:=[.int .i64 r.kind,.int .i64 r.cls,.int .i64 r.owner,.int .i64 r.run]
def PRow.Z:PRow:=⟨0,0,0,0⟩
abbrev PRows:=List PRow
end Go.Tum.Base
namespace Go.Proofs.YtblibdfcnplfhaaGreat
open Go Go.Tum Go.Tum.Base
set_option maxRecDepth 4000
def TL (rs:PRows):LH:=[.cells 0 [slB 1 rs.length],.gro 4 (rowsC PRow.cells rs)]
theorem pagesNew_tr (p:Int) (n:Nat) (hn:min (max p 0) 256=n):Tr Tryz.prog 124 [.int .i64 p] [] (fun v K=>v=ptr 0∧K=TL (List.replicate n PRow.Z)):=by
 have hn':(imm false (imm true p 0) 256)=n:=hn
 refine Tr.of row_pages_New_ok rfl ?_
 repeat' (first|refine qN ?_|refine dN ?_|refine dR ?_|refine d0 ?_|refine rT ?_|refine aI (hn:=?_)|refine qR ?_|refine qS ?_|exact ⟨rfl,rfl⟩|fail)
 first|refine L_rs ?_|refine L_reg ?_ | skip
 refine eE rfl rfl (EW.mk (sz:=4) (bytes:=32) (k:=n) (zs:=PRow.Z.cells) rfl (by kernel_rfl) (by rw [← hn']; rfl) (by rw [← hn']; rfl) (by omega) (by omega)) ?_
 conv=>whnf
 repeat' (first|refine qN ?_|refine dN ?_|refine dR ?_|refine d0 ?_|refine rT ?_|refine aI (hn:=?_)|refine qR ?_|refine qS ?_|exact ⟨rfl,rfl⟩|fail)
 refine L_ret (RetQ.pick [1,0] rfl rfl rfl rfl ⟨rfl,?_⟩)
 rw [repC_rows PRow.Z,TL,List.length_replicate]
 rfl
end Go.Proofs.YtblibdfcnplfhaaGreat
end
section
/-
 Maps of whole numbers to what stands at real addresses; rows of such addresses.
-/
namespace Go.Tum
open Go

/-- members of a crowd are forgotten -/
theorem More.less {L:LH} {b:Nat} {ms ms':List Mem} (hb:L[b]?=some (crowd ms)) (hs:ms'.Sublist ms):More L (L.set b (crowd ms')) :=
 ⟨by rw [List.length_set]; exact Nat.le_refl _,fun X w0 E w h=>⟨E,Ext.refl E,by
  obtain ⟨r,hr⟩:=h.ent hb
  obtain ⟨h1,h2,_⟩:=h.blk b _ r hb hr
  have h1:CrowdAt ms w:=h1
  have h3:CrowdAt ms' w:=⟨fun m hm=>h1.all m (hs.subset hm),h1.apart.sublist hs⟩
  exact h.upd hb hr (Fr.refl _ w) (h3.is h2) fun c ⟨m,hm,hc⟩=>.inl ⟨m,hs.subset hm,hc⟩⟩⟩
/-! ### blocks told anew -/
section
variable {X:Nat→Prop} {w0 w w':World} {E E':Emb} {K K':LH}
/-- groups of blocks are told as one block each -/
theorem Rep.regroup (h:Rep X w0 E K w) (grp:Nat→Nat) (hl:E'.length=K'.length) (hb:∀ (i:Nat) (x:LB) (r:Nat × Nat × Nat),K'[i]?=some x→E'[i]?=some r→LBis E' w r x)
  (hf:∀ (i:Nat) (x:LB) (r:Nat × Nat × Nat) (c:Nat),K'[i]?=some x→E'[i]?=some r→foot r x c→∃ j y q,grp j=i∧K[j]?=some y∧E[j]?=some q∧foot q y c):Rep X w0 E' K' w:=by
 refine ⟨h.fr,hl,fun i x r hx hr c hc=>?_,hb,fun i i' x x' r r' c hx hx' hr hr' hc hc'=>?_⟩
 ·obtain ⟨j,y,q,_,h1,h2,h3⟩:=hf i x r c hx hr hc
  exact h.rng j y q h1 h2 c h3
 ·obtain ⟨j,y,q,e1,h1,h2,h3⟩:=hf i x r c hx hr hc
  obtain ⟨j',y',q',e2,h4,h5,h6⟩:=hf i' x' r' c hx' hr' hc'
  have:=h.inj j j' y y' q q' c h1 h4 h2 h5 h3 h6
  subst this
  omega
/-- what a function leaves,told anew (no names are kept) -/
theorem TrK.retell {P:Program} {keep:List Nat} {f:FuncId} {us:List Value} {L:LH} {R R':Value→LH→Prop} (ht:TrK P [] keep f us L R)
  (hR:∀ (X:Nat→Prop) (w0 w:World) (E:Emb) (v v':Value) (K:LH),Rep X w0 E K w→VR E v v'→R v K→∃ E' v1 K',L.length≤K'.length∧Rep X w0 E' K' w∧VR E' v1 v'∧R' v1 K'):TrK P [] [] f us L R':=by
 intro X w0 w E vs' hA hR' hv
 obtain ⟨h3,h4⟩:=ht X w0 w E vs' ⟨hA.1,by simp,hA.2.2⟩ hR' hv
 refine ⟨h3,h4.mono ?_⟩
 rintro v' w' ⟨E',v,L',_,_,g2,g3,g4⟩
 obtain ⟨E2,v1,K',k0,k1,k2,k3⟩:=hR X w0 w' E' v v' L' g3 g2 g4
 exact ⟨E2,v1,K',fun k r hk _=>(by cases hk),k0,k2,k1,k3⟩
theorem L2.to {R R':Value→Value→Prop}:∀ {vs us cs:List Value},L2 (fun v u=>∀ c,R v c→R' u c) vs us→L2 R vs cs→L2 R' us cs
 | [],[],[],_,_=>trivial
 | _::_,_::_,_::_,h,k=>⟨h.1 _ k.1,L2.to h.2 k.2⟩
 | [],[],_::_,_,k=>k.elim
 | _::_,_::_,[],_,k=>k.elim
 | [],_::_,_,h,_=>h.elim
 | _::_,[],_,h,_=>h.elim
theorem LBis.cellsTo {r:Nat × Nat × Nat} {sz:Nat} {vs us:List Value} (h:LBis E w r (.cells sz vs)) (hl:L2 (fun v u=>∀ c,SR E v c→SR E' u c) vs us):LBis E' w r (.cells sz us):=by
 have hn:=L2_len hl
 obtain ⟨cs,h1,h2,h3⟩:=h
 exact ⟨cs,h1,by rw [← hn]; exact hl.to h2,by rw [← hn]; exact h3⟩
theorem SRm.int {k:IntKind} {n:Int}:∀ c,SR E (.int k n) c→SR E' (.int k n) c:=fun _ h=>h
theorem SRm.ptr {i j o:Nat} {r:Nat × Nat × Nat} (h1:E[i]?=some r) (h2:E'[j]?=some r):∀ c,SR E (.pointer (some ⟨i,o,none⟩)) c→SR E' (.pointer (some ⟨j,o,none⟩)) c:=by
 rintro c ⟨a',h3,h4,r',h5,h6⟩
 have h5:E[i]?=some r':=h5
 rw [h1] at h5; cases h5
 exact ⟨a',h3,h4,r,h2,h6⟩
theorem SRm.sl {i j o n c:Nat} {r:Nat × Nat × Nat} (h1:E[i]?=some r) (h2:E'[j]?=some r):∀ v,SR E (.slice (some ⟨i,o,none⟩) n c) v→SR E' (.slice (some ⟨j,o,none⟩) n c) v:=by
 rintro v ⟨h0,r',h5,h6⟩
 have h5:E[i]?=some r':=h5
 rw [h1] at h5; cases h5
 exact ⟨h0,r,h2,h6⟩
theorem SRm.map {i j:Nat} {r r':Nat × Nat × Nat} (h1:E[i]?=some r) (h2:E'[j]?=some r') (e:r'.1=r.1):∀ v,SR E (.map (some i)) v→SR E' (.map (some j)) v:=by
 rintro v ⟨q,h5,h6⟩
 rw [h1] at h5; cases h5
 exact ⟨r',h2,by rw [e]; exact h6⟩
theorem SRm.real {i o:Nat} {r:Nat × Nat × Nat} (h1:E[i]?=some r):∀ c,SR E (.pointer (some ⟨i,o,none⟩)) c→SR E' (adR r o) c:=by
 rintro c ⟨a',h3,h4,r',h5,h6⟩
 have h5:E[i]?=some r':=h5
 rw [h1] at h5; cases h5
 show c=_
 rw [h3,h6]
theorem SRm.slR {i o n c:Nat} {r:Nat × Nat × Nat} (h1:E[i]?=some r) (hn:n≠0):∀ v,SR E (.slice (some ⟨i,o,none⟩) n c) v→SR E' (slR r o n c) v:=by
 rintro v ⟨_,r',h5,h6⟩
 have h5:E[i]?=some r':=h5
 rw [h1] at h5; cases h5
 left
 rcases h6 with ⟨a',c',h7,⟨h8,h9⟩ | ⟨h8,_⟩⟩ | ⟨h8,_⟩
 ·rw [h7,h8,h9]
 ·exact absurd h8 hn
 ·exact absurd h8 hn
end
/-! ### maps -/
structure PE where
 id:Int
 r:Nat × Nat × Nat
 born:Nat
def pe (e:PE):Int × Value × Nat:=(e.id,.pointer (some ⟨e.r.1,e.r.2.1,none⟩),e.born)
def pB (b0:Nat) (es:List PE) (c:Nat):LB:=.abs (fun r w=>r=b0∧Mp (Value.int .i64) w r (es.map pe) c∧Wf (es.map pe) c) (·=b0)
def pfind (es:List PE) (a:Int):Option PE:=es.find? fun e=>decide (e.id=a)
def pdel (es:List PE) (a:Int):List PE:=es.filter fun e => !decide (e.id=a)
theorem mfind_pe (es:List PE) (a:Int):mfind (es.map pe) a=(pfind es a).map pe:=by
 simp only [mfind,pfind,List.find?_map]
 rfl
theorem mdel_pe (es:List PE) (a:Int):mdel (es.map pe) a=(pdel es a).map pe:=by
 simp only [mdel,pdel,List.filter_map]
 rfl
/-- what a look tells -/
def psym:Option PE→Value
 | none=>.pointer none
 | some e=>adR e.r 0
section
variable {P:Program} {n0:NA} {l:Env} {L:LH} {X:Nat→Prop} {w0 w w':World} {E:Emb}
theorem pB_is {r:Nat × Nat × Nat} {b0 c:Nat} {es:List PE} (h:Mp (Value.int .i64) w r.1 (es.map pe) c) (hw:Wf (es.map pe) c) (h1:r.1=b0) (h2:r.2=(0,0)):LBis E w r (pB b0 es c) :=
 ⟨⟨h1,h,hw⟩,h2,fun _ _ _ ⟨g1,g2,g3⟩ hf hn=>⟨g1,g2.fr hf (hn _ g1),g3⟩⟩
theorem pB_at {l':Env} {x:Operand} {b b0 c:Nat} {es:List PE} (hR:Rep X w0 E L w) (hl:ER E l l') (hx:lv l x=some (.map (some b))) (hb:L[b]?=some (pB b0 es c)) :
  ∃ r,E[b]?=some r∧ev l' x=some (.map (some r.1))∧(Mp (Value.int .i64) w r.1 (es.map pe) c∧Wf (es.map pe) c)∧r.1=b0∧r.2=(0,0):=by
 obtain ⟨_,h1,r,h2,rfl⟩:=lv_ev hl hx
 obtain ⟨⟨h3,h4⟩,h5,_⟩:=hR.blk b _ r hb h2
 exact ⟨r,h2,h1,h4,h3,h5⟩
theorem QY.plook {o:Oper} {mT kt et:TypeId} {x y:Operand} {b b0 c:Nat} {es:List PE} {a:Int} {v:Value} (ho:o.op=.lookup mT x y false) (hT:P.underlying mT=some (.map kt et)) (hkt:P.underlying kt=some (.int .i64)) (hz:zeroOf P et=some (.pointer none))
  (hx:lv l x=some (.map (some b))) (hy:lv l y=some (.int .i64 a)) (hb:L[b]?=some (pB b0 es c)) (hq:psym (pfind es a)=v):QY P n0 L l (.raw o) v:=by
 intro X w0 E0 w E l' _ hE hR hl
 obtain ⟨r,h2,h3,⟨h4,h5⟩,_⟩:=pB_at hR hl hx hb
 obtain ⟨_,h7,rfl⟩:=lv_ev hl hy
 obtain ⟨d,op,ty,pos,af,g⟩:=o
 simp only at ho
 subst ho
 refine ⟨_,lookup_Y (ty:=ty) (k:=a) hT (keyLaw_int hkt) (zeroOf_ok hz) h3 h7 h4 rfl,?_⟩
 rw [mfind_pe]
 subst hq
 cases hq:pfind es a with
 | none=>exact rfl
 | some e =>
  show _=_
  simp only [Option.map_some,Option.getD_some,pe,Nat.zero_add]
/-- an empty map,told as one of addresses -/
theorem pB_of {r:Nat × Nat × Nat} {w:World} {E E':Emb} {c:Nat} (h:LBis E w r (.imap [] c)):LBis E' w (r.1,0,0) (pB r.1 [] c):=pB_is (es:=[]) h.1 h.2 rfl rfl
theorem EW.pmake {o:Oper} {mT:TypeId} (ho:o.op=.makeMap mT none):EW P n0 L l (.raw o) (fun w K=>∃ b0,w=.map (some L.length)∧K=L++[pB b0 [] 0]):=by
 intro X w0 E0 w E l' Kf h0 hE hR hl hK
 obtain ⟨d,op,ty,pos,af,g⟩:=o
 simp only at ho
 subst ho
 refine makeMap_W (ty:=ty) (Value.int .i64) fun w' hM hf hsz=>hK w' (E++[(w.heap.size,0,0)]) _ _ _ ⟨w.heap.size,rfl,rfl⟩ (Ext.push E _) (hR.push hf (fun b hb=>?_) (pB_is hM ⟨by simp,by simp,by simp⟩ rfl rfl)) ?_
 ·have hb:b=w.heap.size:=hb
  omega
 ·exact ⟨_,hR.last _,rfl⟩
theorem EW.pput {o:Oper} {mT kt et:TypeId} {x y u:Operand} {b b0 c:Nat} {es:List PE} {a:Int} {r0:Nat × Nat × Nat} (ho:o.op=.mapUpdate mT x y u) (hT:P.underlying mT=some (.map kt et)) (hkt:P.underlying kt=some (.int .i64))
  (hx:lv l x=some (.map (some b))) (hy:lv l y=some (.int .i64 a)) (hu:lv l u=some (adR r0 0)) (hb:L[b]?=some (pB b0 es c)) (hn:pfind es a=none) :
  EW P n0 L l (.raw o) (fun w K=>w=undef∧K=L.set b (pB b0 (es++[⟨a,r0,c⟩]) (c+1))):=by
 intro X w0 E0 w E l' Kf h0 hE hR hl hK
 obtain ⟨r,h2,h3,⟨h4,h5⟩,h8,h9⟩:=pB_at hR hl hx hb
 obtain ⟨_,h6,rfl⟩:=lv_ev hl hy
 obtain ⟨_,h7,h10⟩:=lv_ev hl hu
 have h10:_=Value.pointer (some ⟨r0.1,0+r0.2.1,none⟩):=h10
 subst h10
 obtain ⟨d,op,ty,pos,af,g⟩:=o
 simp only at ho
 subst ho
 have hs:mset (es.map pe) a (.pointer (some ⟨r0.1,0+r0.2.1,none⟩)) c=((es++[(⟨a,r0,c⟩:PE)]).map pe,c+1):=by
  unfold mset
  rw [mfind_pe,hn]
  simp only [Option.map_none,List.map_append,List.map_cons,List.map_nil,pe,Nat.zero_add]
 have hw:=h5.mset (k:=a) (.pointer (some ⟨r0.1,0+r0.2.1,none⟩))
 rw [hs] at hw
 refine mapUpdate_W (ty:=ty) (k:=a) hT (keyLaw_int hkt) h3 h6 h7 h4 h5 (fun w' hM hf hsz=>hK w' E _ _ _ ⟨rfl,rfl⟩ (Ext.refl E) (hR.upd hb h2 (hf.mono fun c _ hc=>?_) (pB_is ?_ hw h8 h9) (fun _ h=>.inl h)) VR.undef)
 ·have hc:c=r.1:=hc
  show c=b0
  omega
 ·rw [hs] at hM; exact hM
theorem EW.pdel {o:Oper} {mT kT kt et:TypeId} {x y:Operand} {b b0 c:Nat} {es:List PE} {a:Int} (ho:o.op=.call ⟨.builtin .delete,⟨[x,y]⟩,⟨[mT,kT]⟩⟩) (hT:P.underlying mT=some (.map kt et)) (hkt:P.underlying kt=some (.int .i64)) (hx:lv l x=some (.map (some b))) (hy:lv l y=some (.int .i64 a)) (hb:L[b]?=some (pB b0 es c)) :
  EW P n0 L l (.raw o) (fun w K=>w=.tuple #[]∧K=L.set b (pB b0 (pdel es a) c)):=by
 intro X w0 E0 w E l' Kf h0 hE hR hl hK
 obtain ⟨r,h2,h3,⟨h4,h5⟩,h8,h9⟩:=pB_at hR hl hx hb
 obtain ⟨_,h6,rfl⟩:=lv_ev hl hy
 obtain ⟨d,op,ty,pos,af,g⟩:=o
 simp only at ho
 subst ho
 have hw:=Wf.del (k:=a) h5
 rw [mdel_pe] at hw
 refine delete_W (ty:=ty) (k:=a) hT (keyLaw_int hkt) h3 h6 h4 h5 (fun w' hM hf hsz=>hK w' E _ _ _ ⟨rfl,rfl⟩ (Ext.refl E) (hR.upd hb h2 (hf.mono fun c _ hc=>?_) (pB_is ?_ hw h8 h9) (fun _ h=>.inl h)) ⟨[],rfl,trivial⟩)
 ·have hc:c=r.1:=hc
  show c=b0
  omega
 ·rw [mdel_pe] at hM; exact hM
end
end Go.Tum
end
section
namespace Go.Tum.Base
open Go Go.Tum
structure Pl where
 pg:Int
 sl:Int
 bs:Int
 sz:Int
 st:Int
 gr:Bool
deriving DecidableEq
structure PR where
 man:Nat
 mgd:Nat
 seed:BitVec 64
 a:RA
 b:RA
 g0:RA
 g1:RA
 m0:Nat
 mc:Nat
 rs:PRows
 bs:Bytes
 sl:SEs
 G:Great
 gc:Nat
def PR.N (r:PR):Nat:=256*(r.man+r.mgd)
def PR.key (r:PR):BitVec 64:=keyW r.seed
def peS (sl:SEs):List PE:=sl.map fun x=>⟨x.t.pg,x.e0,x.bn⟩
end Go.Tum.Base
end
section
namespace Go.Tum.Base
open Go Go.Tum
def inB (n:Nat) (a k:Int):Bool:=decide (0≤a∧0≤k∧k≤n∧a≤n-k)
end Go.Tum.Base
end
section
/-
 Append of a part,what comes of it told.
-/
namespace Go.Tum
open Go
section
variable {P:Program} {n0:NA} {l:Env} {L:LH}
theorem EW.appRSe {α:Type} {g:α→List Value} {sz:Nat} {o:Oper} {s x:Operand} {sT xT:TypeId} {bytes b n bx ox i m cx t:Nat} {xs ys zs:List α} (hnm:n+m=t) (hzs:xs++(ys.drop i).take m=zs) (h:RowOk g sz) (ho:o.op=.call ⟨.builtin .append,⟨[s,x]⟩,⟨[sT,xT]⟩⟩) (ht:appT P sT xT=some (sz,bytes)) (hs:lv l s=some (.slice (some ⟨b,0,none⟩) n n)) (hx:lv l x=some (.slice (some ⟨bx,ox,none⟩) m cx))
  (hb:L[b]?=some (.gro sz (rowsC g xs))) (hbx:L[bx]?=some (.gro sz (rowsC g ys))) (hox:ox=i*sz) (hn:xs.length=n) (hm:i+m≤ys.length) (hz:0<sz) (hbd:(2*(n+m)+2048)*bytes≤281474976710656) :
  EW P n0 L l (.raw o) (fun v K=>v=.slice (some ⟨L.length,0,none⟩) t t∧K=L.set b .dead++[.gro sz (rowsC g zs)]):=by
 subst hnm; subst hzs
 exact EW.appRS h ho ht hs hx hb hbx hox hn hm hz hbd
end
end Go.Tum
end
section
namespace Go.Proofs.YtblibdfcnplfhaaGreat
open Go Go.Tum Go.Tum.Base
set_option maxRecDepth 4000
def RPL (r:PR):LH:=[.cells 0 [.int .i64 r.man,.int .i64 r.mgd,.int .u64 (r.seed.toNat:Int),adR r.a 0,ptr 1,.int .u64 (r.key.toNat:Int),.map (some 3),adR r.g0 0],
 .cells 0 [slB 2 (r.man+r.mgd)],.gro 4 (rowsC PRow.cells r.rs),pB r.m0 (peS r.sl) r.mc,crowdS r.a r.key r.sl,box [r.a,r.b] (AN r.N r.bs),crowdG r.a r.key r.g0 r.g1 r.G r.gc]
end Go.Proofs.YtblibdfcnplfhaaGreat
end
section
namespace Go.Proofs.YtblibdfcnplfhaaGreat
open Go Go.Tum Go.Tum.Base
set_option maxRecDepth 4000
def RL0 (man mgd:Int) (seed:BitVec 64) (N:Nat) (bs:Bytes) (n:Nat) (rs:PRows):LH :=
 [.cells 0 [.int .i64 man,.int .i64 mgd,.int .u64 (seed.toNat:Int),ptr 1,ptr 3,.int .u64 ((keyW seed).toNat:Int),.map (some 5),ptr 6],
  .cells 0 [slB 2 N],BL bs,.cells 0 [slB 4 n],.gro 4 (rowsC PRow.cells rs),.imap [] 0,
  .cells 0 [ptr 1,.int .u64 ((keyW seed).toNat:Int),.map (some 7)],.imap [] 0]
def newR (m g:Nat) (seed:BitVec 64) (a b g0 g1:RA) (m0:Nat):PR:=⟨m,g,seed,a,b,g0,g1,m0,0,List.replicate (m+g) PRow.Z,List.replicate (256*(m+g)) 0,[],[],0⟩
set_option maxHeartbeats 1000000 in
theorem pgNew0_tr (m g:Nat) (seed:BitVec 64) (h1:m+g≤256) (h2:1≤m+g):Tr Tryz.prog 76 [.agg ⟨[.int .i64 m,.int .i64 g,.int .u64 (seed.toNat:Int)]⟩] [] (fun v K=>v=.tuple ⟨[ptr 0,.int .i64 0]⟩∧K=RL0 m g seed (256*(m+g)) (List.replicate (256*(m+g)) 0) (m+g) (List.replicate (m+g) PRow.Z)):=by
 have hA:=arenaNew_tr ((m+g:Nat):Int) (256*(m+g)) (by omega)
 have hK:=linkNew_tr seed
 have hP:=pagesNew_tr ((m+g:Nat):Int) (m+g) (by omega)
 have hG:=largeNew_tr (List.replicate (256*(m+g)) 0) (keyW seed)
 simp only [AL,List.length_replicate,TL] at hA hP hG
 refine Tr.of row_region_New_ok rfl ?_
 repeat' (first|refine qN ?_|refine dN ?_|refine d0 ?_|refine qT ?_|refine qU ?_|refine qL ?_|refine qK ?_|refine iF (fun h=>?_) (fun h=>?_)|refine S_Q [] rfl rfl (QY.add (c:=((m+g:Nat):Int)) rfl rfl (by omega) (by omega) (by omega)) ?_|(refine cF [] (hA) ?_; conv=>whnf)|refine cP [] (hK) ?_|(refine cF [] (hP) ?_; conv=>whnf)|(refine cF [1,2] (hG) ?_; conv=>whnf)|(refine S_E [] rfl rfl (esafe_ok rfl) ?_; rintro _ _ ⟨rfl,rfl⟩; refine ⟨(by repeat' (first|exact trivial|refine ⟨⟨qsafe_ok (st:=[]) rfl,Sure.of rfl⟩,?_⟩|refine ⟨.inl rfl,?_⟩|refine ⟨.inr ⟨qsafe_ok (st:=[]) rfl,Sure.of rfl⟩,?_⟩|refine ⟨⟨qsafe_ok (st:=[]) rfl,Sure.slice (by omega)⟩,?_⟩|refine ⟨.inr ⟨qsafe_ok (st:=[]) rfl,Sure.slice (by omega)⟩,?_⟩|refine ⟨.inr ⟨QY.neqB rfl (by kernel_rfl) rfl rfl,Sure.of rfl⟩,?_⟩|refine ⟨.inr ⟨QY.eqlB rfl (by kernel_rfl) rfl rfl,Sure.of rfl⟩,?_⟩ | fail)),LSt.nf ?_⟩; conv=>whnf)|(refine S_E [] rfl rfl (EW.imake rfl) ?_; rintro _ _ ⟨rfl,rfl⟩; refine ⟨(by repeat' (first|exact trivial|refine ⟨⟨qsafe_ok (st:=[]) rfl,Sure.of rfl⟩,?_⟩|refine ⟨.inl rfl,?_⟩|refine ⟨.inr ⟨qsafe_ok (st:=[]) rfl,Sure.of rfl⟩,?_⟩|refine ⟨⟨qsafe_ok (st:=[]) rfl,Sure.slice (by omega)⟩,?_⟩|refine ⟨.inr ⟨qsafe_ok (st:=[]) rfl,Sure.slice (by omega)⟩,?_⟩|refine ⟨.inr ⟨QY.neqB rfl (by kernel_rfl) rfl rfl,Sure.of rfl⟩,?_⟩|refine ⟨.inr ⟨QY.eqlB rfl (by kernel_rfl) rfl rfl,Sure.of rfl⟩,?_⟩ | fail)),LSt.nf ?_⟩; conv=>whnf)|refine L_rT ?_|refine L_regT ?_|refine P_lin rfl ?_|refine P_A [] rfl ?_ ?_|refine P_Q [] rfl rfl (QY.add (c:=((m+g:Nat):Int)) rfl rfl (by omega) (by omega) (by omega)) ?_|(refine P_E [] rfl rfl (EW.callF [] (hA) rfl rfl (by decide) (by repeat' (first|exact trivial|refine ⟨rfl,?_⟩ | fail)) rfl rfl) ?_; rintro _ _ ⟨rfl,rfl⟩; refine ⟨(by repeat' (first|exact trivial|refine ⟨⟨qsafe_ok (st:=[]) rfl,Sure.of rfl⟩,?_⟩|refine ⟨.inl rfl,?_⟩|refine ⟨.inr ⟨qsafe_ok (st:=[]) rfl,Sure.of rfl⟩,?_⟩|refine ⟨⟨qsafe_ok (st:=[]) rfl,Sure.slice (by omega)⟩,?_⟩|refine ⟨.inr ⟨qsafe_ok (st:=[]) rfl,Sure.slice (by omega)⟩,?_⟩|refine ⟨.inr ⟨QY.neqB rfl (by kernel_rfl) rfl rfl,Sure.of rfl⟩,?_⟩|refine ⟨.inr ⟨QY.eqlB rfl (by kernel_rfl) rfl rfl,Sure.of rfl⟩,?_⟩ | fail)),LPt.nf ?_⟩; conv=>whnf)|(refine P_Ed [] rfl rfl (EWd.callP [] (hK) rfl rfl (by decide) (by repeat' (first|exact trivial|refine ⟨rfl,?_⟩ | fail)) rfl rfl) (disj_nil _) (nm_nilE _) (nm_nilT _) ?_; rintro _ _ ⟨rfl,rfl⟩; refine ⟨(by repeat' (first|exact trivial|refine ⟨⟨qsafe_ok (st:=[]) rfl,Sure.of rfl⟩,?_⟩|refine ⟨.inl rfl,?_⟩|refine ⟨.inr ⟨qsafe_ok (st:=[]) rfl,Sure.of rfl⟩,?_⟩|refine ⟨⟨qsafe_ok (st:=[]) rfl,Sure.slice (by omega)⟩,?_⟩|refine ⟨.inr ⟨qsafe_ok (st:=[]) rfl,Sure.slice (by omega)⟩,?_⟩|refine ⟨.inr ⟨QY.neqB rfl (by kernel_rfl) rfl rfl,Sure.of rfl⟩,?_⟩|refine ⟨.inr ⟨QY.eqlB rfl (by kernel_rfl) rfl rfl,Sure.of rfl⟩,?_⟩ | fail)),?_⟩)|(refine P_E [] rfl rfl (EW.callF [] (hP) rfl rfl (by decide) (by repeat' (first|exact trivial|refine ⟨rfl,?_⟩ | fail)) rfl rfl) ?_; rintro _ _ ⟨rfl,rfl⟩; refine ⟨(by repeat' (first|exact trivial|refine ⟨⟨qsafe_ok (st:=[]) rfl,Sure.of rfl⟩,?_⟩|refine ⟨.inl rfl,?_⟩|refine ⟨.inr ⟨qsafe_ok (st:=[]) rfl,Sure.of rfl⟩,?_⟩|refine ⟨⟨qsafe_ok (st:=[]) rfl,Sure.slice (by omega)⟩,?_⟩|refine ⟨.inr ⟨qsafe_ok (st:=[]) rfl,Sure.slice (by omega)⟩,?_⟩|refine ⟨.inr ⟨QY.neqB rfl (by kernel_rfl) rfl rfl,Sure.of rfl⟩,?_⟩|refine ⟨.inr ⟨QY.eqlB rfl (by kernel_rfl) rfl rfl,Sure.of rfl⟩,?_⟩ | fail)),LPt.nf ?_⟩; conv=>whnf)|(refine P_E [] rfl rfl (EW.callF [1,2] (hG) rfl rfl (by decide) (by repeat' (first|exact trivial|refine ⟨rfl,?_⟩ | fail)) rfl rfl) ?_; rintro _ _ ⟨rfl,rfl⟩; refine ⟨(by repeat' (first|exact trivial|refine ⟨⟨qsafe_ok (st:=[]) rfl,Sure.of rfl⟩,?_⟩|refine ⟨.inl rfl,?_⟩|refine ⟨.inr ⟨qsafe_ok (st:=[]) rfl,Sure.of rfl⟩,?_⟩|refine ⟨⟨qsafe_ok (st:=[]) rfl,Sure.slice (by omega)⟩,?_⟩|refine ⟨.inr ⟨qsafe_ok (st:=[]) rfl,Sure.slice (by omega)⟩,?_⟩|refine ⟨.inr ⟨QY.neqB rfl (by kernel_rfl) rfl rfl,Sure.of rfl⟩,?_⟩|refine ⟨.inr ⟨QY.eqlB rfl (by kernel_rfl) rfl rfl,Sure.of rfl⟩,?_⟩ | fail)),LPt.nf ?_⟩; conv=>whnf)|(refine P_E [] rfl rfl (esafe_ok rfl) ?_; rintro _ _ ⟨rfl,rfl⟩; refine ⟨(by repeat' (first|exact trivial|refine ⟨⟨qsafe_ok (st:=[]) rfl,Sure.of rfl⟩,?_⟩|refine ⟨.inl rfl,?_⟩|refine ⟨.inr ⟨qsafe_ok (st:=[]) rfl,Sure.of rfl⟩,?_⟩|refine ⟨⟨qsafe_ok (st:=[]) rfl,Sure.slice (by omega)⟩,?_⟩|refine ⟨.inr ⟨qsafe_ok (st:=[]) rfl,Sure.slice (by omega)⟩,?_⟩|refine ⟨.inr ⟨QY.neqB rfl (by kernel_rfl) rfl rfl,Sure.of rfl⟩,?_⟩|refine ⟨.inr ⟨QY.eqlB rfl (by kernel_rfl) rfl rfl,Sure.of rfl⟩,?_⟩ | fail)),LPt.nf ?_⟩; conv=>whnf)|(refine P_E [] rfl rfl (EW.imake rfl) ?_; rintro _ _ ⟨rfl,rfl⟩; refine ⟨(by repeat' (first|exact trivial|refine ⟨⟨qsafe_ok (st:=[]) rfl,Sure.of rfl⟩,?_⟩|refine ⟨.inl rfl,?_⟩|refine ⟨.inr ⟨qsafe_ok (st:=[]) rfl,Sure.of rfl⟩,?_⟩|refine ⟨⟨qsafe_ok (st:=[]) rfl,Sure.slice (by omega)⟩,?_⟩|refine ⟨.inr ⟨qsafe_ok (st:=[]) rfl,Sure.slice (by omega)⟩,?_⟩|refine ⟨.inr ⟨QY.neqB rfl (by kernel_rfl) rfl rfl,Sure.of rfl⟩,?_⟩|refine ⟨.inr ⟨QY.eqlB rfl (by kernel_rfl) rfl rfl,Sure.of rfl⟩,?_⟩ | fail)),LPt.nf ?_⟩; conv=>whnf)|refine aA ?_|refine aS ?_|refine aI (hn:=?_)|refine sP 9 (fun h=>?_) (fun h=>?_)|refine sP 14 (fun h=>?_) (fun h=>?_)|refine sP 19 (fun h=>?_) (fun h=>?_)|refine sP 27 (fun h=>?_) (fun h=>?_)|refine qR ?_|refine qS ?_|exact ⟨rfl,rfl⟩|fail)
 all_goals try (exfalso; omega)
 ·exact L_ret (RetQ.pick [9,1,2,4,5,6,7,8] rfl rfl rfl rfl ⟨rfl,rfl⟩)
 ·exact L_ret (RetQ.pick [9,1,2,4,5,8,6,7] rfl rfl rfl rfl ⟨rfl,rfl⟩)
 ·exact L_ret (RetQ.pick [9,1,2,5,6,4,7,8] rfl rfl rfl rfl ⟨rfl,rfl⟩)
theorem emb8 {e:Emb} (h:e.length=8):∃ a b c d f g i j,e=[a,b,c,d,f,g,i,j]:=by
 match e,h with
 | [a,b,c,d,f,g,i,j],_=>exact ⟨a,b,c,d,f,g,i,j,rfl⟩
theorem BoxAt.two {X:Nat→Prop} {w0 w:World} {E:Emb} {K:LH} (h:Rep X w0 E K w) {i j:Nat} {a b:RA} {x y x' y':LB} (hij:i≠j) (hx:K[i]?=some x') (hy:K[j]?=some y') (ha:E[i]?=some a) (hb:E[j]?=some b) (hx':LBis [a,b] w a x) (hy':LBis [a,b] w b y) (fx:foot a x=foot a x') (fy:foot b y=foot b y'):BoxAt [a,b] [x,y] w:=by
 refine ⟨rfl,fun k z r hz hr=>?_,fun k k' z z' r r' c hz hz' hr hr' hc hc'=>?_,fun k z r c hz hr hc=>?_⟩
 ·match k,hz,hr with
  | 0,hz,hr=>cases hz; cases hr; exact hx'
  | 1,hz,hr=>cases hz; cases hr; exact hy'
 ·match k,k',hz,hz',hr,hr' with
  | 0,0,_,_,_,_=>rfl
  | 1,1,_,_,_,_=>rfl
  | 0,1,hz,hz',hr,hr' =>
   cases hz; cases hz'; cases hr; cases hr'
   exact absurd (h.inj i j _ _ _ _ c hx hy ha hb (by rw [← fx]; exact hc) (by rw [← fy]; exact hc')) hij
  | 1,0,hz,hz',hr,hr' =>
   cases hz; cases hz'; cases hr; cases hr'
   exact absurd (h.inj j i _ _ _ _ c hy hx hb ha (by rw [← fy]; exact hc) (by rw [← fx]; exact hc')).symm hij
 ·match k,hz,hr with
  | 0,hz,hr=>cases hz; cases hr; exact (h.rng i _ _ hx ha c (by rw [← fx]; exact hc)).2
  | 1,hz,hr=>cases hz; cases hr; exact (h.rng j _ _ hy hb c (by rw [← fy]; exact hc)).2
theorem footL2 {a b:RA} {x y:LB} {c:Nat} (h:footL [a,b] [x,y] c):foot a x c∨foot b y c:=by
 obtain ⟨k,z,r,hz,hr,hc⟩:=h
 match k,hz,hr with
 | 0,hz,hr=>cases hz; cases hr; exact .inl hc
 | 1,hz,hr=>cases hz; cases hr; exact .inr hc
theorem pgNew_tr (m g:Nat) (seed:BitVec 64) (h1:m+g≤256) (h2:1≤m+g):TrK Tryz.prog [] [] 76 [.agg ⟨[.int .i64 m,.int .i64 g,.int .u64 (seed.toNat:Int)]⟩] [] (fun v K=>∃ a b g0 g1 m0,v=.tuple ⟨[ptr 0,.int .i64 0]⟩∧K=RPL (newR m g seed a b g0 g1 m0)):=by
 refine TrK.retell (pgNew0_tr m g seed h1 h2) ?_
 rintro X w0 w E v v' K hR hv ⟨rfl,rfl⟩
 obtain ⟨e0,e1,e2,e3,e4,e5,e6,e7,rfl⟩:=emb8 hR.len
 have B0:=hR.blk 0 _ e0 rfl rfl
 have B1:=hR.blk 1 _ e1 rfl rfl
 have B2:=hR.blk 2 _ e2 rfl rfl
 have B3:=hR.blk 3 _ e3 rfl rfl
 have B4:=hR.blk 4 _ e4 rfl rfl
 have B5:=hR.blk 5 _ e5 rfl rfl
 have B6:=hR.blk 6 _ e6 rfl rfl
 have B7:=hR.blk 7 _ e7 rfl rfl
 have hA:BoxAt [e1,e2] (AN (256*(m+g)) (List.replicate (256*(m+g)) 0)) w:=BoxAt.two hR (i:=1) (j:=2) (by decide) rfl rfl rfl rfl (B1.cellsTo ⟨SRm.sl rfl rfl,trivial⟩) B2 rfl rfl
 have hG:BoxAt [e6,e7] (LGr e1 (keyW seed) [] 0) w:=BoxAt.two hR (i:=6) (j:=7) (by decide) rfl rfl rfl rfl (B6.cellsTo ⟨SRm.real rfl,SRm.int,SRm.map rfl rfl rfl,trivial⟩) B7 rfl rfl
 refine ⟨[e0,e3,e4,(e5.1,0,0),(0,0,0),(0,0,0),(0,0,0)],.tuple ⟨[ptr 0,.int .i64 0]⟩,RPL (newR m g seed e1 e2 e6 e7 e5.1),Nat.zero_le _,hR.regroup (fun j=>[0,5,5,1,2,3,6,6].getD j 0) rfl (fun i x r hx hr=>?_) (fun i x r c hx hr hc=>?_),?_,e1,e2,e6,e7,e5.1,rfl,rfl⟩
 ·match i,hx,hr with
  | 0,hx,hr=>cases hx; cases hr; exact B0.cellsTo ⟨SRm.int,SRm.int,SRm.int,SRm.real rfl,SRm.ptr rfl rfl,SRm.int,SRm.map rfl rfl rfl,SRm.real rfl,trivial⟩
  | 1,hx,hr=>cases hx; cases hr; exact B3.cellsTo ⟨SRm.sl rfl rfl,trivial⟩
  | 2,hx,hr=>cases hx; cases hr; exact B4
  | 3,hx,hr=>cases hx; cases hr; exact pB_of B5
  | 4,hx,hr=>cases hx; cases hr; exact CrowdAt.is ⟨fun m hm=>(by simp [newR] at hm),List.Pairwise.nil⟩ rfl
  | 5,hx,hr=>cases hx; cases hr; exact hA.is rfl
  | 6,hx,hr=>cases hx; cases hr; exact CrowdAt.is ⟨fun m hm=>(by rw [List.mem_singleton] at hm; subst hm; exact hG),List.pairwise_singleton _ _⟩ rfl
 ·match i,hx,hr with
  | 0,hx,hr=>cases hx; cases hr; exact ⟨0,_,e0,rfl,rfl,rfl,hc⟩
  | 1,hx,hr=>cases hx; cases hr; exact ⟨3,_,e3,rfl,rfl,rfl,hc⟩
  | 2,hx,hr=>cases hx; cases hr; exact ⟨4,_,e4,rfl,rfl,rfl,hc⟩
  | 3,hx,hr=>cases hx; cases hr; exact ⟨5,_,e5,rfl,rfl,rfl,hc⟩
  | 4,hx,hr=>cases hx; cases hr; obtain ⟨m,hm,_⟩:=hc; exact absurd hm (by simp [newR])
  | 5,hx,hr =>
   cases hx; cases hr
   rcases footL2 hc with h | h
   ·exact ⟨1,_,e1,rfl,rfl,rfl,h⟩
   ·exact ⟨2,_,e2,rfl,rfl,rfl,h⟩
  | 6,hx,hr =>
   cases hx; cases hr
   obtain ⟨m,hm,hc⟩:=hc
   rw [List.mem_singleton] at hm
   subst hm
   rcases footL2 hc with h | h
   ·exact ⟨6,_,e6,rfl,rfl,rfl,h⟩
   ·exact ⟨7,_,e7,rfl,rfl,rfl,h⟩
 ·obtain ⟨vs',q1,q2⟩:=hv
  exact ⟨vs',q1,L2.to (R:=V1 [e0,e1,e2,e3,e4,e5,e6,e7]) (vs:=[ptr 0,.int .i64 0]) ⟨fun c h=>SRm.ptr (r:=e0) rfl rfl c h,fun _ h=>h,trivial⟩ q2⟩
end Go.Proofs.YtblibdfcnplfhaaGreat
end
section
/-
 What stands at real addresses is looked at,and changed,where it stands; rows of such addresses.
-/
namespace Go.Tum
open Go

section
variable {P:Program} {n0:NA} {l:Env} {L:LH} {X:Nat→Prop} {w0 w w':World} {E em:Emb} {S:LH}
/-! ### members of a crowd -/
theorem crowd_at {c:Nat} {ms:List Mem} {m:Mem} (hR:Rep X w0 E L w) (hc:L[c]?=some (crowd ms)) (hm:m∈ms):BoxAt m.1 m.2 w:=by
 obtain ⟨r,hr⟩:=hR.ent hc
 obtain ⟨h1,_,_⟩:=hR.blk c _ r hc hr
 exact h1.all m hm
theorem QY.ldC {x:Operand} {c q i o:Nat} {ms:List Mem} {r:Nat × Nat × Nat} {sz:Nat} {vs:List Value} {u v:Value} (hx:lv l x=some (.pointer (some ⟨r.1,q,some 0⟩))) (hq:q=o+r.2.1) (hc:L[c]?=some (crowd ms)) (hm:(em,S)∈ms) (hi:em[i]?=some r) (hS:S[i]?=some (.cells sz vs)) (ho:vs[o]?=some u)
  (hu:∀ v',SR em u v'→∀ E,VR E v v'):QY P n0 L l (.ld x) v:=by
 intro X w0 E0 w E l' h0 hE hR hl
 obtain ⟨_,h1,h2⟩:=lv_ev hl hx
 have h2:_=Value.pointer (some ⟨r.1,q,none⟩):=h2
 subst h2; subst hq
 obtain ⟨cs,h3,h4,h5,_⟩:=(crowd_at hR hc hm).blk i _ r hS hi
 obtain ⟨y,h6,h7⟩:=h4.get ho
 refine ⟨y,⟨_,h1,?_⟩,hu y h7 E⟩
 have hlt:=(List.getElem?_eq_some_iff.1 ho).1
 rw [h3.cellEq,Nat.add_comm]
 rw [List.getElem?_take,if_pos hlt,List.getElem?_drop] at h6
 exact h6
theorem QY.ldCi {x:Operand} {c q i o:Nat} {ms:List Mem} {r:Nat × Nat × Nat} {sz:Nat} {vs:List Value} {k:IntKind} {n:Int} (hx:lv l x=some (.pointer (some ⟨r.1,q,some 0⟩))) (hq:q=o+r.2.1) (hc:L[c]?=some (crowd ms)) (hm:(em,S)∈ms) (hi:em[i]?=some r) (hS:S[i]?=some (.cells sz vs)) (ho:vs[o]?=some (.int k n)):QY P n0 L l (.ld x) (.int k n) :=
 QY.ldC hx hq hc hm hi hS ho fun _ h _=>h
theorem QY.ldCa {x:Operand} {c q i o o':Nat} {ms:List Mem} {r r':Nat × Nat × Nat} {sz:Nat} {vs:List Value} (hx:lv l x=some (.pointer (some ⟨r.1,q,some 0⟩))) (hq:q=o+r.2.1) (hc:L[c]?=some (crowd ms)) (hm:(em,S)∈ms) (hi:em[i]?=some r) (hS:S[i]?=some (.cells sz vs)) (ho:vs[o]?=some (adR r' o')):QY P n0 L l (.ld x) (adR r' o') :=
 QY.ldC hx hq hc hm hi hS ho fun _ h _=>h
theorem QY.ldCq {x:Operand} {c q i o b o' s n m:Nat} {ms:List Mem} {r:Nat × Nat × Nat} {sz:Nat} {vs:List Value} (hx:lv l x=some (.pointer (some ⟨r.1,q,some 0⟩))) (hq:q=o+r.2.1) (hc:L[c]?=some (crowd ms)) (hm:(em,S)∈ms) (hi:em[i]?=some r) (hS:S[i]?=some (.cells sz vs)) (ho:vs[o]?=some (.slice (some ⟨b,o',some s⟩) n m)):QY P n0 L l (.ld x) (.slice (some ⟨b,o',some s⟩) n m) :=
 QY.ldC hx hq hc hm hi hS ho fun _ h _=>h
theorem QY.ldCg {x:Operand} {c q i k:Nat} {ms:List Mem} {r:Nat × Nat × Nat} {sz:Nat} {ws:List Value} {u:Value} (hx:lv l x=some (.pointer (some ⟨r.1,q,some 0⟩))) (hq:q=k+r.2.1) (hc:L[c]?=some (crowd ms)) (hm:(em,S)∈ms) (hi:em[i]?=some r) (hS:S[i]?=some (.gro sz ws)) (hk:ws[k]?=some u)
  (hu:stillS u=true):QY P n0 L l (.ld x) u:=by
 intro X w0 E0 w E l' h0 hE hR hl
 obtain ⟨_,h1,h2⟩:=lv_ev hl hx
 have h2:_=Value.pointer (some ⟨r.1,q,none⟩):=h2
 subst h2; subst hq
 have hlt:=(List.getElem?_eq_some_iff.1 hk).1
 rcases (crowd_at hR hc hm).blk i _ r hS hi with ⟨rfl,_⟩ | ⟨_,_,cs,h3,h4,_⟩
 ·simp at hlt
 ·refine ⟨u,⟨_,h1,?_⟩,(SR.still (E:=E) hu).vr⟩
  rw [h3.cellEq,Nat.add_comm]
  rw [← h4,List.getElem?_take,if_pos hlt,List.getElem?_drop] at hk
  exact hk
theorem QY.nilcR {x:Operand} {p:Addr} (hx:lv l x=some (.pointer (some p))):QY P n0 L l (.nilc x) (.pointer (some p)):=QY.of (by simp only [lq,hx])
theorem QY.fldR {x:Operand} {b o s off:Nat} (hx:lv l x=some (.pointer (some ⟨b,o,some s⟩))):QY P n0 L l (.fld x off) (.pointer (some ⟨b,o+off,some s⟩)):=by
 intro X w0 E0 w E l' h0 hE hR hl
 obtain ⟨_,h1,h2⟩:=lv_ev hl hx
 have h2:_=Value.pointer (some ⟨b,o,none⟩):=h2
 subst h2
 exact ⟨_,⟨b,o,none,h1,rfl⟩,by rw [add_none]; rfl⟩
theorem L2.stillA:∀ {vs:List Value},vs.all stillS=true→L2 (SR E) vs vs
 | [],_=>trivial
 | v::vs,h=>by
  simp only [List.all_cons,Bool.and_eq_true] at h
  exact ⟨SR.still h.1,L2.stillA h.2⟩
/-- a row within a member -/
theorem QY.ldnCg {α:Type} {g:α→List Value} {x:Operand} {c q i k:Nat} {ms:List Mem} {r:Nat × Nat × Nat} {sz:Nat} {xs:List α} {a:α} (hg:RowOk g sz) (hx:lv l x=some (.pointer (some ⟨r.1,q,some 0⟩))) (hq:q=k*sz+r.2.1) (hc:L[c]?=some (crowd ms)) (hm:(em,S)∈ms) (hi:em[i]?=some r) (hS:S[i]?=some (.gro sz (rowsC g xs))) (hk:xs[k]?=some a) (hz:0<sz):QY P n0 L l (.ldn x sz) (.agg ⟨g a⟩):=by
 intro X w0 E0 w E l' h0 hE hR hl
 obtain ⟨_,h1,h2⟩:=lv_ev hl hx
 have h2:_=Value.pointer (some ⟨r.1,q,none⟩):=h2
 subst h2; subst hq
 have hlt:=(List.getElem?_eq_some_iff.1 hk).1
 have hle:(k+1)*sz≤xs.length*sz:=Nat.mul_le_mul_right _ hlt
 rw [Nat.add_mul,Nat.one_mul] at hle
 have hlen:=rowsC_length hg xs
 rcases (crowd_at hR hc hm).blk i _ r hS hi with ⟨h2,_⟩ | ⟨_,_,cs,h3,h4,_⟩
 ·have:=congrArg List.length h2
  rw [hlen] at this
  simp at this; omega
 ·refine ⟨.agg ⟨g a⟩,⟨_,⟨g a⟩,h1,hg.len a,fun j hj=>?_,rfl⟩,⟨g a,rfl,L2.stillA (hg.still a)⟩⟩
  have h5:=rowsC_cell hg hk hj
  rw [← h4,List.getElem?_take,if_pos (by omega),List.getElem?_drop] at h5
  rw [add_none,h3.cellEq,List.getElem?_toArray,← h5]
  congr 1; omega
/-- a slice of a row of the same member -/
theorem QY.ldCs {x:Operand} {c q i j o m sz sz':Nat} {ms:List Mem} {r r':Nat × Nat × Nat} {vs ws:List Value} (hx:lv l x=some (.pointer (some ⟨r.1,q,some 0⟩))) (hq:q=o+r.2.1) (hc:L[c]?=some (crowd ms)) (hm:(em,S)∈ms) (hi:em[i]?=some r) (hS:S[i]?=some (.cells sz vs)) (ho:vs[o]?=some (.slice (some ⟨j,0,none⟩) m m)) (hj:em[j]?=some r') (hw:S[j]?=some (.gro sz' ws)) (h0w:m=0→ws=[]) :
  QY P n0 L l (.ld x) (.slice (some ⟨r'.1,r'.2.1,some 0⟩) m (m+r'.2.2)):=by
 intro X w0 E0 w E l' h0 hE hR hl
 obtain ⟨_,h1,h2⟩:=lv_ev hl hx
 have h2:_=Value.pointer (some ⟨r.1,q,none⟩):=h2
 subst h2; subst hq
 have hB:=crowd_at hR hc hm
 obtain ⟨cs,h3,h4,h5,_⟩:=hB.blk i _ r hS hi
 obtain ⟨y,h6,h7⟩:=h4.get ho
 have hlt:=(List.getElem?_eq_some_iff.1 ho).1
 refine ⟨y,⟨_,h1,?_⟩,?_⟩
 ·rw [h3.cellEq,Nat.add_comm]
  rw [List.getElem?_take,if_pos hlt,List.getElem?_drop] at h6
  exact h6
 ·obtain ⟨_,p,hp,h8⟩:=h7
  have hp:em[j]?=some p:=hp
  rw [hj] at hp; cases hp
  have hz:m=0→r'.2.2=0:=fun e=>by
   rcases hB.blk j _ r' hw hj with ⟨_,h⟩ | ⟨h,_⟩
   ·exact h
   ·exact absurd (h0w e) h
  rcases h8 with ⟨a',c',rfl,⟨rfl,rfl⟩ | ⟨e1,_,e3,o',rfl,_⟩⟩ | ⟨e1,_,a',rfl⟩
  ·left
   show _=_
   rw [Nat.zero_add]
  ·right
   exact ⟨e1,by have:=hz e1; omega,⟨_,by rw [e1,e3]⟩⟩
  ·right
   exact ⟨e1,by have:=hz e1; omega,⟨_,rfl⟩⟩
theorem BoxAt.setC {i o sz:Nat} {r:Nat × Nat × Nat} {vs:List Value} {u u':Value} (h:BoxAt em S w) (hi:em[i]?=some r) (hS:S[i]?=some (.cells sz vs)) (hu:SR em u u'):BoxAt em (S.set i (.cells sz (vs.set o u))) (w.setCell ⟨r.1,o+r.2.1,none⟩ u'):=by
 have hR:=h.rep
 obtain ⟨cs,hB,hl2,hle,hz⟩:=h.blk i _ r hS hi
 refine (hR.upd (x:=.cells sz (vs.set o u)) hS hi (Fr.setCell w ⟨r.1,o+r.2.1,none⟩ u') ⟨cs.set (o+r.2.1) u',hB.set _ _,?_,?_,hz⟩ (fun _ h=>.inl h)).boxAt
 ·have h3:=hl2.set o hu
  rw [List.length_set]
  have e:((cs.set (o+r.2.1) u').drop r.2.1).take vs.length=((cs.drop r.2.1).take vs.length).set o u':=by
   rw [List.drop_set,if_neg (by omega),List.take_set]
   congr 1; omega
  rw [e]; exact h3
 ·simp only [List.length_set]; omega
/-- a cell of a member is changed -/
theorem EW.stC {x y:Operand} {c q i o sz:Nat} {ms ms' rest:List Mem} {r:Nat × Nat × Nat} {vs:List Value} {u uo:Value} (hx:lv l x=some (.pointer (some ⟨r.1,q,some 0⟩))) (hq:q=o+r.2.1) (hy:lv l y=some uo) (hu:∀ (E:Emb) (v':Value),VR E uo v'→SR em u v'∧one v'=true)
  (hc:L[c]?=some (crowd ms)) (hm:ms.Perm ((em,S)::rest)) (hm':ms'.Perm ((em,S.set i (.cells sz (vs.set o u)))::rest)) (hi:em[i]?=some r) (hS:S[i]?=some (.cells sz vs)) (ho:o<vs.length) :
  EW P n0 L l (.st x y) (fun w K=>w=undef∧K=L.set c (crowd ms')):=by
 intro X w0 E0 w E l' Kf h0 hE hR hl hK
 obtain ⟨_,h1,h2⟩:=lv_ev hl hx
 have h2:_=Value.pointer (some ⟨r.1,q,none⟩):=h2
 subst h2; subst hq
 obtain ⟨u',h3,h4⟩:=lv_ev hl hy
 obtain ⟨h5,h6⟩:=hu E u' h4
 obtain ⟨rc,hrc⟩:=hR.ent hc
 obtain ⟨g1,g2,_⟩:=hR.blk c _ rc hc hrc
 have g1:CrowdAt ((em,S)::rest) w:=CrowdAt.perm hm g1
 have hB:BoxAt em S w:=g1.all _ (List.mem_cons_self ..)
 have hap:=List.pairwise_cons.1 g1.apart
 obtain ⟨cs,hBl,hl2,hle,_⟩:=hB.blk i _ r hS hi
 have hoc:o+r.2.1<cs.length:=by omega
 have hft:Mem.at (em,S) r.1:=⟨i,_,r,hS,hi,rfl⟩
 have hB2:=hB.setC (o:=o) hi hS h5
 have hF:∀ b,Mem.at (em,S.set i (.cells sz (vs.set o u))) b→Mem.at (em,S) b:=by
  rintro b ⟨k,z,p,hz,hp,hb⟩
  rw [List.getElem?_set] at hz
  split at hz
  ·rename_i e; subst e
   rw [if_pos (List.getElem?_eq_some_iff.1 hS).1] at hz; cases hz
   rw [hi] at hp; cases hp
   exact ⟨i,_,r,hS,hi,hb⟩
  ·exact ⟨k,z,p,hz,hp,hb⟩
 have hfr:=Fr.setCell w ⟨r.1,o+r.2.1,none⟩ u'
 have hCr:CrowdAt rest (w.setCell ⟨r.1,o+r.2.1,none⟩ u'):=CrowdAt.fr (w:=w) ⟨fun m hm=>g1.all m (List.mem_cons_of_mem _ hm),hap.2⟩ hfr fun b ⟨m,h7,h8⟩ e=>by
  have e:b=r.1:=e
  subst e
  exact hap.1 m h7 _ hft h8
 have hC:CrowdAt ms' (w.setCell ⟨r.1,o+r.2.1,none⟩ u'):=CrowdAt.perm hm'.symm ⟨fun m h7=>by
  rcases List.mem_cons.1 h7 with rfl | h7
  ·exact hB2
  ·exact hCr.all m h7,List.pairwise_cons.2 ⟨fun m h7 b h8 h9=>hap.1 m h7 b (hF b h8) h9,hap.2⟩⟩
 refine ⟨_,_,h1,h3,h6,hBl.some hoc,hBl.frozen _,hK _ E _ _ _ ⟨rfl,rfl⟩ (Ext.refl E) (hR.upd hc hrc (hfr.mono fun b _ hb=>?_) (hC.is g2) fun b hb=>?_) VR.undef⟩
 ·have hb:b=r.1:=hb
  subst hb
  exact ⟨(em,S),hm.mem_iff.2 (List.mem_cons_self ..),hft⟩
 ·obtain ⟨m,h7,h8⟩:=hb
  left
  rcases List.mem_cons.1 (hm'.mem_iff.1 h7) with rfl | h7
  ·exact ⟨(em,S),hm.mem_iff.2 (List.mem_cons_self ..),hF b h8⟩
  ·exact ⟨m,hm.mem_iff.2 (List.mem_cons_of_mem _ h7),h8⟩

/-! ### rows of addresses -/
def ptrV:Option (Nat × Nat × Nat)→Value
 | none=>.pointer none
 | some r=>.pointer (some ⟨r.1,r.2.1,none⟩)
def ptrS:Option (Nat × Nat × Nat)→Value
 | none=>.pointer none
 | some r=>adR r 0
def pRow (ps:List (Option (Nat × Nat × Nat))):LB:=.gro 1 (ps.map ptrV)
theorem ptr_vr (q:Option (Nat × Nat × Nat)):VR E (ptrS q) (ptrV q):=by
 cases q with
 | none=>exact rfl
 | some r =>
  show ptrV (some r)=_
  unfold ptrV
  simp only [Nat.zero_add]
theorem ptr_eq {q:Option (Nat × Nat × Nat)} {v':Value} (h:VR E (ptrS q) v'):v'=ptrV q:=by
 cases q with
 | none=>exact h
 | some r =>
  have h:v'=.pointer (some ⟨r.1,0+r.2.1,none⟩):=h
  rw [h]; unfold ptrV; rw [Nat.zero_add]
theorem ptr_one (q:Option (Nat × Nat × Nat)):one (ptrV q)=true:=by cases q <;> rfl
theorem repC_ptr (n:Nat):repC n [.pointer none]=(List.replicate n none).map ptrV:=by
 induction n with
 | zero=>rfl
 | succ n ih=>simp only [repC,ih,List.replicate_succ,List.map_cons]; rfl
theorem QY.ldP {x:Operand} {b k:Nat} {ps:List (Option (Nat × Nat × Nat))} {q:Option (Nat × Nat × Nat)} {v:Value} (hx:lv l x=some (.pointer (some ⟨b,k*1,none⟩))) (hb:L[b]?=some (pRow ps)) (hk:ps[k]?=some q) (hv:ptrS q=v):QY P n0 L l (.ld x) v:=by
 subst hv
 intro X w0 E0 w E l' h0 hE hR hl
 obtain ⟨_,h1,a',rfl,_,r,hr,rfl⟩:=lv_ev hl hx
 have hlt:=(List.getElem?_eq_some_iff.1 hk).1
 rcases hR.blk b _ r hb hr with ⟨h2,_⟩ | ⟨_,_,cs,h3,h4,_⟩
 ·have:=congrArg List.length h2; simp at this; subst this; simp at hlt
 ·refine ⟨ptrV q,⟨_,h1,?_⟩,ptr_vr q⟩
  rw [h3.cellEq]
  have h5:(ps.map ptrV)[k]?=some (ptrV q):=by rw [List.getElem?_map,hk]; rfl
  rw [← h4,List.getElem?_take,if_pos (by rw [List.length_map]; exact hlt),List.getElem?_drop] at h5
  rw [← h5]
  show cs[k*1+r.2.1]?=_
  congr 1; omega
theorem EW.stP {x y:Operand} {b k:Nat} {ps:List (Option (Nat × Nat × Nat))} {q:Option (Nat × Nat × Nat)} (hx:lv l x=some (.pointer (some ⟨b,k*1,none⟩))) (hy:lv l y=some (ptrS q)) (hb:L[b]?=some (pRow ps)) (hk:k<ps.length) :
  EW P n0 L l (.st x y) (fun w K=>w=undef∧K=L.set b (pRow (ps.set k q))):=by
 intro X w0 E0 w E l' Kf h0 hE hR hl hK
 obtain ⟨_,h1,a',rfl,_,r,hr,rfl⟩:=lv_ev hl hx
 obtain ⟨u',h2,h3⟩:=lv_ev hl hy
 obtain rfl:=ptr_eq h3
 have hml:(ps.map ptrV).length=ps.length:=List.length_map _
 rcases hR.blk b _ r hb hr with ⟨h4,_⟩ | ⟨hne,hsz,cs,hB,hcs,hroom⟩
 ·have:=congrArg List.length h4; simp at this; subst this; simp at hk
 ·have hne2:(ps.set k q).map ptrV≠[]:=by intro e; have:=congrArg List.length e; simp at this; subst this; simp at hk
  have hoc:k*1+r.2.1<cs.length:=by omega
  refine ⟨_,_,h1,h2,ptr_one q,hB.some hoc,hB.frozen _,hK _ E _ _ _ ⟨rfl,rfl⟩ (Ext.refl E) (hR.upd hb hr ?_ (.inr ⟨hne2,hsz,cs.set (k*1+r.2.1) (ptrV q),hB.set _ _,?_,?_⟩) ?_) VR.undef⟩
  ·unfold pRow; rw [gro_foot hne]; exact Fr.setCell w ⟨r.1,k*1+r.2.1,none⟩ _
  ·rw [List.map_set,List.length_set,List.drop_set,if_neg (by omega),List.take_set,hcs]
   congr 1; omega
  ·simp only [List.length_set,List.length_map] at *; exact hroom
  ·unfold pRow; rw [gro_foot hne,gro_foot hne2]; exact fun _ h=>.inl h
/-- the whole row,behind an empty one -/
theorem EW.appP {o:Oper} {s x:Operand} {sT xT:TypeId} {bytes b bx n:Nat} {ps:List (Option (Nat × Nat × Nat))} (ho:o.op=.call ⟨.builtin .append,⟨[s,x]⟩,⟨[sT,xT]⟩⟩) (ht:appT P sT xT=some (1,bytes))
  (hs:lv l s=some (.slice (some ⟨b,0,none⟩) 0 0)) (hx:lv l x=some (.slice (some ⟨bx,0,none⟩) n n)) (hb:L[b]?=some (.gro 1 [])) (hbx:L[bx]?=some (pRow ps)) (hn:ps.length=n) (hn0:n≠0) (hbd:(2*(0+n)+2048)*bytes≤281474976710656) :
  EW P n0 L l (.raw o) (fun v K=>v=.slice (some ⟨L.length,0,none⟩) n n∧K=L.set b .dead++[pRow ps]):=by
 refine EW.mono (EW.appX (Q:=fun us=>us=ps.map ptrV) (m:=n) ho ht hs hb rfl (by simp) hbd fun X w0 E0 w E l' h0 hE hR hl=>?_) ?_
 ·obtain ⟨vx',h3,h0',r,hr,h4⟩:=lv_ev hl hx
  have hr:E[bx]?=some r:=hr
  have hml:(ps.map ptrV).length=ps.length:=List.length_map _
  rcases hR.blk bx _ r hbx hr with ⟨h5,_⟩ | ⟨_,_,cs,hB,hcs,_⟩
  ·have:=congrArg List.length h5; rw [hml] at this; simp at this; subst this; simp at hn; omega
  refine ⟨vx',_,h3,⟨by rw [hml]; omega,fun u hu=>?_,.inr ?_⟩,rfl⟩
  ·obtain ⟨q,_,rfl⟩:=List.mem_map.1 hu; exact ptr_one q
  ·rcases h4 with ⟨a',c',rfl,⟨rfl,rfl⟩ | ⟨h,_⟩⟩ | ⟨h,_⟩
   ·refine ⟨_,_,rfl,fun j hj=>?_⟩
    rw [add_none,hB.cellEq,← hcs,List.getElem?_take,if_pos (by rw [hml]; omega),List.getElem?_drop]
    show cs[0+r.2.1+j]?=_
    congr 1; omega
   ·exact absurd h hn0
   ·exact absurd h hn0
 ·rintro v K ⟨us,rfl,rfl,rfl⟩
  exact ⟨by rw [Nat.zero_add],rfl⟩
/-! ### a new block joins a crowd -/
theorem LSt.enter {ss:List Step} {K:Env→LH→Prop} {c N sz:Nat} {ms:List Mem} {vs:List Value} (hlen:L.length=N+1) (hk:L[N]?=some (.cells sz vs)) (hvs:rnB (N+1) [N] (.cells sz vs)=.cells sz vs) (hc:L[c]?=some (crowd ms)) (hcN:c<N)
  (h:∀ r:Nat × Nat × Nat,LSt P n0 ss K (realE N [r] l) [] (((closed (L.take N) [.cells sz vs] [r]).set c (crowd (([r],[.cells sz vs])::ms))).set (N+1) .dead)):LSt P n0 ss K l [] L:=⟨fun X w0 E0 w E l' F h0 hE hR hl hT=>by
 have hM:(L.take N).length=N:=by rw [List.length_take]; omega
 have hL:L=L.take N++unbox (L.take N).length [.cells sz vs]:=by
  unfold unbox
  rw [hM]
  show L=L.take N++[rnB (N+1) [N] (.cells sz vs)]
  rw [hvs]
  apply List.ext_getElem?
  intro i
  by_cases hi:i<N
  ·rw [List.getElem?_append_left (by omega),List.getElem?_take,if_pos hi]
  ·rw [List.getElem?_append_right (by omega),hM]
   by_cases e:i=N
   ·subst e; rw [hk,Nat.sub_self]; rfl
   ·rw [List.getElem?_eq_none (by omega),List.getElem?_eq_none (by simp; omega)]
 rw [hL] at hR
 obtain ⟨g1,g2,g3⟩:=hR.closeR
 rw [hM] at g1 g2 g3
 obtain ⟨r,hr⟩:=List.length_eq_one_iff.1 g3
 rw [hr] at g1 g2
 have hm:((L.take N).map (realB (L.take N).length [r])).length=N:=by rw [List.length_map,hM]
 have q1:(closed (L.take N) [LB.cells sz vs] [r])[c]?=some (crowd ms):=by
  unfold closed
  rw [List.append_assoc,List.getElem?_append_left (by omega),List.getElem?_map,List.getElem?_take,if_pos hcN,hc]
  rfl
 have q2:(closed (L.take N) [LB.cells sz vs] [r])[N+1]?=some (box [r] [.cells sz vs]):=by
  unfold closed
  have e1:((L.take N).map (realB (L.take N).length [r])++List.replicate [LB.cells sz vs].length LB.dead).length=N+1:=by rw [List.length_append,hm]; rfl
  rw [List.getElem?_append_right (by omega),e1,Nat.sub_self]
  rfl
 have g4:=g1.crowdIn (b:=c) (k:=N+1) (by omega) q1 q2
 refine (h r).go X w0 E0 w (E++[(0,0,0)]) l' F h0 (hE.trans (Ext.app E _)) g4 ((hl.ext (Ext.app E _)).real g2) ?_
 cases F with
 | nil=>trivial
 | cons _ _=>exact hT.elim⟩
end
end Go.Tum
end
section
/-
 A shared object alone,handed a row that came in.
-/
namespace Go.Tum
open Go
set_option maxRecDepth 4000

/-- a block more,of which nothing is known -/
theorem Rep.dead {X:Nat→Prop} {w0 w:World} {E:Emb} {L:LH} (h:Rep X w0 E L w) (q:Nat × Nat × Nat):Rep X w0 (E++[q]) (L++[.dead]) w:=by
 have key:∀ {i:Nat} {x:LB} {r:Nat × Nat × Nat} {b:Nat},(L++[.dead])[i]?=some x→(E++[q])[i]?=some r→foot r x b→L[i]?=some x∧E[i]?=some r:=by
  intro i x r b hx hr hb
  have hl:=h.len
  by_cases hi:i<L.length
  ·rw [List.getElem?_append_left hi] at hx
   rw [List.getElem?_append_left (by omega)] at hr
   exact ⟨hx,hr⟩
  ·rw [List.getElem?_append_right (by omega)] at hx
   rcases Nat.lt_or_ge (i-L.length) 1 with h1 | h1
   ·rw [show i-L.length=0 by omega] at hx
    cases hx
    exact hb.elim
   ·rw [List.getElem?_eq_none (by simpa using h1)] at hx; cases hx
 refine ⟨h.fr,by rw [List.length_append,List.length_append,h.len]; rfl,fun i x r hx hr b hb=>?_,fun i x r hx hr=>?_,fun i i' x x' r r' b hx hx' hr hr' hb hb'=>?_⟩
 ·obtain ⟨h1,h2⟩:=key hx hr hb
  exact h.rng i x r h1 h2 b hb
 ·have hl:=h.len
  by_cases hi:i<L.length
  ·rw [List.getElem?_append_left hi] at hx
   rw [List.getElem?_append_left (by omega)] at hr
   exact (h.blk i x r hx hr).ext (Ext.push E q)
  ·rw [List.getElem?_append_right (by omega)] at hx
   rcases Nat.lt_or_ge (i-L.length) 1 with h1 | h1
   ·rw [show i-L.length=0 by omega] at hx
    cases hx
    trivial
   ·rw [List.getElem?_eq_none (by simpa using h1)] at hx; cases hx
 ·obtain ⟨h1,h2⟩:=key hx hr hb
  obtain ⟨g1,g2⟩:=key hx' hr' hb'
  exact h.inj i i' x x' r r' b h1 g1 h2 g2 hb hb'
theorem TrK.boxedA {P:Program} {f:FuncId} {us vs:List Value} {A A':LH} {ea:Emb} {v1 v2:Value} {M:Nat} {G:Nat→AV}
  (ht:TrK P [(A.length,M,G)] (seqN 0 (A.length+1)) f us (A++[.dead]) (fun v K=>v=v1∧K=A'++[.dead])) (hl:A'.length=A.length) (hA':Self A') (hea:ea.length=A.length) (hu:∀ r q vs',L2 (VR [r,q]) vs vs'→L2 (VR (ea++[q])) us vs') (hv:∀ q v',VR (ea++[q]) v1 v'→∀ E,VR E v2 v') :
  TrK P [(1,M,G)] [0,1] f vs [box ea A,.dead] (fun v K=>v=v2∧K=[box ea A',.dead]):=by
 intro X w0 w E vs' hA0 hR hv'
 obtain ⟨r,q,rfl⟩:∃ r q,E=[r,q]:=by
  have:=hR.len
  match E,this with
  | [a,b],_=>exact ⟨a,b,rfl⟩
 obtain ⟨h1,h2,_⟩:=hR.blk 0 _ r rfl rfl
 have hB:BoxAt ea A w:=h1
 have hT:=hR.tab hA0.2.2 (F:=footL ea A) fun c hc=>⟨0,_,r,rfl,rfl,hc⟩
 have hX:∀ b,b<w0.heap.size→¬ X b→¬ footL ea A b:=fun b hb hx hc=>by
  rcases (hR.rng 0 _ r rfl rfl b hc).1 with h | h
  ·omega
  ·exact hx h
 have hArg:ArgAt (footL ea A) w (ea++[q]) A.length M G:=fun hm=>by
  obtain ⟨r',h3,h4,h5,h6⟩:=(hA0.2.1 (1,M,G) (List.mem_singleton.2 rfl)).2 hm
  cases h3
  refine ⟨q,by rw [← hea,List.getElem?_append_right (Nat.le_refl _),Nat.sub_self]; rfl,Nat.lt_of_lt_of_le h4 hR.fr.size,hX _ h4 h5,fun i hi=>?_⟩
  obtain ⟨y,h7,h8⟩:=h6 i hi
  exact ⟨y,by rw [← h7]; simp only [World.cell?,hR.fr.keep _ h4 h5],AV.keep hR.fr hX _ _ h8⟩
 have hlen:(A++[LB.dead]).length=A.length+1:=by rw [List.length_append]; rfl
 have hc:=ht (footL ea A) w w (ea++[q]) vs' ⟨by rw [List.length_append,hlen,hea]; rfl,fun x hx=>by
  cases List.mem_singleton.1 hx
  refine ⟨?_,hArg⟩
  rw [inL_mem]
  have:=seqN_get (A.length+1) 0 A.length (by omega)
  rw [Nat.zero_add] at this
  exact List.mem_of_getElem? this,hT⟩ (hB.rep.dead q) (hu r q vs' hv')
 refine ⟨hc.1,hc.2.mono ?_⟩
 rintro v' w' ⟨E',v0,L',g1,g0,g2,g3,q1,q2⟩
 subst q1; subst q2
 have gl:=g3.len
 obtain rfl:E'=ea++[q]:=all_kept (n:=A.length+1) (fun i p hi hp=>g1 i p hi hp) (by rw [List.length_append,hea]; rfl) (by rw [gl,List.length_append,hl]; rfl)
 have g3':Rep (footL ea A) w ea A' w':=by
  have get:∀ {i:Nat} {x:LB},A'[i]?=some x→(A'++[LB.dead])[i]?=some x:=fun {i x} h=>by rw [List.getElem?_append_left (List.getElem?_eq_some_iff.1 h).1]; exact h
  have get':∀ {i:Nat} {x:Nat × Nat × Nat},ea[i]?=some x→(ea++[q])[i]?=some x:=fun {i x} h=>by rw [List.getElem?_append_left (List.getElem?_eq_some_iff.1 h).1]; exact h
  exact ⟨g3.fr,by rw [hea,hl],fun i x r hx hr b hb=>g3.rng i x r (get hx) (get' hr) b hb,fun i x r hx hr=>(hA' i x hx ea [q] w' r (by rw [hea,hl])).2 (g3.blk i x r (get hx) (get' hr)),fun i i' x x' r r' b hx hx' hr hr' hb hb'=>g3.inj i i' x x' r r' b (get hx) (get hx') (get' hr) (get' hr') hb hb'⟩
 refine ⟨[r,q],v2,[box ea A',.dead],fun _ _ _ h=>h,Nat.le_refl _,hv q v' g2 _,hR.upd (b:=0) (x:=box ea A') rfl rfl g3'.fr (g3'.boxAt.is h2) fun c hc=>?_,rfl,rfl⟩
 ·obtain ⟨i,x,p,hx,hp,hc⟩:=hc
  obtain ⟨h5,h6⟩:=g3'.rng i x p hx hp c hc
  rcases h5 with h5 | h5
  ·exact .inr ⟨h5,h6⟩
  ·exact .inl h5
/-- bytes in a box,at their real address,behind an empty row -/
theorem EW.appBB {P:Program} {n0:NA} {l:Env} {L:LH} {o:Oper} {s x:Operand} {sT xT:TypeId} {bytes b bx n:Nat} {e:Nat × Nat × Nat} {bs:List (BitVec 8)} (ho:o.op=.call ⟨.builtin .append,⟨[s,x]⟩,⟨[sT,xT]⟩⟩) (ht:appT P sT xT=some (1,bytes))
  (hs:lv l s=some (.slice (some ⟨b,0,none⟩) 0 0)) (hx:lv l x=some (.slice (some ⟨e.1,0+e.2.1,some 0⟩) n (n+e.2.2))) (hb:L[b]?=some (.gro 1 [])) (hbx:L[bx]?=some (box [e] [.gro 1 (rowsC byteC bs)])) (hn:bs.length=n) (hn0:n≠0) (hbd:(2*(0+n)+2048)*bytes≤281474976710656) :
  EW P n0 L l (.raw o) (fun v K=>v=.slice (some ⟨L.length,0,none⟩) n n∧K=L.set b .dead++[.gro 1 (rowsC byteC bs)]):=by
 refine EW.mono (EW.appX (Q:=fun us=>us=rowsC byteC bs) (m:=n) ho ht hs hb rfl (by simp) hbd fun X w0 E0 w E l' h0 hE hR hl=>?_) ?_
 ·obtain ⟨vx',h3,h4⟩:=lv_ev hl hx
  obtain ⟨r,hr⟩:=hR.ent hbx
  obtain ⟨h5,_⟩:=hR.blk bx _ r hbx hr
  have h5:BoxAt [e] [.gro 1 (rowsC byteC bs)] w:=h5
  have hml:(rowsC byteC bs).length=bs.length:=by rw [rowsC_length byteC_ok]; omega
  rcases h5.blk 0 _ e rfl rfl with ⟨h6,_⟩ | ⟨_,_,cs,hB,hcs,_⟩
  ·have:=congrArg List.length h6; rw [hml] at this; simp at this; subst this; simp at hn; omega
  refine ⟨vx',_,h3,⟨by rw [hml]; omega,fun u hu=>(SR.still (E:=[]) (List.all_eq_true.1 (rowsC_still byteC_ok bs) u hu)).one.1,.inr ?_⟩,rfl⟩
  rcases h4 with rfl | ⟨h,_⟩
  ·refine ⟨_,_,rfl,fun j hj=>?_⟩
   rw [add_none,hB.cellEq,← hcs,List.getElem?_take,if_pos (by rw [hml]; omega),List.getElem?_drop]
   show cs[0+e.2.1+j]?=_
   congr 1; omega
  ·exact absurd h hn0
 ·rintro v K ⟨us,rfl,rfl,rfl⟩
  exact ⟨by rw [Nat.zero_add],rfl⟩
/-- one cell told anew -/
theorem Rep.recell {X:Nat→Prop} {w0 w:World} {E:Emb} {L:LH} {b sz k:Nat} {vs:List Value} {v u:Value} (h:Rep X w0 E L w) (hb:L[b]?=some (.cells sz vs)) (hv:vs[k]?=some v) (hu:∀ c,SR E v c→SR E u c):Rep X w0 E (L.set b (.cells sz (vs.set k u))) w:=by
 obtain ⟨r,hr⟩:=h.ent hb
 obtain ⟨cs,h1,h2,h3⟩:=h.blk b _ r hb hr
 refine h.upd hb hr (Fr.refl _ w) ⟨cs,h1,?_,?_⟩ fun c hc=>.inl hc
 ·rw [List.length_set]
  exact L2.setL h2 fun a c ha hc=>hu c (by rw [hv] at ha; cases ha; exact hc)
 ·rw [List.length_set]; exact h3
/-- what is behind M becomes a box; one slice of it in M,too,is told at its real address -/
theorem LWp.closeS {P:Program} {n0:NA} {l:Env} {Q:Exit→Env→LH→Prop} {m:MC} {M Ls:LH} {b sz k i o n c:Nat} {vs:List Value} (hb:M[b]?=some (.cells sz vs)) (hk:vs[k]?=some (.slice (some ⟨M.length+i,o,none⟩) n c)) (hn:n≠0)
  (h:∀ (Es:Emb) (r:Nat × Nat × Nat),Es.length=Ls.length→Es[i]?=some r→LWp P n0 m Q (realE M.length Es l) ((closed M Ls Es).set b (.cells sz ((vs.map (realV M.length Es)).set k (slR r o n c))))) (hi:i<Ls.length):LWp P n0 m Q l (M++unbox M.length Ls):=⟨fun X w0 E0 w E l' h0 hE hR hl=>by
 obtain ⟨h1,h2,h3⟩:=hR.closeR
 have hb2:(closed M Ls (E.drop M.length))[b]?=some (.cells sz (vs.map (realV M.length (E.drop M.length)))):=by
  unfold closed
  have hlt:=(List.getElem?_eq_some_iff.1 hb).1
  rw [List.append_assoc,List.getElem?_append_left (by rw [List.length_map]; exact hlt),List.getElem?_map,hb]
  rfl
 obtain ⟨r,hr⟩:∃ r,(E.drop M.length)[i]?=some r:=⟨_,List.getElem?_eq_getElem (by rw [h3]; exact hi)⟩
 have h4:=h1.recell (k:=k) (u:=slR r o n c) hb2 (by rw [List.getElem?_map,hk]; rfl) (SRm.slR (h2 i r hr) hn)
 exact (h _ r h3 hr).go X w0 E0 w _ l' h0 (hE.trans (Ext.app E _)) h4 ((hl.ext (Ext.app E _)).real h2)⟩
end Go.Tum
end
section
/-
 Sets of whole numbers: maps whose elements are all true.
-/
namespace Go.Tum
open Go
set_option maxRecDepth 4000

abbrev GS:=List (Int × Nat)
def tE (x:Int × Nat):Int × Value × Nat:=(x.1,.bool true,x.2)
def tB (b0:Nat) (G:GS) (c:Nat):LB:=.abs (fun r w=>r=b0∧Mp (Value.int .i64) w r (G.map tE) c∧Wf (G.map tE) c) (·=b0)
def thas (G:GS) (a:Int):Bool:=G.any fun x=>decide (x.1=a)
structure GSOk (G:GS) (c:Nat):Prop where
 keys:(G.map (·.1)).Nodup
 borns:(G.map (·.2)).Nodup
 lt:∀ x∈G,x.2<c
def tput (G:GS) (a:Int) (c:Nat):GS × Nat:=bif thas G a then (G,c) else (G++[(a,c)],c+1)
theorem thas_iff {G:GS} {a:Int}:thas G a=true↔∃ b,(a,b)∈G:=by
 unfold thas
 rw [List.any_eq_true]
 constructor
 ·rintro ⟨x,hx,h⟩
  have h:=of_decide_eq_true h
  exact ⟨x.2,by rw [← h]; exact hx⟩
 ·rintro ⟨b,h⟩
  exact ⟨_,h,decide_eq_true rfl⟩
theorem thas_tput (G:GS) (a b:Int) (c:Nat):thas (tput G a c).1 b=(thas G b || decide (a=b)):=by
 unfold tput
 cases h:thas G a with
 | true =>
  show thas G b=_
  by_cases e:a=b
  ·subst e; rw [h]; rfl
  ·rw [decide_eq_false e,Bool.or_false]
 | false =>
  show thas (G++[(a,c)]) b=_
  unfold thas
  rw [List.any_append]
  simp
theorem GSOk.nil:GSOk [] 0:=⟨List.nodup_nil,List.nodup_nil,fun _ h=>by cases h⟩
theorem GSOk.filter {G:GS} {c:Nat} (h:GSOk G c) (p:Int × Nat→Bool):GSOk (G.filter p) c :=
 ⟨h.keys.sublist (List.filter_sublist.map _),h.borns.sublist (List.filter_sublist.map _),fun x hx=>h.lt x (List.mem_filter.1 hx).1⟩
theorem GSOk.tput {G:GS} {c:Nat} (h:GSOk G c) (a:Int):GSOk (tput G a c).1 (tput G a c).2:=by
 unfold Tum.tput
 cases hh:thas G a with
 | true=>exact h
 | false =>
  show GSOk (G++[(a,c)]) (c+1)
  refine ⟨?_,?_,fun x hx=>?_⟩
  ·rw [List.map_append,List.nodup_append]
   refine ⟨h.keys,by simp,fun b hb d hd e=>?_⟩
   obtain ⟨x,hx,rfl⟩:=List.mem_map.1 hb
   simp at hd
   have:=thas_iff.2 ⟨x.2,show (x.1,x.2)∈G from hx⟩
   rw [e,hd,hh] at this; cases this
  ·rw [List.map_append,List.nodup_append]
   refine ⟨h.borns,by simp,fun b hb d hd e=>?_⟩
   obtain ⟨x,hx,rfl⟩:=List.mem_map.1 hb
   have:=h.lt x hx
   simp at hd; omega
  ·rcases List.mem_append.1 hx with hx | hx
   ·have:=h.lt x hx; omega
   ·rw [List.mem_singleton] at hx; subst hx; exact Nat.lt_succ_self _
theorem GSOk.of {G:GS} {c:Nat} (h:Wf (G.map tE) c):GSOk G c:=by
 have e1:(G.map tE).map (·.1)=G.map (·.1):=by rw [List.map_map]; rfl
 have e2:(G.map tE).map (·.2.2)=G.map (·.2):=by rw [List.map_map]; rfl
 obtain ⟨h1,h2,h3⟩:=h
 rw [e1] at h1
 rw [e2] at h2
 exact ⟨h1,h2,fun x hx=>h3 (tE x) (List.mem_map_of_mem hx)⟩
theorem mfind_t (G:GS) (a:Int):mfind (G.map tE) a=(G.find? fun x=>decide (x.1=a)).map tE:=by
 unfold mfind
 rw [List.find?_map]
 rfl
theorem mset_t (G:GS) (a:Int) (c:Nat):mset (G.map tE) a (.bool true) c=((tput G a c).1.map tE,(tput G a c).2):=by
 unfold mset tput
 rw [mfind_t]
 cases h:G.find? fun x=>decide (x.1=a) with
 | some x =>
  have h1:thas G a=true:=by unfold thas; rw [List.any_eq_true]; exact ⟨x,List.mem_of_find?_eq_some h,by simpa using List.find?_some h⟩
  rw [h1]
  show (mput (G.map tE) a (.bool true),c)=(G.map tE,c)
  congr 1
  unfold mput
  rw [List.map_map]
  apply List.map_congr_left
  intro y _
  show (if (tE y).1=a then ((tE y).1,Value.bool true,(tE y).2.2) else tE y)=tE y
  split <;> rfl
 | none =>
  have h1:thas G a=false:=by
   unfold thas
   rw [List.any_eq_false]
   intro x hx e
   exact absurd e (List.find?_eq_none.1 h x hx)
  rw [h1]
  show ((G.map tE)++[(a,Value.bool true,c)],c+1)=((G++[(a,c)]).map tE,c+1)
  rw [List.map_append]; rfl
section
variable {P:Program} {n0:NA} {l:Env} {L:LH} {X:Nat→Prop} {w0 w:World} {E:Emb}
/-- a map's type: its keys are whole numbers,its elements truths -/
def tmT (P:Program) (mT:TypeId):Bool:=match P.underlying mT with
 | some (.map kt et)=>match P.underlying kt,zeroOf P et with
  | some (.int .i64),some (.bool false)=>true
  | _,_=>false
 | _=>false
theorem tmT_ok {mT:TypeId} (h:tmT P mT=true):∃ kt et,P.underlying mT=some (.map kt et)∧P.underlying kt=some (.int .i64)∧zeroOf P et=some (.bool false):=by
 unfold tmT at h
 split at h
 rotate_left
 ·cases h
 rename_i kt et hu
 split at h
 ·rename_i h1 h2; exact ⟨kt,et,hu,h1,h2⟩
 ·cases h
theorem tB_is {r:Nat × Nat × Nat} {b0 c:Nat} {G:GS} (h:Mp (Value.int .i64) w r.1 (G.map tE) c) (hw:Wf (G.map tE) c) (h1:r.1=b0) (h2:r.2=(0,0)):LBis E w r (tB b0 G c) :=
 ⟨⟨h1,h,hw⟩,h2,fun _ _ _ ⟨g1,g2,g3⟩ hf hn=>⟨g1,g2.fr hf (hn _ g1),g3⟩⟩
theorem tB_at {l':Env} {x:Operand} {b b0 c:Nat} {G:GS} (hR:Rep X w0 E L w) (hl:ER E l l') (hx:lv l x=some (.map (some b))) (hb:L[b]?=some (tB b0 G c)) :
  ∃ r,E[b]?=some r∧ev l' x=some (.map (some r.1))∧(Mp (Value.int .i64) w r.1 (G.map tE) c∧Wf (G.map tE) c)∧r.1=b0∧r.2=(0,0):=by
 obtain ⟨_,h1,r,h2,rfl⟩:=lv_ev hl hx
 obtain ⟨⟨h3,h4⟩,h5,_⟩:=hR.blk b _ r hb h2
 exact ⟨r,h2,h1,h4,h3,h5⟩
theorem QY.tget {o:Oper} {mT:TypeId} {x y:Operand} {b b0 c:Nat} {G:GS} {a:Int} {u:Bool} (ho:o.op=.lookup mT x y false) (ht:tmT P mT=true)
  (hx:lv l x=some (.map (some b))) (hy:lv l y=some (.int .i64 a)) (hb:L[b]?=some (tB b0 G c)) (hu:thas G a=u):QY P n0 L l (.raw o) (.bool u):=by
 intro X w0 E0 w E l' _ hE hR hl
 obtain ⟨kt,et,hT,hkt,hz⟩:=tmT_ok ht
 obtain ⟨r,h2,h3,⟨h4,h5⟩,_⟩:=tB_at hR hl hx hb
 obtain ⟨_,h7,rfl⟩:=lv_ev hl hy
 obtain ⟨d,op,ty,pos,af,g⟩:=o
 simp only at ho
 subst ho
 refine ⟨_,lookup_Y (ty:=ty) (k:=a) hT (keyLaw_int hkt) (zeroOf_ok hz) h3 h7 h4 rfl,?_⟩
 rw [mfind_t,← hu]
 cases h:G.find? fun x=>decide (x.1=a) with
 | some x =>
  have h1:thas G a=true:=by unfold thas; rw [List.any_eq_true]; exact ⟨x,List.mem_of_find?_eq_some h,by simpa using List.find?_some h⟩
  rw [h1]; rfl
 | none =>
  have h1:thas G a=false:=by
   unfold thas
   rw [List.any_eq_false]
   intro x hx e
   exact absurd e (List.find?_eq_none.1 h x hx)
  rw [h1]; rfl
theorem EW.tput {o:Oper} {mT:TypeId} {x y u:Operand} {b b0 c:Nat} {G:GS} {a:Int} (ho:o.op=.mapUpdate mT x y u) (ht:tmT P mT=true)
  (hx:lv l x=some (.map (some b))) (hy:lv l y=some (.int .i64 a)) (hu:lv l u=some (.bool true)) (hb:L[b]?=some (tB b0 G c)) :
  EW P n0 L l (.raw o) (fun w K=>w=undef∧K=L.set b (tB b0 (tput G a c).1 (tput G a c).2)):=by
 intro X w0 E0 w E l' Kf h0 hE hR hl hK
 obtain ⟨kt,et,hT,hkt,hz⟩:=tmT_ok ht
 obtain ⟨r,h2,h3,⟨h4,h5⟩,h8,h9⟩:=tB_at hR hl hx hb
 obtain ⟨_,h6,rfl⟩:=lv_ev hl hy
 obtain ⟨_,h7,rfl⟩:=lv_ev hl hu
 obtain ⟨d,op,ty,pos,af,g⟩:=o
 simp only at ho
 subst ho
 have hs:=mset_t G a c
 have hw:=h5.mset (k:=a) (.bool true)
 rw [hs] at hw
 refine mapUpdate_W (ty:=ty) (k:=a) hT (keyLaw_int hkt) h3 h6 h7 h4 h5 (fun w' hM hf hsz=>hK w' E _ _ _ ⟨rfl,rfl⟩ (Ext.refl E) (hR.upd hb h2 (hf.mono fun c _ hc=>?_) (tB_is ?_ hw h8 h9) (fun _ h=>.inl h)) VR.undef)
 ·have hc:c=r.1:=hc
  show c=b0
  omega
 ·rw [hs] at hM; exact hM
theorem EW.tdel {o:Oper} {mT kT:TypeId} {x y:Operand} {b b0 c:Nat} {G:GS} {a:Int} (ho:o.op=.call ⟨.builtin .delete,⟨[x,y]⟩,⟨[mT,kT]⟩⟩) (ht:tmT P mT=true)
  (hx:lv l x=some (.map (some b))) (hy:lv l y=some (.int .i64 a)) (hb:L[b]?=some (tB b0 G c)) :
  EW P n0 L l (.raw o) (fun w K=>w=.tuple #[]∧K=L.set b (tB b0 (G.filter fun x => !decide (x.1=a)) c)):=by
 intro X w0 E0 w E l' Kf h0 hE hR hl hK
 obtain ⟨kt,et,hT,hkt,hz⟩:=tmT_ok ht
 obtain ⟨r,h2,h3,⟨h4,h5⟩,h8,h9⟩:=tB_at hR hl hx hb
 obtain ⟨_,h6,rfl⟩:=lv_ev hl hy
 obtain ⟨d,op,ty,pos,af,g⟩:=o
 simp only at ho
 subst ho
 have e:Tum.mdel (G.map tE) a=(G.filter fun x => !decide (x.1=a)).map tE:=by
  unfold Tum.mdel
  rw [List.filter_map]
  rfl
 have hw:=Wf.del (k:=a) h5
 rw [e] at hw
 refine delete_W (ty:=ty) (k:=a) hT (keyLaw_int hkt) h3 h6 h4 h5 (fun w' hM hf hsz=>hK w' E _ _ _ ⟨rfl,rfl⟩ (Ext.refl E) (hR.upd hb h2 (hf.mono fun c _ hc=>?_) (tB_is ?_ hw h8 h9) (fun _ h=>.inl h)) ⟨[],rfl,trivial⟩)
 ·have hc:c=r.1:=hc
  show c=b0
  omega
 ·rw [e] at hM; exact hM
theorem EW.tmake {o:Oper} {mT:TypeId} (ho:o.op=.makeMap mT none):EW P n0 L l (.raw o) (fun w K=>∃ b0,w=.map (some L.length)∧K=L++[tB b0 [] 0]):=by
 intro X w0 E0 w E l' Kf h0 hE hR hl hK
 obtain ⟨d,op,ty,pos,af,g⟩:=o
 simp only at ho
 subst ho
 refine makeMap_W (ty:=ty) (Value.int .i64) fun w' hM hf hsz=>hK w' (E++[(w.heap.size,0,0)]) _ _ _ ⟨w.heap.size,rfl,rfl⟩ (Ext.push E _) (hR.push hf (fun b hb=>?_) (tB_is hM ⟨by simp,by simp,by simp⟩ rfl rfl)) ?_
 ·have hb:b=w.heap.size:=hb
  omega
 ·exact ⟨_,hR.last _,rfl⟩
theorem EW.trange {o:Oper} {mT:TypeId} {x:Operand} {b b0 c:Nat} {G:GS} (ho:o.op=.range mT x) (ht:tmT P mT=true) (hx:lv l x=some (.map (some b))) (hb:L[b]?=some (tB b0 G c)) :
  EW P n0 L l (.raw o) (fun v K=>GSOk G c∧v=.pointer (some ⟨L.length,0,none⟩)∧K=L++[.iter (some b) c [] c]):=by
 intro X w0 E0 w E l' Kf h0 hE hR hl hK
 obtain ⟨kt,et,hT,hkt,hz⟩:=tmT_ok ht
 obtain ⟨r,h2,h1,⟨h3,h4⟩,_⟩:=tB_at hR hl hx hb
 obtain ⟨d,op,ty,pos,af,g⟩:=o
 simp only at ho
 subst ho
 intro ρ w1 ha hs
 have h3':w1.heap[r.1]?=some (.map ((G.map tE).map (mkE (Value.int .i64))).toArray c):=by rw [hs.heap]; exact h3
 refine Eff.value (v:=.pointer (some ⟨w1.heap.size,0,none⟩)) (w':=w1.alloc (.mapIter (some r.1) c #[] c)) ?_ ⟨w.alloc (.mapIter (some r.1) c #[] c),hs.push _,?_⟩
 ·simp [execOp,Instr.range,ha x _ h1,run_underlying hT,getObj_run (P:=P) h3']
 ·rw [hs.heap]
  refine hK _ (E++[(w.heap.size,0,0)]) _ _ _ ⟨GSOk.of h4,rfl,rfl⟩ (Ext.push E _) (hR.push1 (Fr.alloc _ w _) rfl (alloc_size _ _) (fun _ h=>h) ⟨rfl,some r.1,?_,r,Ext.push E _ b r h2,rfl⟩) ⟨_,rfl,rfl,_,hR.last _,by simp⟩
  show (w.heap.push _)[w.heap.size]?=_
  simp
theorem EW.tnext {o:Oper} {it:Operand} {b b0 q c:Nat} {seen:List Nat} {G:GS} (ho:o.op=.next it false) (hit:lv l it=some (.pointer (some ⟨b,0,none⟩))) (hb:L[b]?=some (.iter (some q) c seen c)) (hq:L[q]?=some (tB b0 G c)) :
  EW P n0 L l (.raw o) (fun v K=>(∃ e∈G,e.2∉seen∧v=.tuple ⟨[.bool true,.int .i64 e.1,.bool true]⟩∧K=L.set b (.iter (some q) c (seen++[e.2]) c))∨((∀ e∈G,e.2∈seen)∧v=.tuple ⟨[.bool false]⟩∧K=L)):=by
 intro X w0 E0 w E l' Kf h0 hE hR hl hK
 obtain ⟨_,h1,a',rfl,_,r,h3,rfl⟩:=lv_ev hl hit
 have h3:E[b]?=some r:=h3
 obtain ⟨hr0,m',h5,q',h6,rfl⟩:=hR.blk b _ r hb h3
 obtain ⟨r1,r2⟩:=r
 simp only at hr0 h5
 subst hr0
 obtain ⟨⟨_,h7,h8⟩,_⟩:=hR.blk q _ q' hq h6
 have hG:=GSOk.of h8
 obtain ⟨d,op,ty,pos,af,g⟩:=o
 simp only at ho
 subst ho
 have hmem:∀ e∈(G.map tE).map (mkE (Value.int .i64)),∃ y∈G,e=⟨.int .i64 y.1,.bool true,y.2⟩:=fun e he=>by
  obtain ⟨z,hz,rfl⟩:=List.mem_map.1 he
  obtain ⟨y,hy,rfl⟩:=List.mem_map.1 hz
  exact ⟨y,hy,rfl⟩
 have hlt:∀ e∈(G.map tE).map (mkE (Value.int .i64)),e.born<c:=fun e he=>by
  obtain ⟨y,hy,rfl⟩:=hmem e he
  exact hG.lt y hy
 intro ρ w1 ha hs
 have h5':=h5
 rw [← hs.heap] at h5'
 have h7':w1.heap[q'.1]?=some (.map ((G.map tE).map (mkE (Value.int .i64))).toArray c):=by rw [hs.heap]; exact h7
 have hlb:=(Array.getElem?_eq_some_iff.1 h5).1
 rcases next_runM (P:=P) (ty:=ty) h5' h7' hlt with ⟨h9,hrun⟩ | ⟨e,he,hns,w2,hw2,hrun⟩
 ·refine Eff.value (v:=.tuple #[.bool false]) (w':=w1) ?_ ⟨w,hs,hK w E _ _ _ (.inr ⟨fun x hx=>?_,rfl,rfl⟩) (Ext.refl E) hR ⟨[.bool false],rfl,rfl,trivial⟩⟩
  ·simp only [execOp,ha it _ h1,Sem.run_bind]
   rw [show (0+0)=0 from rfl,hrun]; rfl
  ·exact h9 ⟨.int .i64 x.1,.bool true,x.2⟩ (List.mem_map.2 ⟨tE x,List.mem_map_of_mem hx,rfl⟩)
 ·obtain ⟨y,hy,rfl⟩:=hmem e he
  have hsim:Sim w2 w:=by
   rcases hw2 with rfl | rfl
   ·exact hs
   ·exact ⟨hs.heap,hs.tape,hs.os,hs.output⟩
  refine Eff.value (v:=.tuple #[.bool true,.int .i64 y.1,.bool true]) ?_ ⟨_,hsim.setObj r1 (.mapIter (some q'.1) c (seen++[y.2]).toArray c),?_⟩
  ·simp only [execOp,ha it _ h1,Sem.run_bind]
   rw [show (0+0)=0 from rfl,hrun]; rfl
  ·refine hK _ E _ _ _ (.inl ⟨y,hy,hns,rfl,rfl⟩) (Ext.refl E) (hR.upd hb h3 (Fr.setObj w r1 _) ⟨rfl,some q'.1,?_,q',h6,rfl⟩ (fun _ h=>.inl h)) ⟨[.bool true,.int .i64 y.1,.bool true],rfl,rfl,rfl,rfl,trivial⟩
   simp [hlb]
theorem EW.tentry {o:Oper} {it:Operand} {b b0 q c:Nat} {seen:List Nat} {G:GS} {e:Int × Nat} (ho:o.op=.entry it) (hit:lv l it=some (.pointer (some ⟨b,0,none⟩))) (hb:L[b]?=some (.iter (some q) c (seen++[e.2]) c)) (hq:L[q]?=some (tB b0 G c)) (he:e∈G) :
  EW P n0 L l (.raw o) (fun v K=>v=.tuple ⟨[.int .i64 e.1,.bool true]⟩∧K=L):=by
 intro X w0 E0 w E l' Kf h0 hE hR hl hK
 obtain ⟨_,h1,a',rfl,_,r,h3,rfl⟩:=lv_ev hl hit
 have h3:E[b]?=some r:=h3
 obtain ⟨hr0,m',h5,q',h6,rfl⟩:=hR.blk b _ r hb h3
 obtain ⟨r1,r2⟩:=r
 simp only at hr0 h5
 subst hr0
 obtain ⟨⟨-,h7,h8⟩,-⟩:=hR.blk q _ q' hq h6
 have hG:=GSOk.of h8
 obtain ⟨d,op,ty,pos,af,g⟩:=o
 simp only at ho
 subst ho
 intro ρ w1 ha hs
 have h5':=h5
 rw [← hs.heap] at h5'
 have h7':w1.heap[q'.1]?=some (.map ((G.map tE).map (mkE (Value.int .i64))).toArray c):=by rw [hs.heap]; exact h7
 have hg1:=getObjI_run (P:=P) h5' (fun _ _ _ h=>by cases h)
 have hg2:=getObjI_run (P:=P) h7' (fun _ _ _ h=>by cases h)
 have hbk:(seen++[e.2]).toArray.back?=some e.2:=by rw [List.back?_toArray,List.getLast?_append,List.getLast?_singleton]; rfl
 have hfd:((G.map tE).map (mkE (Value.int .i64))).toArray.find? (fun x=>x.born == e.2)=some ⟨.int .i64 e.1,.bool true,e.2⟩:=by
  rw [List.find?_toArray]
  have hbn:=hG.borns
  clear hG h7 h7' h8 hg2 hq h5 h5' hg1 hb hbk
  induction G with
  | nil=>cases he
  | cons a t ih =>
   simp only [List.map_cons,List.nodup_cons] at hbn
   simp only [List.map_cons,List.find?_cons,mkE,tE]
   rcases List.mem_cons.1 he with rfl | he
   ·simp
   ·have hne:(a.2 == e.2)=false:=by
     rw [beq_eq_false_iff_ne]
     intro q; exact hbn.1 (q ▸ List.mem_map_of_mem he)
    rw [hne]
    exact ih he hbn.2
 generalize ((G.map tE).map (mkE (Value.int .i64))).toArray=M at hg2 hfd
 refine Eff.value (v:=.tuple #[.int .i64 e.1,.bool true]) (w':=w1) ?_ ⟨w,hs,hK w E _ _ _ ⟨rfl,rfl⟩ (Ext.refl E) hR ⟨_,rfl,rfl,rfl,trivial⟩⟩
 simp [execOp,ha it _ h1,Instr.entry,hg1,hg2,hbk,hfd]
end
theorem nodup_inj {α β:Type} {f:α→β}:∀ {l:List α},(l.map f).Nodup→∀ {x y:α},x∈l→y∈l→f x=f y→x=y
 | [],_,_,_,hx,_,_=>by cases hx
 | a::r,h,x,y,hx,hy,e=>by
  have h:=List.nodup_cons.1 h
  rcases List.mem_cons.1 hx with e1 | h1 <;> rcases List.mem_cons.1 hy with e2 | h2
  ·rw [e1,e2]
  ·exact absurd (List.mem_map.2 ⟨y,h2,by rw [← e1]; exact e.symm⟩) h.1
  ·exact absurd (List.mem_map.2 ⟨x,h1,by rw [← e2]; exact e⟩) h.1
  ·exact nodup_inj h.2 h1 h2 e
/-- as a set is while what p tells is deleted out of it,in whatever order -/
def thru (G:GS) (p:Int→Bool) (seen:List Nat):GS:=G.filter fun x => !(decide (x.2∈seen) && p x.1)
theorem thru_keep {G:GS} {p:Int→Bool} {seen:List Nat} {e:Int × Nat} {c:Nat} (h:GSOk G c) (he:e∈G) (hp:p e.1=false):thru G p (seen++[e.2])=thru G p seen:=by
 unfold thru
 apply List.filter_congr
 intro x hx
 by_cases e1:x.2=e.2
 ·have:x=e:=nodup_inj h.borns hx he e1
  subst this
  rw [hp,Bool.and_false,Bool.and_false]
 ·have:(x.2∈seen++[e.2])↔x.2∈seen:=by simp [e1]
  simp only [this]
theorem thru_del {G:GS} {p:Int→Bool} {seen:List Nat} {e:Int × Nat} {c:Nat} (h:GSOk G c) (he:e∈G) (hp:p e.1=true):(thru G p seen).filter (fun x => !decide (x.1=e.1))=thru G p (seen++[e.2]):=by
 unfold thru
 rw [List.filter_filter]
 apply List.filter_congr
 intro x hx
 by_cases e1:x.1=e.1
 ·have:x=e:=nodup_inj h.keys hx he e1
  subst this
  simp [hp]
 ·have e2:x.2≠e.2:=fun q=>e1 (by rw [nodup_inj h.borns hx he q])
  have:(x.2∈seen++[e.2])↔x.2∈seen:=by simp [e2]
  simp only [this,decide_eq_false e1,Bool.not_false,Bool.true_and]
theorem thru_end {G:GS} {p:Int→Bool} {seen:List Nat} (h:∀ e∈thru G p seen,e.2∈seen):thru G p seen=G.filter fun x => !p x.1:=by
 unfold thru at h ⊢
 apply List.filter_congr
 intro x hx
 cases hp:p x.1 with
 | false=>rw [Bool.and_false]
 | true =>
  rw [Bool.and_true]
  by_cases hs:x.2∈seen
  ·rw [decide_eq_true hs]
  ·exact absurd (h x (List.mem_filter.2 ⟨hx,by simp [hs]⟩)) hs
theorem thru_nil (G:GS) (p:Int→Bool):thru G p []=G:=by
 unfold thru
 simp
theorem thas_filter (G:GS) (p:Int→Bool) (a:Int):thas (G.filter fun x => !p x.1) a=(thas G a && !p a):=by
 rw [Bool.eq_iff_iff,Bool.and_eq_true,thas_iff,thas_iff]
 constructor
 ·rintro ⟨b,h⟩
  have:=List.mem_filter.1 h
  exact ⟨⟨b,this.1⟩,this.2⟩
 ·rintro ⟨⟨b,h⟩,h2⟩
  exact ⟨b,List.mem_filter.2 ⟨h,h2⟩⟩
/-- how many have not been seen -/
def unsn (G:GS) (seen:List Nat):Nat:=(G.filter fun x => !decide (x.2∈seen)).length
theorem unsn_lt {G:GS} {seen:List Nat} {e:Int × Nat} (he:e∈G) (hs:e.2∉seen):unsn G (seen++[e.2])<unsn G seen:=by
 unfold unsn
 have h1:(G.filter fun x => !decide (x.2∈seen++[e.2]))=(G.filter fun x => !decide (x.2∈seen)).filter fun x => !decide (x.2=e.2):=by
  rw [List.filter_filter]
  apply List.filter_congr
  intro x _
  by_cases e1:x.2=e.2 <;> by_cases e2:x.2∈seen <;> simp [e1,e2]
 rw [h1]
 have hm:e∈G.filter fun x => !decide (x.2∈seen):=List.mem_filter.2 ⟨he,by simp [hs]⟩
 have:∀ (l:GS),e∈l→(l.filter fun x => !decide (x.2=e.2)).length<l.length:=by
  intro l
  induction l with
  | nil=>intro h; cases h
  | cons a r ih =>
   intro h
   have hle:=List.length_filter_le (fun x:Int × Nat => !decide (x.2=e.2)) r
   rw [List.filter_cons]
   rcases List.mem_cons.1 h with rfl | h
   ·simp; omega
   ·have:=ih h
    split <;> simp only [List.length_cons] <;> omega
 exact this _ hm
end Go.Tum
end
section
namespace Go.Proofs.YtblibdfcnplfhaaGreat
open Go Go.Tum Go.Tum.Base
set_option maxRecDepth 4000
structure Rp where
 th:Int
 at_:Int
 f:Int
def Rp.cells (p:Rp):List Value:=[.int .i64 p.th,.int .i64 p.at_,.int .i64 p.f]
def FL (r:PR) (b0:Nat) (G:GS) (c:Nat) (rs:List Rp):LH:=RPL r++[tB b0 G c,.cells 0 [ptr 0,.map (some 7),slB 9 rs.length],.gro 3 (rowsC Rp.cells rs)]
theorem flNew_tr (r:PR):Tr Tryz.prog 77 [ptr 0] (RPL r) (fun v K=>∃ b0:Nat,True∧v=ptr 8∧K=FL r b0 [] 0 []):=by
 refine Tr.of row_fault_New_ok rfl ?_
 repeat' (first|refine qN ?_|refine dN ?_|refine dR ?_|refine d0 ?_|refine rT ?_|refine qT ?_|refine qU ?_|refine qL ?_|refine qK ?_|refine iF (fun h=>?_) (fun h=>?_)|refine aI (hn:=?_)|refine qR ?_|refine qS ?_|exact ⟨rfl,rfl⟩|fail)
 refine S_E [] rfl rfl (EW.tmake rfl) ?_
 rintro _ _ ⟨b0,rfl,rfl⟩
 refine ⟨trivial,LSt.nf ?_⟩
 conv=>whnf
 repeat' (first|refine qN ?_|refine dN ?_|refine dR ?_|refine d0 ?_|refine rT ?_|refine qT ?_|refine qU ?_|refine qL ?_|refine qK ?_|refine iF (fun h=>?_) (fun h=>?_)|refine aI (hn:=?_)|refine qR ?_|refine qS ?_|exact ⟨rfl,rfl⟩|fail)
 refine LWp.nilC 8 2 3 rfl rfl ?_
 exact L_ret (RetQ.pick [0,1,2,3,4,5,6,7,8,9] rfl rfl rfl rfl ⟨b0,trivial,rfl,rfl⟩)
end Go.Proofs.YtblibdfcnplfhaaGreat
end
section
namespace Go.Proofs.YtblibdfcnplfhaaGreat
open Go Go.Tum Go.Tum.Base
set_option maxRecDepth 4000
structure QE where
 e:RA
 q:Qr
def memQ (x:QE):Mem:=([x.e],[QB x.q])
def crowdQ (qs:List QE):LB:=crowd (qs.map memQ)
structure TK where
 t:Nat
 arg:Int
 nx:Option Nat
 at_:Int
 f:Int
 mo:Int
structure PS where
 r:PR
 b0:Nat
 G:GS
 c:Nat
 rs:List Rp
 ml:Tum.Remote.Mail
 mg:Nat→Prop
 qs:List QE
 now:Int
 cm:Int
 cg:Int
 cs:Int
 th:Int
 ba:Int
 wa:Int
end Go.Proofs.YtblibdfcnplfhaaGreat
end
section
namespace Go.Proofs.YtblibdfcnplfhaaGreat
open Go Go.Tum Go.Tum.Base
set_option maxRecDepth 4000
abbrev fDrain:Nat:=81
abbrev fLook:Nat:=56
end Go.Proofs.YtblibdfcnplfhaaGreat
end
section
/-
 Rows of rows of numbers that nobody changes any more: the outer row in one block,the inner ones in another one. A call of a function's value,told by a family.
-/
namespace Go.Tum
open Go

section
variable {P:Program} {n0:NA} {l l1:Env} {L L1 Lc:LH} {T T1:Taken} {K:Env→LH→Prop} {ss r:List Step} {d:Option Nat} {g:Option (Nat × Bool)} {pend:List Nat}
theorem cVX {ι:Type} {V V2:ι→Value} {B K2:ι→LH} {C:ι→Prop} {keep:List Nat} {f:FuncId} {x:Operand} {args:List Operand} {a c vs us:List Value} (φ:List Nat) (ht:TrK P [] keep f us Lc (fun v K=>∃ i,C i∧v=V i∧K=B i)) (hn:∀ i,C i→nE (dpush d (V2 i) l1) fun l=>nL (K2 i) fun L=>LSt P n0 r K l T1 L) (h:arun [] ss l T L=(.e d g (.callv x args) pend::r,l1,T1,L1):=by exact rfl) (hg:gw g l1=some true:=by exact rfl)
  (hx:lv l1 x=some (.func (.func f) ⟨a⟩ ⟨c⟩):=by exact rfl) (hv:lvs l1 args=some vs:=by exact rfl) (he:us.map (rnV L1.length φ)=a++vs++c:=by exact rfl) (h1:φ.Nodup:=by decide) (h2:partL L1 φ φ Lc:=by repeat' (first|exact trivial|refine ⟨rfl,?_⟩ | fail)) (hm:nmL (dropped keep 0 φ) φ 0 L1=true:=by kernel_rfl) (h3:∀ i,rnV (L1.length+(B i).length) (phi2 φ L1.length (B i)) (V i)=V2 i:=by exact fun _=>rfl) (h4:∀ i,joinQ φ L1 (B i)=K2 i:=by exact fun _=>rfl)
  (h5:disj (dropped keep 0 φ) n0.keep=true:=by kernel_rfl) (h6:nmE (dropped keep 0 φ) l1=true:=by kernel_rfl) (h7:nmT (dropped keep 0 φ) T1=true:=by kernel_rfl)
  (hc:∀ i,chkG P n0 φ T1 L1 (K2 i) pend:=by intro _; repeat' (first|exact trivial|refine ⟨.inl rfl,?_⟩|refine ⟨.inr ⟨qsafe_ok (st:=[]) rfl,Sure.of rfl⟩,?_⟩ | fail)):LSt P n0 ss K l T L :=
 S_Ed [] h hg ((EWd.callv φ ht hx hv he (Part.of h1 h2) handed_nil hm).mono fun v K ⟨_,_,⟨i,hi,e1,e2⟩,e3,e4⟩=>(by subst e1; subst e2; exact ⟨i,hi,e3.trans (h3 i),e4.trans ((joinQ_eq h1).trans (h4 i))⟩:∃ i,C i∧v=V2 i∧K=K2 i)) h5 h6 h7 (by rintro _ _ ⟨i,hi,rfl,rfl⟩; exact ⟨hc i,LSt.nf (hn i hi)⟩)
end

/-! ### is a function nil -/
def funT (P:Program) (t:TypeId):Bool:=match P.underlying t with
 | some (.func _ _ _)=>true
 | _=>false
theorem nilF_run {P:Program} {t:TypeId} {w:World} (ht:funT P t=true):(Op.equal t .nilFunc .nilFunc).run P w=.ok true w:=by
 unfold funT at ht
 split at ht
 ·rename_i e1 e2 e3 hu
  unfold Op.equal Op.maxDepth
  unfold Op.equalIn
  simp only [Sem.run_bind,run_underlying hu,Result.andThen_ok]
  rfl
 ·cases ht
theorem someF_run {P:Program} {t:TypeId} {f:Fn} {a c:Array Value} {w:World} (ht:funT P t=true):(Op.equal t (.func f a c) .nilFunc).run P w=.ok false w:=by
 unfold funT at ht
 split at ht
 ·rename_i e1 e2 e3 hu
  unfold Op.equal Op.maxDepth
  unfold Op.equalIn
  simp only [Sem.run_bind,run_underlying hu,Result.andThen_ok]
  rfl
 ·cases ht
section
variable {P:Program} {n0:NA} {l:Env} {L:LH}
theorem QY.nilFn {o:Oper} {t ty:TypeId} {x:Operand} (ho:o.op=.binOp .eql t x (.const .nilFunc) ty) (ht:funT P t=true) (hx:lv l x=some .nilFunc):QY P n0 L l (.raw o) (.bool true):=by
 intro X w0 E0 w E l' _ hE hR hl
 obtain ⟨vx,h1,h2⟩:=lv_ev hl hx
 have h2:vx=.nilFunc:=h2
 subst h2
 obtain ⟨d,op,ty',pos,af,g⟩:=o
 simp only at ho
 subst ho
 refine ⟨_,fun ρ w1 ha hs1=>?_,rfl⟩
 have hc:ρ (.const .nilFunc)=.nilFunc:=ha _ _ rfl
 simp [execOp,ha x _ h1,hc,eqGuard,binOp,nilF_run ht]
theorem QY.someFn {o:Oper} {t ty:TypeId} {x:Operand} {f:Fn} {a c:List Value} (ho:o.op=.binOp .eql t x (.const .nilFunc) ty) (ht:funT P t=true) (hx:lv l x=some (.func f ⟨a⟩ ⟨c⟩)):QY P n0 L l (.raw o) (.bool false):=by
 intro X w0 E0 w E l' _ hE hR hl
 obtain ⟨vx,h1,h2⟩:=lv_ev hl hx
 obtain ⟨a',c',rfl,_⟩:=h2
 obtain ⟨d,op,ty',pos,af,g⟩:=o
 simp only at ho
 subst ho
 refine ⟨_,fun ρ w1 ha hs1=>?_,rfl⟩
 have hc:ρ (.const .nilFunc)=.nilFunc:=ha _ _ rfl
 simp [execOp,ha x _ h1,hc,eqGuard,binOp,someF_run ht]
end
/-- a row of numbers,and where it lies -/
structure HE where
 xs:List Int
 p:Nat
 o:Nat
 c:Nat
 z:Value
abbrev HE.sym (e:HE):Value:=.slice (some ⟨e.p,e.o,some 0⟩) e.xs.length e.c
def HE.Fit (e:HE):Prop:=(e.xs=[]∧e.c=0∧∃ a,e.z=.slice a 0 0)∨(e.z=.slice (some ⟨e.p,e.o,none⟩) e.xs.length e.c∧e.xs.length≤e.c)
def HE.ok (w:World) (e:HE):Prop:=e.Fit∧(e.xs≠[]→∃ cs,Blk w e.p cs∧(cs.drop e.o).take e.xs.length=e.xs.map (Value.int .i64))
def HE.nil:HE:=⟨[],0,0,0,.slice none 0 0⟩
theorem HE.nil_ok (w:World):HE.nil.ok w:=⟨.inl ⟨rfl,rfl,_,rfl⟩,fun h=>absurd rfl h⟩
def oRow (es:List HE):LB:=.gro 1 (es.map HE.z)
def inF (es:List HE) (b:Nat):Prop:=∃ e∈es,e.xs≠[]∧e.p=b
def inB (es:List HE):LB:=.abs (fun _ w=>∀ e∈es,e.ok w) (inF es)
theorem HE.vr {E:Emb} {e:HE} (h:e.Fit):VR E e.sym e.z:=by
 rcases h with ⟨h1,h2,a,h3⟩ | ⟨h,_⟩
 ·right
  exact ⟨by rw [h1]; rfl,h2,a,h3⟩
 ·left; exact h
theorem HE.one {e:HE} (h:e.Fit):one e.z=true:=by
 rcases h with ⟨_,_,a,h3⟩ | ⟨h,_⟩
 ·rw [h3]; rfl
 ·rw [h]; rfl
theorem HE.ok_fr {w w':World} {F:Nat→Prop} {e:HE} (h:e.ok w) (hf:Fr F w w') (hn:e.xs≠[]→¬ F e.p):e.ok w' :=
 ⟨h.1,fun hx=>by obtain ⟨cs,h1,h2⟩:=h.2 hx; exact ⟨cs,hf.blk h1 (hn hx),h2⟩⟩
theorem repC_HE (n:Nat):repC n [.slice none 0 0]=(List.replicate n HE.nil).map HE.z:=by
 induction n with
 | zero=>rfl
 | succ n ih=>simp only [repC,ih,List.replicate_succ,List.map_cons]; rfl
/-- what is left of one behind its first number -/
def HE.tl (e:HE):HE:=⟨e.xs.tail,e.p,e.o+1,e.c-1,.slice (some ⟨e.p,e.o+1,none⟩) e.xs.tail.length (e.c-1)⟩
theorem HE.fit_ne {e:HE} (h:e.Fit) (hx:e.xs≠[]):e.z=.slice (some ⟨e.p,e.o,none⟩) e.xs.length e.c∧e.xs.length≤e.c:=by
 rcases h with ⟨h,_⟩ | h
 ·exact absurd h hx
 ·exact h
theorem HE.ok_tl {w:World} {e:HE} (h:e.ok w) (hx:e.xs≠[]):e.tl.ok w:=by
 obtain ⟨h1,h2⟩:=HE.fit_ne h.1 hx
 refine ⟨.inr ⟨rfl,by show e.xs.tail.length≤e.c-1; rw [List.length_tail]; omega⟩,fun _=>?_⟩
 obtain ⟨cs,h3,h4⟩:=h.2 hx
 refine ⟨cs,h3,?_⟩
 show (cs.drop (e.o+1)).take e.xs.tail.length=e.xs.tail.map _
 cases hxs:e.xs with
 | nil=>exact absurd hxs hx
 | cons x r =>
  rw [hxs] at h4
  simp only [List.length_cons,List.map_cons] at h4
  show (cs.drop (e.o+1)).take r.length=r.map _
  rw [← List.drop_drop]
  cases hd:cs.drop e.o with
  | nil=>rw [hd] at h4; cases h4
  | cons c cs' =>
   rw [hd] at h4
   simp only [List.take_succ_cons,List.cons.injEq] at h4
   exact h4.2
section
variable {P:Program} {n0:NA} {l:Env} {L:LH} {X:Nat→Prop} {w0 w w':World} {E:Emb}
theorem inB_is {r:Nat × Nat × Nat} {es:List HE} (h:∀ e∈es,e.ok w) (h2:r.2=(0,0)):LBis E w r (inB es) :=
 ⟨h,h2,fun _ _ _ g hf hn=>fun e he=>HE.ok_fr (g e he) hf fun hx=>hn _ ⟨e,he,hx,rfl⟩⟩
theorem inB_at {i:Nat} {es:List HE} (hR:Rep X w0 E L w) (hi:L[i]?=some (inB es)):∃ r,E[i]?=some r∧r.2=(0,0)∧∀ e∈es,e.ok w:=by
 obtain ⟨r,hr⟩:=hR.ent hi
 obtain ⟨h1,h2,_⟩:=hR.blk i _ r hi hr
 exact ⟨r,hr,h2,h1⟩
/-- others are told of that lie there too -/
theorem wk_inB {i:Nat} {es es':List HE} (hi:L[i]?=some (inB es)) (h:∀ w,(∀ e∈es,e.ok w)→∀ e∈es',e.ok w) (hf:∀ b,inF es' b→inF es b):∀ X w0 E w,Rep X w0 E L w→Rep X w0 E (L.set i (inB es')) w:=by
 intro X w0 E w hR
 obtain ⟨r,hr,h2,h3⟩:=inB_at hR hi
 exact hR.upd hi hr (Fr.refl _ w) (inB_is (h w h3) h2) fun b hb=>.inl (hf b hb)
theorem QY.ldH {x:Operand} {b k i:Nat} {es es':List HE} {e:HE} (hx:lv l x=some (.pointer (some ⟨b,k*1,none⟩))) (hb:L[b]?=some (oRow es)) (hi:L[i]?=some (inB es')) (hm:e∈es') (hk:es[k]?=some e):QY P n0 L l (.ld x) e.sym:=by
 intro X w0 E0 w E l' h0 hE hR hl
 obtain ⟨_,h1,a',rfl,_,r,hr,rfl⟩:=lv_ev hl hx
 obtain ⟨_,_,_,hok⟩:=inB_at hR hi
 have hlt:=(List.getElem?_eq_some_iff.1 hk).1
 rcases hR.blk b _ r hb hr with ⟨h2,_⟩ | ⟨_,_,cs,h3,h4,_⟩
 ·have:=congrArg List.length h2; simp at this; subst this; simp at hlt
 ·refine ⟨e.z,⟨_,h1,?_⟩,HE.vr (hok e hm).1⟩
  rw [h3.cellEq]
  have h5:(es.map HE.z)[k]?=some e.z:=by rw [List.getElem?_map,hk]; rfl
  rw [← h4,List.getElem?_take,if_pos (by rw [List.length_map]; exact hlt),List.getElem?_drop] at h5
  rw [← h5]
  show cs[k*1+r.2.1]?=_
  congr 1; omega
/-- a number within one -/
theorem QY.ldHx {x:Operand} {i j q:Nat} {es:List HE} {e:HE} {a:Int} (hx:lv l x=some (.pointer (some ⟨e.p,q,some 0⟩))) (hq:q=e.o+j) (hi:L[i]?=some (inB es)) (hm:e∈es) (hj:e.xs[j]?=some a):QY P n0 L l (.ld x) (.int .i64 a):=by
 intro X w0 E0 w E l' h0 hE hR hl
 obtain ⟨_,h1,h2⟩:=lv_ev hl hx
 have h2:_=Value.pointer (some ⟨e.p,q,none⟩):=h2
 subst h2; subst hq
 obtain ⟨_,_,_,hok⟩:=inB_at hR hi
 have hlt:=(List.getElem?_eq_some_iff.1 hj).1
 obtain ⟨cs,hB,hcs⟩:=(hok e hm).2 (by intro h; rw [h] at hlt; simp at hlt)
 refine ⟨.int .i64 a,⟨_,h1,?_⟩,rfl⟩
 rw [hB.cellEq]
 have:=congrArg (·[j]?) hcs
 simp only [List.getElem?_take_of_lt hlt,List.getElem?_drop,List.getElem?_map,hj] at this
 exact this
/-- one,put behind a row of one's own -/
theorem EW.appHe {o:Oper} {s x:Operand} {sT xT:TypeId} {bytes b n i:Nat} {xs:List Int} {es:List HE} {e:HE} (he:e∈es) (ho:o.op=.call ⟨.builtin .append,⟨[s,x]⟩,⟨[sT,xT]⟩⟩) (ht:appT P sT xT=some (1,bytes))
  (hs:lv l s=some (.slice (some ⟨b,0,none⟩) n n)) (hx:lv l x=some e.sym) (hb:L[b]?=some (.gro 1 (rowsC intC xs))) (hi:L[i]?=some (inB es)) (hn:xs.length=n) (hbd:(2*(n+e.xs.length)+2048)*bytes≤281474976710656) :
  EW P n0 L l (.raw o) (fun v K=>v=.slice (some ⟨L.length,0,none⟩) (n+e.xs.length) (n+e.xs.length)∧K=L.set b .dead++[.gro 1 (rowsC intC (xs++e.xs))]):=by
 refine EW.mono (EW.appX (Q:=fun us=>us=rowsC intC e.xs) (m:=e.xs.length) ho ht hs hb (by rw [rowsI_len,hn]) one_intC hbd fun X w0 E0 w E l' h0 hE hR hl=>?_) ?_
 ·obtain ⟨vx',h3,hxr⟩:=lv_ev hl hx
  refine ⟨vx',_,h3,⟨rowsI_len _,one_intC,?_⟩,rfl⟩
  obtain ⟨_,_,_,hok⟩:=inB_at hR hi
  have hek:=hok e he
  by_cases h0':e.xs=[]
  ·have hl0:e.xs.length=0:=by rw [h0']; rfl
   rcases hxr with rfl | ⟨_,_,a',rfl⟩
   ·exact .inl ⟨⟨_,_,by rw [hl0]⟩,hl0⟩
   ·exact .inl ⟨⟨_,_,rfl⟩,hl0⟩
  ·obtain ⟨cs,⟨t,hB⟩,hcs⟩:=hek.2 h0'
   have hln:e.xs.length≠0:=fun h=>h0' (List.length_eq_zero_iff.1 h)
   rcases hxr with rfl | ⟨h1,_⟩
   rotate_left
   ·exact absurd h1 hln
   refine .inr ⟨_,_,rfl,fun j hj=>?_⟩
   rw [Nat.mul_one] at hj
   rw [add_none,rowsI_get]
   simp only [World.cell?,hB]
   have:=congrArg (·[j]?) hcs
   simp only [List.getElem?_take_of_lt hj,List.getElem?_drop,List.getElem?_map] at this
   rw [← this]
   simp [Nat.add_comm]
 ·rintro v K ⟨us,rfl,rfl,rfl⟩
  exact ⟨rfl,by rw [rowsC_append]⟩
/-- the whole outer row,behind an empty one -/
theorem EW.appO {o:Oper} {s x:Operand} {sT xT:TypeId} {bytes b bx n i:Nat} {es es':List HE} (ho:o.op=.call ⟨.builtin .append,⟨[s,x]⟩,⟨[sT,xT]⟩⟩) (ht:appT P sT xT=some (1,bytes))
  (hs:lv l s=some (.slice (some ⟨b,0,none⟩) 0 0)) (hx:lv l x=some (.slice (some ⟨bx,0,none⟩) n n)) (hb:L[b]?=some (.gro 1 [])) (hbx:L[bx]?=some (oRow es)) (hi:L[i]?=some (inB es')) (hm:∀ e∈es,e∈es') (hn:es.length=n) (hn0:n≠0) (hbd:(2*(0+n)+2048)*bytes≤281474976710656) :
  EW P n0 L l (.raw o) (fun v K=>v=.slice (some ⟨L.length,0,none⟩) n n∧K=L.set b .dead++[oRow es]):=by
 refine EW.mono (EW.appX (Q:=fun us=>us=es.map HE.z) (m:=n) ho ht hs hb rfl (by simp) hbd fun X w0 E0 w E l' h0 hE hR hl=>?_) ?_
 ·obtain ⟨vx',h3,h0',r,hr,h4⟩:=lv_ev hl hx
  have hr:E[bx]?=some r:=hr
  obtain ⟨_,_,_,hok⟩:=inB_at hR hi
  have hml:(es.map HE.z).length=es.length:=List.length_map _
  rcases hR.blk bx _ r hbx hr with ⟨h5,_⟩ | ⟨_,_,cs,hB,hcs,_⟩
  ·have:=congrArg List.length h5; rw [hml] at this; simp at this; subst this; simp at hn; omega
  refine ⟨vx',_,h3,⟨by rw [hml]; omega,fun u hu=>?_,.inr ?_⟩,rfl⟩
  ·obtain ⟨q,hq,rfl⟩:=List.mem_map.1 hu; exact HE.one (hok q (hm q hq)).1
  ·rcases h4 with ⟨a',c',rfl,⟨rfl,rfl⟩ | ⟨h,_⟩⟩ | ⟨h,_⟩
   ·refine ⟨_,_,rfl,fun j hj=>?_⟩
    rw [add_none,hB.cellEq,← hcs,List.getElem?_take,if_pos (by rw [hml]; omega),List.getElem?_drop]
    show cs[0+r.2.1+j]?=_
    congr 1; omega
   ·exact absurd h hn0
   ·exact absurd h hn0
 ·rintro v K ⟨us,rfl,rfl,rfl⟩
  exact ⟨by rw [Nat.zero_add],rfl⟩
/-- another one in its place -/
theorem EW.stH {x y:Operand} {b k i:Nat} {es es':List HE} {e:HE} (hx:lv l x=some (.pointer (some ⟨b,k*1,none⟩))) (hy:lv l y=some e.sym) (hb:L[b]?=some (oRow es)) (hi:L[i]?=some (inB es')) (hm:e∈es') (hne:b≠i) (hk:k<es.length) :
  EW P n0 L l (.st x y) (fun w K=>∃ e':HE,e'.xs=e.xs∧w=undef∧K=(L.set b (oRow (es.set k e'))).set i (inB (es'++[e']))):=by
 intro X w0 E0 w E l' Kf h0 hE hR hl hK
 obtain ⟨_,h1,a',rfl,_,r,hr,rfl⟩:=lv_ev hl hx
 obtain ⟨u',h2,h3⟩:=lv_ev hl hy
 obtain ⟨ri,hri,hr2,hok⟩:=inB_at hR hi
 have hek:=hok e hm
 let e':HE:=⟨e.xs,e.p,e.o,e.c,u'⟩
 have hfit:e'.Fit:=by
  rcases h3 with rfl | ⟨h4,h5,a,rfl⟩
  ·right
   refine ⟨rfl,?_⟩
   rcases hek.1 with ⟨g1,g2,_⟩ | ⟨_,g2⟩
   ·show e.xs.length≤_; rw [g1]; exact Nat.zero_le _
   ·exact g2
  ·left; exact ⟨List.length_eq_zero_iff.1 h4,h5,a,rfl⟩
 have hok':∀ w2,e.ok w2→e'.ok w2:=fun w2 h=>⟨hfit,h.2⟩
 have hml:(es.map HE.z).length=es.length:=List.length_map _
 rcases hR.blk b _ r hb hr with ⟨h4,_⟩ | ⟨hne',hsz,cs,hB,hcs,hroom⟩
 ·have:=congrArg List.length h4; simp at this; subst this; simp at hk
 ·have hne2:(es.set k e').map HE.z≠[]:=by intro q; have:=congrArg List.length q; simp at this; subst this; simp at hk
  have hoc:k*1+r.2.1<cs.length:=by omega
  have hu:one u'=true:=HE.one hfit
  have q1:Rep X w0 E (L.set b (oRow (es.set k e'))) (w.setCell ⟨r.1,k*1+r.2.1,none⟩ u'):=by
   refine hR.upd hb hr ?_ (.inr ⟨hne2,hsz,cs.set (k*1+r.2.1) u',hB.set _ _,?_,?_⟩) ?_
   ·unfold oRow; rw [gro_foot hne']; exact Fr.setCell w ⟨r.1,k*1+r.2.1,none⟩ _
   ·rw [List.map_set,List.length_set,List.drop_set,if_neg (by omega),List.take_set,hcs]
    congr 1; omega
   ·simp only [List.length_set,List.length_map] at *; exact hroom
   ·unfold oRow; rw [gro_foot hne',gro_foot hne2]; exact fun _ h=>.inl h
  have hi2:(L.set b (oRow (es.set k e')))[i]?=some (inB es'):=by rw [List.getElem?_set,if_neg hne]; exact hi
  have q2:=wk_inB (es':=es'++[e']) hi2 (fun w2 h a ha=>by
   rcases List.mem_append.1 ha with ha | ha
   ·exact h a ha
   ·rw [List.mem_singleton.1 ha]; exact hok' w2 (h e hm)) (fun c ⟨a,ha,hx,hp⟩=>by
   rcases List.mem_append.1 ha with ha | ha
   ·exact ⟨a,ha,hx,hp⟩
   ·rw [List.mem_singleton.1 ha] at hx hp; exact ⟨e,hm,hx,hp⟩) _ _ _ _ q1
  exact ⟨_,_,h1,h2,hu,hB.some hoc,hB.frozen _,hK _ E _ _ _ ⟨e',rfl,rfl,rfl⟩ (Ext.refl E) q2 VR.undef⟩
/-- what is left of a row behind its first number -/
theorem QY.slcT {x lo:Operand} {size b o s n c:Nat} (hx:lv l x=some (.slice (some ⟨b,o,some s⟩) n c)) (h1:lbound l (some lo) 0=some 1) (h3:1≤n) (h4:n≤c) (hz:size=1):QY P n0 L l (.slc x (some lo) none size) (.slice (some ⟨b,o+1,some s⟩) (n-1) (c-1)):=by
 subst hz
 intro X w0 E0 w E l' h0 hE hR hl
 obtain ⟨v',g1,g2⟩:=lv_ev hl hx
 have hb:=lbound_ok hl h1
 rcases g2 with rfl | ⟨g2,_⟩
 rotate_left
 ·omega
 refine ⟨_,⟨_,_,_,1,n,g1,hb,rfl,h3,h4,rfl⟩,?_⟩
 by_cases hc:c=1
 ·right
  exact ⟨by omega,by omega,_,by rw [show n-1=0 by omega,show c-1=0 by omega]⟩
 ·left
  rw [if_neg hc]
  rfl
end
/-- a new row goes to the others -/
theorem Tr.hide {P:Program} {f:FuncId} {us:List Value} {es:List HE} {xs0:List Int} {o n:Nat} {q:Int} {keep:List Nat} (hn:n=xs0.length-o) (ho:o≤xs0.length) (hx:xs0≠[])
  (h:TrK P [] keep f us [inB es] (fun v K=>v=.tuple ⟨[.slice (some ⟨1,o,none⟩) n n,.int .i64 q]⟩∧K=[inB es,.gro 1 (rowsC intC xs0)])) :
  TrK P [] [] f us [inB es] (fun v K=>∃ e:HE,e.xs=xs0.drop o∧v=.tuple ⟨[e.sym,.int .i64 q]⟩∧K=[inB (es++[e]),.dead]):=by
 refine TrK.retell h ?_
 rintro X w0 w E v v' K hR hv ⟨rfl,rfl⟩
 obtain ⟨vs',rfl,hv⟩:=hv
 obtain ⟨r,hr⟩:=hR.ent (b:=1) rfl
 obtain ⟨r0,hr0,h02,hok⟩:=inB_at hR (i:=0) rfl
 rcases vs' with _ | ⟨s',_ | ⟨q',_ | ⟨_,_⟩⟩⟩
 ·exact hv.elim
 ·exact hv.2.elim
 ·obtain ⟨hs,hq,_⟩:=hv
  have hq:q'=.int .i64 q:=hq
  subst hq
  have hle:xs0.length≠0:=fun h=>hx (List.length_eq_zero_iff.1 h)
  have hdl:(xs0.drop o).length=n:=by rw [List.length_drop]; omega
  obtain ⟨cs,hB,hcs⟩:∃ cs,Blk w r.1 cs∧(cs.drop r.2.1).take xs0.length=rowsC intC xs0:=by
   rcases hR.blk 1 _ r rfl hr with ⟨h5,_⟩ | ⟨_,_,cs,hB,hcs,_⟩
   ·have:=congrArg List.length h5; rw [rowsI_len] at this; simp at this; exact absurd this hx
   ·refine ⟨cs,hB,?_⟩
    rw [rowsI_len,Nat.mul_one] at hcs; exact hcs
  obtain ⟨e,he1,he2,he3,he4⟩:∃ e:HE,e.xs=xs0.drop o∧e.z=s'∧e.Fit∧(e.xs≠[]→e.p=r.1∧e.o=o+r.2.1):=by
   obtain ⟨_,r',hr',hcase⟩:=hs
   have hr':E[1]?=some r':=hr'
   rw [hr] at hr'; cases hr'
   rcases hcase with ⟨a',c',rfl,⟨rfl,rfl⟩ | ⟨h1,_,rfl,_⟩⟩ | ⟨h1,_,a',rfl⟩
   ·exact ⟨⟨xs0.drop o,r.1,o+r.2.1,n+r.2.2,_⟩,rfl,rfl,.inr ⟨by rw [hdl],by rw [hdl]; exact Nat.le_add_right _ _⟩,fun _=>⟨rfl,rfl⟩⟩
   ·have h0:xs0.drop o=[]:=List.length_eq_zero_iff.1 (by omega)
    subst h1
    exact ⟨⟨xs0.drop o,0,0,0,_⟩,rfl,rfl,.inl ⟨h0,rfl,_,rfl⟩,fun h=>absurd h0 h⟩
   ·have h0:xs0.drop o=[]:=List.length_eq_zero_iff.1 (by omega)
    subst h1
    exact ⟨⟨xs0.drop o,0,0,0,_⟩,rfl,rfl,.inl ⟨h0,rfl,_,rfl⟩,fun h=>absurd h0 h⟩
  have heok:e.ok w:=by
   refine ⟨he3,fun hx'=>?_⟩
   obtain ⟨g1,g2⟩:=he4 hx'
   rw [g1,g2,he1,hdl]
   refine ⟨cs,hB,?_⟩
   apply List.ext_getElem?
   intro j
   have:=congrArg (·[o+j]?) hcs
   simp only [rowsI_get] at this
   by_cases hj:j<n
   ·rw [List.getElem?_take_of_lt hj,List.getElem?_drop,List.getElem?_map,List.getElem?_drop]
    rw [List.getElem?_take_of_lt (by omega),List.getElem?_drop] at this
    rw [← this]
    congr 1; omega
   ·rw [List.getElem?_eq_none (by rw [List.length_take]; omega),List.getElem?_eq_none (by rw [List.length_map,hdl]; omega)]
  have hE2:=hR.len
  have q1:=hR.merge (b:=0) (k:=1) (x:=inB (es++[e])) (by decide) rfl hr0 rfl hr (Fr.refl _ w) (inB_is (fun a ha=>by
   rcases List.mem_append.1 ha with ha | ha
   ·exact hok a ha
   ·rw [List.mem_singleton.1 ha]; exact heok) h02) (fun c ⟨a,ha,hx',hp⟩=>by
   rcases List.mem_append.1 ha with ha | ha
   ·exact .inl ⟨a,ha,hx',hp⟩
   ·rw [List.mem_singleton.1 ha] at hx' hp
    right; left
    show foot r (.gro 1 (rowsC intC xs0)) c
    rw [gro_foot (by intro q; have:=congrArg List.length q; rw [rowsI_len] at this; simp at this; exact hx this)]
    rw [← hp,(he4 hx').1])
  refine ⟨E,.tuple ⟨[e.sym,.int .i64 q]⟩,[inB (es++[e]),.dead],Nat.le_succ 1,q1,⟨_,rfl,?_,rfl,trivial⟩,e,he1,rfl,rfl⟩
  rw [← he2]
  exact HE.vr (E:=E) he3
 ·exact hv.2.2.elim
end Go.Tum
end
section
/-
 Runs by reckoning where functions are compared with nil; a contract told by a family where more blocks stand; a contract over a member and what is shared,told by a family.
-/
namespace Go.Tum
open Go
def rawQ2 (P:Program):RawQ:=fun L l o =>
 match o.op with
 | .binOp .eql t x (.const .nilFunc) _=>bif funT P t then (match lv l x with
  | some .nilFunc=>some (.bool true)
  | some (.func _ _ _)=>some (.bool false)
  | _=>none) else none
 | _=>rawQ1 P L l o
theorem rawQ2_ok (P:Program):RawOk P (rawQ2 P):=by
 intro X w0 w E L l l' o v h hR hl
 unfold rawQ2 at h
 split at h
 ·rename_i t x ty hop
  cases ht:funT P t
  ·rw [ht] at h; cases h
  rw [ht] at h
  simp only [cond_true] at h
  obtain ⟨d,op,ty',pos,af,g⟩:=o
  simp only at hop
  subst hop
  split at h <;> first | (cases h; done) | skip
  ·rename_i hx
   cases h
   obtain ⟨vx,h1,h2⟩:=lv_ev hl hx
   have h2:vx=.nilFunc:=h2
   subst h2
   refine ⟨_,fun ρ w1 ha hs1=>?_,rfl⟩
   have hc:ρ (.const .nilFunc)=.nilFunc:=ha _ _ rfl
   simp [execOp,ha x _ h1,hc,eqGuard,binOp,nilF_run ht]
  ·rename_i f a c hx
   cases h
   obtain ⟨vx,h1,h2⟩:=lv_ev hl hx
   obtain ⟨a⟩:=a
   obtain ⟨c⟩:=c
   obtain ⟨a',c',rfl,_⟩:=h2
   refine ⟨_,fun ρ w1 ha hs1=>?_,rfl⟩
   have hc:ρ (.const .nilFunc)=.nilFunc:=ha _ _ rfl
   simp [execOp,ha x _ h1,hc,eqGuard,binOp,someF_run ht]
 ·exact rawQ1_ok P _ _ _ _ _ _ _ _ _ h hR hl
/-- a contract told by a family,where more blocks stand -/
theorem TrK.frameF {P:Program} {ι:Type} {C:ι→Prop} {L:LH} {keep keep2:List Nat} {f:FuncId} {us vs:List Value} {Lc:LH} {V V2:ι→Value} {B K2:ι→LH} (φ:List Nat) (ht:TrK P [] keep f us Lc (fun v K=>∃ i,C i∧v=V i∧K=B i)) (he:us.map (rnV L.length φ)=vs) (h1:φ.Nodup) (h2:partL L φ φ Lc) (hm:nmL (dropped keep 0 φ) φ 0 L=true)
  (h3:∀ i,rnV (L.length+(B i).length) (phi2 φ L.length (B i)) (V i)=V2 i) (h4:∀ i,joinQ φ L (B i)=K2 i) (hk:disj (dropped keep 0 φ) keep2=true):TrK P [] keep2 f vs L (fun v K=>∃ i,C i∧v=V2 i∧K=K2 i):=by
 intro X w0 w E vs' hA hR hv
 have h5:L2 (VR (subE E φ)) us vs':=by
  subst he
  rw [← hR.len] at hv
  exact L2.sub (f:=rnV E.length φ) (fun _ _ h=>VR.sub h) hv
 refine call_core (n0:=NA.mk L.length [] keep2) (E0:=E) ht (Part.of h1 h2) handed_nil hm hA (NA.Ext.refl _ _) hR h5 ?_
 rintro w' E' v' v L' ⟨_,_,⟨i,hi,rfl,rfl⟩,rfl,rfl⟩ hx _ hR' hv'
 refine ⟨E',_,_,fun k r hk2 hr=>hx k r (disj_ok hk hk2) hr,?_,hv',hR',i,hi,h3 i,(joinQ_eq h1).trans (h4 i)⟩
 rw [joinQ_eq h1,joinQ,List.length_append,jgo_length]
 omega
/-- a contract over a member and what is shared,told by a family -/
theorem TrK.sharedF {P:Program} {ι:Type} {C:ι→Prop} {keep:List Nat} {f:FuncId} {us vs:List Value} {A S T:LH} {A' T':ι→LH} {ea em:Emb} {ms rest:List Mem} {L:LH} {b k:Nat} {V1:ι→Value} {V:ι→Emb→Emb→Value} {S':ι→Emb→LH}
  (ht:TrK P [] keep f us (A++T) (fun v K=>∃ i,C i∧v=V1 i∧K=A' i++T' i)) (hb:L[b]?=some (box ea A)) (hk:L[k]?=some (crowd ms)) (hne:b≠k) (hm:Has ms (em,S) rest) (hS:UpL ea S T) (hA:Self A) (hA':∀ i,Self (A' i)) (hl:∀ i,(A' i).length=A.length)
  (hS':∀ (i:ι) (ea' em':Emb),C i→ea'.length=A.length→em'.length=(T' i).length→(∀ j r,inL j keep=true→(ea++em)[j]?=some r→(ea'++em')[j]?=some r)→UpL ea' (S' i ea') (T' i)) (hu:∀ E vs',L2 (VR E) vs vs'→ea.length=A.length→em.length=T.length→L2 (VR (ea++em)) us vs') (hv:∀ (i:ι) ea' em' v',C i→ea'.length=A.length→em'.length=(T' i).length→(∀ j r,inL j keep=true→(ea++em)[j]?=some r→(ea'++em')[j]?=some r)→VR (ea'++em') (V1 i) v'→∀ E,VR E (V i ea' em') v') :
  TrK P [] (seqN 0 L.length) f vs L (fun v K=>∃ i ea' em',C i∧ea'.length=A.length∧em'.length=(T' i).length∧(∀ j r,inL j keep=true→(ea++em)[j]?=some r→(ea'++em')[j]?=some r)∧v=V i ea' em'∧K=(L.set b (box ea' (A' i))).set k (crowd ((em',S' i ea')::rest))):=by
 intro X w0 w E vs' hA0 hR hv'
 obtain ⟨r,hr⟩:=hR.ent hb
 obtain ⟨q,hq⟩:=hR.ent hk
 obtain ⟨h1,h2,_⟩:=hR.blk b _ r hb hr
 obtain ⟨h3,h4,_⟩:=hR.blk k _ q hk hq
 have h3:=hm.1 w h3
 have hB:BoxAt ea A w:=h1
 have hM:BoxAt em S w:=h3.all _ (List.mem_cons_self ..)
 have hap:=List.pairwise_cons.1 h3.apart
 have hfS:∀ c,footL em S c→foot q (crowd ms) c:=fun c hc=>hm.2 c (em,S) (List.mem_cons_self ..) hc
 have hfR:∀ c,(∃ m∈rest,m.at c)→foot q (crowd ms) c:=fun c ⟨m,h,hc⟩=>hm.2 c m (List.mem_cons_of_mem _ h) hc
 have hdj:∀ c,footL ea A c→¬ foot q (crowd ms) c:=fun c hc hc'=>hne (hR.inj b k _ _ r q c hb hk hr hq hc hc')
 have hJ:=hB.join hM (fun c hc hc'=>hdj c hc (hfS c hc')) hS hA
 have hF:∀ c,footL (ea++em) (A++T) c→footL ea A c∨footL em S c:=fun c hc=>(footL_app hB.len hS c).1 hc
 have hT:=hR.tab hA0.2.2 (F:=footL (ea++em) (A++T)) fun c hc=>by
  rcases hF c hc with h | h
  ·exact ⟨b,_,r,hb,hr,h⟩
  ·exact ⟨k,_,q,hk,hq,hfS c h⟩
 have hc:=ht (footL (ea++em) (A++T)) w w (ea++em) vs' ⟨hJ.len,by simp,hT⟩ hJ.rep (hu E vs' hv' hB.len (by rw [hM.len,hS.len]))
 refine ⟨hc.1,hc.2.mono ?_⟩
 rintro v' w' ⟨E',_,_,g1,g0,g2,g3,i,hi,rfl,rfl⟩
 have gl:=g3.len
 rw [List.length_append,hl i] at gl
 obtain ⟨ea',em',rfl,e1⟩:∃ ea' em',E'=ea'++em'∧ea'.length=A.length:=⟨E'.take A.length,E'.drop A.length,(List.take_append_drop _ _).symm,by rw [List.length_take]; omega⟩
 rw [List.length_append] at gl
 have e2:em'.length=(T' i).length:=by omega
 have e3:∀ j r,inL j keep=true→(ea++em)[j]?=some r→(ea'++em')[j]?=some r:=fun j p hj hp=>g1 j p hj hp
 have hS':=hS' i ea' em' hi e1 e2 e3
 obtain ⟨k1,k2,k3⟩:=g3.boxAt.split (by rw [e1,hl]) hS' (hA' i)
 have hfr:=g3.fr
 have new:∀ c,footL (ea'++em') (A' i++T' i) c→(foot r (box ea A) c∨foot q (crowd ms) c)∨(w.heap.size≤c∧c<w'.heap.size):=fun c hc=>by
  obtain ⟨i,x,p,hx,hp,hc⟩:=hc
  obtain ⟨h5,h6⟩:=g3.rng i x p hx hp c hc
  rcases h5 with h5 | h5
  ·exact .inr ⟨h5,h6⟩
  ·left
   rcases hF c h5 with h | h
   ·exact .inl h
   ·exact .inr (hfS c h)
 have nA:∀ c,footL ea' (A' i) c→footL (ea'++em') (A' i++T' i) c:=fun c hc=>(footL_app (by rw [e1,hl]) hS' c).2 (.inl hc)
 have nS:∀ c,footL em' (S' i ea') c→footL (ea'++em') (A' i++T' i) c:=fun c hc=>(footL_app (by rw [e1,hl]) hS' c).2 (.inr hc)
 have hrest:∀ c,(∃ m∈rest,m.at c)→¬ footL (ea++em) (A++T) c:=fun c hc hc'=>by
  rcases hF c hc' with h | h
  ·exact hdj c h (hfR c hc)
  ·obtain ⟨m,hmm,hcm⟩:=hc
   exact hap.1 m hmm c h hcm
 have hrest2:∀ c,(∃ m∈rest,m.at c)→¬ footL (ea'++em') (A' i++T' i) c:=fun c hc hc'=>by
  obtain ⟨i,x,p,hx,hp,hcc⟩:=hc'
  rcases (g3.rng i x p hx hp c hcc).1 with h5 | h5
  ·have:=(hR.rng k _ q hk hq c (hfR c hc)).2; omega
  ·exact hrest c hc h5
 have hCr:CrowdAt rest w':=CrowdAt.fr (w:=w) ⟨fun m hm=>h3.all m (List.mem_cons_of_mem _ hm),hap.2⟩ hfr hrest
 have hC:CrowdAt ((em',S' i ea')::rest) w':=⟨fun m hm=>by
  rcases List.mem_cons.1 hm with rfl | hm
  ·exact k2
  ·exact hCr.all m hm,List.pairwise_cons.2 ⟨fun m' hmm c hc hc'=>hrest2 c ⟨m',hmm,hc'⟩ (nS c hc),hap.2⟩⟩
 refine ⟨E,_,_,fun _ _ _ h=>h,?_,hv i ea' em' v' hi e1 e2 e3 g2 E,?_,i,ea',em',hi,e1,e2,e3,rfl,rfl⟩
 ·rw [List.length_set,List.length_set]; exact Nat.le_refl _
 ·refine hR.upd2 hb hr hk hq (hfr.mono fun c _ hc=>?_) (k1.is h2) (hC.is h4) (fun c hc=>new c (nA c hc)) (fun c hc=>?_) (fun c hc hc'=>?_)
  ·rcases hF c hc with h | h
   ·exact .inl h
   ·exact .inr (hfS c h)
  ·obtain ⟨m,hmm,hcm⟩:=hc
   rcases List.mem_cons.1 hmm with rfl | hmm
   ·exact new c (nS c hcm)
   ·exact .inl (.inr (hfR c ⟨m,hmm,hcm⟩))
  ·obtain ⟨m,hmm,hcm⟩:=hc'
   rcases List.mem_cons.1 hmm with rfl | hmm
   ·exact k3 c hc hcm
   ·exact hrest2 c ⟨m,hmm,hcm⟩ (nA c hc)
end Go.Tum
end
section
/-
 An empty crowd; a function that makes one block,which joins a crowd; a real pointer put behind a row of such.
-/
namespace Go.Tum
open Go
section
variable {P:Program} {n0:NA} {l:Env} {L:LH} {Q:Exit→Env→LH→Prop}
theorem crowdNil (w:World):CrowdAt [] w:=⟨fun m hm=>by simp at hm,List.Pairwise.nil⟩
theorem More.crowd0:More L (L++[crowd []]):=⟨by simp,fun X w0 E w h=>⟨E++[(0,0,0)],Ext.push E _,h.push (Fr.refl _ _) (fun _ hb=>by obtain ⟨m,hm,_⟩:=hb; simp at hm) ((crowdNil w).is rfl)⟩⟩
theorem LWp.crowd0 {m:MC} (h:LWp P n0 m Q l (L++[crowd []])):LWp P n0 m Q l L:=h.more More.crowd0
/-- what is new joins a crowd -/
theorem TrK.born {f:FuncId} {vs:List Value} {x:LB} {ms:List Mem} (ht:TrK P [] [] f vs [] (fun v K=>v=.pointer (some ⟨0,0,none⟩)∧K=[x])) (hv:vs.map (rnV 1 [])=vs) (h1:rnB 2 [1] x=x) (h2:rnB 2 (phi2 [] 1 [x]) x=x) :
  TrK P [] [0] f vs [crowd ms] (fun v K=>∃ e:Nat × Nat × Nat,True∧v=adR e 0∧K=[crowd (([e],[x])::ms),.dead,.dead]):=by
 have hf:TrK P [] [0] f vs [crowd ms] (fun v K=>v=.pointer (some ⟨1,0,none⟩)∧K=[crowd ms]++unbox 1 [x]):=by
  refine TrK.frame (L:=[crowd ms]) (keep2:=[0]) [] ht hv .nil trivial rfl rfl ?_ rfl
  show [crowd ms]++[rnB 2 (phi2 [] 1 [x]) x]=[crowd ms]++[rnB 2 [1] x]
  rw [h1,h2]
 have hc:=TrK.closeR (M:=[crowd ms]) (Ls:=[x]) (R:=fun v K=>∃ e:Nat × Nat × Nat,v=adR e 0∧K=[crowd ms,.dead,box [e] [x]]) hf (fun Es he=>by
  obtain ⟨e,rfl⟩:=List.length_eq_one_iff.1 he
  exact ⟨e,rfl,rfl⟩)
 refine TrK.post hc ?_
 rintro v K ⟨e,rfl,rfl⟩
 exact ⟨_,More.in (b:=0) (k:=2) (by decide) rfl rfl,e,trivial,rfl,rfl⟩
/-- one more,out of a literal row -/
theorem EW.appP1 {o:Oper} {s x:Operand} {sT xT:TypeId} {bytes b bx n:Nat} {ps:List (Option (Nat × Nat × Nat))} {e:Nat × Nat × Nat} (ho:o.op=.call ⟨.builtin .append,⟨[s,x]⟩,⟨[sT,xT]⟩⟩) (ht:appT P sT xT=some (1,bytes))
  (hs:lv l s=some (.slice (some ⟨b,0,none⟩) n n)) (hx:lv l x=some (.slice (some ⟨bx,0,none⟩) 1 1)) (hb:L[b]?=some (pRow ps)) (hbx:L[bx]?=some (.cells 0 [adR e 0])) (hn:ps.length=n) (hbd:(2*(n+1)+2048)*bytes≤281474976710656) :
  EW P n0 L l (.raw o) (fun v K=>v=.slice (some ⟨L.length,0,none⟩) (n+1) (n+1)∧K=L.set b .dead++[pRow (ps++[some e])]):=by
 refine EW.mono (EW.appX (Q:=fun us=>us=[ptrV (some e)]) (m:=1) ho ht hs hb (by rw [List.length_map,hn,Nat.mul_one]) (fun u hu=>by obtain ⟨q,_,rfl⟩:=List.mem_map.1 hu; exact ptr_one q) hbd fun X w0 E0 w E l' h0 hE hR hl=>?_) ?_
 ·obtain ⟨vx',h3,h0',r,hr,h4⟩:=lv_ev hl hx
  obtain ⟨cs,hB,hcs,hle,_⟩:=hR.blk bx _ r hbx hr
  refine ⟨vx',_,h3,⟨rfl,fun u hu=>(by rw [List.mem_singleton] at hu; subst hu; exact ptr_one _),.inr ?_⟩,rfl⟩
  rcases h4 with ⟨a',c',rfl,⟨rfl,rfl⟩ | ⟨h,_⟩⟩ | ⟨h,_⟩
  ·refine ⟨_,_,rfl,fun j hj=>?_⟩
   have hj:j<1:=hj
   obtain rfl:j=0:=by omega
   rw [add_none,hB.cellEq]
   show cs[0+r.2.1+0]?=some (ptrV (some e))
   obtain ⟨u,hu1,hu2⟩:=hcs.get (i:=0) rfl
   rw [List.getElem?_take,if_pos (by show 0<1; omega),List.getElem?_drop] at hu1
   rw [Nat.zero_add,hu1]
   have hu2:u=.pointer (some ⟨e.1,0+e.2.1,none⟩):=hu2
   rw [hu2,Nat.zero_add]
   rfl
  ·cases h
  ·cases h
 ·rintro v K ⟨us,rfl,rfl,rfl⟩
  exact ⟨rfl,by show _=L.set b .dead++[LB.gro 1 ((ps++[some e]).map ptrV)]; rw [List.map_append]; rfl⟩
theorem EWd.bs1R {t:TypeId} {x:Operand} {e:Nat × Nat × Nat} (hx:lv l x=some (adR e 0)):EWd P n0 [] [] L l (.bs1 t 1 x) (fun v K=>v=.slice (some ⟨L.length,0,none⟩) 1 1∧K=L++[.cells 0 [adR e 0]]):=by
 intro X w0 E0 w E l' Kf h0 hE hR hl hK
 obtain ⟨v',h1,h2⟩:=lv_ev hl hx
 have h2:v'=.pointer (some ⟨e.1,0+e.2.1,none⟩):=h2
 subst h2
 refine ⟨_,h1,rfl,hK _ _ _ _ _ ⟨rfl,rfl⟩ (fun k r _ hk=>Ext.push E _ k r hk) (fun k x r b _ hx hr hb=>?_) (new_rep hR (cs:=(Value.pointer (some ⟨e.1,0+e.2.1,none⟩)).cells) (vs:=[adR e 0]) ⟨rfl,trivial⟩) ⟨rfl,_,hR.last _,.inl ⟨_,_,rfl,.inl ⟨by simp,rfl⟩⟩⟩⟩
 have:=(hR.rng k x r hx hr b hb).2
 show (w.heap.push _)[b]?=_
 rw [Array.getElem?_push,if_neg (by omega)]
end
end Go.Tum
end
section
namespace Go.Proofs.YtblibdfcnplfhaaGreat
open Go Go.Tum Go.Tum.Base
set_option maxRecDepth 4000
def PPL (p:PS):LH:=[
 .cells 0 [.int .i64 p.cm,.int .i64 p.cg,.int .u64 p.cs,.int .i64 p.th,.int .i64 p.ba,.int .i64 p.wa,ptr 1,ptr 9,ptr 11,slB 12 p.qs.length,.int .i64 p.now],
 .cells 0 [.int .i64 p.r.man,.int .i64 p.r.mgd,.int .u64 (p.r.seed.toNat:Int),adR p.r.a 0,ptr 2,.int .u64 (p.r.key.toNat:Int),.map (some 4),adR p.r.g0 0],
 .cells 0 [slB 3 (p.r.man+p.r.mgd)],.gro 4 (rowsC PRow.cells p.r.rs),pB p.r.m0 (peS p.r.sl) p.r.mc,crowdS p.r.a p.r.key p.r.sl,box [p.r.a,p.r.b] (AN p.r.N p.r.bs),crowdG p.r.a p.r.key p.r.g0 p.r.g1 p.r.G p.r.gc,
 tB p.b0 p.G p.c,.cells 0 [ptr 1,.map (some 8),slB 10 p.rs.length],.gro 3 (rowsC Rp.cells p.rs),MB p.ml p.mg,pRow (p.qs.map fun x=>some x.e),crowdQ p.qs]
structure NewP (m g:Nat) (seed:BitVec 64) (n:Nat) (ba wa:Int) (p:PS):Prop where
 r:∃ a b g0 g1 m0,p.r=newR m g seed a b g0 g1 m0
 G:p.G=[]
 c:p.c=0
 rs:p.rs=[]
 ml:p.ml=Remote.Mail.new n ba
 qn:p.qs.length=n
 q:∀ x∈p.qs,x.q=newQ wa
 now:p.now=0
theorem crowdQ_more (qs:List QE) (x:QE):crowd (([x.e],[QB x.q])::qs.map memQ)=crowdQ (qs++[x]):=by
 unfold crowdQ
 refine crowd_perm ?_
 rw [List.map_append]
 exact (List.perm_append_comm (l₁:=qs.map memQ) (l₂:=[memQ x])).symm
theorem qBorn (w:Int) (qs:List QE):TrK Tryz.prog [] [0] 79 [.int .i64 w] [crowdQ qs] (fun v K=>∃ e:RA,True∧v=adR e 0∧K=[crowdQ (qs++[⟨e,newQ w⟩]),.dead,.dead]) :=
 Tr.mono (TrK.born (ms:=qs.map memQ) (qNew_tr w) rfl rfl rfl) (by rintro _ _ ⟨e,_,rfl,rfl⟩; exact ⟨e,trivial,rfl,by rw [← crowdQ_more]⟩)
def np (m g:Nat) (seed:BitVec 64) (n:Nat) (ba wa:Int) (a b g0 g1:RA) (m0 b0:Nat) (mg:Nat→Prop) (qs:List QE):PS:=⟨newR m g seed a b g0 g1 m0,b0,[],0,[],Remote.Mail.new n ba,mg,qs,0,m,g,seed.toNat,n,ba,wa⟩
set_option maxHeartbeats 2000000 in
theorem poolNew_tr (m g:Nat) (seed:BitVec 64) (h1:m+g≤256) (h2:1≤m+g) (n:Nat) (hn:1≤n∧n≤64) (ba wa:Int):TrK Tryz.prog [] [] 28 [.agg ⟨[.int .i64 m,.int .i64 g,.int .u64 (seed.toNat:Int),.int .i64 n,.int .i64 ba,.int .i64 wa]⟩] [] (fun v K=>∃ p,NewP m g seed n ba wa p∧v=.tuple ⟨[ptr 0,.int .i64 0]⟩∧K=PPL p):=by
 have hR:=pgNew_tr m g seed h1 h2
 refine Tr.of row_talloc_New_ok rfl ?_
 repeat' (first|refine qN ?_|refine dN ?_|refine d0 ?_|refine qB ?_|refine qT ?_|refine qU ?_|refine qL ?_|refine qK ?_|refine qF ?_|refine qE ?_|refine iF (fun h=>?_) (fun h=>?_)|refine aA ?_|refine aI (hn:=?_)|refine sP 15 (fun h=>?_) (fun h=>?_)|refine sP 20 (fun h=>?_) (fun h=>?_)|refine qR ?_|refine qS ?_|exact ⟨rfl,rfl⟩|fail)
 refine cX (ι:=RA × RA × RA × RA × Nat) (C:=fun _=>True) (V:=fun _=>.tuple ⟨[ptr 0,.int .i64 0]⟩) (B:=fun j=>RPL (newR m g seed j.1 j.2.1 j.2.2.1 j.2.2.2.1 j.2.2.2.2)) [] (Tr.mono hR (by rintro _ _ ⟨a,b,g0,g1,m0,rfl,rfl⟩; exact ⟨(a,b,g0,g1,m0),trivial,rfl,rfl⟩)) (fun j _=>?_)
 obtain ⟨a,b,g0,g1,m0⟩:=j
 conv=>whnf
 have hF:=flNew_tr (newR m g seed a b g0 g1 m0)
 have hM:=mNew_tr n ba
 repeat' (first|refine qN ?_|refine dN ?_|refine d0 ?_|refine qB ?_|refine qT ?_|refine qU ?_|refine qL ?_|refine qK ?_|refine qF ?_|refine qE ?_|refine iF (fun h=>?_) (fun h=>?_)|refine aA ?_|refine aI (hn:=?_)|refine sP 15 (fun h=>?_) (fun h=>?_)|refine sP 20 (fun h=>?_) (fun h=>?_)|refine qR ?_|refine qS ?_|exact ⟨rfl,rfl⟩|fail)
 all_goals try (exfalso; omega)
 refine cX (ι:=Nat) (C:=fun _=>True) (V:=fun _=>ptr 8) (B:=fun b0=>FL (newR m g seed a b g0 g1 m0) b0 [] 0 []) [1,2,3,4,5,6,7] hF (fun b0 _=>?_)
 conv=>whnf
 repeat' (first|refine qN ?_|refine dN ?_|refine d0 ?_|refine qB ?_|refine qT ?_|refine qU ?_|refine qL ?_|refine qK ?_|refine qF ?_|refine qE ?_|refine iF (fun h=>?_) (fun h=>?_)|refine aA ?_|refine aI (hn:=?_)|refine sP 15 (fun h=>?_) (fun h=>?_)|refine sP 20 (fun h=>?_) (fun h=>?_)|refine qR ?_|refine qS ?_|exact ⟨rfl,rfl⟩|fail)
 refine cX (ι:=Nat→Prop) (C:=fun _=>True) (V:=fun _=>op) (B:=fun mg=>[MB (Remote.Mail.new n ba) mg]) [] (Tr.mono hM (by rintro _ _ ⟨rfl,mg,rfl⟩; exact ⟨mg,trivial,rfl,rfl⟩)) (fun mg _=>?_)
 conv=>whnf
 repeat' (first|refine qN ?_|refine dN ?_|refine d0 ?_|refine qB ?_|refine qT ?_|refine qU ?_|refine qL ?_|refine qK ?_|refine qF ?_|refine qE ?_|refine iF (fun h=>?_) (fun h=>?_)|refine aA ?_|refine aI (hn:=?_)|refine sP 15 (fun h=>?_) (fun h=>?_)|refine sP 20 (fun h=>?_) (fun h=>?_)|refine qR ?_|refine qS ?_|exact ⟨rfl,rfl⟩|fail)
 refine S_E [] rfl rfl (esafe_ok rfl) ?_
 rintro _ _ ⟨rfl,rfl⟩
 refine ⟨(by repeat' (first|exact trivial|refine ⟨⟨qsafe_ok (st:=[]) rfl,Sure.of rfl⟩,?_⟩|refine ⟨.inl rfl,?_⟩|refine ⟨.inr ⟨qsafe_ok (st:=[]) rfl,Sure.of rfl⟩,?_⟩|refine ⟨⟨qsafe_ok (st:=[]) rfl,Sure.slice (by omega)⟩,?_⟩|refine ⟨.inr ⟨qsafe_ok (st:=[]) rfl,Sure.slice (by omega)⟩,?_⟩|refine ⟨.inr ⟨QY.neqB rfl (by kernel_rfl) rfl rfl,Sure.of rfl⟩,?_⟩|refine ⟨.inr ⟨QY.eqlB rfl (by kernel_rfl) rfl rfl,Sure.of rfl⟩,?_⟩ | fail)),LSt.nf ?_⟩
 conv=>whnf
 repeat' (first|refine qN ?_|refine dN ?_|refine d0 ?_|refine qB ?_|refine qT ?_|refine qU ?_|refine qL ?_|refine qK ?_|refine qF ?_|refine qE ?_|refine iF (fun h=>?_) (fun h=>?_)|refine aA ?_|refine aI (hn:=?_)|refine sP 15 (fun h=>?_) (fun h=>?_)|refine sP 20 (fun h=>?_) (fun h=>?_)|refine qR ?_|refine qS ?_|exact ⟨rfl,rfl⟩|fail)
 refine LWp.nilC 12 9 1 rfl rfl (LWp.crowd0 ?_)
 refine LWp.pick [1,6,37,38] [12,1,2,3,4,5,6,7,8,9,10,11,13,14,0] rfl rfl rfl (L_loop (fun q l L=>∃ qs:List QE,q=n-qs.length∧qs.length≤n∧(∀ x∈qs,x.q=newQ wa)∧l=[(1,ptr 14),(6,ptr 0),(37,.int .i64 n),(38,.int .i64 qs.length)]∧L=PPL (np m g seed n ba wa a b g0 g1 m0 b0 mg qs)++[.cells 0 [.int .i64 m,.int .i64 g,.int .u64 (seed.toNat:Int),.int .i64 n,.int .i64 ba,.int .i64 wa]]) n ⟨[],by simp,by simp,by simp,rfl,rfl⟩ ?_)
 rintro q _ _ ⟨qs,rfl,hq,hqs,rfl,rfl⟩
 have hB:=qBorn wa qs
 first|refine L_seq (L_rs (S_done [] rfl (Nx.goL (iF (fun h=>L_skip (Nx.goL ?_)) (fun h=>L_exit ?_)))))|refine L_rs (S_done [] rfl (Nx.goL (L_seq (iF (fun h=>L_skip (Nx.goL ?_)) (fun h=>L_exit ?_)))))
 ·refine L_seq (L_block ?_)
  repeat' (first|refine qN ?_|refine dN ?_|refine d0 ?_|refine qB ?_|refine qT ?_|refine qU ?_|refine qL ?_|refine qK ?_|refine qF ?_|refine qE ?_|refine iF (fun h=>?_) (fun h=>?_)|refine aA ?_|refine aI (hn:=?_)|refine sP 15 (fun h=>?_) (fun h=>?_)|refine sP 20 (fun h=>?_) (fun h=>?_)|refine qR ?_|refine qS ?_|exact ⟨rfl,rfl⟩|fail)
  refine cX (ι:=RA) (C:=fun _=>True) (V:=fun e=>adR e 0) (B:=fun e=>[crowdQ (qs++[⟨e,newQ wa⟩]),.dead,.dead]) [13] hB (fun e _=>?_)
  conv=>whnf
  repeat' (first|refine qN ?_|refine dN ?_|refine d0 ?_|refine qB ?_|refine qT ?_|refine qU ?_|refine qL ?_|refine qK ?_|refine qF ?_|refine qE ?_|refine iF (fun h=>?_) (fun h=>?_)|refine aA ?_|refine aI (hn:=?_)|refine sP 15 (fun h=>?_) (fun h=>?_)|refine sP 20 (fun h=>?_) (fun h=>?_)|refine qR ?_|refine qS ?_|exact ⟨rfl,rfl⟩|fail)
  refine S_Ed [] rfl rfl (EWd.bs1R rfl) rfl rfl rfl ?_
  rintro _ _ ⟨rfl,rfl⟩
  refine ⟨(by repeat' (first|exact trivial|refine ⟨⟨qsafe_ok (st:=[]) rfl,Sure.of rfl⟩,?_⟩|refine ⟨.inl rfl,?_⟩|refine ⟨.inr ⟨qsafe_ok (st:=[]) rfl,Sure.of rfl⟩,?_⟩|refine ⟨⟨qsafe_ok (st:=[]) rfl,Sure.slice (by omega)⟩,?_⟩|refine ⟨.inr ⟨qsafe_ok (st:=[]) rfl,Sure.slice (by omega)⟩,?_⟩|refine ⟨.inr ⟨QY.neqB rfl (by kernel_rfl) rfl rfl,Sure.of rfl⟩,?_⟩|refine ⟨.inr ⟨QY.eqlB rfl (by kernel_rfl) rfl rfl,Sure.of rfl⟩,?_⟩ | fail)),LSt.nf ?_⟩
  conv=>whnf
  first|refine L_rs ?_|refine L_reg ?_ | skip
  refine eE rfl rfl (EW.appP1 (bytes:=8) (n:=qs.length) (ps:=qs.map fun x=>some x.e) (e:=e) rfl (by kernel_rfl) rfl rfl rfl rfl (by rw [List.length_map]) (by omega)) ?_
  conv=>whnf
  repeat' (first|refine qN ?_|refine dN ?_|refine d0 ?_|refine qB ?_|refine qT ?_|refine qU ?_|refine qL ?_|refine qK ?_|refine qF ?_|refine qE ?_|refine iF (fun h=>?_) (fun h=>?_)|refine aA ?_|refine aI (hn:=?_)|refine sP 15 (fun h=>?_) (fun h=>?_)|refine sP 20 (fun h=>?_) (fun h=>?_)|refine qR ?_|refine qS ?_|exact ⟨rfl,rfl⟩|fail)
  have hl:(qs++[(⟨e,newQ wa⟩:QE)]).length=qs.length+1:=by simp
  show Nx _ _ _ _
  refine Nx.pick [1,6,37,38] [0,1,2,3,4,5,6,7,8,9,10,11,18,13,14] rfl rfl rfl ⟨n-(qs.length+1),by omega,qs++[⟨e,newQ wa⟩],by rw [hl],by rw [hl]; omega,fun x hx=>?_,by rw [hl]; rfl,?_⟩
  ·rcases List.mem_append.1 hx with hx | hx
   ·exact hqs x hx
   ·rw [List.mem_singleton] at hx; subst hx; rfl
  ·conv=>rhs; unfold PPL
   conv=>rhs; simp only [np,hl,List.map_append,List.map_cons,List.map_nil]
   conv=>lhs; whnf
   repeat (first | rfl|(refine congrArg₂ List.cons (by rfl) ?_; conv=>lhs; whnf))
 ·refine Nx.goL ?_
  repeat' (first|refine qN ?_|refine dN ?_|refine d0 ?_|refine qB ?_|refine qT ?_|refine qU ?_|refine qL ?_|refine qK ?_|refine qF ?_|refine qE ?_|refine iF (fun h=>?_) (fun h=>?_)|refine aA ?_|refine aI (hn:=?_)|refine sP 15 (fun h=>?_) (fun h=>?_)|refine sP 20 (fun h=>?_) (fun h=>?_)|refine qR ?_|refine qS ?_|exact ⟨rfl,rfl⟩|fail)
  exact L_ret (RetQ.pick [0,1,2,3,4,5,6,7,8,9,10,11,12,13] rfl rfl rfl rfl ⟨np m g seed n ba wa a b g0 g1 m0 b0 mg qs,⟨⟨a,b,g0,g1,m0,rfl⟩,rfl,rfl,rfl,rfl,by show qs.length=n; omega,hqs,rfl⟩,rfl,rfl⟩)
end Go.Proofs.YtblibdfcnplfhaaGreat
end
section
namespace Go.Proofs.YtblibdfcnplfhaaGreat
open Go Go.Tum Go.Tum.Base
set_option maxRecDepth 4000
abbrev K14:List Nat:=[0,1,2,3,4,5,6,7,8,9,10,11,12,13]
abbrev nilP:Value:=.pointer none
def nxP:Option Nat→Value
 | none=>.nilFunc
 | some g=>.func (.func g) ⟨[ptr 14]⟩ ⟨[]⟩
def TKP (k:TK):LB:=.cells 0 [ptr 0,.int .i64 k.t,.int .i64 k.arg,nxP k.nx,.int .i64 k.at_,.int .i64 k.f,.int .i64 k.mo]
set_option maxHeartbeats 1000000 in
theorem regNew_no (a b:Int) (seed:BitVec 64) (ha : -9223372036854775808≤a∧a≤9223372036854775807) (hb : -9223372036854775808≤b∧b≤9223372036854775807) (h:¬ (0≤a∧0≤b∧1≤a+b∧a+b≤256)):Tr Tryz.prog 76 [.agg ⟨[.int .i64 a,.int .i64 b,.int .u64 (seed.toNat:Int)]⟩] [] (fun v K=>v=.tuple ⟨[.pointer none,.int .i64 1]⟩∧K=[]):=by
 refine Tr.of row_region_New_ok rfl ?_
 repeat' (first|refine qN ?_|refine dN ?_|refine d0 ?_|refine qT ?_|refine qU ?_|refine qL ?_|refine qK ?_|refine iF (fun h=>?_) (fun h=>?_)|refine L_rT ?_|refine L_regT ?_|refine P_lin rfl ?_|refine P_A [] rfl ?_ ?_|refine aA ?_|refine aS ?_|refine aI (hn:=?_)|refine sP 9 (fun h=>?_) (fun h=>?_)|refine sP 14 (fun h=>?_) (fun h=>?_)|refine sP 19 (fun h=>?_) (fun h=>?_)|refine sP 27 (fun h=>?_) (fun h=>?_)|refine qR ?_|refine qS ?_|exact ⟨rfl,rfl⟩|fail)
 all_goals first | (exfalso; omega)|exact L_ret (RetQ.pick [] rfl rfl rfl rfl ⟨rfl,rfl⟩)
set_option maxHeartbeats 1000000 in
theorem poolNew_no (a b:Int) (seed:BitVec 64) (n ba wa:Int) (ha : -9223372036854775808≤a∧a≤9223372036854775807) (hb : -9223372036854775808≤b∧b≤9223372036854775807) (h:¬ ((0≤a∧0≤b∧1≤a+b∧a+b≤256)∧1≤n∧n≤64)):TrK Tryz.prog [] [] 28 [.agg ⟨[.int .i64 a,.int .i64 b,.int .u64 (seed.toNat:Int),.int .i64 n,.int .i64 ba,.int .i64 wa]⟩] [] (fun v K=>v=.tuple ⟨[.pointer none,.int .i64 1]⟩∧K=[]):=by
 by_cases hr:0≤a∧0≤b∧1≤a+b∧a+b≤256
 ·obtain ⟨m,rfl⟩:=Int.eq_ofNat_of_zero_le hr.1
  obtain ⟨g,rfl⟩:=Int.eq_ofNat_of_zero_le hr.2.1
  have hR:=pgNew_tr m g seed (by omega) (by omega)
  refine Tr.of row_talloc_New_ok rfl ?_
  repeat' (first|refine qN ?_|refine dN ?_|refine d0 ?_|refine qB ?_|refine qT ?_|refine qU ?_|refine qL ?_|refine qK ?_|refine qF ?_|refine qE ?_|refine iF (fun h=>?_) (fun h=>?_)|refine aA ?_|refine aI (hn:=?_)|refine sP 15 (fun h=>?_) (fun h=>?_)|refine sP 20 (fun h=>?_) (fun h=>?_)|refine qR ?_|refine qS ?_|exact ⟨rfl,rfl⟩|fail)
  refine cX (ι:=RA × RA × RA × RA × Nat) (C:=fun _=>True) (V:=fun _=>.tuple ⟨[ptr 0,.int .i64 0]⟩) (B:=fun j=>RPL (newR m g seed j.1 j.2.1 j.2.2.1 j.2.2.2.1 j.2.2.2.2)) [] (Tr.mono hR (by rintro _ _ ⟨a,b,g0,g1,m0,rfl,rfl⟩; exact ⟨(a,b,g0,g1,m0),trivial,rfl,rfl⟩)) (fun j _=>?_)
  obtain ⟨a,b,g0,g1,m0⟩:=j
  conv=>whnf
  repeat' (first|refine qN ?_|refine dN ?_|refine d0 ?_|refine qB ?_|refine qT ?_|refine qU ?_|refine qL ?_|refine qK ?_|refine qF ?_|refine qE ?_|refine iF (fun h=>?_) (fun h=>?_)|refine aA ?_|refine aI (hn:=?_)|refine sP 15 (fun h=>?_) (fun h=>?_)|refine sP 20 (fun h=>?_) (fun h=>?_)|refine qR ?_|refine qS ?_|exact ⟨rfl,rfl⟩|fail)
  all_goals first | (exfalso; omega)|exact L_ret (RetQ.pick [] rfl rfl rfl rfl ⟨rfl,rfl⟩)
 ·have hR:=regNew_no a b seed ha hb hr
  refine Tr.of row_talloc_New_ok rfl ?_
  repeat' (first|refine qN ?_|refine dN ?_|refine d0 ?_|refine qB ?_|refine qT ?_|refine qU ?_|refine qL ?_|refine qK ?_|refine qF ?_|refine qE ?_|refine iF (fun h=>?_) (fun h=>?_)|(refine cF [] (hR) ?_; conv=>whnf)|refine aA ?_|refine aI (hn:=?_)|refine sP 15 (fun h=>?_) (fun h=>?_)|refine sP 20 (fun h=>?_) (fun h=>?_)|refine qR ?_|refine qS ?_|exact ⟨rfl,rfl⟩|fail)
  all_goals first | (exfalso; omega)|exact L_ret (RetQ.pick [] rfl rfl rfl rfl ⟨rfl,rfl⟩)
theorem pIn_tr (p:PS) (t:Int) (hl:p.qs.length≤64):Tr Tryz.prog 55 [ptr 0,.int .i64 t] (PPL p) (fun v K=>v=.bool (decide (0≤t∧t<p.qs.length))∧K=PPL p):=by
 by_cases h:0≤t∧t<p.qs.length
 ·rw [decide_eq_true h]
  refine Tr.of row_talloc_Pool_in_ok rfl ?_
  repeat' (first|refine qN ?_|refine dN ?_|refine d0 ?_|refine aI (hn:=?_)|refine sP 7 (fun h=>?_) (fun h=>?_)|refine sP 11 (fun h=>?_) (fun h=>?_)|refine qR ?_|refine qS ?_|exact ⟨rfl,rfl⟩|fail)
  all_goals first | (exfalso; omega)|exact L_ret (RetQ.pick K14 rfl rfl rfl rfl ⟨by first | rfl|(refine congrArg Value.bool ?_; simp; omega),rfl⟩)
 ·rw [decide_eq_false h]
  refine Tr.of row_talloc_Pool_in_ok rfl ?_
  repeat' (first|refine qN ?_|refine dN ?_|refine d0 ?_|refine aI (hn:=?_)|refine sP 7 (fun h=>?_) (fun h=>?_)|refine sP 11 (fun h=>?_) (fun h=>?_)|refine qR ?_|refine qS ?_|exact ⟨rfl,rfl⟩|fail)
  all_goals first | (exfalso; omega)|exact L_ret (RetQ.pick K14 rfl rfl rfl rfl ⟨by first | rfl|(refine congrArg Value.bool ?_; simp; omega),rfl⟩)
theorem pMalloc_ok (p:PS) (t:Nat) (hl:p.qs.length≤64) (ht:t<p.qs.length) (n:Int) (hn:1≤n∧n≤4096):Tr Tryz.prog 31 [ptr 0,.int .i64 t,.int .i64 n] (PPL p) (fun v K=>v=.tuple ⟨[ptr 14,.int .i64 0]⟩∧K=PPL p++[TKP ⟨t,n,some fDrain,-1,0,0⟩]):=by
 have hI:=pIn_tr p t hl
 rw [decide_eq_true (by omega)] at hI
 refine Tr.of row_talloc_Pool_Malloc_ok rfl ?_
 repeat' (first|refine qN ?_|refine dN ?_|refine d0 ?_|refine qB ?_|refine qT ?_|refine qU ?_|refine qL ?_|refine qK ?_|refine iF (fun h=>?_) (fun h=>?_)|refine cP K14 (hI) ?_|refine aI (hn:=?_)|refine sP 17 (fun h=>?_) (fun h=>?_)|refine sP 21 (fun h=>?_) (fun h=>?_)|refine qR ?_|refine qS ?_|exact ⟨rfl,rfl⟩|fail)
 all_goals first | (exfalso; omega)|exact L_ret (RetQ.pick [0,1,2,3,4,5,6,7,8,9,10,11,12,13,14] rfl rfl rfl rfl ⟨rfl,rfl⟩)
theorem pMalloc_no (p:PS) (t:Int) (hl:p.qs.length≤64) (n:Int) (hn:¬ ((0≤t∧t<p.qs.length)∧1≤n∧n≤4096)):Tr Tryz.prog 31 [ptr 0,.int .i64 t,.int .i64 n] (PPL p) (fun v K=>v=.tuple ⟨[nilP,.int .i64 1]⟩∧K=PPL p):=by
 have hI:=pIn_tr p t hl
 by_cases h:0≤t∧t<p.qs.length
 ·rw [decide_eq_true h] at hI
  refine Tr.of row_talloc_Pool_Malloc_ok rfl ?_
  repeat' (first|refine qN ?_|refine dN ?_|refine d0 ?_|refine qB ?_|refine qT ?_|refine qU ?_|refine qL ?_|refine qK ?_|refine iF (fun h=>?_) (fun h=>?_)|refine cP K14 (hI) ?_|refine aI (hn:=?_)|refine sP 17 (fun h=>?_) (fun h=>?_)|refine sP 21 (fun h=>?_) (fun h=>?_)|refine qR ?_|refine qS ?_|exact ⟨rfl,rfl⟩|fail)
  all_goals first | (exfalso; omega)|exact L_ret (RetQ.pick K14 rfl rfl rfl rfl ⟨rfl,rfl⟩)
 ·rw [decide_eq_false h] at hI
  refine Tr.of row_talloc_Pool_Malloc_ok rfl ?_
  repeat' (first|refine qN ?_|refine dN ?_|refine d0 ?_|refine qB ?_|refine qT ?_|refine qU ?_|refine qL ?_|refine qK ?_|refine iF (fun h=>?_) (fun h=>?_)|refine cP K14 (hI) ?_|refine aI (hn:=?_)|refine sP 17 (fun h=>?_) (fun h=>?_)|refine sP 21 (fun h=>?_) (fun h=>?_)|refine qR ?_|refine qS ?_|exact ⟨rfl,rfl⟩|fail)
  all_goals first | (exfalso; omega)|exact L_ret (RetQ.pick K14 rfl rfl rfl rfl ⟨rfl,rfl⟩)
theorem pFree_ok (p:PS) (t:Nat) (hl:p.qs.length≤64) (ht:t<p.qs.length) (a:Int):Tr Tryz.prog 15 [ptr 0,.int .i64 t,.int .i64 a] (PPL p) (fun v K=>v=.tuple ⟨[ptr 14,.int .i64 0]⟩∧K=PPL p++[TKP ⟨t,a,some fLook,-1,0,0⟩]):=by
 have hI:=pIn_tr p t hl
 rw [decide_eq_true (by omega)] at hI
 refine Tr.of row_talloc_Pool_Free_ok rfl ?_
 repeat' (first|refine qN ?_|refine dN ?_|refine d0 ?_|refine qB ?_|refine qT ?_|refine qU ?_|refine qL ?_|refine qK ?_|refine iF (fun h=>?_) (fun h=>?_)|refine cP K14 (hI) ?_|refine aI (hn:=?_)|refine qR ?_|refine qS ?_|exact ⟨rfl,rfl⟩|fail)
 all_goals first | (exfalso; omega)|exact L_ret (RetQ.pick [0,1,2,3,4,5,6,7,8,9,10,11,12,13,14] rfl rfl rfl rfl ⟨rfl,rfl⟩)
theorem pFree_no (p:PS) (t:Int) (hl:p.qs.length≤64) (a:Int) (hn:¬ (0≤t∧t<p.qs.length)):Tr Tryz.prog 15 [ptr 0,.int .i64 t,.int .i64 a] (PPL p) (fun v K=>v=.tuple ⟨[nilP,.int .i64 1]⟩∧K=PPL p):=by
 have hI:=pIn_tr p t hl
 rw [decide_eq_false hn] at hI
 refine Tr.of row_talloc_Pool_Free_ok rfl ?_
 repeat' (first|refine qN ?_|refine dN ?_|refine d0 ?_|refine qB ?_|refine qT ?_|refine qU ?_|refine qL ?_|refine qK ?_|refine iF (fun h=>?_) (fun h=>?_)|refine cP K14 (hI) ?_|refine aI (hn:=?_)|refine qR ?_|refine qS ?_|exact ⟨rfl,rfl⟩|fail)
 all_goals first | (exfalso; omega)|exact L_ret (RetQ.pick K14 rfl rfl rfl rfl ⟨rfl,rfl⟩)
theorem pQuar_ok (p:PS) (t:Nat) (hl:p.qs.length≤64) {x:QE} (ht:p.qs[t]?=some x):Tr Tryz.prog 32 [ptr 0,.int .i64 t] (PPL p) (fun v K=>v=adR x.e 0∧K=PPL p):=by
 have hI:=pIn_tr p t hl
 have hlt:=(List.getElem?_eq_some_iff.1 ht).1
 have hps:(p.qs.map fun x=>some x.e)[t]?=some (some x.e):=by rw [List.getElem?_map,ht]; rfl
 rw [decide_eq_true (by omega)] at hI
 refine Tr.of row_talloc_Pool_Quar_ok rfl ?_
 repeat' (first|refine qN ?_|refine dN ?_|refine d0 ?_|refine qT ?_|refine qU ?_|refine qL ?_|refine qK ?_|refine iF (fun h=>?_) (fun h=>?_)|refine aX ?_|refine cP K14 (hI) ?_|refine S_Q [] rfl rfl (QY.idxN (k:=t) rfl rfl hlt) ?_|refine S_Q [] rfl rfl (QY.ldP rfl rfl hps rfl) ?_|refine aI (hn:=?_)|refine qR ?_|refine qS ?_|exact ⟨rfl,rfl⟩|fail)
 all_goals first | (exfalso; omega)|exact L_ret (RetQ.pick K14 rfl rfl rfl rfl ⟨rfl,rfl⟩)
theorem pQuar_no (p:PS) (t:Int) (hl:p.qs.length≤64) (hn:¬ (0≤t∧t<p.qs.length)):Tr Tryz.prog 32 [ptr 0,.int .i64 t] (PPL p) (fun v K=>v=nilP∧K=PPL p):=by
 have hI:=pIn_tr p t hl
 rw [decide_eq_false hn] at hI
 refine Tr.of row_talloc_Pool_Quar_ok rfl ?_
 repeat' (first|refine qN ?_|refine dN ?_|refine d0 ?_|refine qT ?_|refine qU ?_|refine qL ?_|refine qK ?_|refine iF (fun h=>?_) (fun h=>?_)|refine aX ?_|refine cP K14 (hI) ?_|refine aI (hn:=?_)|refine qR ?_|refine qS ?_|exact ⟨rfl,rfl⟩|fail)
 all_goals first | (exfalso; omega)|exact L_ret (RetQ.pick K14 rfl rfl rfl rfl ⟨rfl,rfl⟩)
end Go.Proofs.YtblibdfcnplfhaaGreat
end
section
namespace Go.Proofs.YtblibdfcnplfhaaGreat
open Go Go.Tum Go.Tum.Base Go.Deep
set_option maxRecDepth 4000
def rowsTA:List FnRow:=[row_tumbrellaw13_awake,row_tumbrellaw14_awake,row_talloc_Task_drain,row_talloc_Task_take,row_talloc_Task_open,row_talloc_Task_spill,row_talloc_Task_trim,row_talloc_Task_look,row_talloc_Task_keep,row_talloc_Task_post,row_talloc_Pool_Malloc,row_talloc_Pool_Free,row_talloc_New,row_talloc_Task_Step,row_talloc_Task_At,row_talloc_Task_Moment,row_talloc_Pool_Now,row_flow_New,row_flow_Flow_Malloc,row_flow_Flow_Step,row_flow_Flow_History,row_flow_Flow_Busy,row_remote_Mail_Next,row_talloc_Task_settle,row_talloc_Task_try,row_class_Of,row_talloc_Task_opens,row_quar_Quar_Take,row_region_Region_Give,row_region_Region_Pages,row_pages_Table_Len,row_region_Region_Owner,row_region_Region_Shut,row_talloc_Task_last,row_talloc_Task_counts,row_fault_Ledger_Fault,row_fault_Ledger_Note,row_region_Region_Drop,row_fault_Ledger_Dropped,row_remote_Mail_Post,row_talloc_Pool_in,row_region_New,row_fault_New,row_remote_New,row_quar_New,row_talloc_Task_Done,row_flow_Flow_Pool,row_flow_Flow_begin,row_talloc_Task_Fault,row_slices_Clone_flow_Event_flow_Event_,row_remote_Mail_Waits,row_quar_Quar_Put,row_region_Region_Great,row_talloc_Task_got,row_region_Region_Home,row_region_Region_Take,row_class_Room,row_region_Region_Open,row_quar_Quar_Len,row_region_Region_base,row_region_Region_slab,row_slab_Slab_Give,row_slab_Slab_Owner,row_slab_Slab_Count,row_pages_Table_Unmap,row_region_Region_Arena,row_arena_Arena_Len,row_fault_Ledger_manual,row_fault_Ledger_live,row_slab_Slab_Drop,row_large_Set_Drop,row_remote_Mail_in,row_remote_Mail_pass,row_arena_New,row_link_New,row_pages_New,row_large_New,row_class_Pages,row_pages_Table_Map,row_large_Set_Make,row_fault_Ledger_Took,row_slab_Slab_Class,row_slab_Slab_Take,row_class_Base,row_class_Size,row_slab_Make,row_region_Region_Find,row_slab_Slab_must,row_bitset_Set_Put,row_slab_Slab_join,row_bitset_Set_Len,row_slab_Slab_State,row_pages_Table_Row,row_pages_Row_first,row_region_Region_Config,row_slab_Slab_stands,row_slab_Slab_base,row_arena_Arena_Fill,row_large_Set_stands,row_large_run,row_link_mix,row_pages_Table_cut,row_pages_Table_place,row_large_Set_meets,row_large_Set_canary,row_arena_Arena_SetWord,row_fault_end,row_slab_Slab_follow,row_class_Slot,row_slab_Slab_canary,row_class_Slots,row_class_may,row_bitset_New,row_region_Region_place,row_pages_Table_Head,row_large_Set_Size,row_bitset_Set_in,row_link_Code_Put,row_bitset_Set_Has,row_arena_Arena_Word,row_arena_Arena_in,row_pages_Row_free,row_link_Code_Canary,row_arena_Arena_word,row_num_Put,row_link_Code_Get,row_slab_Slab_Page,row_link_Code_mask,row_num_Get]
theorem rowsTA_ok:∀ x∈rowsTA,x.Ok Tryz.prog:=by
 refine List.forall_mem_cons.2 ⟨row_tumbrellaw13_awake_ok,?_⟩
 refine List.forall_mem_cons.2 ⟨row_tumbrellaw14_awake_ok,?_⟩
 refine List.forall_mem_cons.2 ⟨row_talloc_Task_drain_ok,?_⟩
 refine List.forall_mem_cons.2 ⟨row_talloc_Task_take_ok,?_⟩
 refine List.forall_mem_cons.2 ⟨row_talloc_Task_open_ok,?_⟩
 refine List.forall_mem_cons.2 ⟨row_talloc_Task_spill_ok,?_⟩
 refine List.forall_mem_cons.2 ⟨row_talloc_Task_trim_ok,?_⟩
 refine List.forall_mem_cons.2 ⟨row_talloc_Task_look_ok,?_⟩
 refine List.forall_mem_cons.2 ⟨row_talloc_Task_keep_ok,?_⟩
 refine List.forall_mem_cons.2 ⟨row_talloc_Task_post_ok,?_⟩
 refine List.forall_mem_cons.2 ⟨row_talloc_Pool_Malloc_ok,?_⟩
 refine List.forall_mem_cons.2 ⟨row_talloc_Pool_Free_ok,?_⟩
 refine List.forall_mem_cons.2 ⟨row_talloc_New_ok,?_⟩
 refine List.forall_mem_cons.2 ⟨row_talloc_Task_Step_ok,?_⟩
 refine List.forall_mem_cons.2 ⟨row_talloc_Task_At_ok,?_⟩
 refine List.forall_mem_cons.2 ⟨row_talloc_Task_Moment_ok,?_⟩
 refine List.forall_mem_cons.2 ⟨row_talloc_Pool_Now_ok,?_⟩
 refine List.forall_mem_cons.2 ⟨row_flow_New_ok,?_⟩
 refine List.forall_mem_cons.2 ⟨row_flow_Flow_Malloc_ok,?_⟩
 refine List.forall_mem_cons.2 ⟨row_flow_Flow_Step_ok,?_⟩
 refine List.forall_mem_cons.2 ⟨row_flow_Flow_History_ok,?_⟩
 refine List.forall_mem_cons.2 ⟨row_flow_Flow_Busy_ok,?_⟩
 refine List.forall_mem_cons.2 ⟨row_remote_Mail_Next_ok,?_⟩
 refine List.forall_mem_cons.2 ⟨row_talloc_Task_settle_ok,?_⟩
 refine List.forall_mem_cons.2 ⟨row_talloc_Task_try_ok,?_⟩
 refine List.forall_mem_cons.2 ⟨row_class_Of_ok,?_⟩
 refine List.forall_mem_cons.2 ⟨row_talloc_Task_opens_ok,?_⟩
 refine List.forall_mem_cons.2 ⟨row_quar_Quar_Take_ok,?_⟩
 refine List.forall_mem_cons.2 ⟨row_region_Region_Give_ok,?_⟩
 refine List.forall_mem_cons.2 ⟨row_region_Region_Pages_ok,?_⟩
 refine List.forall_mem_cons.2 ⟨row_pages_Table_Len_ok,?_⟩
 refine List.forall_mem_cons.2 ⟨row_region_Region_Owner_ok,?_⟩
 refine List.forall_mem_cons.2 ⟨row_region_Region_Shut_ok,?_⟩
 refine List.forall_mem_cons.2 ⟨row_talloc_Task_last_ok,?_⟩
 refine List.forall_mem_cons.2 ⟨row_talloc_Task_counts_ok,?_⟩
 refine List.forall_mem_cons.2 ⟨row_fault_Ledger_Fault_ok,?_⟩
 refine List.forall_mem_cons.2 ⟨row_fault_Ledger_Note_ok,?_⟩
 refine List.forall_mem_cons.2 ⟨row_region_Region_Drop_ok,?_⟩
 refine List.forall_mem_cons.2 ⟨row_fault_Ledger_Dropped_ok,?_⟩
 refine List.forall_mem_cons.2 ⟨row_remote_Mail_Post_ok,?_⟩
 refine List.forall_mem_cons.2 ⟨row_talloc_Pool_in_ok,?_⟩
 refine List.forall_mem_cons.2 ⟨row_region_New_ok,?_⟩
 refine List.forall_mem_cons.2 ⟨row_fault_New_ok,?_⟩
 refine List.forall_mem_cons.2 ⟨row_remote_New_ok,?_⟩
 refine List.forall_mem_cons.2 ⟨row_quar_New_ok,?_⟩
 refine List.forall_mem_cons.2 ⟨row_talloc_Task_Done_ok,?_⟩
 refine List.forall_mem_cons.2 ⟨row_flow_Flow_Pool_ok,?_⟩
 refine List.forall_mem_cons.2 ⟨row_flow_Flow_begin_ok,?_⟩
 refine List.forall_mem_cons.2 ⟨row_talloc_Task_Fault_ok,?_⟩
 refine List.forall_mem_cons.2 ⟨row_slices_Clone_flow_Event_flow_Event__ok,?_⟩
 refine List.forall_mem_cons.2 ⟨row_remote_Mail_Waits_ok,?_⟩
 refine List.forall_mem_cons.2 ⟨row_quar_Quar_Put_ok,?_⟩
 refine List.forall_mem_cons.2 ⟨row_region_Region_Great_ok,?_⟩
 refine List.forall_mem_cons.2 ⟨row_talloc_Task_got_ok,?_⟩
 refine List.forall_mem_cons.2 ⟨row_region_Region_Home_ok,?_⟩
 refine List.forall_mem_cons.2 ⟨row_region_Region_Take_ok,?_⟩
 refine List.forall_mem_cons.2 ⟨row_class_Room_ok,?_⟩
 refine List.forall_mem_cons.2 ⟨row_region_Region_Open_ok,?_⟩
 refine List.forall_mem_cons.2 ⟨row_quar_Quar_Len_ok,?_⟩
 refine List.forall_mem_cons.2 ⟨row_region_Region_base_ok,?_⟩
 refine List.forall_mem_cons.2 ⟨row_region_Region_slab_ok,?_⟩
 refine List.forall_mem_cons.2 ⟨row_slab_Slab_Give_ok,?_⟩
 refine List.forall_mem_cons.2 ⟨row_slab_Slab_Owner_ok,?_⟩
 refine List.forall_mem_cons.2 ⟨row_slab_Slab_Count_ok,?_⟩
 refine List.forall_mem_cons.2 ⟨row_pages_Table_Unmap_ok,?_⟩
 refine List.forall_mem_cons.2 ⟨row_region_Region_Arena_ok,?_⟩
 refine List.forall_mem_cons.2 ⟨row_arena_Arena_Len_ok,?_⟩
 refine List.forall_mem_cons.2 ⟨row_fault_Ledger_manual_ok,?_⟩
 refine List.forall_mem_cons.2 ⟨row_fault_Ledger_live_ok,?_⟩
 refine List.forall_mem_cons.2 ⟨row_slab_Slab_Drop_ok,?_⟩
 refine List.forall_mem_cons.2 ⟨row_large_Set_Drop_ok,?_⟩
 refine List.forall_mem_cons.2 ⟨row_remote_Mail_in_ok,?_⟩
 refine List.forall_mem_cons.2 ⟨row_remote_Mail_pass_ok,?_⟩
 refine List.forall_mem_cons.2 ⟨row_arena_New_ok,?_⟩
 refine List.forall_mem_cons.2 ⟨row_link_New_ok,?_⟩
 refine List.forall_mem_cons.2 ⟨row_pages_New_ok,?_⟩
 refine List.forall_mem_cons.2 ⟨row_large_New_ok,?_⟩
 refine List.forall_mem_cons.2 ⟨row_class_Pages_ok,?_⟩
 refine List.forall_mem_cons.2 ⟨row_pages_Table_Map_ok,?_⟩
 refine List.forall_mem_cons.2 ⟨row_large_Set_Make_ok,?_⟩
 refine List.forall_mem_cons.2 ⟨row_fault_Ledger_Took_ok,?_⟩
 refine List.forall_mem_cons.2 ⟨row_slab_Slab_Class_ok,?_⟩
 refine List.forall_mem_cons.2 ⟨row_slab_Slab_Take_ok,?_⟩
 refine List.forall_mem_cons.2 ⟨row_class_Base_ok,?_⟩
 refine List.forall_mem_cons.2 ⟨row_class_Size_ok,?_⟩
 refine List.forall_mem_cons.2 ⟨row_slab_Make_ok,?_⟩
 refine List.forall_mem_cons.2 ⟨row_region_Region_Find_ok,?_⟩
 refine List.forall_mem_cons.2 ⟨row_slab_Slab_must_ok,?_⟩
 refine List.forall_mem_cons.2 ⟨row_bitset_Set_Put_ok,?_⟩
 refine List.forall_mem_cons.2 ⟨row_slab_Slab_join_ok,?_⟩
 refine List.forall_mem_cons.2 ⟨row_bitset_Set_Len_ok,?_⟩
 refine List.forall_mem_cons.2 ⟨row_slab_Slab_State_ok,?_⟩
 refine List.forall_mem_cons.2 ⟨row_pages_Table_Row_ok,?_⟩
 refine List.forall_mem_cons.2 ⟨row_pages_Row_first_ok,?_⟩
 refine List.forall_mem_cons.2 ⟨row_region_Region_Config_ok,?_⟩
 refine List.forall_mem_cons.2 ⟨row_slab_Slab_stands_ok,?_⟩
 refine List.forall_mem_cons.2 ⟨row_slab_Slab_base_ok,?_⟩
 refine List.forall_mem_cons.2 ⟨row_arena_Arena_Fill_ok,?_⟩
 refine List.forall_mem_cons.2 ⟨row_large_Set_stands_ok,?_⟩
 refine List.forall_mem_cons.2 ⟨row_large_run_ok,?_⟩
 refine List.forall_mem_cons.2 ⟨row_link_mix_ok,?_⟩
 refine List.forall_mem_cons.2 ⟨row_pages_Table_cut_ok,?_⟩
 refine List.forall_mem_cons.2 ⟨row_pages_Table_place_ok,?_⟩
 refine List.forall_mem_cons.2 ⟨row_large_Set_meets_ok,?_⟩
 refine List.forall_mem_cons.2 ⟨row_large_Set_canary_ok,?_⟩
 refine List.forall_mem_cons.2 ⟨row_arena_Arena_SetWord_ok,?_⟩
 refine List.forall_mem_cons.2 ⟨row_fault_end_ok,?_⟩
 refine List.forall_mem_cons.2 ⟨row_slab_Slab_follow_ok,?_⟩
 refine List.forall_mem_cons.2 ⟨row_class_Slot_ok,?_⟩
 refine List.forall_mem_cons.2 ⟨row_slab_Slab_canary_ok,?_⟩
 refine List.forall_mem_cons.2 ⟨row_class_Slots_ok,?_⟩
 refine List.forall_mem_cons.2 ⟨row_class_may_ok,?_⟩
 refine List.forall_mem_cons.2 ⟨row_bitset_New_ok,?_⟩
 refine List.forall_mem_cons.2 ⟨row_region_Region_place_ok,?_⟩
 refine List.forall_mem_cons.2 ⟨row_pages_Table_Head_ok,?_⟩
 refine List.forall_mem_cons.2 ⟨row_large_Set_Size_ok,?_⟩
 refine List.forall_mem_cons.2 ⟨row_bitset_Set_in_ok,?_⟩
 refine List.forall_mem_cons.2 ⟨row_link_Code_Put_ok,?_⟩
 refine List.forall_mem_cons.2 ⟨row_bitset_Set_Has_ok,?_⟩
 refine List.forall_mem_cons.2 ⟨row_arena_Arena_Word_ok,?_⟩
 refine List.forall_mem_cons.2 ⟨row_arena_Arena_in_ok,?_⟩
 refine List.forall_mem_cons.2 ⟨row_pages_Row_free_ok,?_⟩
 refine List.forall_mem_cons.2 ⟨row_link_Code_Canary_ok,?_⟩
 refine List.forall_mem_cons.2 ⟨row_arena_Arena_word_ok,?_⟩
 refine List.forall_mem_cons.2 ⟨row_num_Put_ok,?_⟩
 refine List.forall_mem_cons.2 ⟨row_link_Code_Get_ok,?_⟩
 refine List.forall_mem_cons.2 ⟨row_slab_Slab_Page_ok,?_⟩
 refine List.forall_mem_cons.2 ⟨row_link_Code_mask_ok,?_⟩
 refine List.forall_mem_cons.2 ⟨row_num_Get_ok,?_⟩
 exact fun x hx=>by cases hx
set_option maxRecDepth 20000 in
theorem awake13_tr:Tr Tryz.prog 14 [] [] (fun v K=>v=.bool true∧K=[]) :=
 Tr.closed (by kernel_rfl) rfl rfl fun w=>closed_call (vs:=[]) (fuel:=5000) rowsTA_ok (rawQ2_ok _) (rawE2_ok _) rfl rfl rfl (by kernel_rfl) w
end Go.Proofs.YtblibdfcnplfhaaGreat
end
