/-
  What the proof leans on, part 7: of the texts SpecU, LinP, Lw25, LinQ, LinR, LinV, Lw26, LinN, LinW, LinF, LinO, LinD, Lw27, LinM, LinG, LinearOrder, LinearRight.
-/
import Derived.Test.YthgmdlmeeebfiaaPkF
set_option linter.unusedVariables false
set_option linter.unusedSimpArgs false
set_option linter.unusedSectionVars false
section
namespace Go.Proofs.Ythgmdlmeeebfiaa
open Go Go.Tum Go.Tum.Base
theorem sub_len {α:Type} {R:α→α→Prop} (irr:∀ x,¬ R x x) (tr:∀ x y z,R x y→R y z→R x z):∀ (l2 l1:List α),l1.Pairwise R→l2.Pairwise R→(∀ x∈l1,x∈l2)→l1.length≤l2.length
 | [],l1,_,_,h=>by
  cases l1 with
  | nil=>exact Nat.le_refl _
  | cons a r=>exact absurd (h a (List.mem_cons_self ..)) (by simp)
 | b::r2,[],_,_,_=>Nat.zero_le _
 | b::r2,a::r1,h1,h2,h=>by
  have h1':=List.pairwise_cons.1 h1
  have h2':=List.pairwise_cons.1 h2
  by_cases hab:a=b
  ·subst hab
   have:=sub_len irr tr r2 r1 h1'.2 h2'.2 fun c hc=>by
    rcases List.mem_cons.1 (h c (List.mem_cons_of_mem _ hc)) with rfl | hc2
    ·exact absurd (h1'.1 _ hc) (irr _)
    ·exact hc2
   simp only [List.length_cons]; omega
  ·have ha:a∈r2:=by
    rcases List.mem_cons.1 (h a (List.mem_cons_self ..)) with e | e
    ·exact absurd e hab
    ·exact e
   have:=sub_len irr tr r2 (a::r1) h1 h2'.2 fun c hc=>by
    rcases List.mem_cons.1 (h c hc) with rfl | hc2
    ·rcases List.mem_cons.1 hc with rfl | hc3
     ·exact ha
     ·exact absurd (tr _ _ _ (h2'.1 _ ha) (h1'.1 _ hc3)) (irr _)
    ·exact hc2
   simp only [List.length_cons] at *; omega
theorem sub_eq {α:Type} {R:α→α→Prop} (irr:∀ x,¬ R x x) (tr:∀ x y z,R x y→R y z→R x z):∀ (l2 l1:List α),l1.Pairwise R→l2.Pairwise R→(∀ x∈l1,x∈l2)→l2.length≤l1.length→l1=l2
 | [],l1,_,_,h,_=>by
  cases l1 with
  | nil=>rfl
  | cons a r=>exact absurd (h a (List.mem_cons_self ..)) (by simp)
 | b::r2,[],_,_,_,hl=>absurd hl (by simp)
 | b::r2,a::r1,h1,h2,h,hl=>by
  have h1':=List.pairwise_cons.1 h1
  have h2':=List.pairwise_cons.1 h2
  by_cases hab:a=b
  ·subst hab
   rw [sub_eq irr tr r2 r1 h1'.2 h2'.2 (fun c hc=>by
    rcases List.mem_cons.1 (h c (List.mem_cons_of_mem _ hc)) with rfl | hc2
    ·exact absurd (h1'.1 _ hc) (irr _)
    ·exact hc2) (by simp only [List.length_cons] at hl; omega)]
  ·have ha:a∈r2:=by
    rcases List.mem_cons.1 (h a (List.mem_cons_self ..)) with e | e
    ·exact absurd e hab
    ·exact e
   have:=sub_len irr tr r2 (a::r1) h1 h2'.2 fun c hc=>by
    rcases List.mem_cons.1 (h c hc) with rfl | hc2
    ·rcases List.mem_cons.1 hc with rfl | hc3
     ·exact ha
     ·exact absurd (tr _ _ _ (h2'.1 _ ha) (h1'.1 _ hc3)) (irr _)
    ·exact hc2
   simp only [List.length_cons] at *; omega
theorem w8_inj {a b:Int} (ha:0≤a∧a≤65536) (hb:0≤b∧b≤65536) (h:w8 a=w8 b):a=b:=by
 have h1:=congrArg getW h
 unfold w8 at h1
 rw [getW_put,getW_put] at h1
 have h2:=congrArg BitVec.toNat h1
 rw [BitVec.toNat_ofInt,BitVec.toNat_ofInt] at h2
 omega
theorem blkB_inj:∀ {l r:List Bk},(∀ x∈l,0≤x.at_∧x.at_≤65536∧0≤x.n∧x.n≤65536)→(∀ x∈r,0≤x.at_∧x.at_≤65536∧0≤x.n∧x.n≤65536)→blkB l=blkB r→l=r
 | [],[],_,_,_=>rfl
 | [],b::r,_,_,h=>by have:=congrArg List.length h; rw [blkB_len,blkB_len] at this; simp at this
 | a::l,[],_,_,h=>by have:=congrArg List.length h; rw [blkB_len,blkB_len] at this; simp at this
 | a::l,b::r,h1,h2,h=>by
  have e:(w8 a.at_++(w8 a.n++blkB l))=(w8 b.at_++(w8 b.n++blkB r)):=by
   simpa only [blkB,List.flatMap_cons,List.append_assoc] using h
  obtain ⟨e1,e2⟩:=List.append_inj e (by rw [w8_len,w8_len])
  obtain ⟨e3,e4⟩:=List.append_inj e2 (by rw [w8_len,w8_len])
  have ha:=h1 a (List.mem_cons_self ..)
  have hb:=h2 b (List.mem_cons_self ..)
  have e5:=w8_inj ⟨ha.1,ha.2.1⟩ ⟨hb.1,hb.2.1⟩ e1
  have e6:=w8_inj ha.2.2 hb.2.2 e3
  rw [blkB_inj (fun x hx=>h1 x (List.mem_cons_of_mem _ hx)) (fun x hx=>h2 x (List.mem_cons_of_mem _ hx)) e4]
  obtain ⟨a1,a2⟩:=a; obtain ⟨b1,b2⟩:=b
  simp only at e5 e6; rw [e5,e6]
theorem intB_inj:∀ {l r:List Int},(∀ x∈l,0≤x∧x≤65536)→(∀ x∈r,0≤x∧x≤65536)→intB l=intB r→l=r
 | [],[],_,_,_=>rfl
 | [],b::r,_,_,h=>by have:=congrArg List.length h; rw [intB_len,intB_len] at this; simp at this
 | a::l,[],_,_,h=>by have:=congrArg List.length h; rw [intB_len,intB_len] at this; simp at this
 | a::l,b::r,h1,h2,h=>by
  have e:(w8 a++intB l)=(w8 b++intB r):=by
   simpa only [intB,List.flatMap_cons] using h
  obtain ⟨e1,e2⟩:=List.append_inj e (by rw [w8_len,w8_len])
  rw [w8_inj (h1 a (List.mem_cons_self ..)) (h2 b (List.mem_cons_self ..)) e1,intB_inj (fun x hx=>h1 x (List.mem_cons_of_mem _ hx)) (fun x hx=>h2 x (List.mem_cons_of_mem _ hx)) e2]
theorem key_iff {k k':Nat} (hk:k≤1000) (hk':k'≤1000) {x u y v:Sp} (h:PI k x u) (h':PI k' y v):keyB x=keyB y↔x.ma=y.ma∧x.ar=y.ar∧x.lv=y.lv∧x.fr=y.fr:=by
 have b1:=h.mb; have b2:=h.ab; have b3:=h'.mb; have b4:=h'.ab
 have n1:=h.nl; have n2:=h'.nl
 constructor
 ·intro e
  simp only [keyB,List.append_assoc] at e
  obtain ⟨e1,e⟩:=List.append_inj e (by rw [w8_len,w8_len])
  obtain ⟨e2,e⟩:=List.append_inj e (by rw [w8_len,w8_len])
  obtain ⟨e3,e⟩:=List.append_inj e (by rw [w8_len,w8_len])
  have e3:=w8_inj (by omega) (by omega) e3
  obtain ⟨e4,e5⟩:=List.append_inj e (by rw [blkB_len,blkB_len]; omega)
  refine ⟨w8_inj (by omega) (by omega) e1,w8_inj (by omega) (by omega) e2,blkB_inj (fun z hz=>?_) (fun z hz=>?_) e4,intB_inj h.fi h'.fi e5⟩
  ·have:=h.bl z hz; omega
  ·have:=h'.bl z hz; omega
 ·rintro ⟨e1,e2,e3,e4⟩
  simp only [keyB,e1,e2,e3,e4]
end Go.Proofs.Ythgmdlmeeebfiaa
end
section
namespace Go.Proofs.Ythgmdlmeeebfiaa
open Go Go.Tum Go.Tum.Base
def evA (l:List Ev) (k:Int):Ev:=l.getD k.toNat default
def na (l:List Ev) (x y:Int):Prop:=aheadB (evA l y) (evA l x)=false
instance (l : List Ev) (x y : Int) : Decidable (na l x y):=by unfold na; infer_instance
def acc (l:List Ev):Sp→List Int→Bool
 | _,[]=>true
 | s,k::r=>mayB s (evA l k).cl && acc l (nextS s (evA l k).cl) r
def runS (l:List Ev):Sp→List Int→Sp
 | s,[]=>s
 | s,k::r=>runS l (nextS s (evA l k).cl) r
theorem acc_append (l:List Ev):∀ (p r:List Int) (s:Sp),acc l s (p++r)=(acc l s p && acc l (runS l s p) r)
 | [],r,s=>by simp [acc,runS]
 | k::p,r,s=>by simp only [List.cons_append,acc,runS,acc_append l p r,Bool.and_assoc]
theorem runS_snoc (l:List Ev) (k:Int):∀ (p:List Int) (s:Sp),runS l s (p++[k])=nextS (runS l s p) (evA l k).cl
 | [],s=>rfl
 | a::p,s=>by simp only [List.cons_append,runS,runS_snoc l k p]
def okO (l:List Ev) (p:List Int):Prop:=(∀ x∈p,0≤x∧x<(l.length:Int))∧p.Nodup∧p.Pairwise (na l)
instance (l : List Ev) (p : List Int) : Decidable (okO l p):=by unfold okO; infer_instance
def RP (l:List Ev) (s0:Sp) (p:List Int):Prop:=p.length=l.length∧okO l p∧acc l s0 p=true
instance (l : List Ev) (s0 : Sp) (p : List Int) : Decidable (RP l s0 p):=by unfold RP; infer_instance
def srch (R:List Int→Bool) (n:Nat):Nat→List Int→Option (List Int)
 | 0,p=>if R p then some p else none
 | f+1,p=>(iotaZ n).findSome? fun k=>srch R n f (p++[k])
theorem srch_none {R:List Int→Bool} {n:Nat}:∀ {f:Nat} {p:List Int},(∀ r,R (p++r)=false)→srch R n f p=none
 | 0,p,h=>by have:=h []; rw [List.append_nil] at this; simp [srch,this]
 | f+1,p,h=>by
  rw [srch,List.findSome?_eq_none_iff]
  intro k _
  exact srch_none fun r=>by have:=h (k::r); rw [List.append_assoc]; exact this
theorem mem_iotaZ {n:Nat} {x:Int}:x∈iotaZ n↔0≤x∧x<(n:Int):=by
 simp only [iotaZ,List.mem_map,List.mem_range]
 constructor
 ·rintro ⟨a,h,rfl⟩; exact ⟨Int.natCast_nonneg a,by show (a:Int)<n; omega⟩
 ·rintro ⟨h1,h2⟩; exact ⟨x.toNat,by omega,by show ((x.toNat:Nat):Int)=x; omega⟩
theorem srch_all {R:List Int→Bool} {n:Nat}:∀ {f:Nat} {p:List Int},srch R n f p=none→∀ r:List Int,r.length=f→(∀ x∈r,0≤x∧x<(n:Int))→R (p++r)=false
 | 0,p,h,r,hr,_=>by
  obtain rfl:=List.length_eq_zero_iff.1 hr
  rw [List.append_nil]
  cases hq:R p
  ·rfl
  ·simp [srch,hq] at h
 | f+1,p,h,[],hr,_=>by cases hr
 | f+1,p,h,k::r,hr,hx=>by
  rw [srch,List.findSome?_eq_none_iff] at h
  have:=srch_all (h k (mem_iotaZ.2 (hx k (List.mem_cons_self ..)))) r (by simpa using hr) fun x h=>hx x (List.mem_cons_of_mem _ h)
  rw [List.append_assoc] at this; exact this
theorem srch_step {R:List Int→Bool} {n f k:Nat} {p:List Int} (hk:k≤n) (h:∀ j:Nat,j<k→srch R n f (p++[(j:Int)])=none):srch R n (f+1) p=((iotaZ n).drop k).findSome? fun j=>srch R n f (p++[j]):=by
 rw [srch]
 conv=>lhs; rw [← List.take_append_drop k (iotaZ n)]
 rw [List.findSome?_append]
 have:List.findSome? (fun j=>srch R n f (p++[j])) ((iotaZ n).take k)=none:=by
  rw [List.findSome?_eq_none_iff]
  intro x hx
  obtain ⟨i,hi⟩:=List.mem_iff_getElem?.1 hx
  have hik:i<k:=by have:=(List.getElem?_eq_some_iff.1 hi).1; rw [List.length_take] at this; omega
  rw [List.getElem?_take_of_lt hik,iotaZ_get (by omega)] at hi
  cases hi; exact h i hik
 rw [this]; rfl
theorem srch_hit {R:List Int→Bool} {n f k:Nat} {p o:List Int} (hk:k<n) (h:∀ j:Nat,j<k→srch R n f (p++[(j:Int)])=none) (h1:srch R n f (p++[(k:Int)])=some o):srch R n (f+1) p=some o:=by
 rw [srch_step (by omega) h,List.drop_eq_getElem_cons (by rw [iotaZ_len]; exact hk),List.findSome?_cons]
 have:(iotaZ n)[k]'(by rw [iotaZ_len]; exact hk)=(k:Int):=by simp [iotaZ]
 rw [this,h1]
theorem srch_miss {R:List Int→Bool} {n f:Nat} {p:List Int} (h:∀ j:Nat,j<n→srch R n f (p++[(j:Int)])=none):srch R n (f+1) p=none:=by
 rw [srch_step (Nat.le_refl _) h,List.drop_of_length_le (by rw [iotaZ_len]; exact Nat.le_refl _)]; rfl
theorem sortZ_perm (p:List Int):(sortZ p).Perm p:=List.mergeSort_perm ..
theorem sortZ_strict {p:List Int} (h:p.Nodup):(sortZ p).Pairwise (· < ·):=by
 have h1:(sortZ p).Pairwise (fun a b=>decide (a≤b)=true):=List.pairwise_mergeSort (fun a b c=>by simp only [decide_eq_true_eq]; omega) (fun a b=>by simp only [Bool.or_eq_true,decide_eq_true_eq]; omega) p
 have h2:(sortZ p).Pairwise (fun a b=>a≠b):=List.nodup_iff_pairwise_ne.1 ((sortZ_perm p).nodup_iff.2 h)
 exact (h1.and h2).imp fun {a b} h=>by have:=h.1; have:=h.2; simp only [decide_eq_true_eq] at *; omega
theorem iotaZ_strict (n:Nat):(iotaZ n).Pairwise (· < ·):=by
 rw [iotaZ,List.pairwise_map]
 exact List.pairwise_lt_range.imp fun h=>by show Int.ofNat _<Int.ofNat _; simp only [Int.ofNat_eq_natCast]; omega
theorem irrZ:∀ x:Int,¬ x<x:=fun x=>Int.lt_irrefl x
theorem trZ:∀ x y z:Int,x<y→y<z→x<z:=fun _ _ _=>Int.lt_trans
theorem iota_of {n:Nat} {p:List Int} (h1:∀ x∈p,0≤x∧x<(n:Int)) (h2:p.Nodup) (h3:n≤p.length):sortZ p=iotaZ n :=
 sub_eq irrZ trZ (iotaZ n) (sortZ p) (sortZ_strict h2) (iotaZ_strict n) (fun x hx=>mem_iotaZ.2 (h1 x ((sortZ_perm p).mem_iff.1 hx))) (by rw [iotaZ_len,sortZ_len]; exact h3)
theorem iota_len_le {n:Nat} {p:List Int} (h1:∀ x∈p,0≤x∧x<(n:Int)) (h2:p.Nodup):p.length≤n:=by
 have:=sub_len irrZ trZ (iotaZ n) (sortZ p) (sortZ_strict h2) (iotaZ_strict n) (fun x hx=>mem_iotaZ.2 (h1 x ((sortZ_perm p).mem_iff.1 hx)))
 rw [iotaZ_len,sortZ_len] at this; exact this
theorem iota_len_ge {n:Nat} {p:List Int} (h2:p.Nodup) (h3:∀ j:Nat,j<n→(j:Int)∈p):n≤p.length:=by
 have:=sub_len irrZ trZ (sortZ p) (iotaZ n) (iotaZ_strict n) (sortZ_strict h2) (fun x hx=>by
  obtain ⟨h4,h5⟩:=mem_iotaZ.1 hx
  have:=h3 x.toNat (by omega)
  rw [show ((x.toNat:Nat):Int)=x by omega] at this
  exact (sortZ_perm p).mem_iff.2 this)
 rw [iotaZ_len,sortZ_len] at this; exact this
theorem iota_all {n:Nat} {p:List Int} (h1:∀ x∈p,0≤x∧x<(n:Int)) (h2:p.Nodup) (h3:n≤p.length) (j:Nat) (hj:j<n):(j:Int)∈p:=by
 have:=iota_of h1 h2 h3
 exact (sortZ_perm p).mem_iff.1 (by rw [this]; exact mem_iotaZ.2 ⟨by omega,by omega⟩)
theorem whole_iff {p:List Int} {n:Nat}:wholeB p n=true↔p.length=n∧(∀ x∈p,0≤x∧x<(n:Int))∧p.Nodup:=by
 simp only [wholeB,Bool.and_eq_true,decide_eq_true_eq]
 constructor
 ·rintro ⟨h1,h2⟩
  have h3:p.length=n:=by omega
  rw [h3] at h1
  refine ⟨h3,fun x hx=>mem_iotaZ.1 (by rw [← h1]; exact (sortZ_perm p).mem_iff.2 hx),(sortZ_perm p).nodup_iff.1 ?_⟩
  rw [h1,List.nodup_iff_pairwise_ne]
  exact (iotaZ_strict n).imp fun h=>by omega
 ·rintro ⟨h1,h2,h3⟩
  exact ⟨by rw [h1]; exact iota_of h2 h3 (by omega),by omega⟩
def bitsOf (p:List Int):Nat:=p.foldl (fun d k=>d ||| (1 <<< k.toNat)) 0
theorem bits_snoc (p:List Int) (k:Int):bitsOf (p++[k])=bitsOf p ||| (1 <<< k.toNat):=by simp [bitsOf]
theorem bits_fold:∀ (p:List Int) (d j:Nat),(p.foldl (fun d k=>d ||| (1 <<< k.toNat)) d).testBit j=(d.testBit j || p.any fun x=>x.toNat == j)
 | [],d,j=>by simp
 | k::p,d,j=>by
  rw [List.foldl_cons,bits_fold p,Nat.testBit_or,Nat.testBit_shiftLeft,List.any_cons,Bool.or_assoc]
  congr 1
  congr 1
  by_cases h:k.toNat=j
  ·subst h; simp
  ·have:(k.toNat == j)=false:=by simp [h]
   rw [this]
   by_cases h2:j≥k.toNat
   ·have:Nat.testBit 1 (j-k.toNat)=false:=by
     cases hq:Nat.testBit 1 (j-k.toNat)
     ·rfl
     ·have:=Nat.testBit_one_eq_true_iff_self_eq_zero.1 hq; omega
    simp [this]
   ·simp [h2]
theorem bits_test {p:List Int} (hp:∀ x∈p,0≤x) (j:Nat):(bitsOf p).testBit j=decide ((j:Int)∈p):=by
 rw [bitsOf,bits_fold,Nat.zero_testBit,Bool.false_or,Bool.eq_iff_iff,List.any_eq_true,decide_eq_true_eq]
 constructor
 ·rintro ⟨x,hx,h⟩
  have h1:=hp x hx
  have h2:x.toNat=j:=by simpa using h
  rw [← h2,show ((x.toNat:Nat):Int)=x by omega]; exact hx
 ·intro h; exact ⟨_,h,by simp⟩
theorem bits_lt {n:Nat}:∀ {p:List Int},(∀ x∈p,x<(n:Int))→0<n→bitsOf p<2 ^ n:=by
 intro p
 have key:∀ (p:List Int) (d:Nat),(∀ x∈p,x<(n:Int))→0<n→d<2 ^ n→p.foldl (fun d k=>d ||| (1 <<< k.toNat)) d<2 ^ n:=by
  intro p
  induction p with
  | nil=>intro d _ _ h; exact h
  | cons k r ih =>
   intro d h hn hd
   rw [List.foldl_cons]
   refine ih _ (fun x hx=>h x (List.mem_cons_of_mem _ hx)) hn (Nat.or_lt_two_pow hd ?_)
   have:=h k (List.mem_cons_self ..)
   rw [Nat.one_shiftLeft]
   exact Nat.pow_lt_pow_right (by decide) (by omega)
 intro h hn
 exact key p 0 h hn (Nat.two_pow_pos n)
end Go.Proofs.Ythgmdlmeeebfiaa
end
section
namespace Go.Tum
open Go
abbrev SK:=Int × List (BitVec 8)
def skV (k:SK):Value:=.agg #[.int .i64 k.1,.string (bytesS k.2)]
def skE:Nat→List SK→List (SK × Value × Nat)
 | _,[]=>[]
 | i,k::r=>(k,.bool true,i)::skE (i+1) r
theorem skE_snoc (k:SK):∀ (G:List SK) (i:Nat),skE i (G++[k])=skE i G++[(k,.bool true,i+G.length)]
 | [],i=>rfl
 | x::r,i=>by simp only [List.cons_append,skE,skE_snoc k r (i+1),List.length_cons]; rw [show i+1+r.length=i+(r.length+1) by omega]
theorem skE_mem:∀ (G:List SK) (i:Nat) (x:SK × Value × Nat),x∈skE i G→x.1∈G∧x.2.1=.bool true∧i≤x.2.2∧x.2.2<i+G.length
 | [],i,x,h=>by cases h
 | k::r,i,x,h=>by
  simp only [skE,List.mem_cons] at h
  rcases h with rfl | h
  ·exact ⟨List.mem_cons_self ..,rfl,Nat.le_refl _,by simp⟩
  ·obtain ⟨h1,h2,h3,h4⟩:=skE_mem r (i+1) x h
   exact ⟨List.mem_cons_of_mem _ h1,h2,by omega,by simp only [List.length_cons]; omega⟩
theorem skE_keys:∀ (G:List SK) (i:Nat),(skE i G).map (·.1)=G
 | [],_=>rfl
 | k::r,i=>by simp only [skE,List.map_cons,skE_keys r]
theorem skE_borns:∀ (G:List SK) (i:Nat),((skE i G).map (·.2.2)).Nodup
 | [],_=>by simp [skE]
 | k::r,i=>by
  simp only [skE,List.map_cons,List.nodup_cons]
  refine ⟨fun h=>?_,skE_borns r (i+1)⟩
  obtain ⟨x,hx,e⟩:=List.mem_map.1 h
  have:=(skE_mem r (i+1) x hx).2.2.1
  omega
theorem skE_wf {G:List SK} (h:G.Nodup):Wf (skE 0 G) G.length :=
 ⟨by rw [skE_keys]; exact h,skE_borns G 0,fun x hx=>by have:=(skE_mem G 0 x hx).2.2.2; omega⟩
theorem skE_find {G:List SK} {k:SK}:∀ i,((mfind (skE i G) k).map (·.2.1)).getD (.bool false)=.bool (decide (k∈G)):=by
 induction G with
 | nil=>intro i; rfl
 | cons x r ih =>
  intro i
  simp only [skE,mfind,List.find?_cons]
  by_cases e:x=k
  ·subst e; simp
  ·have e':¬ k=x:=fun h=>e h.symm
   simp only [e,decide_false]
   have:=ih (i+1)
   simp only [mfind] at this
   rw [this]
   simp [e']
theorem skE_none {G:List SK} {k:SK} (h:k∉G):∀ i,mfind (skE i G) k=none:=by
 intro i
 simp only [mfind,List.find?_eq_none]
 intro x hx
 have:=(skE_mem G i x hx).1
 simp only [decide_eq_true_eq]
 rintro rfl
 exact h this
def skB (b0:Nat) (G:List SK):LB:=.abs (fun r w=>r=b0∧Mp skV w r (skE 0 G) G.length) (·=b0)
section
variable {P:Program} {n0:NA} {l:Env} {L:LH}
theorem skB_is {E:Emb} {w:World} {r:Nat × Nat × Nat} {b0:Nat} {G:List SK} (h:Mp skV w r.1 (skE 0 G) G.length) (h1:r.1=b0) (h2:r.2=(0,0)):LBis E w r (skB b0 G) :=
 ⟨⟨h1,h⟩,h2,fun _ _ _ hm hf hn=>⟨h1,hm.2.fr hf (hn _ h1)⟩⟩
theorem skB_at {X:Nat→Prop} {w0 w:World} {E:Emb} {l':Env} {x:Operand} {b b0:Nat} {G:List SK} (hR:Rep X w0 E L w) (hl:ER E l l') (hx:lv l x=some (.map (some b))) (hb:L[b]?=some (skB b0 G)) :
  ∃ r,E[b]?=some r∧ev l' x=some (.map (some r.1))∧Mp skV w r.1 (skE 0 G) G.length∧r.1=b0∧r.2=(0,0):=by
 obtain ⟨_,h1,r,h2,rfl⟩:=lv_ev hl hx
 obtain ⟨⟨h3,h4⟩,h5,_⟩:=hR.blk b _ r hb h2
 exact ⟨r,h2,h1,h4,h3,h5⟩
section
variable {t:TypeId}
theorem eqFields_str {d:Nat} {f:Field} {fs:List Field} {xs ys:Array Value} {a b:List (BitVec 8)} (hn:f.name ≠ "_") (ht:P.underlying f.type=some .string) (hx:xs[f.offset]?=some (.string (bytesS a))) (hy:ys[f.offset]?=some (.string (bytesS b))) (w:World) :
  (Op.eqFields (d+1) xs ys (f::fs)).run P w=if a=b then (Op.eqFields (d+1) xs ys fs).run P w else .ok false w:=by
 have hs:scalarT P f.type=true:=by simp [scalarT,ht]
 simp only [Op.eqFields,if_pos hn,Sem.run_bind,part_scalar hs hx,part_scalar hs hy,Result.andThen_ok]
 have h1:(Op.equalIn (d+1) f.type (.string (bytesS a)) (.string (bytesS b))).run P w=.ok (decide (a=b)) w:=by
  unfold Op.equalIn
  simp [run_underlying ht,bytesS_eq]
 rw [h1]
 by_cases h:a=b
 ·subst h; simp
 ·simp [h]
theorem sk_equal {f1 f2:Field} {k1:IntKind} (hu:P.underlying t=some (.struct (P.fieldsOf t))) (hp:P.stoodInHeld t=false) (hf:(P.fieldsOf t).toList=[f1,f2]) (hn1:f1.name ≠ "_") (hn2:f2.name ≠ "_") (ho1:f1.offset=0) (ho2:f2.offset=1)
  (ht1:P.underlying f1.type=some (.int k1)) (ht2:P.underlying f2.type=some .string) (a b:SK) (w:World):(Op.equal t (skV a) (skV b)).run P w=.ok (decide (b=a)) w:=by
 unfold Op.equal Op.maxDepth skV
 rw [show (10000:Nat)=9998+1+1 from rfl,run_equalIn_agg _ _ _ _ _ hu hp,hf]
 rw [eqFields_int (k:=.i64) (a:=a.1) (b:=b.1) hn1 ht1 (by rw [ho1]; rfl) (by rw [ho1]; rfl),eqFields_str (a:=a.2) (b:=b.2) hn2 ht2 (by rw [ho2]; rfl) (by rw [ho2]; rfl),eqFields_nil]
 obtain ⟨a1,a2⟩:=a
 obtain ⟨b1,b2⟩:=b
 by_cases h1:a1=b1
 ·by_cases h2:a2=b2
  ·subst h1; subst h2; simp
  ·have:¬ b2=a2:=fun e=>h2 e.symm
   simp [h1,h2,this]
 ·have:¬ b1=a1:=fun e=>h1 e.symm
  simp [h1,this]
theorem keyLaw_sk (heq:∀ (a b:SK) (w:World),(Op.equal t (skV a) (skV b)).run P w=.ok (decide (b=a)) w) (hu:∃ fs,P.underlying t=some (.struct fs)) (hc:∀ e k w,(Instr.checkKey e 10000 t (skV k)).run P w=.ok () w):KeyLaw P t skV:=by
 refine ⟨hc,fun k=>?_,fun k m w=>?_⟩
 ·unfold skV
  rw [show (10000:Nat)=9998+1+1 from rfl]
  simp [Instr.sameBits,bytesS_eq]
 ·obtain ⟨fs,hu⟩:=hu
  have ask:∀ (m:List (SK × Value × Nat)) (i:Nat),(Instr.findAsking t (skV k) (m.map (mkE skV)) i).run P w=.ok ((mix m k).bind fun j=>m[j]?.map fun x=>(i+j,x.2.1)) w:=by
   intro m
   induction m with
   | nil=>intro i; rfl
   | cons x r ih =>
    intro i
    simp only [List.map_cons,Instr.findAsking,mkE,Sem.run_bind,heq,Result.andThen_ok]
    by_cases h:x.1=k
    ·simp [h,mix,List.findIdx?_cons]
    ·simp only [h,decide_false,Bool.false_eq_true,if_false]
     rw [ih (i+1)]
     have:mix (x::r) k=(mix r k).map (· + 1):=by
      simp only [mix,List.findIdx?_cons,h,decide_false,Bool.false_eq_true,if_false]
     rw [this]
     cases mix r k with
     | none=>rfl
     | some j=>simp [show i+1+j=i+(j+1) by omega]
  unfold Instr.findKey
  simp only [Sem.run_bind,run_underlying hu,Result.andThen_ok]
  cases m with
  | nil=>rfl
  | cons x r =>
   have hnow:Instr.findNow (.struct fs) (skV k) ((x::r).map (mkE skV)) 0=none:=by
    simp [Instr.findNow,Instr.sameNow,skV,mkE]
   rw [hnow]
   have:=ask (x::r) 0
   simp only [Nat.zero_add] at this
   exact this
end
theorem QY.skget {o:Oper} {mT kt et:TypeId} {x y:Operand} {b b0:Nat} {G:List SK} {k:SK} (ho:o.op=.lookup mT x y false) (hT:P.underlying mT=some (.map kt et)) (hk:KeyLaw P kt skV) (hz:zeroOf P et=some (.bool false)) (hx:lv l x=some (.map (some b))) (hy:lv l y=some (.agg ⟨[.int .i64 k.1,.string (bytesS k.2)]⟩)) (hb:L[b]?=some (skB b0 G)):QY P n0 L l (.raw o) (.bool (decide (k∈G))):=by
 intro X w0 E0 w E l' _ hE hR hl
 obtain ⟨r,h2,h3,h4,_⟩:=skB_at hR hl hx hb
 obtain ⟨v',h6,h7⟩:=lv_ev hl hy
 obtain ⟨cs,rfl,h8⟩:=h7
 obtain rfl:=L2.eq_still (by rfl) h8
 obtain ⟨d,op,ty,pos,af,g⟩:=o
 simp only at ho
 subst ho
 refine ⟨_,lookup_Y (ty:=ty) (k:=k) hT hk (zeroOf_ok hz) h3 h6 h4 rfl,?_⟩
 rw [skE_find]; rfl
theorem EW.skput {o:Oper} {mT kt et:TypeId} {x y u:Operand} {b b0:Nat} {G:List SK} {k:SK} (ho:o.op=.mapUpdate mT x y u) (hT:P.underlying mT=some (.map kt et)) (hk:KeyLaw P kt skV) (hx:lv l x=some (.map (some b))) (hy:lv l y=some (.agg ⟨[.int .i64 k.1,.string (bytesS k.2)]⟩)) (hu:lv l u=some (.bool true)) (hb:L[b]?=some (skB b0 G)) (hw:G.Nodup) (hn:k∉G) :
  EW P n0 L l (.raw o) (fun w K=>w=undef∧K=L.set b (skB b0 (G++[k]))):=by
 intro X w0 E0 w E l' Kf h0 hE hR hl hK
 obtain ⟨r,h2,h3,h4,h5,h6⟩:=skB_at hR hl hx hb
 obtain ⟨v',h7,h8⟩:=lv_ev hl hy
 obtain ⟨cs,rfl,h9⟩:=h8
 obtain rfl:=L2.eq_still (by rfl) h9
 obtain ⟨_,h10,rfl⟩:=lv_ev hl hu
 obtain ⟨d,op,ty,pos,af,g⟩:=o
 simp only at ho
 subst ho
 have hs:mset (skE 0 G) k (.bool true) G.length=(skE 0 (G++[k]),(G++[k]).length):=by
  unfold mset
  rw [skE_none hn,skE_snoc,Nat.zero_add,List.length_append]; rfl
 refine mapUpdate_W (ty:=ty) (k:=k) hT hk h3 h7 h10 h4 (skE_wf hw) (fun w' hM hf hsz=>hK w' E _ _ _ ⟨rfl,rfl⟩ (Ext.refl E) (hR.upd hb h2 (hf.mono fun c _ e=>(e.trans h5:c=b0)) (skB_is ?_ h5 h6) (fun _ h=>.inl h)) VR.undef)
 rw [hs] at hM; exact hM
theorem EW.skmake {o:Oper} {mT:TypeId} (ho:o.op=.makeMap mT none):EW P n0 L l (.raw o) (fun w K=>∃ b0,w=.map (some L.length)∧K=L++[skB b0 []]):=by
 intro X w0 E0 w E l' Kf h0 hE hR hl hK
 obtain ⟨d,op,ty,pos,af,g⟩:=o
 simp only at ho
 subst ho
 refine makeMap_W (ty:=ty) skV fun w' hM hf hsz=>hK w' (E++[(w.heap.size,0,0)]) _ _ _ ⟨w.heap.size,rfl,rfl⟩ (Ext.push E _) (hR.push hf (fun b hb=>by rw [show b=w.heap.size from hb]; omega) (skB_is hM rfl rfl)) ?_
 exact ⟨_,hR.last _,rfl⟩
end
end Go.Tum
end
section
namespace Go.Proofs.Ythgmdlmeeebfiaa
open Go Go.Tum Go.Tum.Base
def QR (l:List Ev) (s:Sp) (d:Nat) (r:List Int):Prop :=
 (∀ x∈r,0≤x∧x<(l.length:Int)∧d.testBit x.toNat=false)∧r.Nodup∧(∀ j:Nat,j<l.length→d.testBit j=false→(j:Int)∈r)∧r.Pairwise (na l)∧acc l s r=true
structure PP (l:List Ev) (s0:Sp) (p:List Int) (s w:Sp):Prop where
 rng:∀ x∈p,0≤x∧x<(l.length:Int)
 nd:p.Nodup
 pw:p.Pairwise (na l)
 ac:acc l s0 p=true
 st:s=runS l s0 p
 pi:PI p.length s w
def OutP (l:List Ev) (p:List Int):Prop:=∀ x∈p,∀ j:Nat,j<l.length→(j:Int)∉p→na l x j
theorem PP.rg {l:List Ev} {s0 s w:Sp} {p:List Int} (h:PP l s0 p s w):∀ x∈p,0≤x:=fun x hx=>(h.rng x hx).1
theorem PP.len {l:List Ev} {s0 s w:Sp} {p:List Int} (h:PP l s0 p s w):p.length≤l.length:=iota_len_le h.rng h.nd
theorem toNat_id {x:Int} (h:0≤x):((x.toNat:Nat):Int)=x:=by omega
theorem QR_of {l:List Ev} {s0 s w:Sp} {p r:List Int} (h:PP l s0 p s w) (hR:RP l s0 (p++r)):QR l s (bitsOf p) r:=by
 obtain ⟨h1,⟨h2,h3,h4⟩,h5⟩:=hR
 rw [List.nodup_append] at h3
 rw [List.pairwise_append] at h4
 rw [acc_append,Bool.and_eq_true,← h.st] at h5
 refine ⟨fun x hx=>?_,h3.2.1,fun j hj hd=>?_,h4.2.1,h5.2⟩
 ·have hr:=h2 x (List.mem_append_right _ hx)
  refine ⟨hr.1,hr.2,?_⟩
  rw [bits_test h.rg,toNat_id hr.1,decide_eq_false_iff_not]
  exact fun hp=>h3.2.2 x hp x hx rfl
 ·have:=iota_all h2 (List.nodup_append.2 h3) (by omega) j hj
  rcases List.mem_append.1 this with hp | hr
  ·rw [bits_test h.rg] at hd
   exact absurd hp (by simpa using hd)
  ·exact hr
theorem RP_of {l:List Ev} {s0 s w:Sp} {p r:List Int} (h:PP l s0 p s w) (ho:OutP l p) (hQ:QR l s (bitsOf p) r):RP l s0 (p++r):=by
 obtain ⟨h1,h2,h3,h4,h5⟩:=hQ
 have hout:∀ x∈r,x∉p:=fun x hx hp=>by
  have:=h1 x hx
  rw [bits_test h.rg,toNat_id this.1,decide_eq_false_iff_not] at this
  exact this.2.2 hp
 have hrng:∀ x∈p++r,0≤x∧x<(l.length:Int):=fun x hx=>by
  rcases List.mem_append.1 hx with hx | hx
  ·exact h.rng x hx
  ·exact ⟨(h1 x hx).1,(h1 x hx).2.1⟩
 have hnd:(p++r).Nodup:=List.nodup_append.2 ⟨h.nd,h2,fun a ha b hb e=>hout b hb (e ▸ ha)⟩
 refine ⟨Nat.le_antisymm (iota_len_le hrng hnd) (iota_len_ge hnd fun j hj=>?_),⟨hrng,hnd,List.pairwise_append.2 ⟨h.pw,h4,fun x hx y hy=>?_⟩⟩,by rw [acc_append,h.ac,← h.st,h5]; rfl⟩
 ·by_cases hp:(j:Int)∈p
  ·exact List.mem_append_left _ hp
  ·exact List.mem_append_right _ (h3 j hj (by rw [bits_test h.rg]; simpa using hp))
 ·have hy1:=h1 y hy
  have:=ho x hx y.toNat (by omega) (by rw [toNat_id hy1.1]; exact hout y hy)
  rwa [toNat_id hy1.1] at this
abbrev RPB (l:List Ev) (s0:Sp) (o:List Int):Bool:=decide (RP l s0 o)
def NC (l:List Ev) (x:SK):Prop:=∀ (d k:Nat) (s w:Sp),x.1=(d:Int)→k≤1000→PI k s w→keyB s=x.2→∀ r,¬ QR l s d r
def skOf (p:List Int) (s:Sp):SK:=((bitsOf p:Int),keyB s)
def IM (l:List Ev) (s0:Sp) (mm:List SK) (p:List Int) (m:Nat):Prop:=mm.Nodup∧∀ x∈mm,(∃ i,i<m∧x=skOf (p.take i) (runS l s0 (p.take i)))∨NC l x
theorem bits_take_ne {l:List Ev} {s0 s w:Sp} {p:List Int} (h:PP l s0 p s w) {i:Nat} (hi:i<p.length):bitsOf (p.take i)≠bitsOf p:=by
 intro e
 obtain ⟨x,hx⟩:∃ x,p[i]?=some x:=⟨_,List.getElem?_eq_getElem hi⟩
 have hxp:=List.mem_of_getElem? hx
 have h0:=h.rg x hxp
 have h1:=bits_test h.rg x.toNat
 have h2:=bits_test (p:=p.take i) (fun y hy=>h.rg y (List.mem_of_mem_take hy)) x.toNat
 rw [e,h1,toNat_id h0] at h2
 have h3:x∈p.take i:=by
  have:=h2
  simp only [hxp,decide_true] at this
  exact of_decide_eq_true this.symm
 have hsp:p=p.take i++x::p.drop (i+1):=by
  conv=>lhs; rw [← List.take_append_drop i p,List.drop_eq_getElem_cons hi]
  rw [List.getElem?_eq_getElem hi] at hx; cases hx; rfl
 have hnd:=h.nd
 rw [hsp,List.nodup_append] at hnd
 exact hnd.2.2 x h3 x (List.mem_cons_self ..) rfl
theorem met_none {l:List Ev} {s0 s w:Sp} {p:List Int} {mm:List SK} {f:Nat} (hl:l.length≤1000) (h:PP l s0 p s w) (hI:IM l s0 mm p p.length) (hm:skOf p s∈mm):srch (RPB l s0) l.length f p=none:=by
 refine srch_none fun r=>?_
 rw [decide_eq_false_iff_not]
 intro hR
 rcases hI.2 _ hm with ⟨i,hi,e⟩ | hN
 ·exact bits_take_ne h hi (by have:(bitsOf p:Int)=(bitsOf (p.take i):Int):=congrArg Prod.fst e; omega)
 ·exact hN (bitsOf p) p.length s w rfl (Nat.le_trans h.len hl) h.pi rfl r (QR_of h hR)
theorem IM.put {l:List Ev} {s0 s w:Sp} {p:List Int} {mm:List SK} (hI:IM l s0 mm p p.length) (h:PP l s0 p s w) (hm:skOf p s∉mm) (k:Int):IM l s0 (mm++[skOf p s]) (p++[k]) (p++[k]).length:=by
 refine ⟨List.nodup_append.2 ⟨hI.1,by simp,fun a ha b hb e=>?_⟩,fun x hx=>?_⟩
 ·simp at hb; subst hb; subst e; exact hm ha
 ·rcases List.mem_append.1 hx with hx | hx
  ·rcases hI.2 x hx with ⟨i,hi,e⟩ | hN
   ·exact .inl ⟨i,by simp; omega,by rw [List.take_append_of_le_length (by omega)]; exact e⟩
   ·exact .inr hN
  ·simp at hx; subst hx
   exact .inl ⟨p.length,by simp,by rw [List.take_append_of_le_length (Nat.le_refl _),List.take_length,← h.st]⟩
theorem IM.other {l:List Ev} {s0:Sp} {p:List Int} {mm:List SK} {k:Int} (hI:IM l s0 mm (p++[k]) (p++[k]).length) (k':Int):IM l s0 mm (p++[k']) (p++[k']).length:=by
 refine ⟨hI.1,fun x hx=>?_⟩
 rcases hI.2 x hx with ⟨i,hi,e⟩ | hN
 ·rw [List.length_append,List.length_singleton] at hi
  exact .inl ⟨i,by rw [List.length_append,List.length_singleton]; exact hi,by rw [List.take_append_of_le_length (by omega)] at e ⊢; exact e⟩
 ·exact .inr hN
theorem acc_core {l:List Ev} {s t:Sp} (h:s.ma=t.ma∧s.ar=t.ar∧s.lv=t.lv∧s.fr=t.fr):∀ r:List Int,acc l s r=acc l t r
 | []=>rfl
 | k::r=>by
  obtain ⟨a,b,c,d,e,f⟩:=s
  obtain ⟨a',b',c',d',e',f'⟩:=t
  simp only at h
  obtain ⟨rfl,rfl,rfl,rfl⟩:=h
  rfl
theorem IM.done {l:List Ev} {s0 s w:Sp} {p:List Int} {mm:List SK} {f:Nat} {k:Int} (hl:l.length≤1000) (h:PP l s0 p s w) (ho:OutP l p) (hI:IM l s0 mm (p++[k]) (p++[k]).length) (hf:f=l.length-p.length) (hn:srch (RPB l s0) l.length f p=none):IM l s0 mm p p.length:=by
 subst hf
 refine ⟨hI.1,fun x hx=>?_⟩
 rcases hI.2 x hx with ⟨i,hi,e⟩ | hN
 ·rw [List.length_append,List.length_singleton] at hi
  rw [List.take_append_of_le_length (by omega)] at e
  by_cases hip:i=p.length
  ·subst hip
   rw [List.take_length,← h.st] at e
   right
   subst e
   intro d k' s' w' hd hk' hP' hkey r hQ
   have hd':bitsOf p=d:=by have:(bitsOf p:Int)=(d:Int):=hd; omega
   subst hd'
   have hc:=(key_iff hk' (Nat.le_trans h.len hl) hP' h.pi).1 hkey
   obtain ⟨q1,q2,q3,q4,q5⟩:=hQ
   rw [acc_core hc] at q5
   have hR:=RP_of h ho ⟨q1,q2,q3,q4,q5⟩
   have hlen:=hR.1
   rw [List.length_append] at hlen
   have:=srch_all hn r (by omega) fun x hx=>⟨(q1 x hx).1,(q1 x hx).2.1⟩
   rw [decide_eq_false_iff_not] at this
   exact this hR
  ·exact .inl ⟨i,by omega,e⟩
 ·exact .inr hN
def rdB (l:List Ev) (d k:Nat):Bool := !d.testBit k && (List.range l.length).all fun j=>decide (j=k) || (d.testBit j || !aheadB (evA l j) (evA l k))
theorem PP.step {l:List Ev} {s0 s w:Sp} {p:List Int} {k:Nat} (h:PP l s0 p s w) (hk:k<l.length) (hn:(k:Int)∉p) (hp:∀ x∈p,na l x k) (hm:mayB s (evA l k).cl=true):PP l s0 (p++[(k:Int)]) (nextS s (evA l k).cl) (rnextS w (evA l k).cl):=by
 refine ⟨fun x hx=>?_,List.nodup_append.2 ⟨h.nd,by simp,fun a ha b hb e=>?_⟩,List.pairwise_append.2 ⟨h.pw,by simp,fun x hx y hy=>?_⟩,?_,?_,?_⟩
 ·rcases List.mem_append.1 hx with hx | hx
  ·exact h.rng x hx
  ·simp at hx; subst hx; omega
 ·simp at hb; subst hb; subst e; exact hn ha
 ·simp at hy; subst hy; exact hp x hx
 ·rw [acc_append,h.ac,← h.st]; simp [acc,hm]
 ·rw [runS_snoc,← h.st]
 ·rw [List.length_append,List.length_singleton]; exact h.pi.next hm
theorem OutP.step {l:List Ev} {s0 s w:Sp} {p:List Int} {k:Nat} (h:PP l s0 p s w) (ho:OutP l p) (hr:rdB l (bitsOf p) k=true):OutP l (p++[(k:Int)]):=by
 simp only [rdB,Bool.and_eq_true,List.all_eq_true,List.mem_range,Bool.or_eq_true,decide_eq_true_eq,Bool.not_eq_true'] at hr
 intro x hx j hj hjp
 have hjp':(j:Int)∉p:=fun e=>hjp (List.mem_append_left _ e)
 have hjk:j≠k:=fun e=>hjp (List.mem_append_right _ (by simp [e]))
 rcases List.mem_append.1 hx with hx | hx
 ·exact ho x hx j hj hjp'
 ·simp at hx; subst hx
  rcases hr.2 j hj with h1 | h1 | h1
  ·exact absurd h1 hjk
  ·rw [bits_test h.rg] at h1; exact absurd (of_decide_eq_true h1) hjp'
  ·exact h1
theorem PP.stepR {l:List Ev} {s0 s w:Sp} {p:List Int} {k:Nat} (h:PP l s0 p s w) (ho:OutP l p) (hk:k<l.length) (hr:rdB l (bitsOf p) k=true) (hm:mayB s (evA l k).cl=true):PP l s0 (p++[(k:Int)]) (nextS s (evA l k).cl) (rnextS w (evA l k).cl):=by
 have hn:(k:Int)∉p:=by
  simp only [rdB,Bool.and_eq_true,Bool.not_eq_true'] at hr
  have:=hr.1
  rw [bits_test h.rg] at this
  exact of_decide_eq_false this
 exact h.step hk hn (fun x hx=>ho x hx k hk hn) hm
theorem srch_no {l:List Ev} {s0:Sp} {p:List Int} {k:Int} {f:Nat} (h:∀ r,¬ RP l s0 (p++[k]++r)):srch (RPB l s0) l.length f (p++[k])=none :=
 srch_none fun r=>by rw [decide_eq_false_iff_not]; exact h r
theorem no_may {l:List Ev} {s0 s w:Sp} {p:List Int} {k:Int} (h:PP l s0 p s w) (hm:mayB s (evA l k).cl=false) (r:List Int):¬ RP l s0 (p++[k]++r):=by
 rintro ⟨_,_,h5⟩
 rw [List.append_assoc,acc_append,← h.st] at h5
 simp [acc,hm] at h5
theorem no_ready {l:List Ev} {s0 s w:Sp} {p:List Int} {k:Nat} (h:PP l s0 p s w) (hk:k<l.length) (hr:rdB l (bitsOf p) k=false) (r:List Int):¬ RP l s0 (p++[(k:Int)]++r):=by
 rintro ⟨h1,⟨h2,h3,h4⟩,_⟩
 have hkp:(k:Int)∉p:=by
  rw [List.append_assoc,List.nodup_append] at h3
  exact fun hp=>h3.2.2 _ hp _ (by simp) rfl
 have ht:(bitsOf p).testBit k=false:=by rw [bits_test h.rg]; simpa using hkp
 simp only [rdB,ht,Bool.not_false,Bool.true_and] at hr
 obtain ⟨j,hj,hj2⟩:=List.all_eq_false.1 hr
 rw [List.mem_range] at hj
 simp only [Bool.or_eq_true,decide_eq_true_eq,not_or,Bool.not_eq_true,Bool.not_eq_false'] at hj2
 obtain ⟨h6,h7,h8⟩:=hj2
 rw [bits_test h.rg] at h7
 have h7:=of_decide_eq_false h7
 have hall:=iota_all h2 h3 (by omega) j hj
 rw [List.pairwise_append] at h4
 rcases List.mem_append.1 hall with hq | hq
 ·rcases List.mem_append.1 hq with hq | hq
  ·exact h7 hq
  ·simp at hq; exact h6 (by omega)
 ·have:na l k j:=h4.2.2 k (by simp) j hq
  unfold na at this
  rw [this] at h8; simp at h8
theorem PP.leaf {l:List Ev} {s0 s w:Sp} {p:List Int} (h:PP l s0 p s w) (hl:p.length=l.length):srch (RPB l s0) l.length 0 p=some p:=by
 have:RP l s0 p:=⟨hl,⟨h.rng,h.nd,h.pw⟩,h.ac⟩
 simp [srch,this]
theorem PP.zero {l:List Ev} {ma ar:Int} (hm:0≤ma∧ma≤8191) (ha:0≤ar∧ar≤8191):PP l ⟨ma,ar,[],0,[],0⟩ [] ⟨ma,ar,[],0,[],0⟩ ⟨ma,ar,[],0,[],0⟩ :=
 ⟨by simp,by simp,by simp,rfl,rfl,PI.zero hm ha⟩
def okB (l:List Ev) (w:Sp) (p:List Int) (k:Int):Bool:=rmayB w (evA l k).cl && p.all fun y=>decide (y≠k) && !aheadB (evA l k) (evA l y)
end Go.Proofs.Ythgmdlmeeebfiaa
end
section
namespace Go.Proofs.Ythgmdlmeeebfiaa
open Go Go.Tum Go.Tum.Base
set_option maxRecDepth 4000
theorem shr_nat (d k:Nat) (hk:k≤60):ishift false .i64 (d:Int) (k:Int)=((d >>> k:Nat):Int):=by
 simp only [ishift,Int.toNat_natCast]
 rw [show min k IntKind.i64.bits=k from Nat.min_eq_left (by show k≤64; omega),Nat.shiftRight_eq_div_pow]
 have:((2:Int) ^ k)=((2 ^ k:Nat):Int):=by simp
 rw [this,← Int.ofNat_fdiv]
theorem shl_nat (k:Nat) (hk:k≤60):ishift true .i64 1 (k:Int)=((1 <<< k:Nat):Int):=by
 simp only [ishift,Int.toNat_natCast]
 have hp:=Nat.two_pow_pos k
 rw [show min k IntKind.i64.bits=k from Nat.min_eq_left (by show k≤64; omega),Nat.one_shiftLeft,Int.one_mul]
 have h1:((2:Int) ^ k)=((2 ^ k:Nat):Int):=by simp
 have h2:2 ^ k<2 ^ 61:=Nat.pow_lt_pow_right (by decide) (by omega)
 rw [h1]
 generalize 2 ^ k=m at *
 rw [wrap64_id (by omega) (by omega)]
theorem or_nat (a b:Nat) (ha:a<2 ^ 62) (hb:b<2 ^ 62):ibin .or .i64 (a:Int) (b:Int)=some (.int .i64 ((a ||| b:Nat):Int)):=by
 simp only [ibin]
 have h:=Nat.or_lt_two_pow ha hb
 show some (Value.int .i64 (IntKind.i64.wrap (((BitVec.ofInt 64 (a:Int) ||| BitVec.ofInt 64 (b:Int)).toNat:Nat):Int)))=_
 rw [BitVec.ofInt_natCast,BitVec.ofInt_natCast,BitVec.toNat_or,BitVec.toNat_ofNat,BitVec.toNat_ofNat,Nat.mod_eq_of_lt (by omega),Nat.mod_eq_of_lt (by omega),wrap64_id (by omega) (by omega)]
theorem bit_mod (d k:Nat):(((d >>> k:Nat):Int)) % ((1:Nat)+1:Int)=((d.testBit k).toNat:Int):=by
 rw [Nat.testBit_eq_decide_div_mod_eq,Nat.shiftRight_eq_div_pow]
 by_cases h:d / 2 ^ k % 2=1
 ·simp only [h,decide_true,Bool.toNat_true]; omega
 ·simp only [h,decide_false,Bool.toNat_false]; omega
abbrev EVB (l:List Ev):LB:=.gro 8 (rowsC Ev.cells l)
abbrev SHC (n p c:Nat):LB:=.cells 0 [slB 1 n,.map (some 2),slC 3 p c]
def SLB (l:List Ev) (b0:Nat) (G:List SK) (p:Nat) (xs:List Int):LH:=[SHC l.length p xs.length,EVB l,skB b0 G,.gro 1 (rowsC intC xs)]
theorem evA_at {l:List Ev} {j:Nat} (hj:j<l.length):l[j]?=some (evA l j):=by
 simp [evA,List.getElem?_eq_getElem hj]
def rdK (l:List Ev) (d k i:Nat):Bool:=(List.range i).all fun j=>decide (j=k) || (d.testBit j || !aheadB (evA l j) (evA l k))
theorem rdK_succ (l:List Ev) (d k i:Nat):rdK l d k (i+1)=(rdK l d k i && (decide (i=k) || (d.testBit i || !aheadB (evA l i) (evA l k)))):=by simp [rdK,List.range_succ]
theorem rdK_mono {l:List Ev} {d k i n:Nat} (h:rdK l d k i=false) (hn:i≤n):rdK l d k n=false:=by
 obtain ⟨j,hj,h2⟩:=List.all_eq_false.1 h
 exact List.all_eq_false.2 ⟨j,List.mem_range.2 (by have:=List.mem_range.1 hj; omega),h2⟩
set_option maxHeartbeats 2000000 in
theorem ready_tr (l:List Ev) (hl:l.length≤20) (b0:Nat) (G:List SK) (p:Nat) (xs:List Int) (d k:Nat) (hk:k<l.length) :
  Tr Try.prog 68 [pp 0,.int .i64 d,.int .i64 k] (SLB l b0 G p xs) (fun v K=>v=.bool (rdB l d k)∧K=SLB l b0 G p xs):=by
 refine Tr.of row_linear_search_ready_ok rfl ?_
 have hxk:=evA_at hk
 cases hb:d.testBit k
 ·have e0:(((d >>> k:Nat):Int)) % ((1:Nat)+1:Int)=0:=by rw [bit_mod,hb]; rfl
  repeat' (first|refine qN ?_|refine dN ?_|refine dR ?_|refine d0 ?_|refine qB ?_|refine rT ?_|refine qT ?_|refine qU ?_|refine qL ?_|refine qK ?_|refine qF ?_|refine qE ?_|refine iF (fun h=>?_) (fun h=>?_)|refine aX ?_|refine S_Q [] rfl rfl (QY.shift rfl rfl (by omega) (shr_nat d k (by omega))) ?_|refine S_Q [] rfl rfl (QY.mask (m:=1) rfl rfl (by decide) e0) ?_|refine aA ?_|refine aK ?_|refine aI (hn:=?_)|refine sP 27 (fun h=>?_) (fun h=>?_)|refine sP 34 (fun h=>?_) (fun h=>?_)|refine qR ?_|refine qS ?_|exact ⟨rfl,rfl⟩|fail)
  have hrd:rdB l d k=rdK l d k l.length:=by simp [rdB,rdK,hb]
  rw [hrd]
  refine LWp.pick [0,1,2,17,18,19] [0,1,2,3] rfl rfl rfl (L_loop (fun q E L=>∃ i:Nat,q=l.length-i∧i≤l.length∧rdK l d k i=true∧E=[(0,pp 0),(1,.int .i64 d),(2,.int .i64 k),(17,slB 1 l.length),(18,.int .i64 l.length),(19,.int .i64 i)]∧L=SLB l b0 G p xs) l.length ⟨0,rfl,by omega,rfl,rfl,rfl⟩ ?_)
  rintro q _ _ ⟨i,rfl,hi,hall,rfl,rfl⟩
  first|refine L_seq (L_rs (S_done [] rfl (Nx.goL (iF (fun h=>L_skip (Nx.goL ?_)) (fun h=>L_exit ?_)))))|refine L_rs (S_done [] rfl (Nx.goL (L_seq (iF (fun h=>L_skip (Nx.goL ?_)) (fun h=>L_exit ?_)))))
  ·have hik:i<l.length:=by omega
   have hxi:=evA_at hik
   have hs:=rdK_succ l d k i
   rw [hall,Bool.true_and] at hs
   have hA:=ahead_tr (evA l i) (evA l k)
   generalize hq:aheadB (evA l i) (evA l k)=ab at hA hs
   cases hbi:d.testBit i
   ·have e1:(((d >>> i:Nat):Int)) % ((1:Nat)+1:Int)=0:=by rw [bit_mod,hbi]; rfl
    rw [hbi] at hs
    cases ab
    ·repeat' (first|refine qN ?_|refine dN ?_|refine d0 ?_|refine qB ?_|refine qT ?_|refine qU ?_|refine qL ?_|refine qK ?_|refine qF ?_|refine qE ?_|refine iF (fun h=>?_) (fun h=>?_)|refine aX ?_|refine S_Q [] rfl rfl (QY.ldRow Ev.ok rfl rfl hxi (by decide)) ?_|refine S_Q [] rfl rfl (QY.ldRow Ev.ok rfl rfl hxk (by decide)) ?_|refine S_Q [] rfl rfl (QY.shift rfl rfl (by omega) (shr_nat d i (by omega))) ?_|refine S_Q [] rfl rfl (QY.mask (m:=1) rfl rfl (by decide) e1) ?_|refine cP [] (hA) ?_|refine aA ?_|refine aK ?_|refine aI (hn:=?_)|refine sP 27 (fun h=>?_) (fun h=>?_)|refine sP 34 (fun h=>?_) (fun h=>?_)|refine qR ?_|refine qS ?_|exact ⟨rfl,rfl⟩|fail)
     all_goals exact Nx.pick [0,1,2,17,18,19] [0,1,2,3] rfl rfl rfl ⟨l.length-(i+1),by omega,i+1,rfl,by omega,(by rw [hs]; simp; try omega),rfl,rfl⟩
    ·repeat' (first|refine qN ?_|refine dN ?_|refine d0 ?_|refine qB ?_|refine qT ?_|refine qU ?_|refine qL ?_|refine qK ?_|refine qF ?_|refine qE ?_|refine iF (fun h=>?_) (fun h=>?_)|refine aX ?_|refine S_Q [] rfl rfl (QY.ldRow Ev.ok rfl rfl hxi (by decide)) ?_|refine S_Q [] rfl rfl (QY.ldRow Ev.ok rfl rfl hxk (by decide)) ?_|refine S_Q [] rfl rfl (QY.shift rfl rfl (by omega) (shr_nat d i (by omega))) ?_|refine S_Q [] rfl rfl (QY.mask (m:=1) rfl rfl (by decide) e1) ?_|refine cP [] (hA) ?_|refine aA ?_|refine aK ?_|refine aI (hn:=?_)|refine sP 27 (fun h=>?_) (fun h=>?_)|refine sP 34 (fun h=>?_) (fun h=>?_)|refine qR ?_|refine qS ?_|exact ⟨rfl,rfl⟩|fail)
     all_goals first
      |exact Nx.pick [0,1,2,17,18,19] [0,1,2,3] rfl rfl rfl ⟨l.length-(i+1),by omega,i+1,rfl,by omega,(by rw [hs]; simp; try omega),rfl,rfl⟩
      | (rw [rdK_mono (i:=i+1) (n:=l.length) (by rw [hs]; simp; omega) (by omega)]; exact L_ret (RetQ.pick [0,1,2,3] rfl rfl rfl rfl ⟨rfl,rfl⟩))
   ·have e1:(((d >>> i:Nat):Int)) % ((1:Nat)+1:Int)=1:=by rw [bit_mod,hbi]; rfl
    rw [hbi] at hs
    repeat' (first|refine qN ?_|refine dN ?_|refine d0 ?_|refine qB ?_|refine qT ?_|refine qU ?_|refine qL ?_|refine qK ?_|refine qF ?_|refine qE ?_|refine iF (fun h=>?_) (fun h=>?_)|refine aX ?_|refine S_Q [] rfl rfl (QY.ldRow Ev.ok rfl rfl hxi (by decide)) ?_|refine S_Q [] rfl rfl (QY.ldRow Ev.ok rfl rfl hxk (by decide)) ?_|refine S_Q [] rfl rfl (QY.shift rfl rfl (by omega) (shr_nat d i (by omega))) ?_|refine S_Q [] rfl rfl (QY.mask (m:=1) rfl rfl (by decide) e1) ?_|refine cP [] (hA) ?_|refine aA ?_|refine aK ?_|refine aI (hn:=?_)|refine sP 27 (fun h=>?_) (fun h=>?_)|refine sP 34 (fun h=>?_) (fun h=>?_)|refine qR ?_|refine qS ?_|exact ⟨rfl,rfl⟩|fail)
    all_goals exact Nx.pick [0,1,2,17,18,19] [0,1,2,3] rfl rfl rfl ⟨l.length-(i+1),by omega,i+1,rfl,by omega,(by rw [hs]; simp; try omega),rfl,rfl⟩
  ·refine Nx.goL ?_
   obtain rfl:i=l.length:=by omega
   rw [hall]
   repeat' (first|refine qN ?_|refine dN ?_|refine d0 ?_|refine qB ?_|refine qT ?_|refine qU ?_|refine qL ?_|refine qK ?_|refine qF ?_|refine qE ?_|refine iF (fun h=>?_) (fun h=>?_)|refine aX ?_|refine aA ?_|refine aK ?_|refine aI (hn:=?_)|refine sP 27 (fun h=>?_) (fun h=>?_)|refine sP 34 (fun h=>?_) (fun h=>?_)|refine qR ?_|refine qS ?_|exact ⟨rfl,rfl⟩|fail)
   exact L_ret (RetQ.pick [0,1,2,3] rfl rfl rfl rfl ⟨rfl,rfl⟩)
 ·have e0:(((d >>> k:Nat):Int)) % ((1:Nat)+1:Int)=1:=by rw [bit_mod,hb]; rfl
  have er:rdB l d k=false:=by simp [rdB,hb]
  rw [er]
  repeat' (first|refine qN ?_|refine dN ?_|refine dR ?_|refine d0 ?_|refine qB ?_|refine rT ?_|refine qT ?_|refine qU ?_|refine qL ?_|refine qK ?_|refine qF ?_|refine qE ?_|refine iF (fun h=>?_) (fun h=>?_)|refine aX ?_|refine S_Q [] rfl rfl (QY.shift rfl rfl (by omega) (shr_nat d k (by omega))) ?_|refine S_Q [] rfl rfl (QY.mask (m:=1) rfl rfl (by decide) e0) ?_|refine aA ?_|refine aK ?_|refine aI (hn:=?_)|refine sP 27 (fun h=>?_) (fun h=>?_)|refine sP 34 (fun h=>?_) (fun h=>?_)|refine qR ?_|refine qS ?_|exact ⟨rfl,rfl⟩|fail)
end Go.Proofs.Ythgmdlmeeebfiaa
end
section
namespace Go.Proofs.Ythgmdlmeeebfiaa
open Go Go.Tum Go.Tum.Base
set_option maxRecDepth 4000
def PairK (l:List Ev) (o:List Int) (i:Nat):Prop:=∀ a b:Nat,a<i→a<b→∀ x y,o[a]?=some x→o[b]?=some y→na l x y
theorem pairK_all {l:List Ev} {o:List Int} (h:PairK l o o.length):o.Pairwise (na l):=by
 rw [List.pairwise_iff_getElem]
 intro i j hi hj hij
 exact h i j hi hij _ _ (List.getElem?_eq_getElem hi) (List.getElem?_eq_getElem hj)
theorem pairK_of {l:List Ev} {o:List Int} (h:o.Pairwise (na l)) {a b:Nat} {x y:Int} (hab:a<b) (hx:o[a]?=some x) (hy:o[b]?=some y):na l x y:=by
 rw [List.pairwise_iff_getElem] at h
 obtain ⟨h1,e1⟩:=List.getElem?_eq_some_iff.1 hx
 obtain ⟨h2,e2⟩:=List.getElem?_eq_some_iff.1 hy
 have:=h a b h1 h2 hab
 rwa [e1,e2] at this
theorem nat_of {o:List Int} {m i:Nat} (h:∀ x∈o,0≤x∧x<(m:Int)) (hi:i<o.length):∃ k:Nat,k<m∧o[i]?=some (k:Int):=by
 have:=h o[i] (List.getElem_mem hi)
 exact ⟨o[i].toNat,by omega,by rw [List.getElem?_eq_getElem hi]; congr 1; omega⟩
abbrev RVB (l:List Ev) (xs:List Int) (s:Sp):LH:=[EVB l,.gro 1 (rowsC intC xs),.cells 0 (spC 3 4 s)]++spB s
theorem acc_snoc {l:List Ev} {s0 s:Sp} {p:List Int} {k:Int} (h:acc l s0 p=true) (hs:s=runS l s0 p) (hm:mayB s (evA l k).cl=true):acc l s0 (p++[k])=true:=by
 rw [acc_append,h,← hs]; simp [acc,hm]
set_option maxHeartbeats 4000000 in
theorem right_tr (l:List Ev) (hl:l.length≤20) (ma ar:Int) (hm:0≤ma∧ma≤8191) (ha:0≤ar∧ar≤8191) (xs:List Int) (n c:Nat) (hx:xs.length=c) (hn:n≤c) (hc:c≤1000) :
  Tr Try.prog 26 [.agg ⟨[.int .i64 ma,.int .i64 ar]⟩,slB 0 l.length,slC 1 n c] [EVB l,.gro 1 (rowsC intC xs)] (fun v K=>v=.bool (decide (RP l ⟨ma,ar,[],0,[],0⟩ (xs.take n)))∧K=[EVB l,.gro 1 (rowsC intC xs)]):=by
 have hW:=whole_tr xs n c hx hn hc l.length
 have hN:=new_tr ma ar
 have hln:(xs.take n).length=n:=by rw [List.length_take]; omega
 refine Tr.of row_linear_Right_ok rfl ?_
 cases hw:wholeB (xs.take n) l.length
 ·have e:¬ RP l ⟨ma,ar,[],0,[],0⟩ (xs.take n):=fun h=>by
   have:=whole_iff.2 ⟨h.1,h.2.1.1,h.2.1.2.1⟩
   rw [hw] at this; cases this
  rw [hw] at hW
  rw [decide_eq_false e]
  repeat' (first|refine qN ?_|refine dN ?_|refine d0 ?_|refine qB ?_|refine qT ?_|refine qU ?_|refine qL ?_|refine qK ?_|refine qF ?_|refine qE ?_|refine iF (fun h=>?_) (fun h=>?_)|refine aX ?_|refine cP [1] (hW) ?_|refine aA ?_|refine aI (hn:=?_)|refine qR ?_|refine qS ?_|exact ⟨rfl,rfl⟩|fail)
  exact L_ret (RetQ.pick [0,1] rfl rfl rfl rfl ⟨rfl,rfl⟩)
 ·rw [hw] at hW
  obtain ⟨w1,w2,w3⟩:=whole_iff.1 hw
  rw [hln] at w1
  subst w1
  repeat' (first|refine qN ?_|refine dN ?_|refine dR ?_|refine d0 ?_|refine qB ?_|refine rT ?_|refine qT ?_|refine qU ?_|refine qL ?_|refine qK ?_|refine qF ?_|refine qE ?_|refine iF (fun h=>?_) (fun h=>?_)|refine aX ?_|refine cP [1] (hW) ?_|refine cP [] (hN) ?_|refine aA ?_|refine aI (hn:=?_)|refine qR ?_|refine qS ?_|exact ⟨rfl,rfl⟩|fail)
  refine LWp.nilC 3 2 2 rfl rfl (LWp.nilC 3 3 1 rfl rfl ?_)
  generalize ho:xs.take l.length=o at *
  have hxo:∀ (i:Nat) (x:Int),o[i]?=some x→xs[i]?=some x:=fun i x h=>by
   have:=(List.getElem?_eq_some_iff.1 h).1
   rw [← ho,List.getElem?_take_of_lt (by omega)] at h; exact h
  clear hW hN hw
  refine LWp.pick [1,2,7,21,22,23] [0,1,3,4,5] rfl rfl rfl (L_loop (fun q E L=>∃ (i:Nat) (s w:Sp),q=l.length-i∧i≤l.length∧PI i s w∧acc l ⟨ma,ar,[],0,[],0⟩ (o.take i)=true∧s=runS l ⟨ma,ar,[],0,[],0⟩ (o.take i)∧PairK l o i∧E=[(1,slB 0 l.length),(2,slC 1 l.length c),(7,pp 2),(21,slC 1 l.length c),(22,.int .i64 l.length),(23,.int .i64 i)]∧L=RVB l xs s) l.length ⟨0,_,_,rfl,by omega,PI.zero hm ha,rfl,rfl,fun a b h=>by omega,rfl,rfl⟩ ?_)
  rintro q _ _ ⟨i,s,w,rfl,hi,hP,hac,hst,hpk,rfl,rfl⟩
  first|refine L_seq (L_rs (S_done [] rfl (Nx.goL (iF (fun h=>L_skip (Nx.goL ?_)) (fun h=>L_exit ?_)))))|refine L_rs (S_done [] rfl (Nx.goL (L_seq (iF (fun h=>L_skip (Nx.goL ?_)) (fun h=>L_exit ?_)))))
  ·have hik:i<l.length:=by omega
   obtain ⟨k,hk,hok⟩:=nat_of w2 (by omega:i<o.length)
   have hxk:=hxo i _ hok
   have hev:=evA_at hk
   have htk:o.take (i+1)=o.take i++[(k:Int)]:=by rw [List.take_add_one,hok]; rfl
   repeat' (first|refine qN ?_|refine dN ?_|refine dR ?_|refine d0 ?_|refine qB ?_|refine rT ?_|refine qT ?_|refine qU ?_|refine qL ?_|refine qK ?_|refine qF ?_|refine qE ?_|refine iF (fun h=>?_) (fun h=>?_)|refine aX ?_|refine S_Q [] rfl rfl (QY.ldI rfl rfl hxk) ?_|refine S_Q [] rfl rfl (QY.slc0 (lo':=i+1) (hi':=l.length) rfl rfl rfl (by omega) (by omega)) ?_|refine aA ?_|refine aI (hn:=?_)|refine qR ?_|refine qS ?_|exact ⟨rfl,rfl⟩|fail)
   refine LWp.pick [1,2,7,8,9,21,22,23,31,32,33] [0,1,2,3,4] rfl rfl rfl (L_loop (fun q E L=>∃ m:Nat,q=l.length-(i+1)-m∧m≤l.length-(i+1)∧(∀ b y,i<b→b<i+1+m→o[b]?=some y→na l k y)∧E=[(1,slB 0 l.length),(2,slC 1 l.length c),(7,pp 2),(8,.int .i64 i),(9,.int .i64 k),(21,slC 1 l.length c),(22,.int .i64 l.length),(23,.int .i64 i),(31,.slice (some ⟨1,(i+1)*1,none⟩) (l.length-(i+1)) (c-(i+1))),(32,.int .i64 ((l.length-(i+1):Nat):Int)),(33,.int .i64 m)]∧L=RVB l xs s) (l.length-(i+1)) ⟨0,rfl,by omega,fun b y h1 h2=>by omega,rfl,rfl⟩ ?_)
   rintro q _ _ ⟨m,rfl,hmi,hin,rfl,rfl⟩
   first|refine L_seq (L_rs (S_done [] rfl (Nx.goL (iF (fun h=>L_skip (Nx.goL ?_)) (fun h=>L_exit ?_)))))|refine L_rs (S_done [] rfl (Nx.goL (L_seq (iF (fun h=>L_skip (Nx.goL ?_)) (fun h=>L_exit ?_)))))
   ·have hml:i+1+m<l.length:=by omega
    obtain ⟨k2,hk2,hok2⟩:=nat_of w2 (by omega:i+1+m<o.length)
    have hxk2:=hxo _ _ hok2
    have hev2:=evA_at hk2
    have hA:=ahead_tr (evA l k2) (evA l k)
    cases hq:aheadB (evA l k2) (evA l k)
    ·rw [hq] at hA
     repeat' (first|refine qN ?_|refine dN ?_|refine d0 ?_|refine qB ?_|refine qT ?_|refine qU ?_|refine qL ?_|refine qK ?_|refine qF ?_|refine qE ?_|refine iF (fun h=>?_) (fun h=>?_)|refine aX ?_|refine S_Q [] rfl rfl (QY.idxO (k:=m) rfl rfl (by omega)) ?_|refine S_Q [] rfl rfl (QY.ldI (k:=i+1+m) (congrArg (fun z=>some (Value.pointer (some ⟨1,z,none⟩))) (by omega:(i+1)*1+m*1=(i+1+m)*1)) rfl hxk2) ?_|refine S_Q [] rfl rfl (QY.ldRow Ev.ok rfl rfl hev (by decide)) ?_|refine S_Q [] rfl rfl (QY.ldRow Ev.ok rfl rfl hev2 (by decide)) ?_|refine cP [] (hA) ?_|refine aA ?_|refine aI (hn:=?_)|refine qR ?_|refine qS ?_|exact ⟨rfl,rfl⟩|fail)
     exact Nx.pick [1,2,7,8,9,21,22,23,31,32,33] [0,1,2,3,4] rfl rfl rfl ⟨l.length-(i+1)-(m+1),by omega,m+1,rfl,by omega,fun b y h1 h2 h3=>(by
      by_cases hb:b<i+1+m
      ·exact hin b y h1 hb h3
      ·obtain rfl:b=i+1+m:=by omega
       rw [hok2] at h3; cases h3; exact hq),rfl,rfl⟩
    ·rw [hq] at hA
     have e:¬ RP l ⟨ma,ar,[],0,[],0⟩ o:=fun h=>by
      have:=pairK_of h.2.1.2.2 (by omega:i<i+1+m) hok hok2
      unfold na at this; rw [hq] at this; cases this
     rw [decide_eq_false e]
     repeat' (first|refine qN ?_|refine dN ?_|refine d0 ?_|refine qB ?_|refine qT ?_|refine qU ?_|refine qL ?_|refine qK ?_|refine qF ?_|refine qE ?_|refine iF (fun h=>?_) (fun h=>?_)|refine aX ?_|refine S_Q [] rfl rfl (QY.idxO (k:=m) rfl rfl (by omega)) ?_|refine S_Q [] rfl rfl (QY.ldI (k:=i+1+m) (congrArg (fun z=>some (Value.pointer (some ⟨1,z,none⟩))) (by omega:(i+1)*1+m*1=(i+1+m)*1)) rfl hxk2) ?_|refine S_Q [] rfl rfl (QY.ldRow Ev.ok rfl rfl hev (by decide)) ?_|refine S_Q [] rfl rfl (QY.ldRow Ev.ok rfl rfl hev2 (by decide)) ?_|refine cP [] (hA) ?_|refine aA ?_|refine aI (hn:=?_)|refine qR ?_|refine qS ?_|exact ⟨rfl,rfl⟩|fail)
     exact L_ret (RetQ.pick [0,1] rfl rfl rfl rfl ⟨rfl,rfl⟩)
   ·refine Nx.goL ?_
    obtain rfl:m=l.length-(i+1):=by omega
    have hpk2:PairK l o (i+1):=fun a b h1 h2 x y h3 h4=>by
     by_cases h5:a<i
     ·exact hpk a b h5 h2 x y h3 h4
     ·obtain rfl:a=i:=by omega
      rw [hok] at h3; cases h3
      have:=(List.getElem?_eq_some_iff.1 h4).1
      exact hin b y h2 (by omega) h4
    have hC:=lcall_tr (evA l k)
    cases hmb:mayB s (evA l k).cl
    ·have hX:=next_no s (hP.ok (by omega)) _ hmb
     have e:¬ RP l ⟨ma,ar,[],0,[],0⟩ o:=fun h=>by
      have h2:=h.2.2
      have hsp:o=o.take i++(k:Int)::o.drop (i+1):=by
       have h3:=List.take_append_drop (i+1) o
       rw [htk,List.append_assoc] at h3
       exact h3.symm
      rw [hsp,acc_append,← hst] at h2
      simp [acc,hmb] at h2
     rw [decide_eq_false e]
     repeat' (first|refine qN ?_|refine dN ?_|refine d0 ?_|refine qB ?_|refine qT ?_|refine qU ?_|refine qL ?_|refine qK ?_|refine qF ?_|refine qE ?_|refine iF (fun h=>?_) (fun h=>?_)|refine aX ?_|refine S_Q [] rfl rfl (QY.idxN (k:=k) rfl rfl hk) ?_|refine S_Q [] rfl rfl (QY.ldRow Ev.ok rfl rfl hev (by decide)) ?_|(refine cW [] (hC) ?_; conv=>whnf)|(refine cW [3,4] (hX) ?_; conv=>whnf)|(refine S_Ed [] rfl rfl (EWd.new rfl) rfl rfl rfl ?_; rintro _ _ ⟨rfl,rfl⟩; refine ⟨(by repeat' (first|exact trivial|refine ⟨⟨qsafe_ok (st:=[]) rfl,Sure.of rfl⟩,?_⟩|refine ⟨.inl rfl,?_⟩|refine ⟨.inr ⟨qsafe_ok (st:=[]) rfl,Sure.of rfl⟩,?_⟩|refine ⟨⟨qsafe_ok (st:=[]) rfl,Sure.slice (by omega)⟩,?_⟩|refine ⟨.inr ⟨qsafe_ok (st:=[]) rfl,Sure.slice (by omega)⟩,?_⟩|refine ⟨.inr ⟨QY.neqB rfl (by kernel_rfl) rfl rfl,Sure.of rfl⟩,?_⟩|refine ⟨.inr ⟨QY.eqlB rfl (by kernel_rfl) rfl rfl,Sure.of rfl⟩,?_⟩|refine ⟨.inr ⟨QY.ldRow Ev.ok rfl rfl hev (by decide),Sure.of rfl⟩,?_⟩ | fail)),LSt.nf ?_⟩; conv=>whnf)|refine L_rT ?_|refine L_regT ?_|refine P_lin rfl ?_|refine P_A [] rfl ?_ ?_|refine P_Q [] rfl rfl (QY.idxN (k:=k) rfl rfl hk) ?_|refine P_Q [] rfl rfl (QY.ldRow Ev.ok rfl rfl hev (by decide)) ?_|(refine P_Ed [] rfl rfl (EWd.callF [] (hC) rfl rfl (by decide) (by repeat' (first|exact trivial|refine ⟨rfl,?_⟩ | fail)) rfl rfl rfl) rfl rfl rfl ?_; rintro _ _ ⟨rfl,rfl⟩; refine ⟨(by repeat' (first|exact trivial|refine ⟨⟨qsafe_ok (st:=[]) rfl,Sure.of rfl⟩,?_⟩|refine ⟨.inl rfl,?_⟩|refine ⟨.inr ⟨qsafe_ok (st:=[]) rfl,Sure.of rfl⟩,?_⟩|refine ⟨⟨qsafe_ok (st:=[]) rfl,Sure.slice (by omega)⟩,?_⟩|refine ⟨.inr ⟨qsafe_ok (st:=[]) rfl,Sure.slice (by omega)⟩,?_⟩|refine ⟨.inr ⟨QY.neqB rfl (by kernel_rfl) rfl rfl,Sure.of rfl⟩,?_⟩|refine ⟨.inr ⟨QY.eqlB rfl (by kernel_rfl) rfl rfl,Sure.of rfl⟩,?_⟩|refine ⟨.inr ⟨QY.ldRow Ev.ok rfl rfl hev (by decide),Sure.of rfl⟩,?_⟩ | fail)),LPt.nf ?_⟩; conv=>whnf)|(refine P_Ed [] rfl rfl (EWd.callF [3,4] (hX) rfl rfl (by decide) (by repeat' (first|exact trivial|refine ⟨rfl,?_⟩ | fail)) rfl rfl rfl) rfl rfl rfl ?_; rintro _ _ ⟨rfl,rfl⟩; refine ⟨(by repeat' (first|exact trivial|refine ⟨⟨qsafe_ok (st:=[]) rfl,Sure.of rfl⟩,?_⟩|refine ⟨.inl rfl,?_⟩|refine ⟨.inr ⟨qsafe_ok (st:=[]) rfl,Sure.of rfl⟩,?_⟩|refine ⟨⟨qsafe_ok (st:=[]) rfl,Sure.slice (by omega)⟩,?_⟩|refine ⟨.inr ⟨qsafe_ok (st:=[]) rfl,Sure.slice (by omega)⟩,?_⟩|refine ⟨.inr ⟨QY.neqB rfl (by kernel_rfl) rfl rfl,Sure.of rfl⟩,?_⟩|refine ⟨.inr ⟨QY.eqlB rfl (by kernel_rfl) rfl rfl,Sure.of rfl⟩,?_⟩|refine ⟨.inr ⟨QY.ldRow Ev.ok rfl rfl hev (by decide),Sure.of rfl⟩,?_⟩ | fail)),LPt.nf ?_⟩; conv=>whnf)|(refine P_Ed [] rfl rfl (EWd.new rfl) rfl rfl rfl ?_; rintro _ _ ⟨rfl,rfl⟩; refine ⟨(by repeat' (first|exact trivial|refine ⟨⟨qsafe_ok (st:=[]) rfl,Sure.of rfl⟩,?_⟩|refine ⟨.inl rfl,?_⟩|refine ⟨.inr ⟨qsafe_ok (st:=[]) rfl,Sure.of rfl⟩,?_⟩|refine ⟨⟨qsafe_ok (st:=[]) rfl,Sure.slice (by omega)⟩,?_⟩|refine ⟨.inr ⟨qsafe_ok (st:=[]) rfl,Sure.slice (by omega)⟩,?_⟩|refine ⟨.inr ⟨QY.neqB rfl (by kernel_rfl) rfl rfl,Sure.of rfl⟩,?_⟩|refine ⟨.inr ⟨QY.eqlB rfl (by kernel_rfl) rfl rfl,Sure.of rfl⟩,?_⟩|refine ⟨.inr ⟨QY.ldRow Ev.ok rfl rfl hev (by decide),Sure.of rfl⟩,?_⟩ | fail)),LPt.nf ?_⟩; conv=>whnf)|refine aA ?_|refine aI (hn:=?_)|refine qR ?_|refine qS ?_|exact ⟨rfl,rfl⟩|fail)
     all_goals exact L_ret (RetQ.pick [0,1] rfl rfl rfl rfl ⟨rfl,rfl⟩)
    ·have hX:=next_tr s (hP.ok (by omega)) _ hmb
     have hP2:=hP.next hmb
     have hac2:acc l ⟨ma,ar,[],0,[],0⟩ (o.take (i+1))=true:=by rw [htk]; exact acc_snoc hac hst hmb
     have hst2:nextS s (evA l k).cl=runS l ⟨ma,ar,[],0,[],0⟩ (o.take (i+1)):=by rw [htk,runS_snoc,← hst]
     generalize nextS s (evA l k).cl=s' at *
     generalize rnextS w (evA l k).cl=w' at *
     repeat' (first|refine qN ?_|refine dN ?_|refine d0 ?_|refine qB ?_|refine qT ?_|refine qU ?_|refine qL ?_|refine qK ?_|refine qF ?_|refine qE ?_|refine iF (fun h=>?_) (fun h=>?_)|refine aX ?_|refine S_Q [] rfl rfl (QY.idxN (k:=k) rfl rfl hk) ?_|refine S_Q [] rfl rfl (QY.ldRow Ev.ok rfl rfl hev (by decide)) ?_|(refine cW [] (hC) ?_; conv=>whnf)|(refine cW [3,4] (hX) ?_; conv=>whnf)|(refine S_Ed [] rfl rfl (EWd.new rfl) rfl rfl rfl ?_; rintro _ _ ⟨rfl,rfl⟩; refine ⟨(by repeat' (first|exact trivial|refine ⟨⟨qsafe_ok (st:=[]) rfl,Sure.of rfl⟩,?_⟩|refine ⟨.inl rfl,?_⟩|refine ⟨.inr ⟨qsafe_ok (st:=[]) rfl,Sure.of rfl⟩,?_⟩|refine ⟨⟨qsafe_ok (st:=[]) rfl,Sure.slice (by omega)⟩,?_⟩|refine ⟨.inr ⟨qsafe_ok (st:=[]) rfl,Sure.slice (by omega)⟩,?_⟩|refine ⟨.inr ⟨QY.neqB rfl (by kernel_rfl) rfl rfl,Sure.of rfl⟩,?_⟩|refine ⟨.inr ⟨QY.eqlB rfl (by kernel_rfl) rfl rfl,Sure.of rfl⟩,?_⟩|refine ⟨.inr ⟨QY.ldRow Ev.ok rfl rfl hev (by decide),Sure.of rfl⟩,?_⟩ | fail)),LSt.nf ?_⟩; conv=>whnf)|refine L_rT ?_|refine L_regT ?_|refine P_lin rfl ?_|refine P_A [] rfl ?_ ?_|refine P_Q [] rfl rfl (QY.idxN (k:=k) rfl rfl hk) ?_|refine P_Q [] rfl rfl (QY.ldRow Ev.ok rfl rfl hev (by decide)) ?_|(refine P_Ed [] rfl rfl (EWd.callF [] (hC) rfl rfl (by decide) (by repeat' (first|exact trivial|refine ⟨rfl,?_⟩ | fail)) rfl rfl rfl) rfl rfl rfl ?_; rintro _ _ ⟨rfl,rfl⟩; refine ⟨(by repeat' (first|exact trivial|refine ⟨⟨qsafe_ok (st:=[]) rfl,Sure.of rfl⟩,?_⟩|refine ⟨.inl rfl,?_⟩|refine ⟨.inr ⟨qsafe_ok (st:=[]) rfl,Sure.of rfl⟩,?_⟩|refine ⟨⟨qsafe_ok (st:=[]) rfl,Sure.slice (by omega)⟩,?_⟩|refine ⟨.inr ⟨qsafe_ok (st:=[]) rfl,Sure.slice (by omega)⟩,?_⟩|refine ⟨.inr ⟨QY.neqB rfl (by kernel_rfl) rfl rfl,Sure.of rfl⟩,?_⟩|refine ⟨.inr ⟨QY.eqlB rfl (by kernel_rfl) rfl rfl,Sure.of rfl⟩,?_⟩|refine ⟨.inr ⟨QY.ldRow Ev.ok rfl rfl hev (by decide),Sure.of rfl⟩,?_⟩ | fail)),LPt.nf ?_⟩; conv=>whnf)|(refine P_Ed [] rfl rfl (EWd.callF [3,4] (hX) rfl rfl (by decide) (by repeat' (first|exact trivial|refine ⟨rfl,?_⟩ | fail)) rfl rfl rfl) rfl rfl rfl ?_; rintro _ _ ⟨rfl,rfl⟩; refine ⟨(by repeat' (first|exact trivial|refine ⟨⟨qsafe_ok (st:=[]) rfl,Sure.of rfl⟩,?_⟩|refine ⟨.inl rfl,?_⟩|refine ⟨.inr ⟨qsafe_ok (st:=[]) rfl,Sure.of rfl⟩,?_⟩|refine ⟨⟨qsafe_ok (st:=[]) rfl,Sure.slice (by omega)⟩,?_⟩|refine ⟨.inr ⟨qsafe_ok (st:=[]) rfl,Sure.slice (by omega)⟩,?_⟩|refine ⟨.inr ⟨QY.neqB rfl (by kernel_rfl) rfl rfl,Sure.of rfl⟩,?_⟩|refine ⟨.inr ⟨QY.eqlB rfl (by kernel_rfl) rfl rfl,Sure.of rfl⟩,?_⟩|refine ⟨.inr ⟨QY.ldRow Ev.ok rfl rfl hev (by decide),Sure.of rfl⟩,?_⟩ | fail)),LPt.nf ?_⟩; conv=>whnf)|(refine P_Ed [] rfl rfl (EWd.new rfl) rfl rfl rfl ?_; rintro _ _ ⟨rfl,rfl⟩; refine ⟨(by repeat' (first|exact trivial|refine ⟨⟨qsafe_ok (st:=[]) rfl,Sure.of rfl⟩,?_⟩|refine ⟨.inl rfl,?_⟩|refine ⟨.inr ⟨qsafe_ok (st:=[]) rfl,Sure.of rfl⟩,?_⟩|refine ⟨⟨qsafe_ok (st:=[]) rfl,Sure.slice (by omega)⟩,?_⟩|refine ⟨.inr ⟨qsafe_ok (st:=[]) rfl,Sure.slice (by omega)⟩,?_⟩|refine ⟨.inr ⟨QY.neqB rfl (by kernel_rfl) rfl rfl,Sure.of rfl⟩,?_⟩|refine ⟨.inr ⟨QY.eqlB rfl (by kernel_rfl) rfl rfl,Sure.of rfl⟩,?_⟩|refine ⟨.inr ⟨QY.ldRow Ev.ok rfl rfl hev (by decide),Sure.of rfl⟩,?_⟩ | fail)),LPt.nf ?_⟩; conv=>whnf)|refine aA ?_|refine aI (hn:=?_)|refine qR ?_|refine qS ?_|exact ⟨rfl,rfl⟩|fail)
     all_goals first
      |exact Nx.pick [1,2,7,21,22,23] [0,1,2,6,7] rfl rfl rfl ⟨l.length-(i+1),by omega,i+1,s',w',rfl,by omega,hP2,hac2,hst2,hpk2,rfl,rfl⟩
      |exact Nx.pick [1,2,7,21,22,23] [0,1,2,5,6] rfl rfl rfl ⟨l.length-(i+1),by omega,i+1,s',w',rfl,by omega,hP2,hac2,hst2,hpk2,rfl,rfl⟩
  ·refine Nx.goL ?_
   obtain rfl:i=l.length:=by omega
   rw [show l.length=o.length by omega] at hpk
   rw [List.take_of_length_le (by omega)] at hac
   have e:RP l ⟨ma,ar,[],0,[],0⟩ o:=⟨by omega,⟨w2,w3,pairK_all hpk⟩,hac⟩
   rw [decide_eq_true e]
   repeat' (first|refine qN ?_|refine dN ?_|refine d0 ?_|refine qB ?_|refine qT ?_|refine qU ?_|refine qL ?_|refine qK ?_|refine qF ?_|refine qE ?_|refine iF (fun h=>?_) (fun h=>?_)|refine aX ?_|refine aA ?_|refine aI (hn:=?_)|refine qR ?_|refine qS ?_|exact ⟨rfl,rfl⟩|fail)
   exact L_ret (RetQ.pick [0,1] rfl rfl rfl rfl ⟨rfl,rfl⟩)
end Go.Proofs.Ythgmdlmeeebfiaa
end
section
namespace Go.Tum
open Go
section
variable {P:Program} {n0:NA} {l l1:Env} {L L1 Lc:LH} {T T1:Taken} {K:Env→LH→Prop} {ss r:List Step} {d:Option Nat} {g:Option (Nat × Bool)} {pend:List Nat}
theorem cX {ι:Type} {V V2:ι→Value} {B K2:ι→LH} {C:ι→Prop} {keep:List Nat} {f:FuncId} {args:List Operand} {vs us:List Value} (φ:List Nat) (ht:TrK P [] keep f us Lc (fun v K=>∃ i,C i∧v=V i∧K=B i)) (hn:∀ i,C i→nE (dpush d (V2 i) l1) fun l=>nL (K2 i) fun L=>LSt P n0 r K l T1 L) (h:arun [] ss l T L=(.e d g (.call f args) pend::r,l1,T1,L1):=by exact rfl) (hg:gw g l1=some true:=by exact rfl)
  (hv:lvs l1 args=some vs:=by exact rfl) (he:us.map (rnV L1.length φ)=vs:=by exact rfl) (h1:φ.Nodup:=by decide) (h2:partL L1 φ φ Lc:=by repeat' (first|exact trivial|refine ⟨rfl,?_⟩ | fail)) (hm:nmL (dropped keep 0 φ) φ 0 L1=true:=by kernel_rfl) (h3:∀ i,rnV (L1.length+(B i).length) (phi2 φ L1.length (B i)) (V i)=V2 i:=by exact fun _=>rfl) (h4:∀ i,joinQ φ L1 (B i)=K2 i:=by exact fun _=>rfl)
  (h5:disj (dropped keep 0 φ) n0.keep=true:=by kernel_rfl) (h6:nmE (dropped keep 0 φ) l1=true:=by kernel_rfl) (h7:nmT (dropped keep 0 φ) T1=true:=by kernel_rfl)
  (hc:∀ i,chkG P n0 φ T1 L1 (K2 i) pend:=by intro _; repeat' (first|exact trivial|refine ⟨.inl rfl,?_⟩|refine ⟨.inr ⟨qsafe_ok (st:=[]) rfl,Sure.of rfl⟩,?_⟩|refine ⟨.inr ⟨qsafe_ok (st:=[]) rfl,Sure.slice (by omega)⟩,?_⟩ | fail)):LSt P n0 ss K l T L :=
 S_Ed [] h hg ((EWd.call φ ht hv he (Part.of h1 h2) handed_nil hm).mono fun v K ⟨_,_,⟨i,hi,e1,e2⟩,e3,e4⟩=>(by subst e1; subst e2; exact ⟨i,hi,e3.trans (h3 i),e4.trans ((joinQ_eq h1).trans (h4 i))⟩:∃ i,C i∧v=V2 i∧K=K2 i)) h5 h6 h7 (by rintro _ _ ⟨i,hi,rfl,rfl⟩; exact ⟨hc i,LSt.nf (hn i hi)⟩)
theorem EW.into {l:Env} {L K1 K2:LH} {e:EOp} {a:Value} (h:EW P n0 L l e (fun v K=>v=a∧K=K1)) (hw:∀ X w0 E w,Rep X w0 E K1 w→Rep X w0 E K2 w):EW P n0 L l e (fun v K=>v=a∧K=K2):=fun X w0 E0 w E l' Kf h0 hE hR hl hK =>
 h X w0 E0 w E l' Kf h0 hE hR hl fun w' E' v' v L' ⟨e1,e2⟩ h1 h2 h3=>hK w' E' v' v K2 ⟨e1,rfl⟩ h1 (hw _ _ _ _ (e2 ▸ h2)) h3
theorem cAr {A:Args} {v1 v2:Value} {L2 K2:LH} {f:FuncId} {args:List Operand} {vs us:List Value} (φ:List Nat) (ht:TrK P A (seqN 0 Lc.length) f us Lc (fun v K=>v=v1∧K=L2)) (hd:handed φ (seqN 0 Lc.length) n0.A A) (hn:nE (dpush d v2 l1) fun l=>nL K2 fun L=>LSt P n0 r K l T1 L) (h:arun [] ss l T L=(.e d g (.call f args) pend::r,l1,T1,L1):=by exact rfl) (hg:gw g l1=some true:=by exact rfl)
  (hv:lvs l1 args=some vs:=by exact rfl) (he:us.map (rnV L1.length φ)=vs:=by exact rfl) (h1:φ.Nodup:=by decide) (h2:partL L1 φ φ Lc:=by repeat' (first|exact trivial|refine ⟨rfl,?_⟩ | fail)) (h3:rnV (L1.length+L2.length) (phi2 φ L1.length L2) v1=v2:=by exact rfl) (h4:joinQ φ L1 L2=K2:=by exact rfl)
  (hc:chkP P n0 T1 K2 pend:=by repeat' (first|exact trivial|refine ⟨⟨qsafe_ok (st:=[]) rfl,Sure.of rfl⟩,?_⟩ | fail)):LSt P n0 ss K l T L :=
 S_E [] h hg ((EW.callA φ ht hv he (Part.of h1 h2) hd).mono fun v K ⟨v',L',⟨h3',h4'⟩,h5',h6'⟩=>(by subst h3'; subst h4'; exact ⟨h5'.trans h3,h6'.trans ((joinQ_eq h1).trans h4)⟩:v=v2∧K=K2)) (by rintro _ _ ⟨rfl,rfl⟩; exact ⟨hc,LSt.nf hn⟩)
def bsParts (l:Env):List (Nat × Operand)→Option (List (Nat × Value))
 | []=>some []
 | (i,x)::r=>match lv l x,bsParts l r with
  | some u,some us=>bif sure u && still u then some ((i,u)::us) else none
  | _,_=>none
theorem bsParts_ok {E:Emb} {l l':Env} {ρ:Operand→Value} (hl:ER E l l') (ha:Agr l' ρ):∀ (ps:List (Nat × Operand)) (us:List (Nat × Value)),bsParts l ps=some us→ps.map (fun y=>(y.1,ρ y.2))=us
 | [],us,h=>by cases h; rfl
 | (i,x)::r,us,h=>by
  simp only [bsParts] at h
  cases hx:lv l x with
  | none=>rw [hx] at h; cases h
  | some u =>
   cases hr:bsParts l r with
   | none=>rw [hx,hr] at h; cases h
   | some vs =>
    rw [hx,hr] at h
    simp only at h
    cases hs:sure u && still u
    ·rw [hs] at h; cases h
    ·rw [hs] at h; cases h
     simp only [Bool.and_eq_true] at hs
     obtain ⟨v',h1,h2⟩:=lv_ev hl hx
     have h3:=VR.fn hs.1 h2 (VR.still hs.2)
     subst h3
     rw [List.map_cons,bsParts_ok hl ha r vs hr,ha x _ h1]
theorem EW.bsL {l:Env} {L:LH} {o:Oper} {t e:TypeId} {n sz:Nat} {ps:List (Nat × Operand)} {us:List (Nat × Value)} {ie:TypeInfo} {z:Value} {cs:List Value} (ho:o.op=.buildSlice t n ⟨ps⟩) (ht:P.underlying t=some (.slice e)) (he:P.info? e=some ie) (hz:ie.zero=some z) (hsz:ie.size=sz) (hn:0<n*sz∧n*sz≤16777216) (hu:bsParts l ps=some us)
  (hc:Instr.fill (fun i=>some (i*sz,sz)) ((Array.range (n*sz)).map (z.cells[· % z.cells.size]!)) us=some ⟨cs⟩) (hs:cs.all stillS=true) :
  EW P n0 L l (.raw o) (fun v K=>v=.slice (some ⟨L.length,0,none⟩) n n∧K=L++[.cells 0 cs]):=by
 subst hsz
 intro X w0 E0 w E l' Kf h0 hE hR hl hK ρ wr ha hsim
 obtain ⟨d,op,ty,pos,af,g⟩:=o
 simp only at ho
 subst ho
 have hps:=bsParts_ok hl ha ps us hu
 refine Eff.value (w':=wr.alloc (.cells ⟨cs⟩ e)) (v:=.slice (some ⟨wr.heap.size,0,none⟩) n n) ?_ ?_
 ·have hzv:(zeroValue e).run P wr=.ok z wr:=by simp [zeroValue,typeInfo_run he,hz,go_sem]
  have hb:(Instr.buildSlice t n ⟨us⟩).run P wr=.ok (.slice (some ⟨wr.heap.size,0,none⟩) n n) (wr.alloc (.cells ⟨cs⟩ e)):=by
   unfold Instr.buildSlice
   simp only [Sem.run_bind,run_underlying ht,Result.andThen_ok,sizeOf_run he,if_neg (show ¬ (n*ie.size > 2 ^ 24) by omega),Sem.run_pure,if_neg (show ¬ n*ie.size=0 by omega),hzv]
   rw [hc]
   rfl
  have hm:(⟨ps⟩:Array (Nat × Operand)).map (fun (y:Nat × Operand)=>(y.1,ρ y.2))=⟨us⟩:=by rw [← hps]; simp
  show Sem.run P (do let r ← Instr.buildSlice t n ((⟨ps⟩:Array (Nat × Operand)).map (fun (y:Nat × Operand)=>(y.1,ρ y.2))); pure (Next.value r)) wr=_
  rw [hm,Sem.run_bind,hb]
  rfl
 ·refine ⟨_,hsim.push _,?_⟩
  rw [hsim.heap]
  exact hK _ _ _ _ _ ⟨rfl,rfl⟩ (Ext.push E _) (new_rep hR (cs:=⟨cs⟩) (L2.self fun a ha=>SR.still (List.all_eq_true.1 hs a ha))) ⟨rfl,_,hR.last _,.inl ⟨_,_,rfl,.inl ⟨by simp,rfl⟩⟩⟩
theorem EW.wk {L L1:LH} {l:Env} {e:EOp} {R:Value→LH→Prop} (hw:∀ X w0 E w,Rep X w0 E L w→Rep X w0 E L1 w) (h:EW P n0 L1 l e R):EW P n0 L l e R:=fun X w0 E0 w E l' Kf h0 hE hR hl hK=>h X w0 E0 w E l' Kf h0 hE (hw _ _ _ _ hR) hl hK
theorem EW.cpy0 {α:Type} {g:α→List Value} {sz:Nat} {o:Oper} {s x:Operand} {sT xT:TypeId} {bytes b bx ox i m cx:Nat} {ys:List α} (zs:List α) (h:RowOk g sz) (ho:o.op=.call ⟨.builtin .append,⟨[s,x]⟩,⟨[sT,xT]⟩⟩) (ht:appT P sT xT=some (sz,bytes)) (hs:lv l s=some (.slice (some ⟨b,0,none⟩) 0 0)) (hx:lv l x=some (.slice (some ⟨bx,ox,none⟩) m cx))
  (hb:L[b]?=some (.cells 0 [])) (hbx:L[bx]?=some (.gro sz (rowsC g ys))) (hox:ox=i*sz) (hm:i+m≤ys.length) (hzs:(ys.drop i).take m=zs) (hz:0<sz) (hbd:(2*m+2048)*bytes≤281474976710656) :
  EW P n0 L l (.raw o) (fun v K=>v=.slice (some ⟨L.length,0,none⟩) m m∧K=L.set b .dead++[.gro sz (rowsC g zs)]):=by
 have hne:b≠bx:=by
  rintro rfl
  rw [hb] at hbx; cases hbx
 have hlt:=(List.getElem?_eq_some_iff.1 hb).1
 have:=EW.cpy (P:=P) (n0:=n0) (L:=L.set b (.gro sz [])) zs h ho ht hs hx (List.getElem?_set_self hlt) (by rw [List.getElem?_set_ne hne]; exact hbx) hox hm hzs hz hbd
 rw [List.set_set,List.length_set] at this
 exact EW.wk (wk_gro0 sz hb) this
end
end Go.Tum
end
section
namespace Go.Proofs.Ythgmdlmeeebfiaa
open Go Go.Proofs Go.Tum Go.Tum.Base
set_option maxRecDepth 4000
abbrev getI (xs:List Int):Nat→List Value:=fun i=>[.int .i64 (xs.getD i 0)]
abbrev rowI (xs:List Int):Nat→AV:=rowG 1 (getI xs)
theorem rowI_at {xs:List Int} {i:Nat} {x:Int} (h:xs[i]?=some x):rowI xs (i*1)=.v (.int .i64 x) :=
 rowG_at (sz:=1) (j:=0) rfl (by simp [getI,List.getD_eq_getElem?_getD,h])
theorem ldAI {n0:NA} {L:LH} {l:Env} {x:Operand} {k i j c:Nat} {xs:List Int} {a:Int} (hx:lv l x=some (.pointer (some ⟨k,i*1,none⟩))) (hA:n0.A[j]?=some (k,c,rowI xs)) (hc:xs.length=c) (h:xs[i]?=some a):QY Try.prog n0 L l (.ld x) (.int .i64 a) :=
 QY.ldA hx hA (by have:=(List.getElem?_eq_some_iff.1 h).1; omega) (rowI_at h) rfl
theorem intsAt_arg {X:Nat→Prop} {w0 w wr:World} {E:Emb} {L:LH} {A:Args} {keep:List Nat} {ln k n c:Nat} {sv:Value} {xs:List Int} (hA:(NA.mk ln A keep).Ok Try.prog X w0 E) (hm:(k,c,rowI xs)∈A) (hR:Rep X w0 E L w) (hs:Sim wr w) (hx:xs.length=c) (hn:n≤c) (hv:S0 E (slC k n c) sv):IntsAt wr.heap.size wr sv (xs.take n):=by
 subst hx
 obtain ⟨_,r,hr,hcase⟩:=hv
 by_cases hl:n=0
 ·subst hl
  rcases hcase with ⟨a',c',rfl,_⟩ | ⟨_,_,a',rfl⟩
  ·exact .inl ⟨_,_,rfl,rfl⟩
  ·exact .inl ⟨_,_,rfl,rfl⟩
 ·obtain ⟨c',rfl⟩:∃ c',sv=.slice (some ⟨r.1,0+r.2.1,none⟩) n c':=by
   rcases hcase with ⟨a',c',h1,⟨h2,_⟩ | ⟨h2,_⟩⟩ | ⟨h1,_⟩
   ·exact ⟨c',by rw [h1,h2]⟩
   ·exact absurd h2 hl
   ·exact absurd h1 hl
  obtain ⟨r',hr',h3,h4,h5⟩:=(hA.2.1 _ hm).2 (by show 0<xs.length; omega)
  have hr':E[k]?=some r':=hr'
  have hr:E[k]?=some r:=hr
  rw [hr] at hr'; cases hr'
  have hln:(xs.take n).length=n:=by rw [List.length_take]; omega
  refine .inr ⟨_,_,c',by rw [hln],(by rw [hs.heap]; exact Nat.lt_of_lt_of_le h3 hR.fr.size),fun j hj=>?_⟩
  rw [hln] at hj
  have hj':j<xs.length:=by omega
  obtain ⟨y,h6,h7⟩:=h5 j hj'
  have hji:rowI xs j=.v (.int .i64 xs[j]):=by
   have:=rowI_at (xs:=xs) (i:=j) (List.getElem?_eq_getElem hj')
   rwa [Nat.mul_one] at this
  have h7:(rowI xs j).is X w0 y:=h7
  rw [hji] at h7
  have h7:y=.int .i64 xs[j]:=h7
  subst h7
  have h8:wr.heap[r.1]?=w0.heap[r.1]?:=by rw [hs.heap]; exact hR.fr.keep _ h3 h4
  simp only [World.cell?,h8] at h6 ⊢
  rw [Nat.zero_add,List.getElem?_take_of_lt hj,List.getElem?_eq_getElem hj']
  exact h6
theorem TrK.rowNew {P:Program} {A:Args} {keep:List Nat} {L:LH} {f:FuncId} {vs:List Value} {t:TypeId} {zs:List Int} (hc:callable P f=true) (h:∀ (X:Nat→Prop) (w0 w:World) (E:Emb) (vs':List Value),(NA.mk L.length A keep).Ok P X w0 E→Rep X w0 E L w→L2 (VR E) vs vs'→∀ wr,Sim wr w→GivesRow P f vs'.toArray t zs wr) :
  TrK P A keep f vs L (fun v K=>v=.slice (some ⟨L.length,0,none⟩) zs.length zs.length∧K=L++[.gro 1 (rowsC intC zs)]):=by
 intro X w0 w E vs' hA hR hv
 refine ⟨hc,fun wr hs=>(hR.rowNew hs (h X w0 w E vs' hA hR hv wr hs)).mono ?_⟩
 rintro e w' ⟨w1,h1,v',rfl,E',h2,h3,h4⟩
 exact ⟨w1,h1,v',rfl,E',_,_,fun k r _ hk=>h2 k r hk,by simp,h3,h4,rfl,rfl⟩
theorem appSeqA_tr (xs:List Int) (n c:Nat) (hx:xs.length=c) (hn:n≤c) (hn1:n≤100000):TrK Try.prog [(0,c,rowI xs)] [0,1] 86 [.slice none 0 0,valF 1] [.dead,.cells 0 [slC 0 n c]]
  (fun v K=>v=slB 2 n∧K=[.dead,.cells 0 [slC 0 n c],.gro 1 (rowsC intC (xs.take n))]):=by
 have hln:(xs.take n).length=n:=by rw [List.length_take]; omega
 have:=TrK.rowNew (P:=Try.prog) (A:=[(0,c,rowI xs)]) (keep:=[0,1]) (L:=[.dead,.cells 0 [slC 0 n c]]) (f:=86) (vs:=[.slice none 0 0,valF 1]) (t:=3) (zs:=xs.take n) (by kernel_rfl) ?_
 ·rw [hln] at this; exact this
 intro X w0 w E vs' hA hR hv wr hs
 obtain ⟨b,rfl,hb⟩:∃ b,vs'=[.slice none 0 0,b]∧VR E (valF 1) b:=by
  cases vs' with
  | nil=>exact hv.elim
  | cons a r =>
   obtain ⟨h1,h2⟩:=hv
   obtain rfl:a=.slice none 0 0:=h1
   cases r with
   | nil=>exact h2.elim
   | cons b r=>cases r with
    | nil=>exact ⟨b,rfl,h2.1⟩
    | cons _ _=>exact h2.2.elim
 obtain ⟨a',c',rfl,ha,hc⟩:=hb
 obtain rfl:a'=[]:=by cases a' with
  | nil=>rfl
  | cons _ _=>exact ha.elim
 obtain ⟨p,rfl,hp⟩:∃ p,c'=[p]∧S0 E (.pointer (some ⟨1,0,none⟩)) p:=by
  cases c' with
  | nil=>exact hc.elim
  | cons a r=>cases r with
   | nil=>exact ⟨a,rfl,hc.1⟩
   | cons _ _=>exact hc.2.elim
 obtain ⟨_,rfl,_,r,hr,rfl⟩:=hp
 obtain ⟨cs,⟨t,hcs⟩,h1,h2,h3⟩:=hR.blk 1 _ r rfl hr
 have hcs':wr.heap[r.1]?=some (.cells cs.toArray t (0,0)):=by rw [hs.heap]; exact hcs
 obtain ⟨sv,hsv,hsr⟩:=h1.get (i:=0) rfl
 have hcell:wr.cell? ⟨r.1,0+r.2.1,none⟩=some sv:=by
  simp only [World.cell?,hcs']
  simp at hsv
  simpa using hsv
 have h5:=appSeq_in Fence.wide 3 trivial trivial rfl (by decide) r.1 (0+r.2.1) sv (xs.take n) (by rw [hln]; show n≤maxLen; unfold maxLen; omega) (by omega) wr (Array.getElem?_eq_some_iff.1 hcs').1 hcell (intsAt_arg hA (List.mem_singleton.2 rfl) hR hs hx hn hsr)
 exact callsIn_wide.1 h5
theorem valuesA_tr (n c:Nat):Tr Try.prog 70 [slC 0 n c] [.dead] (fun v K=>v=valF 1∧K=[.dead,.cells 0 [slC 0 n c]]):=by
 refine Tr.of row_slices_Values_int_int__ok rfl ?_
 repeat' (first|refine qN ?_|refine dN ?_|refine d0 ?_|refine aI (hn:=?_)|refine qR ?_|refine qS ?_|exact ⟨rfl,rfl⟩|fail)
 exact L_ret (RetQ.pick [0,1] rfl rfl rfl rfl ⟨rfl,rfl⟩)
theorem hd0 {k:Nat} {φ:List Nat} {x:Nat × (Nat→AV)} {A:Args} {j:Nat} (h:φ[k]?=some j) (hA:(j,x)∈A) {ks:List Nat} (hk:inL k ks=true):handed φ ks A [(k,x)]:=by
 intro y hy
 cases List.mem_singleton.1 hy
 exact ⟨hk,j,h,hA⟩
theorem collectA_tr (xs:List Int) (n c:Nat) (hx:xs.length=c) (hn:n≤c) (hn1:n≤100000):TrK Try.prog [(0,c,rowI xs)] [0,1] 78 [valF 1] [.dead,.cells 0 [slC 0 n c]]
  (fun v K=>v=slB 2 n∧K=[.dead,.cells 0 [slC 0 n c],.gro 1 (rowsC intC (xs.take n))]):=by
 have hA:=appSeqA_tr xs n c hx hn hn1
 refine Tr.of row_slices_Collect_int__ok rfl ?_
 repeat' (first|refine qN ?_|refine dN ?_|refine d0 ?_|(refine cAr [0,1] hA (hd0 (j:=0) rfl (List.mem_singleton.2 rfl) rfl) ?_; conv=>whnf)|refine aI (hn:=?_)|refine qR ?_|refine qS ?_|exact ⟨rfl,rfl⟩|fail)
 exact L_ret (RetQ.pick [0,1,2] rfl rfl rfl rfl ⟨rfl,rfl⟩)
theorem sortedA_tr (xs:List Int) (n c:Nat) (hx:xs.length=c) (hn:n≤c) (hn1:n≤100000):TrK Try.prog [(0,c,rowI xs)] [0,1] 69 [valF 1] [.dead,.cells 0 [slC 0 n c]]
  (fun v K=>v=slB 2 n∧K=[.dead,.cells 0 [slC 0 n c],.gro 1 (rowsC intC (sortZ (xs.take n)))]):=by
 have hA:=collectA_tr xs n c hx hn hn1
 have hS:=sortI_tr (xs.take n) n (by rw [List.length_take]; omega) (by omega)
 refine Tr.of row_slices_Sorted_int__ok rfl ?_
 repeat' (first|refine qN ?_|refine dN ?_|refine d0 ?_|(refine cAr [0,1] hA (hd0 (j:=0) rfl (List.mem_singleton.2 rfl) rfl) ?_; conv=>whnf)|(refine cF [2] (hS) ?_; conv=>whnf)|refine aI (hn:=?_)|refine qR ?_|refine qS ?_|exact ⟨rfl,rfl⟩|fail)
 exact L_ret (RetQ.pick [0,1,2] rfl rfl rfl rfl ⟨rfl,rfl⟩)
set_option maxHeartbeats 1000000 in
theorem wholeA_tr (xs:List Int) (n c:Nat) (hx:xs.length=c) (hn:n≤c) (hn1:n≤1000) (m:Int):TrK Try.prog [(0,c,rowI xs)] [0] 49 [slC 0 n c,.int .i64 m] [.dead] (fun v K=>v=.bool (wholeB (xs.take n) m)∧K=[.dead]):=by
 have hV:=valuesA_tr n c
 have hS:=sortedA_tr xs n c hx hn (by omega)
 have hln:(xs.take n).length=n:=by rw [List.length_take]; omega
 have hzl:(sortZ (xs.take n)).length=n:=by rw [sortZ_len]; exact hln
 unfold wholeB
 rw [hln]
 generalize sortZ (xs.take n)=zs at *
 refine Tr.of row_linear_whole_ok rfl ?_
 repeat' (first|refine qN ?_|refine dN ?_|refine dR ?_|refine d0 ?_|refine qB ?_|refine rT ?_|refine qT ?_|refine qU ?_|refine qL ?_|refine qK ?_|refine qF ?_|refine qE ?_|refine iF (fun h=>?_) (fun h=>?_)|refine aX ?_|(refine cF [0] (hV) ?_; conv=>whnf)|(refine cAr [0,1] hS (hd0 (j:=0) rfl (List.mem_singleton.2 rfl) rfl) ?_; conv=>whnf)|refine aA ?_|refine aI (hn:=?_)|refine qR ?_|refine qS ?_|exact ⟨rfl,rfl⟩|fail)
 refine LWp.pick [0,1,11,12,13] [0,2] rfl rfl rfl (L_loop (fun q l L=>∃ i:Nat,q=n-i∧i≤n∧zs.take i=iotaZ i∧l=[(0,slC 0 n c),(1,.int .i64 m),(11,slB 1 n),(12,.int .i64 n),(13,.int .i64 i)]∧L=[.dead,.gro 1 (rowsC intC zs)]) n ⟨0,rfl,by omega,rfl,rfl,rfl⟩ ?_)
 clear hV hS
 rintro q _ _ ⟨i,rfl,hi,hall,rfl,rfl⟩
 first|refine L_seq (L_rs (S_done [] rfl (Nx.goL (iF (fun h=>L_skip (Nx.goL ?_)) (fun h=>L_exit ?_)))))|refine L_rs (S_done [] rfl (Nx.goL (L_seq (iF (fun h=>L_skip (Nx.goL ?_)) (fun h=>L_exit ?_)))))
 ·have hik:i<n:=by omega
  obtain ⟨x,hx1⟩:∃ x,zs[i]?=some x:=⟨_,List.getElem?_eq_getElem (by omega)⟩
  repeat' (first|refine qN ?_|refine dN ?_|refine d0 ?_|refine qB ?_|refine qT ?_|refine qU ?_|refine qL ?_|refine qK ?_|refine qF ?_|refine qE ?_|refine iF (fun h=>?_) (fun h=>?_)|refine aX ?_|refine S_Q [] rfl rfl (QY.ldI rfl rfl hx1) ?_|refine aA ?_|refine aI (hn:=?_)|refine qR ?_|refine qS ?_|exact ⟨rfl,rfl⟩|fail)
  ·have hne:zs≠iotaZ n:=fun e=>by rw [e,iotaZ_get hik] at hx1; cases hx1; exact h rfl
   rw [decide_eq_false hne]
   exact L_ret (RetQ.pick [0] rfl rfl rfl rfl ⟨rfl,rfl⟩)
  ·obtain rfl:x=i:=by omega
   exact Nx.pick [0,1,11,12,13] [0,1] rfl rfl rfl ⟨n-(i+1),by omega,i+1,rfl,by omega,by rw [List.take_add_one,hx1,hall]; simp [iotaZ,List.range_succ],rfl,rfl⟩
 ·refine Nx.goL ?_
  obtain rfl:i=n:=by omega
  rw [List.take_of_length_le (by omega)] at hall
  rw [decide_eq_true hall,Bool.true_and]
  repeat' (first|refine qN ?_|refine dN ?_|refine d0 ?_|refine qB ?_|refine qT ?_|refine qU ?_|refine qL ?_|refine qK ?_|refine qF ?_|refine qE ?_|refine iF (fun h=>?_) (fun h=>?_)|refine aX ?_|refine aA ?_|refine aI (hn:=?_)|refine qR ?_|refine qS ?_|exact ⟨rfl,rfl⟩|fail)
  exact L_ret (RetQ.pick [0] rfl rfl rfl rfl ⟨rfl,rfl⟩)
end Go.Proofs.Ythgmdlmeeebfiaa
end
section
namespace Go.Proofs.Ythgmdlmeeebfiaa
open Go Go.Tum Go.Tum.Base
set_option maxRecDepth 4000
abbrev RVA (l:List Ev) (s:Sp):LH:=[EVB l,.dead,.cells 0 (spC 3 4 s)]++spB s
set_option maxHeartbeats 4000000 in
theorem rightA_tr (l:List Ev) (hl:l.length≤20) (ma ar:Int) (hm:0≤ma∧ma≤8191) (ha:0≤ar∧ar≤8191) (xs:List Int) (n c:Nat) (hx:xs.length=c) (hn:n≤c) (hn1:n≤1000) :
  TrK Try.prog [(1,c,rowI xs)] [0,1] 26 [.agg ⟨[.int .i64 ma,.int .i64 ar]⟩,slB 0 l.length,slC 1 n c] [EVB l,.dead] (fun v K=>v=.bool (decide (RP l ⟨ma,ar,[],0,[],0⟩ (xs.take n)))∧K=[EVB l,.dead]):=by
 have hW:=wholeA_tr xs n c hx hn hn1 l.length
 have hN:=new_tr ma ar
 have hln:(xs.take n).length=n:=by rw [List.length_take]; omega
 refine Tr.of row_linear_Right_ok rfl ?_
 cases hw:wholeB (xs.take n) l.length
 ·have e:¬ RP l ⟨ma,ar,[],0,[],0⟩ (xs.take n):=fun h=>by
   have:=whole_iff.2 ⟨h.1,h.2.1.1,h.2.1.2.1⟩
   rw [hw] at this; cases this
  rw [hw] at hW
  rw [decide_eq_false e]
  repeat' (first|refine qN ?_|refine dN ?_|refine d0 ?_|refine qB ?_|refine qT ?_|refine qU ?_|refine qL ?_|refine qK ?_|refine qF ?_|refine qE ?_|refine iF (fun h=>?_) (fun h=>?_)|refine aX ?_|(refine cAr [1] hW (hd0 (j:=1) rfl (List.mem_singleton.2 rfl) rfl) ?_; conv=>whnf)|refine aA ?_|refine aI (hn:=?_)|refine qR ?_|refine qS ?_|exact ⟨rfl,rfl⟩|fail)
  exact L_ret (RetQ.pick [0,1] rfl rfl rfl rfl ⟨rfl,rfl⟩)
 ·rw [hw] at hW
  obtain ⟨w1,w2,w3⟩:=whole_iff.1 hw
  rw [hln] at w1
  subst w1
  repeat' (first|refine qN ?_|refine dN ?_|refine dR ?_|refine d0 ?_|refine qB ?_|refine rT ?_|refine qT ?_|refine qU ?_|refine qL ?_|refine qK ?_|refine qF ?_|refine qE ?_|refine iF (fun h=>?_) (fun h=>?_)|refine aX ?_|(refine cAr [1] hW (hd0 (j:=1) rfl (List.mem_singleton.2 rfl) rfl) ?_; conv=>whnf)|refine cP [] (hN) ?_|refine aA ?_|refine aI (hn:=?_)|refine qR ?_|refine qS ?_|exact ⟨rfl,rfl⟩|fail)
  refine LWp.nilC 3 2 2 rfl rfl (LWp.nilC 3 3 1 rfl rfl ?_)
  generalize ho:xs.take l.length=o at *
  have hxo:∀ (i:Nat) (x:Int),o[i]?=some x→xs[i]?=some x:=fun i x h=>by
   have:=(List.getElem?_eq_some_iff.1 h).1
   rw [← ho,List.getElem?_take_of_lt (by omega)] at h; exact h
  clear hW hN hw
  refine LWp.pick [1,2,7,21,22,23] [0,1,3,4,5] rfl rfl rfl (L_loop (fun q E L=>∃ (i:Nat) (s w:Sp),q=l.length-i∧i≤l.length∧PI i s w∧acc l ⟨ma,ar,[],0,[],0⟩ (o.take i)=true∧s=runS l ⟨ma,ar,[],0,[],0⟩ (o.take i)∧PairK l o i∧E=[(1,slB 0 l.length),(2,slC 1 l.length c),(7,pp 2),(21,slC 1 l.length c),(22,.int .i64 l.length),(23,.int .i64 i)]∧L=RVA l s) l.length ⟨0,_,_,rfl,by omega,PI.zero hm ha,rfl,rfl,fun a b h=>by omega,rfl,rfl⟩ ?_)
  rintro q _ _ ⟨i,s,w,rfl,hi,hP,hac,hst,hpk,rfl,rfl⟩
  first|refine L_seq (L_rs (S_done [] rfl (Nx.goL (iF (fun h=>L_skip (Nx.goL ?_)) (fun h=>L_exit ?_)))))|refine L_rs (S_done [] rfl (Nx.goL (L_seq (iF (fun h=>L_skip (Nx.goL ?_)) (fun h=>L_exit ?_)))))
  ·have hik:i<l.length:=by omega
   obtain ⟨k,hk,hok⟩:=nat_of w2 (by omega:i<o.length)
   have hxk:=hxo i _ hok
   have hev:=evA_at hk
   have htk:o.take (i+1)=o.take i++[(k:Int)]:=by rw [List.take_add_one,hok]; rfl
   repeat' (first|refine qN ?_|refine dN ?_|refine dR ?_|refine d0 ?_|refine qB ?_|refine rT ?_|refine qT ?_|refine qU ?_|refine qL ?_|refine qK ?_|refine qF ?_|refine qE ?_|refine iF (fun h=>?_) (fun h=>?_)|refine aX ?_|refine S_Q [] rfl rfl (ldAI rfl (j:=0) rfl hx hxk) ?_|refine S_Q [] rfl rfl (QY.slc0 (lo':=i+1) (hi':=l.length) rfl rfl rfl (by omega) (by omega)) ?_|refine aA ?_|refine aI (hn:=?_)|refine qR ?_|refine qS ?_|exact ⟨rfl,rfl⟩|fail)
   refine LWp.pick [1,2,7,8,9,21,22,23,31,32,33] [0,1,2,3,4] rfl rfl rfl (L_loop (fun q E L=>∃ m:Nat,q=l.length-(i+1)-m∧m≤l.length-(i+1)∧(∀ b y,i<b→b<i+1+m→o[b]?=some y→na l k y)∧E=[(1,slB 0 l.length),(2,slC 1 l.length c),(7,pp 2),(8,.int .i64 i),(9,.int .i64 k),(21,slC 1 l.length c),(22,.int .i64 l.length),(23,.int .i64 i),(31,.slice (some ⟨1,(i+1)*1,none⟩) (l.length-(i+1)) (c-(i+1))),(32,.int .i64 ((l.length-(i+1):Nat):Int)),(33,.int .i64 m)]∧L=RVA l s) (l.length-(i+1)) ⟨0,rfl,by omega,fun b y h1 h2=>by omega,rfl,rfl⟩ ?_)
   rintro q _ _ ⟨m,rfl,hmi,hin,rfl,rfl⟩
   first|refine L_seq (L_rs (S_done [] rfl (Nx.goL (iF (fun h=>L_skip (Nx.goL ?_)) (fun h=>L_exit ?_)))))|refine L_rs (S_done [] rfl (Nx.goL (L_seq (iF (fun h=>L_skip (Nx.goL ?_)) (fun h=>L_exit ?_)))))
   ·have hml:i+1+m<l.length:=by omega
    obtain ⟨k2,hk2,hok2⟩:=nat_of w2 (by omega:i+1+m<o.length)
    have hxk2:=hxo _ _ hok2
    have hev2:=evA_at hk2
    have hA:=ahead_tr (evA l k2) (evA l k)
    cases hq:aheadB (evA l k2) (evA l k)
    ·rw [hq] at hA
     repeat' (first|refine qN ?_|refine dN ?_|refine d0 ?_|refine qB ?_|refine qT ?_|refine qU ?_|refine qL ?_|refine qK ?_|refine qF ?_|refine qE ?_|refine iF (fun h=>?_) (fun h=>?_)|refine aX ?_|refine S_Q [] rfl rfl (QY.idxO (k:=m) rfl rfl (by omega)) ?_|refine S_Q [] rfl rfl (ldAI (i:=i+1+m) (congrArg (fun z=>some (Value.pointer (some ⟨1,z,none⟩))) (by omega:(i+1)*1+m*1=(i+1+m)*1)) (j:=0) rfl hx hxk2) ?_|refine S_Q [] rfl rfl (QY.ldRow Ev.ok rfl rfl hev (by decide)) ?_|refine S_Q [] rfl rfl (QY.ldRow Ev.ok rfl rfl hev2 (by decide)) ?_|refine cP [] (hA) ?_|refine aA ?_|refine aI (hn:=?_)|refine qR ?_|refine qS ?_|exact ⟨rfl,rfl⟩|fail)
     exact Nx.pick [1,2,7,8,9,21,22,23,31,32,33] [0,1,2,3,4] rfl rfl rfl ⟨l.length-(i+1)-(m+1),by omega,m+1,rfl,by omega,fun b y h1 h2 h3=>(by
      by_cases hb:b<i+1+m
      ·exact hin b y h1 hb h3
      ·obtain rfl:b=i+1+m:=by omega
       rw [hok2] at h3; cases h3; exact hq),rfl,rfl⟩
    ·rw [hq] at hA
     have e:¬ RP l ⟨ma,ar,[],0,[],0⟩ o:=fun h=>by
      have:=pairK_of h.2.1.2.2 (by omega:i<i+1+m) hok hok2
      unfold na at this; rw [hq] at this; cases this
     rw [decide_eq_false e]
     repeat' (first|refine qN ?_|refine dN ?_|refine d0 ?_|refine qB ?_|refine qT ?_|refine qU ?_|refine qL ?_|refine qK ?_|refine qF ?_|refine qE ?_|refine iF (fun h=>?_) (fun h=>?_)|refine aX ?_|refine S_Q [] rfl rfl (QY.idxO (k:=m) rfl rfl (by omega)) ?_|refine S_Q [] rfl rfl (ldAI (i:=i+1+m) (congrArg (fun z=>some (Value.pointer (some ⟨1,z,none⟩))) (by omega:(i+1)*1+m*1=(i+1+m)*1)) (j:=0) rfl hx hxk2) ?_|refine S_Q [] rfl rfl (QY.ldRow Ev.ok rfl rfl hev (by decide)) ?_|refine S_Q [] rfl rfl (QY.ldRow Ev.ok rfl rfl hev2 (by decide)) ?_|refine cP [] (hA) ?_|refine aA ?_|refine aI (hn:=?_)|refine qR ?_|refine qS ?_|exact ⟨rfl,rfl⟩|fail)
     exact L_ret (RetQ.pick [0,1] rfl rfl rfl rfl ⟨rfl,rfl⟩)
   ·refine Nx.goL ?_
    obtain rfl:m=l.length-(i+1):=by omega
    have hpk2:PairK l o (i+1):=fun a b h1 h2 x y h3 h4=>by
     by_cases h5:a<i
     ·exact hpk a b h5 h2 x y h3 h4
     ·obtain rfl:a=i:=by omega
      rw [hok] at h3; cases h3
      have:=(List.getElem?_eq_some_iff.1 h4).1
      exact hin b y h2 (by omega) h4
    have hC:=lcall_tr (evA l k)
    cases hmb:mayB s (evA l k).cl
    ·have hX:=next_no s (hP.ok (by omega)) _ hmb
     have e:¬ RP l ⟨ma,ar,[],0,[],0⟩ o:=fun h=>by
      have h2:=h.2.2
      have hsp:o=o.take i++(k:Int)::o.drop (i+1):=by
       have h3:=List.take_append_drop (i+1) o
       rw [htk,List.append_assoc] at h3
       exact h3.symm
      rw [hsp,acc_append,← hst] at h2
      simp [acc,hmb] at h2
     rw [decide_eq_false e]
     repeat' (first|refine qN ?_|refine dN ?_|refine d0 ?_|refine qB ?_|refine qT ?_|refine qU ?_|refine qL ?_|refine qK ?_|refine qF ?_|refine qE ?_|refine iF (fun h=>?_) (fun h=>?_)|refine aX ?_|refine S_Q [] rfl rfl (QY.idxN (k:=k) rfl rfl hk) ?_|refine S_Q [] rfl rfl (QY.ldRow Ev.ok rfl rfl hev (by decide)) ?_|(refine cW [] (hC) ?_; conv=>whnf)|(refine cW [3,4] (hX) ?_; conv=>whnf)|(refine S_Ed [] rfl rfl (EWd.new rfl) rfl rfl rfl ?_; rintro _ _ ⟨rfl,rfl⟩; refine ⟨(by repeat' (first|exact trivial|refine ⟨⟨qsafe_ok (st:=[]) rfl,Sure.of rfl⟩,?_⟩|refine ⟨.inl rfl,?_⟩|refine ⟨.inr ⟨qsafe_ok (st:=[]) rfl,Sure.of rfl⟩,?_⟩|refine ⟨⟨qsafe_ok (st:=[]) rfl,Sure.slice (by omega)⟩,?_⟩|refine ⟨.inr ⟨qsafe_ok (st:=[]) rfl,Sure.slice (by omega)⟩,?_⟩|refine ⟨.inr ⟨QY.neqB rfl (by kernel_rfl) rfl rfl,Sure.of rfl⟩,?_⟩|refine ⟨.inr ⟨QY.eqlB rfl (by kernel_rfl) rfl rfl,Sure.of rfl⟩,?_⟩|refine ⟨.inr ⟨QY.ldRow Ev.ok rfl rfl hev (by decide),Sure.of rfl⟩,?_⟩ | fail)),LSt.nf ?_⟩; conv=>whnf)|refine L_rT ?_|refine L_regT ?_|refine P_lin rfl ?_|refine P_A [] rfl ?_ ?_|refine P_Q [] rfl rfl (QY.idxN (k:=k) rfl rfl hk) ?_|refine P_Q [] rfl rfl (QY.ldRow Ev.ok rfl rfl hev (by decide)) ?_|(refine P_Ed [] rfl rfl (EWd.callF [] (hC) rfl rfl (by decide) (by repeat' (first|exact trivial|refine ⟨rfl,?_⟩ | fail)) rfl rfl rfl) rfl rfl rfl ?_; rintro _ _ ⟨rfl,rfl⟩; refine ⟨(by repeat' (first|exact trivial|refine ⟨⟨qsafe_ok (st:=[]) rfl,Sure.of rfl⟩,?_⟩|refine ⟨.inl rfl,?_⟩|refine ⟨.inr ⟨qsafe_ok (st:=[]) rfl,Sure.of rfl⟩,?_⟩|refine ⟨⟨qsafe_ok (st:=[]) rfl,Sure.slice (by omega)⟩,?_⟩|refine ⟨.inr ⟨qsafe_ok (st:=[]) rfl,Sure.slice (by omega)⟩,?_⟩|refine ⟨.inr ⟨QY.neqB rfl (by kernel_rfl) rfl rfl,Sure.of rfl⟩,?_⟩|refine ⟨.inr ⟨QY.eqlB rfl (by kernel_rfl) rfl rfl,Sure.of rfl⟩,?_⟩|refine ⟨.inr ⟨QY.ldRow Ev.ok rfl rfl hev (by decide),Sure.of rfl⟩,?_⟩ | fail)),LPt.nf ?_⟩; conv=>whnf)|(refine P_Ed [] rfl rfl (EWd.callF [3,4] (hX) rfl rfl (by decide) (by repeat' (first|exact trivial|refine ⟨rfl,?_⟩ | fail)) rfl rfl rfl) rfl rfl rfl ?_; rintro _ _ ⟨rfl,rfl⟩; refine ⟨(by repeat' (first|exact trivial|refine ⟨⟨qsafe_ok (st:=[]) rfl,Sure.of rfl⟩,?_⟩|refine ⟨.inl rfl,?_⟩|refine ⟨.inr ⟨qsafe_ok (st:=[]) rfl,Sure.of rfl⟩,?_⟩|refine ⟨⟨qsafe_ok (st:=[]) rfl,Sure.slice (by omega)⟩,?_⟩|refine ⟨.inr ⟨qsafe_ok (st:=[]) rfl,Sure.slice (by omega)⟩,?_⟩|refine ⟨.inr ⟨QY.neqB rfl (by kernel_rfl) rfl rfl,Sure.of rfl⟩,?_⟩|refine ⟨.inr ⟨QY.eqlB rfl (by kernel_rfl) rfl rfl,Sure.of rfl⟩,?_⟩|refine ⟨.inr ⟨QY.ldRow Ev.ok rfl rfl hev (by decide),Sure.of rfl⟩,?_⟩ | fail)),LPt.nf ?_⟩; conv=>whnf)|(refine P_Ed [] rfl rfl (EWd.new rfl) rfl rfl rfl ?_; rintro _ _ ⟨rfl,rfl⟩; refine ⟨(by repeat' (first|exact trivial|refine ⟨⟨qsafe_ok (st:=[]) rfl,Sure.of rfl⟩,?_⟩|refine ⟨.inl rfl,?_⟩|refine ⟨.inr ⟨qsafe_ok (st:=[]) rfl,Sure.of rfl⟩,?_⟩|refine ⟨⟨qsafe_ok (st:=[]) rfl,Sure.slice (by omega)⟩,?_⟩|refine ⟨.inr ⟨qsafe_ok (st:=[]) rfl,Sure.slice (by omega)⟩,?_⟩|refine ⟨.inr ⟨QY.neqB rfl (by kernel_rfl) rfl rfl,Sure.of rfl⟩,?_⟩|refine ⟨.inr ⟨QY.eqlB rfl (by kernel_rfl) rfl rfl,Sure.of rfl⟩,?_⟩|refine ⟨.inr ⟨QY.ldRow Ev.ok rfl rfl hev (by decide),Sure.of rfl⟩,?_⟩ | fail)),LPt.nf ?_⟩; conv=>whnf)|refine aA ?_|refine aI (hn:=?_)|refine qR ?_|refine qS ?_|exact ⟨rfl,rfl⟩|fail)
     all_goals exact L_ret (RetQ.pick [0,1] rfl rfl rfl rfl ⟨rfl,rfl⟩)
    ·have hX:=next_tr s (hP.ok (by omega)) _ hmb
     have hP2:=hP.next hmb
     have hac2:acc l ⟨ma,ar,[],0,[],0⟩ (o.take (i+1))=true:=by rw [htk]; exact acc_snoc hac hst hmb
     have hst2:nextS s (evA l k).cl=runS l ⟨ma,ar,[],0,[],0⟩ (o.take (i+1)):=by rw [htk,runS_snoc,← hst]
     generalize nextS s (evA l k).cl=s' at *
     generalize rnextS w (evA l k).cl=w' at *
     repeat' (first|refine qN ?_|refine dN ?_|refine d0 ?_|refine qB ?_|refine qT ?_|refine qU ?_|refine qL ?_|refine qK ?_|refine qF ?_|refine qE ?_|refine iF (fun h=>?_) (fun h=>?_)|refine aX ?_|refine S_Q [] rfl rfl (QY.idxN (k:=k) rfl rfl hk) ?_|refine S_Q [] rfl rfl (QY.ldRow Ev.ok rfl rfl hev (by decide)) ?_|(refine cW [] (hC) ?_; conv=>whnf)|(refine cW [3,4] (hX) ?_; conv=>whnf)|(refine S_Ed [] rfl rfl (EWd.new rfl) rfl rfl rfl ?_; rintro _ _ ⟨rfl,rfl⟩; refine ⟨(by repeat' (first|exact trivial|refine ⟨⟨qsafe_ok (st:=[]) rfl,Sure.of rfl⟩,?_⟩|refine ⟨.inl rfl,?_⟩|refine ⟨.inr ⟨qsafe_ok (st:=[]) rfl,Sure.of rfl⟩,?_⟩|refine ⟨⟨qsafe_ok (st:=[]) rfl,Sure.slice (by omega)⟩,?_⟩|refine ⟨.inr ⟨qsafe_ok (st:=[]) rfl,Sure.slice (by omega)⟩,?_⟩|refine ⟨.inr ⟨QY.neqB rfl (by kernel_rfl) rfl rfl,Sure.of rfl⟩,?_⟩|refine ⟨.inr ⟨QY.eqlB rfl (by kernel_rfl) rfl rfl,Sure.of rfl⟩,?_⟩|refine ⟨.inr ⟨QY.ldRow Ev.ok rfl rfl hev (by decide),Sure.of rfl⟩,?_⟩ | fail)),LSt.nf ?_⟩; conv=>whnf)|refine L_rT ?_|refine L_regT ?_|refine P_lin rfl ?_|refine P_A [] rfl ?_ ?_|refine P_Q [] rfl rfl (QY.idxN (k:=k) rfl rfl hk) ?_|refine P_Q [] rfl rfl (QY.ldRow Ev.ok rfl rfl hev (by decide)) ?_|(refine P_Ed [] rfl rfl (EWd.callF [] (hC) rfl rfl (by decide) (by repeat' (first|exact trivial|refine ⟨rfl,?_⟩ | fail)) rfl rfl rfl) rfl rfl rfl ?_; rintro _ _ ⟨rfl,rfl⟩; refine ⟨(by repeat' (first|exact trivial|refine ⟨⟨qsafe_ok (st:=[]) rfl,Sure.of rfl⟩,?_⟩|refine ⟨.inl rfl,?_⟩|refine ⟨.inr ⟨qsafe_ok (st:=[]) rfl,Sure.of rfl⟩,?_⟩|refine ⟨⟨qsafe_ok (st:=[]) rfl,Sure.slice (by omega)⟩,?_⟩|refine ⟨.inr ⟨qsafe_ok (st:=[]) rfl,Sure.slice (by omega)⟩,?_⟩|refine ⟨.inr ⟨QY.neqB rfl (by kernel_rfl) rfl rfl,Sure.of rfl⟩,?_⟩|refine ⟨.inr ⟨QY.eqlB rfl (by kernel_rfl) rfl rfl,Sure.of rfl⟩,?_⟩|refine ⟨.inr ⟨QY.ldRow Ev.ok rfl rfl hev (by decide),Sure.of rfl⟩,?_⟩ | fail)),LPt.nf ?_⟩; conv=>whnf)|(refine P_Ed [] rfl rfl (EWd.callF [3,4] (hX) rfl rfl (by decide) (by repeat' (first|exact trivial|refine ⟨rfl,?_⟩ | fail)) rfl rfl rfl) rfl rfl rfl ?_; rintro _ _ ⟨rfl,rfl⟩; refine ⟨(by repeat' (first|exact trivial|refine ⟨⟨qsafe_ok (st:=[]) rfl,Sure.of rfl⟩,?_⟩|refine ⟨.inl rfl,?_⟩|refine ⟨.inr ⟨qsafe_ok (st:=[]) rfl,Sure.of rfl⟩,?_⟩|refine ⟨⟨qsafe_ok (st:=[]) rfl,Sure.slice (by omega)⟩,?_⟩|refine ⟨.inr ⟨qsafe_ok (st:=[]) rfl,Sure.slice (by omega)⟩,?_⟩|refine ⟨.inr ⟨QY.neqB rfl (by kernel_rfl) rfl rfl,Sure.of rfl⟩,?_⟩|refine ⟨.inr ⟨QY.eqlB rfl (by kernel_rfl) rfl rfl,Sure.of rfl⟩,?_⟩|refine ⟨.inr ⟨QY.ldRow Ev.ok rfl rfl hev (by decide),Sure.of rfl⟩,?_⟩ | fail)),LPt.nf ?_⟩; conv=>whnf)|(refine P_Ed [] rfl rfl (EWd.new rfl) rfl rfl rfl ?_; rintro _ _ ⟨rfl,rfl⟩; refine ⟨(by repeat' (first|exact trivial|refine ⟨⟨qsafe_ok (st:=[]) rfl,Sure.of rfl⟩,?_⟩|refine ⟨.inl rfl,?_⟩|refine ⟨.inr ⟨qsafe_ok (st:=[]) rfl,Sure.of rfl⟩,?_⟩|refine ⟨⟨qsafe_ok (st:=[]) rfl,Sure.slice (by omega)⟩,?_⟩|refine ⟨.inr ⟨qsafe_ok (st:=[]) rfl,Sure.slice (by omega)⟩,?_⟩|refine ⟨.inr ⟨QY.neqB rfl (by kernel_rfl) rfl rfl,Sure.of rfl⟩,?_⟩|refine ⟨.inr ⟨QY.eqlB rfl (by kernel_rfl) rfl rfl,Sure.of rfl⟩,?_⟩|refine ⟨.inr ⟨QY.ldRow Ev.ok rfl rfl hev (by decide),Sure.of rfl⟩,?_⟩ | fail)),LPt.nf ?_⟩; conv=>whnf)|refine aA ?_|refine aI (hn:=?_)|refine qR ?_|refine qS ?_|exact ⟨rfl,rfl⟩|fail)
     all_goals first
      |exact Nx.pick [1,2,7,21,22,23] [0,1,2,6,7] rfl rfl rfl ⟨l.length-(i+1),by omega,i+1,s',w',rfl,by omega,hP2,hac2,hst2,hpk2,rfl,rfl⟩
      |exact Nx.pick [1,2,7,21,22,23] [0,1,2,5,6] rfl rfl rfl ⟨l.length-(i+1),by omega,i+1,s',w',rfl,by omega,hP2,hac2,hst2,hpk2,rfl,rfl⟩
  ·refine Nx.goL ?_
   obtain rfl:i=l.length:=by omega
   rw [show l.length=o.length by omega] at hpk
   rw [List.take_of_length_le (by omega)] at hac
   have e:RP l ⟨ma,ar,[],0,[],0⟩ o:=⟨by omega,⟨w2,w3,pairK_all hpk⟩,hac⟩
   rw [decide_eq_true e]
   repeat' (first|refine qN ?_|refine dN ?_|refine d0 ?_|refine qB ?_|refine qT ?_|refine qU ?_|refine qL ?_|refine qK ?_|refine qF ?_|refine qE ?_|refine iF (fun h=>?_) (fun h=>?_)|refine aX ?_|refine aA ?_|refine aI (hn:=?_)|refine qR ?_|refine qS ?_|exact ⟨rfl,rfl⟩|fail)
   exact L_ret (RetQ.pick [0,1] rfl rfl rfl rfl ⟨rfl,rfl⟩)
end Go.Proofs.Ythgmdlmeeebfiaa
end
section
namespace Go.Proofs.Ythgmdlmeeebfiaa
open Go Go.Tum Go.Tum.Base
set_option maxRecDepth 4000
theorem sk_law:KeyLaw Try.prog 118 skV :=
 keyLaw_sk (sk_equal (f1:=⟨"done",3,0,false, "", "tumbrel/linear",0⟩) (f2:=⟨"key",9,1,false, "", "tumbrel/linear",8⟩) (by kernel_rfl) (by kernel_rfl) (by kernel_rfl) (by decide) (by decide) rfl rfl Try.underlying3 Try.underlying9) ⟨_,Try.underlying118⟩ (fun _ _ _=>by kernel_rfl)
theorem take_set {α:Type} {xs:List α} {i:Nat} {a:α} (h:i<xs.length):(xs.set i a).take (i+1)=xs.take i++[a]:=by
 rw [List.take_add_one,List.getElem?_set_self h,List.take_set_of_le (Nat.le_refl _)]; rfl
theorem met_get {n0:NA} {E:Env} {L:LH} {o:Oper} {x y:Operand} {b b0:Nat} {G:List SK} {k:SK} {t:Bool} (hd:decide (k∈G)=t) (ho:o.op=.lookup 96 x y false) (hx:lv E x=some (.map (some b))) (hy:lv E y=some (.agg ⟨[.int .i64 k.1,.string (bytesS k.2)]⟩)) (hb:L[b]?=some (skB b0 G)):QY Try.prog n0 L E (.raw o) (.bool t):=by
 have:=QY.skget (P:=Try.prog) (n0:=n0) ho Try.underlying96 sk_law (by kernel_rfl) hx hy hb
 rw [hd] at this; exact this
theorem met_put {n0:NA} {E:Env} {L:LH} {o:Oper} {x y u:Operand} {b b0:Nat} {G:List SK} {k:SK} (hw:G.Nodup) (hn:k∉G) (ho:o.op=.mapUpdate 96 x y u) (hx:lv E x=some (.map (some b))) (hy:lv E y=some (.agg ⟨[.int .i64 k.1,.string (bytesS k.2)]⟩)) (hu:lv E u=some (.bool true)) (hb:L[b]?=some (skB b0 G)) :
  EW Try.prog n0 L E (.raw o) (fun w K=>w=undef∧K=L.set b (skB b0 (G++[k]))):=EW.skput ho Try.underlying96 sk_law hx hy hu hb hw hn
abbrev IX:=Bool × List SK × List Int
def FV (i:IX):Value:=.bool i.1
def FBk (l:List Ev) (b0:Nat) (p:Nat) (s:Sp) (i:IX):LH:=SLB l b0 i.2.1 (match i.1 with | true=>l.length | false=>p) i.2.2++spB s
def FC (l:List Ev) (s0:Sp) (p:List Int) (i:IX):Prop:=i.2.2.length≤l.length∧match i.1 with
 | true=>l.length≤i.2.2.length∧srch (RPB l s0) l.length (l.length-p.length) p=some (i.2.2.take l.length)
 | false=>p.length≤i.2.2.length∧srch (RPB l s0) l.length (l.length-p.length) p=none∧i.2.2.take p.length=p∧IM l s0 i.2.1 p p.length
def FromT (l:List Ev) (b0:Nat) (s0:Sp) (p:List Int) (s:Sp) (G:List SK) (xs:List Int):Prop :=
 TrK Try.prog [] [0,1,2,4,5] 47 [pp 0,spV 4 5 s,.int .i64 (bitsOf p)] (SLB l b0 G p.length xs++spB s) (fun v K=>∃ i,FC l s0 p i∧v=FV i∧K=FBk l b0 p.length s i)
structure FH (l:List Ev) (s0:Sp) (p:List Int) (s w:Sp) (G:List SK) (xs:List Int):Prop where
 pp:PP l s0 p s w
 out:OutP l p
 im:IM l s0 G p p.length
 tk:xs.take p.length=p
 le:p.length≤xs.length
 mx:xs.length≤l.length
abbrev FRB (l:List Ev) (b0:Nat) (G:List SK) (p:Nat) (xs:List Int) (s:Sp):LH:=SLB l b0 G p xs++(spB s++[.cells 0 (spC 4 5 s)])
set_option maxHeartbeats 4000000 in
theorem from_tr (l:List Ev) (hl:l.length≤12) (b0:Nat) (s0:Sp):∀ (f:Nat) (p:List Int) (s w:Sp) (G:List SK) (xs:List Int),f=l.length-p.length→FH l s0 p s w G xs→FromT l b0 s0 p s G xs:=by
 intro f
 induction f with
 | zero =>
  intro p s w G xs hf hF
  have hlen:=hF.pp.len
  have hpl:p.length=l.length:=by omega
  unfold FromT
  have hR:FC l s0 p (true,G,xs):=⟨hF.mx,by have:=hF.le; show l.length≤xs.length; omega,by show srch _ _ _ _=some (xs.take l.length); rw [show l.length-p.length=0 by omega,hF.pp.leaf hpl,← hpl,hF.tk]⟩
  refine Tr.of row_linear_search_from_ok rfl ?_
  rw [hpl]
  repeat' (first|refine qN ?_|refine dN ?_|refine d0 ?_|refine qB ?_|refine qT ?_|refine qU ?_|refine qL ?_|refine qK ?_|refine qF ?_|refine qE ?_|refine iF (fun h=>?_) (fun h=>?_)|refine aX ?_|refine aA ?_|refine aS ?_|refine aI (hn:=?_)|refine qR ?_|refine qS ?_|exact ⟨rfl,rfl⟩|fail)
  ·exact L_ret (RetQ.pick [0,1,2,3,4,5] rfl rfl rfl rfl ⟨(true,G,xs),hR,rfl,rfl⟩)
  ·exfalso; omega
 | succ f ih =>
  intro p s w G xs hf hF
  have hs:=hF.pp.pi.ok (by have:=hF.pp.len; omega)
  have hK:=key_tr s hs
  unfold FromT
  refine Tr.of row_linear_search_from_ok rfl ?_
  have hne:p.length≠l.length:=by omega
  have hge:=hF.le
  cases hmm:decide (skOf p s∈G)
  ·have hni:skOf p s∉G:=of_decide_eq_false hmm
   repeat' (first|refine qN ?_|refine dN ?_|refine dR ?_|refine d0 ?_|refine qB ?_|refine rT ?_|refine qT ?_|refine qU ?_|refine qL ?_|refine qK ?_|refine qF ?_|refine qE ?_|refine iF (fun h=>?_) (fun h=>?_)|refine aX ?_|refine cP [4,5] (hK) ?_|refine S_Q [] rfl rfl (met_get hmm rfl rfl rfl rfl) ?_|(refine eE rfl rfl (met_put hF.im.1 hni rfl rfl rfl rfl rfl) ?_; conv=>whnf)|refine aA ?_|refine aS ?_|refine aI (hn:=?_)|refine qR ?_|refine qS ?_|exact ⟨rfl,rfl⟩|fail)
   ·exfalso; omega
   have hz0:=hF.im.put hF.pp hni 0
   refine LWp.pick [0,2,4,41,42,43] [0,1,2,3,4,5,6] rfl rfl rfl (L_loop (fun q E L=>∃ (k:Nat) (G':List SK) (xs':List Int),q=l.length-k∧k≤l.length∧IM l s0 G' (p++[0]) (p++[0]).length∧xs'.take p.length=p∧p.length≤xs'.length∧xs'.length≤l.length∧(∀ j:Nat,j<k→srch (RPB l s0) l.length f (p++[(j:Int)])=none)∧E=[(0,pp 0),(2,.int .i64 (bitsOf p)),(4,pp 6),(41,slB 1 l.length),(42,.int .i64 l.length),(43,.int .i64 k)]∧L=FRB l b0 G' p.length xs' s) l.length ⟨0,_,_,rfl,by omega,hz0,hF.tk,hF.le,hF.mx,fun j hj=>by omega,rfl,rfl⟩ ?_)
   clear hK hni hmm hz0
   rintro q _ _ ⟨k,G',xs',rfl,hk,hI,htk,hle,hmx,hno,rfl,rfl⟩
   first|refine L_seq (L_rs (S_done [] rfl (Nx.goL (iF (fun h=>L_skip (Nx.goL ?_)) (fun h=>L_exit ?_)))))|refine L_rs (S_done [] rfl (Nx.goL (L_seq (iF (fun h=>L_skip (Nx.goL ?_)) (fun h=>L_exit ?_)))))
   ·have hkl:k<l.length:=by omega
    have hev:=evA_at hkl
    have hR:=ready_tr l (by omega) b0 G' p.length xs' (bitsOf p) k hkl
    have hC:=lcall_tr (evA l k)
    have hno2:srch (RPB l s0) l.length f (p++[(k:Int)])=none→∀ j:Nat,j<k+1→srch (RPB l s0) l.length f (p++[(j:Int)])=none:=fun hn2 j hj=>by
     by_cases hj2:j<k
     ·exact hno j hj2
     ·obtain rfl:j=k:=by omega
      exact hn2
    cases hrd:rdB l (bitsOf p) k
    ·rw [hrd] at hR
     have hn2:=srch_no (f:=f) (no_ready hF.pp hkl hrd)
     repeat' (first|refine qN ?_|refine dN ?_|refine d0 ?_|refine qB ?_|refine qT ?_|refine qU ?_|refine qL ?_|refine qK ?_|refine qF ?_|refine qE ?_|refine iF (fun h=>?_) (fun h=>?_)|refine aX ?_|refine S_Q [] rfl rfl (QY.ldRow Ev.ok rfl rfl hev (by decide)) ?_|refine cP [0,1,2,3] (hR) ?_|refine aA ?_|refine aS ?_|refine aI (hn:=?_)|refine qR ?_|refine qS ?_|exact ⟨rfl,rfl⟩|fail)
     exact Nx.pick [0,2,4,41,42,43] [0,1,2,3,4,5,6] rfl rfl rfl ⟨l.length-(k+1),by omega,k+1,G',xs',rfl,by omega,hI,htk,hle,hmx,hno2 hn2,rfl,rfl⟩
    ·rw [hrd] at hR
     cases hmb:mayB s (evA l k).cl
     ·have hn2:=srch_no (f:=f) (no_may (k:=(k:Int)) hF.pp hmb)
      have hX:=next_no s hs _ hmb
      repeat' (first|refine qN ?_|refine dN ?_|refine d0 ?_|refine qB ?_|refine qT ?_|refine qU ?_|refine qL ?_|refine qK ?_|refine qF ?_|refine qE ?_|refine iF (fun h=>?_) (fun h=>?_)|refine aX ?_|refine S_Q [] rfl rfl (QY.ldRow Ev.ok rfl rfl hev (by decide)) ?_|refine cP [0,1,2,3] (hR) ?_|(refine cW [] (hC) ?_; conv=>whnf)|(refine cW [4,5] (hX) ?_; conv=>whnf)|(refine S_Ed [] rfl rfl (EWd.new rfl) rfl rfl rfl ?_; rintro _ _ ⟨rfl,rfl⟩; refine ⟨(by repeat' (first|exact trivial|refine ⟨⟨qsafe_ok (st:=[]) rfl,Sure.of rfl⟩,?_⟩|refine ⟨.inl rfl,?_⟩|refine ⟨.inr ⟨qsafe_ok (st:=[]) rfl,Sure.of rfl⟩,?_⟩|refine ⟨⟨qsafe_ok (st:=[]) rfl,Sure.slice (by omega)⟩,?_⟩|refine ⟨.inr ⟨qsafe_ok (st:=[]) rfl,Sure.slice (by omega)⟩,?_⟩|refine ⟨.inr ⟨QY.neqB rfl (by kernel_rfl) rfl rfl,Sure.of rfl⟩,?_⟩|refine ⟨.inr ⟨QY.eqlB rfl (by kernel_rfl) rfl rfl,Sure.of rfl⟩,?_⟩ | fail)),LSt.nf ?_⟩; conv=>whnf)|refine L_rT ?_|refine L_regT ?_|refine P_lin rfl ?_|refine P_A [] rfl ?_ ?_|refine P_Q [] rfl rfl (QY.ldRow Ev.ok rfl rfl hev (by decide)) ?_|(refine P_Ed [] rfl rfl (EWd.callP [0,1,2,3] (hR) rfl rfl (by decide) (by repeat' (first|exact trivial|refine ⟨rfl,?_⟩ | fail)) rfl rfl) (disj_nil _) (nm_nilE _) (nm_nilT _) ?_; rintro _ _ ⟨rfl,rfl⟩; refine ⟨(by repeat' (first|exact trivial|refine ⟨⟨qsafe_ok (st:=[]) rfl,Sure.of rfl⟩,?_⟩|refine ⟨.inl rfl,?_⟩|refine ⟨.inr ⟨qsafe_ok (st:=[]) rfl,Sure.of rfl⟩,?_⟩|refine ⟨⟨qsafe_ok (st:=[]) rfl,Sure.slice (by omega)⟩,?_⟩|refine ⟨.inr ⟨qsafe_ok (st:=[]) rfl,Sure.slice (by omega)⟩,?_⟩|refine ⟨.inr ⟨QY.neqB rfl (by kernel_rfl) rfl rfl,Sure.of rfl⟩,?_⟩|refine ⟨.inr ⟨QY.eqlB rfl (by kernel_rfl) rfl rfl,Sure.of rfl⟩,?_⟩ | fail)),?_⟩)|(refine P_Ed [] rfl rfl (EWd.callF [] (hC) rfl rfl (by decide) (by repeat' (first|exact trivial|refine ⟨rfl,?_⟩ | fail)) rfl rfl rfl) rfl rfl rfl ?_; rintro _ _ ⟨rfl,rfl⟩; refine ⟨(by repeat' (first|exact trivial|refine ⟨⟨qsafe_ok (st:=[]) rfl,Sure.of rfl⟩,?_⟩|refine ⟨.inl rfl,?_⟩|refine ⟨.inr ⟨qsafe_ok (st:=[]) rfl,Sure.of rfl⟩,?_⟩|refine ⟨⟨qsafe_ok (st:=[]) rfl,Sure.slice (by omega)⟩,?_⟩|refine ⟨.inr ⟨qsafe_ok (st:=[]) rfl,Sure.slice (by omega)⟩,?_⟩|refine ⟨.inr ⟨QY.neqB rfl (by kernel_rfl) rfl rfl,Sure.of rfl⟩,?_⟩|refine ⟨.inr ⟨QY.eqlB rfl (by kernel_rfl) rfl rfl,Sure.of rfl⟩,?_⟩ | fail)),LPt.nf ?_⟩; conv=>whnf)|(refine P_Ed [] rfl rfl (EWd.callF [4,5] (hX) rfl rfl (by decide) (by repeat' (first|exact trivial|refine ⟨rfl,?_⟩ | fail)) rfl rfl rfl) rfl rfl rfl ?_; rintro _ _ ⟨rfl,rfl⟩; refine ⟨(by repeat' (first|exact trivial|refine ⟨⟨qsafe_ok (st:=[]) rfl,Sure.of rfl⟩,?_⟩|refine ⟨.inl rfl,?_⟩|refine ⟨.inr ⟨qsafe_ok (st:=[]) rfl,Sure.of rfl⟩,?_⟩|refine ⟨⟨qsafe_ok (st:=[]) rfl,Sure.slice (by omega)⟩,?_⟩|refine ⟨.inr ⟨qsafe_ok (st:=[]) rfl,Sure.slice (by omega)⟩,?_⟩|refine ⟨.inr ⟨QY.neqB rfl (by kernel_rfl) rfl rfl,Sure.of rfl⟩,?_⟩|refine ⟨.inr ⟨QY.eqlB rfl (by kernel_rfl) rfl rfl,Sure.of rfl⟩,?_⟩ | fail)),LPt.nf ?_⟩; conv=>whnf)|(refine P_Ed [] rfl rfl (EWd.new rfl) rfl rfl rfl ?_; rintro _ _ ⟨rfl,rfl⟩; refine ⟨(by repeat' (first|exact trivial|refine ⟨⟨qsafe_ok (st:=[]) rfl,Sure.of rfl⟩,?_⟩|refine ⟨.inl rfl,?_⟩|refine ⟨.inr ⟨qsafe_ok (st:=[]) rfl,Sure.of rfl⟩,?_⟩|refine ⟨⟨qsafe_ok (st:=[]) rfl,Sure.slice (by omega)⟩,?_⟩|refine ⟨.inr ⟨qsafe_ok (st:=[]) rfl,Sure.slice (by omega)⟩,?_⟩|refine ⟨.inr ⟨QY.neqB rfl (by kernel_rfl) rfl rfl,Sure.of rfl⟩,?_⟩|refine ⟨.inr ⟨QY.eqlB rfl (by kernel_rfl) rfl rfl,Sure.of rfl⟩,?_⟩ | fail)),LPt.nf ?_⟩; conv=>whnf)|refine aA ?_|refine aS ?_|refine aI (hn:=?_)|refine qR ?_|refine qS ?_|exact ⟨rfl,rfl⟩|fail)
      all_goals exact Nx.pick [0,2,4,41,42,43] [0,1,2,3,4,5,6] rfl rfl rfl ⟨l.length-(k+1),by omega,k+1,G',xs',rfl,by omega,hI,htk,hle,hmx,hno2 hn2,rfl,rfl⟩
     ·have hX:=next_tr s hs _ hmb
      have hpp:=hF.pp.stepR hF.out hkl hrd hmb
      have hout:=hF.out.step hF.pp hrd
      generalize nextS s (evA l k).cl=s' at *
      generalize rnextS w (evA l k).cl=w' at *
      repeat' (first|refine qN ?_|refine dN ?_|refine dR ?_|refine d0 ?_|refine qB ?_|refine rT ?_|refine qT ?_|refine qU ?_|refine qL ?_|refine qK ?_|refine qF ?_|refine qE ?_|refine iF (fun h=>?_) (fun h=>?_)|refine aX ?_|refine S_Q [] rfl rfl (QY.ldRow Ev.ok rfl rfl hev (by decide)) ?_|refine cP [0,1,2,3] (hR) ?_|refine aA ?_|refine aS ?_|refine aI (hn:=?_)|refine qR ?_|refine qS ?_|exact ⟨rfl,rfl⟩|fail)
      refine L_mid (fun E L=>E=[(0,pp 0),(2,.int .i64 (bitsOf p)),(4,pp 6),(8,.int .i64 k),(10,pp 9),(11,.int .i64 0),(41,slB 1 l.length),(42,.int .i64 l.length),(43,.int .i64 k)]∧L=FRB l b0 G' p.length xs' s++(spB s'++[.cells 0 (spC 7 8 s')])) ?_ ?_
      ·repeat' (first|refine qN ?_|refine dN ?_|refine dR ?_|refine d0 ?_|refine qB ?_|refine rT ?_|refine qT ?_|refine qU ?_|refine qL ?_|refine qK ?_|refine qF ?_|refine qE ?_|refine iF (fun h=>?_) (fun h=>?_)|refine aX ?_|(refine cW [] (hC) ?_; conv=>whnf)|(refine cW [4,5] (hX) ?_; conv=>whnf)|(refine S_Ed [] rfl rfl (EWd.new rfl) rfl rfl rfl ?_; rintro _ _ ⟨rfl,rfl⟩; refine ⟨(by repeat' (first|exact trivial|refine ⟨⟨qsafe_ok (st:=[]) rfl,Sure.of rfl⟩,?_⟩|refine ⟨.inl rfl,?_⟩|refine ⟨.inr ⟨qsafe_ok (st:=[]) rfl,Sure.of rfl⟩,?_⟩|refine ⟨⟨qsafe_ok (st:=[]) rfl,Sure.slice (by omega)⟩,?_⟩|refine ⟨.inr ⟨qsafe_ok (st:=[]) rfl,Sure.slice (by omega)⟩,?_⟩|refine ⟨.inr ⟨QY.neqB rfl (by kernel_rfl) rfl rfl,Sure.of rfl⟩,?_⟩|refine ⟨.inr ⟨QY.eqlB rfl (by kernel_rfl) rfl rfl,Sure.of rfl⟩,?_⟩ | fail)),LSt.nf ?_⟩; conv=>whnf)|refine L_rT ?_|refine L_regT ?_|refine P_lin rfl ?_|refine P_A [] rfl ?_ ?_|(refine P_Ed [] rfl rfl (EWd.callF [] (hC) rfl rfl (by decide) (by repeat' (first|exact trivial|refine ⟨rfl,?_⟩ | fail)) rfl rfl rfl) rfl rfl rfl ?_; rintro _ _ ⟨rfl,rfl⟩; refine ⟨(by repeat' (first|exact trivial|refine ⟨⟨qsafe_ok (st:=[]) rfl,Sure.of rfl⟩,?_⟩|refine ⟨.inl rfl,?_⟩|refine ⟨.inr ⟨qsafe_ok (st:=[]) rfl,Sure.of rfl⟩,?_⟩|refine ⟨⟨qsafe_ok (st:=[]) rfl,Sure.slice (by omega)⟩,?_⟩|refine ⟨.inr ⟨qsafe_ok (st:=[]) rfl,Sure.slice (by omega)⟩,?_⟩|refine ⟨.inr ⟨QY.neqB rfl (by kernel_rfl) rfl rfl,Sure.of rfl⟩,?_⟩|refine ⟨.inr ⟨QY.eqlB rfl (by kernel_rfl) rfl rfl,Sure.of rfl⟩,?_⟩ | fail)),LPt.nf ?_⟩; conv=>whnf)|(refine P_Ed [] rfl rfl (EWd.callF [4,5] (hX) rfl rfl (by decide) (by repeat' (first|exact trivial|refine ⟨rfl,?_⟩ | fail)) rfl rfl rfl) rfl rfl rfl ?_; rintro _ _ ⟨rfl,rfl⟩; refine ⟨(by repeat' (first|exact trivial|refine ⟨⟨qsafe_ok (st:=[]) rfl,Sure.of rfl⟩,?_⟩|refine ⟨.inl rfl,?_⟩|refine ⟨.inr ⟨qsafe_ok (st:=[]) rfl,Sure.of rfl⟩,?_⟩|refine ⟨⟨qsafe_ok (st:=[]) rfl,Sure.slice (by omega)⟩,?_⟩|refine ⟨.inr ⟨qsafe_ok (st:=[]) rfl,Sure.slice (by omega)⟩,?_⟩|refine ⟨.inr ⟨QY.neqB rfl (by kernel_rfl) rfl rfl,Sure.of rfl⟩,?_⟩|refine ⟨.inr ⟨QY.eqlB rfl (by kernel_rfl) rfl rfl,Sure.of rfl⟩,?_⟩ | fail)),LPt.nf ?_⟩; conv=>whnf)|(refine P_Ed [] rfl rfl (EWd.new rfl) rfl rfl rfl ?_; rintro _ _ ⟨rfl,rfl⟩; refine ⟨(by repeat' (first|exact trivial|refine ⟨⟨qsafe_ok (st:=[]) rfl,Sure.of rfl⟩,?_⟩|refine ⟨.inl rfl,?_⟩|refine ⟨.inr ⟨qsafe_ok (st:=[]) rfl,Sure.of rfl⟩,?_⟩|refine ⟨⟨qsafe_ok (st:=[]) rfl,Sure.slice (by omega)⟩,?_⟩|refine ⟨.inr ⟨qsafe_ok (st:=[]) rfl,Sure.slice (by omega)⟩,?_⟩|refine ⟨.inr ⟨QY.neqB rfl (by kernel_rfl) rfl rfl,Sure.of rfl⟩,?_⟩|refine ⟨.inr ⟨QY.eqlB rfl (by kernel_rfl) rfl rfl,Sure.of rfl⟩,?_⟩ | fail)),LPt.nf ?_⟩; conv=>whnf)|refine aA ?_|refine aS ?_|refine aI (hn:=?_)|refine qR ?_|refine qS ?_|exact ⟨rfl,rfl⟩|fail)
       all_goals first
        |exact Nx.pick [0,2,4,8,10,11,41,42,43] [0,1,2,3,4,5,6,8,9,10] rfl rfl rfl ⟨rfl,rfl⟩
        |exact Nx.pick [0,2,4,8,10,11,41,42,43] [0,1,2,3,4,5,6,9,10,8] rfl rfl rfl ⟨rfl,rfl⟩
      rintro _ _ ⟨rfl,rfl⟩
      clear hR hC hX
      refine L_seq (L_mid (fun E L=>E=[(0,pp 0),(2,.int .i64 (bitsOf p)),(4,pp 6),(8,.int .i64 k),(10,pp 9),(41,slB 1 l.length),(42,.int .i64 l.length),(43,.int .i64 k)]∧L=FRB l b0 G' p.length xs' s++(spB s'++[.cells 0 (spC 7 8 s')])) ?_ ?_)
      ·repeat' (first|refine qN ?_|refine dN ?_|refine dR ?_|refine d0 ?_|refine qB ?_|refine rT ?_|refine qT ?_|refine qU ?_|refine qL ?_|refine qK ?_|refine qF ?_|refine qE ?_|refine iF (fun h=>?_) (fun h=>?_)|refine aX ?_|refine aA ?_|refine aS ?_|refine aI (hn:=?_)|refine qR ?_|refine qS ?_|exact ⟨rfl,rfl⟩|fail)
       exact Nx.pick [0,2,4,8,10,41,42,43] [0,1,2,3,4,5,6,7,8,9] rfl rfl rfl ⟨rfl,rfl⟩
      rintro _ _ ⟨rfl,rfl⟩
      have hbl:bitsOf p<2 ^ 62:=Nat.lt_of_lt_of_le (bits_lt (n:=l.length) (fun x hx=>(hF.pp.rng x hx).2) (by omega)) (Nat.pow_le_pow_right (by decide) (by omega))
      have hbk:1 <<< k<2 ^ 62:=by rw [Nat.one_shiftLeft]; exact Nat.pow_lt_pow_right (by decide) (by omega)
      by_cases hpx:p.length<xs'.length
      ·have hFH:FH l s0 (p++[(k:Int)]) s' w' G' (xs'.set p.length (k:Int)):=⟨hpp,hout,hI.other k,by rw [List.length_append,List.length_singleton,take_set hpx,htk],by simp; omega,by simp; omega⟩
       have hrec:=ih _ _ _ _ _ (by rw [List.length_append,List.length_singleton]; omega) hFH
       simp only [FromT,SLB,List.length_append,List.length_singleton,List.length_set,bits_snoc] at hrec
       refine L_seq (L_mid (fun E L=>E=[(0,pp 0),(2,.int .i64 (bitsOf p)),(4,pp 6),(8,.int .i64 k),(10,pp 9),(41,slB 1 l.length),(42,.int .i64 l.length),(43,.int .i64 k)]∧L=[SHC l.length (p.length+1) xs'.length,EVB l,skB b0 G',.gro 1 (rowsC intC (xs'.set p.length (k:Int)))]++(spB s++[.cells 0 (spC 4 5 s)])++(spB s'++[.cells 0 (spC 7 8 s')])) ?_ ?_)
       ·repeat' (first|refine qN ?_|refine dN ?_|refine dR ?_|refine d0 ?_|refine qB ?_|refine rT ?_|refine qT ?_|refine qU ?_|refine qL ?_|refine qK ?_|refine qF ?_|refine qE ?_|refine iF (fun h=>?_) (fun h=>?_)|refine aX ?_|(refine eE rfl rfl (EW.appIn (bytes:=8) (xs:=xs') (a:=(k:Int)) intC_ok rfl (by kernel_rfl) rfl rfl rfl rfl rfl hpx (by omega) (by omega)) ?_; conv=>whnf)|refine aA ?_|refine aS ?_|refine aI (hn:=?_)|refine qR ?_|refine qS ?_|exact ⟨rfl,rfl⟩|fail)
        exact Nx.pick [0,2,4,8,10,41,42,43] [0,1,2,3,4,5,6,7,8,9] rfl rfl rfl ⟨rfl,rfl⟩
       rintro _ _ ⟨rfl,rfl⟩
       repeat' (first|refine qN ?_|refine dN ?_|refine dR ?_|refine d0 ?_|refine qB ?_|refine rT ?_|refine qT ?_|refine qU ?_|refine qL ?_|refine qK ?_|refine qF ?_|refine qE ?_|refine iF (fun h=>?_) (fun h=>?_)|refine aX ?_|refine S_Q [] rfl rfl (QY.shift rfl rfl (by omega) (shl_nat k (by omega))) ?_|refine S_Q [] rfl rfl (QY.arith rfl rfl (or_nat _ _ hbl hbk) rfl) ?_|refine aA ?_|refine aS ?_|refine aI (hn:=?_)|refine qR ?_|refine qS ?_|exact ⟨rfl,rfl⟩|fail)
       refine cX [0,1,2,3,7,8] hrec (fun i hi=>?_)
       obtain ⟨b,G2,xs2⟩:=i
       cases b
       ·obtain ⟨c1,c2,c3,c4,c5⟩:=hi
        have c2:p.length + [(k:Int)].length≤xs2.length:=by rw [← List.length_append]; exact c2
        have c1:xs2.length≤l.length:=c1
        have c6:xs2.take p.length=p:=by
         have e:=congrArg (List.take p.length) c4
         rwa [List.take_take,List.length_append,Nat.min_eq_left (by omega),List.take_append_of_le_length (Nat.le_refl _),List.take_length] at e
        have hn2:=c3
        rw [show l.length-(p++[(k:Int)]).length=f by rw [List.length_append,List.length_singleton]; omega] at hn2
        simp only [List.length_singleton] at c2
        conv=>whnf
        repeat' (first|refine qN ?_|refine dN ?_|refine dR ?_|refine d0 ?_|refine qB ?_|refine rT ?_|refine qT ?_|refine qU ?_|refine qL ?_|refine qK ?_|refine qF ?_|refine qE ?_|refine iF (fun h=>?_) (fun h=>?_)|refine aX ?_|refine S_Q [] rfl rfl (QY.sub (a:=((p.length+1:Nat):Int)) (b:=1) (c:=((p.length:Nat):Int)) rfl rfl (by omega) (by omega) (by omega)) ?_|refine S_Q [] rfl rfl (QY.slc0 (n:=p.length+1) (c:=xs2.length) (lo':=0) (hi':=p.length) rfl rfl rfl (by omega) (by omega)) ?_|refine aA ?_|refine aS ?_|refine aI (hn:=?_)|refine qR ?_|refine qS ?_|exact ⟨rfl,rfl⟩|fail)
        exact Nx.pick [0,2,4,41,42,43] [0,1,2,3,4,5,6] rfl rfl rfl ⟨l.length-(k+1),by omega,k+1,G2,xs2,rfl,by omega,c5.other 0,c6,by omega,c1,hno2 hn2,rfl,rfl⟩
       ·obtain ⟨c1,c2,c3⟩:=hi
        have hh:=srch_hit hkl hno (by rw [show l.length-(p++[(k:Int)]).length=f by rw [List.length_append,List.length_singleton]; omega] at c3; exact c3)
        have hcc:FC l s0 p (true,G2,xs2):=⟨c1,c2,by show srch _ _ (l.length-p.length) _=_; rw [← hf]; exact hh⟩
        conv=>whnf
        repeat' (first|refine qN ?_|refine dN ?_|refine d0 ?_|refine qB ?_|refine qT ?_|refine qU ?_|refine qL ?_|refine qK ?_|refine qF ?_|refine qE ?_|refine iF (fun h=>?_) (fun h=>?_)|refine aX ?_|refine aA ?_|refine aS ?_|refine aI (hn:=?_)|refine qR ?_|refine qS ?_|exact ⟨rfl,rfl⟩|fail)
        exact L_ret (RetQ.pick [0,1,2,3,4,5] rfl rfl rfl rfl ⟨(true,G2,xs2),hcc,rfl,rfl⟩)
      ·have hpe:xs'.length=p.length:=by omega
       have hxe:xs'=p:=by rw [← htk,List.take_of_length_le (by omega)]
       subst hxe
       have hFH:FH l s0 (xs'++[(k:Int)]) s' w' G' (xs'++[(k:Int)]):=⟨hpp,hout,hI.other k,List.take_length,Nat.le_refl _,hpp.len⟩
       have hrec:=ih _ _ _ _ _ (by rw [List.length_append,List.length_singleton]; omega) hFH
       simp only [FromT,SLB,List.length_append,List.length_singleton,bits_snoc] at hrec
       refine L_seq (L_mid (fun E L=>E=[(0,pp 0),(2,.int .i64 (bitsOf xs')),(4,pp 6),(8,.int .i64 k),(10,pp 9),(41,slB 1 l.length),(42,.int .i64 l.length),(43,.int .i64 k)]∧L=[SHC l.length (xs'.length+1) (xs'.length+1),EVB l,skB b0 G',.gro 1 (rowsC intC (xs'++[(k:Int)]))]++(spB s++[.cells 0 (spC 4 5 s)])++(spB s'++[.cells 0 (spC 7 8 s')])) ?_ ?_)
       ·repeat' (first|refine qN ?_|refine dN ?_|refine dR ?_|refine d0 ?_|refine qB ?_|refine rT ?_|refine qT ?_|refine qU ?_|refine qL ?_|refine qK ?_|refine qF ?_|refine qE ?_|refine iF (fun h=>?_) (fun h=>?_)|refine aX ?_|(refine eE rfl rfl (EW.appR1 (bytes:=8) (xs:=xs') (a:=(k:Int)) intC_ok rfl (by kernel_rfl) rfl rfl rfl rfl rfl (by omega)) ?_; conv=>whnf)|refine aA ?_|refine aS ?_|refine aI (hn:=?_)|refine qR ?_|refine qS ?_|exact ⟨rfl,rfl⟩|fail)
        exact Nx.pick [0,2,4,8,10,41,42,43] [0,1,2,11,4,5,6,7,8,9] rfl rfl rfl ⟨rfl,rfl⟩
       rintro _ _ ⟨rfl,rfl⟩
       repeat' (first|refine qN ?_|refine dN ?_|refine dR ?_|refine d0 ?_|refine qB ?_|refine rT ?_|refine qT ?_|refine qU ?_|refine qL ?_|refine qK ?_|refine qF ?_|refine qE ?_|refine iF (fun h=>?_) (fun h=>?_)|refine aX ?_|refine S_Q [] rfl rfl (QY.shift rfl rfl (by omega) (shl_nat k (by omega))) ?_|refine S_Q [] rfl rfl (QY.arith rfl rfl (or_nat _ _ hbl hbk) rfl) ?_|refine aA ?_|refine aS ?_|refine aI (hn:=?_)|refine qR ?_|refine qS ?_|exact ⟨rfl,rfl⟩|fail)
       refine cX [0,1,2,3,7,8] hrec (fun i hi=>?_)
       obtain ⟨b,G2,xs2⟩:=i
       cases b
       ·obtain ⟨c1,c2,c3,c4,c5⟩:=hi
        have c2:xs'.length + [(k:Int)].length≤xs2.length:=by rw [← List.length_append]; exact c2
        have c1:xs2.length≤l.length:=c1
        have c6:xs2.take xs'.length=xs':=by
         have e:=congrArg (List.take xs'.length) c4
         rwa [List.take_take,List.length_append,Nat.min_eq_left (by omega),List.take_append_of_le_length (Nat.le_refl _),List.take_length] at e
        have hn2:=c3
        rw [show l.length-(xs'++[(k:Int)]).length=f by rw [List.length_append,List.length_singleton]; omega] at hn2
        simp only [List.length_singleton] at c2
        conv=>whnf
        repeat' (first|refine qN ?_|refine dN ?_|refine dR ?_|refine d0 ?_|refine qB ?_|refine rT ?_|refine qT ?_|refine qU ?_|refine qL ?_|refine qK ?_|refine qF ?_|refine qE ?_|refine iF (fun h=>?_) (fun h=>?_)|refine aX ?_|refine S_Q [] rfl rfl (QY.sub (a:=((xs'.length+1:Nat):Int)) (b:=1) (c:=((xs'.length:Nat):Int)) rfl rfl (by omega) (by omega) (by omega)) ?_|refine S_Q [] rfl rfl (QY.slc0 (n:=xs'.length+1) (c:=xs2.length) (lo':=0) (hi':=xs'.length) rfl rfl rfl (by omega) (by omega)) ?_|refine aA ?_|refine aS ?_|refine aI (hn:=?_)|refine qR ?_|refine qS ?_|exact ⟨rfl,rfl⟩|fail)
        exact Nx.pick [0,2,4,41,42,43] [0,1,2,3,4,5,6] rfl rfl rfl ⟨l.length-(k+1),by omega,k+1,G2,xs2,rfl,by omega,c5.other 0,c6,by omega,c1,hno2 hn2,rfl,rfl⟩
       ·obtain ⟨c1,c2,c3⟩:=hi
        have hh:=srch_hit hkl hno (by rw [show l.length-(xs'++[(k:Int)]).length=f by rw [List.length_append,List.length_singleton]; omega] at c3; exact c3)
        have hcc:FC l s0 xs' (true,G2,xs2):=⟨c1,c2,by show srch _ _ (l.length-xs'.length) _=_; rw [← hf]; exact hh⟩
        conv=>whnf
        repeat' (first|refine qN ?_|refine dN ?_|refine d0 ?_|refine qB ?_|refine qT ?_|refine qU ?_|refine qL ?_|refine qK ?_|refine qF ?_|refine qE ?_|refine iF (fun h=>?_) (fun h=>?_)|refine aX ?_|refine aA ?_|refine aS ?_|refine aI (hn:=?_)|refine qR ?_|refine qS ?_|exact ⟨rfl,rfl⟩|fail)
        exact L_ret (RetQ.pick [0,1,2,3,4,5] rfl rfl rfl rfl ⟨(true,G2,xs2),hcc,rfl,rfl⟩)
   ·refine Nx.goL ?_
    obtain rfl:k=l.length:=by omega
    have hn:=srch_miss hno
    have hcc:FC l s0 p (false,G',xs'):=⟨hmx,hle,by rw [← hf]; exact hn,htk,hI.done (by omega) hF.pp hF.out rfl (by rw [← hf]; exact hn)⟩
    repeat' (first|refine qN ?_|refine dN ?_|refine d0 ?_|refine qB ?_|refine qT ?_|refine qU ?_|refine qL ?_|refine qK ?_|refine qF ?_|refine qE ?_|refine iF (fun h=>?_) (fun h=>?_)|refine aX ?_|refine aA ?_|refine aS ?_|refine aI (hn:=?_)|refine qR ?_|refine qS ?_|exact ⟨rfl,rfl⟩|fail)
    exact L_ret (RetQ.pick [0,1,2,3,4,5] rfl rfl rfl rfl ⟨(false,G',xs'),hcc,rfl,rfl⟩)
  ·have hin:skOf p s∈G:=of_decide_eq_true hmm
   have hR:FC l s0 p (false,G,xs):=⟨hF.mx,hF.le,met_none (by omega) hF.pp hF.im hin,hF.tk,hF.im⟩
   repeat' (first|refine qN ?_|refine dN ?_|refine d0 ?_|refine qB ?_|refine qT ?_|refine qU ?_|refine qL ?_|refine qK ?_|refine qF ?_|refine qE ?_|refine iF (fun h=>?_) (fun h=>?_)|refine aX ?_|refine cP [4,5] (hK) ?_|refine S_Q [] rfl rfl (met_get hmm rfl rfl rfl rfl) ?_|refine aA ?_|refine aS ?_|refine aI (hn:=?_)|refine qR ?_|refine qS ?_|exact ⟨rfl,rfl⟩|fail)
   ·exfalso; omega
   ·exact L_ret (RetQ.pick [0,1,2,3,4,5] rfl rfl rfl rfl ⟨(false,G,xs),hR,rfl,rfl⟩)
end Go.Proofs.Ythgmdlmeeebfiaa
end
section
namespace Go.Proofs.Ythgmdlmeeebfiaa
open Go Go.Tum Go.Tum.Base
set_option maxRecDepth 4000
abbrev Sz (ma ar:Int):Sp:=⟨ma,ar,[],0,[],0⟩
theorem newB_tr (ma ar:Int):Tr Try.prog 33 [.agg ⟨[.int .i64 ma,.int .i64 ar]⟩] [] (fun v K=>v=spV 0 1 (Sz ma ar)∧K=spB (Sz ma ar)) :=
 Tr.nilV 3 1 (Tr.nilV 2 2 (new_tr ma ar) rfl) rfl
theorem fh_zero (l:List Ev) {ma ar:Int} (hm:0≤ma∧ma≤8191) (ha:0≤ar∧ar≤8191):FH l (Sz ma ar) [] (Sz ma ar) (Sz ma ar) [] [] :=
 ⟨PP.zero hm ha,fun x hx=>(by cases hx),⟨List.nodup_nil,fun x hx=>(by cases hx)⟩,rfl,Nat.le_refl _,Nat.zero_le _⟩
def firstO (l:List Ev) (ma ar:Int):Option (List Int):=srch (RPB l (Sz ma ar)) l.length l.length []
set_option maxHeartbeats 2000000 in
theorem order_some (l:List Ev) (hl:l.length≤12) (ma ar:Int) (hm:0≤ma∧ma≤8191) (ha:0≤ar∧ar≤8191) (o:List Int) (ho:firstO l ma ar=some o) :
  Tr Try.prog 22 [.agg ⟨[.int .i64 ma,.int .i64 ar]⟩,slB 0 l.length] [EVB l] (fun v K=>v=.tuple ⟨[slB 1 l.length,.bool true,.int .i64 0]⟩∧K=[EVB l,.gro 1 (rowsC intC o)]):=by
 have hN:=newB_tr ma ar
 refine Tr.of row_linear_Order_ok rfl ?_
 refine L_seq (L_mid (fun E L=>E=[(1,slB 0 l.length),(2,pp 1)]∧L=[EVB l,.cells 0 [.int .i64 ma,.int .i64 ar]]) ?_ ?_)
 ·repeat' (first|refine qN ?_|refine dN ?_|refine dR ?_|refine d0 ?_|refine rT ?_|refine qT ?_|refine qU ?_|refine qL ?_|refine qK ?_|refine iF (fun h=>?_) (fun h=>?_)|refine aI (hn:=?_)|refine qR ?_|refine qS ?_|exact ⟨rfl,rfl⟩|fail)
  exact Nx.pick [1,2] [0,1] rfl rfl rfl ⟨rfl,rfl⟩
 rintro _ _ ⟨rfl,rfl⟩
 refine L_seq (L_mid (fun E L=>E=[(1,slB 0 l.length),(2,pp 1)]∧L=[EVB l,.cells 0 [.int .i64 ma,.int .i64 ar]]) ?_ ?_)
 ·repeat' (first|refine qN ?_|refine dN ?_|refine dR ?_|refine d0 ?_|refine rT ?_|refine qT ?_|refine qU ?_|refine qL ?_|refine qK ?_|refine iF (fun h=>?_) (fun h=>?_)|refine aI (hn:=?_)|refine qR ?_|refine qS ?_|exact ⟨rfl,rfl⟩|fail)
  ·exfalso; omega
  ·exact Nx.pick [1,2] [0,1] rfl rfl rfl ⟨rfl,rfl⟩
 rintro _ _ ⟨rfl,rfl⟩
 refine L_seq (L_mid (fun E L=>∃ b0,E=[(2,pp 1),(7,pp 3)]∧L=[EVB l,.cells 0 [.int .i64 ma,.int .i64 ar],skB b0 [],.cells 0 [slB 0 l.length,.map (some 2),.slice none 0 0]]) ?_ ?_)
 ·repeat' (first|refine qN ?_|refine dN ?_|refine dR ?_|refine d0 ?_|refine rT ?_|refine qT ?_|refine qU ?_|refine qL ?_|refine qK ?_|refine iF (fun h=>?_) (fun h=>?_)|(refine S_E [] rfl rfl (EW.skmake rfl) ?_; rintro _ _ ⟨b0,rfl,rfl⟩; refine ⟨(by repeat' (first|exact trivial|refine ⟨⟨qsafe_ok (st:=[]) rfl,Sure.of rfl⟩,?_⟩|refine ⟨.inl rfl,?_⟩|refine ⟨.inr ⟨qsafe_ok (st:=[]) rfl,Sure.of rfl⟩,?_⟩|refine ⟨⟨qsafe_ok (st:=[]) rfl,Sure.slice (by omega)⟩,?_⟩|refine ⟨.inr ⟨qsafe_ok (st:=[]) rfl,Sure.slice (by omega)⟩,?_⟩|refine ⟨.inr ⟨QY.neqB rfl (by kernel_rfl) rfl rfl,Sure.of rfl⟩,?_⟩|refine ⟨.inr ⟨QY.eqlB rfl (by kernel_rfl) rfl rfl,Sure.of rfl⟩,?_⟩ | fail)),LSt.nf ?_⟩; conv=>whnf)|refine aI (hn:=?_)|refine qR ?_|refine qS ?_|exact ⟨rfl,rfl⟩|fail)
  exact Nx.pick [2,7] [0,1,2,3] rfl rfl rfl ⟨b0,rfl,rfl⟩
 rintro _ _ ⟨b0,rfl,rfl⟩
 refine LWp.nilC 3 2 1 rfl rfl ?_
 have hF:=from_tr l hl b0 (Sz ma ar) l.length [] _ _ _ _ (by simp) (fh_zero l hm ha)
 unfold FromT at hF
 repeat' (first|refine qN ?_|refine dN ?_|refine dR ?_|refine d0 ?_|refine rT ?_|refine qT ?_|refine qU ?_|refine qL ?_|refine qK ?_|refine iF (fun h=>?_) (fun h=>?_)|(refine cF [] (hN) ?_; conv=>whnf)|refine aI (hn:=?_)|refine qR ?_|refine qS ?_|exact ⟨rfl,rfl⟩|fail)
 refine cX [3,0,2,4,5,6] hF (fun i hi=>?_)
 obtain ⟨b,G2,xs2⟩:=i
 cases b
 ·have:=hi.2.2.1
  exact absurd (ho.symm.trans this) (by simp)
 ·have h1:xs2.length≤l.length:=hi.1
  have h2:l.length≤xs2.length:=hi.2.1
  have h3:firstO l ma ar=some (xs2.take l.length):=hi.2.2
  rw [List.take_of_length_le h1,ho] at h3
  cases h3
  have e:o.length=l.length:=by omega
  conv=>whnf
  repeat' (first|refine qN ?_|refine dN ?_|refine d0 ?_|refine qT ?_|refine qU ?_|refine qL ?_|refine qK ?_|refine iF (fun h=>?_) (fun h=>?_)|refine aI (hn:=?_)|refine qR ?_|refine qS ?_|exact ⟨rfl,rfl⟩|fail)
  exact L_ret (RetQ.pick [0,4] rfl rfl rfl rfl ⟨congrArg (fun c=>Value.tuple ⟨[slC 1 l.length c,.bool true,.int .i64 0]⟩) e,rfl⟩)
set_option maxHeartbeats 2000000 in
theorem order_none (l:List Ev) (hl:l.length≤12) (ma ar:Int) (hm:0≤ma∧ma≤8191) (ha:0≤ar∧ar≤8191) (ho:firstO l ma ar=none) :
  Tr Try.prog 22 [.agg ⟨[.int .i64 ma,.int .i64 ar]⟩,slB 0 l.length] [EVB l] (fun v K=>v=.tuple ⟨[.slice none 0 0,.bool false,.int .i64 0]⟩∧K=[EVB l]):=by
 have hN:=newB_tr ma ar
 refine Tr.of row_linear_Order_ok rfl ?_
 refine L_seq (L_mid (fun E L=>E=[(1,slB 0 l.length),(2,pp 1)]∧L=[EVB l,.cells 0 [.int .i64 ma,.int .i64 ar]]) ?_ ?_)
 ·repeat' (first|refine qN ?_|refine dN ?_|refine dR ?_|refine d0 ?_|refine rT ?_|refine qT ?_|refine qU ?_|refine qL ?_|refine qK ?_|refine iF (fun h=>?_) (fun h=>?_)|refine aI (hn:=?_)|refine qR ?_|refine qS ?_|exact ⟨rfl,rfl⟩|fail)
  exact Nx.pick [1,2] [0,1] rfl rfl rfl ⟨rfl,rfl⟩
 rintro _ _ ⟨rfl,rfl⟩
 refine L_seq (L_mid (fun E L=>E=[(1,slB 0 l.length),(2,pp 1)]∧L=[EVB l,.cells 0 [.int .i64 ma,.int .i64 ar]]) ?_ ?_)
 ·repeat' (first|refine qN ?_|refine dN ?_|refine dR ?_|refine d0 ?_|refine rT ?_|refine qT ?_|refine qU ?_|refine qL ?_|refine qK ?_|refine iF (fun h=>?_) (fun h=>?_)|refine aI (hn:=?_)|refine qR ?_|refine qS ?_|exact ⟨rfl,rfl⟩|fail)
  ·exfalso; omega
  ·exact Nx.pick [1,2] [0,1] rfl rfl rfl ⟨rfl,rfl⟩
 rintro _ _ ⟨rfl,rfl⟩
 refine L_seq (L_mid (fun E L=>∃ b0,E=[(2,pp 1),(7,pp 3)]∧L=[EVB l,.cells 0 [.int .i64 ma,.int .i64 ar],skB b0 [],.cells 0 [slB 0 l.length,.map (some 2),.slice none 0 0]]) ?_ ?_)
 ·repeat' (first|refine qN ?_|refine dN ?_|refine dR ?_|refine d0 ?_|refine rT ?_|refine qT ?_|refine qU ?_|refine qL ?_|refine qK ?_|refine iF (fun h=>?_) (fun h=>?_)|(refine S_E [] rfl rfl (EW.skmake rfl) ?_; rintro _ _ ⟨b0,rfl,rfl⟩; refine ⟨(by repeat' (first|exact trivial|refine ⟨⟨qsafe_ok (st:=[]) rfl,Sure.of rfl⟩,?_⟩|refine ⟨.inl rfl,?_⟩|refine ⟨.inr ⟨qsafe_ok (st:=[]) rfl,Sure.of rfl⟩,?_⟩|refine ⟨⟨qsafe_ok (st:=[]) rfl,Sure.slice (by omega)⟩,?_⟩|refine ⟨.inr ⟨qsafe_ok (st:=[]) rfl,Sure.slice (by omega)⟩,?_⟩|refine ⟨.inr ⟨QY.neqB rfl (by kernel_rfl) rfl rfl,Sure.of rfl⟩,?_⟩|refine ⟨.inr ⟨QY.eqlB rfl (by kernel_rfl) rfl rfl,Sure.of rfl⟩,?_⟩ | fail)),LSt.nf ?_⟩; conv=>whnf)|refine aI (hn:=?_)|refine qR ?_|refine qS ?_|exact ⟨rfl,rfl⟩|fail)
  exact Nx.pick [2,7] [0,1,2,3] rfl rfl rfl ⟨b0,rfl,rfl⟩
 rintro _ _ ⟨b0,rfl,rfl⟩
 refine LWp.nilC 3 2 1 rfl rfl ?_
 have hF:=from_tr l hl b0 (Sz ma ar) l.length [] _ _ _ _ (by simp) (fh_zero l hm ha)
 unfold FromT at hF
 repeat' (first|refine qN ?_|refine dN ?_|refine dR ?_|refine d0 ?_|refine rT ?_|refine qT ?_|refine qU ?_|refine qL ?_|refine qK ?_|refine iF (fun h=>?_) (fun h=>?_)|(refine cF [] (hN) ?_; conv=>whnf)|refine aI (hn:=?_)|refine qR ?_|refine qS ?_|exact ⟨rfl,rfl⟩|fail)
 refine cX [3,0,2,4,5,6] hF (fun i hi=>?_)
 obtain ⟨b,G2,xs2⟩:=i
 cases b
 ·conv=>whnf
  repeat' (first|refine qN ?_|refine dN ?_|refine d0 ?_|refine qT ?_|refine qU ?_|refine qL ?_|refine qK ?_|refine iF (fun h=>?_) (fun h=>?_)|refine aI (hn:=?_)|refine qR ?_|refine qS ?_|exact ⟨rfl,rfl⟩|fail)
  exact L_ret (RetQ.pick [0] rfl rfl rfl rfl ⟨rfl,rfl⟩)
 ·have h3:firstO l ma ar=some (xs2.take l.length):=hi.2.2
  rw [ho] at h3; cases h3
end Go.Proofs.Ythgmdlmeeebfiaa
end
section
namespace Go.Proofs.Ythgmdlmeeebfiaa
open Go Go.Tum Go.Tum.Base
set_option maxRecDepth 4000
theorem nodup_at {o:List Int} (h:o.Nodup) {a b:Nat} {x y:Int} (hab:a<b) (hx:o[a]?=some x) (hy:o[b]?=some y):x≠y:=by
 rw [List.nodup_iff_pairwise_ne,List.pairwise_iff_getElem] at h
 obtain ⟨h1,e1⟩:=List.getElem?_eq_some_iff.1 hx
 obtain ⟨h2,e2⟩:=List.getElem?_eq_some_iff.1 hy
 have:=h a b h1 h2 hab
 rwa [e1,e2] at this
theorem split_at {o:List Int} {i:Nat} {k:Int} (h:o[i]?=some k):o=o.take i++[k]++o.drop (i+1):=by
 have h3:=List.take_append_drop (i+1) o
 rw [List.take_add_one,h] at h3
 exact h3.symm
abbrev RDG (l:List Ev) (w:Sp) (xs:List Int):LH:=[EVB l,.gro 1 (rowsC intC xs),.cells 0 (spC 3 4 w)]++spB w
set_option maxHeartbeats 4000000 in
theorem rrightG_tr (l:List Ev) (hl:l.length≤20) (ma ar:Int) (hm:0≤ma∧ma≤8191) (ha:0≤ar∧ar≤8191) (xs:List Int) (n c:Nat) (hx:xs.length=c) (hn:n≤c) :
  TrK Try.prog [] [0,1] 32 [.agg ⟨[.int .i64 ma,.int .i64 ar,.slice none 0 0,.slice none 0 0]⟩,slB 0 l.length,slC 1 n c] [EVB l,.gro 1 (rowsC intC xs)] (fun v K=>v=.bool (decide (RP l (Sz ma ar) (xs.take n)))∧K=[EVB l,.gro 1 (rowsC intC xs)]):=by
 have hln:(xs.take n).length=n:=by rw [List.length_take]; omega
 refine Tr.of row_tumbrelref16_Right_ok rfl ?_
 refine L_seq (L_mid (fun E L=>E=[(1,slB 0 l.length),(2,slC 1 n c),(3,pp 2)]∧L=[EVB l,.gro 1 (rowsC intC xs),.cells 0 [.int .i64 ma,.int .i64 ar,.slice none 0 0,.slice none 0 0]]) ?_ ?_)
 ·repeat' (first|refine qN ?_|refine dN ?_|refine dR ?_|refine d0 ?_|refine qB ?_|refine rT ?_|refine qT ?_|refine qU ?_|refine qL ?_|refine qK ?_|refine qF ?_|refine qE ?_|refine iF (fun h=>?_) (fun h=>?_)|refine aX ?_|refine aA ?_|refine aI (hn:=?_)|refine sP 25 (fun h=>?_) (fun h=>?_)|refine sP 42 (fun h=>?_) (fun h=>?_)|refine qR ?_|refine qS ?_|exact ⟨rfl,rfl⟩|fail)
  exact Nx.pick [1,2,3] [0,1,2] rfl rfl rfl ⟨rfl,rfl⟩
 rintro _ _ ⟨rfl,rfl⟩
 refine LWp.nilC 2 2 2 rfl rfl (LWp.nilC 2 3 1 rfl rfl ?_)
 by_cases hnm:n=l.length
 ·subst hnm
  generalize ho:xs.take l.length=o at *
  have hxo:∀ (i:Nat) (x:Int),o[i]?=some x→xs[i]?=some x:=fun i x h=>by
   have:=(List.getElem?_eq_some_iff.1 h).1
   rw [← ho,List.getElem?_take_of_lt (by omega)] at h; exact h
  repeat' (first|refine qN ?_|refine dN ?_|refine dR ?_|refine d0 ?_|refine qB ?_|refine rT ?_|refine qT ?_|refine qU ?_|refine qL ?_|refine qK ?_|refine qF ?_|refine qE ?_|refine iF (fun h=>?_) (fun h=>?_)|refine aX ?_|refine aA ?_|refine aI (hn:=?_)|refine sP 25 (fun h=>?_) (fun h=>?_)|refine sP 42 (fun h=>?_) (fun h=>?_)|refine qR ?_|refine qS ?_|exact ⟨rfl,rfl⟩|fail)
  all_goals first | (exfalso; omega) | skip
  refine LWp.pick [1,2,3,16,17,18] [0,1,2,3,4] rfl rfl rfl (L_loop (fun q E L=>∃ (i:Nat) (s w:Sp),q=l.length-i∧i≤l.length∧PP l (Sz ma ar) (o.take i) s w∧E=[(1,slB 0 l.length),(2,slC 1 l.length c),(3,pp 2),(16,slC 1 l.length c),(17,.int .i64 l.length),(18,.int .i64 i)]∧L=RDG l w xs) l.length ⟨0,_,_,rfl,by omega,PP.zero hm ha,rfl,rfl⟩ ?_)
  rintro q _ _ ⟨i,s,w,rfl,hi,hP,rfl,rfl⟩
  first|refine L_seq (L_rs (S_done [] rfl (Nx.goL (iF (fun h=>L_skip (Nx.goL ?_)) (fun h=>L_exit ?_)))))|refine L_rs (S_done [] rfl (Nx.goL (L_seq (iF (fun h=>L_skip (Nx.goL ?_)) (fun h=>L_exit ?_)))))
  ·have hik:i<l.length:=by omega
   obtain ⟨x,hox⟩:∃ x,o[i]?=some x:=⟨_,List.getElem?_eq_getElem (by omega)⟩
   have hxk:=hxo _ _ hox
   by_cases hr:0≤x∧x<(l.length:Int)
   ·obtain ⟨k,hk,rfl⟩:∃ k:Nat,k<l.length∧x=k:=⟨x.toNat,by omega,by omega⟩
    have hev:=evA_at hk
    have htl:(o.take i).length=i:=by rw [List.length_take]; omega
    repeat' (first|refine qN ?_|refine dN ?_|refine dR ?_|refine d0 ?_|refine qB ?_|refine rT ?_|refine qT ?_|refine qU ?_|refine qL ?_|refine qK ?_|refine qF ?_|refine qE ?_|refine iF (fun h=>?_) (fun h=>?_)|refine aX ?_|refine S_Q [] rfl rfl (QY.ldI rfl rfl hxk) ?_|refine S_Q [] rfl rfl (QY.slc0 (lo':=0) (hi':=i) rfl rfl rfl (by omega) (by omega)) ?_|refine aA ?_|refine aI (hn:=?_)|refine sP 25 (fun h=>?_) (fun h=>?_)|refine sP 42 (fun h=>?_) (fun h=>?_)|refine qR ?_|refine qS ?_|exact ⟨rfl,rfl⟩|fail)
    all_goals first | (exfalso; omega) | skip
    refine LWp.pick [1,2,3,7,8,16,17,18,33,34,35] [0,1,2,3,4] rfl rfl rfl (L_loop (fun q E L=>∃ m:Nat,q=i-m∧m≤i∧(∀ b y,b<m→o[b]?=some y→y≠k∧na l y k)∧E=[(1,slB 0 l.length),(2,slC 1 l.length c),(3,pp 2),(7,.int .i64 i),(8,.int .i64 k),(16,slC 1 l.length c),(17,.int .i64 l.length),(18,.int .i64 i),(33,slC 1 i c),(34,.int .i64 i),(35,.int .i64 m)]∧L=RDG l w xs) i ⟨0,rfl,by omega,fun b y h=>by omega,rfl,rfl⟩ ?_)
    rintro q _ _ ⟨m,rfl,hmi,hin,rfl,rfl⟩
    first|refine L_seq (L_rs (S_done [] rfl (Nx.goL (iF (fun h=>L_skip (Nx.goL ?_)) (fun h=>L_exit ?_)))))|refine L_rs (S_done [] rfl (Nx.goL (L_seq (iF (fun h=>L_skip (Nx.goL ?_)) (fun h=>L_exit ?_)))))
    ·have hml:m<i:=by omega
     have hpm:(o.take i)[m]?=o[m]?:=List.getElem?_take_of_lt hml
     obtain ⟨k2,hk2,hok2⟩:=nat_of hP.rng (by omega:m<(o.take i).length)
     rw [hpm] at hok2
     have hxk2:=hxo _ _ hok2
     have hev2:=evA_at hk2
     by_cases hyk:k=k2
     ·have e:¬ RP l (Sz ma ar) o:=fun h=>nodup_at h.2.1.2.1 hml hok2 hox (by rw [hyk])
      rw [decide_eq_false e]
      repeat' (first|refine qN ?_|refine dN ?_|refine d0 ?_|refine qB ?_|refine qT ?_|refine qU ?_|refine qL ?_|refine qK ?_|refine qF ?_|refine qE ?_|refine iF (fun h=>?_) (fun h=>?_)|refine aX ?_|refine S_Q [] rfl rfl (QY.ldI rfl rfl hxk2) ?_|refine aA ?_|refine aI (hn:=?_)|refine sP 25 (fun h=>?_) (fun h=>?_)|refine sP 42 (fun h=>?_) (fun h=>?_)|refine qR ?_|refine qS ?_|exact ⟨rfl,rfl⟩|fail)
      all_goals first | (exfalso; omega) | skip
      exact L_ret (RetQ.pick [0,1] rfl rfl rfl rfl ⟨rfl,rfl⟩)
     ·by_cases hah:(evA l k).to_≤(evA l k2).frm
      ·have e:¬ RP l (Sz ma ar) o:=fun h=>by
        have:=pairK_of h.2.1.2.2 hml hok2 hox
        unfold na aheadB at this
        exact absurd hah (of_decide_eq_false this)
       rw [decide_eq_false e]
       repeat' (first|refine qN ?_|refine dN ?_|refine d0 ?_|refine qB ?_|refine qT ?_|refine qU ?_|refine qL ?_|refine qK ?_|refine qF ?_|refine qE ?_|refine iF (fun h=>?_) (fun h=>?_)|refine aX ?_|refine S_Q [] rfl rfl (QY.ldI rfl rfl hxk2) ?_|refine S_Q [] rfl rfl (QY.ldF (k:=k) (j:=7) Ev.ok rfl rfl hev rfl rfl) ?_|refine S_Q [] rfl rfl (QY.ldF (k:=k2) (j:=5) Ev.ok rfl rfl hev2 rfl rfl) ?_|refine aA ?_|refine aI (hn:=?_)|refine sP 25 (fun h=>?_) (fun h=>?_)|refine sP 42 (fun h=>?_) (fun h=>?_)|refine qR ?_|refine qS ?_|exact ⟨rfl,rfl⟩|fail)
       all_goals first | (exfalso; omega) | skip
       all_goals first|exact L_ret (RetQ.pick [0,1] rfl rfl rfl rfl ⟨rfl,rfl⟩)|exact absurd hah ‹_›
      ·repeat' (first|refine qN ?_|refine dN ?_|refine dR ?_|refine d0 ?_|refine qB ?_|refine rT ?_|refine qT ?_|refine qU ?_|refine qL ?_|refine qK ?_|refine qF ?_|refine qE ?_|refine iF (fun h=>?_) (fun h=>?_)|refine aX ?_|refine S_Q [] rfl rfl (QY.ldI rfl rfl hxk2) ?_|refine S_Q [] rfl rfl (QY.ldF (k:=k) (j:=7) Ev.ok rfl rfl hev rfl rfl) ?_|refine S_Q [] rfl rfl (QY.ldF (k:=k2) (j:=5) Ev.ok rfl rfl hev2 rfl rfl) ?_|refine aA ?_|refine aI (hn:=?_)|refine sP 25 (fun h=>?_) (fun h=>?_)|refine sP 42 (fun h=>?_) (fun h=>?_)|refine qR ?_|refine qS ?_|exact ⟨rfl,rfl⟩|fail)
       all_goals first | (exfalso; omega)|exact absurd ‹_› hah | skip
       exact Nx.pick [1,2,3,7,8,16,17,18,33,34,35] [0,1,2,3,4] rfl rfl rfl ⟨i-(m+1),by omega,m+1,rfl,by omega,fun b y h1 h2=>(by
        by_cases hb:b<m
        ·exact hin b y hb h2
        ·obtain rfl:b=m:=by omega
         rw [hok2] at h2; cases h2
         exact ⟨by omega,by unfold na aheadB; exact decide_eq_false hah⟩),rfl,rfl⟩
    ·refine Nx.goL ?_
     obtain rfl:m=i:=by omega
     have hmem:∀ y∈o.take m,y≠(k:Int)∧na l y k:=fun y hy=>by
      obtain ⟨b,hb⟩:=List.mem_iff_getElem?.1 hy
      have hbm:b<m:=by have:=(List.getElem?_eq_some_iff.1 hb).1; omega
      rw [List.getElem?_take_of_lt hbm] at hb
      exact hin b y hbm hb
     have hI:=hP.pi
     have hpn:=hP.len
     have hC:=rcall_tr (evA l k)
     have hM:=rmay_tr w hI.wm (by have:=hI.wl'; omega) (by have:=hI.wf'; omega) hI.wi (evA l k).cl
     rw [← may_same hI] at hM
     cases hmb:mayB s (evA l k).cl
     ·have e:¬ RP l (Sz ma ar) o:=by rw [split_at hox]; exact no_may hP hmb _
      rw [hmb] at hM
      rw [decide_eq_false e]
      repeat' (first|refine qN ?_|refine dN ?_|refine d0 ?_|refine qB ?_|refine qT ?_|refine qU ?_|refine qL ?_|refine qK ?_|refine qF ?_|refine qE ?_|refine iF (fun h=>?_) (fun h=>?_)|refine aX ?_|refine S_Q [] rfl rfl (QY.idxN (k:=k) rfl rfl hk) ?_|refine S_Q [] rfl rfl (QY.ldRow Ev.ok rfl rfl hev (by decide)) ?_|refine cP [] (hC) ?_|refine cP [3,4] (hM) ?_|refine aA ?_|refine aI (hn:=?_)|refine sP 25 (fun h=>?_) (fun h=>?_)|refine sP 42 (fun h=>?_) (fun h=>?_)|refine qR ?_|refine qS ?_|exact ⟨rfl,rfl⟩|fail)
      exact L_ret (RetQ.pick [0,1] rfl rfl rfl rfl ⟨rfl,rfl⟩)
     ·have hY:=rnext_tr w (by have:=hI.wl'; omega) (by have:=hI.wf'; omega) hI.wfi (evA l k).cl (next_ca hI.mb.2 hmb)
      have hPP:=hP.step hk (fun h=>(hmem _ h).1 rfl) (fun y hy=>(hmem y hy).2) hmb
      rw [hmb] at hM
      rw [show o.take m++[(k:Int)]=o.take (m+1) by rw [List.take_add_one,hox]; rfl] at hPP
      generalize nextS s (evA l k).cl=s' at *
      generalize rnextS w (evA l k).cl=w' at *
      repeat' (first|refine qN ?_|refine dN ?_|refine dR ?_|refine d0 ?_|refine qB ?_|refine rT ?_|refine qT ?_|refine qU ?_|refine qL ?_|refine qK ?_|refine qF ?_|refine qE ?_|refine iF (fun h=>?_) (fun h=>?_)|refine aX ?_|refine S_Q [] rfl rfl (QY.idxN (k:=k) rfl rfl hk) ?_|refine S_Q [] rfl rfl (QY.ldRow Ev.ok rfl rfl hev (by decide)) ?_|refine cP [] (hC) ?_|refine cP [3,4] (hM) ?_|(refine cF [3,4] (hY) ?_; conv=>whnf)|refine aA ?_|refine aI (hn:=?_)|refine sP 25 (fun h=>?_) (fun h=>?_)|refine sP 42 (fun h=>?_) (fun h=>?_)|refine qR ?_|refine qS ?_|exact ⟨rfl,rfl⟩|fail)
      exact Nx.pick [1,2,3,16,17,18] [0,1,2,5,6] rfl rfl rfl ⟨l.length-(m+1),by omega,m+1,s',w',rfl,by omega,hPP,rfl,rfl⟩
   ·have e:¬ RP l (Sz ma ar) o:=fun h=>hr (h.2.1.1 x (List.mem_of_getElem? hox))
    rw [decide_eq_false e]
    repeat' (first|refine qN ?_|refine dN ?_|refine d0 ?_|refine qB ?_|refine qT ?_|refine qU ?_|refine qL ?_|refine qK ?_|refine qF ?_|refine qE ?_|refine iF (fun h=>?_) (fun h=>?_)|refine aX ?_|refine S_Q [] rfl rfl (QY.ldI rfl rfl hxk) ?_|refine aA ?_|refine aI (hn:=?_)|refine sP 25 (fun h=>?_) (fun h=>?_)|refine sP 42 (fun h=>?_) (fun h=>?_)|refine qR ?_|refine qS ?_|exact ⟨rfl,rfl⟩|fail)
    all_goals first | (exfalso; omega)|exact L_ret (RetQ.pick [0,1] rfl rfl rfl rfl ⟨rfl,rfl⟩)
  ·refine Nx.goL ?_
   obtain rfl:i=l.length:=by omega
   rw [List.take_of_length_le (by omega)] at hP
   have e:RP l (Sz ma ar) o:=⟨by omega,⟨hP.rng,hP.nd,hP.pw⟩,hP.ac⟩
   rw [decide_eq_true e]
   repeat' (first|refine qN ?_|refine dN ?_|refine d0 ?_|refine qB ?_|refine qT ?_|refine qU ?_|refine qL ?_|refine qK ?_|refine qF ?_|refine qE ?_|refine iF (fun h=>?_) (fun h=>?_)|refine aX ?_|refine aA ?_|refine aI (hn:=?_)|refine sP 25 (fun h=>?_) (fun h=>?_)|refine sP 42 (fun h=>?_) (fun h=>?_)|refine qR ?_|refine qS ?_|exact ⟨rfl,rfl⟩|fail)
   exact L_ret (RetQ.pick [0,1] rfl rfl rfl rfl ⟨rfl,rfl⟩)
 ·have e:¬ RP l (Sz ma ar) (xs.take n):=fun h=>by have:=h.1; omega
  rw [decide_eq_false e]
  repeat' (first|refine qN ?_|refine dN ?_|refine d0 ?_|refine qB ?_|refine qT ?_|refine qU ?_|refine qL ?_|refine qK ?_|refine qF ?_|refine qE ?_|refine iF (fun h=>?_) (fun h=>?_)|refine aX ?_|refine aA ?_|refine aI (hn:=?_)|refine sP 25 (fun h=>?_) (fun h=>?_)|refine sP 42 (fun h=>?_) (fun h=>?_)|refine qR ?_|refine qS ?_|exact ⟨rfl,rfl⟩|fail)
  all_goals first | (exfalso; omega)|exact L_ret (RetQ.pick [0,1] rfl rfl rfl rfl ⟨rfl,rfl⟩)
abbrev RDA (l:List Ev) (w:Sp):LH:=[EVB l,.dead,.cells 0 (spC 3 4 w)]++spB w
set_option maxHeartbeats 4000000 in
theorem rrightA_tr (l:List Ev) (hl:l.length≤20) (ma ar:Int) (hm:0≤ma∧ma≤8191) (ha:0≤ar∧ar≤8191) (xs:List Int) (n c:Nat) (hx:xs.length=c) (hn:n≤c) :
  TrK Try.prog [(1,c,rowI xs)] [0,1] 32 [.agg ⟨[.int .i64 ma,.int .i64 ar,.slice none 0 0,.slice none 0 0]⟩,slB 0 l.length,slC 1 n c] [EVB l,.dead] (fun v K=>v=.bool (decide (RP l (Sz ma ar) (xs.take n)))∧K=[EVB l,.dead]):=by
 have hln:(xs.take n).length=n:=by rw [List.length_take]; omega
 refine Tr.of row_tumbrelref16_Right_ok rfl ?_
 refine L_seq (L_mid (fun E L=>E=[(1,slB 0 l.length),(2,slC 1 n c),(3,pp 2)]∧L=[EVB l,.dead,.cells 0 [.int .i64 ma,.int .i64 ar,.slice none 0 0,.slice none 0 0]]) ?_ ?_)
 ·repeat' (first|refine qN ?_|refine dN ?_|refine dR ?_|refine d0 ?_|refine qB ?_|refine rT ?_|refine qT ?_|refine qU ?_|refine qL ?_|refine qK ?_|refine qF ?_|refine qE ?_|refine iF (fun h=>?_) (fun h=>?_)|refine aX ?_|refine aA ?_|refine aI (hn:=?_)|refine sP 25 (fun h=>?_) (fun h=>?_)|refine sP 42 (fun h=>?_) (fun h=>?_)|refine qR ?_|refine qS ?_|exact ⟨rfl,rfl⟩|fail)
  exact Nx.pick [1,2,3] [0,1,2] rfl rfl rfl ⟨rfl,rfl⟩
 rintro _ _ ⟨rfl,rfl⟩
 refine LWp.nilC 2 2 2 rfl rfl (LWp.nilC 2 3 1 rfl rfl ?_)
 by_cases hnm:n=l.length
 ·subst hnm
  generalize ho:xs.take l.length=o at *
  have hxo:∀ (i:Nat) (x:Int),o[i]?=some x→xs[i]?=some x:=fun i x h=>by
   have:=(List.getElem?_eq_some_iff.1 h).1
   rw [← ho,List.getElem?_take_of_lt (by omega)] at h; exact h
  repeat' (first|refine qN ?_|refine dN ?_|refine dR ?_|refine d0 ?_|refine qB ?_|refine rT ?_|refine qT ?_|refine qU ?_|refine qL ?_|refine qK ?_|refine qF ?_|refine qE ?_|refine iF (fun h=>?_) (fun h=>?_)|refine aX ?_|refine aA ?_|refine aI (hn:=?_)|refine sP 25 (fun h=>?_) (fun h=>?_)|refine sP 42 (fun h=>?_) (fun h=>?_)|refine qR ?_|refine qS ?_|exact ⟨rfl,rfl⟩|fail)
  all_goals first | (exfalso; omega) | skip
  refine LWp.pick [1,2,3,16,17,18] [0,1,2,3,4] rfl rfl rfl (L_loop (fun q E L=>∃ (i:Nat) (s w:Sp),q=l.length-i∧i≤l.length∧PP l (Sz ma ar) (o.take i) s w∧E=[(1,slB 0 l.length),(2,slC 1 l.length c),(3,pp 2),(16,slC 1 l.length c),(17,.int .i64 l.length),(18,.int .i64 i)]∧L=RDA l w) l.length ⟨0,_,_,rfl,by omega,PP.zero hm ha,rfl,rfl⟩ ?_)
  rintro q _ _ ⟨i,s,w,rfl,hi,hP,rfl,rfl⟩
  first|refine L_seq (L_rs (S_done [] rfl (Nx.goL (iF (fun h=>L_skip (Nx.goL ?_)) (fun h=>L_exit ?_)))))|refine L_rs (S_done [] rfl (Nx.goL (L_seq (iF (fun h=>L_skip (Nx.goL ?_)) (fun h=>L_exit ?_)))))
  ·have hik:i<l.length:=by omega
   obtain ⟨x,hox⟩:∃ x,o[i]?=some x:=⟨_,List.getElem?_eq_getElem (by omega)⟩
   have hxk:=hxo _ _ hox
   by_cases hr:0≤x∧x<(l.length:Int)
   ·obtain ⟨k,hk,rfl⟩:∃ k:Nat,k<l.length∧x=k:=⟨x.toNat,by omega,by omega⟩
    have hev:=evA_at hk
    have htl:(o.take i).length=i:=by rw [List.length_take]; omega
    repeat' (first|refine qN ?_|refine dN ?_|refine dR ?_|refine d0 ?_|refine qB ?_|refine rT ?_|refine qT ?_|refine qU ?_|refine qL ?_|refine qK ?_|refine qF ?_|refine qE ?_|refine iF (fun h=>?_) (fun h=>?_)|refine aX ?_|refine S_Q [] rfl rfl (ldAI rfl (j:=0) rfl hx hxk) ?_|refine S_Q [] rfl rfl (QY.slc0 (lo':=0) (hi':=i) rfl rfl rfl (by omega) (by omega)) ?_|refine aA ?_|refine aI (hn:=?_)|refine sP 25 (fun h=>?_) (fun h=>?_)|refine sP 42 (fun h=>?_) (fun h=>?_)|refine qR ?_|refine qS ?_|exact ⟨rfl,rfl⟩|fail)
    all_goals first | (exfalso; omega) | skip
    refine LWp.pick [1,2,3,7,8,16,17,18,33,34,35] [0,1,2,3,4] rfl rfl rfl (L_loop (fun q E L=>∃ m:Nat,q=i-m∧m≤i∧(∀ b y,b<m→o[b]?=some y→y≠k∧na l y k)∧E=[(1,slB 0 l.length),(2,slC 1 l.length c),(3,pp 2),(7,.int .i64 i),(8,.int .i64 k),(16,slC 1 l.length c),(17,.int .i64 l.length),(18,.int .i64 i),(33,slC 1 i c),(34,.int .i64 i),(35,.int .i64 m)]∧L=RDA l w) i ⟨0,rfl,by omega,fun b y h=>by omega,rfl,rfl⟩ ?_)
    rintro q _ _ ⟨m,rfl,hmi,hin,rfl,rfl⟩
    first|refine L_seq (L_rs (S_done [] rfl (Nx.goL (iF (fun h=>L_skip (Nx.goL ?_)) (fun h=>L_exit ?_)))))|refine L_rs (S_done [] rfl (Nx.goL (L_seq (iF (fun h=>L_skip (Nx.goL ?_)) (fun h=>L_exit ?_)))))
    ·have hml:m<i:=by omega
     have hpm:(o.take i)[m]?=o[m]?:=List.getElem?_take_of_lt hml
     obtain ⟨k2,hk2,hok2⟩:=nat_of hP.rng (by omega:m<(o.take i).length)
     rw [hpm] at hok2
     have hxk2:=hxo _ _ hok2
     have hev2:=evA_at hk2
     by_cases hyk:k=k2
     ·have e:¬ RP l (Sz ma ar) o:=fun h=>nodup_at h.2.1.2.1 hml hok2 hox (by rw [hyk])
      rw [decide_eq_false e]
      repeat' (first|refine qN ?_|refine dN ?_|refine d0 ?_|refine qB ?_|refine qT ?_|refine qU ?_|refine qL ?_|refine qK ?_|refine qF ?_|refine qE ?_|refine iF (fun h=>?_) (fun h=>?_)|refine aX ?_|refine S_Q [] rfl rfl (ldAI rfl (j:=0) rfl hx hxk2) ?_|refine aA ?_|refine aI (hn:=?_)|refine sP 25 (fun h=>?_) (fun h=>?_)|refine sP 42 (fun h=>?_) (fun h=>?_)|refine qR ?_|refine qS ?_|exact ⟨rfl,rfl⟩|fail)
      all_goals first | (exfalso; omega) | skip
      exact L_ret (RetQ.pick [0,1] rfl rfl rfl rfl ⟨rfl,rfl⟩)
     ·by_cases hah:(evA l k).to_≤(evA l k2).frm
      ·have e:¬ RP l (Sz ma ar) o:=fun h=>by
        have:=pairK_of h.2.1.2.2 hml hok2 hox
        unfold na aheadB at this
        exact absurd hah (of_decide_eq_false this)
       rw [decide_eq_false e]
       repeat' (first|refine qN ?_|refine dN ?_|refine d0 ?_|refine qB ?_|refine qT ?_|refine qU ?_|refine qL ?_|refine qK ?_|refine qF ?_|refine qE ?_|refine iF (fun h=>?_) (fun h=>?_)|refine aX ?_|refine S_Q [] rfl rfl (ldAI rfl (j:=0) rfl hx hxk2) ?_|refine S_Q [] rfl rfl (QY.ldF (k:=k) (j:=7) Ev.ok rfl rfl hev rfl rfl) ?_|refine S_Q [] rfl rfl (QY.ldF (k:=k2) (j:=5) Ev.ok rfl rfl hev2 rfl rfl) ?_|refine aA ?_|refine aI (hn:=?_)|refine sP 25 (fun h=>?_) (fun h=>?_)|refine sP 42 (fun h=>?_) (fun h=>?_)|refine qR ?_|refine qS ?_|exact ⟨rfl,rfl⟩|fail)
       all_goals first | (exfalso; omega) | skip
       all_goals first|exact L_ret (RetQ.pick [0,1] rfl rfl rfl rfl ⟨rfl,rfl⟩)|exact absurd hah ‹_›
      ·repeat' (first|refine qN ?_|refine dN ?_|refine dR ?_|refine d0 ?_|refine qB ?_|refine rT ?_|refine qT ?_|refine qU ?_|refine qL ?_|refine qK ?_|refine qF ?_|refine qE ?_|refine iF (fun h=>?_) (fun h=>?_)|refine aX ?_|refine S_Q [] rfl rfl (ldAI rfl (j:=0) rfl hx hxk2) ?_|refine S_Q [] rfl rfl (QY.ldF (k:=k) (j:=7) Ev.ok rfl rfl hev rfl rfl) ?_|refine S_Q [] rfl rfl (QY.ldF (k:=k2) (j:=5) Ev.ok rfl rfl hev2 rfl rfl) ?_|refine aA ?_|refine aI (hn:=?_)|refine sP 25 (fun h=>?_) (fun h=>?_)|refine sP 42 (fun h=>?_) (fun h=>?_)|refine qR ?_|refine qS ?_|exact ⟨rfl,rfl⟩|fail)
       all_goals first | (exfalso; omega)|exact absurd ‹_› hah | skip
       exact Nx.pick [1,2,3,7,8,16,17,18,33,34,35] [0,1,2,3,4] rfl rfl rfl ⟨i-(m+1),by omega,m+1,rfl,by omega,fun b y h1 h2=>(by
        by_cases hb:b<m
        ·exact hin b y hb h2
        ·obtain rfl:b=m:=by omega
         rw [hok2] at h2; cases h2
         exact ⟨by omega,by unfold na aheadB; exact decide_eq_false hah⟩),rfl,rfl⟩
    ·refine Nx.goL ?_
     obtain rfl:m=i:=by omega
     have hmem:∀ y∈o.take m,y≠(k:Int)∧na l y k:=fun y hy=>by
      obtain ⟨b,hb⟩:=List.mem_iff_getElem?.1 hy
      have hbm:b<m:=by have:=(List.getElem?_eq_some_iff.1 hb).1; omega
      rw [List.getElem?_take_of_lt hbm] at hb
      exact hin b y hbm hb
     have hI:=hP.pi
     have hpn:=hP.len
     have hC:=rcall_tr (evA l k)
     have hM:=rmay_tr w hI.wm (by have:=hI.wl'; omega) (by have:=hI.wf'; omega) hI.wi (evA l k).cl
     rw [← may_same hI] at hM
     cases hmb:mayB s (evA l k).cl
     ·have e:¬ RP l (Sz ma ar) o:=by rw [split_at hox]; exact no_may hP hmb _
      rw [hmb] at hM
      rw [decide_eq_false e]
      repeat' (first|refine qN ?_|refine dN ?_|refine d0 ?_|refine qB ?_|refine qT ?_|refine qU ?_|refine qL ?_|refine qK ?_|refine qF ?_|refine qE ?_|refine iF (fun h=>?_) (fun h=>?_)|refine aX ?_|refine S_Q [] rfl rfl (QY.idxN (k:=k) rfl rfl hk) ?_|refine S_Q [] rfl rfl (QY.ldRow Ev.ok rfl rfl hev (by decide)) ?_|refine cP [] (hC) ?_|refine cP [3,4] (hM) ?_|refine aA ?_|refine aI (hn:=?_)|refine sP 25 (fun h=>?_) (fun h=>?_)|refine sP 42 (fun h=>?_) (fun h=>?_)|refine qR ?_|refine qS ?_|exact ⟨rfl,rfl⟩|fail)
      exact L_ret (RetQ.pick [0,1] rfl rfl rfl rfl ⟨rfl,rfl⟩)
     ·have hY:=rnext_tr w (by have:=hI.wl'; omega) (by have:=hI.wf'; omega) hI.wfi (evA l k).cl (next_ca hI.mb.2 hmb)
      have hPP:=hP.step hk (fun h=>(hmem _ h).1 rfl) (fun y hy=>(hmem y hy).2) hmb
      rw [hmb] at hM
      rw [show o.take m++[(k:Int)]=o.take (m+1) by rw [List.take_add_one,hox]; rfl] at hPP
      generalize nextS s (evA l k).cl=s' at *
      generalize rnextS w (evA l k).cl=w' at *
      repeat' (first|refine qN ?_|refine dN ?_|refine dR ?_|refine d0 ?_|refine qB ?_|refine rT ?_|refine qT ?_|refine qU ?_|refine qL ?_|refine qK ?_|refine qF ?_|refine qE ?_|refine iF (fun h=>?_) (fun h=>?_)|refine aX ?_|refine S_Q [] rfl rfl (QY.idxN (k:=k) rfl rfl hk) ?_|refine S_Q [] rfl rfl (QY.ldRow Ev.ok rfl rfl hev (by decide)) ?_|refine cP [] (hC) ?_|refine cP [3,4] (hM) ?_|(refine cF [3,4] (hY) ?_; conv=>whnf)|refine aA ?_|refine aI (hn:=?_)|refine sP 25 (fun h=>?_) (fun h=>?_)|refine sP 42 (fun h=>?_) (fun h=>?_)|refine qR ?_|refine qS ?_|exact ⟨rfl,rfl⟩|fail)
      exact Nx.pick [1,2,3,16,17,18] [0,1,2,5,6] rfl rfl rfl ⟨l.length-(m+1),by omega,m+1,s',w',rfl,by omega,hPP,rfl,rfl⟩
   ·have e:¬ RP l (Sz ma ar) o:=fun h=>hr (h.2.1.1 x (List.mem_of_getElem? hox))
    rw [decide_eq_false e]
    repeat' (first|refine qN ?_|refine dN ?_|refine d0 ?_|refine qB ?_|refine qT ?_|refine qU ?_|refine qL ?_|refine qK ?_|refine qF ?_|refine qE ?_|refine iF (fun h=>?_) (fun h=>?_)|refine aX ?_|refine S_Q [] rfl rfl (ldAI rfl (j:=0) rfl hx hxk) ?_|refine aA ?_|refine aI (hn:=?_)|refine sP 25 (fun h=>?_) (fun h=>?_)|refine sP 42 (fun h=>?_) (fun h=>?_)|refine qR ?_|refine qS ?_|exact ⟨rfl,rfl⟩|fail)
    all_goals first | (exfalso; omega)|exact L_ret (RetQ.pick [0,1] rfl rfl rfl rfl ⟨rfl,rfl⟩)
  ·refine Nx.goL ?_
   obtain rfl:i=l.length:=by omega
   rw [List.take_of_length_le (by omega)] at hP
   have e:RP l (Sz ma ar) o:=⟨by omega,⟨hP.rng,hP.nd,hP.pw⟩,hP.ac⟩
   rw [decide_eq_true e]
   repeat' (first|refine qN ?_|refine dN ?_|refine d0 ?_|refine qB ?_|refine qT ?_|refine qU ?_|refine qL ?_|refine qK ?_|refine qF ?_|refine qE ?_|refine iF (fun h=>?_) (fun h=>?_)|refine aX ?_|refine aA ?_|refine aI (hn:=?_)|refine sP 25 (fun h=>?_) (fun h=>?_)|refine sP 42 (fun h=>?_) (fun h=>?_)|refine qR ?_|refine qS ?_|exact ⟨rfl,rfl⟩|fail)
   exact L_ret (RetQ.pick [0,1] rfl rfl rfl rfl ⟨rfl,rfl⟩)
 ·have e:¬ RP l (Sz ma ar) (xs.take n):=fun h=>by have:=h.1; omega
  rw [decide_eq_false e]
  repeat' (first|refine qN ?_|refine dN ?_|refine d0 ?_|refine qB ?_|refine qT ?_|refine qU ?_|refine qL ?_|refine qK ?_|refine qF ?_|refine qE ?_|refine iF (fun h=>?_) (fun h=>?_)|refine aX ?_|refine aA ?_|refine aI (hn:=?_)|refine sP 25 (fun h=>?_) (fun h=>?_)|refine sP 42 (fun h=>?_) (fun h=>?_)|refine qR ?_|refine qS ?_|exact ⟨rfl,rfl⟩|fail)
  all_goals first | (exfalso; omega)|exact L_ret (RetQ.pick [0,1] rfl rfl rfl rfl ⟨rfl,rfl⟩)
end Go.Proofs.Ythgmdlmeeebfiaa
end
section
namespace Go.Tum
open Go
section
variable {P:Program} {n0:NA} {l:Env} {L:LH}
theorem EW.appRSe {α:Type} {g:α→List Value} {sz:Nat} {o:Oper} {s x:Operand} {sT xT:TypeId} {bytes b n bx ox i m cx t:Nat} {xs ys zs:List α} (hnm:n+m=t) (hzs:xs++(ys.drop i).take m=zs) (h:RowOk g sz) (ho:o.op=.call ⟨.builtin .append,⟨[s,x]⟩,⟨[sT,xT]⟩⟩) (ht:appT P sT xT=some (sz,bytes)) (hs:lv l s=some (.slice (some ⟨b,0,none⟩) n n)) (hx:lv l x=some (.slice (some ⟨bx,ox,none⟩) m cx))
  (hb:L[b]?=some (.gro sz (rowsC g xs))) (hbx:L[bx]?=some (.gro sz (rowsC g ys))) (hox:ox=i*sz) (hn:xs.length=n) (hm:i+m≤ys.length) (hz:0<sz) (hbd:(2*(n+m)+2048)*bytes≤281474976710656) :
  EW P n0 L l (.raw o) (fun v K=>v=.slice (some ⟨L.length,0,none⟩) t t∧K=L.set b .dead++[.gro sz (rowsC g zs)]):=by
 subst hnm; subst hzs
 exact EW.appRS h ho ht hs hx hb hbx hox hn hm hz hbd
end
end Go.Tum
end
section
namespace Go.Proofs.Ythgmdlmeeebfiaa
open Go Go.Proofs Go.Tum Go.Tum.Base
set_option maxRecDepth 4000
abbrev mo (l:List Ev) (k:Int):Int:=(evA l k).mom
def scan (l:List Ev) (o:List Int) (i:Int):Nat→Nat
 | 0=>0
 | a+1=>if mo l i<mo l (o.getD a 0) then scan l o i a else a+1
theorem scan_le (l:List Ev) (o:List Int) (i:Int):∀ a,scan l o i a≤a
 | 0=>Nat.le_refl _
 | a+1=>by
  simp only [scan]
  split
  ·exact Nat.le_succ_of_le (scan_le l o i a)
  ·exact Nat.le_refl _
def insM (l:List Ev) (o:List Int) (i:Int):List Int:=o.take (scan l o i o.length)++[i]++o.drop (scan l o i o.length)
def ordM (l:List Ev):Nat→List Int
 | 0=>[]
 | i+1=>insM l (ordM l i) i
theorem insM_len (l:List Ev) (o:List Int) (i:Int):(insM l o i).length=o.length+1:=by
 have:=scan_le l o i o.length
 simp [insM]; omega
theorem ordM_len (l:List Ev):∀ i,(ordM l i).length=i
 | 0=>rfl
 | i+1=>by rw [ordM,insM_len,ordM_len l i]
theorem ordM_mem (l:List Ev):∀ (i:Nat) (x:Int),x∈ordM l i→0≤x∧x<(i:Int)
 | 0,x,h=>by cases h
 | i+1,x,h=>by
  simp only [ordM,insM,List.mem_append,List.mem_singleton] at h
  rcases h with (h | h) | h
  ·have:=ordM_mem l i x (List.mem_of_mem_take h); omega
  ·omega
  ·have:=ordM_mem l i x (List.mem_of_mem_drop h); omega
abbrev RMB (l:List Ev) (o:List Int):LH:=[EVB l,.gro 1 (rowsC intC o)]
set_option maxHeartbeats 4000000 in
theorem rmom_tr (l:List Ev) (hl:l.length≤20):Tr Try.prog 31 [slB 0 l.length] [EVB l] (fun v K=>v=slB 1 l.length∧K=RMB l (ordM l l.length)):=by
 refine Tr.of row_tumbrelref16_ByMoment_ok rfl ?_
 repeat' (first|refine qN ?_|refine dN ?_|refine dR ?_|refine d0 ?_|refine qB ?_|refine rT ?_|refine qT ?_|refine qU ?_|refine qL ?_|refine qK ?_|refine qF ?_|refine qE ?_|refine iF (fun h=>?_) (fun h=>?_)|refine aX ?_|refine aA ?_|refine aS ?_|refine aI (hn:=?_)|refine sP 19 (fun h=>?_) (fun h=>?_)|refine qR ?_|refine qS ?_|exact ⟨rfl,rfl⟩|fail)
 refine LWp.nilE 3 1 rfl ?_
 refine LWp.pick [0,3,8,9,10] [0,1] rfl rfl rfl (L_loop (fun q E L=>∃ i:Nat,q=l.length-i∧i≤l.length∧E=[(0,slB 0 l.length),(3,slB 1 i),(8,slB 0 l.length),(9,.int .i64 l.length),(10,.int .i64 i)]∧L=RMB l (ordM l i)) l.length ⟨0,rfl,by omega,rfl,rfl⟩ ?_)
 rintro q _ _ ⟨i,rfl,hi,rfl,rfl⟩
 first|refine L_seq (L_rs (S_done [] rfl (Nx.goL (iF (fun h=>L_skip (Nx.goL ?_)) (fun h=>L_exit ?_)))))|refine L_rs (S_done [] rfl (Nx.goL (L_seq (iF (fun h=>L_skip (Nx.goL ?_)) (fun h=>L_exit ?_)))))
 ·have hin:i<l.length:=by omega
  have hev:=evA_at hin
  have hol:=ordM_len l i
  have hom:=ordM_mem l i
  have hos:ordM l (i+1)=insM l (ordM l i) i:=rfl
  generalize ordM l i=o at *
  subst hol
  repeat' (first|refine qN ?_|refine dN ?_|refine dR ?_|refine d0 ?_|refine qB ?_|refine rT ?_|refine qT ?_|refine qU ?_|refine qL ?_|refine qK ?_|refine qF ?_|refine qE ?_|refine iF (fun h=>?_) (fun h=>?_)|refine aX ?_|refine S_Q [] rfl rfl (QY.ldRow Ev.ok rfl rfl hev (by decide)) ?_|refine aA ?_|refine aS ?_|refine aI (hn:=?_)|refine sP 19 (fun h=>?_) (fun h=>?_)|refine qR ?_|refine qS ?_|exact ⟨rfl,rfl⟩|fail)
  refine LWp.pick [0,3,4,5,6,8,9,10] [0,1,2] rfl rfl rfl (L_loop (fun q E L=>∃ a:Nat,q=a∧a≤o.length∧scan l o o.length o.length=scan l o o.length a∧E=[(0,slB 0 l.length),(3,slB 1 o.length),(4,.int .i64 o.length),(5,pp 2),(6,.int .i64 a),(8,slB 0 l.length),(9,.int .i64 l.length),(10,.int .i64 o.length)]∧L=RMB l o++[.cells 0 (evA l o.length).cells]) o.length ⟨o.length,rfl,by omega,rfl,rfl,rfl⟩ ?_)
  rintro q _ _ ⟨a,rfl,ha,hsc,rfl,rfl⟩
  cases q with
  | zero =>
   have hscA:scan l o o.length o.length=0:=hsc
   repeat' (first|refine qN ?_|refine dN ?_|refine dR ?_|refine d0 ?_|refine qB ?_|refine rT ?_|refine qT ?_|refine qU ?_|refine qL ?_|refine qK ?_|refine qF ?_|refine qE ?_|refine iF (fun h=>?_) (fun h=>?_)|refine aX ?_|refine S_Q [] rfl rfl (QY.slc0 (lo':=0) (hi':=0) rfl rfl rfl (by omega) (by omega)) ?_|refine S_Q [] rfl rfl (QY.slc0 (lo':=0) (hi':=o.length) rfl rfl rfl (by omega) (by omega)) ?_|(refine eE rfl rfl (EW.cpy0 (bytes:=8) (i:=0) (ys:=o) (o.take 0) intC_ok rfl (by kernel_rfl) rfl rfl rfl rfl rfl (by omega) rfl (by decide) (by omega)) ?_; conv=>whnf)|(refine eE rfl rfl (EW.appR1 (bytes:=8) (xs:=o.take 0) (a:=(o.length:Int)) intC_ok rfl (by kernel_rfl) rfl rfl rfl rfl (by rw [List.length_take]; omega) (by omega)) ?_; conv=>whnf)|(refine eE rfl rfl (EW.appRSe (t:=o.length+1) (zs:=ordM l (o.length+1)) (bytes:=8) (i:=0) (xs:=o.take 0++[(o.length:Int)]) (ys:=o) (by omega) (by rw [hos,insM,hscA,List.take_of_length_le (l:=o.drop 0) (by rw [List.length_drop]; omega)]) intC_ok rfl (by kernel_rfl) rfl rfl rfl rfl rfl (by rw [List.length_append,List.length_take,List.length_singleton]; omega) (by omega) (by decide) (by omega)) ?_; conv=>whnf)|refine aA ?_|refine aS ?_|refine aI (hn:=?_)|refine sP 19 (fun h=>?_) (fun h=>?_)|refine qR ?_|refine qS ?_|exact ⟨rfl,rfl⟩|fail)
   exact Nx.pick [0,3,8,9,10] [0,7] rfl rfl rfl ⟨l.length-(o.length+1),by omega,o.length+1,rfl,by omega,rfl,rfl⟩
  | succ a =>
   obtain ⟨x,hx,hox⟩:=nat_of (m:=o.length) hom (by omega:a<o.length)
   have hex:=evA_at (by omega:x<l.length)
   have hge:o.getD a 0=x:=by rw [List.getD_eq_getElem?_getD,hox]; rfl
   have hst:scan l o o.length (a+1)=if mo l o.length<mo l x then scan l o o.length a else a+1:=by rw [scan,hge]
   by_cases hlt:mo l o.length<mo l x
   ·rw [if_pos hlt] at hst
    have hgt:mo l x > mo l o.length:=hlt
    repeat' (first|refine qN ?_|refine dN ?_|refine dR ?_|refine d0 ?_|refine qB ?_|refine rT ?_|refine qT ?_|refine qU ?_|refine qL ?_|refine qK ?_|refine qF ?_|refine qE ?_|refine iF (fun h=>?_) (fun h=>?_)|refine aX ?_|refine S_Q [] rfl rfl (QY.sub (c:=((a:Nat):Int)) rfl rfl (by omega) (by omega) (by omega)) ?_|refine S_Q [] rfl rfl (QY.ldI rfl rfl hox) ?_|refine S_Q [] rfl rfl (QY.ldF (k:=x) (j:=6) Ev.ok rfl rfl hex rfl rfl) ?_|refine aA ?_|refine aS ?_|refine aI (hn:=?_)|refine sP 19 (fun h=>?_) (fun h=>?_)|refine qR ?_|refine qS ?_|exact ⟨rfl,rfl⟩|fail)
    all_goals first | (exfalso; omega)|exact absurd hgt h | skip
    exact Nx.pick [0,3,4,5,6,8,9,10] [0,1,2] rfl rfl rfl ⟨a,by omega,a,rfl,by omega,hsc.trans hst,rfl,rfl⟩
   ·rw [if_neg hlt] at hst
    have hscA:scan l o o.length o.length=a+1:=hsc.trans hst
    repeat' (first|refine qN ?_|refine dN ?_|refine dR ?_|refine d0 ?_|refine qB ?_|refine rT ?_|refine qT ?_|refine qU ?_|refine qL ?_|refine qK ?_|refine qF ?_|refine qE ?_|refine iF (fun h=>?_) (fun h=>?_)|refine aX ?_|refine S_Q [] rfl rfl (QY.sub (c:=((a:Nat):Int)) rfl rfl (by omega) (by omega) (by omega)) ?_|refine S_Q [] rfl rfl (QY.ldI rfl rfl hox) ?_|refine S_Q [] rfl rfl (QY.ldF (k:=x) (j:=6) Ev.ok rfl rfl hex rfl rfl) ?_|refine S_Q [] rfl rfl (QY.slc0 (lo':=0) (hi':=a+1) rfl rfl rfl (by omega) (by omega)) ?_|refine S_Q [] rfl rfl (QY.slc0 (lo':=a+1) (hi':=o.length) rfl rfl rfl (by omega) (by omega)) ?_|(refine eE rfl rfl (EW.cpy0 (bytes:=8) (i:=0) (ys:=o) (o.take (a+1)) intC_ok rfl (by kernel_rfl) rfl rfl rfl rfl rfl (by omega) rfl (by decide) (by omega)) ?_; conv=>whnf)|(refine eE rfl rfl (EW.appR1 (bytes:=8) (xs:=o.take (a+1)) (a:=(o.length:Int)) intC_ok rfl (by kernel_rfl) rfl rfl rfl rfl (by rw [List.length_take]; omega) (by omega)) ?_; conv=>whnf)|(refine eE rfl rfl (EW.appRSe (t:=o.length+1) (zs:=ordM l (o.length+1)) (bytes:=8) (i:=a+1) (xs:=o.take (a+1)++[(o.length:Int)]) (ys:=o) (by omega) (by rw [hos,insM,hscA,List.take_of_length_le (l:=o.drop (a+1)) (by rw [List.length_drop]; omega)]) intC_ok rfl (by kernel_rfl) rfl rfl rfl rfl rfl (by rw [List.length_append,List.length_take,List.length_singleton]; omega) (by omega) (by decide) (by omega)) ?_; conv=>whnf)|refine aA ?_|refine aS ?_|refine aI (hn:=?_)|refine sP 19 (fun h=>?_) (fun h=>?_)|refine qR ?_|refine qS ?_|exact ⟨rfl,rfl⟩|fail)
    all_goals first | (exfalso; omega)|exact absurd h hlt | skip
    exact Nx.pick [0,3,8,9,10] [0,7] rfl rfl rfl ⟨l.length-(o.length+1),by omega,o.length+1,rfl,by omega,rfl,rfl⟩
 ·refine Nx.goL ?_
  obtain rfl:i=l.length:=by omega
  repeat' (first|refine qN ?_|refine dN ?_|refine d0 ?_|refine qB ?_|refine qT ?_|refine qU ?_|refine qL ?_|refine qK ?_|refine qF ?_|refine qE ?_|refine iF (fun h=>?_) (fun h=>?_)|refine aX ?_|refine aA ?_|refine aS ?_|refine aI (hn:=?_)|refine sP 19 (fun h=>?_) (fun h=>?_)|refine qR ?_|refine qS ?_|exact ⟨rfl,rfl⟩|fail)
  exact L_ret (RetQ.pick [0,1] rfl rfl rfl rfl ⟨rfl,rfl⟩)
abbrev cmF (k:Nat):Value:=.func (.func 54) ⟨[]⟩ ⟨[.pointer (some ⟨k,0,none⟩)]⟩
theorem momC_tr (l:List Ev) (x y:Nat) (hx:x<l.length) (hy:y<l.length):Tr Try.prog 54 [.int .i64 x,.int .i64 y,pp 0] [.cells 0 [slB 1 l.length],EVB l] (fun v K=>v=.int .i64 (cmpI (mo l x) (mo l y))∧K=[.cells 0 [slB 1 l.length],EVB l]):=by
 have hex:=evA_at hx
 have hey:=evA_at hy
 have hC:=cmpC_tr (mo l x) (mo l y)
 refine Tr.of row_linear_ByMoment_c1_ok rfl ?_
 repeat' (first|refine qN ?_|refine dN ?_|refine dR ?_|refine d0 ?_|refine rT ?_|refine aX ?_|refine S_Q [] rfl rfl (QY.idxN (k:=x) rfl rfl hx) ?_|refine S_Q [] rfl rfl (QY.idxN (k:=y) rfl rfl hy) ?_|refine S_Q [] rfl rfl (QY.ldF (k:=x) (j:=6) Ev.ok rfl rfl hex rfl rfl) ?_|refine S_Q [] rfl rfl (QY.ldF (k:=y) (j:=6) Ev.ok rfl rfl hey rfl rfl) ?_|refine cP [] (hC) ?_|refine aI (hn:=?_)|refine qR ?_|refine qS ?_|exact ⟨rfl,rfl⟩|fail)
def dat (l:List Ev) (n i j:Nat):List Int:=(ordM l i).take j++((i:Int)::((ordM l i).drop j++(iotaZ n).drop (i+1)))
theorem iota_drop {n i:Nat} (h:i<n):(iotaZ n).drop i=(i:Int)::(iotaZ n).drop (i+1):=by
 rw [List.drop_eq_getElem_cons (by rw [iotaZ_len]; exact h)]
 congr 1
 simp [iotaZ]
theorem dat_top {l:List Ev} {n i:Nat} (h:i<n):ordM l i++(iotaZ n).drop i=dat l n i i:=by
 have:=ordM_len l i
 rw [dat,List.take_of_length_le (l:=ordM l i) (by omega),List.drop_of_length_le (l:=ordM l i) (by omega),List.nil_append,iota_drop h]
theorem dat_end {l:List Ev} {n i:Nat}:dat l n i (scan l (ordM l i) i i)=ordM l (i+1)++(iotaZ n).drop (i+1):=by
 rw [ordM,insM,ordM_len,dat]
 simp
theorem dat_at {l:List Ev} {n i j:Nat} (h:j≤i):(dat l n i j)[j]?=some (i:Int):=by
 have:=ordM_len l i
 rw [dat,List.getElem?_append_right (by rw [List.length_take]; omega),List.length_take,show j-min j (ordM l i).length=0 by omega]
 rfl
theorem dat_pre {l:List Ev} {n i j:Nat} {x:Int} (h:j<i) (hx:(ordM l i)[j]?=some x):(dat l n i (j+1))[j]?=some x:=by
 have:=ordM_len l i
 rw [dat,List.getElem?_append_left (by rw [List.length_take]; omega),List.getElem?_take_of_lt (by omega)]
 exact hx
theorem dat_swap {l:List Ev} {n i j:Nat} {x:Int} (h:j<i) (hx:(ordM l i)[j]?=some x):((dat l n i (j+1)).set (j+1) x).set j (i:Int)=dat l n i j:=by
 have hl:=ordM_len l i
 have h1:(ordM l i).take (j+1)=(ordM l i).take j++[x]:=by rw [List.take_add_one,hx]; rfl
 have h2:(ordM l i).drop j=x::(ordM l i).drop (j+1):=by
  rw [List.drop_eq_getElem_cons (by omega)]
  rw [List.getElem?_eq_getElem (by omega)] at hx
  cases hx; rfl
 have hlt:((ordM l i).take j).length=j:=by rw [List.length_take]; omega
 rw [dat,dat,h1,h2]
 generalize (ordM l i).take j=u at *
 subst hlt
 rw [List.append_assoc,List.set_append_right _ _ (by omega),List.set_append_right _ _ (by omega)]
 simp
theorem dat_len {l:List Ev} {n i j:Nat} (h:j≤i) (hn:i<n):(dat l n i j).length=n:=by
 have:=ordM_len l i
 rw [dat,List.length_append,List.length_cons,List.length_append,List.length_take,List.length_drop,List.length_drop,iotaZ_len]
 omega
abbrev ISB (l:List Ev) (xs:List Int):LH:=[.gro 1 (rowsC intC xs),.cells 0 [slB 2 l.length],EVB l]
set_option maxHeartbeats 4000000 in
theorem isort_tr (l:List Ev) (hl:l.length≤19):Tr Try.prog 81 [slB 0 l.length,.int .i64 0,.int .i64 l.length,cmF 1] (ISB l (iotaZ l.length)) (fun v K=>v=.tuple ⟨[]⟩∧K=ISB l (ordM l l.length)):=by
 refine Tr.of row_slices_insertionSortCmpFunc_int__ok rfl ?_
 repeat' (first|refine qN ?_|refine dN ?_|refine dR ?_|refine d0 ?_|refine qB ?_|refine rT ?_|refine qT ?_|refine qU ?_|refine qL ?_|refine qK ?_|refine qF ?_|refine qE ?_|refine iF (fun h=>?_) (fun h=>?_)|refine aX ?_|refine aA ?_|refine aS ?_|refine aI (hn:=?_)|refine sP 21 (fun h=>?_) (fun h=>?_)|refine qR ?_|refine qS ?_|exact ⟨rfl,rfl⟩|fail)
 by_cases h0:l.length=0
 ·have hln:l=[]:=List.length_eq_zero_iff.1 h0
  subst hln
  refine LWp.pick [0,1,2,3,8] [0,1,2] rfl rfl rfl (L_loop (fun _ E L=>E=[(0,slB 0 0),(1,.int .i64 0),(2,.int .i64 0),(3,cmF 1),(8,.int .i64 1)]∧L=ISB [] []) 0 ⟨rfl,rfl⟩ ?_)
  rintro q _ _ ⟨rfl,rfl⟩
  first|refine L_seq (L_rs (S_done [] rfl (Nx.goL (iF (fun h=>L_skip (Nx.goL ?_)) (fun h=>L_exit ?_)))))|refine L_rs (S_done [] rfl (Nx.goL (L_seq (iF (fun h=>L_skip (Nx.goL ?_)) (fun h=>L_exit ?_)))))
  ·exfalso; omega
  ·change ite _ _ _
   rw [if_pos rfl]
   exact RetQ.end [0,1,2] rfl rfl rfl rfl ⟨rfl,rfl⟩
 refine LWp.pick [0,1,2,3,8] [0,1,2] rfl rfl rfl (L_loop (fun q E L=>∃ i:Nat,q=l.length-i∧1≤i∧i≤l.length∧E=[(0,slB 0 l.length),(1,.int .i64 0),(2,.int .i64 l.length),(3,cmF 1),(8,.int .i64 i)]∧L=ISB l (ordM l i++(iotaZ l.length).drop i)) (l.length-1) ⟨1,rfl,by omega,by omega,rfl,(by rw [show ordM l 1=[((0:Nat):Int)] from rfl,List.singleton_append,← iota_drop (by omega:0<l.length)]; rfl)⟩ ?_)
 rintro q _ _ ⟨i,rfl,hi1,hi,rfl,rfl⟩
 first|refine L_seq (L_rs (S_done [] rfl (Nx.goL (iF (fun h=>L_skip (Nx.goL ?_)) (fun h=>L_exit ?_)))))|refine L_rs (S_done [] rfl (Nx.goL (L_seq (iF (fun h=>L_skip (Nx.goL ?_)) (fun h=>L_exit ?_)))))
 ·have hin:i<l.length:=by omega
  rw [dat_top hin]
  have hol:=ordM_len l i
  have hom:=ordM_mem l i
  repeat' (first|refine qN ?_|refine dN ?_|refine dR ?_|refine d0 ?_|refine qB ?_|refine rT ?_|refine qT ?_|refine qU ?_|refine qL ?_|refine qK ?_|refine qF ?_|refine qE ?_|refine iF (fun h=>?_) (fun h=>?_)|refine aX ?_|refine aA ?_|refine aS ?_|refine aI (hn:=?_)|refine sP 21 (fun h=>?_) (fun h=>?_)|refine qR ?_|refine qS ?_|exact ⟨rfl,rfl⟩|fail)
  refine LWp.pick [0,1,2,3,8,9] [0,1,2] rfl rfl rfl (L_loop (fun q E L=>q≤i∧scan l (ordM l i) i i=scan l (ordM l i) i q∧E=[(0,slB 0 l.length),(1,.int .i64 0),(2,.int .i64 l.length),(3,cmF 1),(8,.int .i64 i),(9,.int .i64 q)]∧L=ISB l (dat l l.length i q)) i ⟨Nat.le_refl _,rfl,rfl,rfl⟩ ?_)
  rintro j _ _ ⟨hji,hsc,rfl,rfl⟩
  have hdl:=dat_len (l:=l) hji hin
  cases j with
  | zero =>
   have hsA:scan l (ordM l i) i i=0:=hsc
   have hE:=dat_end (l:=l) (n:=l.length) (i:=i)
   rw [hsA] at hE
   rw [hE]
   repeat' (first|refine qN ?_|refine dN ?_|refine dR ?_|refine d0 ?_|refine qB ?_|refine rT ?_|refine qT ?_|refine qU ?_|refine qL ?_|refine qK ?_|refine qF ?_|refine qE ?_|refine iF (fun h=>?_) (fun h=>?_)|refine aX ?_|refine aA ?_|refine aS ?_|refine aI (hn:=?_)|refine sP 21 (fun h=>?_) (fun h=>?_)|refine qR ?_|refine qS ?_|exact ⟨rfl,rfl⟩|fail)
   all_goals first | (exfalso; omega) | skip
   exact Nx.pick [0,1,2,3,8] [0,1,2] rfl rfl rfl ⟨l.length-(i+1),by omega,i+1,rfl,by omega,by omega,rfl,rfl⟩
  | succ j =>
   obtain ⟨x,hx,hox⟩:=nat_of (m:=i) hom (by omega:j<(ordM l i).length)
   have hxl:x<l.length:=by omega
   have hge:(ordM l i).getD j 0=x:=by rw [List.getD_eq_getElem?_getD,hox]; rfl
   have hst:scan l (ordM l i) i (j+1)=if mo l i<mo l x then scan l (ordM l i) i j else j+1:=by rw [scan,hge]
   have hg1:=dat_at (l:=l) (n:=l.length) hji
   have hg2:=dat_pre (l:=l) (n:=l.length) (by omega:j<i) hox
   have hsw:=dat_swap (l:=l) (n:=l.length) (by omega:j<i) hox
   have hC:=momC_tr l i x hin hxl
   have hE:=dat_end (l:=l) (n:=l.length) (i:=i)
   by_cases hlt:mo l i<mo l x
   ·rw [if_pos hlt] at hst
    have hcm:cmpI (mo l i) (mo l x) = -1:=by simp [cmpI,hlt]
    rw [hcm] at hC
    generalize dat l l.length i (j+1)=dd at *
    repeat' (first|refine qN ?_|refine dN ?_|refine dR ?_|refine d0 ?_|refine qB ?_|refine rT ?_|refine qT ?_|refine qU ?_|refine qL ?_|refine qK ?_|refine qF ?_|refine qE ?_|refine iF (fun h=>?_) (fun h=>?_)|refine aX ?_|refine S_Q [] rfl rfl (QY.sub (c:=((j:Nat):Int)) rfl rfl (by omega) (by omega) (by omega)) ?_|refine S_Q [] rfl rfl (QY.idxN (k:=j+1) rfl rfl (by omega)) ?_|refine S_Q [] rfl rfl (QY.idxN (k:=j) rfl rfl (by omega)) ?_|refine S_Q [] rfl rfl (QY.ldI rfl rfl hg1) ?_|refine S_Q [] rfl rfl (QY.ldI rfl rfl hg2) ?_|(refine cV [1,2] hC ?_; conv=>whnf)|(refine eE rfl rfl (EW.stI (k:=j+1) rfl rfl rfl (by omega)) ?_; conv=>whnf)|(refine eE rfl rfl (EW.stI (k:=j) rfl rfl rfl (by rw [List.length_set]; omega)) ?_; conv=>whnf)|refine aA ?_|refine aS ?_|refine aI (hn:=?_)|refine sP 21 (fun h=>?_) (fun h=>?_)|refine qR ?_|refine qS ?_|exact ⟨rfl,rfl⟩|fail)
    all_goals first | (exfalso; omega) | skip
    exact Nx.pick [0,1,2,3,8,9] [0,1,2] rfl rfl rfl ⟨j,by omega,by omega,hsc.trans hst,rfl,by rw [← hsw]; rfl⟩
   ·rw [if_neg hlt] at hst
    have hsA:scan l (ordM l i) i i=j+1:=hsc.trans hst
    rw [hsA] at hE
    have hcm:¬ cmpI (mo l i) (mo l x)<0:=by
     unfold cmpI; rw [if_neg hlt]; split <;> omega
    generalize cmpI (mo l i) (mo l x)=cm at *
    generalize dat l l.length i (j+1)=dd at *
    repeat' (first|refine qN ?_|refine dN ?_|refine dR ?_|refine d0 ?_|refine qB ?_|refine rT ?_|refine qT ?_|refine qU ?_|refine qL ?_|refine qK ?_|refine qF ?_|refine qE ?_|refine iF (fun h=>?_) (fun h=>?_)|refine aX ?_|refine S_Q [] rfl rfl (QY.sub (c:=((j:Nat):Int)) rfl rfl (by omega) (by omega) (by omega)) ?_|refine S_Q [] rfl rfl (QY.idxN (k:=j+1) rfl rfl (by omega)) ?_|refine S_Q [] rfl rfl (QY.idxN (k:=j) rfl rfl (by omega)) ?_|refine S_Q [] rfl rfl (QY.ldI rfl rfl hg1) ?_|refine S_Q [] rfl rfl (QY.ldI rfl rfl hg2) ?_|(refine cV [1,2] hC ?_; conv=>whnf)|refine aA ?_|refine aS ?_|refine aI (hn:=?_)|refine sP 21 (fun h=>?_) (fun h=>?_)|refine qR ?_|refine qS ?_|exact ⟨rfl,rfl⟩|fail)
    all_goals first | (exfalso; omega) | skip
    exact Nx.pick [0,1,2,3,8] [0,1,2] rfl rfl rfl ⟨l.length-(i+1),by omega,i+1,rfl,by omega,by omega,rfl,by rw [← hE]; rfl⟩
 ·obtain rfl:i=l.length:=by omega
  rw [List.drop_of_length_le (by rw [iotaZ_len]; exact Nat.le_refl _),List.append_nil]
  change ite _ _ _
  rw [if_pos rfl]
  exact RetQ.end [0,1,2] rfl rfl rfl rfl ⟨rfl,rfl⟩
set_option maxHeartbeats 2000000 in
theorem stable_tr (l:List Ev) (hl:l.length≤19):Tr Try.prog 71 [slB 0 l.length,.int .i64 l.length,cmF 1] (ISB l (iotaZ l.length)) (fun v K=>v=.tuple ⟨[]⟩∧K=ISB l (ordM l l.length)):=by
 have hI:=isort_tr l hl
 refine Tr.of row_slices_stableCmpFunc_int__ok rfl ?_
 repeat' (first|refine qN ?_|refine dN ?_|refine dR ?_|refine d0 ?_|refine qB ?_|refine rT ?_|refine qT ?_|refine qU ?_|refine qL ?_|refine qK ?_|refine qF ?_|refine qE ?_|refine iF (fun h=>?_) (fun h=>?_)|refine aA ?_|refine aI (hn:=?_)|refine aM ?_|refine qR ?_|refine qS ?_|exact ⟨rfl,rfl⟩|fail)
 refine LWp.pick [0,1,2,6,7,8] [0,1,2] rfl rfl rfl (L_loop (fun _ E L=>E=[(0,slB 0 l.length),(1,.int .i64 l.length),(2,cmF 1),(6,.int .i64 20),(7,.int .i64 0),(8,.int .i64 20)]∧L=ISB l (iotaZ l.length)) 0 ⟨rfl,rfl⟩ ?_)
 rintro q _ _ ⟨rfl,rfl⟩
 first|refine L_seq (L_rs (S_done [] rfl (Nx.goL (iF (fun h=>L_skip (Nx.goL ?_)) (fun h=>L_exit ?_)))))|refine L_rs (S_done [] rfl (Nx.goL (L_seq (iF (fun h=>L_skip (Nx.goL ?_)) (fun h=>L_exit ?_)))))
 ·exfalso; omega
 ·refine Nx.goL ?_
  repeat' (first|refine qN ?_|refine dN ?_|refine dR ?_|refine d0 ?_|refine qB ?_|refine rT ?_|refine qT ?_|refine qU ?_|refine qL ?_|refine qK ?_|refine qF ?_|refine qE ?_|refine iF (fun h=>?_) (fun h=>?_)|(refine cF [0,1,2] (hI) ?_; conv=>whnf)|refine aA ?_|refine aI (hn:=?_)|refine aM ?_|refine qR ?_|refine qS ?_|exact ⟨rfl,rfl⟩|fail)
  refine LWp.pick [0,1,2,6,7,8] [0,1,2] rfl rfl rfl (L_loop (fun _ E L=>E=[(0,slB 0 l.length),(1,.int .i64 l.length),(2,cmF 1),(6,.int .i64 20),(7,.int .i64 0),(8,.int .i64 20)]∧L=ISB l (ordM l l.length)) 0 ⟨rfl,rfl⟩ ?_)
  clear hI
  rintro q _ _ ⟨rfl,rfl⟩
  first|refine L_seq (L_rs (S_done [] rfl (Nx.goL (iF (fun h=>L_skip (Nx.goL ?_)) (fun h=>L_exit ?_)))))|refine L_rs (S_done [] rfl (Nx.goL (L_seq (iF (fun h=>L_skip (Nx.goL ?_)) (fun h=>L_exit ?_)))))
  ·exfalso; omega
  ·change ite _ _ _
   rw [if_pos rfl]
   exact RetQ.end [0,1,2] rfl rfl rfl rfl ⟨rfl,rfl⟩
theorem sortSt_tr (l:List Ev) (hl:l.length≤19):Tr Try.prog 53 [slB 0 l.length,cmF 1] (ISB l (iotaZ l.length)) (fun v K=>v=.tuple ⟨[]⟩∧K=ISB l (ordM l l.length)):=by
 have hI:=stable_tr l hl
 refine Tr.of row_slices_SortStableFunc_int_int__ok rfl ?_
 repeat' (first|refine qN ?_|refine dN ?_|refine dR ?_|refine d0 ?_|refine rT ?_|(refine cF [0,1,2] (hI) ?_; conv=>whnf)|refine aI (hn:=?_)|refine qR ?_|refine qS ?_|exact ⟨rfl,rfl⟩|fail)
set_option maxHeartbeats 2000000 in
theorem byMom_tr (l:List Ev) (hl:l.length≤19) (ma ar:Int) (hm:0≤ma∧ma≤8191) (ha:0≤ar∧ar≤8191):Tr Try.prog 30 [.agg ⟨[.int .i64 ma,.int .i64 ar]⟩,slB 0 l.length] [EVB l]
  (fun v K=>v=.tuple ⟨[slB 1 l.length,.bool (decide (RP l ⟨ma,ar,[],0,[],0⟩ (ordM l l.length)))]⟩∧K=[EVB l,.gro 1 (rowsC intC (ordM l l.length))]):=by
 have hS:=sortSt_tr l hl
 have hol:=ordM_len l l.length
 have hR:=right_tr l (by omega) ma ar hm ha (ordM l l.length) l.length l.length hol (by omega) (by omega)
 rw [List.take_of_length_le (by omega)] at hR
 refine Tr.of row_linear_ByMoment_ok rfl ?_
 repeat' (first|refine qN ?_|refine dN ?_|refine dR ?_|refine d0 ?_|refine qB ?_|refine rT ?_|refine qT ?_|refine qU ?_|refine qL ?_|refine qK ?_|refine qF ?_|refine qE ?_|refine iF (fun h=>?_) (fun h=>?_)|refine aA ?_|refine aI (hn:=?_)|refine qR ?_|refine qS ?_|exact ⟨rfl,rfl⟩|fail)
 refine LWp.nilE 6 1 rfl ?_
 refine LWp.pick [2,3,6,8,9,10] [0,1,2,3] rfl rfl rfl (L_loop (fun q E L=>∃ i:Nat,q=l.length-i∧i≤l.length∧E=[(2,pp 1),(3,pp 2),(6,slB 3 i),(8,slB 0 l.length),(9,.int .i64 l.length),(10,.int .i64 i)]∧L=[EVB l,.cells 0 [.int .i64 ma,.int .i64 ar],.cells 0 [slB 0 l.length],.gro 1 (rowsC intC (iotaZ i))]) l.length ⟨0,rfl,by omega,rfl,rfl⟩ ?_)
 rintro q _ _ ⟨i,rfl,hi,rfl,rfl⟩
 first|refine L_seq (L_rs (S_done [] rfl (Nx.goL (iF (fun h=>L_skip (Nx.goL ?_)) (fun h=>L_exit ?_)))))|refine L_rs (S_done [] rfl (Nx.goL (L_seq (iF (fun h=>L_skip (Nx.goL ?_)) (fun h=>L_exit ?_)))))
 ·have hin:i<l.length:=by omega
  have hil:=iotaZ_len i
  have his:iotaZ (i+1)=iotaZ i++[(i:Int)]:=by simp [iotaZ,List.range_succ]
  generalize iotaZ i=o at *
  repeat' (first|refine qN ?_|refine dN ?_|refine dR ?_|refine d0 ?_|refine qB ?_|refine rT ?_|refine qT ?_|refine qU ?_|refine qL ?_|refine qK ?_|refine qF ?_|refine qE ?_|refine iF (fun h=>?_) (fun h=>?_)|(refine eE rfl rfl (EW.appR1 (bytes:=8) (xs:=o) (a:=(i:Int)) intC_ok rfl (by kernel_rfl) rfl rfl rfl rfl hil (by omega)) ?_; conv=>whnf)|refine aA ?_|refine aI (hn:=?_)|refine qR ?_|refine qS ?_|exact ⟨rfl,rfl⟩|fail)
  exact Nx.pick [2,3,6,8,9,10] [0,1,2,5] rfl rfl rfl ⟨l.length-(i+1),by omega,i+1,rfl,by omega,rfl,by rw [his]; rfl⟩
 ·refine Nx.goL ?_
  obtain rfl:i=l.length:=by omega
  repeat' (first|refine qN ?_|refine dN ?_|refine d0 ?_|refine qB ?_|refine qT ?_|refine qU ?_|refine qL ?_|refine qK ?_|refine qF ?_|refine qE ?_|refine iF (fun h=>?_) (fun h=>?_)|(refine cF [3,2,0] (hS) ?_; conv=>whnf)|refine cP [0,3] (hR) ?_|refine aA ?_|refine aI (hn:=?_)|refine qR ?_|refine qS ?_|exact ⟨rfl,rfl⟩|fail)
  exact L_ret (RetQ.pick [0,3] rfl rfl rfl rfl ⟨rfl,rfl⟩)
end Go.Proofs.Ythgmdlmeeebfiaa
end
section
namespace Go.Proofs.Ythgmdlmeeebfiaa
open Go Go.Proofs Go.Tum Go.Tum.Base
set_option maxRecDepth 4000
abbrev aw0L:List Ev:=[⟨0,false,8,0,0,0,1,3⟩,⟨1,false,8,0,0,0,2,4⟩]
abbrev aw1L:List Ev:=[⟨0,false,8,0,0,0,1,3⟩,⟨1,false,8,16,0,0,2,4⟩]
theorem aw0_first:firstO aw0L 256 256=none:=by kernel_rfl
theorem aw1_first:firstO aw1L 256 256=some [0,1]:=by kernel_rfl
theorem info_ev:(Try.prog.info? 70).map (fun i=>(i.zero,i.size,i.bytes))=some (some (.agg #[.int .i64 0,.bool false,.int .i64 0,.int .i64 0,.int .i64 0,.int .i64 0,.int .i64 0,.int .i64 0]),8,64):=by kernel_rfl
set_option maxHeartbeats 1000000 in
theorem awake16_tr:Tr Try.prog 27 [] [] (fun v K=>v=.bool true∧K=[]):=by
 have hB:=bounds_tr 256 256
 have h1:=order_none aw0L (by decide) 256 256 (by decide) (by decide) aw0_first
 have h2:=order_some aw1L (by decide) 256 256 (by decide) (by decide) _ aw1_first
 have h3:=same16_tr [0,1] [0,1] 2 2 rfl rfl (by decide) (by decide)
 obtain ⟨ie,hi,hz0,hz1,_⟩:=info_parts info_ev
 obtain ⟨ii,hj,hy0,hy1,_⟩:=info_parts info_int
 have hT:=Try.underlying62
 have hU:=Try.underlying26
 refine Tr.of row_tumbrellaw16_awake_ok rfl ?_
 repeat' (first|refine qN ?_|refine dN ?_|refine d0 ?_|refine aX ?_|(refine cF [] (hB) ?_; conv=>whnf)|(refine eE rfl rfl (EW.into (EW.bsL (cs:=rowsC Ev.cells aw0L) rfl hT hi hz0 hz1 (by decide) rfl (by kernel_rfl) rfl) (wk_new (b:=2) 8 rfl (by decide) (by decide) rfl)) ?_; conv=>whnf)|(refine cF [2] h1 ?_ (h2:=⟨rfl,trivial⟩); conv=>whnf)|(refine cF [2] h2 ?_ (h2:=⟨rfl,trivial⟩); conv=>whnf)|refine S_Q [] rfl rfl (QY.idxN (k:=1) rfl rfl (by decide)) ?_|(refine eE rfl rfl (EW.stF (k:=1) (j:=3) (xs:=aw0L) (a':=⟨1,false,8,16,0,0,2,4⟩) Ev.ok rfl rfl rfl rfl (by decide) rfl rfl) ?_; conv=>whnf)|(refine eE rfl rfl (EW.into (EW.bsL (cs:=rowsC intC [0,1]) rfl hU hj hy0 hy1 (by decide) rfl (by kernel_rfl) rfl) (wk_new (b:=4) 1 rfl (by decide) (by decide) rfl)) ?_; conv=>whnf)|(refine cF [3,4] (h3) ?_; conv=>whnf)|refine aI (hn:=?_)|refine sP 36 (fun h=>?_) (fun h=>?_)|refine sP 40 (fun h=>?_) (fun h=>?_)|refine sP 43 (fun h=>?_) (fun h=>?_)|refine sP 47 (fun h=>?_) (fun h=>?_)|refine qR ?_|refine qS ?_|exact ⟨rfl,rfl⟩|fail)
 exact L_ret (RetQ.pick [] rfl rfl rfl rfl ⟨rfl,rfl⟩)
end Go.Proofs.Ythgmdlmeeebfiaa
end
section
namespace Go.Proofs.Ythgmdlmeeebfiaa
open Go Go.Proofs Go.Tum Go.Tum.Base Go.Deep
set_option maxRecDepth 4000
theorem evs_in {cs:List Value} (h:Fits [some .i64,none,some .i64,some .i64,some .i64,some .i64,some .i64,some .i64] cs):∃ e:Ev,cs=e.cells:=by
 obtain ⟨a,r0,e0,_,h0⟩:=h.int
 obtain ⟨b,r1,e1,h1⟩:=h0.bool
 obtain ⟨c,r2,e2,_,h2⟩:=h1.int
 obtain ⟨d,r3,e3,_,h3⟩:=h2.int
 obtain ⟨e,r4,e4,_,h4⟩:=h3.int
 obtain ⟨f,r5,e5,_,h5⟩:=h4.int
 obtain ⟨g,r6,e6,_,h6⟩:=h5.int
 obtain ⟨i,r7,e7,_,h7⟩:=h6.int
 have e8:=h7.nil
 subst e8 e7 e6 e5 e4 e3 e2 e1 e0
 exact ⟨⟨a,b,c,d,e,f,g,i⟩,rfl⟩
end Go.Proofs.Ythgmdlmeeebfiaa
end
section
namespace Go.Proofs.Ythgmdlmeeebfiaa
open Go Go.Proofs Go.Tum Go.Tum.Base Go.Deep
set_option maxRecDepth 4000
theorem argAt_congr {X:Nat→Prop} {w0:World} {E0:Emb} {k m:Nat} {g g':Nat→AV} (h:∀ i,i<m→g i=g' i) (hA:ArgAt X w0 E0 k m g):ArgAt X w0 E0 k m g':=fun h0=>by
 obtain ⟨r,h1,h2,h3,h4⟩:=hA h0
 refine ⟨r,h1,h2,h3,fun i hi=>?_⟩
 obtain ⟨y,h5,h6⟩:=h4 i hi
 exact ⟨y,h5,by rw [← h i hi]; exact h6⟩
abbrev LRB (ma ar:Int) (l:List Ev):LH:=[.dead,.dead,.cells 0 [.int .i64 ma,.int .i64 ar],.cells 0 [.int .i64 ma,.int .i64 ar,.slice none 0 0,.slice none 0 0],EVB l]
set_option maxHeartbeats 4000000 in
theorem LinearRight_tr (a0 a1:Int) (nb:Nat) (hnb:nb≤9223372036854775807) (get:Nat→List Value) (op:Nat→Ev) (hop:∀ i,i<nb→get i=(op i).cells) (mb:Nat) (hmb:mb≤9223372036854775807) (xs:List Int) (hxs:xs.length=mb) :
  TrK Try.prog [(0,nb*8,rowG 8 get),(1,mb,rowI xs)] [0,1] 8 [.int .i64 a0,.int .i64 a1,slB 0 nb,slB 1 mb] [.dead,.dead] (fun v _=>v=.bool true):=by
 obtain ⟨ma,hm0,hm1,em⟩:∃ b,0≤b∧b≤4095∧a0 % 4096=b:=⟨a0 % 4096,by omega,by omega,rfl⟩
 obtain ⟨ar,ha0,ha1,ea⟩:∃ b,0≤b∧b≤8191∧a1 % 8192=b:=⟨a1 % 8192,by omega,by omega,rfl⟩
 have hm:0≤ma∧ma≤8191:=⟨hm0,by omega⟩
 have ha:0≤ar∧ar≤8191:=⟨ha0,ha1⟩
 have hB:=bounds_tr ma ar
 have hF:=few_tr nb hnb get op hop 8 (by omega)
 have hlen:=fewL_len op (min nb 8)
 have hml:min nb 8≤8:=Nat.min_le_right ..
 generalize min nb 8=n at *
 generalize fewL op n=l at *
 subst hlen
 have hO:=ours16_tr l l.length rfl (by omega)
 have hAw:=awake16_tr
 have hBM:=byMom_tr l (by omega) ma ar hm ha
 have hRM:=rmom_tr l (by omega)
 have hol:=ordM_len l l.length
 have hS:=same16_tr (ordM l l.length) (ordM l l.length) l.length l.length hol hol (by omega) (by omega)
 rw [decide_eq_true rfl] at hS
 have hR2:=rrightG_tr l (by omega) ma ar hm ha (ordM l l.length) l.length l.length hol (by omega)
 rw [List.take_of_length_le (by omega)] at hR2
 refine Tr.of row_tumbrellaw16_LinearRight_ok rfl ?_
 refine L_seq (L_mid (fun E L=>E=[(0,.int .i64 a0),(1,.int .i64 a1),(2,slB 0 nb),(3,slB 1 mb)]∧L=[.dead,.dead]) ?_ ?_)
 ·repeat' (first|refine qN ?_|refine dN ?_|refine dR ?_|refine d0 ?_|refine rT ?_|refine qT ?_|refine qU ?_|refine qL ?_|refine qK ?_|refine iF (fun h=>?_) (fun h=>?_)|refine aK ?_|refine aI (hn:=?_)|refine sP 48 (fun h=>?_) (fun h=>?_)|refine sP 53 (fun h=>?_) (fun h=>?_)|refine sP 61 (fun h=>?_) (fun h=>?_)|refine qR ?_|refine qS ?_|exact ⟨rfl,rfl⟩|fail)
  exact Nx.pick [0,1,2,3] [0,1] rfl rfl rfl ⟨rfl,rfl⟩
 rintro _ _ ⟨rfl,rfl⟩
 refine L_seq (L_mid (fun E L=>E=[(2,slB 0 nb),(3,slB 1 mb),(9,pp 2),(10,pp 3)]∧L=[.dead,.dead,.cells 0 [.int .i64 ma,.int .i64 ar],.cells 0 [.int .i64 ma,.int .i64 ar,.slice none 0 0,.slice none 0 0]]) ?_ ?_)
 ·repeat' (first|refine qN ?_|refine dN ?_|refine dR ?_|refine d0 ?_|refine rT ?_|refine qT ?_|refine qU ?_|refine qL ?_|refine qK ?_|refine iF (fun h=>?_) (fun h=>?_)|refine S_Q [] rfl rfl (QY.mask rfl rfl (by decide) em) ?_|refine S_Q [] rfl rfl (QY.mask rfl rfl (by decide) ea) ?_|(refine cF [] (hB) ?_; conv=>whnf)|refine aK ?_|refine aI (hn:=?_)|refine sP 48 (fun h=>?_) (fun h=>?_)|refine sP 53 (fun h=>?_) (fun h=>?_)|refine sP 61 (fun h=>?_) (fun h=>?_)|refine qR ?_|refine qS ?_|exact ⟨rfl,rfl⟩|fail)
  exact Nx.pick [2,3,9,10] [0,1,2,3] rfl rfl rfl ⟨rfl,rfl⟩
 rintro _ _ ⟨rfl,rfl⟩
 refine L_seq (L_mid (fun E L=>E=[(2,slB 4 l.length),(3,slB 1 mb),(9,pp 2),(10,pp 3)]∧L=LRB ma ar l) ?_ ?_)
 ·repeat' (first|refine qN ?_|refine dN ?_|refine dR ?_|refine d0 ?_|refine rT ?_|refine qT ?_|refine qU ?_|refine qL ?_|refine qK ?_|refine iF (fun h=>?_) (fun h=>?_)|(refine cAr [0] hF (hd0 (j:=0) rfl (List.mem_cons_self ..) rfl) ?_; conv=>whnf)|refine aK ?_|refine aI (hn:=?_)|refine sP 48 (fun h=>?_) (fun h=>?_)|refine sP 53 (fun h=>?_) (fun h=>?_)|refine sP 61 (fun h=>?_) (fun h=>?_)|refine qR ?_|refine qS ?_|exact ⟨rfl,rfl⟩|fail)
  exact Nx.pick [2,3,9,10] [0,1,2,3,4] rfl rfl rfl ⟨rfl,rfl⟩
 rintro _ _ ⟨rfl,rfl⟩
 clear hF hB em ea hop
 refine L_seq (L_mid (fun E L=>∃ n,n≤mb∧n≤10∧E=[(2,slB 4 l.length),(3,slC 1 n mb),(9,pp 2),(10,pp 3)]∧L=LRB ma ar l) ?_ ?_)
 ·repeat' (first|refine qN ?_|refine dN ?_|refine dR ?_|refine d0 ?_|refine rT ?_|refine qT ?_|refine qU ?_|refine qL ?_|refine qK ?_|refine iF (fun h=>?_) (fun h=>?_)|refine S_Q [] rfl rfl (QY.slc0 (lo':=0) (hi':=10) rfl rfl rfl (by omega) (by omega)) ?_|refine aK ?_|refine aI (hn:=?_)|refine sP 48 (fun h=>?_) (fun h=>?_)|refine sP 53 (fun h=>?_) (fun h=>?_)|refine sP 61 (fun h=>?_) (fun h=>?_)|refine qR ?_|refine qS ?_|exact ⟨rfl,rfl⟩|fail)
  ·exact Nx.pick [2,3,9,10] [0,1,2,3,4] rfl rfl rfl ⟨10,by omega,by omega,rfl,rfl⟩
  ·exact Nx.pick [2,3,9,10] [0,1,2,3,4] rfl rfl rfl ⟨mb,by omega,by omega,rfl,rfl⟩
 rintro _ _ ⟨n,hn,hn10,rfl,rfl⟩
 have hRt:=rightA_tr l (by omega) ma ar hm ha xs n mb hxs hn (by omega)
 have hRD:=rrightA_tr l (by omega) ma ar hm ha xs n mb hxs hn
 generalize hr1:decide (RP l ⟨ma,ar,[],0,[],0⟩ (xs.take n))=r1 at *
 generalize hr2:decide (RP l ⟨ma,ar,[],0,[],0⟩ (ordM l l.length))=r2 at *
 clear hr1 hr2
 generalize ordM l l.length=oM at *
 refine L_seq (L_mid (fun E L=>E=[(2,slB 4 l.length),(3,slC 1 n mb),(9,pp 2),(10,pp 3),(11,slB 5 l.length),(12,.bool r2)]∧L=LRB ma ar l++[.gro 1 (rowsC intC oM)]) ?_ ?_)
 ·repeat' (first|refine qN ?_|refine dN ?_|refine dR ?_|refine d0 ?_|refine rT ?_|refine qT ?_|refine qU ?_|refine qL ?_|refine qK ?_|refine iF (fun h=>?_) (fun h=>?_)|(refine cF [4] (hO) ?_; conv=>whnf)|(refine cF [5] (hBM) ?_; conv=>whnf)|refine aK ?_|refine aI (hn:=?_)|refine sP 48 (fun h=>?_) (fun h=>?_)|refine sP 53 (fun h=>?_) (fun h=>?_)|refine sP 61 (fun h=>?_) (fun h=>?_)|refine qR ?_|refine qS ?_|exact ⟨rfl,rfl⟩|fail)
  exact Nx.pick [2,3,9,10,11,12] [0,1,2,3,4,6] rfl rfl rfl ⟨rfl,rfl⟩
 rintro _ _ ⟨rfl,rfl⟩
 refine L_seq (L_mid (fun E L=>E=[(2,slB 4 l.length),(3,slC 1 n mb),(9,pp 2),(10,pp 3),(11,slB 5 l.length),(12,.bool r2),(13,slB 6 l.length)]∧L=LRB ma ar l++[.gro 1 (rowsC intC oM),.gro 1 (rowsC intC oM)]) ?_ ?_)
 ·repeat' (first|refine qN ?_|refine dN ?_|refine dR ?_|refine d0 ?_|refine rT ?_|refine qT ?_|refine qU ?_|refine qL ?_|refine qK ?_|refine iF (fun h=>?_) (fun h=>?_)|(refine cF [4] (hRM) ?_; conv=>whnf)|refine aK ?_|refine aI (hn:=?_)|refine sP 48 (fun h=>?_) (fun h=>?_)|refine sP 53 (fun h=>?_) (fun h=>?_)|refine sP 61 (fun h=>?_) (fun h=>?_)|refine qR ?_|refine qS ?_|exact ⟨rfl,rfl⟩|fail)
  exact Nx.pick [2,3,9,10,11,12,13] [0,1,2,3,4,5,6] rfl rfl rfl ⟨rfl,rfl⟩
 rintro _ _ ⟨rfl,rfl⟩
 clear hBM hRM
 have hmem:(1,mb,rowI xs)∈[(0,nb*8,rowG 8 get),(1,mb,rowI xs)]:=List.mem_cons_of_mem _ (List.mem_cons_self ..)
 cases r1 <;> cases r2
 all_goals
  repeat' (first|refine qN ?_|refine dN ?_|refine d0 ?_|refine qT ?_|refine qU ?_|refine qL ?_|refine qK ?_|refine iF (fun h=>?_) (fun h=>?_)|(refine cF [4] (hO) ?_; conv=>whnf)|(refine cAr [7,1] hRt (hd0 (j:=1) rfl hmem rfl) ?_; conv=>whnf)|(refine cAr [4,1] hRD (hd0 (j:=1) rfl hmem rfl) ?_; conv=>whnf)|(refine cF [5,6] (hS) ?_; conv=>whnf)|(refine cF [4,6] (hR2) ?_; conv=>whnf)|refine S_Q [] rfl rfl (QY.eqlB rfl (by kernel_rfl) rfl rfl) ?_|(refine cF [] (hAw) ?_; conv=>whnf)|refine aK ?_|refine aI (hn:=?_)|refine sP 48 (fun h=>?_) (fun h=>?_)|refine sP 53 (fun h=>?_) (fun h=>?_)|refine sP 61 (fun h=>?_) (fun h=>?_)|refine qR ?_|refine qS ?_|exact ⟨rfl,rfl⟩|fail)
  exact L_ret (RetQ.pick [0,1] rfl rfl rfl rfl rfl)
theorem LinearRight_does (w:World) (a0 a1:Int) {v v':Value} {n m:Nat} {get get':Nat→List Value} (hr:SlIn w 8 v n get) (hf:∀ i,i<n→Fits [some .i64,none,some .i64,some .i64,some .i64,some .i64,some .i64,some .i64] (get i)) (hr':SlIn w 1 v' m get') (hf':∀ i,i<m→Fits [some .i64] (get' i)) :
  Does Try.prog 8 #[.int .i64 a0,.int .i64 a1,v,v'] w fun v w'=>v=.bool true∧Fr (fun _=>False) w w':=by
 obtain ⟨op,hop⟩:=choose_lt (n:=n) (p:=fun i (o:Ev)=>get i=o.cells) fun i hi=>evs_in (hf i hi)
 obtain ⟨x,hx⟩:=choose_lt (n:=m) (p:=fun i (o:Int)=>get' i=[.int .i64 o]) fun i hi=>(by
  obtain ⟨a,r0,e0,_,h0⟩:=(hf' i hi).int
  have e1:=h0.nil
  subst e1
  exact ⟨a,e0⟩)
 obtain ⟨hn,r,hr⟩:=hr
 obtain ⟨hm,r',hr'⟩:=hr'
 obtain ⟨h1,h2⟩:=hr [r,r'] 0 rfl
 obtain ⟨h3,h4⟩:=hr' [r,r'] 1 rfl
 rw [Nat.mul_one] at h4
 have h4:ArgAt (fun _=>False) w [r,r'] 1 m (rowI ((List.range m).map x)):=argAt_congr (g:=rowG 1 get') (fun i hi=>by
  unfold rowI rowG
  rw [Nat.div_one,Nat.mod_one,hx i hi]
  simp [hi]) h4
 exact (LinearRight_tr a0 a1 n hn get op hop m hm ((List.range m).map x) (by simp)).law (vs':=[.int .i64 a0,.int .i64 a1,v,v']) [r,r'] w rfl (by
  intro y hy
  rcases List.mem_cons.1 hy with rfl | hy
  ·exact ⟨rfl,h2⟩
  ·cases List.mem_singleton.1 hy; exact ⟨rfl,h4⟩) ⟨rfl,rfl,h1,h3,trivial⟩
end Go.Proofs.Ythgmdlmeeebfiaa
end
