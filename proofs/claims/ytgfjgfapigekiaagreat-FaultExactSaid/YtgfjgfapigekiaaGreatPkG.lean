/-
  What the proof leans on, part 7: of the texts SlabC, SlabD, SlabE, SlabG, LargeD, LargeF, LargeG, PagesC, Lw38, RgM, RLargeA, RLargeB, RLargeC, Lw27, RLargeD, DocM, DocC, DocD, DocE, RgA, RgB.
-/
import Derived.Test.YtgfjgfapigekiaaGreatPkF
set_option linter.unusedVariables false
set_option linter.unusedSimpArgs false
set_option linter.unusedSectionVars false
section
namespace Go.Proofs.YtgfjgfapigekiaaGreat
open Go Go.Tum Go.Tum.Base
set_option maxRecDepth 4000
def AN (N:Nat) (bs:Bytes):LH:=[.cells 0 [slB 1 N],BL bs]
theorem aLen (N:Nat) (bs:Bytes) (hl:bs.length=N):Tr Tryz.prog 53 [ptr 0] (AN N bs) (fun v K=>v=.int .i64 N∧K=AN N bs):=by
 subst hl; exact arenaLen_tr bs
theorem aSet (N:Nat) (bs:Bytes) (hl:bs.length=N) (hN:N≤65536) (i:Nat) (h:i+8≤N) (h8:i % 8=0) (x:BitVec 64):Tr Tryz.prog 138 [ptr 0,.int .i64 i,.int .u64 (x.toNat:Int)] (AN N bs) (fun v K=>v=.int .i64 0∧K=AN N (overB bs i (putB x 8))):=by
 subst hl
 have:=arenaSetWord_ok bs hN i h h8 x
 rw [AL_over (by rw [putB_length]; exact h)] at this
 exact this
theorem aWord (N:Nat) (bs:Bytes) (hl:bs.length=N) (hN:N≤65536) (i:Nat) (h:i+8≤N) (h8:i % 8=0):Tr Tryz.prog 152 [ptr 0,.int .i64 i] (AN N bs) (fun v K=>v=.tuple ⟨[.int .u64 ((wordB bs i).toNat:Int),.int .i64 0]⟩∧K=AN N bs):=by
 subst hl; exact arenaWord_ok bs hN i h h8
theorem aFill (N:Nat) (bs:Bytes) (hl:bs.length=N) (hN:N≤65536) (i m:Nat) (c:BitVec 8) (h:i+m≤N):Tr Tryz.prog 117 [ptr 0,.int .i64 i,.int .i64 m,.int .u8 (c.toNat:Int)] (AN N bs) (fun v K=>v=.int .i64 0∧K=AN N (overB bs i (List.replicate m c))):=by
 subst hl
 have:=arenaFill_ok bs hN i m c h
 rw [AL_over (by rw [List.length_replicate]; exact h)] at this
 exact this
theorem Slots_tr (c:Int):Tr Tryz.prog 61 [.int .i64 c] [] (fun v K=>v=.int .i64 (slotsC c)∧K=[]):=by
 by_cases h:c=0∨c=1∨c=2∨c=3
 ·rcases h with rfl | rfl | rfl | rfl
  ·refine Tr.of row_class_Slots_ok rfl ?_
   repeat' (first|refine qN ?_|refine dN ?_|refine rT ?_|refine qU ?_|refine qL ?_|refine cP [] (may_tr 0) ?_|refine cP [] (Size_tr 0) ?_|refine S_Q [] rfl rfl (QY.divN (c:=16) rfl rfl (by decide) (by decide) (by decide)) ?_|refine qS ?_|exact ⟨rfl,rfl⟩|fail)
  ·refine Tr.of row_class_Slots_ok rfl ?_
   repeat' (first|refine qN ?_|refine dN ?_|refine rT ?_|refine qU ?_|refine qL ?_|refine cP [] (may_tr 1) ?_|refine cP [] (Size_tr 1) ?_|refine S_Q [] rfl rfl (QY.divN (c:=8) rfl rfl (by decide) (by decide) (by decide)) ?_|refine qS ?_|exact ⟨rfl,rfl⟩|fail)
  ·refine Tr.of row_class_Slots_ok rfl ?_
   repeat' (first|refine qN ?_|refine dN ?_|refine rT ?_|refine qU ?_|refine qL ?_|refine cP [] (may_tr 2) ?_|refine cP [] (Size_tr 2) ?_|refine S_Q [] rfl rfl (QY.divN (c:=4) rfl rfl (by decide) (by decide) (by decide)) ?_|refine qS ?_|exact ⟨rfl,rfl⟩|fail)
  ·refine Tr.of row_class_Slots_ok rfl ?_
   repeat' (first|refine qN ?_|refine dN ?_|refine rT ?_|refine qU ?_|refine qL ?_|refine cP [] (may_tr 3) ?_|refine cP [] (Size_tr 3) ?_|refine S_Q [] rfl rfl (QY.divN (c:=2) rfl rfl (by decide) (by decide) (by decide)) ?_|refine qS ?_|exact ⟨rfl,rfl⟩|fail)
 ·have hM:=may_tr c
  rw [decide_eq_false (by omega)] at hM
  have hS:slotsC c=0:=by
   unfold slotsC
   rw [if_neg (by omega),if_neg (by omega),if_neg (by omega),if_neg (by omega)]
  rw [hS]
  refine Tr.of row_class_Slots_ok rfl ?_
  repeat' (first|refine qN ?_|refine dN ?_|refine rT ?_|refine qT ?_|refine cP [] (hM) ?_|refine qS ?_|exact ⟨rfl,rfl⟩|fail)
theorem Base_ok {c:Int} {z n:Nat} (hc:Cls c z n) (p k:Nat) (hp:p<256) (hk:k<n):Tr Tryz.prog 95 [.int .i64 p,.int .i64 c,.int .i64 k] [] (fun v K=>v=.int .i64 (baseN p z k)∧K=[]):=by
 have hS:=Slots_tr c
 have hZ:=Size_tr c
 rw [hc.slots] at hS
 rw [hc.size] at hZ
 obtain ⟨h1,h2,h3,h4,h5,_⟩:=hc.base hk p
 rw [h5]
 refine Tr.of row_class_Base_ok rfl ?_
 repeat' (first|refine qN ?_|refine dN ?_|refine rT ?_|refine qT ?_|refine qL ?_|refine iF (fun h=>?_) (fun h=>?_)|refine cP [] (hS) ?_|refine cP [] (hZ) ?_|refine S_Q [] rfl rfl (QY.mul (c:=((256*p:Nat):Int)) rfl rfl (by omega) (by omega) (by omega)) ?_|refine S_Q [] rfl rfl (QY.mul (c:=((z*k:Nat):Int)) rfl rfl (by rw [Int.natCast_mul]) (by omega) (by omega)) ?_|refine S_Q [] rfl rfl (QY.add (c:=((256*p+z*k:Nat):Int)) rfl rfl (by omega) (by omega) (by omega)) ?_|refine sP 9 (fun h=>?_) (fun h=>?_)|refine sP 13 (fun h=>?_) (fun h=>?_)|refine qS ?_|exact ⟨rfl,rfl⟩|fail)
 all_goals (exfalso; omega)
theorem Base_tr {c:Int} {z n:Nat} (hc:Cls c z n) (p:Nat) (k:Int) (hp:p<256):Tr Tryz.prog 95 [.int .i64 p,.int .i64 c,.int .i64 k] [] (fun v K=>v=.int .i64 (baseI p z n k)∧K=[]):=by
 by_cases h:k<0∨(n:Int)≤k
 ·have hS:=Slots_tr c
  rw [hc.slots] at hS
  rw [show baseI p z n k = -1 by unfold baseI; rw [if_pos h]]
  refine Tr.of row_class_Base_ok rfl ?_
  repeat' (first|refine qN ?_|refine dN ?_|refine rT ?_|refine qT ?_|refine qL ?_|refine iF (fun h=>?_) (fun h=>?_)|refine cP [] (hS) ?_|refine aM ?_|refine sP 9 (fun h=>?_) (fun h=>?_)|refine sP 13 (fun h=>?_) (fun h=>?_)|refine sP 17 (fun h=>?_) (fun h=>?_)|refine qS ?_|exact ⟨rfl,rfl⟩|fail)
  all_goals (exfalso; omega)
 ·obtain ⟨i,rfl⟩:=Int.eq_ofNat_of_zero_le (show 0≤k by omega)
  rw [show baseI p z n i=baseN p z i by unfold baseI; rw [if_neg h,Int.toNat_natCast]]
  exact Base_ok hc p i hp (by omega)
theorem Slot_tr {c:Int} {z n:Nat} (hc:Cls c z n) (a:Int):Tr Tryz.prog 55 [.int .i64 a,.int .i64 c] [] (fun v K=>v=.tuple ⟨[.int .i64 (pageI a),.int .i64 (slotI z a)]⟩∧K=[]):=by
 have hM:=may_tr c
 have hb:=hc.bd
 rw [decide_eq_true (by omega)] at hM
 have hZ:=Size_tr c
 rw [hc.size] at hZ
 by_cases h:a<0∨65536≤a
 ·rw [show pageI a = -1 by unfold pageI; rw [if_pos h],show slotI z a = -1 by unfold slotI; rw [if_pos h]]
  refine Tr.of row_class_Slot_ok rfl ?_
  repeat' (first|refine qN ?_|refine dN ?_|refine rT ?_|refine qT ?_|refine qL ?_|refine iF (fun h=>?_) (fun h=>?_)|refine cP [] (hM) ?_|refine aD ?_|refine aR ?_|refine sP 13 (fun h=>?_) (fun h=>?_)|refine qS ?_|exact ⟨rfl,rfl⟩|fail)
  all_goals (exfalso; omega)
 ·rw [show pageI a=a / 256 by unfold pageI; rw [if_neg h],show slotI z a=a % 256 / z by unfold slotI; rw [if_neg h]]
  have hd:a % 256 / (z:Int)≤16∧0≤a % 256 / (z:Int):=by
   rcases hc.is with ⟨_,rfl,_⟩ | ⟨_,rfl,_⟩ | ⟨_,rfl,_⟩ | ⟨_,rfl,_⟩ <;> omega
  refine Tr.of row_class_Slot_ok rfl ?_
  repeat' (first|refine qN ?_|refine dN ?_|refine rT ?_|refine qT ?_|refine qL ?_|refine iF (fun h=>?_) (fun h=>?_)|refine cP [] (hM) ?_|refine cP [] (hZ) ?_|refine S_Q [] rfl rfl (QY.divN (c:=a % 256 / z) rfl rfl rfl (by omega) (by omega)) ?_|refine aD ?_|refine aR ?_|refine sP 13 (fun h=>?_) (fun h=>?_)|refine qS ?_|exact ⟨rfl,rfl⟩|fail)
  all_goals (exfalso; omega)
theorem mask_tr (k:BitVec 64) (a:Int):Tr Tryz.prog 168 [.agg ⟨[.int .u64 (k.toNat:Int)]⟩,.int .i64 a] [] (fun v K=>v=.int .u64 ((mixW (k+BitVec.ofInt 64 a)).toNat:Int)∧K=[]):=by
 refine Tr.of row_link_Code_mask_ok rfl ?_
 repeat' (first|refine qN ?_|refine dN ?_|fail)
 first|refine L_rs ?_|refine L_reg ?_ | skip
 refine S_Q [] rfl rfl (QY.cvIW rfl) ?_
 first|refine L_rs ?_|refine L_reg ?_ | skip
 refine S_Q [] rfl rfl (QY.addW rfl rfl) ?_
 first|refine L_rs ?_|refine L_reg ?_ | skip
 refine cP [] (mix_tr (k+BitVec.ofInt 64 a)) ?_
 repeat' (first|refine dN ?_|refine rT ?_|exact ⟨rfl,rfl⟩|fail)
theorem linkPut_tr (k:BitVec 64) (a:Nat) (nx:Int) (h : -1≤nx∧nx<65536):Tr Tryz.prog 153 [.agg ⟨[.int .u64 (k.toNat:Int)]⟩,.int .i64 a,.int .i64 nx] [] (fun v K=>v=.int .u64 ((putL k a nx).toNat:Int)∧K=[]):=by
 refine Tr.of row_link_Code_Put_ok rfl ?_
 repeat' (first|refine qN ?_|refine dN ?_|refine rT ?_|refine qT ?_|refine qL ?_|refine iF (fun h=>?_) (fun h=>?_)|refine cP [] (mask_tr k a) ?_|refine S_Q [] rfl rfl (QY.cvIW rfl) ?_|refine S_Q [] rfl rfl (QY.orW (b:=6510516211317473280#64) rfl rfl) ?_|refine S_Q [] rfl rfl (QY.xorW rfl rfl) ?_|refine aA ?_|refine sP 9 (fun h=>?_) (fun h=>?_)|refine sP 13 (fun h=>?_) (fun h=>?_)|refine qS ?_|exact ⟨rfl,rfl⟩|fail)
 all_goals (exfalso; omega)
theorem linkGet_tr (k w:BitVec 64) (a:Nat):Tr Tryz.prog 162 [.agg ⟨[.int .u64 (k.toNat:Int)]⟩,.int .i64 a,.int .u64 (w.toNat:Int)] [] (fun v K=>v=(match getL k w a with
  | some nx=>.tuple ⟨[.int .i64 nx,.bool true]⟩
  | none=>.tuple ⟨[.int .i64 0,.bool false]⟩)∧K=[]):=by
 unfold getL
 have hle:((w ^^^ mixW (k+BitVec.ofInt 64 a)) &&& 4294967295#64).toNat≤4294967295:=by
  rw [BitVec.toNat_and]; exact Nat.and_le_right
 refine Tr.of row_link_Code_Get_ok rfl ?_
 repeat' (first|refine qN ?_|refine dN ?_|refine rT ?_|refine qT ?_|refine qU ?_|refine qL ?_|refine iF (fun h=>?_) (fun h=>?_)|refine cP [] (mask_tr k a) ?_|refine S_Q [] rfl rfl (QY.xorW rfl rfl) ?_|refine S_Q [] rfl rfl (QY.andNotW (b:=4294967295#64) rfl rfl) ?_|refine S_Q [] rfl rfl (QY.andW (b:=4294967295#64) rfl rfl) ?_|refine S_Q [] rfl rfl (QY.cvi rfl (m:=(((w ^^^ mixW (k+BitVec.ofInt 64 a)) &&& 4294967295#64).toNat:Int)) (wrap64_id (by omega) (by omega))) ?_|refine aS ?_|refine sP 19 (fun h=>?_) (fun h=>?_)|refine qS ?_|fail)
 ·refine ⟨?_,rfl⟩
  simp only
  rw [if_neg (by omega)]; rfl
 ·refine ⟨?_,rfl⟩
  simp only
  rw [if_neg (by omega)]; rfl
 ·refine ⟨?_,rfl⟩
  simp only
  rw [if_pos (by omega)]; rfl
theorem getL_bd {k w:BitVec 64} {a:Nat} {nx:Int} (h:getL k w a=some nx) : -1≤nx∧nx<2147483648:=by
 unfold getL at h
 simp only at h
 split at h
 ·cases h; omega
 ·cases h
theorem has1_tr (w:BitVec 64) (n:Nat) (hn:n≤64) (i:Nat) (h:i<n):Tr Tryz.prog 114 [ptr 0,.int .i64 i] (BS [w] n) (fun v K=>v=.bool (w.getLsbD i)∧K=BS [w] n):=by
 have:=bsHas_ok [w] n (by omega) (by simpa using hn) i h
 rw [bitAt1 w (by omega)] at this
 exact this
theorem put1_tr (w:BitVec 64) (n:Nat) (hn:n≤64) (i:Nat) (h:i<n) (v:Bool):Tr Tryz.prog 119 [ptr 0,.int .i64 i,.bool v] (BS [w] n) (fun u K=>u=.int .i64 0∧K=BS [putW w i v] n):=by
 have:=bsPut_ok [w] n (by omega) (by simpa using hn) i h v
 rw [putW_eq w (by omega)] at this
 exact this
def PSL (key:BitVec 64) (N:Nat) (bs:Bytes) (n:Nat) (t:PS):LH:=[.cells 0 [slB 1 N],BL bs,.cells 0 [ptr 0,.int .u64 (key.toNat:Int),.int .i64 t.pg,.int .i64 t.c,.int .i64 t.ow,ptr 3,ptr 5,.int .i64 t.f],.cells 0 [slB 4 1,.int .i64 n],.gro 1 (rowsC wordC [t.lw]),.cells 0 [slB 6 1,.int .i64 n],.gro 1 (rowsC wordC [t.hw])]
section
variable (key:BitVec 64) (N:Nat) (bs:Bytes) (hl:bs.length=N) {z n:Nat} (t:PS)
theorem sbase_ok (h:t.Ok N z n) (k:Nat) (hk:k<n):Tr Tryz.prog 118 [ptr 2,.int .i64 k] (PSL key N bs n t) (fun v K=>v=.int .i64 (baseN t.pg z k)∧K=PSL key N bs n t):=by
 have hp:=h.pg
 have hN:=h.N
 refine Tr.of row_slab_Slab_base_ok rfl ?_
 repeat' (first|refine qN ?_|refine dN ?_|refine rT ?_|refine cP [] (Base_ok h.cls t.pg k (by omega) hk) ?_|exact ⟨rfl,rfl⟩|fail)
theorem sbase_tr (h:t.Ok N z n) (k:Int):Tr Tryz.prog 118 [ptr 2,.int .i64 k] (PSL key N bs n t) (fun v K=>v=.int .i64 (baseI t.pg z n k)∧K=PSL key N bs n t):=by
 have hp:=h.pg
 have hN:=h.N
 refine Tr.of row_slab_Slab_base_ok rfl ?_
 repeat' (first|refine qN ?_|refine dN ?_|refine rT ?_|refine cP [] (Base_tr h.cls t.pg k (by omega)) ?_|exact ⟨rfl,rfl⟩|fail)
theorem sPage_tr:Tr Tryz.prog 110 [ptr 2] (PSL key N bs n t) (fun v K=>v=.int .i64 t.pg∧K=PSL key N bs n t):=by
 refine Tr.of row_slab_Slab_Page_ok rfl ?_
 repeat' (first|refine qN ?_|refine dN ?_|refine rT ?_|refine qU ?_|refine qL ?_|refine qS ?_|exact ⟨rfl,rfl⟩|fail)
theorem sClass_tr:Tr Tryz.prog 56 [ptr 2] (PSL key N bs n t) (fun v K=>v=.int .i64 t.c∧K=PSL key N bs n t):=by
 refine Tr.of row_slab_Slab_Class_ok rfl ?_
 repeat' (first|refine qN ?_|refine dN ?_|refine rT ?_|refine qU ?_|refine qL ?_|refine qS ?_|exact ⟨rfl,rfl⟩|fail)
theorem sOwner_tr:Tr Tryz.prog 108 [ptr 2] (PSL key N bs n t) (fun v K=>v=.int .i64 t.ow∧K=PSL key N bs n t):=by
 refine Tr.of row_slab_Slab_Owner_ok rfl ?_
 repeat' (first|refine qN ?_|refine dN ?_|refine rT ?_|refine qU ?_|refine qL ?_|refine qS ?_|exact ⟨rfl,rfl⟩|fail)
theorem sState_tr (h:t.Ok N z n) (k:Int):Tr Tryz.prog 62 [ptr 2,.int .i64 k] (PSL key N bs n t) (fun v K=>v=.int .i64 (t.stI n k)∧K=PSL key N bs n t):=by
 have hb:=h.cls.bd
 have hL:=bsLen_tr [t.lw] n
 by_cases hk:k<0∨(n:Int)≤k
 ·rw [show t.stI n k = -1 by unfold PS.stI; rw [if_pos hk]]
  refine Tr.of row_slab_Slab_State_ok rfl ?_
  repeat' (first|refine qN ?_|refine dN ?_|refine qB ?_|refine rT ?_|refine qT ?_|refine iF (fun h=>?_) (fun h=>?_)|refine cP [3,4] (hL) ?_|refine sP 12 (fun h=>?_) (fun h=>?_)|refine qS ?_|exact ⟨rfl,rfl⟩|fail)
  all_goals (exfalso; omega)
 ·obtain ⟨i,rfl⟩:=Int.eq_ofNat_of_zero_le (show 0≤k by omega)
  rw [show t.stI n i=t.st i by unfold PS.stI; rw [if_neg hk,Int.toNat_natCast]]
  have h1:=has1_tr t.lw n (by omega) i (by omega)
  have h2:=has1_tr t.hw n (by omega) i (by omega)
  unfold PS.st
  cases e1:t.lw.getLsbD i <;> rw [e1] at h1
  ·cases e2:t.hw.getLsbD i <;> rw [e2] at h2
   ·refine Tr.of row_slab_Slab_State_ok rfl ?_
    repeat' (first|refine qN ?_|refine dN ?_|refine qB ?_|refine rT ?_|refine qU ?_|refine qL ?_|refine iF (fun h=>?_) (fun h=>?_)|refine cP [3,4] (hL) ?_|refine cP [3,4] (h1) ?_|refine cP [5,6] (h2) ?_|refine qS ?_|exact ⟨rfl,rfl⟩|fail)
    all_goals (exfalso; omega)
   ·refine Tr.of row_slab_Slab_State_ok rfl ?_
    repeat' (first|refine qN ?_|refine dN ?_|refine qB ?_|refine rT ?_|refine qT ?_|refine qU ?_|refine iF (fun h=>?_) (fun h=>?_)|refine cP [3,4] (hL) ?_|refine cP [3,4] (h1) ?_|refine cP [5,6] (h2) ?_|refine qS ?_|exact ⟨rfl,rfl⟩|fail)
    all_goals (exfalso; omega)
  ·refine Tr.of row_slab_Slab_State_ok rfl ?_
   repeat' (first|refine qN ?_|refine dN ?_|refine qB ?_|refine rT ?_|refine qT ?_|refine iF (fun h=>?_) (fun h=>?_)|refine cP [3,4] (hL) ?_|refine cP [3,4] (h1) ?_|refine qS ?_|exact ⟨rfl,rfl⟩|fail)
   all_goals (exfalso; omega)
theorem sCount_tr (h:t.Ok N z n) (s:Int):Tr Tryz.prog 68 [ptr 2,.int .i64 s] (PSL key N bs n t) (fun v K=>v=.int .i64 (cntS t s n)∧K=PSL key N bs n t):=by
 have hb:=h.cls.bd
 have hL:=bsLen_tr [t.lw] n
 have hS:∀ k:Nat,k<n→Tr Tryz.prog 62 [ptr 2,.int .i64 k] (PSL key N bs n t) (fun v K=>v=.int .i64 (t.st k)∧K=PSL key N bs n t):=fun k hk=>by
  have:=sState_tr key N bs t h k
  rw [show t.stI n k=t.st k by unfold PS.stI; rw [if_neg (by omega),Int.toNat_natCast]] at this
  exact this
 refine Tr.of row_slab_Slab_Count_ok rfl ?_
 repeat' (first|refine qN ?_|refine dN ?_|refine qB ?_|refine qU ?_|refine qL ?_|refine cP [3,4] (hL) ?_|refine qS ?_|fail)
 refine LWp.pick [0,1,5,13,14] [0,1,2,3,4,5,6] rfl rfl rfl (L_loop (fun q l K=>∃ k:Nat,q=n-k∧k≤n∧l=[(0,ptr 2),(1,.int .i64 s),(5,.int .i64 (cntS t s k)),(13,.int .i64 n),(14,.int .i64 k)]∧K=PSL key N bs n t) n ⟨0,rfl,by omega,rfl,rfl⟩ ?_)
 rintro q _ _ ⟨k,rfl,hk,rfl,rfl⟩
 first|refine L_seq (L_rs (S_done [] rfl (Nx.goL (iF (fun h=>L_skip (Nx.goL ?_)) (fun h=>L_exit ?_)))))|refine L_rs (S_done [] rfl (Nx.goL (L_seq (iF (fun h=>L_skip (Nx.goL ?_)) (fun h=>L_exit ?_)))))
 ·have hk2:k<n:=by omega
  have hc:=cntS_le t s k
  have hS:=hS k hk2
  by_cases e:t.st k=s
  ·repeat' (first|refine qN ?_|refine dN ?_|refine d0 ?_|refine qB ?_|refine qL ?_|refine iF (fun h=>?_) (fun h=>?_)|refine cP [0,1,2,3,4,5,6] (hS) ?_|refine aA ?_|refine qR ?_|refine qS ?_|fail)
   all_goals first | (exfalso; omega)|exact Nx.pick [0,1,5,13,14] [0,1,2,3,4,5,6] rfl rfl rfl ⟨n-(k+1),by omega,k+1,rfl,by omega,by simp only [cntS]; rw [if_pos e]; rfl,rfl⟩
  ·repeat' (first|refine qN ?_|refine dN ?_|refine d0 ?_|refine qB ?_|refine qL ?_|refine iF (fun h=>?_) (fun h=>?_)|refine cP [0,1,2,3,4,5,6] (hS) ?_|refine aA ?_|refine qR ?_|refine qS ?_|fail)
   all_goals first | (exfalso; omega)|exact Nx.pick [0,1,5,13,14] [0,1,2,3,4,5,6] rfl rfl rfl ⟨n-(k+1),by omega,k+1,rfl,by omega,by simp only [cntS]; rw [if_neg e]; rfl,rfl⟩
 ·obtain rfl:k=n:=by omega
  refine Nx.goL ?_
  repeat' (first|refine qN ?_|refine dN ?_|refine rT ?_|exact ⟨rfl,rfl⟩|fail)
end
end Go.Proofs.YtgfjgfapigekiaaGreat
end
section
namespace Go.Proofs.YtgfjgfapigekiaaGreat
open Go Go.Tum Go.Tum.Base
set_option maxRecDepth 4000
theorem stI_at (t:PS) {n k:Nat} (hk:k<n):t.stI n k=t.st k:=by unfold PS.stI; rw [if_neg (by omega),Int.toNat_natCast]
theorem st_bd (t:PS) (k:Nat):t.st k=0∨t.st k=1∨t.st k=2:=by unfold PS.st; (repeat' split) <;> simp
theorem stI_bd (t:PS) (n:Nat) (k:Int) : -1≤t.stI n k∧t.stI n k≤2:=by
 unfold PS.stI; split
 ·omega
 ·rcases st_bd t k.toNat with h | h | h <;> omega
variable (key:BitVec 64) (N:Nat) (bs:Bytes) (hl:bs.length=N) {z n:Nat} (t:PS)
include hl
set_option maxHeartbeats 1000000 in
theorem sFollow_tr (h:t.Ok N z n) (k:Nat) (hk:k<n):Tr Tryz.prog 136 [ptr 2,.int .i64 (baseN t.pg z k)] (PSL key N bs n t) (fun v K=>v=.tuple ⟨[.int .i64 (folP key bs z n t k).1,.bool (folP key bs z n t k).2]⟩∧K=PSL key N bs n t):=by
 obtain ⟨b1,b2,b3,b4,b5,b6,b7⟩:=h.cls.base hk t.pg
 have hbd:=h.cls.bd
 have hp:=h.pg
 have hN:=h.N
 have hW:=aWord N bs hl hN (baseN t.pg z k) (by omega) (by omega)
 have hG:=linkGet_tr key (wordB bs (baseN t.pg z k)) (baseN t.pg z k)
 unfold folP
 generalize baseN t.pg z k=a at *
 cases e:getL key (wordB bs a) a with
 | none =>
  rw [e] at hG
  refine Tr.of row_slab_Slab_follow_ok rfl ?_
  repeat' (first|refine qN ?_|refine dN ?_|refine rT ?_|refine qT ?_|refine cP [0,1] (hW) ?_|refine cP [] (hG) ?_|refine qS ?_|exact ⟨rfl,rfl⟩|fail)
 | some nx =>
  have hnx:=getL_bd e
  rw [e] at hG
  have hS:=Slot_tr h.cls nx
  have hB:=sbase_tr key N bs t h (slotI z nx)
  have hSt:=sState_tr key N bs t h (slotI z nx)
  simp only
  by_cases e1:nx = -1
  ·subst e1
   rw [if_pos rfl]
   refine Tr.of row_slab_Slab_follow_ok rfl ?_
   repeat' (first|refine qN ?_|refine dN ?_|refine rT ?_|refine qT ?_|refine qU ?_|refine qL ?_|refine cP [0,1] (hW) ?_|refine cP [] (hG) ?_|refine qS ?_|exact ⟨rfl,rfl⟩|fail)
  ·rw [if_neg e1]
   have b1:=stI_bd t n (slotI z nx)
   generalize t.stI n (slotI z nx)=u at *
   generalize baseI t.pg z n (slotI z nx)=b at *
   generalize pageI nx=pp at *
   refine Tr.of row_slab_Slab_follow_ok rfl ?_
   repeat' (first|refine qN ?_|refine dN ?_|refine rT ?_|refine qU ?_|refine qL ?_|refine iF (fun h=>?_) (fun h=>?_)|refine cP [0,1] (hW) ?_|refine cP [] (hG) ?_|refine cP [] (hS) ?_|refine cP [0,1,2,3,4,5,6] (hB) ?_|refine cP [0,1,2,3,4,5,6] (hSt) ?_|refine sP 52 (fun h=>?_) (fun h=>?_)|refine sP 60 (fun h=>?_) (fun h=>?_)|refine sP 67 (fun h=>?_) (fun h=>?_)|refine qS ?_|fail)
   all_goals first | (exfalso; omega)|(refine ⟨VT2 rfl ?_,rfl⟩; first | (symm; rw [decide_eq_false_iff_not]; omega) | (rw [Bool.eq_iff_iff,decide_eq_true_eq,beq_iff_eq]; omega))
theorem sJoin_tr (h:t.Ok N z n) (k:Nat) (hk:k<n):Tr Tryz.prog 122 [ptr 2,.int .i64 k] (PSL key N bs n t) (fun v K=>v=.tuple ⟨[]⟩∧K=PSL key N (joinP key bs z t k) n { t with f:=baseN t.pg z k }):=by
 obtain ⟨b1,b2,b3,b4,b5,b6,b7⟩:=h.cls.base hk t.pg
 have hbd:=h.cls.bd
 have hp:=h.pg
 have hN:=h.N
 have hB:=sbase_ok key N bs t h k hk
 have hP:=linkPut_tr key (baseN t.pg z k) t.f h.f
 have hS:=aSet N bs hl hN (baseN t.pg z k) (by omega) (by omega) (putL key (baseN t.pg z k) t.f)
 unfold joinP
 generalize baseN t.pg z k=a at *
 refine Tr.of row_slab_Slab_join_ok rfl ?_
 repeat' (first|refine qN ?_|refine dN ?_|refine dR ?_|refine cP [0,1,2,3,4,5,6] (hB) ?_|refine cP [] (hP) ?_|(refine cF [0,1] (hS) ?_; conv=>whnf)|refine qR ?_|exact ⟨rfl,rfl⟩|fail)
theorem sCanary_tr (h:t.Ok N z n) (k:Nat) (hk:k<n):Tr Tryz.prog 137 [ptr 2,.int .i64 k] (PSL key N bs n t) (fun v K=>v=.tuple ⟨[.int .i64 (baseN t.pg z k+z-8:Nat),.int .u64 ((canW key (baseN t.pg z k)).toNat:Int)]⟩∧K=PSL key N bs n t):=by
 obtain ⟨b1,b2,b3,b4,b5,b6,b7⟩:=h.cls.base hk t.pg
 have hbd:=h.cls.bd
 have hp:=h.pg
 have hN:=h.N
 have hB:=sbase_ok key N bs t h k hk
 have hR:=Room_tr t.c
 rw [h.cls.size,show max ((z:Int)-8) 0=((z-8:Nat):Int) by omega] at hR
 have hC:=Canary_tr key (baseN t.pg z k)
 generalize baseN t.pg z k=a at *
 refine Tr.of row_slab_Slab_canary_ok rfl ?_
 repeat' (first|refine qN ?_|refine dN ?_|refine rT ?_|refine cP [0,1,2,3,4,5,6] (hB) ?_|refine cP [] (hR) ?_|refine cP [] (hC) ?_|refine S_Q [] rfl rfl (QY.add (c:=((a+z-8:Nat):Int)) rfl rfl (by omega) (by omega) (by omega)) ?_|exact ⟨rfl,rfl⟩|fail)
omit hl in
theorem sMust_tr (h:t.Ok N z n) (k s:Int):Tr Tryz.prog 115 [ptr 2,.int .i64 k,.int .i64 s] (PSL key N bs n t) (fun v K=>v=.int .i64 (if t.stI n k = -1 then 3 else if t.stI n k=s then 0 else 8)∧K=PSL key N bs n t):=by
 have hS:=sState_tr key N bs t h k
 have hb:=stI_bd t n k
 generalize t.stI n k=u at *
 by_cases h1:u = -1
 ·rw [if_pos h1]
  refine Tr.of row_slab_Slab_must_ok rfl ?_
  repeat' (first|refine qN ?_|refine dN ?_|refine qB ?_|refine rT ?_|refine qU ?_|refine qL ?_|refine iF (fun h=>?_) (fun h=>?_)|refine cP [0,1,2,3,4,5,6] (hS) ?_|refine qS ?_|exact ⟨rfl,rfl⟩|fail)
  all_goals (exfalso; omega)
 ·rw [if_neg h1]
  by_cases h2:u=s
  ·rw [if_pos h2]
   refine Tr.of row_slab_Slab_must_ok rfl ?_
   repeat' (first|refine qN ?_|refine dN ?_|refine qB ?_|refine rT ?_|refine qU ?_|refine qL ?_|refine iF (fun h=>?_) (fun h=>?_)|refine cP [0,1,2,3,4,5,6] (hS) ?_|refine qS ?_|exact ⟨rfl,rfl⟩|fail)
   all_goals (exfalso; omega)
  ·rw [if_neg h2]
   refine Tr.of row_slab_Slab_must_ok rfl ?_
   repeat' (first|refine qN ?_|refine dN ?_|refine qB ?_|refine rT ?_|refine qU ?_|refine qL ?_|refine iF (fun h=>?_) (fun h=>?_)|refine cP [0,1,2,3,4,5,6] (hS) ?_|refine qS ?_|exact ⟨rfl,rfl⟩|fail)
   all_goals (exfalso; omega)
theorem sStands_tr (h:t.Ok N z n) (k:Nat) (hk:k<n):Tr Tryz.prog 116 [ptr 2,.int .i64 k] (PSL key N bs n t) (fun v K=>v=.bool (standsK key bs t.pg z k)∧K=PSL key N bs n t):=by
 obtain ⟨b1,b2,b3,b4,b5,b6,b7⟩:=h.cls.base hk t.pg
 have hbd:=h.cls.bd
 have hp:=h.pg
 have hN:=h.N
 have hC:=sCanary_tr key N bs hl t h k hk
 have hW:=aWord N bs hl hN (baseN t.pg z k+z-8) (by omega) (by omega)
 unfold standsK
 generalize baseN t.pg z k=a at *
 refine Tr.of row_slab_Slab_stands_ok rfl ?_
 repeat' (first|refine qN ?_|refine dN ?_|refine rT ?_|refine cP [0,1,2,3,4,5,6] (hC) ?_|refine cP [0,1] (hW) ?_|fail)
 refine ⟨congrArg Value.bool ?_,rfl⟩
 rw [Bool.eq_iff_iff,beq_iff_eq,decide_eq_true_eq]
 exact ⟨fun h=>BitVec.eq_of_toNat_eq (by omega),fun h=>by rw [h]⟩
omit hl in
theorem sTake_full (hf:t.f = -1):Tr Tryz.prog 94 [ptr 2] (PSL key N bs n t) (fun v K=>v=.tuple ⟨[.int .i64 0,.int .i64 5]⟩∧K=PSL key N bs n t):=by
 unfold PSL
 rw [hf]
 refine Tr.of row_slab_Slab_Take_ok rfl ?_
 repeat' (first|refine qN ?_|refine dN ?_|refine qB ?_|refine rT ?_|refine qT ?_|refine qU ?_|refine qS ?_|exact ⟨rfl,rfl⟩|fail)
theorem sTake_form (h:t.Ok N z n) (k:Nat) (hk:k<n) (hf:t.f=baseN t.pg z k) (hx:(folP key bs z n t k).2=false):Tr Tryz.prog 94 [ptr 2] (PSL key N bs n t) (fun v K=>v=.tuple ⟨[.int .i64 0,.int .i64 4]⟩∧K=PSL key N bs n t):=by
 have hF:=sFollow_tr key N bs hl t h k hk
 rw [hx,← hf] at hF
 refine Tr.of row_slab_Slab_Take_ok rfl ?_
 repeat' (first|refine qN ?_|refine dN ?_|refine qB ?_|refine rT ?_|refine qT ?_|refine qU ?_|refine qL ?_|refine iF (fun h=>?_) (fun h=>?_)|refine cP [0,1,2,3,4,5,6] (hF) ?_|refine qS ?_|exact ⟨rfl,rfl⟩|fail)
 all_goals (exfalso; omega)
set_option maxHeartbeats 2000000 in
theorem sTake_ok (h:t.Ok N z n) (k:Nat) (hk:k<n) (hf:t.f=baseN t.pg z k) (nx:Int) (hx:folP key bs z n t k=(nx,true)):Tr Tryz.prog 94 [ptr 2] (PSL key N bs n t) (fun v K=>v=.tuple ⟨[.int .i64 k,.int .i64 0]⟩∧K=PSL key N (tookB key bs t.pg z k) n { t with lw:=putW t.lw k true,f:=nx }):=by
 obtain ⟨b1,b2,b3,b4,b5,b6,b7⟩:=h.cls.base hk t.pg
 have hbd:=h.cls.bd
 have hp:=h.pg
 have hN:=h.N
 have hF:=sFollow_tr key N bs hl t h k hk
 rw [hx] at hF
 have hS:=Slot_tr h.cls (baseN t.pg z k:Nat)
 rw [(h.cls.slotI hk (by omega)).1,(h.cls.slotI hk (by omega)).2] at hS
 have hR:=Room_tr t.c
 rw [h.cls.size,show max ((z:Int)-8) 0=((z-8:Nat):Int) by omega] at hR
 have hl1:(overB bs (baseN t.pg z k) (List.replicate (z-8) 0)).length=N:=by rw [overB_length (by rw [List.length_replicate]; omega),hl]
 have hFi:=aFill N bs hl hN (baseN t.pg z k) (z-8) 0 (by omega)
 have hC:=sCanary_tr key N (overB bs (baseN t.pg z k) (List.replicate (z-8) 0)) hl1 t h k hk
 have hSW:=aSet N (overB bs (baseN t.pg z k) (List.replicate (z-8) 0)) hl1 hN (baseN t.pg z k+z-8) (by omega) (by omega) (canW key (baseN t.pg z k))
 have hPu:=put1_tr t.lw n (by omega) k hk true
 unfold tookB
 obtain ⟨pg,c,ow,lw,hw,f⟩:=t
 simp only at hf
 subst hf
 simp only at *
 generalize baseN pg z k=a at *
 generalize overB bs a (List.replicate (z-8) 0)=bs1 at *
 unfold PSL at hF hC ⊢
 refine Tr.of row_slab_Slab_Take_ok rfl ?_
 repeat' (first|refine qN ?_|refine dN ?_|refine qB ?_|refine rT ?_|refine qU ?_|refine qL ?_|refine cP [0,1,2,3,4,5,6] (hF) ?_|refine cP [] (hS) ?_|refine cP [] (hR) ?_|(refine cF [0,1] (hFi) ?_; conv=>whnf)|refine cP [0,1,2,3,4,5,6] (hC) ?_|(refine cF [0,1] (hSW) ?_; conv=>whnf)|(refine cF [3,4] (hPu) ?_; conv=>whnf)|refine qS ?_|exact ⟨rfl,rfl⟩|fail)
theorem sDrop_no (h:t.Ok N z n) (k:Int) (hs:t.stI n k≠1):Tr Tryz.prog 64 [ptr 2,.int .i64 k] (PSL key N bs n t) (fun v K=>v=.tuple ⟨[.bool false,.int .i64 (if t.stI n k = -1 then 3 else 8)]⟩∧K=PSL key N bs n t):=by
 have hM:=sMust_tr key N bs t h k 1
 rw [if_neg hs] at hM
 have hne:(if t.stI n k = -1 then (3:Int) else 8)≠0:=by split <;> decide
 generalize (if t.stI n k = -1 then (3:Int) else 8)=e at *
 refine Tr.of row_slab_Slab_Drop_ok rfl ?_
 repeat' (first|refine qN ?_|refine dN ?_|refine rT ?_|refine qL ?_|refine iF (fun h=>?_) (fun h=>?_)|refine cP [0,1,2,3,4,5,6] (hM) ?_|refine qS ?_|exact ⟨rfl,rfl⟩|fail)
 all_goals (exfalso; omega)
set_option maxHeartbeats 2000000 in
theorem sDrop_ok (h:t.Ok N z n) (k:Nat) (hk:k<n) (hs:t.st k=1):Tr Tryz.prog 64 [ptr 2,.int .i64 k] (PSL key N bs n t) (fun v K=>v=.tuple ⟨[.bool (standsK key bs t.pg z k),.int .i64 0]⟩∧K=PSL key N (dropB bs t.pg z k) n { t with lw:=putW t.lw k false,hw:=putW t.hw k true }):=by
 obtain ⟨b1,b2,b3,b4,b5,b6,b7⟩:=h.cls.base hk t.pg
 have hbd:=h.cls.bd
 have hp:=h.pg
 have hN:=h.N
 have hM:=sMust_tr key N bs t h k 1
 rw [stI_at t hk,hs,if_neg (by decide),if_pos rfl] at hM
 have hSt:=sStands_tr key N bs hl t h k hk
 have hB:=sbase_ok key N bs t h k hk
 have hZ:=Size_tr t.c
 rw [h.cls.size] at hZ
 have hFi:=aFill N bs hl hN (baseN t.pg z k) z 0xDD#8 (by omega)
 have hPu:=put1_tr t.lw n (by omega) k hk false
 have hPv:=put1_tr t.hw n (by omega) k hk true
 unfold dropB
 obtain ⟨pg,c,ow,lw,hw,f⟩:=t
 simp only at *
 generalize baseN pg z k=a at *
 unfold PSL at hM hSt hB ⊢
 refine Tr.of row_slab_Slab_Drop_ok rfl ?_
 repeat' (first|refine qN ?_|refine dN ?_|refine rT ?_|refine qU ?_|refine qL ?_|refine cP [0,1,2,3,4,5,6] (hM) ?_|refine cP [0,1,2,3,4,5,6] (hSt) ?_|refine cP [0,1,2,3,4,5,6] (hB) ?_|refine cP [] (hZ) ?_|(refine cF [0,1] (hFi) ?_; conv=>whnf)|(refine cF [3,4] (hPu) ?_; conv=>whnf)|(refine cF [5,6] (hPv) ?_; conv=>whnf)|refine qS ?_|exact ⟨rfl,rfl⟩|fail)
theorem sGive_no (h:t.Ok N z n) (k:Int) (hs:t.stI n k≠2):Tr Tryz.prog 67 [ptr 2,.int .i64 k] (PSL key N bs n t) (fun v K=>v=.int .i64 (if t.stI n k = -1 then 3 else 8)∧K=PSL key N bs n t):=by
 have hM:=sMust_tr key N bs t h k 2
 rw [if_neg hs] at hM
 have hne:(if t.stI n k = -1 then (3:Int) else 8)≠0:=by split <;> decide
 generalize (if t.stI n k = -1 then (3:Int) else 8)=e at *
 refine Tr.of row_slab_Slab_Give_ok rfl ?_
 repeat' (first|refine qN ?_|refine dN ?_|refine rT ?_|refine qL ?_|refine iF (fun h=>?_) (fun h=>?_)|refine cP [0,1,2,3,4,5,6] (hM) ?_|refine qS ?_|exact ⟨rfl,rfl⟩|fail)
 all_goals (exfalso; omega)
set_option maxHeartbeats 2000000 in
theorem sGive_ok (h:t.Ok N z n) (k:Nat) (hk:k<n) (hs:t.st k=2):Tr Tryz.prog 67 [ptr 2,.int .i64 k] (PSL key N bs n t) (fun v K=>v=.int .i64 0∧K=PSL key N (joinP key bs z t k) n { t with hw:=putW t.hw k false,f:=baseN t.pg z k }):=by
 have hbd:=h.cls.bd
 have hM:=sMust_tr key N bs t h k 2
 rw [stI_at t hk,hs,if_neg (by decide),if_pos rfl] at hM
 have hPv:=put1_tr t.hw n (by omega) k hk false
 have hJ:=sJoin_tr key N bs hl { t with hw:=putW t.hw k false } ⟨h.cls,h.pg,h.f,h.N⟩ k hk
 unfold joinP at hJ ⊢
 obtain ⟨pg,c,ow,lw,hw,f⟩:=t
 simp only at *
 unfold PSL at hM hJ ⊢
 refine Tr.of row_slab_Slab_Give_ok rfl ?_
 repeat' (first|refine qN ?_|refine dN ?_|refine rT ?_|refine qU ?_|refine qL ?_|refine cP [0,1,2,3,4,5,6] (hM) ?_|(refine cF [5,6] (hPv) ?_; conv=>whnf)|(refine cF [0,1,2,3,4,5,6] (hJ) ?_; conv=>whnf)|refine qS ?_|exact ⟨rfl,rfl⟩|fail)
end Go.Proofs.YtgfjgfapigekiaaGreat
end
section
namespace Go.Proofs.YtgfjgfapigekiaaGreat
open Go Go.Tum Go.Tum.Base
set_option maxRecDepth 4000
def newPS (key:BitVec 64) (bs:Bytes) (p:Nat) (c ow:Int) (z n j:Nat):PS:=⟨p,c,ow,0,0,(madeP key bs p z n j).2⟩
theorem newPS_ok {key:BitVec 64} {bs:Bytes} {p:Nat} {c ow:Int} {z n j N:Nat} (hc:Cls c z n) (hp:256*(p+1)≤N) (hN:N≤65536) (hj:j≤n):(newPS key bs p c ow z n j).Ok N z n:=by
 have:=madeP_f (key:=key) (bs:=bs) hc (show p<256 by omega) j hj
 exact ⟨hc,hp,this,hN⟩
theorem sBits (n:Nat) (h2:2≤n) (h16:n≤16):Tr Tryz.prog 132 [.int .i64 n] [] (fun v K=>v=ptr 0∧K=BS [0] n):=by
 have:=bsNew_tr n n (by omega)
 rw [show (n+63) / 64=1 by omega] at this
 exact this
set_option maxHeartbeats 2000000 in
theorem sMake_ok (key:BitVec 64) (N:Nat) (bs:Bytes) (hl:bs.length=N) (hN:N≤65536) {z n:Nat} {c:Int} (hc:Cls c z n) (p:Nat) (ow:Int) (hp:256*(p+1)≤N):Tr Tryz.prog 88 [ptr 0,.agg ⟨[.int .u64 (key.toNat:Int)]⟩,.int .i64 p,.int .i64 c,.int .i64 ow] (AN N bs) (fun v K=>v=.tuple ⟨[ptr 2,.int .i64 0]⟩∧K=PSL key N (madeP key bs p z n n).1 n (newPS key bs p c ow z n n)):=by
 have hb:=hc.bd
 have hS:=Slots_tr c
 rw [hc.slots] at hS
 have hA:=aLen N bs hl
 have hB:=sBits n (by omega) (by omega)
 refine Tr.of row_slab_Make_ok rfl ?_
 repeat' (first|refine qN ?_|refine dN ?_|refine qB ?_|refine qT ?_|refine qU ?_|refine qL ?_|refine iF (fun h=>?_) (fun h=>?_)|refine cP [] (hS) ?_|refine cP [0,1] (hA) ?_|refine S_Q [] rfl rfl (QY.divN (c:=((N / 256:Nat):Int)) rfl rfl (by omega) (by omega) (by omega)) ?_|(refine cF [] (hB) ?_; conv=>whnf)|refine sP 23 (fun h=>?_) (fun h=>?_)|refine qS ?_|fail)
 all_goals try (exfalso; omega)
 refine S_E [] rfl rfl (esafe_ok rfl) ?_
 rintro _ _ ⟨rfl,rfl⟩
 refine ⟨(by repeat' (first|exact trivial|refine ⟨⟨qsafe_ok (st:=[]) rfl,Sure.of rfl⟩,?_⟩|fail)),LSt.nf ?_⟩
 conv=>whnf
 repeat' (first|refine qN ?_|refine dN ?_|refine qB ?_|refine aS ?_|refine qS ?_|fail)
 refine LWp.pick [13,14] [0,1,7,3,4,5,6] rfl rfl rfl (L_loop (fun q l K=>∃ j:Nat,q=n-j∧j≤n∧l=[(13,ptr 2),(14,.int .i64 ((n:Int)-1-j))]∧K=PSL key N (madeP key bs p z n j).1 n (newPS key bs p c ow z n j)) n ⟨0,rfl,by omega,by rw [show (n:Int)-1-(0:Nat)=n-1 by omega]; rfl,rfl⟩ ?_)
 rintro q _ _ ⟨j,rfl,hj,rfl,rfl⟩
 first|refine L_seq (L_rs (S_done [] rfl (Nx.goL (iF (fun h=>L_skip (Nx.goL ?_)) (fun h=>L_exit ?_)))))|refine L_rs (S_done [] rfl (Nx.goL (L_seq (iF (fun h=>L_skip (Nx.goL ?_)) (fun h=>L_exit ?_)))))
 ·have hj2:j<n:=by omega
  have hJ:=sJoin_tr key N (madeP key bs p z n j).1 (by rw [madeP_len hc (by omega) j hj,hl]) (newPS key bs p c ow z n j) (newPS_ok hc hp hN hj) (n-1-j) (by omega)
  have hx:=madeP_f (key:=key) (bs:=bs) hc (show p<256 by omega) j hj
  rw [show ((n-1-j:Nat):Int)=(n:Int)-1-j by omega] at hJ
  repeat' (first|refine dN ?_|refine d0 ?_|refine qB ?_|(refine cF [0,1,2,3,4,5,6] (hJ) ?_; conv=>whnf)|refine aS ?_|refine qR ?_|refine qS ?_|fail)
  exact Nx.pick [13,14] [0,1,2,3,4,5,6] rfl rfl rfl ⟨n-(j+1),by omega,j+1,rfl,by omega,by rw [show (n:Int)-1-((j+1:Nat):Int)=n-1-j-1 by omega]; rfl,rfl⟩
 ·obtain rfl:j=n:=by omega
  refine Nx.goL ?_
  repeat' (first|refine qN ?_|refine dN ?_|fail)
  exact L_ret (RetQ.pick [0,1,2,3,4,5,6] rfl rfl rfl rfl ⟨rfl,rfl⟩)
end Go.Proofs.YtgfjgfapigekiaaGreat
end
section
namespace Go.Tum.Base
open Go Go.Tum
theorem plain_int {k:IntKind} {n:Int}:Plain (.int k n):=fun _ _ _ h=>h
theorem V1s_go {vs:List Value} (h:∀ v∈vs,∀ (E E':Emb) (v2:Value),V1 E v v2→V1 E' v v2) (E E':Emb):∀ vs':List Value,L2 (V1 E) vs vs'→L2 (V1 E') vs vs':=by
 induction vs with
 | nil=>intro vs' h; cases vs' <;> exact h
 | cons a r ih=>intro vs' h'; cases vs' with
  | nil=>exact h'
  | cons b s=>exact ⟨h a (List.mem_cons_self ..) _ _ _ h'.1,ih (fun v hv=>h v (List.mem_cons_of_mem _ hv)) s h'.2⟩
theorem plain_tup {vs:List Value} (h:∀ v∈vs,∀ (E E':Emb) (v':Value),V1 E v v'→V1 E' v v'):Plain (.tuple ⟨vs⟩):=fun E E' v' ⟨vs',h1,h2⟩=>⟨vs',h1,V1s_go h E E' vs' h2⟩
theorem plain_tup2 {k k':IntKind} {n m:Int}:Plain (.tuple ⟨[.int k n,.int k' m]⟩):=plain_tup (by intro v hv; simp at hv; rcases hv with rfl | rfl <;> exact fun _ _ _ h=>h)
theorem plain_tupb {k':IntKind} {n:Bool} {m:Int}:Plain (.tuple ⟨[.bool n,.int k' m]⟩):=plain_tup (by intro v hv; simp at hv; rcases hv with rfl | rfl <;> exact fun _ _ _ h=>h)
theorem SRs_go {vs:List Value} (h:∀ v∈vs,∀ (E E':Emb) (v':Value),SR E v v'→SR E' v v') (E E':Emb):∀ vs':List Value,L2 (SR E) vs vs'→L2 (SR E') vs vs':=by
 induction vs with
 | nil=>intro vs' h; cases vs' <;> exact h
 | cons a r ih=>intro vs' h'; cases vs' with
  | nil=>exact h'
  | cons b s=>exact ⟨h a (List.mem_cons_self ..) _ _ _ h'.1,ih (fun v hv=>h v (List.mem_cons_of_mem _ hv)) s h'.2⟩
theorem plain_agg {vs:List Value} (h:∀ v∈vs,∀ (E E':Emb) (v':Value),SR E v v'→SR E' v v'):Plain (.agg ⟨vs⟩):=fun E E' v' ⟨vs',h1,h2⟩=>⟨vs',h1,SRs_go h E E' vs' h2⟩
theorem plain_key {k:IntKind} {n:Int}:Plain (.agg ⟨[.int k n]⟩):=plain_agg (by intro v hv; simp at hv; subst hv; exact fun _ _ _ h=>h)
theorem plain1 {v:Value} (h:Plain v):∀ u∈[v],Plain u:=by simpa using h
theorem plain0:∀ u∈([]:List Value),Plain u:=by simp
theorem plain2 {v v':Value} (h:Plain v) (h':Plain v'):∀ u∈[v,v'],Plain u:=by simpa using ⟨h,h'⟩
abbrev RA:=Nat × Nat × Nat
structure SE where
 e0:RA
 e1:RA
 e2:RA
 e3:RA
 e4:RA
 bn:Nat
 t:PS
def SE.em (x:SE):Emb:=[x.e0,x.e1,x.e2,x.e3,x.e4]
abbrev SEs:=List SE
end Go.Tum.Base
namespace Go.Proofs.YtgfjgfapigekiaaGreat
open Go Go.Tum Go.Tum.Base
set_option maxRecDepth 4000
theorem Self.AN (N:Nat) (bs:Bytes):Self (AN N bs):=by
 intro i x hx ea em w r hl
 match i,hx with
 | 0,hx=>cases hx; exact Self.cellsB (a:=2) (by intro v hv; rw [List.mem_singleton] at hv; subst hv; exact SelfV.sl (by decide)) ea em w r hl
 | 1,hx=>cases hx; exact Iff.rfl
def PSt (key:BitVec 64) (n:Nat) (t:PS):LH:=[.cells 0 [ptr 0,.int .u64 (key.toNat:Int),.int .i64 t.pg,.int .i64 t.c,.int .i64 t.ow,ptr 3,ptr 5,.int .i64 t.f],.cells 0 [slB 4 1,.int .i64 n],.gro 1 (rowsC wordC [t.lw]),.cells 0 [slB 6 1,.int .i64 n],.gro 1 (rowsC wordC [t.hw])]
def PSr (a:RA) (key:BitVec 64) (n:Nat) (t:PS):LH:=[.cells 0 [adR a 0,.int .u64 (key.toNat:Int),.int .i64 t.pg,.int .i64 t.c,.int .i64 t.ow,ptr 1,ptr 3,.int .i64 t.f],.cells 0 [slB 2 1,.int .i64 n],.gro 1 (rowsC wordC [t.lw]),.cells 0 [slB 4 1,.int .i64 n],.gro 1 (rowsC wordC [t.hw])]
theorem PSr.up (a b:RA) (key:BitVec 64) (n:Nat) (t:PS):UpL [a,b] (PSr a key n t) (PSt key n t) :=
 ⟨.cells ⟨Up.adR rfl,Up.int,Up.int,Up.int,Up.int,Up.ptr rfl,Up.ptr rfl,Up.int,trivial⟩,.cells ⟨Up.sl rfl,Up.int,trivial⟩,.gro,.cells ⟨Up.sl rfl,Up.int,trivial⟩,.gro,trivial⟩
def memS (x:SE) (a:RA) (key:BitVec 64):Mem:=(x.em,PSr a key (nC x.t.c) x.t)
def crowdS (a:RA) (key:BitVec 64) (sl:SEs):LB:=crowd (sl.map fun x=>memS x a key)
theorem set_perm {α:Type}:∀ {l:List α} {i:Nat} {x:α} (y:α),l[i]?=some x→l.Perm (x::l.eraseIdx i)∧(l.set i y).Perm (y::l.eraseIdx i)
 | a::r,0,x,y,h=>by simp at h; subst h; exact ⟨List.Perm.refl _,List.Perm.refl _⟩
 | a::r,i+1,x,y,h=>by
  have h:r[i]?=some x:=by simpa using h
  obtain ⟨h1,h2⟩:=set_perm y h
  simp only [List.eraseIdx_cons_succ,List.set_cons_succ]
  exact ⟨(h1.cons a).trans (List.Perm.swap _ _ _),(h2.cons a).trans (List.Perm.swap _ _ _)⟩
theorem slabL {f:FuncId} {is:List Value} (a b:RA) (key:BitVec 64) (N:Nat) (bs bs':Bytes) (sl:SEs) (i:Nat) (x:SE) (t':PS) {v:Value} (hi:sl[i]?=some x) (hc:t'.c=x.t.c) (hv:Plain v) (his:∀ u∈is,Plain u)
  (ht:Tr Tryz.prog f (ptr 2::is) (PSL key N bs (nC x.t.c) x.t) (fun u K=>u=v∧K=PSL key N bs' (nC x.t.c) t')) :
  Tr Tryz.prog f (adR x.e0 0::is) [crowdS a key sl,box [a,b] (AN N bs)] (fun u K=>u=v∧K=[crowdS a key (sl.set i { x with t:=t' }),box [a,b] (AN N bs')]):=by
 obtain ⟨h1,h2⟩:=set_perm { x with t:=t' } hi
 refine TrK.sharedK (A:=AN N bs) (A':=AN N bs') (T:=PSt key (nC x.t.c) x.t) (T':=PSt key (nC x.t.c) t') (S:=PSr a key (nC x.t.c) x.t) (S':=PSr a key (nC x.t.c) t') (em:=x.em) (rest:=(sl.eraseIdx i).map fun x=>memS x a key) ht (h1.map _) ?_ (PSr.up a b key _ _) (PSr.up a b key _ _) (Self.AN _ _) (Self.AN _ _) rfl rfl rfl rfl (fun E vs' h=>?_) (fun v' h E=>hv _ _ _ h)
 ·have:=h2.map fun x=>memS x a key
  rw [List.map_cons] at this
  rw [show (memS { x with t:=t' } a key)=(x.em,PSr a key (nC x.t.c) t') by unfold memS; rw [hc]; rfl] at this
  exact this
 ·exact L2.head (fun v' h=>VR.toIn (i:=0) rfl rfl h) his h
theorem slabK {f:FuncId} {is:List Value} (a b:RA) (key:BitVec 64) (N:Nat) (bs:Bytes) (sl:SEs) (i:Nat) (x:SE) {v:Value} (hi:sl[i]?=some x) (hv:Plain v) (his:∀ u∈is,Plain u)
  (ht:Tr Tryz.prog f (ptr 2::is) (PSL key N bs (nC x.t.c) x.t) (fun u K=>u=v∧K=PSL key N bs (nC x.t.c) x.t)) :
  Tr Tryz.prog f (adR x.e0 0::is) [crowdS a key sl,box [a,b] (AN N bs)] (fun u K=>u=v∧K=[crowdS a key sl,box [a,b] (AN N bs)]):=by
 have:=slabL a b key N bs bs sl i x x.t hi rfl hv his ht
 have e:sl.set i { x with t:=x.t }=sl:=List.ext_getElem? fun j=>by
  rw [List.getElem?_set]
  split
  ·rename_i h; subst h
   split
   ·exact hi.symm
   ·rename_i h2; rw [List.getElem?_eq_none (by omega)]
  ·rfl
 rw [e] at this
 exact this
theorem emb2 {e:Emb} (h:e.length=2):∃ a b,e=[a,b]:=by
 match e,h with
 | [a,b],_=>exact ⟨a,b,rfl⟩
theorem emb5 {e:Emb} (h:e.length=5):∃ a b c d f,e=[a,b,c,d,f]:=by
 match e,h with
 | [a,b,c,d,f],_=>exact ⟨a,b,c,d,f,rfl⟩
theorem slabMake (a b:RA) (key:BitVec 64) (N:Nat) (bs:Bytes) (hl:bs.length=N) (hN:N≤65536) {z n:Nat} {c:Int} (hc:Cls c z n) (p:Nat) (ow:Int) (hp:256*(p+1)≤N) (sl:SEs) (bn:Nat):Tr Tryz.prog 88 [adR a 0,.agg ⟨[.int .u64 (key.toNat:Int)]⟩,.int .i64 p,.int .i64 c,.int .i64 ow] [crowdS a key sl,box [a,b] (AN N bs)]
  (fun v K=>∃ x:SE,(x.t=newPS key bs p c ow z n n∧x.bn=bn)∧v=.tuple ⟨[adR x.e0 0,.int .i64 0]⟩∧K=[crowdS a key (sl++[x]),box [a,b] (AN N (madeP key bs p z n n).1)]):=by
 have hM:=sMake_ok key N bs hl hN hc p ow hp
 have:=TrK.shared (A:=AN N bs) (A':=AN N (madeP key bs p z n n).1) (S:=[]) (T:=[]) (T':=PSt key n (newPS key bs p c ow z n n)) (S':=fun ea'=>PSr (ea'.getD 0 (0,0,0)) key n (newPS key bs p c ow z n n)) (V:=fun _ em'=>.tuple ⟨[adR (em'.getD 0 (0,0,0)) 0,.int .i64 0]⟩) (b:=1) (k:=0) (L:=[crowdS a key sl,box [a,b] (AN N bs)]) (em:=[]) (ea:=[a,b]) (vs:=[adR a 0,.agg ⟨[.int .u64 (key.toNat:Int)]⟩,.int .i64 p,.int .i64 c,.int .i64 ow]) hM rfl rfl (by decide) Has.none trivial (Self.AN _ _) (Self.AN _ _) rfl (fun ea' em' e1 e2 e3=>?_) (fun E vs' h _ _=>?_) (fun ea' em' v' e1 e2 e3 h E=>?_)
 ·refine Tr.mono this ?_
  rintro v K ⟨ea',em',e1,e2,e3,rfl,rfl⟩
  obtain ⟨x0,x1,rfl⟩:=emb2 e1
  obtain ⟨y0,y1,y2,y3,y4,rfl⟩:=emb5 e2
  have h0:=e3 0 a rfl rfl
  have h1:=e3 1 b rfl rfl
  cases h0; cases h1
  refine ⟨⟨y0,y1,y2,y3,y4,bn,newPS key bs p c ow z n n⟩,⟨rfl,rfl⟩,rfl,?_⟩
  have hp:(sl++[(⟨y0,y1,y2,y3,y4,bn,newPS key bs p c ow z n n⟩:SE)]).Perm (⟨y0,y1,y2,y3,y4,bn,newPS key bs p c ow z n n⟩::sl):=List.perm_append_comm
  unfold crowdS
  rw [crowd_perm (hp.map fun x=>memS x a key),List.map_cons]
  rw [show memS ⟨y0,y1,y2,y3,y4,bn,newPS key bs p c ow z n n⟩ a key=([y0,y1,y2,y3,y4],PSr a key n (newPS key bs p c ow z n n)) by unfold memS; rw [show nC (newPS key bs p c ow z n n).c=n from hc.nC]; rfl]
  rfl
 ·obtain ⟨x0,x1,rfl⟩:=emb2 e1
  exact PSr.up x0 x1 key n _
 ·exact L2.head (fun v' h=>VR.in0 (em:=[a,b]) (i:=0) rfl h) (by
   intro u hu
   simp only [List.mem_cons,List.not_mem_nil,or_false] at hu
   rcases hu with rfl | rfl | rfl | rfl
   ·exact plain_key
   all_goals exact plain_int) h
 ·obtain ⟨x0,x1,rfl⟩:=emb2 e1
  obtain ⟨y0,y1,y2,y3,y4,rfl⟩:=emb5 e2
  obtain ⟨vs',h1,h2⟩:=h
  refine ⟨vs',h1,?_⟩
  cases vs' with
  | nil=>exact h2.elim
  | cons u r=>cases r with
   | nil=>exact h2.2.elim
   | cons u2 r=>cases r with
    | cons _ _=>exact h2.2.2.elim
    | nil=>exact ⟨VR.toOut (E:=E) (ea:=[x0,x1]) (em:=[y0,y1,y2,y3,y4]) (i:=0) rfl rfl h2.1,h2.2⟩
end Go.Proofs.YtgfjgfapigekiaaGreat
end
section
namespace Go.Proofs.YtgfjgfapigekiaaGreat
open Go Go.Tum Go.Tum.Base
set_option maxRecDepth 4000
theorem stands_tr (key:BitVec 64) (bs:Bytes) (hb:bs.length≤65536) (G:Great) (c:Nat) (p:Nat) (n:Int) (hn:gget G p=n) (i:Nat) (hp:p≤256) (hi:256*(p+pagesC n)-8=i) (hle:i+8≤bs.length):Tr Tryz.prog 120 [ptr 0,.int .i64 p] (SetL key bs G c) (fun v K=>v=.bool (decide (wordB bs i=canW key (256*p)))∧K=SetL key bs G c):=by
 have hC:=canary_tr key bs G c p n (by omega)
 rw [hi] at hC
 refine Tr.of row_large_Set_stands_ok rfl ?_
 repeat' (first|refine qN ?_|refine dN ?_|fail)
 first|refine L_rs ?_|refine L_reg ?_ | skip
 refine S_Q [] rfl rfl (QY.iget rfl (by kernel_rfl) rfl rfl rfl hn) ?_
 first|refine L_rs ?_|refine L_reg ?_ | skip
 refine cP [0,1,2,3] (hC) ?_
 repeat' (first|refine qN ?_|refine dN ?_|fail)
 first|refine L_rs ?_|refine L_reg ?_ | skip
 refine cP [1,2] (arenaWord_ok bs hb i hle (by omega)) ?_
 repeat' (first|refine qN ?_|refine dN ?_|refine rT ?_|fail)
 refine ⟨congrArg Value.bool ?_,rfl⟩
 rw [Bool.eq_iff_iff,beq_iff_eq,decide_eq_true_eq]
 exact ⟨fun h=>BitVec.eq_of_toNat_eq (by omega),fun h=>by rw [h]⟩
set_option maxHeartbeats 1000000 in
theorem largeDrop_ok (key:BitVec 64) (bs:Bytes) (hb:bs.length≤65536) (G:Great) (c:Nat) (p M:Nat) (n:Int) (hf:ghas G p=true) (hg:gget G p=n) (hM:pagesC n=M) (hM1:1≤M) (hp:256*(p+M)≤bs.length) :
  Tr Tryz.prog 65 [ptr 0,.int .i64 p] (SetL key bs G c) (fun v K=>v=.tuple ⟨[.bool (decide (wordB bs (256*(p+M)-8)=canW key (256*p))),.int .i64 0]⟩∧K=SetL key (overB bs (256*p) (List.replicate (256*M) 0xDD#8)) (gdel G p) c):=by
 have hl1:(overB bs (256*p) (List.replicate (256*M) 0xDD#8)).length=bs.length:=overB_length (by rw [List.length_replicate]; omega)
 have hS:=stands_tr key bs hb G c p n hg (256*(p+M)-8) (by omega) (by omega) (by omega)
 have hR:=run_tr n
 rw [hM] at hR
 have hF:=arenaFill_ok bs hb (256*p) (256*M) 0xDD#8 (by omega)
 rw [AL_over (by rw [List.length_replicate]; omega)] at hF
 refine Tr.of row_large_Set_Drop_ok rfl ?_
 repeat' (first|refine qN ?_|refine dN ?_|refine qU ?_|refine qL ?_|refine qS ?_|fail)
 first|refine L_rs ?_|refine L_reg ?_ | skip
 refine S_Q [] rfl rfl (QY.igetok rfl (by kernel_rfl) rfl rfl rfl hg hf) ?_
 repeat' (first|refine qN ?_|refine dN ?_|refine qU ?_|refine qL ?_|refine qS ?_|fail)
 first|refine L_rs ?_|refine L_reg ?_ | skip
 refine cP [0,1,2,3] (hS) ?_
 repeat' (first|refine qN ?_|refine dN ?_|fail)
 first|refine L_rs ?_|refine L_reg ?_ | skip
 refine eE rfl rfl (EW.idel rfl (by kernel_rfl) rfl rfl rfl) ?_
 conv=>whnf
 repeat' (first|refine qN ?_|refine dN ?_|refine aM ?_|fail)
 first|refine L_rs ?_|refine L_reg ?_ | skip
 refine cP [] (hR) ?_
 repeat' (first|refine aM ?_|fail)
 first|refine L_rs ?_|refine L_reg ?_ | skip
 refine cF [1,2] (hF) ?_
 conv=>whnf
 repeat' (first|refine dN ?_|refine rT ?_|fail)
 refine ⟨rfl,?_⟩
 simp only [SetL,hl1]
 rfl
end Go.Proofs.YtgfjgfapigekiaaGreat
end
section
namespace Go.Proofs.YtgfjgfapigekiaaGreat
open Go Go.Tum Go.Tum.Base
set_option maxRecDepth 4000
theorem gSize_tr (key:BitVec 64) (bs:Bytes) (G:Great) (c:Nat) (p:Int):Tr Tryz.prog 59 [ptr 0,.int .i64 p] (SetL key bs G c) (fun v K=>v=.int .i64 (gget G p)∧K=SetL key bs G c):=by
 refine Tr.of row_large_Set_Size_ok rfl ?_
 repeat' (first|refine qN ?_|refine dN ?_|refine qU ?_|refine qL ?_|refine S_Q [] rfl rfl (QY.iget rfl (by kernel_rfl) rfl rfl rfl rfl) ?_|refine qS ?_|fail)
 exact L_ret (RetQ.pick [0,1,2,3] rfl rfl rfl rfl ⟨rfl,rfl⟩)
end Go.Proofs.YtgfjgfapigekiaaGreat
end
section
namespace Go.Proofs.YtgfjgfapigekiaaGreat
open Go Go.Tum Go.Tum.Base
set_option maxRecDepth 4000
def LGt (key:BitVec 64) (G:Great) (c:Nat):LH:=[.cells 0 [ptr 0,.int .u64 (key.toNat:Int),.map (some 3)],.imap G c]
def LGr (a:RA) (key:BitVec 64) (G:Great) (c:Nat):LH:=[.cells 0 [adR a 0,.int .u64 (key.toNat:Int),.map (some 1)],.imap G c]
theorem LGr.up (a b:RA) (key:BitVec 64) (G:Great) (c:Nat):UpL [a,b] (LGr a key G c) (LGt key G c) :=
 ⟨.cells ⟨Up.adR rfl,Up.int,Up.map rfl,trivial⟩,.imap,trivial⟩
def crowdG (a:RA) (key:BitVec 64) (g0 g1:RA) (G:Great) (c:Nat):LB:=crowd [([g0,g1],LGr a key G c)]
theorem largeL {f:FuncId} {is:List Value} (a b g0 g1:RA) (key:BitVec 64) (N:Nat) (bs bs':Bytes) (hl:bs.length=N) (hl':bs'.length=N) (G G':Great) (c c':Nat) {v:Value} (hv:Plain v) (his:∀ u∈is,Plain u) (h1:is.map (rnV 4 [2,0,1,3])=is) (h2:rnV 8 (phi2 [2,0,1,3] 4 (SetL key bs' G' c')) v=v)
  (ht:Tr Tryz.prog f (ptr 0::is) (SetL key bs G c) (fun u K=>u=v∧K=SetL key bs' G' c')) :
  Tr Tryz.prog f (adR g0 0::is) [crowdG a key g0 g1 G c,box [a,b] (AN N bs)] (fun u K=>u=v∧K=[crowdG a key g0 g1 G' c',box [a,b] (AN N bs')]):=by
 have hF:=TrK.frame (L:=AN N bs++LGt key G c) (K2:=AN N bs'++LGt key G' c') (v2:=v) (vs:=ptr 2::is) (keep2:=seqN 0 4) [2,0,1,3] ht (by rw [List.map_cons]; exact congrArg (_::·) h1) (by decide) (by subst hl; exact ⟨rfl,rfl,rfl,rfl,trivial⟩) (by kernel_rfl) h2 (by subst hl'; rfl) (by kernel_rfl)
 refine TrK.sharedK (A:=AN N bs) (A':=AN N bs') (T:=LGt key G c) (T':=LGt key G' c') (S:=LGr a key G c) (S':=LGr a key G' c') (em:=[g0,g1]) (rest:=[]) hF (List.Perm.refl _) (List.Perm.refl _) (LGr.up a b key _ _) (LGr.up a b key _ _) (Self.AN _ _) (Self.AN _ _) rfl rfl rfl rfl (fun E vs' h=>?_) (fun v' h E=>hv _ _ _ h)
 exact L2.head (fun v' h=>VR.toIn (i:=0) rfl rfl h) his h
end Go.Proofs.YtgfjgfapigekiaaGreat
end
section
namespace Go.Tum.Base
open Go Go.Tum
structure PRow where
 kind:Int
 cls:Int
 owner:Int
 run:Int
deriving DecidableEq
def PRow.cells (r:PRow):List Value:=[.int .i64 r.kind,.int .i64 r.cls,.int .i64 r.owner,.int .i64 r.run]
theorem PRow.ok:RowOk PRow.cells 4:=⟨fun _=>rfl,fun _=>rfl⟩
def PRow.Z:PRow:=⟨0,0,0,0⟩
abbrev PRows:=List PRow
def firstP (r:PRow):Bool:=decide (r.kind=1∨r.kind=2∨r.kind=4)
def freeP (r:PRow):Bool:=decide (r=PRow.Z)
def pAt (rs:PRows) (a:Int):PRow:=if a<0 then PRow.Z else rs.getD a.toNat PRow.Z
def placeP (rs:PRows) (n:Int):Nat→Nat→Int→Option Int
 | 0,_,_=>none
 | f+1,k,run=>let run':=if freeP (rs.getD k PRow.Z) then run+1 else 0; if run'=n then some (k-n+1) else placeP rs n f (k+1) run'
def lrow (M:Int):PRow:=⟨2,0,0,M⟩
def tailP:PRow:=⟨3,0,0,0⟩
def layP (rs:PRows) (a:Nat) (r:PRow) (m:Nat):PRows:=rs.take a++(r::List.replicate (m-1) tailP)++rs.drop (a+m)
theorem layP_length {rs:PRows} {a m:Nat} {r:PRow} (h:a+m≤rs.length) (hm:1≤m):(layP rs a r m).length=rs.length:=by simp [layP]; omega
def clearP (rs:PRows) (a m:Nat):PRows:=rs.take a++List.replicate m PRow.Z++rs.drop (a+m)
theorem clearP_length {rs:PRows} {a m:Nat} (h:a+m≤rs.length):(clearP rs a m).length=rs.length:=by simp [clearP]; omega
theorem lay_snoc {rs:PRows} {a j:Nat} {r:PRow} (hj:1≤j) (h:a+j<rs.length):(layP rs a r j).set (a+j) tailP=layP rs a r (j+1):=by
 have e1:layP rs a r j=(rs.take a++(r::List.replicate (j-1) tailP))++rs.drop (a+j):=rfl
 have e2:(rs.take a++(r::List.replicate (j-1) tailP)).length=a+j:=by simp; omega
 have e3:rs.drop (a+j)=rs[a+j]::rs.drop (a+j+1):=List.drop_eq_getElem_cons h
 rw [e1,List.set_append_right _ _ (by omega),e2,Nat.sub_self,e3,List.set_cons_zero,layP,List.append_assoc,List.append_assoc]
 congr 1
 rw [show j+1-1=(j-1)+1 by omega,List.replicate_succ',List.cons_append,List.cons_append,List.append_assoc]
 rfl
end Go.Tum.Base
namespace Go.Proofs.YtgfjgfapigekiaaGreat
open Go Go.Tum Go.Tum.Base
set_option maxRecDepth 4000
def TL (rs:PRows):LH:=[.cells 0 [slB 1 rs.length],.gro 4 (rowsC PRow.cells rs)]
theorem pagesNew_tr (p:Int) (n:Nat) (hn:min (max p 0) 256=n):Tr Tryz.prog 82 [.int .i64 p] [] (fun v K=>v=ptr 0∧K=TL (List.replicate n PRow.Z)):=by
 have hn':(imm false (imm true p 0) 256)=n:=hn
 refine Tr.of row_pages_New_ok rfl ?_
 repeat' (first|refine qN ?_|refine dN ?_|fail)
 first|refine L_rs ?_|refine L_reg ?_ | skip
 refine eE rfl rfl (EW.mk (sz:=4) (bytes:=32) (k:=n) (zs:=PRow.Z.cells) rfl (by kernel_rfl) (by rw [← hn']; rfl) (by rw [← hn']; rfl) (by omega) (by omega)) ?_
 conv=>whnf
 repeat' (first|refine dN ?_|fail)
 refine L_ret (RetQ.pick [1,0] rfl rfl rfl rfl ⟨rfl,?_⟩)
 rw [repC_rows PRow.Z,TL,List.length_replicate]
 rfl
theorem pagesLen_tr (rs:PRows):Tr Tryz.prog 60 [ptr 0] (TL rs) (fun v K=>v=.int .i64 rs.length∧K=TL rs):=by
 refine Tr.of row_pages_Table_Len_ok rfl ?_
 repeat' (first|refine qN ?_|refine dN ?_|refine rT ?_|refine qU ?_|refine qL ?_|refine qS ?_|exact ⟨rfl,rfl⟩|fail)
theorem pagesRow_tr (rs:PRows) (a:Int):Tr Tryz.prog 12 [ptr 0,.int .i64 a] (TL rs) (fun v K=>v=.agg ⟨(pAt rs a).cells⟩∧K=TL rs):=by
 refine Tr.of row_pages_Table_Row_ok rfl ?_
 by_cases h0:a<0
 ·rw [show pAt rs a=PRow.Z by unfold pAt; rw [if_pos h0]]
  repeat' (first|refine qN ?_|refine dN ?_|refine rT ?_|refine qT ?_|refine sP 7 (fun h=>?_) (fun h=>?_)|refine qS ?_|exact ⟨rfl,rfl⟩|fail)
  all_goals try (exfalso; omega)
 ·obtain ⟨k,rfl⟩:=Int.eq_ofNat_of_zero_le (Int.not_lt.1 h0)
  rw [show pAt rs k=rs.getD k PRow.Z by unfold pAt; rw [if_neg h0,Int.toNat_natCast]]
  repeat' (first|refine qN ?_|refine dN ?_|refine rT ?_|refine qT ?_|refine sP 7 (fun h=>?_) (fun h=>?_)|refine qS ?_|fail)
  all_goals try (exfalso; omega)
  first|refine L_rs ?_|refine L_reg ?_ | skip
  refine cP [0,1] (pagesLen_tr rs) ?_
  repeat' (first|refine qN ?_|refine dN ?_|refine rT ?_|refine qL ?_|refine iF (fun h=>?_) (fun h=>?_)|refine aX ?_|fail)
  ·refine ⟨?_,rfl⟩
   rw [List.getD_eq_getElem?_getD,List.getElem?_eq_none (by omega)]; rfl
  ·have hk:k<rs.length:=by omega
   refine S_Q [] rfl rfl (QY.ldRow PRow.ok rfl rfl (List.getElem?_eq_getElem hk) (by decide)) ?_
   repeat' (first|refine dN ?_|refine rT ?_|fail)
   refine ⟨?_,rfl⟩
   rw [List.getD_eq_getElem?_getD,List.getElem?_eq_getElem hk]; rfl
theorem free_tr (r:PRow):Tr Tryz.prog 160 [.agg ⟨r.cells⟩] [] (fun v K=>v=.bool (freeP r)∧K=[]):=by
 refine Tr.of row_pages_Row_free_ok rfl ?_
 repeat' (first|refine qN ?_|refine dN ?_|fail)
 refine S_Q [] rfl rfl (QY.eqlS (bs:=[r.kind == 0,r.cls == 0,r.owner == 0,r.run == 0]) rfl rfl rfl (by kernel_rfl)) ?_
 repeat' (first|refine dN ?_|refine rT ?_|fail)
 refine ⟨congrArg Value.bool ?_,rfl⟩
 obtain ⟨a,b,c,d⟩:=r
 simp only [freeP,PRow.Z,List.all_cons,List.all_nil,id,Bool.and_true]
 rw [Bool.eq_iff_iff]
 simp [PRow.mk.injEq]
theorem first_tr (r:PRow):Tr Tryz.prog 112 [.agg ⟨r.cells⟩] [] (fun v K=>v=.bool (firstP r)∧K=[]):=by
 refine Tr.of row_pages_Row_first_ok rfl ?_
 repeat' (first|refine qN ?_|refine dN ?_|refine rT ?_|refine sP 6 (fun h=>?_) (fun h=>?_)|refine sP 11 (fun h=>?_) (fun h=>?_)|fail)
 all_goals
  refine ⟨congrArg Value.bool ?_,rfl⟩
  first | (simp [firstP, *]; done) | (rw [Bool.eq_iff_iff]; simp [firstP, *])
theorem cut_tr (rs:PRows) (lo hi:Int):Tr Tryz.prog 69 [ptr 0,.int .i64 lo,.int .i64 hi] (TL rs) (fun v K=>v=.tuple ⟨[.int .i64 (max lo 0),.int .i64 (max (max lo 0) (min hi rs.length))]⟩∧K=TL rs):=by
 refine Tr.of row_pages_Table_cut_ok rfl ?_
 repeat' (first|refine qN ?_|refine dN ?_|fail)
 first|refine L_rs ?_|refine L_reg ?_ | skip
 refine cP [0,1] (pagesLen_tr rs) ?_
 repeat' (first|refine qN ?_|refine dN ?_|refine rT ?_|exact ⟨rfl,rfl⟩|fail)
theorem getD_at {rs:PRows} {k:Nat} (h:k<rs.length):rs.getD k PRow.Z=rs[k]:=by rw [List.getD_eq_getElem?_getD,List.getElem?_eq_getElem h]; rfl
set_option maxHeartbeats 1000000 in
theorem place_tr (rs:PRows) (lo hi:Nat) (n:Int) (h1:lo≤hi) (h2:hi≤rs.length) (h3:rs.length≤256) (hn:0≤n∧n≤256):Tr Tryz.prog 131 [ptr 0,.int .i64 lo,.int .i64 hi,.int .i64 n] (TL rs) (fun v K=>v=(match placeP rs n (hi-lo) lo 0 with
  | some a=>.tuple ⟨[.int .i64 a,.bool true]⟩
  | none=>.tuple ⟨[.int .i64 0,.bool false]⟩)∧K=TL rs):=by
 refine Tr.of row_pages_Table_place_ok rfl ?_
 refine L_rs (S_done [] rfl (Nx.goL (L_rs (S_done [] rfl (Nx.goL ?_)))))
 refine L_cut (fun l L=>placeP rs n (hi-lo) lo 0=none∧l=[]∧L=TL rs) ?_ ?_
 ·refine L_rs (S_done [] rfl (Nx.pick [0,2,3,10,11] [0,1] rfl rfl rfl ?_))
  refine L_block (L_loop (fun r l L=>∃ (k:Nat) (c:Int),r=hi-k∧lo≤k∧k≤hi∧0≤c∧c≤k∧placeP rs n (hi-lo) lo 0=placeP rs n (hi-k) k c∧l=[(0,ptr 0),(2,.int .i64 hi),(3,.int .i64 n),(10,.int .i64 c),(11,.int .i64 k)]∧L=TL rs) (hi-lo) ⟨lo,0,rfl,by omega,by omega,by omega,by omega,rfl,rfl,rfl⟩ ?_)
  rintro r _ _ ⟨k,c,rfl,hk1,hk2,hc1,hc2,hp,rfl,rfl⟩
  first|refine L_seq (L_rs (S_done [] rfl (Nx.goL (iF (fun h=>L_skip (Nx.goL ?_)) (fun h=>L_exit ?_)))))|refine L_rs (S_done [] rfl (Nx.goL (L_seq (iF (fun h=>L_skip (Nx.goL ?_)) (fun h=>L_exit ?_)))))
  ·have hk:k<rs.length:=by omega
   rw [show hi-k=(hi-(k+1))+1 by omega,placeP,getD_at hk] at hp
   refine L_seq (L_block (L_rs (S_Q [] rfl rfl (QY.add rfl rfl rfl (by omega) (by omega)) (S_done [] rfl (Nx.goL ?_)))))
   refine L_cut (fun l L=>l=[(0,ptr 0),(2,.int .i64 hi),(3,.int .i64 n),(10,.int .i64 (if freeP rs[k] then c+1 else 0)),(11,.int .i64 k)]∧L=TL rs) ?_ ?_
   ·repeat' (first|refine qN ?_|refine aX ?_|refine S_Q [] rfl rfl (QY.ldRow PRow.ok rfl rfl (List.getElem?_eq_getElem hk) (by decide)) ?_|fail)
    first|refine L_rs ?_|refine L_reg ?_ | skip
    refine cP [] (free_tr rs[k]) ?_
    repeat' (first|refine dN ?_|refine d0 ?_|refine qK ?_|refine iF (fun h=>?_) (fun h=>?_)|refine qR ?_|fail)
    ·exact Nx.pick [0,2,3,10,11] [0,1] rfl rfl rfl ⟨by rw [if_neg (by simpa [freeP] using h)]; rfl,rfl⟩
    ·exact Nx.pick [0,2,3,10,11] [0,1] rfl rfl rfl ⟨by rw [if_pos (by simpa [freeP] using h)]; rfl,rfl⟩
   ·rintro _ _ ⟨rfl,rfl⟩
    have hc':0≤(if freeP rs[k] then c+1 else 0)∧(if freeP rs[k] then c+1 else 0)≤k+1:=by split <;> omega
    generalize (if freeP rs[k] then c+1 else 0)=c' at hc' hp
    repeat' (first|refine qN ?_|refine dN ?_|refine d0 ?_|refine rT ?_|refine qL ?_|refine iF (fun h=>?_) (fun h=>?_)|refine aA ?_|refine aS ?_|refine qR ?_|fail)
    ·refine ⟨?_,rfl⟩
     rw [hp,if_pos h]; rfl
    ·rw [if_neg h] at hp
     exact Nx.pick [0,2,3,10,11] [0,1] rfl rfl rfl ⟨hi-(k+1),by omega,k+1,c',rfl,by omega,by omega,by omega,by omega,hp,rfl,rfl⟩
  ·obtain rfl:k=hi:=by omega
   rw [Nat.sub_self] at hp
   exact Nx.pick [] [0,1] rfl rfl rfl ⟨hp,rfl,rfl⟩
 ·rintro _ _ ⟨hq,rfl,rfl⟩
  repeat' (first|refine qN ?_|refine dN ?_|refine rT ?_|fail)
  refine ⟨?_,rfl⟩
  rw [hq]; rfl
def cutLo (lo:Int):Nat:=(max lo 0).toNat
def cutHi (rs:PRows) (lo hi:Int):Nat:=(max (max lo 0) (min hi rs.length)).toNat
theorem placeP_at {rs:PRows} {n:Int}:∀ {f k:Nat} {c a:Int},1≤n→0≤c→c≤k→k+f≤rs.length→placeP rs n f k c=some a→0≤a∧a+n≤rs.length
 | 0,_,_,_,_,_,_,_,h=>by cases h
 | f+1,k,c,a,h1,h2,h3,h4,h=>by
  simp only [placeP] at h
  generalize hc:(if freeP (rs.getD k PRow.Z) then c+1 else 0)=c' at h
  have hc':0≤c'∧c'≤k+1:=by rw [← hc]; split <;> omega
  split at h
  ·cases h; omega
  ·exact placeP_at (k:=k+1) h1 (by omega) (by omega) (by omega) h
theorem cut_eqs (rs:PRows) (lo hi:Int) (hlo:lo≤rs.length):∃ a b:Nat,cutLo lo=a∧cutHi rs lo hi=b∧max lo 0=a∧max (max lo 0) (min hi rs.length)=b∧a≤b∧b≤rs.length:=by
 refine ⟨_,_,rfl,rfl,?_⟩
 unfold cutLo cutHi
 omega
set_option maxHeartbeats 2000000 in
theorem map_full (rs:PRows) (lo hi:Int) (hlo:lo≤rs.length) (r:PRow) (h3:rs.length≤256) (hr:firstP r=true) (hr1:1≤r.run∧r.run≤256) (hn:placeP rs r.run (cutHi rs lo hi-cutLo lo) (cutLo lo) 0=none):Tr Tryz.prog 87 [ptr 0,.int .i64 lo,.int .i64 hi,.agg ⟨r.cells⟩] (TL rs) (fun v K=>v=.tuple ⟨[.int .i64 0,.int .i64 5]⟩∧K=TL rs):=by
 have hC:=cut_tr rs lo hi
 obtain ⟨a,b,e1,e2,e3,e4,hab,hbl⟩:=cut_eqs rs lo hi hlo
 rw [e1,e2] at hn
 rw [e4,e3] at hC
 have hP:=place_tr rs a b r.run hab hbl h3 (by omega)
 rw [hn] at hP
 have hF:=first_tr r
 rw [hr] at hF
 refine Tr.of row_pages_Table_Map_ok rfl ?_
 repeat' (first|refine qN ?_|refine dN ?_|refine qB ?_|refine qU ?_|refine qS ?_|fail)
 first|refine L_rs ?_|refine L_reg ?_ | skip
 refine cP [] (hF) ?_
 repeat' (first|refine qN ?_|refine dN ?_|refine rT ?_|refine qT ?_|refine qL ?_|refine iF (fun h=>?_) (fun h=>?_)|refine sP 25 (fun h=>?_) (fun h=>?_)|fail)
 all_goals try (exfalso; omega)
 first|refine L_rs ?_|refine L_reg ?_ | skip
 refine cP [0,1] (hC) ?_
 repeat' (first|refine qN ?_|refine dN ?_|fail)
 first|refine L_rs ?_|refine L_reg ?_ | skip
 refine cP [0,1] (hP) ?_
 repeat' (first|refine qN ?_|refine dN ?_|refine rT ?_|refine qT ?_|refine qS ?_|exact ⟨rfl,rfl⟩|fail)
theorem lay_one {rs:PRows} {a:Nat} {r:PRow} (h:a<rs.length):rs.set a r=layP rs a r 1:=by
 rw [layP,List.set_eq_take_append_cons_drop,if_pos h]; simp
set_option maxHeartbeats 2000000 in
theorem map_ok (rs:PRows) (lo hi:Int) (hlo:lo≤rs.length) (r:PRow) (h3:rs.length≤256) (hr:firstP r=true) (A m:Nat) (hm:r.run=m) (hm1:1≤m) (hm2:m≤256) (hn:placeP rs r.run (cutHi rs lo hi-cutLo lo) (cutLo lo) 0=some (A:Int)):Tr Tryz.prog 87 [ptr 0,.int .i64 lo,.int .i64 hi,.agg ⟨r.cells⟩] (TL rs) (fun v K=>v=.tuple ⟨[.int .i64 A,.int .i64 0]⟩∧K=TL (layP rs A r m)):=by
 have hC:=cut_tr rs lo hi
 obtain ⟨a,b,e1,e2,e3,e4,hab,hbl⟩:=cut_eqs rs lo hi hlo
 rw [e1,e2] at hn
 rw [e4,e3] at hC
 have hA:=placeP_at (by omega) (by omega) (by omega) (by omega) hn
 have hP:=place_tr rs a b r.run hab hbl h3 (by omega)
 rw [hn] at hP
 have hF:=first_tr r
 rw [hr] at hF
 rw [TL,TL,layP_length (by omega) hm1]
 refine Tr.of row_pages_Table_Map_ok rfl ?_
 repeat' (first|refine qN ?_|refine dN ?_|refine qB ?_|refine qU ?_|refine qS ?_|fail)
 first|refine L_rs ?_|refine L_reg ?_ | skip
 refine cP [] (hF) ?_
 repeat' (first|refine qN ?_|refine dN ?_|refine rT ?_|refine qT ?_|refine qL ?_|refine iF (fun h=>?_) (fun h=>?_)|refine sP 25 (fun h=>?_) (fun h=>?_)|fail)
 all_goals try (exfalso; omega)
 first|refine L_rs ?_|refine L_reg ?_ | skip
 refine cP [0,1] (hC) ?_
 repeat' (first|refine qN ?_|refine dN ?_|fail)
 first|refine L_rs ?_|refine L_reg ?_ | skip
 refine cP [0,1] (hP) ?_
 repeat' (first|refine qN ?_|refine dN ?_|refine qU ?_|refine qL ?_|refine aX ?_|refine qS ?_|fail)
 first|refine L_rs ?_|refine L_reg ?_ | skip
 refine eE rfl rfl (EW.stRow (k:=A) (a:=r) PRow.ok rfl rfl rfl (by omega) (by decide)) ?_
 conv=>whnf
 rw [lay_one (by omega)]
 refine S_done [] rfl (Nx.goL ?_)
 refine L_cut (fun l L=>l=[(10,.int .i64 A)]∧L=[.cells 0 [slB 1 rs.length],.gro 4 (rowsC PRow.cells (layP rs A r m)),.cells 0 r.cells]) ?_ ?_
 ·first|refine L_rs ?_|refine L_reg ?_ | skip
  refine S_Q [] rfl rfl (QY.add (c:=((A+1:Nat):Int)) rfl rfl (by omega) (by omega) (by omega)) ?_
  refine S_done [] rfl (Nx.pick [0,7,10,12] [0,1,2] rfl rfl rfl ?_)
  refine L_block (L_loop (fun q l L=>∃ j:Nat,q=m-j∧1≤j∧j≤m∧l=[(0,ptr 0),(7,ptr 2),(10,.int .i64 A),(12,.int .i64 ((A+j:Nat):Int))]∧L=[.cells 0 [slB 1 rs.length],.gro 4 (rowsC PRow.cells (layP rs A r j)),.cells 0 r.cells]) (m-1) ⟨1,rfl,by omega,by omega,rfl,rfl⟩ ?_)
  rintro q _ _ ⟨j,rfl,hj1,hj2,rfl,rfl⟩
  refine L_seq (L_rs (S_Q [] rfl rfl (QY.add (c:=((A+m:Nat):Int)) rfl rfl (by omega) (by omega) (by omega)) (S_done [] rfl (Nx.goL (L_ifp rfl (by first|exact bD|exact bE|exact bN|exact bNB|exact bEB|exact bNot bD|exact bNot bE|exact bNot bN|exact bNot bV|exact bV) (fun h=>L_skip (Nx.goL ?_)) (fun h=>L_exit ?_))))))
  ·have hl:=layP_length (rs:=rs) (a:=A) (m:=j) (r:=r) (by omega) hj1
   have hs:=lay_snoc (rs:=rs) (a:=A) (j:=j) (r:=r) hj1 (by omega)
   repeat' (first|refine qB ?_|refine aX ?_|refine qR ?_|refine qS ?_|fail)
   first|refine L_rs ?_|refine L_reg ?_ | skip
   refine eE rfl rfl (EW.stRow (k:=A+j) (a:=tailP) PRow.ok rfl rfl rfl (by rw [hl]; omega) (by decide)) ?_
   conv=>whnf
   rw [hs]
   repeat' (first|refine dN ?_|refine d0 ?_|refine aA ?_|refine qR ?_|fail)
   exact Nx.pick [0,7,10,12] [0,1,2] rfl rfl rfl ⟨m-(j+1),by omega,j+1,rfl,by omega,by omega,rfl,rfl⟩
  ·obtain rfl:j=m:=by omega
   exact Nx.pick [10] [0,1,2] rfl rfl rfl ⟨rfl,rfl⟩
 ·rintro _ _ ⟨rfl,rfl⟩
  repeat' (first|refine qN ?_|refine dN ?_|refine rT ?_|exact ⟨rfl,rfl⟩|fail)
theorem first_lt {rs:PRows} {a:Nat} (h:firstP (pAt rs a)=true):a<rs.length:=by
 rcases Nat.lt_or_ge a rs.length with h1 | h1
 ·exact h1
 ·unfold pAt at h
  rw [if_neg (by omega),Int.toNat_natCast,List.getD_eq_getElem?_getD,List.getElem?_eq_none h1] at h
  exact absurd h (by decide)
set_option maxHeartbeats 2000000 in
theorem unmap_ok (rs:PRows) (h3:rs.length≤256) (a m:Nat) (h:firstP (pAt rs a)=true) (hm:(pAt rs a).run=m) (hle:a+m≤rs.length):Tr Tryz.prog 66 [ptr 0,.int .i64 a] (TL rs) (fun v K=>v=.int .i64 0∧K=TL (clearP rs a m)):=by
 have hR:=pagesRow_tr rs a
 have hF:=first_tr (pAt rs a)
 rw [h] at hF
 rw [TL,TL,clearP_length hle]
 refine Tr.of row_pages_Table_Unmap_ok rfl ?_
 repeat' (first|refine qN ?_|refine dN ?_|fail)
 first|refine L_rs ?_|refine L_reg ?_ | skip
 refine cP [0,1] (hR) ?_
 repeat' (first|refine qN ?_|refine dN ?_|refine qB ?_|refine qU ?_|refine qS ?_|fail)
 first|refine L_rs ?_|refine L_reg ?_ | skip
 refine cP [] (hF) ?_
 repeat' (first|refine qN ?_|refine dN ?_|refine qU ?_|refine qL ?_|fail)
 have hlt:=first_lt h
 refine S_Q [] rfl rfl (QY.add (c:=((a+m:Nat):Int)) rfl rfl (by show (a:Int)+(pAt rs a).run=_; omega) (by omega) (by omega)) ?_
 first|refine L_rs ?_|refine L_reg ?_ | skip
 refine S_Q [] rfl rfl (QY.slc0 (b:=1) (lo':=a) (hi':=a+m) rfl rfl rfl (by omega) (by omega)) ?_
 first|refine L_rs ?_|refine L_reg ?_ | skip
 refine eE rfl rfl (EW.clearg (i:=a) (z0:=PRow.Z) (xs:=rs) PRow.ok rfl (by kernel_rfl) rfl rfl rfl (by omega)) ?_
 conv=>whnf
 repeat' (first|refine qN ?_|refine dN ?_|refine rT ?_|fail)
 refine ⟨rfl,?_⟩
 rw [clearP,show a+m-a=m by omega]
 rfl
end Go.Proofs.YtgfjgfapigekiaaGreat
end
section
namespace Go.Tum
open Go
theorem More.less {L:LH} {b:Nat} {ms ms':List Mem} (hb:L[b]?=some (crowd ms)) (hs:ms'.Sublist ms):More L (L.set b (crowd ms')) :=
 ⟨by rw [List.length_set]; exact Nat.le_refl _,fun X w0 E w h=>⟨E,Ext.refl E,by
  obtain ⟨r,hr⟩:=h.ent hb
  obtain ⟨h1,h2,_⟩:=h.blk b _ r hb hr
  have h1:CrowdAt ms w:=h1
  have h3:CrowdAt ms' w:=⟨fun m hm=>h1.all m (hs.subset hm),h1.apart.sublist hs⟩
  exact h.upd hb hr (Fr.refl _ w) (h3.is h2) fun c ⟨m,hm,hc⟩=>.inl ⟨m,hs.subset hm,hc⟩⟩⟩
section
variable {X:Nat→Prop} {w0 w w':World} {E E':Emb} {K K':LH}
theorem Rep.regroup (h:Rep X w0 E K w) (grp:Nat→Nat) (hl:E'.length=K'.length) (hb:∀ (i:Nat) (x:LB) (r:Nat × Nat × Nat),K'[i]?=some x→E'[i]?=some r→LBis E' w r x)
  (hf:∀ (i:Nat) (x:LB) (r:Nat × Nat × Nat) (c:Nat),K'[i]?=some x→E'[i]?=some r→foot r x c→∃ j y q,grp j=i∧K[j]?=some y∧E[j]?=some q∧foot q y c):Rep X w0 E' K' w:=by
 refine ⟨h.fr,hl,fun i x r hx hr c hc=>?_,hb,fun i i' x x' r r' c hx hx' hr hr' hc hc'=>?_⟩
 ·obtain ⟨j,y,q,_,h1,h2,h3⟩:=hf i x r c hx hr hc
  exact h.rng j y q h1 h2 c h3
 ·obtain ⟨j,y,q,e1,h1,h2,h3⟩:=hf i x r c hx hr hc
  obtain ⟨j',y',q',e2,h4,h5,h6⟩:=hf i' x' r' c hx' hr' hc'
  have:=h.inj j j' y y' q q' c h1 h4 h2 h5 h3 h6
  subst this
  omega
theorem TrK.retell {P:Program} {keep:List Nat} {f:FuncId} {us:List Value} {L:LH} {R R':Value→LH→Prop} (ht:TrK P [] keep f us L R)
  (hR:∀ (X:Nat→Prop) (w0 w:World) (E:Emb) (v v':Value) (K:LH),Rep X w0 E K w→VR E v v'→R v K→∃ E' v1 K',L.length≤K'.length∧Rep X w0 E' K' w∧VR E' v1 v'∧R' v1 K'):TrK P [] [] f us L R':=by
 intro X w0 w E vs' hA hR' hv
 obtain ⟨h3,h4⟩:=ht X w0 w E vs' ⟨hA.1,by simp,hA.2.2⟩ hR' hv
 refine ⟨h3,h4.mono ?_⟩
 rintro v' w' ⟨E',v,L',_,_,g2,g3,g4⟩
 obtain ⟨E2,v1,K',k0,k1,k2,k3⟩:=hR X w0 w' E' v v' L' g3 g2 g4
 exact ⟨E2,v1,K',fun k r hk _=>(by cases hk),k0,k2,k1,k3⟩
theorem L2.to {R R':Value→Value→Prop}:∀ {vs us cs:List Value},L2 (fun v u=>∀ c,R v c→R' u c) vs us→L2 R vs cs→L2 R' us cs
 | [],[],[],_,_=>trivial
 | _::_,_::_,_::_,h,k=>⟨h.1 _ k.1,L2.to h.2 k.2⟩
 | [],[],_::_,_,k=>k.elim
 | _::_,_::_,[],_,k=>k.elim
 | [],_::_,_,h,_=>h.elim
 | _::_,[],_,h,_=>h.elim
theorem LBis.cellsTo {r:Nat × Nat × Nat} {sz:Nat} {vs us:List Value} (h:LBis E w r (.cells sz vs)) (hl:L2 (fun v u=>∀ c,SR E v c→SR E' u c) vs us):LBis E' w r (.cells sz us):=by
 have hn:=L2_len hl
 obtain ⟨cs,h1,h2,h3⟩:=h
 exact ⟨cs,h1,by rw [← hn]; exact hl.to h2,by rw [← hn]; exact h3⟩
theorem SRm.int {k:IntKind} {n:Int}:∀ c,SR E (.int k n) c→SR E' (.int k n) c:=fun _ h=>h
theorem SRm.ptr {i j o:Nat} {r:Nat × Nat × Nat} (h1:E[i]?=some r) (h2:E'[j]?=some r):∀ c,SR E (.pointer (some ⟨i,o,none⟩)) c→SR E' (.pointer (some ⟨j,o,none⟩)) c:=by
 rintro c ⟨a',h3,h4,r',h5,h6⟩
 have h5:E[i]?=some r':=h5
 rw [h1] at h5; cases h5
 exact ⟨a',h3,h4,r,h2,h6⟩
theorem SRm.sl {i j o n c:Nat} {r:Nat × Nat × Nat} (h1:E[i]?=some r) (h2:E'[j]?=some r):∀ v,SR E (.slice (some ⟨i,o,none⟩) n c) v→SR E' (.slice (some ⟨j,o,none⟩) n c) v:=by
 rintro v ⟨h0,r',h5,h6⟩
 have h5:E[i]?=some r':=h5
 rw [h1] at h5; cases h5
 exact ⟨h0,r,h2,h6⟩
theorem SRm.map {i j:Nat} {r r':Nat × Nat × Nat} (h1:E[i]?=some r) (h2:E'[j]?=some r') (e:r'.1=r.1):∀ v,SR E (.map (some i)) v→SR E' (.map (some j)) v:=by
 rintro v ⟨q,h5,h6⟩
 rw [h1] at h5; cases h5
 exact ⟨r',h2,by rw [e]; exact h6⟩
theorem SRm.real {i o:Nat} {r:Nat × Nat × Nat} (h1:E[i]?=some r):∀ c,SR E (.pointer (some ⟨i,o,none⟩)) c→SR E' (adR r o) c:=by
 rintro c ⟨a',h3,h4,r',h5,h6⟩
 have h5:E[i]?=some r':=h5
 rw [h1] at h5; cases h5
 show c=_
 rw [h3,h6]
theorem SRm.slR {i o n c:Nat} {r:Nat × Nat × Nat} (h1:E[i]?=some r) (hn:n≠0):∀ v,SR E (.slice (some ⟨i,o,none⟩) n c) v→SR E' (slR r o n c) v:=by
 rintro v ⟨_,r',h5,h6⟩
 have h5:E[i]?=some r':=h5
 rw [h1] at h5; cases h5
 left
 rcases h6 with ⟨a',c',h7,⟨h8,h9⟩ | ⟨h8,_⟩⟩ | ⟨h8,_⟩
 ·rw [h7,h8,h9]
 ·exact absurd h8 hn
 ·exact absurd h8 hn
end
structure PE where
 id:Int
 r:Nat × Nat × Nat
 born:Nat
def pe (e:PE):Int × Value × Nat:=(e.id,.pointer (some ⟨e.r.1,e.r.2.1,none⟩),e.born)
def pB (b0:Nat) (es:List PE) (c:Nat):LB:=.abs (fun r w=>r=b0∧Mp (Value.int .i64) w r (es.map pe) c∧Wf (es.map pe) c) (·=b0)
def pfind (es:List PE) (a:Int):Option PE:=es.find? fun e=>decide (e.id=a)
def pdel (es:List PE) (a:Int):List PE:=es.filter fun e => !decide (e.id=a)
theorem mfind_pe (es:List PE) (a:Int):mfind (es.map pe) a=(pfind es a).map pe:=by
 simp only [mfind,pfind,List.find?_map]
 rfl
theorem mdel_pe (es:List PE) (a:Int):mdel (es.map pe) a=(pdel es a).map pe:=by
 simp only [mdel,pdel,List.filter_map]
 rfl
def psym:Option PE→Value
 | none=>.pointer none
 | some e=>adR e.r 0
section
variable {P:Program} {n0:NA} {l:Env} {L:LH} {X:Nat→Prop} {w0 w w':World} {E:Emb}
theorem pB_is {r:Nat × Nat × Nat} {b0 c:Nat} {es:List PE} (h:Mp (Value.int .i64) w r.1 (es.map pe) c) (hw:Wf (es.map pe) c) (h1:r.1=b0) (h2:r.2=(0,0)):LBis E w r (pB b0 es c) :=
 ⟨⟨h1,h,hw⟩,h2,fun _ _ _ ⟨g1,g2,g3⟩ hf hn=>⟨g1,g2.fr hf (hn _ g1),g3⟩⟩
theorem pB_at {l':Env} {x:Operand} {b b0 c:Nat} {es:List PE} (hR:Rep X w0 E L w) (hl:ER E l l') (hx:lv l x=some (.map (some b))) (hb:L[b]?=some (pB b0 es c)) :
  ∃ r,E[b]?=some r∧ev l' x=some (.map (some r.1))∧(Mp (Value.int .i64) w r.1 (es.map pe) c∧Wf (es.map pe) c)∧r.1=b0∧r.2=(0,0):=by
 obtain ⟨_,h1,r,h2,rfl⟩:=lv_ev hl hx
 obtain ⟨⟨h3,h4⟩,h5,_⟩:=hR.blk b _ r hb h2
 exact ⟨r,h2,h1,h4,h3,h5⟩
theorem QY.plook {o:Oper} {mT kt et:TypeId} {x y:Operand} {b b0 c:Nat} {es:List PE} {a:Int} {v:Value} (ho:o.op=.lookup mT x y false) (hT:P.underlying mT=some (.map kt et)) (hkt:P.underlying kt=some (.int .i64)) (hz:zeroOf P et=some (.pointer none))
  (hx:lv l x=some (.map (some b))) (hy:lv l y=some (.int .i64 a)) (hb:L[b]?=some (pB b0 es c)) (hq:psym (pfind es a)=v):QY P n0 L l (.raw o) v:=by
 intro X w0 E0 w E l' _ hE hR hl
 obtain ⟨r,h2,h3,⟨h4,h5⟩,_⟩:=pB_at hR hl hx hb
 obtain ⟨_,h7,rfl⟩:=lv_ev hl hy
 obtain ⟨d,op,ty,pos,af,g⟩:=o
 simp only at ho
 subst ho
 refine ⟨_,lookup_Y (ty:=ty) (k:=a) hT (keyLaw_int hkt) (zeroOf_ok hz) h3 h7 h4 rfl,?_⟩
 rw [mfind_pe]
 subst hq
 cases hq:pfind es a with
 | none=>exact rfl
 | some e =>
  show _=_
  simp only [Option.map_some,Option.getD_some,pe,Nat.zero_add]
theorem pB_of {r:Nat × Nat × Nat} {w:World} {E E':Emb} {c:Nat} (h:LBis E w r (.imap [] c)):LBis E' w (r.1,0,0) (pB r.1 [] c):=pB_is (es:=[]) h.1 h.2 rfl rfl
theorem EW.pput {o:Oper} {mT kt et:TypeId} {x y u:Operand} {b b0 c:Nat} {es:List PE} {a:Int} {r0:Nat × Nat × Nat} (ho:o.op=.mapUpdate mT x y u) (hT:P.underlying mT=some (.map kt et)) (hkt:P.underlying kt=some (.int .i64))
  (hx:lv l x=some (.map (some b))) (hy:lv l y=some (.int .i64 a)) (hu:lv l u=some (adR r0 0)) (hb:L[b]?=some (pB b0 es c)) (hn:pfind es a=none) :
  EW P n0 L l (.raw o) (fun w K=>w=undef∧K=L.set b (pB b0 (es++[⟨a,r0,c⟩]) (c+1))):=by
 intro X w0 E0 w E l' Kf h0 hE hR hl hK
 obtain ⟨r,h2,h3,⟨h4,h5⟩,h8,h9⟩:=pB_at hR hl hx hb
 obtain ⟨_,h6,rfl⟩:=lv_ev hl hy
 obtain ⟨_,h7,h10⟩:=lv_ev hl hu
 have h10:_=Value.pointer (some ⟨r0.1,0+r0.2.1,none⟩):=h10
 subst h10
 obtain ⟨d,op,ty,pos,af,g⟩:=o
 simp only at ho
 subst ho
 have hs:mset (es.map pe) a (.pointer (some ⟨r0.1,0+r0.2.1,none⟩)) c=((es++[(⟨a,r0,c⟩:PE)]).map pe,c+1):=by
  unfold mset
  rw [mfind_pe,hn]
  simp only [Option.map_none,List.map_append,List.map_cons,List.map_nil,pe,Nat.zero_add]
 have hw:=h5.mset (k:=a) (.pointer (some ⟨r0.1,0+r0.2.1,none⟩))
 rw [hs] at hw
 refine mapUpdate_W (ty:=ty) (k:=a) hT (keyLaw_int hkt) h3 h6 h7 h4 h5 (fun w' hM hf hsz=>hK w' E _ _ _ ⟨rfl,rfl⟩ (Ext.refl E) (hR.upd hb h2 (hf.mono fun c _ hc=>?_) (pB_is ?_ hw h8 h9) (fun _ h=>.inl h)) VR.undef)
 ·have hc:c=r.1:=hc
  show c=b0
  omega
 ·rw [hs] at hM; exact hM
theorem EW.pdel {o:Oper} {mT kT kt et:TypeId} {x y:Operand} {b b0 c:Nat} {es:List PE} {a:Int} (ho:o.op=.call ⟨.builtin .delete,⟨[x,y]⟩,⟨[mT,kT]⟩⟩) (hT:P.underlying mT=some (.map kt et)) (hkt:P.underlying kt=some (.int .i64)) (hx:lv l x=some (.map (some b))) (hy:lv l y=some (.int .i64 a)) (hb:L[b]?=some (pB b0 es c)) :
  EW P n0 L l (.raw o) (fun w K=>w=.tuple #[]∧K=L.set b (pB b0 (pdel es a) c)):=by
 intro X w0 E0 w E l' Kf h0 hE hR hl hK
 obtain ⟨r,h2,h3,⟨h4,h5⟩,h8,h9⟩:=pB_at hR hl hx hb
 obtain ⟨_,h6,rfl⟩:=lv_ev hl hy
 obtain ⟨d,op,ty,pos,af,g⟩:=o
 simp only at ho
 subst ho
 have hw:=Wf.del (k:=a) h5
 rw [mdel_pe] at hw
 refine delete_W (ty:=ty) (k:=a) hT (keyLaw_int hkt) h3 h6 h4 h5 (fun w' hM hf hsz=>hK w' E _ _ _ ⟨rfl,rfl⟩ (Ext.refl E) (hR.upd hb h2 (hf.mono fun c _ hc=>?_) (pB_is ?_ hw h8 h9) (fun _ h=>.inl h)) ⟨[],rfl,trivial⟩)
 ·have hc:c=r.1:=hc
  show c=b0
  omega
 ·rw [mdel_pe] at hM; exact hM
end
end Go.Tum
end
section
namespace Go.Tum.Base
open Go Go.Tum
structure Pl where
 pg:Int
 sl:Int
 bs:Int
 sz:Int
 st:Int
 gr:Bool
deriving DecidableEq
def Pl.cells (p:Pl):List Value:=[.int .i64 p.pg,.int .i64 p.sl,.int .i64 p.bs,.int .i64 p.sz,.int .i64 p.st,.bool p.gr]
theorem Pl.ok:RowOk Pl.cells 6:=⟨fun _=>rfl,fun _=>rfl⟩
def Pl.Z:Pl:=⟨0,0,0,0,0,false⟩
def sfind (sl:SEs) (p:Int):Option SE:=sl.find? fun x=>decide ((x.t.pg:Int)=p)
def gin (G:Great) (p:Int):Option (Int × Int × Nat):=G.find? fun b=>decide (b.1≤p∧p<b.1+pagesC b.2.1)
def rowP (sl:SEs) (G:Great) (p:Int):PRow:=match sfind sl p with
 | some x=>⟨1,x.t.c,x.t.ow,1⟩
 | none=>match gin G p with
  | some b=>if b.1=p then lrow (pagesC b.2.1) else tailP
  | none=>PRow.Z
def placeS (x:SE) (k:Nat):Pl:=⟨x.t.pg,k,baseN x.t.pg (zC x.t.c) k,(zC x.t.c:Int)-8,x.t.st k,false⟩
def placeG (b:Int × Int × Nat):Pl:=⟨b.1,0,256*b.1,b.2.1,1,true⟩
structure PR where
 man:Nat
 mgd:Nat
 seed:BitVec 64
 a:RA
 b:RA
 g0:RA
 g1:RA
 m0:Nat
 mc:Nat
 rs:PRows
 bs:Bytes
 sl:SEs
 G:Great
 gc:Nat
def PR.N (r:PR):Nat:=256*(r.man+r.mgd)
def PR.key (r:PR):BitVec 64:=keyW r.seed
def peS (sl:SEs):List PE:=sl.map fun x=>⟨x.t.pg,x.e0,x.bn⟩
structure SOk (man:Nat) (x:SE):Prop where
 cls:Cls x.t.c (zC x.t.c) (nC x.t.c)
 pg:x.t.pg<man
 ow:0≤x.t.ow∧x.t.ow<64
 f:x.t.f = -1∨∃ k,k<nC x.t.c∧x.t.f=baseN x.t.pg (zC x.t.c) k∧x.t.st k=0
structure GbOk (man:Nat) (b:Int × Int × Nat):Prop where
 gr:greatC b.2.1=true
 lo:0≤b.1
 hi:b.1+pagesC b.2.1≤man
structure PR.Ok (r:PR):Prop where
 n1:1≤r.man+r.mgd
 n2:r.man+r.mgd≤256
 rl:r.rs.length=r.man+r.mgd
 bl:r.bs.length=r.N
 sok:∀ x∈r.sl,SOk r.man x
 sap:r.sl.Pairwise fun x y=>x.t.pg≠y.t.pg
 gok:∀ b∈r.G,GbOk r.man b
 gg:GOk r.G r.gc
 gap:r.G.Pairwise fun x y=>x.1+pagesC x.2.1≤y.1∨y.1+pagesC y.2.1≤x.1
 sg:∀ x∈r.sl,∀ b∈r.G,(x.t.pg:Int)<b.1∨b.1+pagesC b.2.1≤x.t.pg
 row:∀ p:Nat,p<r.man+r.mgd→r.rs[p]?=some (rowP r.sl r.G p)
def PR.find (r:PR) (a:Int):Option Pl:=if a<0∨(r.N:Int)≤a then none else match sfind r.sl (a / 256) with
 | some x=>some (placeS x (a.toNat % 256 / zC x.t.c))
 | none=>(gin r.G (a / 256)).map placeG
def PR.base (r:PR) (a:Int):Option Pl:=match r.find a with
 | some p=>if p.bs=a then some p else none
 | none=>none
theorem sfind_some {sl:SEs} {p:Int} {x:SE} (h:sfind sl p=some x):∃ i:Nat,sl[i]?=some x∧x∈sl∧(x.t.pg:Int)=p:=by
 have h1:=List.mem_of_find?_eq_some h
 obtain ⟨i,hi⟩:=List.mem_iff_getElem?.1 h1
 exact ⟨i,hi,h1,by simpa using List.find?_some h⟩
theorem gin_some {G:Great} {p:Int} {b:Int × Int × Nat} (h:gin G p=some b):b∈G∧b.1≤p∧p<b.1+pagesC b.2.1:=by
 refine ⟨List.mem_of_find?_eq_some h,?_⟩
 have:=List.find?_some h
 simpa using this
theorem gin_none {G:Great} {p:Int} (h:gin G p=none):∀ b∈G,¬ (b.1≤p∧p<b.1+pagesC b.2.1):=by
 intro b hb
 have:=List.find?_eq_none.1 h b hb
 simpa using this
theorem sfind_none {sl:SEs} {p:Int} (h:sfind sl p=none):∀ x∈sl,(x.t.pg:Int)≠p:=by
 intro x hx
 have:=List.find?_eq_none.1 h x hx
 simpa using this
theorem sfind_mem {sl:SEs} (h:sl.Pairwise fun x y=>x.t.pg≠y.t.pg) {x:SE} (hx:x∈sl):sfind sl x.t.pg=some x:=by
 induction sl with
 | nil=>cases hx
 | cons a r ih =>
  unfold sfind at *
  rw [List.find?_cons]
  obtain ⟨h1,h2⟩:=List.pairwise_cons.1 h
  rcases List.mem_cons.1 hx with rfl | hx
  ·simp
  ·have:=h1 x hx
   rw [show decide ((a.t.pg:Int)=x.t.pg)=false by simp; omega]
   exact ih h2 hx
theorem gin_mem {G:Great} (h:G.Pairwise fun x y=>x.1+pagesC x.2.1≤y.1∨y.1+pagesC y.2.1≤x.1) {b:Int × Int × Nat} (hb:b∈G) {p:Int} (hp:b.1≤p∧p<b.1+pagesC b.2.1):gin G p=some b:=by
 induction G with
 | nil=>cases hb
 | cons a r ih =>
  unfold gin at *
  rw [List.find?_cons]
  obtain ⟨h1,h2⟩:=List.pairwise_cons.1 h
  rcases List.mem_cons.1 hb with rfl | hb
  ·simp [hp]
  ·have:=h1 b hb
   rw [show decide (a.1≤p∧p<a.1+pagesC a.2.1)=false by simp; omega]
   exact ih h2 hb
theorem greatC_pg {n:Int} (h:greatC n=true):∃ M:Nat,pagesC n=M∧1≤M∧M≤17:=by
 have h1:=pagesC_bd n
 have e1:1≤pagesC n:=by unfold pagesC; unfold greatC at h; simp at h; rw [if_neg (by omega)]; omega
 exact ⟨(pagesC n).toNat,by omega,by omega,by omega⟩
theorem baseN_find {c:Int} {z n:Nat} (h:Cls c z n) {k p:Nat} (hk:k<n):((baseN p z k:Nat):Int) / 256=p∧((baseN p z k:Nat):Int).toNat % 256 / z=k:=by
 obtain ⟨h1,h2,h3,h4,h5,h6,h7⟩:=h.base hk p
 rw [Int.toNat_natCast]
 exact ⟨by omega,h7⟩
theorem PR.Ok.find_slot {r:PR} (ok:r.Ok) {x:SE} (hx:x∈r.sl) {k:Nat} (hk:k<nC x.t.c):r.find (baseN x.t.pg (zC x.t.c) k:Nat)=some (placeS x k):=by
 have hs:=ok.sok x hx
 obtain ⟨h1,h2⟩:=baseN_find hs.cls (p:=x.t.pg) hk
 obtain ⟨h3,h4,_⟩:=hs.cls.base hk x.t.pg
 have hp:=hs.pg
 have hb:=hs.cls.bd
 have hN:r.N=256*(r.man+r.mgd):=rfl
 unfold PR.find
 rw [if_neg (by omega),h1,sfind_mem ok.sap hx]
 simp only [h2]
theorem PR.Ok.base_slot {r:PR} (ok:r.Ok) {x:SE} (hx:x∈r.sl) {k:Nat} (hk:k<nC x.t.c):r.base (baseN x.t.pg (zC x.t.c) k:Nat)=some (placeS x k):=by
 unfold PR.base
 rw [ok.find_slot hx hk]
 simp [placeS]
theorem PR.Ok.sfind_great {r:PR} (ok:r.Ok) {b:Int × Int × Nat} (hb:b∈r.G) {p:Int} (hp:b.1≤p∧p<b.1+pagesC b.2.1):sfind r.sl p=none:=by
 cases e:sfind r.sl p with
 | none=>rfl
 | some x =>
  obtain ⟨_,_,hx,hq⟩:=sfind_some e
  have:=ok.sg x hx b hb
  omega
theorem PR.Ok.find_great {r:PR} (ok:r.Ok) {b:Int × Int × Nat} (hb:b∈r.G):r.find (256*b.1)=some (placeG b):=by
 have hg:=ok.gok b hb
 have h1:=hg.lo
 have h2:=hg.hi
 obtain ⟨M,hM,hM1,_⟩:=greatC_pg hg.gr
 have hN:r.N=256*(r.man+r.mgd):=rfl
 unfold PR.find
 rw [if_neg (by omega),show 256*b.1 / 256=b.1 by omega,ok.sfind_great hb (by omega),gin_mem ok.gap hb (by omega)]
 rfl
theorem PR.Ok.base_great {r:PR} (ok:r.Ok) {b:Int × Int × Nat} (hb:b∈r.G):r.base (256*b.1)=some (placeG b):=by
 unfold PR.base
 rw [ok.find_great hb]
 simp [placeG]
theorem PR.Ok.find_cases {r:PR} (ok:r.Ok) {a:Int} {p:Pl} (h:r.find a=some p):(∃ (i:Nat) (x:SE) (k:Nat),r.sl[i]?=some x∧k<nC x.t.c∧(baseN x.t.pg (zC x.t.c) k:Int)≤a∧a<(baseN x.t.pg (zC x.t.c) k:Int)+zC x.t.c∧p=placeS x k)∨(∃ b∈r.G,256*b.1≤a∧a<256*(b.1+pagesC b.2.1)∧p=placeG b):=by
 unfold PR.find at h
 split at h
 ·cases h
 rename_i h0
 obtain ⟨n,rfl⟩:=Int.eq_ofNat_of_zero_le (show 0≤a by omega)
 cases hs:sfind r.sl ((n:Int) / 256) with
 | some x =>
  rw [hs] at h
  simp only [Int.toNat_natCast,Option.some.injEq] at h
  obtain ⟨i,hi,hm,hpg⟩:=sfind_some hs
  have hx:=ok.sok x hm
  have hlt:n % 256 / zC x.t.c<nC x.t.c∧baseN x.t.pg (zC x.t.c) (n % 256 / zC x.t.c)≤n∧n<baseN x.t.pg (zC x.t.c) (n % 256 / zC x.t.c)+zC x.t.c:=by
   unfold baseN
   rcases hx.cls.is with ⟨_,h4,h5⟩ | ⟨_,h4,h5⟩ | ⟨_,h4,h5⟩ | ⟨_,h4,h5⟩ <;> rw [h4,h5] <;> omega
  exact .inl ⟨i,x,_,hi,hlt.1,by omega,by omega,h.symm⟩
 | none =>
  rw [hs] at h
  simp only at h
  cases hg:gin r.G ((n:Int) / 256) with
  | none=>rw [hg] at h; cases h
  | some b =>
   rw [hg] at h
   obtain ⟨h1,h2,h3⟩:=gin_some hg
   exact .inr ⟨b,h1,by omega,by omega,(Option.some.inj h).symm⟩
theorem peS_set {sl:SEs} {i:Nat} {x y:SE} (hi:sl[i]?=some x) (h1:y.t.pg=x.t.pg) (h2:y.e0=x.e0) (h3:y.bn=x.bn):peS (sl.set i y)=peS sl:=by
 unfold peS
 apply List.ext_getElem?
 intro j
 rw [List.getElem?_map,List.getElem?_map,List.getElem?_set]
 split
 ·rename_i e; subst e
  rw [if_pos (List.getElem?_eq_some_iff.1 hi).1,hi]
  simp [h1,h2,h3]
 ·rfl
theorem pfind_pe (sl:SEs) (p:Int):pfind (peS sl) p=(sfind sl p).map fun x=>⟨x.t.pg,x.e0,x.bn⟩:=by
 simp only [pfind,peS,sfind,List.find?_map]
 rfl
theorem SOk.t {man mgd:Nat} {x:SE} (h:SOk man x) (h2:man+mgd≤256):x.t.Ok (256*(man+mgd)) (zC x.t.c) (nC x.t.c):=by
 have hp:=h.pg
 refine ⟨h.cls,by omega,?_,by omega⟩
 rcases h.f with h0 | ⟨k,hk,h0,_⟩
 ·omega
 ·have:=h.cls.base hk x.t.pg
  have:=h.cls.bd
  omega
def PR.upS (r:PR) (i:Nat) (x:SE) (t:PS) (bs:Bytes):PR:={ r with bs:=bs,sl:=r.sl.set i { x with t:=t } }
def tookT (t:PS) (k:Nat) (nx:Int):PS:={ t with lw:=putW t.lw k true,f:=nx }
def dropT (t:PS) (k:Nat):PS:={ t with lw:=putW t.lw k false,hw:=putW t.hw k true }
def giveT (t:PS) (k:Nat):PS:={ t with hw:=putW t.hw k false,f:=baseN t.pg (zC t.c) k }
def srow (c ow:Int):PRow:=⟨1,c,ow,1⟩
def PR.opened (r:PR) (A:Nat) (c ow:Int) (x:SE):PR:={ r with rs:=layP r.rs A (srow c ow) 1,bs:=(madeP r.key r.bs A (zC c) (nC c) (nC c)).1,sl:=r.sl++[x],mc:=r.mc+1 }
def PR.shut (r:PR) (p:Nat):PR:={ r with rs:=clearP r.rs p 1,sl:=r.sl.filter fun x => !decide ((x.t.pg:Int)=p) }
def PR.lost (r:PR) (p M:Nat):PR:={ r with rs:=clearP r.rs p M,bs:=overB r.bs (256*p) (List.replicate (256*M) 0xDD#8),G:=gdel r.G p }
def homeS (sl:SEs) (c ow:Int) (p:Nat):Bool:=match sfind sl p with
 | some x=>decide (x.t.c=c∧x.t.ow=ow∧0<cntS x.t 0 (nC x.t.c))
 | none=>false
def PR.home (r:PR) (c ow:Int):Option Nat:=(List.range (r.man+r.mgd)).find? (homeS r.sl c ow)
def PR.pageL (r:PR) (p:Nat):List Pl:=match sfind r.sl p with
 | some x=>((List.range (nC x.t.c)).filter fun k=>decide (x.t.st k=1)).map (placeS x)
 | none=>match gin r.G p with
  | some b=>if b.1=p then [placeG b] else []
  | none=>[]
def PR.liveK (r:PR):Nat→List Pl
 | 0=>[]
 | k+1=>r.liveK k++r.pageL k
def PR.live (r:PR):List Pl:=r.liveK (r.man+r.mgd)
def liveS (x:SE) (k:Nat):List Pl:=((List.range k).filter fun k=>decide (x.t.st k=1)).map (placeS x)
theorem liveS_succ (x:SE) (k:Nat):liveS x (k+1)=liveS x k++if x.t.st k=1 then [placeS x k] else []:=by
 unfold liveS
 rw [List.range_succ,List.filter_append,List.map_append]
 congr 1
 by_cases h:x.t.st k=1 <;> simp [h]
theorem liveS_len (x:SE):∀ k,(liveS x k).length≤k
 | 0=>by simp [liveS]
 | k+1=>by rw [liveS_succ,List.length_append]; have:=liveS_len x k; split <;> simp <;> omega
theorem PR.pageL_len {r:PR} (ok:r.Ok) (p:Nat):(r.pageL p).length≤16:=by
 unfold PR.pageL
 cases hs:sfind r.sl p with
 | some x =>
  obtain ⟨_,_,hm,_⟩:=sfind_some hs
  have:=liveS_len x (nC x.t.c)
  have:=(ok.sok x hm).cls.bd
  show (liveS x (nC x.t.c)).length≤16
  omega
 | none =>
  simp only
  cases gin r.G p with
  | some b=>simp only; split <;> simp
  | none=>simp
theorem PR.liveK_len {r:PR} (ok:r.Ok):∀ k,(r.liveK k).length≤16*k
 | 0=>by simp [PR.liveK]
 | k+1=>by rw [PR.liveK,List.length_append]; have:=PR.liveK_len ok k; have:=PR.pageL_len ok k; omega
theorem peS_del (sl:SEs) (p:Int):pdel (peS sl) p=peS (sl.filter fun x => !decide ((x.t.pg:Int)=p)):=by
 unfold pdel peS
 rw [List.filter_map]; rfl
end Go.Tum.Base
end
section
namespace Go.Proofs.YtgfjgfapigekiaaGreat
open Go Go.Tum Go.Tum.Base
set_option maxRecDepth 4000
structure RB where
 page:Int
 n:Int
def RB.cells (b:RB):List Value:=[.int .i64 b.page,.int .i64 b.n]
theorem RB.ok:RowOk RB.cells 2:=⟨fun _=>rfl,fun _=>rfl⟩
def RS (key:BitVec 64) (bs:Bytes) (l:List RB):LH:=[.cells 0 [.slice (some ⟨1,0,none⟩) bs.length bs.length,.int .u64 (key.toNat:Int),.slice (some ⟨2,0,none⟩) l.length l.length],BL bs,.gro 2 (rowsC RB.cells l)]
def atR (l:List RB) (p:Int):Int:=match l.findIdx? fun b=>decide (b.page=p) with
 | some i=>i
 | none => -1
theorem atR_hit {l:List RB} {p:Int} {i:Nat} {b:RB} (h:∀ (j:Nat) (c:RB),j<i→l[j]?=some c→c.page≠p) (hi:l[i]?=some b) (hb:b.page=p):atR l p=i:=by
 have:l.findIdx? (fun b=>decide (b.page=p))=some i:=by
  rw [List.findIdx?_eq_some_iff_getElem]
  obtain ⟨hlt,e⟩:=List.getElem?_eq_some_iff.1 hi
  refine ⟨hlt,by simp [e,hb],fun j hj=>?_⟩
  have:=h j _ hj (List.getElem?_eq_getElem (by omega))
  simpa using this
 unfold atR; rw [this]
theorem atR_miss {l:List RB} {p:Int} (h:∀ (j:Nat) (c:RB),j<l.length→l[j]?=some c→c.page≠p):atR l p = -1:=by
 have:l.findIdx? (fun b=>decide (b.page=p))=none:=by
  rw [List.findIdx?_eq_none_iff]
  intro x hx
  obtain ⟨j,hj⟩:=List.mem_iff_getElem?.1 hx
  have:=h j x (List.getElem?_eq_some_iff.1 hj).1 hj
  simpa using this
 unfold atR; rw [this]
set_option maxHeartbeats 1000000 in
theorem rAt_tr (key:BitVec 64) (bs:Bytes) (l:List RB) (hl:l.length≤1000) (p:Int):Tr Tryz.prog 144 [ptr 0,.int .i64 p] (RS key bs l) (fun v K=>v=.int .i64 (atR l p)∧K=RS key bs l):=by
 refine Tr.of row_tumbrelref08_Set_At_ok rfl ?_
 repeat' (first|refine qN ?_|refine dN ?_|refine qB ?_|refine qS ?_|fail)
 refine LWp.pick [1,10,11,12] [0,1,2] rfl rfl rfl (L_loop (fun q E L=>∃ i:Nat,q=l.length-i∧i≤l.length∧(∀ (j:Nat) (c:RB),j<i→l[j]?=some c→c.page≠p)∧E=[(1,.int .i64 p),(10,.slice (some ⟨2,0,none⟩) l.length l.length),(11,.int .i64 l.length),(12,.int .i64 i)]∧L=RS key bs l) l.length ⟨0,rfl,by omega,fun j c h=>by omega,rfl,rfl⟩ ?_)
 rintro q _ _ ⟨i,rfl,hi,hall,rfl,rfl⟩
 first|refine L_seq (L_rs (S_done [] rfl (Nx.goL (iF (fun h=>L_skip (Nx.goL ?_)) (fun h=>L_exit ?_)))))|refine L_rs (S_done [] rfl (Nx.goL (L_seq (iF (fun h=>L_skip (Nx.goL ?_)) (fun h=>L_exit ?_)))))
 ·have hin:i<l.length:=by omega
  obtain ⟨b,hb⟩:∃ b,l[i]?=some b:=⟨_,List.getElem?_eq_getElem (by omega)⟩
  by_cases he:b.page=p
  ·have e:=atR_hit hall hb he
   rw [e]
   repeat' (first|refine qN ?_|refine dN ?_|refine d0 ?_|refine qB ?_|refine qL ?_|refine iF (fun h=>?_) (fun h=>?_)|refine aX ?_|refine S_Q [] rfl rfl (QY.ldRow RB.ok rfl rfl hb (by decide)) ?_|refine aA ?_|refine qR ?_|refine qS ?_|fail)
   all_goals first | (exfalso; omega)|exact L_ret (RetQ.pick [0,1,2] rfl rfl rfl rfl ⟨rfl,rfl⟩)
  ·repeat' (first|refine qN ?_|refine dN ?_|refine d0 ?_|refine qB ?_|refine rT ?_|refine qL ?_|refine iF (fun h=>?_) (fun h=>?_)|refine aX ?_|refine S_Q [] rfl rfl (QY.ldRow RB.ok rfl rfl hb (by decide)) ?_|refine aA ?_|refine qR ?_|refine qS ?_|fail)
   all_goals first | (exfalso; omega)|exact Nx.pick [1,10,11,12] [0,1,2] rfl rfl rfl ⟨l.length-(i+1),by omega,i+1,rfl,by omega,(fun j c hj hc=>by
    by_cases h2:j<i
    ·exact hall j c h2 hc
    ·obtain rfl:j=i:=by omega
     rw [hb] at hc; cases hc; exact he),rfl,rfl⟩
 ·refine Nx.goL ?_
  obtain rfl:i=l.length:=by omega
  rw [atR_miss hall]
  repeat' (first|refine qN ?_|refine dN ?_|fail)
  exact L_ret (RetQ.pick [0,1,2] rfl rfl rfl rfl ⟨rfl,rfl⟩)
end Go.Proofs.YtgfjgfapigekiaaGreat
end
section
namespace Go.Tum.Base
open Go Go.Tum
def hornerN:Bytes→Nat
 | []=>0
 | b::r=>b.toNat+256*hornerN r
theorem hornerN_lt:∀ bs:Bytes,hornerN bs<256 ^ bs.length
 | []=>by simp [hornerN]
 | b::r=>by
  have:=hornerN_lt r
  have hb:=b.isLt
  simp only [hornerN,List.length_cons,Nat.pow_succ]
  omega
theorem hornerN_snoc:∀ (xs:Bytes) (b:BitVec 8),hornerN (xs++[b])=hornerN xs+256 ^ xs.length*b.toNat
 | [],b=>by simp [hornerN]
 | x::r,b=>by
  simp only [List.cons_append,hornerN,hornerN_snoc r b,List.length_cons,Nat.pow_succ]
  rw [Nat.mul_add,← Nat.mul_assoc,Nat.mul_comm 256 (256 ^ r.length)]; omega
theorem pow256 (k:Nat):256 ^ k=2 ^ (8*k):=by rw [Nat.pow_mul]
theorem getF_horner (bs:Bytes):∀ k,k≤8→k≤bs.length→(getF bs k).toNat=hornerN (bs.take k)
 | 0,_,_=>by simp [getF,hornerN]
 | k+1,h8,hk=>by
  have ih:=getF_horner bs k (by omega) (by omega)
  have hlt:=hornerN_lt (bs.take k)
  rw [List.length_take,Nat.min_eq_left (by omega),pow256] at hlt
  have hg:bs.getD k 0=bs[k]:=by rw [List.getD_eq_getElem?_getD,List.getElem?_eq_getElem (by omega)]; rfl
  have hb:=bs[k].isLt
  have hp:2 ^ (8*k)*256≤2 ^ 64:=by
   have:2 ^ (8*k)*2 ^ 8≤2 ^ 64:=by rw [← Nat.pow_add]; exact Nat.pow_le_pow_right (by decide) (by omega)
   omega
  have hsh:(bs[k].setWidth 64 <<< (8*k)).toNat=2 ^ (8*k)*bs[k].toNat:=by
   rw [BitVec.toNat_shiftLeft,Nat.shiftLeft_eq,BitVec.toNat_setWidth,Nat.mod_eq_of_lt (a:=bs[k].toNat) (by omega),Nat.mul_comm,Nat.mod_eq_of_lt]
   have:2 ^ (8*k)*bs[k].toNat<2 ^ (8*k)*256:=Nat.mul_lt_mul_of_pos_left hb (Nat.two_pow_pos _)
   omega
  rw [getF,hg,BitVec.toNat_or,ih,hsh,Nat.or_comm,← Nat.two_pow_add_eq_or_of_lt hlt,List.take_succ_eq_append_getElem (by omega),hornerN_snoc,List.length_take,Nat.min_eq_left (by omega),pow256]
  omega
theorem getW_horner {bs:Bytes} (h:bs.length=8):getW bs=BitVec.ofNat 64 (hornerN bs):=by
 apply BitVec.eq_of_toNat_eq
 have h1:=hornerN_lt bs
 rw [h] at h1
 have h2:=getF_horner bs 8 (by omega) (by omega)
 rw [List.take_of_length_le (by omega)] at h2
 rw [getW,h,show min 8 8=8 by rfl,h2,BitVec.toNat_ofNat,Nat.mod_eq_of_lt (by simpa using h1)]
theorem shift_step (v:BitVec 64) (k:Nat):v >>> (8*k) >>> 8=v >>> (8*(k+1)):=by
 apply BitVec.eq_of_getLsbD_eq
 intro i hi
 simp only [BitVec.getLsbD_ushiftRight]
 congr 1; omega
end Go.Tum.Base
namespace Go.Proofs.YtgfjgfapigekiaaGreat
open Go Go.Tum Go.Tum.Base
set_option maxRecDepth 4000
theorem rMix_tr (x:BitVec 64):Tr Tryz.prog 130 [.int .u64 (x.toNat:Int)] [] (fun v K=>v=.int .u64 ((mixW x).toNat:Int)∧K=[]):=by
 refine Tr.of row_tumbrelref06_Mix_ok rfl ?_
 repeat' (first|refine qN ?_|refine dN ?_|refine rT ?_|refine S_Q [] rfl rfl (QY.quoW 30 rfl rfl (by decide) (by decide)) ?_|refine S_Q [] rfl rfl (QY.quoW 27 rfl rfl (by decide) (by decide)) ?_|refine S_Q [] rfl rfl (QY.quoW 31 rfl rfl (by decide) (by decide)) ?_|refine S_Q [] rfl rfl (QY.xorW rfl rfl) ?_|refine S_Q [] rfl rfl (QY.mulW (b:=0xBF58476D1CE4E5B9#64) rfl rfl) ?_|refine S_Q [] rfl rfl (QY.mulW (b:=0x94D049BB133111EB#64) rfl rfl) ?_|exact ⟨rfl,rfl⟩|fail)
set_option maxHeartbeats 1000000 in
theorem rGet_tr (ys:Bytes) (i c:Nat) (h:i+8≤ys.length) (hb:ys.length≤65536):Tr Tryz.prog 166 [.slice (some ⟨0,i*1,none⟩) 8 c] [BL ys] (fun v K=>v=.int .u64 ((wordB ys i).toNat:Int)∧K=[BL ys]):=by
 have hp:(partB ys i 8).length=8:=partB_length h
 rw [wordB,getW_horner hp]
 obtain ⟨W,hW⟩:∃ W:Nat→BitVec 64,W=fun k=>BitVec.ofNat 64 (hornerN ((partB ys i 8).drop k)):=⟨_,rfl⟩
 have hg:∀ k,k<8→ys[i+k]?=some ((partB ys i 8).getD k 0):=fun k hk=>by
  rw [List.getD_eq_getElem?_getD,partB,List.getElem?_take,if_pos hk,List.getElem?_drop,List.getElem?_eq_getElem (by omega)]; rfl
 have hWs:∀ k,k<8→W (k+1)*256#64+((partB ys i 8).getD k 0).setWidth 64=W k:=fun k hk=>by
  rw [hW]
  simp only
  have hd:(partB ys i 8).drop k=(partB ys i 8).getD k 0::(partB ys i 8).drop (k+1):=by
   rw [List.drop_eq_getElem_cons (by omega),List.getD_eq_getElem?_getD,List.getElem?_eq_getElem (by omega)]; rfl
  rw [hd,hornerN]
  apply BitVec.eq_of_toNat_eq
  have:=((partB ys i 8).getD k 0).isLt
  simp only [BitVec.toNat_add,BitVec.toNat_mul,BitVec.toNat_ofNat,BitVec.toNat_setWidth]
  omega
 have hW8:W 8=0#64:=by rw [hW]; simp only; rw [List.drop_eq_nil_of_le (by omega)]; rfl
 have hW0:W 0=BitVec.ofNat 64 (hornerN (partB ys i 8)):=by rw [hW]; simp only; rw [List.drop_zero]
 rw [← hW0]
 generalize partB ys i 8=xs at *
 refine Tr.of row_tumbrelref01_Get_ok rfl ?_
 repeat' (first|refine qN ?_|refine dN ?_|refine qB ?_|refine qU ?_|refine qL ?_|refine aS ?_|refine qS ?_|fail)
 refine LWp.pick [0,3,4] [0] rfl rfl rfl (L_loop (fun q l L=>∃ k:Nat,q=k∧k≤8∧l=[(0,.slice (some ⟨0,i*1,none⟩) 8 c),(3,.int .u64 ((W k).toNat:Int)),(4,.int .i64 ((k:Int)-1))]∧L=[BL ys]) 8 ⟨8,rfl,by omega,by rw [hW8]; rfl,rfl⟩ ?_)
 rintro k _ _ ⟨_,rfl,hk,rfl,rfl⟩
 cases k with
 | zero =>
  repeat' (first|refine qN ?_|refine dN ?_|refine rT ?_|refine qU ?_|refine qF ?_|refine qS ?_|exact ⟨rfl,rfl⟩|fail)
 | succ k =>
  have hgk:=hg k (by omega)
  have hWk:=hWs k (by omega)
  rw [show ((k+1:Nat):Int)-1=(k:Int) by omega]
  repeat' (first|refine qN ?_|refine dN ?_|refine d0 ?_|refine qB ?_|refine qT ?_|refine qL ?_|refine S_Q [] rfl rfl (QY.mulW (b:=256#64) rfl rfl) ?_|refine S_Q [] rfl rfl (QY.idxO (k:=k) rfl rfl (by omega)) ?_|refine S_Q [] rfl rfl (QY.ldYo rfl (by omega) rfl hgk) ?_|refine S_Q [] rfl rfl (QY.cvBW rfl) ?_|refine S_Q [] rfl rfl (QY.addW rfl rfl) ?_|refine aS ?_|refine qR ?_|refine qS ?_|fail)
  ·rw [hWk]
   exact Nx.pick [0,3,4] [0] rfl rfl rfl ⟨k,by omega,k,rfl,by omega,rfl,rfl⟩
set_option maxHeartbeats 1000000 in
theorem rPut_tr (v:BitVec 64):Tr Tryz.prog 142 [.int .i64 8,.int .u64 (v.toNat:Int)] [] (fun u K=>u=slB 0 8∧K=[BL (putB v 8)]):=by
 refine Tr.of row_tumbrelref01_Put_ok rfl ?_
 repeat' (first|refine qN ?_|refine dN ?_|refine qB ?_|refine qS ?_|fail)
 refine LWp.nilE 5 1 rfl (LWp.pick [0,1,5,6] [0] rfl rfl rfl (L_loop (fun q l L=>∃ k:Nat,q=8-k∧k≤8∧l=[(0,.int .i64 8),(1,.int .u64 ((v >>> (8*k)).toNat:Int)),(5,.slice (some ⟨0,0,none⟩) k k),(6,.int .i64 k)]∧L=[BL (putB v k)]) 8 ⟨0,rfl,by omega,by rw [Nat.mul_zero,BitVec.ushiftRight_zero]; rfl,rfl⟩ ?_))
 rintro q _ _ ⟨k,rfl,hk,rfl,rfl⟩
 repeat' (first|refine qN ?_|refine dN ?_|refine qB ?_|refine qT ?_|refine qU ?_|refine qL ?_|refine qF ?_|refine S_Q [] rfl rfl (QY.rem256 rfl rfl) ?_|refine S_Q [] rfl rfl (QY.cvi rfl (rem_byte _)) ?_|refine sP 10 (fun h=>?_) (fun h=>?_)|refine qS ?_|fail)
 ·first|refine L_rs ?_|refine L_reg ?_ | skip
  refine eE rfl rfl (EW.appR1 (bytes:=1) (a:=byteAt v k) byteC_ok rfl (by kernel_rfl) rfl rfl rfl rfl (putB_length v k) (by omega)) ?_
  conv=>whnf
  repeat' (first|refine dN ?_|refine d0 ?_|refine S_Q [] rfl rfl (QY.quoW 8 rfl rfl (by decide) (by decide)) ?_|refine aA ?_|refine qR ?_|fail)
  rw [shift_step]
  refine Nx.pick [0,1,5,6] [2] rfl rfl rfl ⟨8-(k+1),by omega,k+1,rfl,by omega,rfl,rfl⟩
 ·obtain rfl:k=8:=by omega
  exact L_ret (RetQ.pick [0] rfl rfl rfl rfl ⟨rfl,rfl⟩)
theorem rPages_tr (n:Int):Tr Tryz.prog 105 [.int .i64 n] [] (fun v K=>v=.int .i64 (pagesC n)∧K=[]):=by
 refine Tr.of row_tumbrelref05_Pages_ok rfl ?_
 by_cases h:n<121∨n > 4096
 ·rw [show pagesC n=0 by unfold pagesC; rw [if_pos (by omega)]]
  repeat' (first|refine qN ?_|refine dN ?_|refine qB ?_|refine rT ?_|refine qT ?_|refine qL ?_|refine iF (fun h=>?_) (fun h=>?_)|refine sP 6 (fun h=>?_) (fun h=>?_)|refine qS ?_|exact ⟨rfl,rfl⟩|fail)
  all_goals (exfalso; omega)
 ·repeat' (first|refine qN ?_|refine dN ?_|refine qB ?_|refine qT ?_|refine qL ?_|refine iF (fun h=>?_) (fun h=>?_)|refine sP 6 (fun h=>?_) (fun h=>?_)|refine qS ?_|fail)
  all_goals try (exfalso; omega)
  refine LWp.pick [0,3] [] rfl rfl rfl (L_loop (fun q l L=>∃ k:Nat,q=17-k∧1≤k∧(k:Int)≤pagesC n∧l=[(0,.int .i64 n),(3,.int .i64 k)]∧L=[]) 16 ⟨1,rfl,by omega,by unfold pagesC; rw [if_neg (by omega)]; omega,rfl,rfl⟩ ?_)
  have hp:pagesC n=(n+263) / 256:=by unfold pagesC; rw [if_neg (by omega)]
  rw [hp]
  rintro q _ _ ⟨k,rfl,hk1,hk2,rfl,rfl⟩
  repeat' (first|refine qN ?_|refine dN ?_|refine d0 ?_|refine qB ?_|refine rT ?_|refine qL ?_|refine qF ?_|refine iF (fun h=>?_) (fun h=>?_)|refine aA ?_|refine aM ?_|refine qR ?_|refine qS ?_|fail)
  ·exact Nx.pick [0,3] [] rfl rfl rfl ⟨17-(k+1),by omega,k+1,rfl,by omega,by omega,rfl,rfl⟩
  ·refine ⟨congrArg (Value.int _) ?_,rfl⟩; omega
end Go.Proofs.YtgfjgfapigekiaaGreat
end
section
namespace Go.Proofs.YtgfjgfapigekiaaGreat
open Go Go.Tum Go.Tum.Base
set_option maxRecDepth 4000
def rPutL (gl:List RB) (p:Int) (n:Int):List RB:=gl.filter (fun x=>decide (x.page<p))++⟨p,n⟩::gl.filter (fun x=>decide (p<x.page))
set_option maxHeartbeats 1000000 in
theorem rFill_tr (key:BitVec 64) (bs:Bytes) (hb:bs.length≤65536) (gl:List RB) (p M:Nat) (h:256*(p+M)≤bs.length) (c:BitVec 8):TrK Tryz.prog [] [0,2] 146 [ptr 0,.int .i64 p,.int .i64 M,.int .u8 (c.toNat:Int)] (RS key bs gl) (fun v K=>v=undef∧K=RS key (overB bs (256*p) (List.replicate (256*M) c)) gl):=by
 have hl:∀ k,k≤256*M→(overB bs (256*p) (List.replicate k c)).length=bs.length:=fun k hk=>overB_length (by rw [List.length_replicate]; omega)
 refine Tr.of row_tumbrelref08_Set_fill_ok rfl ?_
 repeat' (first|refine qN ?_|fail)
 refine S_wk [] rfl (wk_gro0 (b:=3) 1 rfl) ?_
 first|refine L_rs ?_|refine L_reg ?_ | skip
 refine eE rfl rfl (EW.appRR (bytes:=1) (xs:=[]) (ys:=bs) byteC_ok rfl (by kernel_rfl) rfl rfl rfl rfl rfl rfl (by decide) (by omega)) ?_
 conv=>whnf
 rw [Nat.zero_add]
 repeat' (first|refine qN ?_|refine dN ?_|refine qB ?_|refine S_Q [] rfl rfl (QY.mul (c:=((256*p:Nat):Int)) rfl rfl (by omega) (by omega) (by omega)) ?_|refine qS ?_|fail)
 refine LWp.pick [0,1,2,3,8,9] [0,1,2,4] rfl rfl rfl (L_loop (fun q l K=>∃ k:Nat,q=256*M-k∧k≤256*M∧l=[(0,ptr 0),(1,.int .i64 p),(2,.int .i64 M),(3,.int .u8 (c.toNat:Int)),(8,slB 3 bs.length),(9,.int .i64 (256*p+k:Nat))]∧K=RS key bs gl++[BL (overB bs (256*p) (List.replicate k c))]) (256*M) ⟨0,rfl,by omega,rfl,by rw [List.replicate_zero,overB_nil]; rfl⟩ ?_)
 rintro q _ _ ⟨k,rfl,hk,rfl,rfl⟩
 have hlk:=hl k hk
 repeat' (first|refine qN ?_|refine dN ?_|refine d0 ?_|refine qB ?_|refine qL ?_|refine qF ?_|refine iF (fun h=>?_) (fun h=>?_)|refine aX ?_|refine S_Q [] rfl rfl (QY.mul (c:=((256*(p+M):Nat):Int)) rfl rfl (by omega) (by omega) (by omega)) ?_|refine aA ?_|refine qR ?_|refine qS ?_|fail)
 ·have hk2:k<256*M:=by omega
  have hsn:=overB_snoc (bs:=bs) (i:=256*p) (ys:=List.replicate k c) c (by rw [List.length_replicate]; omega)
  rw [List.length_replicate,← List.replicate_succ'] at hsn
  first|refine L_rs ?_|refine L_reg ?_ | skip
  refine eE rfl rfl (EW.stY (k:=256*p+k) (a:=c) rfl rfl rfl (by rw [hlk]; omega)) ?_
  conv=>whnf
  rw [hsn]
  repeat' (first|refine dN ?_|refine d0 ?_|refine aA ?_|refine qR ?_|fail)
  exact Nx.pick [0,1,2,3,8,9] [0,1,2,3] rfl rfl rfl ⟨256*M-(k+1),by omega,k+1,rfl,by omega,rfl,rfl⟩
 ·obtain rfl:k=256*M:=by omega
  refine RetQ.end [0,3,2] rfl rfl rfl rfl ⟨rfl,?_⟩
  unfold RS; rw [hlk]; rfl
theorem takeG_succ {L:List RB} {p:RB→Bool} {k:Nat} (h:k<L.length):(L.take (k+1)).filter p=(L.take k).filter p++(if p L[k] then [L[k]] else []):=by
 rw [List.take_succ_eq_append_getElem h,List.filter_append]
 congr 1
 rw [List.filter_cons]; rfl
theorem takeG_len {L:List RB} {p:RB→Bool} (k:Nat):((L.take k).filter p).length≤L.length:=by
 have:=List.length_filter_le p (L.take k)
 rw [List.length_take] at this
 omega
set_option maxHeartbeats 2000000 in
theorem rMake8_tr (key:BitVec 64) (bs:Bytes) (N:Nat) (hN:bs.length=256*N) (hN2:N≤256) (gl:List RB) (hgl:gl.length≤256) (hgb:∀ x∈gl,0≤x.page∧x.page≤256) (p M:Nat) (n:Int) (hn:greatC n=true) (hM:pagesC n=M) (hpM:p+M≤N) (hno:∀ x∈gl,∀ i:Nat,i<M→(p:Int)+i<x.page∨x.page+pagesC x.n≤(p:Int)+i) :
  TrK Tryz.prog [] [0] 106 [ptr 0,.int .i64 p,.int .i64 n] (RS key bs gl) (fun v K=>v=.int .i64 0∧K=RS key (madeB key bs p M) (rPutL gl p n)):=by
 obtain ⟨M',hM',hM1,hM17⟩:=greatC_pages hn
 obtain rfl:M'=M:=by omega
 have hP:=rPages_tr n
 rw [hM] at hP
 refine Tr.of row_tumbrelref08_Set_Make_ok rfl ?_
 repeat' (first|refine qN ?_|refine dN ?_|refine qB ?_|refine qT ?_|refine qU ?_|refine qL ?_|refine iF (fun h=>?_) (fun h=>?_)|refine cP [] (hP) ?_|refine S_Q [] rfl rfl (QY.divN (c:=(N:Int)) rfl rfl (by omega) (by omega) (by omega)) ?_|refine aS ?_|refine sP 18 (fun h=>?_) (fun h=>?_)|refine sP 30 (fun h=>?_) (fun h=>?_)|refine qS ?_|fail)
 all_goals try (exfalso; omega)
 refine LWp.nilE 8 2 rfl (LWp.pick [0,1,2,7,8,45,46,47] [0,1,2,3] rfl rfl rfl (L_loop (fun q l K=>∃ k:Nat,q=gl.length-k∧k≤gl.length∧l=[(0,ptr 0),(1,.int .i64 p),(2,.int .i64 n),(7,.int .i64 M'),(8,slB 3 ((gl.take k).filter fun x=>decide (x.page<(p:Int))).length),(45,slB 2 gl.length),(46,.int .i64 gl.length),(47,.int .i64 k)]∧K=RS key bs gl++[.gro 2 (rowsC RB.cells ((gl.take k).filter fun x=>decide (x.page<(p:Int))))]) gl.length ⟨0,rfl,by omega,rfl,rfl⟩ ?_))
 rintro q _ _ ⟨k,rfl,hk,rfl,rfl⟩
 first|refine L_seq (L_rs (S_done [] rfl (Nx.goL (iF (fun h=>L_skip (Nx.goL ?_)) (fun h=>L_exit ?_)))))|refine L_rs (S_done [] rfl (Nx.goL (L_seq (iF (fun h=>L_skip (Nx.goL ?_)) (fun h=>L_exit ?_)))))
 ·have hk2:k<gl.length:=by omega
  have hg:gl[k]?=some gl[k]:=List.getElem?_eq_getElem hk2
  have hFk:=takeG_succ (p:=fun x=>decide (x.page<(p:Int))) hk2
  have hFl:=takeG_len (L:=gl) (p:=fun x=>decide (x.page<(p:Int))) k
  have hx:=hgb gl[k] (List.getElem_mem hk2)
  have hxn:=hno gl[k] (List.getElem_mem hk2)
  have hPx:=rPages_tr gl[k].n
  have hPb:=pagesC_bd gl[k].n
  refine L_seq (L_block ?_)
  repeat' (first|refine qN ?_|refine dN ?_|refine qB ?_|refine aX ?_|refine S_Q [] rfl rfl (QY.ldRow RB.ok rfl rfl hg (by decide)) ?_|refine qS ?_|fail)
  refine LWp.pick [0,1,2,7,8,10,11,45,46,47] [0,1,2,3,4] rfl rfl rfl (L_loop (fun q l K=>∃ i:Nat,q=M'-i∧i≤M'∧l=[(0,ptr 0),(1,.int .i64 p),(2,.int .i64 n),(7,.int .i64 M'),(8,slB 3 ((gl.take k).filter fun x=>decide (x.page<(p:Int))).length),(10,ptr 4),(11,.int .i64 i),(45,slB 2 gl.length),(46,.int .i64 gl.length),(47,.int .i64 k)]∧K=RS key bs gl++[.gro 2 (rowsC RB.cells ((gl.take k).filter fun x=>decide (x.page<(p:Int)))),.cells 0 [.int .i64 gl[k].page,.int .i64 gl[k].n]]) M' ⟨0,rfl,by omega,rfl,rfl⟩ ?_)
  rintro q _ _ ⟨i,rfl,hi,rfl,rfl⟩
  by_cases hi2:i<M'
  ·have hxi:=hxn i hi2
   repeat' (first|refine qN ?_|refine dN ?_|refine d0 ?_|refine qB ?_|refine qU ?_|refine qL ?_|refine qF ?_|refine iF (fun h=>?_) (fun h=>?_)|refine cP [] (hPx) ?_|refine aA ?_|refine sP 62 (fun h=>?_) (fun h=>?_)|refine qR ?_|refine qS ?_|fail)
   all_goals first | (exfalso; omega)|exact Nx.pick [0,1,2,7,8,10,11,45,46,47] [0,1,2,3,4] rfl rfl rfl ⟨M'-(i+1),by omega,i+1,rfl,by omega,rfl,rfl⟩
  ·obtain rfl:i=M':=by omega
   repeat' (first|refine qN ?_|refine dN ?_|refine d0 ?_|refine qB ?_|refine qU ?_|refine qL ?_|refine qF ?_|refine iF (fun h=>?_) (fun h=>?_)|refine aA ?_|refine sP 62 (fun h=>?_) (fun h=>?_)|refine qR ?_|refine qS ?_|fail)
   all_goals try (exfalso; omega)
   ·rw [if_pos (by simpa using h)] at hFk
    first|refine L_rs ?_|refine L_reg ?_ | skip
    refine eE rfl rfl (EW.appR1 (bytes:=16) (a:=gl[k]) RB.ok rfl (by kernel_rfl) rfl rfl rfl rfl rfl (by omega)) ?_
    conv=>whnf
    repeat' (first|refine dN ?_|refine d0 ?_|refine aA ?_|refine qR ?_|fail)
    refine Nx.pick [0,1,2,7,8,45,46,47] [0,1,2,6] rfl rfl rfl ⟨gl.length-(k+1),by omega,k+1,rfl,by omega,?_,by rw [hFk]; rfl⟩
    rw [hFk,List.length_append]; rfl
   ·rw [if_neg (by simpa using h),List.append_nil] at hFk
    refine Nx.pick [0,1,2,7,8,45,46,47] [0,1,2,3] rfl rfl rfl ⟨gl.length-(k+1),by omega,k+1,rfl,by omega,?_,by rw [hFk]; rfl⟩
    rw [hFk]; rfl
 ·obtain rfl:k=gl.length:=by omega
  refine Nx.goL ?_
  rw [List.take_length]
  have hl1:=List.length_filter_le (fun x:RB=>decide (x.page<(p:Int))) gl
  have hgp:rPutL gl p n=gl.filter (fun x=>decide (x.page<(p:Int)))++(⟨(p:Int),n⟩:RB)::gl.filter (fun x=>decide ((p:Int)<x.page)):=rfl
  generalize gl.filter (fun x=>decide (x.page<(p:Int)))=A1 at *
  repeat' (first|refine qN ?_|fail)
  first|refine L_rs ?_|refine L_reg ?_ | skip
  refine eE rfl rfl (EW.appR1 (bytes:=16) (a:=(⟨(p:Int),n⟩:RB)) RB.ok rfl (by kernel_rfl) rfl rfl rfl rfl rfl (by omega)) ?_
  conv=>whnf
  repeat' (first|refine qN ?_|refine dN ?_|refine qB ?_|refine qS ?_|fail)
  refine LWp.pick [0,1,2,7,8,92,93,94] [0,1,2,5] rfl rfl rfl (L_loop (fun q l K=>∃ k:Nat,q=gl.length-k∧k≤gl.length∧l=[(0,ptr 0),(1,.int .i64 p),(2,.int .i64 n),(7,.int .i64 M'),(8,slB 3 (A1++[(⟨(p:Int),n⟩:RB)]++(gl.take k).filter fun x=>decide ((p:Int)<x.page)).length),(92,slB 2 gl.length),(93,.int .i64 gl.length),(94,.int .i64 k)]∧K=RS key bs gl++[.gro 2 (rowsC RB.cells (A1++[(⟨(p:Int),n⟩:RB)]++(gl.take k).filter fun x=>decide ((p:Int)<x.page)))]) gl.length ⟨0,rfl,by omega,by rw [List.take_zero,List.filter_nil,List.append_nil,List.length_append]; rfl,by rw [List.take_zero,List.filter_nil,List.append_nil]; rfl⟩ ?_)
  rintro q _ _ ⟨k,rfl,hk,rfl,rfl⟩
  first|refine L_seq (L_rs (S_done [] rfl (Nx.goL (iF (fun h=>L_skip (Nx.goL ?_)) (fun h=>L_exit ?_)))))|refine L_rs (S_done [] rfl (Nx.goL (L_seq (iF (fun h=>L_skip (Nx.goL ?_)) (fun h=>L_exit ?_)))))
  ·have hk2:k<gl.length:=by omega
   have hg:gl[k]?=some gl[k]:=List.getElem?_eq_getElem hk2
   have hFk:=takeG_succ (p:=fun x=>decide ((p:Int)<x.page)) hk2
   have hFl:=takeG_len (L:=gl) (p:=fun x=>decide ((p:Int)<x.page)) k
   repeat' (first|refine qN ?_|refine dN ?_|refine d0 ?_|refine qB ?_|refine qL ?_|refine iF (fun h=>?_) (fun h=>?_)|refine aX ?_|refine S_Q [] rfl rfl (QY.ldRow RB.ok rfl rfl hg (by decide)) ?_|refine aA ?_|refine qR ?_|refine qS ?_|fail)
   ·rw [if_pos (by simpa using h)] at hFk
    first|refine L_rs ?_|refine L_reg ?_ | skip
    refine eE rfl rfl (EW.appR1 (bytes:=16) (a:=gl[k]) RB.ok rfl (by kernel_rfl) rfl rfl rfl rfl rfl (by simp only [List.length_append,List.length_cons,List.length_nil]; omega)) ?_
    conv=>whnf
    repeat' (first|refine dN ?_|refine d0 ?_|refine aA ?_|refine qR ?_|fail)
    refine Nx.pick [0,1,2,7,8,92,93,94] [0,1,2,6] rfl rfl rfl ⟨gl.length-(k+1),by omega,k+1,rfl,by omega,?_,by rw [hFk,← List.append_assoc]; rfl⟩
    rw [hFk,← List.append_assoc,List.length_append (bs:=[gl[k]])]; rfl
   ·rw [if_neg (by simpa using h),List.append_nil] at hFk
    refine Nx.pick [0,1,2,7,8,92,93,94] [0,1,2,3] rfl rfl rfl ⟨gl.length-(k+1),by omega,k+1,rfl,by omega,?_,by rw [hFk]; rfl⟩
    rw [hFk]; rfl
  ·obtain rfl:k=gl.length:=by omega
   refine Nx.goL ?_
   rw [List.take_length]
   rw [List.append_cons] at hgp
   generalize gl.filter (fun x=>decide ((p:Int)<x.page))=A2 at *
   rw [hgp]
   generalize A1++[(⟨(p:Int),n⟩:RB)]++A2=X at *
   have hF:=rFill_tr key bs (by omega) gl p M' (by omega) 0#8
   have hlb:(overB bs (256*p) (List.replicate (256*M') 0#8)).length=bs.length:=overB_length (by rw [List.length_replicate]; omega)
   simp only [RS,hlb] at hF
   have hMx:=rMix_tr (key ^^^ BitVec.ofInt 64 (256*(p:Int)))
   have hPt:=rPut_tr (canW key (256*(p:Int)))
   change Tr Tryz.prog _ _ _ (fun v K=>v=.int .u64 ((canW key (256*(p:Int))).toNat:Int)∧K=[]) at hMx
   repeat' (first|refine qN ?_|refine dN ?_|(refine cW [0,1,2] (hF) ?_; conv=>whnf)|refine S_Q [] rfl rfl (QY.sub (c:=((256*(p+M')-8:Nat):Int)) rfl rfl (by omega) (by omega) (by omega)) ?_|refine S_Q [] rfl rfl (QY.slc0 (b:=1) (lo':=256*(p+M')-8) (hi':=bs.length) rfl rfl rfl (by omega) (by omega)) ?_|refine S_Q [] rfl rfl (QY.cvIW rfl) ?_|refine S_Q [] rfl rfl (QY.xorW rfl rfl) ?_|refine cP [] (hMx) ?_|(refine cF [] (hPt) ?_; conv=>whnf)|refine aA ?_|refine aM ?_|fail)
   first|refine L_rs ?_|refine L_reg ?_ | skip
   refine eE rfl rfl (EW.copyg (i:=256*(p+M')-8) (j:=0) (xs:=overB bs (256*p) (List.replicate (256*M') 0#8)) (ys:=putB (canW key (256*(p:Int))) 8) byteC_ok rfl (by kernel_rfl) rfl rfl rfl rfl (by rw [hlb]; omega) (by rw [putB_length]; omega) (by decide)) ?_
   conv=>whnf
   rw [overB_copy _ _ _ (putB_length _ _).symm (by omega)]
   repeat' (first|refine qN ?_|refine dN ?_|fail)
   refine L_ret (RetQ.pick [0,1,3] rfl rfl rfl rfl ⟨rfl,?_⟩)
   have hmb:=madeB_length (key:=key) (bs:=bs) (p:=p) (M:=M') (by omega) hM1
   unfold RS; rw [hmb]; rfl
end Go.Proofs.YtgfjgfapigekiaaGreat
end
section
namespace Go.Tum
open Go
section
variable {P:Program} {n0:NA} {l:Env} {L:LH}
theorem EW.appRSe {α:Type} {g:α→List Value} {sz:Nat} {o:Oper} {s x:Operand} {sT xT:TypeId} {bytes b n bx ox i m cx t:Nat} {xs ys zs:List α} (hnm:n+m=t) (hzs:xs++(ys.drop i).take m=zs) (h:RowOk g sz) (ho:o.op=.call ⟨.builtin .append,⟨[s,x]⟩,⟨[sT,xT]⟩⟩) (ht:appT P sT xT=some (sz,bytes)) (hs:lv l s=some (.slice (some ⟨b,0,none⟩) n n)) (hx:lv l x=some (.slice (some ⟨bx,ox,none⟩) m cx))
  (hb:L[b]?=some (.gro sz (rowsC g xs))) (hbx:L[bx]?=some (.gro sz (rowsC g ys))) (hox:ox=i*sz) (hn:xs.length=n) (hm:i+m≤ys.length) (hz:0<sz) (hbd:(2*(n+m)+2048)*bytes≤281474976710656) :
  EW P n0 L l (.raw o) (fun v K=>v=.slice (some ⟨L.length,0,none⟩) t t∧K=L.set b .dead++[.gro sz (rowsC g zs)]):=by
 subst hnm; subst hzs
 exact EW.appRS h ho ht hs hx hb hbx hox hn hm hz hbd
end
end Go.Tum
end
section
namespace Go.Proofs.YtgfjgfapigekiaaGreat
open Go Go.Tum Go.Tum.Base
set_option maxRecDepth 4000
def rStands (key:BitVec 64) (bs:Bytes) (b:RB):Bool:=decide (wordB bs (256*(b.page+pagesC b.n)-8).toNat=canW key (256*b.page))
theorem rStands_tr (key:BitVec 64) (bs:Bytes) (hb:bs.length≤65536) (gl:List RB) (b:RB) (i:Nat) (hp:0≤b.page) (hi:256*(b.page+pagesC b.n)-8=i) (hle:i+8≤bs.length) :
  Tr Tryz.prog 145 [ptr 0,.agg ⟨RB.cells b⟩] (RS key bs gl) (fun v K=>v=.bool (rStands key bs b)∧K=RS key bs gl):=by
 have hP:=rPages_tr b.n
 have hPb:=pagesC_bd b.n
 have hM:=rMix_tr (key ^^^ BitVec.ofInt 64 (256*b.page))
 change Tr Tryz.prog _ _ _ (fun v K=>v=.int .u64 ((canW key (256*b.page)).toNat:Int)∧K=[]) at hM
 have hG:Tr Tryz.prog 166 [.slice (some ⟨0,i*1,none⟩) (i+8-i) (bs.length-i)] [BL bs] (fun v K=>v=.int .u64 ((wordB bs i).toNat:Int)∧K=[BL bs]):=by
  rw [show i+8-i=8 by omega]; exact rGet_tr bs i (bs.length-i) (by omega) hb
 refine Tr.of row_tumbrelref08_Set_Stands_ok rfl ?_
 repeat' (first|refine qN ?_|refine dN ?_|refine rT ?_|refine cP [] (hP) ?_|refine S_Q [] rfl rfl (QY.mul (c:=((i+8:Nat):Int)) rfl rfl (by omega) (by omega) (by omega)) ?_|refine S_Q [] rfl rfl (QY.sub (c:=(i:Int)) rfl rfl (by omega) (by omega) (by omega)) ?_|refine S_Q [] rfl rfl (QY.slc0 (b:=1) (lo':=i) (hi':=i+8) rfl rfl rfl (by omega) (by omega)) ?_|refine S_Q [] rfl rfl (QY.cvIW rfl) ?_|refine S_Q [] rfl rfl (QY.xorW rfl rfl) ?_|refine cP [1] (hG) ?_|refine cP [] (hM) ?_|refine aA ?_|refine aM ?_|fail)
 refine ⟨congrArg Value.bool ?_,rfl⟩
 rw [rStands,hi,Int.toNat_natCast,Bool.eq_iff_iff,beq_iff_eq,decide_eq_true_eq]
 exact ⟨fun h=>BitVec.eq_of_toNat_eq (by omega),fun h=>by rw [h]⟩
set_option maxHeartbeats 2000000 in
theorem rDrop_ok (key:BitVec 64) (bs:Bytes) (hb:bs.length≤65536) (l:List RB) (hl:l.length≤1000) (i:Nat) (b:RB) (p M:Nat) (hp:b.page=p) (hi:l[i]?=some b) (h:atR l p=i) (hM:pagesC b.n=M) (hM1:1≤M) (hle:256*(p+M)≤bs.length) :
  TrK Tryz.prog [] [0] 98 [ptr 0,.int .i64 p] (RS key bs l) (fun v K=>v=.tuple ⟨[.bool (rStands key bs b),.int .i64 0]⟩∧K=RS key (overB bs (256*p) (List.replicate (256*M) 0xDD#8)) (l.take i++l.drop (i+1))):=by
 have hA:=rAt_tr key bs l hl p
 rw [h] at hA
 have hil:i<l.length:=(List.getElem?_eq_some_iff.1 hi).1
 have hS:=rStands_tr key bs hb l b (256*(p+M)-8) (by omega) (by omega) (by omega)
 have hP:=rPages_tr b.n
 rw [hM] at hP
 have hF:=rFill_tr key bs hb l p M hle 0xDD#8
 have hlb:(overB bs (256*p) (List.replicate (256*M) 0xDD#8)).length=bs.length:=overB_length (by rw [List.length_replicate]; omega)
 simp only [RS,hlb,← hp] at hF
 refine Tr.of row_tumbrelref08_Set_Drop_ok rfl ?_
 repeat' (first|refine qN ?_|refine dN ?_|refine qU ?_|refine qL ?_|refine aX ?_|refine cP [0,1,2] (hA) ?_|refine S_Q [] rfl rfl (QY.ldRow RB.ok rfl rfl hi (by decide)) ?_|refine cP [0,1,2] (hS) ?_|refine cP [] (hP) ?_|(refine cW [0,1,2] (hF) ?_; conv=>whnf)|refine S_Q [] rfl rfl (QY.slc0 (b:=2) (lo':=0) (hi':=i) rfl rfl rfl (by omega) (by omega)) ?_|refine S_Q [] rfl rfl (QY.slc0 (b:=2) (lo':=i+1) (hi':=l.length) rfl rfl rfl (by omega) (by omega)) ?_|refine aA ?_|refine qS ?_|fail)
 refine S_E [] rfl rfl (esafe_ok rfl) ?_
 rintro _ _ ⟨rfl,rfl⟩
 refine ⟨(by repeat' (first|exact trivial|refine ⟨⟨qsafe_ok (st:=[]) rfl,Sure.slice (by omega)⟩,?_⟩|fail)),LSt.nf ?_⟩
 conv=>whnf
 refine S_wk [] rfl (wk_gro0 (b:=4) 2 rfl) ?_
 first|refine L_rs ?_|refine L_reg ?_ | skip
 refine eE rfl rfl (EW.appRS (bytes:=16) (xs:=[]) (ys:=l) (i:=0) RB.ok rfl (by kernel_rfl) rfl rfl rfl rfl (by omega) rfl (by omega) (by decide) (by omega)) ?_
 conv=>whnf
 first|refine L_rs ?_|refine L_reg ?_ | skip
 refine eE rfl rfl (EW.appRSe (bytes:=16) (t:=l.length-1) (ys:=l) (i:=i+1) (by omega) rfl RB.ok rfl (by kernel_rfl) rfl rfl rfl rfl rfl (by simp; omega) (by omega) (by decide) (by omega)) ?_
 conv=>whnf
 repeat' (first|refine qN ?_|refine dN ?_|fail)
 have hlen:(l.take i++l.drop (i+1)).length=l.length-1:=by simp; omega
 have e2:(l.drop (i+1)).take (l.length-(i+1))=l.drop (i+1):=by rw [List.take_of_length_le (by simp)]
 have hE:RS key (overB bs (256*p) (List.replicate (256*M) 0xDD#8)) (l.take i++l.drop (i+1))=[.cells 0 [slB 1 bs.length,.int .u64 (key.toNat:Int),slB 2 (l.length-1)],BL (overB bs (256*p) (List.replicate (256*M) 0xDD#8)),.gro 2 (rowsC RB.cells ([]++List.take (i-0) (List.drop 0 l)++List.take (l.length-(i+1)) (List.drop (i+1) l)))]:=by
  simp only [RS,hlen,hlb]; rw [e2]; rfl
 refine L_ret (RetQ.pick [0,1,6] rfl rfl rfl rfl ⟨rfl,?_⟩)
 rw [hE]; rfl
end Go.Proofs.YtgfjgfapigekiaaGreat
end
section
namespace Go.Tum.Base
open Go Go.Tum
def stL (t:PS) (n:Nat):List Int:=(List.range n).map t.st
theorem stL_len (t:PS) (n:Nat):(stL t n).length=n:=by simp [stL]
theorem stL_get (t:PS) {n k:Nat} (hk:k<n):(stL t n)[k]?=some (t.st k):=by
 unfold stL
 rw [List.getElem?_map,List.getElem?_range hk]; rfl
def numS (z:Nat) (a:Int):Int:=if a = -1 then -1 else a % 256 / z
theorem numS_base {c:Int} {z n:Nat} (h:Cls c z n) {k p:Nat} (hk:k<n):numS z (baseN p z k:Nat)=k:=by
 unfold numS baseN
 rcases h.is with ⟨rfl,rfl,rfl⟩ | ⟨rfl,rfl,rfl⟩ | ⟨rfl,rfl,rfl⟩ | ⟨rfl,rfl,rfl⟩ <;> (rw [if_neg (by omega)]; omega)
theorem low_bits:∀ i:_root_.Fin 64,(4294967295#64).getLsbD i.val=decide (i.val<32):=by decide
theorem mark_bits:∀ i:_root_.Fin 64,i.val<32→(6510516211317473280#64).getLsbD i.val=false:=by decide
theorem num_bits {m:Nat} (h:m<2 ^ 32) {i:Nat} (hi:32≤i):(BitVec.ofNat 64 m).getLsbD i=false:=by
 rw [BitVec.getLsbD_ofNat]
 rw [Nat.testBit_lt_two_pow (Nat.lt_of_lt_of_le h (Nat.pow_le_pow_right (by decide) hi))]
 simp
theorem low_or {m:Nat} (h:m<2 ^ 32):(BitVec.ofNat 64 m ||| 6510516211317473280#64) &&& ~~~ 4294967295#64=6510516211317473280#64∧(BitVec.ofNat 64 m ||| 6510516211317473280#64) &&& 4294967295#64=BitVec.ofNat 64 m:=by
 constructor
 ·apply BitVec.eq_of_getLsbD_eq
  intro i hi
  rw [BitVec.getLsbD_and,BitVec.getLsbD_or,BitVec.getLsbD_not,low_bits ⟨i,hi⟩]
  by_cases h1:i<32
  ·have:=mark_bits ⟨i,hi⟩ h1
   simp only at this
   simp [h1,this]
  ·rw [num_bits h (by omega)]
   simp [h1,hi]
 ·apply BitVec.eq_of_getLsbD_eq
  intro i hi
  rw [BitVec.getLsbD_and,BitVec.getLsbD_or,low_bits ⟨i,hi⟩]
  by_cases h1:i<32
  ·have:=mark_bits ⟨i,hi⟩ h1
   simp only at this
   simp [h1,this]
  ·rw [num_bits h (by omega)]
   simp [h1]
theorem split_or (x:BitVec 64):(x &&& 4294967295#64) ||| (x &&& ~~~ 4294967295#64)=x:=by
 apply BitVec.eq_of_getLsbD_eq
 intro i hi
 rw [BitVec.getLsbD_or,BitVec.getLsbD_and,BitVec.getLsbD_and,BitVec.getLsbD_not]
 cases (4294967295#64).getLsbD i <;> simp [hi]
theorem orAdd {nx:Int} (h : -1≤nx∧nx<65536):6510516211317473280#64+BitVec.ofInt 64 (nx+1)=BitVec.ofInt 64 (nx+1) ||| 6510516211317473280#64:=by
 obtain ⟨m,hm⟩:=Int.eq_ofNat_of_zero_le (show 0≤nx+1 by omega)
 rw [hm,show BitVec.ofInt 64 (m:Int)=BitVec.ofNat 64 m by simp,BitVec.or_comm]
 refine BitVec.add_eq_or_of_and_eq_zero _ _ ?_
 apply BitVec.eq_of_getLsbD_eq
 intro i hi
 rw [BitVec.getLsbD_and]
 by_cases h1:i<32
 ·have:=mark_bits ⟨i,hi⟩ h1
  simp only at this
  simp [this]
 ·rw [num_bits (m:=m) (by omega) (by omega)]
  simp
theorem getL_put {key:BitVec 64} {a:Nat} {nx:Int} (h : -1≤nx∧nx<65536):getL key (putL key a nx) a=some nx:=by
 obtain ⟨m,hm⟩:=Int.eq_ofNat_of_zero_le (show 0≤nx+1 by omega)
 have h1:BitVec.ofInt 64 (m:Int)=BitVec.ofNat 64 m:=by simp
 obtain ⟨h2,h3⟩:=low_or (m:=m) (by omega)
 unfold getL putL
 simp only
 rw [hm,h1,BitVec.xor_assoc,BitVec.xor_self,BitVec.xor_zero,h2,h3,show (BitVec.ofNat 64 m).toNat=m by rw [BitVec.toNat_ofNat]; exact Nat.mod_eq_of_lt (by omega),if_pos ⟨by decide,by omega⟩]
 congr 1; omega
theorem putL_get {key w:BitVec 64} {a:Nat} {nx:Int} (h:getL key w a=some nx):w=putL key a nx:=by
 unfold getL at h
 simp only at h
 split at h
 ·rename_i hc
  obtain ⟨h1,h2⟩:=hc
  have h:((w ^^^ mixW (key+BitVec.ofInt 64 a)) &&& 4294967295#64).toNat-1=nx:=Option.some.inj h
  have e1:(w ^^^ mixW (key+BitVec.ofInt 64 a)) &&& ~~~ 4294967295#64=6510516211317473280#64:=BitVec.eq_of_toNat_eq h1
  have e2:(w ^^^ mixW (key+BitVec.ofInt 64 a)) &&& 4294967295#64=BitVec.ofInt 64 (nx+1):=by
   apply BitVec.eq_of_toNat_eq
   rw [← h,show (((w ^^^ mixW (key+BitVec.ofInt 64 a)) &&& 4294967295#64).toNat:Int)-1+1=((((w ^^^ mixW (key+BitVec.ofInt 64 a)) &&& 4294967295#64).toNat:Nat):Int) by omega]
   simp
  unfold putL
  rw [← e1,← e2,split_or,BitVec.xor_assoc,BitVec.xor_self,BitVec.xor_zero]
 ·cases h
section
variable {key:BitVec 64} {bs:Bytes} {c:Int} {z n:Nat} {t:PS} {k:Nat}
theorem base_inj (hc:Cls c z n) {p i j:Nat} (hi:i<n) (hj:j<n) (h:baseN p z i=baseN p z j):i=j:=by
 have h1:=hc.base hi p
 have h2:=hc.base hj p
 rw [← h1.2.2.2.2.2.2,← h2.2.2.2.2.2.2,h]
theorem fol_end:wordB bs (baseN t.pg z k)=putL key (baseN t.pg z k) (-1)↔folP key bs z n t k=(-1,true):=by
 constructor
 ·intro h
  have:=getL_put (key:=key) (a:=baseN t.pg z k) (nx := -1) (by decide)
  rw [← h] at this
  unfold folP
  rw [this]; rfl
 ·intro h
  unfold folP at h
  cases e:getL key (wordB bs (baseN t.pg z k)) (baseN t.pg z k) with
  | none=>rw [e] at h; cases h
  | some nx =>
   rw [e] at h
   simp only at h
   split at h
   ·rename_i h1; subst h1; exact putL_get e
   ·rename_i h1; exact absurd (congrArg Prod.fst h) h1
theorem fol_hit (hc:Cls c z n) (hp:t.pg<256) (hk:k<n) {i:Nat} (hi:i<n):(t.st i=0∧i≠k∧wordB bs (baseN t.pg z k)=putL key (baseN t.pg z k) (baseN t.pg z i:Nat))↔folP key bs z n t k=(((baseN t.pg z i:Nat):Int),true):=by
 have hb:=hc.base hi t.pg
 have hz:=hc.bd
 obtain ⟨s1,s2⟩:=hc.slotI hi hp
 have e1:baseI t.pg z n (i:Int)=baseN t.pg z i:=by unfold baseI; rw [if_neg (by omega),Int.toNat_natCast]
 have e2:t.stI n (i:Int)=t.st i:=by unfold PS.stI; rw [if_neg (by omega),Int.toNat_natCast]
 constructor
 ·rintro ⟨h1,h2,h3⟩
  have:=getL_put (key:=key) (a:=baseN t.pg z k) (nx:=(baseN t.pg z i:Nat)) (by omega)
  rw [← h3] at this
  unfold folP
  rw [this]
  simp only
  rw [if_neg (by omega)]
  congr 1
  rw [decide_eq_true_eq,s1,s2,e1,e2]
  refine ⟨fun h=>h2 (base_inj (p:=t.pg) hc hi hk (by omega)),rfl,rfl,h1⟩
 ·intro h
  unfold folP at h
  cases e:getL key (wordB bs (baseN t.pg z k)) (baseN t.pg z k) with
  | none=>rw [e] at h; cases h
  | some nx =>
   rw [e] at h
   simp only at h
   split at h
   ·have:=congrArg Prod.fst h
    simp only at this
    omega
   ·have g1:=congrArg Prod.fst h
    have g2:=congrArg Prod.snd h
    simp only at g1 g2
    subst g1
    rw [decide_eq_true_eq,s1,e2] at g2
    refine ⟨g2.2.2.2,fun e3=>?_,putL_get e⟩
    subst e3
    exact g2.1 rfl
theorem fol_some {nx:Int} (h:folP key bs z n t k=(nx,true)) (h1:nx ≠ -1):∃ i,i<n∧nx=baseN t.pg z i∧t.st i=0:=by
 unfold folP at h
 cases e:getL key (wordB bs (baseN t.pg z k)) (baseN t.pg z k) with
 | none=>rw [e] at h; cases h
 | some m =>
  rw [e] at h
  simp only at h
  split at h
  ·have:=congrArg Prod.fst h
   simp only at this
   omega
  ·have g1:=congrArg Prod.fst h
   have g2:=congrArg Prod.snd h
   simp only at g1 g2
   subst g1
   rw [decide_eq_true_eq] at g2
   obtain ⟨_,_,g3,g4⟩:=g2
   unfold baseI at g3
   split at g3
   ·exact absurd g3 h1
   ·rename_i h2
    refine ⟨(slotI z m).toNat,by omega,g3,?_⟩
    unfold PS.stI at g4
    rw [if_neg (by omega)] at g4
    exact g4
def lnkF (key:BitVec 64) (bs:Bytes) (z n:Nat) (t:PS) (k:Nat):Int:=if (folP key bs z n t k).2 then numS z (folP key bs z n t k).1 else -2
end
theorem stL_set {t t':PS} {n k:Nat} {v:Int} (h:∀ j,j<n→t'.st j=if j=k then v else t.st j):(stL t n).set k v=stL t' n:=by
 apply List.ext_getElem?
 intro j
 rw [List.getElem?_set,stL_len]
 by_cases hj:j<n
 ·rw [stL_get t' hj,stL_get t hj,h j hj]
  by_cases e:k=j
  ·subst e; simp [hj]
  ·rw [if_neg e,if_neg (fun q=>e q.symm)]
 ·rw [List.getElem?_eq_none (by rw [stL_len]; omega),List.getElem?_eq_none (by rw [stL_len]; omega)]
  split
  ·rw [if_neg (by omega)]
  ·rfl
theorem st_took {t:PS} {k:Nat} {nx:Int} (hk:k<64) {j:Nat} (hj:j<64):(tookT t k nx).st j=if j=k then 1 else t.st j:=by
 unfold PS.st tookT
 simp only
 rw [putW_get _ hk _ hj]
 by_cases e:j=k
 ·rw [if_pos e,if_pos e]; rfl
 ·rw [if_neg e,if_neg e]
theorem st_drop {t:PS} {k:Nat} (hk:k<64) {j:Nat} (hj:j<64):(dropT t k).st j=if j=k then 2 else t.st j:=by
 unfold PS.st dropT
 simp only
 rw [putW_get _ hk _ hj,putW_get _ hk _ hj]
 by_cases e:j=k
 ·rw [if_pos e,if_pos e,if_pos e]; rfl
 ·rw [if_neg e,if_neg e,if_neg e]
theorem st_give {t:PS} {k:Nat} (hk:k<64) (hs:t.st k=2) {j:Nat} (hj:j<64):(giveT t k).st j=if j=k then 0 else t.st j:=by
 have hl:t.lw.getLsbD k=false:=by
  cases e:t.lw.getLsbD k with
  | false=>rfl
  | true=>unfold PS.st at hs; rw [e,if_pos rfl] at hs; exact absurd hs (by decide)
 unfold PS.st giveT
 simp only
 rw [putW_get _ hk _ hj]
 by_cases e:j=k
 ·subst e; rw [if_pos rfl,hl]; simp
 ·rw [if_neg e,if_neg e]
end Go.Tum.Base
end
section
namespace Go.Proofs.YtgfjgfapigekiaaGreat
open Go Go.Tum Go.Tum.Base
set_option maxRecDepth 4000
theorem dSize_tr (c:Int):Tr Tryz.prog 89 [.int .i64 c] [] (fun v K=>v=.int .i64 (sizeC c)∧K=[]):=by
 refine Tr.of row_tumbrelref05_Size_ok rfl ?_
 repeat' (first|refine qN ?_|refine dN ?_|refine qB ?_|refine rT ?_|refine qL ?_|refine iF (fun h=>?_) (fun h=>?_)|refine qS ?_|fail)
 all_goals
  refine ⟨congrArg (Value.int _) ?_,rfl⟩
  unfold sizeC; (repeat' split) <;> omega
theorem dSlots_tr {c:Int} {z n:Nat} (hc:Cls c z n):Tr Tryz.prog 134 [.int .i64 c] [] (fun v K=>v=.int .i64 n∧K=[]):=by
 have hZ:=dSize_tr c
 rw [hc.size] at hZ
 have hb:=hc.bd
 have hzn:∀ k:Nat,k≤16→((((k+1)*z:Nat):Int)≤256↔k<n):=fun k hk=>by
  rcases hc.is with ⟨_,rfl,rfl⟩ | ⟨_,rfl,rfl⟩ | ⟨_,rfl,rfl⟩ | ⟨_,rfl,rfl⟩ <;> omega
 have hz2:∀ k:Nat,k≤16→(k+1)*z≤2176:=fun k hk=>by
  rcases hc.is with ⟨_,rfl,rfl⟩ | ⟨_,rfl,rfl⟩ | ⟨_,rfl,rfl⟩ | ⟨_,rfl,rfl⟩ <;> omega
 refine Tr.of row_tumbrelref05_Slots_ok rfl ?_
 repeat' (first|refine qN ?_|refine dN ?_|refine qB ?_|refine qS ?_|fail)
 refine LWp.pick [0,3] [] rfl rfl rfl (L_loop (fun q l L=>∃ k:Nat,q=n-k∧k≤n∧l=[(0,.int .i64 c),(3,.int .i64 k)]∧L=[]) n ⟨0,rfl,by omega,rfl,rfl⟩ ?_)
 rintro q _ _ ⟨k,rfl,hk,rfl,rfl⟩
 have h1:=hzn k (by omega)
 have h2:=hz2 k (by omega)
 by_cases hk2:k<n
 ·repeat' (first|refine qN ?_|refine dN ?_|refine d0 ?_|refine qB ?_|refine rT ?_|refine qU ?_|refine qL ?_|refine qF ?_|refine iF (fun h=>?_) (fun h=>?_)|refine cP [] (hZ) ?_|refine S_Q [] rfl rfl (QY.mul (c:=(((k+1)*z:Nat):Int)) rfl rfl (by rw [Int.natCast_mul]; rfl) (by omega) (by omega)) ?_|refine aA ?_|refine sP 7 (fun h=>?_) (fun h=>?_)|refine qR ?_|refine qS ?_|fail)
  all_goals first | (exfalso; omega)|exact Nx.pick [0,3] [] rfl rfl rfl ⟨n-(k+1),by omega,k+1,rfl,by omega,rfl,rfl⟩
 ·obtain rfl:k=n:=by omega
  repeat' (first|refine qN ?_|refine dN ?_|refine d0 ?_|refine qB ?_|refine rT ?_|refine qU ?_|refine qL ?_|refine qF ?_|refine iF (fun h=>?_) (fun h=>?_)|refine cP [] (hZ) ?_|refine S_Q [] rfl rfl (QY.mul (c:=(((k+1)*z:Nat):Int)) rfl rfl (by rw [Int.natCast_mul]; rfl) (by omega) (by omega)) ?_|refine aA ?_|refine sP 7 (fun h=>?_) (fun h=>?_)|refine qR ?_|refine qS ?_|exact ⟨rfl,rfl⟩|fail)
  all_goals (exfalso; omega)
theorem dPut_tr (key:BitVec 64) (a:Nat) (nx:Int) (h : -1≤nx∧nx<65536):Tr Tryz.prog 161 [.int .u64 (key.toNat:Int),.int .i64 a,.int .i64 nx] [] (fun v K=>v=.int .u64 ((putL key a nx).toNat:Int)∧K=[]):=by
 have hM:=rMix_tr (key+BitVec.ofInt 64 a)
 unfold putL
 rw [← orAdd h]
 refine Tr.of row_tumbrelref06_Put_ok rfl ?_
 repeat' (first|refine qN ?_|refine dN ?_|refine rT ?_|refine qT ?_|refine qL ?_|refine iF (fun h=>?_) (fun h=>?_)|refine cP [] (hM) ?_|refine S_Q [] rfl rfl (QY.cvIW rfl) ?_|refine S_Q [] rfl rfl (QY.addW (a:=6510516211317473280#64) rfl rfl) ?_|refine S_Q [] rfl rfl (QY.addW rfl rfl) ?_|refine S_Q [] rfl rfl (QY.xorW rfl rfl) ?_|refine aA ?_|refine sP 10 (fun h=>?_) (fun h=>?_)|refine sP 14 (fun h=>?_) (fun h=>?_)|refine qS ?_|exact ⟨rfl,rfl⟩|fail)
 all_goals (exfalso; omega)
def DSX (key:BitVec 64) (N:Nat) (bs:Bytes) (xs:List Int) (n z:Nat) (t:PS):LH:=[BL bs,.cells 0 [slB 0 N,.int .u64 (key.toNat:Int),.int .i64 t.pg,.int .i64 t.c,slB 2 n,.int .i64 (numS z t.f)],.gro 1 (rowsC intC xs)]
def DSL (key:BitVec 64) (N:Nat) (bs:Bytes) (n z:Nat) (t:PS):LH:=DSX key N bs (stL t n) n z t
theorem dBaseX (key:BitVec 64) (N:Nat) (bs:Bytes) (xs:List Int) (m:Nat) {z n:Nat} (t:PS) (h:t.Ok N z n) (k:Nat) (hk:k<n):Tr Tryz.prog 141 [ptr 1,.int .i64 k] (DSX key N bs xs m z t) (fun v K=>v=.int .i64 (baseN t.pg z k)∧K=DSX key N bs xs m z t):=by
 have hZ:=dSize_tr t.c
 rw [h.cls.size] at hZ
 obtain ⟨h1,h2,h3,h4,h5,_⟩:=h.cls.base hk t.pg
 have hp:=h.pg
 have hN:=h.N
 refine Tr.of row_tumbrelref07_Slab_base_ok rfl ?_
 repeat' (first|refine qN ?_|refine dN ?_|refine rT ?_|refine cP [] (hZ) ?_|refine S_Q [] rfl rfl (QY.mul (c:=((256*t.pg:Nat):Int)) rfl rfl (by omega) (by omega) (by omega)) ?_|refine S_Q [] rfl rfl (QY.mul (c:=((z*k:Nat):Int)) rfl rfl (by rw [Int.natCast_mul]) (by omega) (by omega)) ?_|refine S_Q [] rfl rfl (QY.add (c:=((baseN t.pg z k:Nat):Int)) rfl rfl (by omega) (by omega) (by omega)) ?_|exact ⟨rfl,rfl⟩|fail)
theorem dSputX (key:BitVec 64) (N:Nat) (bs:Bytes) (xs:List Int) (m':Nat) (hl:bs.length=N) (hN:N≤65536) {z:Nat} (t:PS) (i:Nat) (ys:Bytes) (m:Nat) (hm:ys.length=m) (hi:i+m≤N):TrK Tryz.prog [] [1,2,3] 140 [ptr 1,.int .i64 i,slB 3 m] (DSX key N bs xs m' z t++[BL ys]) (fun v K=>v=.tuple ⟨[]⟩∧K=DSX key N (overB bs i ys) xs m' z t++[BL ys]):=by
 refine Tr.of row_tumbrelref07_Slab_put_ok rfl ?_
 repeat' (first|refine qN ?_|fail)
 refine S_wk [] rfl (wk_gro0 (b:=4) 1 rfl) ?_
 first|refine L_rs ?_|refine L_reg ?_ | skip
 refine eE rfl rfl (EW.appRR (bytes:=1) (xs:=[]) (ys:=bs) byteC_ok rfl (by kernel_rfl) rfl rfl rfl rfl rfl hl (by decide) (by omega)) ?_
 conv=>whnf
 rw [Nat.zero_add]
 repeat' (first|refine qN ?_|refine dN ?_|fail)
 first|refine L_rs ?_|refine L_reg ?_ | skip
 refine S_Q [] rfl rfl (QY.slc0 (b:=5) (lo':=i) (hi':=N) rfl rfl rfl (by omega) (by omega)) ?_
 first|refine L_rs ?_|refine L_reg ?_ | skip
 refine eE rfl rfl (EW.copyg (i:=i) (j:=0) (xs:=bs) (ys:=ys) byteC_ok rfl (by kernel_rfl) rfl rfl rfl rfl (by rw [hl]; omega) (by omega) (by decide)) ?_
 conv=>whnf
 rw [overB_copy _ _ _ hm.symm (by omega)]
 repeat' (first|refine dN ?_|refine d0 ?_|refine qR ?_|fail)
 exact RetQ.end [5,1,2,3] rfl rfl rfl rfl ⟨rfl,rfl⟩
theorem dJoinX (key:BitVec 64) (N:Nat) (bs:Bytes) (xs:List Int) (m:Nat) (hl:bs.length=N) {z n:Nat} (t:PS) (h:t.Ok N z n) (hf:t.f = -1∨∃ j,j<n∧t.f=baseN t.pg z j) (k:Nat) (hk:k<n):TrK Tryz.prog [] [1,2] 135 [ptr 1,.int .i64 k] (DSX key N bs xs m z t) (fun v K=>v=.tuple ⟨[]⟩∧K=DSX key N (joinP key bs z t k) xs m z { t with f:=baseN t.pg z k }):=by
 have hb:=h.cls.bd
 have hN:=h.N
 have hp:=h.pg
 obtain ⟨b1,b2,b3,b4,b5,b6,b7⟩:=h.cls.base hk t.pg
 have hB:=dBaseX key N bs xs m t h
 have hBk:=hB k hk
 have hP:=dPut_tr key (baseN t.pg z k) t.f h.f
 have hPt:=rPut_tr (putL key (baseN t.pg z k) t.f)
 have hpu:=dSputX key N bs xs m hl hN (z:=z) t (baseN t.pg z k) (putB (putL key (baseN t.pg z k) t.f) 8) 8 (putB_length _ _) (by omega)
 have hE:DSX key N (joinP key bs z t k) xs m z { t with f:=baseN t.pg z k }=[BL (joinP key bs z t k),.cells 0 [slB 0 N,.int .u64 (key.toNat:Int),.int .i64 t.pg,.int .i64 t.c,slB 2 m,.int .i64 k],.gro 1 (rowsC intC xs)]:=by
  unfold DSX
  rw [show numS z (baseN t.pg z k:Nat)=k from numS_base h.cls hk]
 rw [hE]
 unfold joinP
 rcases hf with hf | ⟨j,hj,hf⟩
 ·unfold DSX at hBk hpu ⊢
  rw [show numS z t.f = -1 by unfold numS; rw [if_pos hf]] at hBk hpu ⊢
  rw [hf] at hP hPt hpu ⊢
  refine Tr.of row_tumbrelref07_Slab_join_ok rfl ?_
  repeat' (first|refine qN ?_|refine dN ?_|refine d0 ?_|refine qU ?_|refine qL ?_|refine cP [0,1,2] (hBk) ?_|refine cP [] (hP) ?_|(refine cF [] (hPt) ?_; conv=>whnf)|(refine cW [0,1,2,3] (hpu) ?_; conv=>whnf)|refine qR ?_|refine qS ?_|fail)
  exact RetQ.end [0,1,2] rfl rfl rfl rfl ⟨rfl,rfl⟩
 ·have hBj:=hB j hj
  unfold DSX at hBk hBj hpu ⊢
  rw [show numS z t.f=j by rw [hf]; exact numS_base h.cls hj] at hBk hBj hpu ⊢
  rw [hf] at hP hPt hpu ⊢
  refine Tr.of row_tumbrelref07_Slab_join_ok rfl ?_
  repeat' (first|refine qN ?_|refine dN ?_|refine d0 ?_|refine qT ?_|refine cP [0,1,2] (hBj) ?_|refine cP [0,1,2] (hBk) ?_|refine cP [] (hP) ?_|(refine cF [] (hPt) ?_; conv=>whnf)|(refine cW [0,1,2,3] (hpu) ?_; conv=>whnf)|refine qR ?_|refine qS ?_|fail)
  all_goals first | (exfalso; omega)|exact RetQ.end [0,1,2] rfl rfl rfl rfl ⟨rfl,rfl⟩
theorem dBase_ok (key:BitVec 64) (N:Nat) (bs:Bytes) {z n:Nat} (t:PS) (h:t.Ok N z n) (k:Nat) (hk:k<n):Tr Tryz.prog 141 [ptr 1,.int .i64 k] (DSL key N bs n z t) (fun v K=>v=.int .i64 (baseN t.pg z k)∧K=DSL key N bs n z t):=dBaseX key N bs (stL t n) n t h k hk
theorem dSput_tr (key:BitVec 64) (N:Nat) (bs:Bytes) (hl:bs.length=N) (hN:N≤65536) {z n:Nat} (t:PS) (i:Nat) (ys:Bytes) (m:Nat) (hm:ys.length=m) (hi:i+m≤N):TrK Tryz.prog [] [1,2,3] 140 [ptr 1,.int .i64 i,slB 3 m] (DSL key N bs n z t++[BL ys]) (fun v K=>v=.tuple ⟨[]⟩∧K=DSL key N (overB bs i ys) n z t++[BL ys]):=dSputX key N bs (stL t n) n hl hN t i ys m hm hi
theorem dWith_tr (xs:List Int) (n k:Nat) (v:Int) (hl:xs.length=n) (hk:k<n) (hn:n≤16):Tr Tryz.prog 143 [slB 0 n,.int .i64 k,.int .i64 v] [.gro 1 (rowsC intC xs)] (fun u K=>u=slB 1 n∧K=[.gro 1 (rowsC intC xs),.gro 1 (rowsC intC (xs.set k v))]):=by
 refine Tr.of row_tumbrelref07_with_ok rfl ?_
 repeat' (first|refine qN ?_|refine dN ?_|fail)
 refine S_wk [] rfl (wk_gro0 (b:=1) 1 rfl) ?_
 first|refine L_rs ?_|refine L_reg ?_ | skip
 refine eE rfl rfl (EW.appRR (bytes:=8) (xs:=[]) (ys:=xs) intC_ok rfl (by kernel_rfl) rfl rfl rfl rfl rfl hl (by decide) (by omega)) ?_
 conv=>whnf
 rw [Nat.zero_add]
 repeat' (first|refine qN ?_|refine dN ?_|refine aX ?_|fail)
 first|refine L_rs ?_|refine L_reg ?_ | skip
 refine eE rfl rfl (EW.stI (k:=k) rfl rfl rfl (by rw [List.nil_append]; omega)) ?_
 conv=>whnf
 repeat' (first|refine qN ?_|refine dN ?_|fail)
 exact L_ret (RetQ.pick [0,2] rfl rfl rfl rfl ⟨rfl,rfl⟩)
theorem dMust_tr (key:BitVec 64) (N:Nat) (bs:Bytes) {z n:Nat} (t:PS) (k:Nat) (hk:k<n) (s:Int):Tr Tryz.prog 147 [ptr 1,.int .i64 k,.int .i64 s] (DSL key N bs n z t) (fun v K=>v=.int .i64 (if t.st k=s then 0 else 8)∧K=DSL key N bs n z t):=by
 have hg:=stL_get t hk
 have hb:=st_bd t k
 generalize t.st k=u at *
 by_cases h2:u=s
 ·rw [if_pos h2]
  refine Tr.of row_tumbrelref07_Slab_must_ok rfl ?_
  repeat' (first|refine qN ?_|refine dN ?_|refine rT ?_|refine qL ?_|refine iF (fun h=>?_) (fun h=>?_)|refine aX ?_|refine S_Q [] rfl rfl (QY.ldI rfl rfl hg) ?_|refine qS ?_|exact ⟨rfl,rfl⟩|fail)
  all_goals (exfalso; omega)
 ·rw [if_neg h2]
  refine Tr.of row_tumbrelref07_Slab_must_ok rfl ?_
  repeat' (first|refine qN ?_|refine dN ?_|refine rT ?_|refine qL ?_|refine iF (fun h=>?_) (fun h=>?_)|refine aX ?_|refine S_Q [] rfl rfl (QY.ldI rfl rfl hg) ?_|refine qS ?_|exact ⟨rfl,rfl⟩|fail)
  all_goals (exfalso; omega)
end Go.Proofs.YtgfjgfapigekiaaGreat
end
section
namespace Go.Proofs.YtgfjgfapigekiaaGreat
open Go Go.Tum Go.Tum.Base
set_option maxRecDepth 4000
theorem dGet (N:Nat) (bs:Bytes) (hl:bs.length=N) (hN:N≤65536) (i j:Nat) (hj:j=i+8) (h:j≤N):Tr Tryz.prog 166 [.slice (some ⟨0,i*1,none⟩) (j-i) (N-i)] [BL bs] (fun v K=>v=.int .u64 ((wordB bs i).toNat:Int)∧K=[BL bs]):=by
 rw [show j-i=8 by omega]; exact rGet_tr bs i (N-i) (by omega) (by omega)
theorem dStands_tr (key:BitVec 64) (N:Nat) (bs:Bytes) (hl:bs.length=N) {z n:Nat} (t:PS) (h:t.Ok N z n) (k:Nat) (hk:k<n):Tr Tryz.prog 148 [ptr 1,.int .i64 k] (DSL key N bs n z t) (fun v K=>v=.bool (standsK key bs t.pg z k)∧K=DSL key N bs n z t):=by
 obtain ⟨b1,b2,b3,b4,b5,b6,b7⟩:=h.cls.base hk t.pg
 have hb:=h.cls.bd
 have hp:=h.pg
 have hN:=h.N
 have hB:=dBase_ok key N bs t h k hk
 have hZ:=dSize_tr t.c
 rw [h.cls.size] at hZ
 have hM:=rMix_tr (key ^^^ BitVec.ofInt 64 (baseN t.pg z k:Nat))
 change Tr Tryz.prog _ _ _ (fun v K=>v=.int .u64 ((canW key (baseN t.pg z k:Nat)).toNat:Int)∧K=[]) at hM
 have hG:=dGet N bs hl hN (baseN t.pg z k+z-8) (baseN t.pg z k+z) (by omega) (by omega)
 unfold standsK
 generalize baseN t.pg z k=a at *
 unfold DSL DSX at hB ⊢
 refine Tr.of row_tumbrelref07_Slab_stands_ok rfl ?_
 repeat' (first|refine qN ?_|refine dN ?_|refine rT ?_|refine cP [0,1,2] (hB) ?_|refine cP [] (hZ) ?_|refine S_Q [] rfl rfl (QY.add (c:=((a+z:Nat):Int)) rfl rfl (by omega) (by omega) (by omega)) ?_|refine S_Q [] rfl rfl (QY.sub (c:=((a+z-8:Nat):Int)) rfl rfl (by omega) (by omega) (by omega)) ?_|refine S_Q [] rfl rfl (QY.slc0 (b:=0) (lo':=a+z-8) (hi':=a+z) rfl rfl rfl (by omega) (by omega)) ?_|refine S_Q [] rfl rfl (QY.cvIW rfl) ?_|refine S_Q [] rfl rfl (QY.xorW rfl rfl) ?_|refine cP [0] (hG) ?_|refine cP [] (hM) ?_|fail)
 refine ⟨congrArg Value.bool ?_,rfl⟩
 rw [Bool.eq_iff_iff,beq_iff_eq,decide_eq_true_eq]
 exact ⟨fun h=>BitVec.eq_of_toNat_eq (by omega),fun h=>by rw [h]⟩
set_option maxHeartbeats 2000000 in
theorem dLink_tr (key:BitVec 64) (N:Nat) (bs:Bytes) (hl:bs.length=N) {z n:Nat} (t:PS) (h:t.Ok N z n) (k:Nat) (hk:k<n):Tr Tryz.prog 139 [ptr 1,.int .i64 k] (DSL key N bs n z t) (fun v K=>v=.int .i64 (lnkF key bs z n t k)∧K=DSL key N bs n z t):=by
 have hb:=h.cls.bd
 have hp:=h.pg
 have hN:=h.N
 have hBA:=dBase_ok key N bs t h
 have hB:=hBA k hk
 obtain ⟨b1,b2,b3,b4,b5,b6,b7⟩:=h.cls.base hk t.pg
 have hG:=dGet N bs hl hN (baseN t.pg z k) (baseN t.pg z k+8) rfl (by omega)
 have hP1:=dPut_tr key (baseN t.pg z k) (-1) (by decide)
 have hPA:=fun (i:Nat) (hi:i<n)=>dPut_tr key (baseN t.pg z k) (baseN t.pg z i:Nat) (by have:=h.cls.base hi t.pg; omega)
 have hend:=fol_end (key:=key) (bs:=bs) (z:=z) (n:=n) (t:=t) (k:=k)
 have hhit:=fun (i:Nat) (hi:i<n)=>fol_hit (key:=key) (bs:=bs) (t:=t) h.cls (by omega) hk hi
 have hsome:=fun nx=>fol_some (key:=key) (bs:=bs) (z:=z) (n:=n) (t:=t) (k:=k) (nx:=nx)
 have hcls:=h.cls
 by_cases he:wordB bs (baseN t.pg z k)=putL key (baseN t.pg z k) (-1)
 ·rw [show lnkF key bs z n t k = -1 by unfold lnkF; rw [hend.1 he]; rfl]
  rw [he] at hG
  refine Tr.of row_tumbrelref07_Slab_link_ok rfl ?_
  repeat' (first|refine qN ?_|refine dN ?_|refine qB ?_|refine rT ?_|refine qL ?_|refine iF (fun h=>?_) (fun h=>?_)|refine cP [0,1,2] (hB) ?_|refine S_Q [] rfl rfl (QY.slc0 (b:=0) (lo':=baseN t.pg z k) (hi':=baseN t.pg z k+8) rfl rfl rfl (by omega) (by omega)) ?_|refine cP [0] (hG) ?_|refine cP [] (hP1) ?_|refine aA ?_|refine qS ?_|exact ⟨rfl,rfl⟩|fail)
  all_goals (exfalso; omega)
 ·have hne:(wordB bs (baseN t.pg z k)).toNat≠(putL key (baseN t.pg z k) (-1)).toNat:=fun e=>he (BitVec.eq_of_toNat_eq e)
  refine Tr.of row_tumbrelref07_Slab_link_ok rfl ?_
  repeat' (first|refine qN ?_|refine dN ?_|refine qB ?_|refine rT ?_|refine qL ?_|refine iF (fun h=>?_) (fun h=>?_)|refine cP [0,1,2] (hB) ?_|refine S_Q [] rfl rfl (QY.slc0 (b:=0) (lo':=baseN t.pg z k) (hi':=baseN t.pg z k+8) rfl rfl rfl (by omega) (by omega)) ?_|refine cP [0] (hG) ?_|refine cP [] (hP1) ?_|refine aA ?_|refine qS ?_|fail)
  all_goals try (exfalso; omega)
  refine LWp.pick [0,1,5,34,35,36] [0,1,2] rfl rfl rfl (L_loop (fun q l K=>∃ i:Nat,q=n-i∧i≤n∧(∀ j,j<i→folP key bs z n t k≠(((baseN t.pg z j:Nat):Int),true))∧l=[(0,ptr 1),(1,.int .i64 k),(5,.int .u64 ((wordB bs (baseN t.pg z k)).toNat:Int)),(34,slB 2 n),(35,.int .i64 n),(36,.int .i64 i)]∧K=DSL key N bs n z t) n ⟨0,rfl,by omega,by intro j hj; omega,rfl,rfl⟩ ?_)
  rintro q _ _ ⟨i,rfl,hi,hno,rfl,rfl⟩
  first|refine L_seq (L_rs (S_done [] rfl (Nx.goL (iF (fun h=>L_skip (Nx.goL ?_)) (fun h=>L_exit ?_)))))|refine L_rs (S_done [] rfl (Nx.goL (L_seq (iF (fun h=>L_skip (Nx.goL ?_)) (fun h=>L_exit ?_)))))
  ·have hi2:i<n:=by omega
   have hBi:=hBA i hi2
   have hPi:=hPA i hi2
   have hg:=stL_get t hi2
   have hsb:=st_bd t i
   have hht:=hhit i hi2
   by_cases hh:t.st i=0∧i≠k∧wordB bs (baseN t.pg z k)=putL key (baseN t.pg z k) (baseN t.pg z i:Nat)
   ·rw [show lnkF key bs z n t k=i by unfold lnkF; rw [hht.1 hh]; exact numS_base hcls hi2]
    obtain ⟨q1,q2,q3⟩:=hh
    have q4:(wordB bs (baseN t.pg z k)).toNat=(putL key (baseN t.pg z k) (baseN t.pg z i:Nat)).toNat:=congrArg BitVec.toNat q3
    generalize t.st i=u at *
    repeat' (first|refine qN ?_|refine dN ?_|refine d0 ?_|refine qB ?_|refine rT ?_|refine qU ?_|refine qL ?_|refine iF (fun h=>?_) (fun h=>?_)|refine aX ?_|refine S_Q [] rfl rfl (QY.ldI rfl rfl hg) ?_|refine cP [0,1,2] (hB) ?_|refine cP [0,1,2] (hBi) ?_|refine cP [] (hPi) ?_|refine aA ?_|refine sP 43 (fun h=>?_) (fun h=>?_)|refine sP 48 (fun h=>?_) (fun h=>?_)|refine qR ?_|refine qS ?_|exact ⟨rfl,rfl⟩|fail)
    all_goals (exfalso; omega)
   ·have hn':folP key bs z n t k≠(((baseN t.pg z i:Nat):Int),true):=fun e=>hh (hht.2 e)
    have q4:t.st i=0→i≠k→(wordB bs (baseN t.pg z k)).toNat≠(putL key (baseN t.pg z k) (baseN t.pg z i:Nat)).toNat:=fun e1 e2 e3=>hh ⟨e1,e2,BitVec.eq_of_toNat_eq e3⟩
    generalize t.st i=u at *
    repeat' (first|refine qN ?_|refine dN ?_|refine d0 ?_|refine qB ?_|refine rT ?_|refine qU ?_|refine qL ?_|refine iF (fun h=>?_) (fun h=>?_)|refine aX ?_|refine S_Q [] rfl rfl (QY.ldI rfl rfl hg) ?_|refine cP [0,1,2] (hB) ?_|refine cP [0,1,2] (hBi) ?_|refine cP [] (hPi) ?_|refine aA ?_|refine sP 43 (fun h=>?_) (fun h=>?_)|refine sP 48 (fun h=>?_) (fun h=>?_)|refine qR ?_|refine qS ?_|fail)
    all_goals first | (exfalso; omega)|exact Nx.pick [0,1,5,34,35,36] [0,1,2] rfl rfl rfl ⟨n-(i+1),by omega,i+1,rfl,by omega,(fun j hj=>by
     by_cases e:j=i
     ·subst e; exact hn'
     ·exact hno j (by omega)),rfl,rfl⟩
  ·refine Nx.goL ?_
   obtain rfl:i=n:=by omega
   have hf:(folP key bs z i t k).2=false:=by
    cases e:folP key bs z i t k with
    | mk nx b =>
     cases b with
     | false=>rfl
     | true =>
      exfalso
      by_cases e1:nx = -1
      ·subst e1; exact he (hend.2 e)
      ·obtain ⟨j,h1,h2,_⟩:=hsome nx e e1
       exact hno j h1 (by rw [e,h2])
   rw [show lnkF key bs z i t k = -2 by unfold lnkF; rw [hf]; rfl]
   repeat' (first|refine qN ?_|refine dN ?_|refine rT ?_|exact ⟨rfl,rfl⟩|fail)
end Go.Proofs.YtgfjgfapigekiaaGreat
end
section
namespace Go.Proofs.YtgfjgfapigekiaaGreat
open Go Go.Tum Go.Tum.Base
set_option maxRecDepth 4000
theorem dTake_full (key:BitVec 64) (N:Nat) (bs:Bytes) {z n:Nat} (t:PS) (hf:t.f = -1):TrK Tryz.prog [] [1] 97 [ptr 1] (DSL key N bs n z t) (fun v K=>v=.tuple ⟨[.int .i64 0,.int .i64 5]⟩∧K=DSL key N bs n z t):=by
 unfold DSL DSX
 rw [show numS z t.f = -1 by unfold numS; rw [if_pos hf]]
 refine Tr.of row_tumbrelref07_Slab_Take_ok rfl ?_
 repeat' (first|refine qN ?_|refine dN ?_|refine rT ?_|refine qT ?_|refine qS ?_|exact ⟨rfl,rfl⟩|fail)
theorem dTake_form (key:BitVec 64) (N:Nat) (bs:Bytes) (hl:bs.length=N) {z n:Nat} (t:PS) (h:t.Ok N z n) (k:Nat) (hk:k<n) (hf:t.f=baseN t.pg z k) (hx:(folP key bs z n t k).2=false):TrK Tryz.prog [] [1] 97 [ptr 1] (DSL key N bs n z t) (fun v K=>v=.tuple ⟨[.int .i64 0,.int .i64 4]⟩∧K=DSL key N bs n z t):=by
 have hL:=dLink_tr key N bs hl t h k hk
 rw [show lnkF key bs z n t k = -2 by unfold lnkF; rw [hx]; rfl] at hL
 unfold DSL DSX at hL ⊢
 rw [show numS z t.f=k by rw [hf]; exact numS_base h.cls hk] at hL ⊢
 refine Tr.of row_tumbrelref07_Slab_Take_ok rfl ?_
 repeat' (first|refine qN ?_|refine dN ?_|refine rT ?_|refine qT ?_|refine qU ?_|refine qL ?_|refine cP [0,1,2] (hL) ?_|refine qS ?_|exact ⟨rfl,rfl⟩|fail)
 all_goals (exfalso; omega)
set_option maxHeartbeats 2000000 in
theorem dTake_ok (key:BitVec 64) (N:Nat) (bs:Bytes) (hl:bs.length=N) {z n:Nat} (t:PS) (h:t.Ok N z n) (k:Nat) (hk:k<n) (hf:t.f=baseN t.pg z k) (nx:Int) (hx:folP key bs z n t k=(nx,true)):TrK Tryz.prog [] [1] 97 [ptr 1] (DSL key N bs n z t) (fun v K=>v=.tuple ⟨[.int .i64 k,.int .i64 0]⟩∧K=DSL key N (tookB key bs t.pg z k) n z (tookT t k nx)):=by
 obtain ⟨b1,b2,b3,b4,b5,b6,b7⟩:=h.cls.base hk t.pg
 have hbd:=h.cls.bd
 have hp:=h.pg
 have hN:=h.N
 have hnf : -1≤numS z nx∧numS z nx≤256:=by
  by_cases e:nx = -1
  ·unfold numS; rw [if_pos e]; omega
  ·obtain ⟨i,h1,h2,_⟩:=fol_some hx e
   rw [h2,numS_base h.cls h1]; omega
 have hL:=dLink_tr key N bs hl t h k hk
 rw [show lnkF key bs z n t k=numS z nx by unfold lnkF; rw [hx]; rfl] at hL
 have hZ:=dSize_tr t.c
 rw [h.cls.size] at hZ
 have hl1:(overB bs (baseN t.pg z k) (List.replicate (z-8) 0)).length=N:=by rw [overB_length (by rw [List.length_replicate]; omega),hl]
 have hB:=dBase_ok key N bs t h k hk
 have hB2:=dBase_ok key N (overB bs (baseN t.pg z k) (List.replicate (z-8) 0)) t h k hk
 have hM:=rMix_tr (key ^^^ BitVec.ofInt 64 (baseN t.pg z k:Nat))
 change Tr Tryz.prog _ _ _ (fun v K=>v=.int .u64 ((canW key (baseN t.pg z k:Nat)).toNat:Int)∧K=[]) at hM
 have hPt:=rPut_tr (canW key (baseN t.pg z k:Nat))
 have hp1:=dSput_tr key N bs hl hN (z:=z) (n:=n) t (baseN t.pg z k) (List.replicate (z-8) 0) (z-8) List.length_replicate (by omega)
 have hp2:=dSput_tr key N (overB bs (baseN t.pg z k) (List.replicate (z-8) 0)) hl1 hN (z:=z) (n:=n) t (baseN t.pg z k+z-8) (putB (canW key (baseN t.pg z k:Nat)) 8) 8 (putB_length _ _) (by omega)
 have hW:=dWith_tr (stL t n) n k 1 (stL_len t n) hk (by omega)
 rw [stL_set (t':=tookT t k nx) (fun j hj=>st_took (by omega) (by omega))] at hW
 unfold tookB
 have hE:DSL key N (overB (overB bs (baseN t.pg z k) (List.replicate (z-8) 0)) (baseN t.pg z k+z-8) (putB (canW key (baseN t.pg z k:Nat)) 8)) n z (tookT t k nx)=[BL (overB (overB bs (baseN t.pg z k) (List.replicate (z-8) 0)) (baseN t.pg z k+z-8) (putB (canW key (baseN t.pg z k:Nat)) 8)),.cells 0 [slB 0 N,.int .u64 (key.toNat:Int),.int .i64 t.pg,.int .i64 t.c,slB 2 n,.int .i64 (numS z nx)],.gro 1 (rowsC intC (stL (tookT t k nx) n))]:=rfl
 rw [hE]
 unfold DSL DSX at hL hB hB2 hp1 hp2 ⊢
 rw [show numS z t.f=k by rw [hf]; exact numS_base h.cls hk] at hL hB hB2 hp1 hp2 ⊢
 generalize baseN t.pg z k=a at *
 refine Tr.of row_tumbrelref07_Slab_Take_ok rfl ?_
 have hrep:BL (List.replicate (z-8) 0)=.gro 1 (repC (z-8) (byteC 0)):=by unfold BL; rw [repC_rows]
 rw [hrep] at hp1
 repeat' (first|refine qN ?_|refine dN ?_|refine qU ?_|refine qL ?_|refine iF (fun h=>?_) (fun h=>?_)|refine cP [0,1,2] (hL) ?_|refine cP [] (hZ) ?_|refine S_Q [] rfl rfl (QY.sub (c:=((z-8:Nat):Int)) rfl rfl (by omega) (by omega) (by omega)) ?_|refine cP [0,1,2] (hB) ?_|(refine S_E [] rfl rfl (EW.mk (sz:=1) (bytes:=1) (k:=z-8) (zs:=byteC 0) rfl (by kernel_rfl) rfl rfl (by omega) (by omega)) ?_; rintro _ _ ⟨rfl,rfl⟩; refine ⟨(by repeat' (first|exact trivial|fail)),LSt.nf ?_⟩; conv=>whnf)|refine L_rT ?_|refine P_lin rfl ?_|refine P_A [] rfl ?_ ?_|refine qS ?_|fail)
 ·exfalso; omega
 all_goals
  first|refine L_rs ?_|refine L_reg ?_ | skip
  refine cW [0,1,2,3] (hp1) ?_
  conv=>whnf
  repeat' (first|refine qN ?_|refine dN ?_|refine cP [0,1,2] (hB2) ?_|refine S_Q [] rfl rfl (QY.add (c:=((a+z-8:Nat):Int)) rfl rfl (by omega) (by omega) (by omega)) ?_|refine S_Q [] rfl rfl (QY.cvIW rfl) ?_|refine S_Q [] rfl rfl (QY.xorW rfl rfl) ?_|refine cP [] (hM) ?_|(refine cF [] (hPt) ?_; conv=>whnf)|(refine cW [0,1,2,4] (hp2) ?_; conv=>whnf)|(refine cF [2] (hW) ?_; conv=>whnf)|fail)
  exact L_ret (RetQ.pick [0,1,5] rfl rfl rfl rfl ⟨rfl,rfl⟩)
theorem dDrop_no (key:BitVec 64) (N:Nat) (bs:Bytes) {z n:Nat} (t:PS) (k:Nat) (hk:k<n) (hs:t.st k≠1):TrK Tryz.prog [] [1] 100 [ptr 1,.int .i64 k] (DSL key N bs n z t) (fun v K=>v=.tuple ⟨[.bool false,.int .i64 8]⟩∧K=DSL key N bs n z t):=by
 have hM:=dMust_tr key N bs (z:=z) t k hk 1
 rw [if_neg hs] at hM
 refine Tr.of row_tumbrelref07_Slab_Drop_ok rfl ?_
 repeat' (first|refine qN ?_|refine dN ?_|refine rT ?_|refine qT ?_|refine cP [0,1,2] (hM) ?_|refine qS ?_|exact ⟨rfl,rfl⟩|fail)
set_option maxHeartbeats 2000000 in
theorem dDrop_ok (key:BitVec 64) (N:Nat) (bs:Bytes) (hl:bs.length=N) {z n:Nat} (t:PS) (h:t.Ok N z n) (k:Nat) (hk:k<n) (hs:t.st k=1):TrK Tryz.prog [] [1] 100 [ptr 1,.int .i64 k] (DSL key N bs n z t) (fun v K=>v=.tuple ⟨[.bool (standsK key bs t.pg z k),.int .i64 0]⟩∧K=DSL key N (dropB bs t.pg z k) n z (dropT t k)):=by
 obtain ⟨b1,b2,b3,b4,b5,b6,b7⟩:=h.cls.base hk t.pg
 have hbd:=h.cls.bd
 have hp:=h.pg
 have hN:=h.N
 have hM:=dMust_tr key N bs (z:=z) t k hk 1
 rw [if_pos hs] at hM
 have hSt:=dStands_tr key N bs hl t h k hk
 have hZ:=dSize_tr t.c
 rw [h.cls.size] at hZ
 have hB:=dBase_ok key N bs t h k hk
 have hp1:=dSput_tr key N bs hl hN (z:=z) (n:=n) t (baseN t.pg z k) (List.replicate z 0xDD#8) z List.length_replicate (by omega)
 have hW:=dWith_tr (stL t n) n k 2 (stL_len t n) hk (by omega)
 rw [stL_set (t':=dropT t k) (fun j hj=>st_drop (by omega) (by omega))] at hW
 unfold dropB
 generalize baseN t.pg z k=a at *
 refine Tr.of row_tumbrelref07_Slab_Drop_ok rfl ?_
 repeat' (first|refine qN ?_|refine dN ?_|refine qB ?_|refine qU ?_|refine qL ?_|refine cP [0,1,2] (hM) ?_|refine cP [0,1,2] (hSt) ?_|refine qS ?_|fail)
 refine LWp.nilE 8 1 rfl (LWp.pick [0,1,7,8,9] [0,1,2,3] rfl rfl rfl (L_loop (fun q l K=>∃ j:Nat,q=z-j∧j≤z∧l=[(0,ptr 1),(1,.int .i64 k),(7,.bool (standsK key bs t.pg z k)),(8,.slice (some ⟨3,0,none⟩) j j),(9,.int .i64 j)]∧K=DSL key N bs n z t++[BL (List.replicate j 0xDD#8)]) z ⟨0,rfl,by omega,rfl,rfl⟩ ?_))
 rintro q _ _ ⟨j,rfl,hj,rfl,rfl⟩
 repeat' (first|refine qN ?_|refine dN ?_|refine qB ?_|refine qL ?_|refine qF ?_|refine iF (fun h=>?_) (fun h=>?_)|refine cP [] (hZ) ?_|refine qR ?_|refine qS ?_|fail)
 ·have hj2:j<z:=by omega
  first|refine L_rs ?_|refine L_reg ?_ | skip
  refine eE rfl rfl (EW.appR1 (bytes:=1) (a:=0xDD#8) byteC_ok rfl (by kernel_rfl) rfl rfl rfl rfl List.length_replicate (by omega)) ?_
  conv=>whnf
  repeat' (first|refine dN ?_|refine d0 ?_|refine aA ?_|refine qR ?_|fail)
  exact Nx.pick [0,1,7,8,9] [0,1,2,5] rfl rfl rfl ⟨z-(j+1),by omega,j+1,rfl,by omega,rfl,by rw [List.replicate_succ']; rfl⟩
 ·obtain rfl:j=z:=by omega
  repeat' (first|refine qN ?_|refine dN ?_|refine cP [0,1,2] (hB) ?_|(refine cW [0,1,2,3] (hp1) ?_; conv=>whnf)|(refine cF [2] (hW) ?_; conv=>whnf)|fail)
  exact L_ret (RetQ.pick [0,1,4] rfl rfl rfl rfl ⟨rfl,rfl⟩)
theorem dGive_no (key:BitVec 64) (N:Nat) (bs:Bytes) {z n:Nat} (t:PS) (k:Nat) (hk:k<n) (hs:t.st k≠2):TrK Tryz.prog [] [1] 101 [ptr 1,.int .i64 k] (DSL key N bs n z t) (fun v K=>v=.int .i64 8∧K=DSL key N bs n z t):=by
 have hM:=dMust_tr key N bs (z:=z) t k hk 2
 rw [if_neg hs] at hM
 refine Tr.of row_tumbrelref07_Slab_Give_ok rfl ?_
 repeat' (first|refine qN ?_|refine dN ?_|refine rT ?_|refine qT ?_|refine cP [0,1,2] (hM) ?_|refine qS ?_|exact ⟨rfl,rfl⟩|fail)
set_option maxHeartbeats 2000000 in
theorem dGive_ok (key:BitVec 64) (N:Nat) (bs:Bytes) (hl:bs.length=N) {z n:Nat} (t:PS) (h:t.Ok N z n) (hf:t.f = -1∨∃ j,j<n∧t.f=baseN t.pg z j) (k:Nat) (hk:k<n) (hs:t.st k=2):TrK Tryz.prog [] [1] 101 [ptr 1,.int .i64 k] (DSL key N bs n z t) (fun v K=>v=.int .i64 0∧K=DSL key N (joinP key bs z t k) n z (giveT t k)):=by
 have hbd:=h.cls.bd
 have hM:=dMust_tr key N bs (z:=z) t k hk 2
 rw [if_pos hs] at hM
 have hW:=dWith_tr (stL t n) n k 0 (stL_len t n) hk (by omega)
 rw [stL_set (t':=giveT t k) (fun j hj=>st_give (by omega) hs (by omega))] at hW
 have hJ:=dJoinX key N bs (stL (giveT t k) n) n hl t h hf k hk
 have hE:DSL key N (joinP key bs z t k) n z (giveT t k)=DSX key N (joinP key bs z t k) (stL (giveT t k) n) n z { t with f:=baseN t.pg z k }:=by
  unfold DSL DSX giveT
  rw [h.cls.zC]
 rw [hE]
 generalize stL (giveT t k) n=ys at *
 unfold DSL at *
 refine Tr.of row_tumbrelref07_Slab_Give_ok rfl ?_
 repeat' (first|refine qN ?_|refine dN ?_|refine qU ?_|refine qL ?_|refine cP [0,1,2] (hM) ?_|(refine cF [2] (hW) ?_; conv=>whnf)|(refine cW [0,1,3] (hJ) ?_; conv=>whnf)|refine qS ?_|fail)
 exact L_ret (RetQ.pick [0,1,3] rfl rfl rfl rfl ⟨rfl,rfl⟩)
theorem madeP_at (key:BitVec 64) (bs:Bytes) (p z n j:Nat) (hj:j≤n):(madeP key bs p z n j).2 = -1∨∃ i,i<n∧(madeP key bs p z n j).2=baseN p z i:=by
 cases j with
 | zero=>exact .inl rfl
 | succ j=>exact .inr ⟨n-1-j,by omega,rfl⟩
theorem stL_new (key:BitVec 64) (bs:Bytes) (p:Nat) (c ow:Int) (z n j m:Nat):stL (newPS key bs p c ow z n j) m=List.replicate m 0:=by
 apply List.ext_getElem?
 intro i
 by_cases hi:i<m
 ·rw [stL_get _ hi,List.getElem?_replicate,if_pos hi]
  simp [PS.st,newPS]
 ·rw [List.getElem?_eq_none (by rw [stL_len]; omega),List.getElem?_eq_none (by simp; omega)]
set_option maxHeartbeats 2000000 in
theorem dMake_tr (key:BitVec 64) (N:Nat) (bs:Bytes) (hl:bs.length=N) (hN:N≤65536) {z n:Nat} {c:Int} (hc:Cls c z n) (p:Nat) (ow:Int) (hp:256*(p+1)≤N):TrK Tryz.prog [] [] 92 [slB 0 N,.int .u64 (key.toNat:Int),.int .i64 p,.int .i64 c] [BL bs] (fun v K=>v=ptr 1∧K=DSL key N (madeP key bs p z n n).1 n z (newPS key bs p c ow z n n)):=by
 have hb:=hc.bd
 have hS:=dSlots_tr hc
 have hE:DSL key N (madeP key bs p z n n).1 n z (newPS key bs p c ow z n n)=DSX key N (madeP key bs p z n n).1 (List.replicate n 0) n z (newPS key bs p c ow z n n):=by
  unfold DSL; rw [stL_new]
 rw [hE]
 refine Tr.of row_tumbrelref07_Make_ok rfl ?_
 repeat' (first|refine qN ?_|refine dN ?_|refine qB ?_|refine cP [] (hS) ?_|refine aS ?_|refine qS ?_|fail)
 refine LWp.nilC 1 4 1 rfl rfl (LWp.pick [9,10] [0,1,2] rfl rfl rfl (L_loop (fun q l K=>∃ j:Nat,q=n-j∧j≤n∧l=[(9,ptr 1),(10,.int .i64 ((n:Int)-1-j))]∧K=DSX key N (madeP key bs p z n j).1 (List.replicate j 0) j z (newPS key bs p c ow z n j)) n ⟨0,rfl,by omega,by rw [show (n:Int)-1-(0:Nat)=n-1 by omega]; rfl,by subst hl; rfl⟩ ?_))
 rintro q _ _ ⟨j,rfl,hj,rfl,rfl⟩
 by_cases hj2:j<n
 ·have hx:=madeP_f (key:=key) (bs:=bs) hc (show p<256 by omega) j hj
  have hJ:=dJoinX key N (madeP key bs p z n j).1 (List.replicate (j+1) 0) (j+1) (by rw [madeP_len hc (by omega) j hj,hl]) (newPS key bs p c ow z n j) (newPS_ok hc hp hN hj) (madeP_at key bs p z n j hj) (n-1-j) (by omega)
  rw [show ((n-1-j:Nat):Int)=(n:Int)-1-j by omega] at hJ
  repeat' (first|refine qN ?_|refine dN ?_|refine qB ?_|refine qL ?_|refine qF ?_|refine iF (fun h=>?_) (fun h=>?_)|refine qS ?_|fail)
  ·first|refine L_rs ?_|refine L_reg ?_ | skip
   refine eE rfl rfl (EW.appR1 (bytes:=8) (a:=(0:Int)) intC_ok rfl (by kernel_rfl) rfl rfl rfl rfl List.length_replicate (by omega)) ?_
   conv=>whnf
   rw [← List.replicate_succ']
   repeat' (first|refine dN ?_|refine d0 ?_|(refine cW [0,1,4] (hJ) ?_; conv=>whnf)|refine aS ?_|refine qR ?_|fail)
   exact Nx.pick [9,10] [0,1,4] rfl rfl rfl ⟨n-(j+1),by omega,j+1,rfl,by omega,by rw [show (n:Int)-1-((j+1:Nat):Int)=n-1-j-1 by omega]; rfl,rfl⟩
  ·exfalso; omega
 ·obtain rfl:j=n:=by omega
  repeat' (first|refine qN ?_|refine dN ?_|refine qB ?_|refine qL ?_|refine qF ?_|refine iF (fun h=>?_) (fun h=>?_)|refine qS ?_|fail)
  ·exfalso; omega
  ·exact L_ret (RetQ.pick [0,1,2] rfl rfl rfl rfl ⟨rfl,rfl⟩)
end Go.Proofs.YtgfjgfapigekiaaGreat
end
section
namespace Go.Proofs.YtgfjgfapigekiaaGreat
open Go Go.Tum Go.Tum.Base
set_option maxRecDepth 4000
def RPL (r:PR):LH:=[.cells 0 [.int .i64 r.man,.int .i64 r.mgd,.int .u64 (r.seed.toNat:Int),adR r.a 0,ptr 1,.int .u64 (r.key.toNat:Int),.map (some 3),adR r.g0 0],
 .cells 0 [slB 2 (r.man+r.mgd)],.gro 4 (rowsC PRow.cells r.rs),pB r.m0 (peS r.sl) r.mc,crowdS r.a r.key r.sl,box [r.a,r.b] (AN r.N r.bs),crowdG r.a r.key r.g0 r.g1 r.G r.gc]
def TN (n:Nat) (rs:PRows):LH:=[.cells 0 [slB 1 n],.gro 4 (rowsC PRow.cells rs)]
theorem mT_s:Tryz.prog.underlying 103=some (.map 3 108):=Tryz.underlying103
theorem kT_s:Tryz.prog.underlying 3=some (.int .i64):=Tryz.underlying3
theorem zT_s:zeroOf Tryz.prog 108=some (.pointer none):=by kernel_rfl
theorem pgSlab_no (r:PR) {p:Int} (h:sfind r.sl p=none):Tr Tryz.prog 54 [ptr 0,.int .i64 p] (RPL r) (fun v K=>v=.pointer none∧K=RPL r):=by
 refine Tr.of row_region_Region_slab_ok rfl ?_
 repeat' (first|refine qN ?_|refine dN ?_|refine rT ?_|refine qU ?_|refine qL ?_|refine S_Q [] rfl rfl (QY.plook rfl mT_s kT_s zT_s rfl rfl rfl (v:=.pointer none) (by rw [pfind_pe,h]; rfl)) ?_|refine qS ?_|exact ⟨rfl,rfl⟩|fail)
theorem pgSlab_at (r:PR) {p:Int} {x:SE} (h:sfind r.sl p=some x):Tr Tryz.prog 54 [ptr 0,.int .i64 p] (RPL r) (fun v K=>v=adR x.e0 0∧K=RPL r):=by
 refine Tr.of row_region_Region_slab_ok rfl ?_
 repeat' (first|refine qN ?_|refine dN ?_|refine rT ?_|refine qU ?_|refine qL ?_|refine S_Q [] rfl rfl (QY.plook rfl mT_s kT_s zT_s rfl rfl rfl (v:=adR x.e0 0) (by rw [pfind_pe,h]; rfl)) ?_|refine qS ?_|exact ⟨rfl,rfl⟩|fail)
theorem pgPlace_tr (r:PR) (ok:r.Ok) (i:Nat) (x:SE) (hi:r.sl[i]?=some x) (k:Nat) (hk:k<nC x.t.c):Tr Tryz.prog 57 [ptr 0,adR x.e0 0,.int .i64 k] (RPL r) (fun v K=>v=.agg ⟨(placeS x k).cells⟩∧K=RPL r):=by
 have hx:=ok.sok x (List.mem_of_getElem? hi)
 have ht:x.t.Ok r.N _ _:=hx.t ok.n2
 have hp:=hx.pg
 have hn:=ok.n2
 have hb:=hx.cls.bd
 have h1:=slabK r.a r.b r.key r.N r.bs r.sl i x hi plain_int plain0 (sPage_tr r.key r.N r.bs (n:=nC x.t.c) x.t)
 have h2:=slabK r.a r.b r.key r.N r.bs r.sl i x hi plain_int plain0 (sClass_tr r.key r.N r.bs (n:=nC x.t.c) x.t)
 have h3:=slabK r.a r.b r.key r.N r.bs r.sl i x hi plain_int (plain1 plain_int) (sState_tr r.key r.N r.bs x.t ht k)
 rw [stI_at x.t hk] at h3
 have h4:=Base_ok hx.cls x.t.pg k (by omega) hk
 have h5:=Room_tr x.t.c
 rw [hx.cls.size,show max ((zC x.t.c:Int)-8) 0=(zC x.t.c:Int)-8 by omega] at h5
 refine Tr.of row_region_Region_place_ok rfl ?_
 repeat' (first|refine qN ?_|refine dN ?_|refine rT ?_|refine cP [4,5] (h1) ?_|refine cP [4,5] (h2) ?_|refine cP [4,5] (h3) ?_|refine cP [] (h4) ?_|refine cP [] (h5) ?_|exact ⟨rfl,rfl⟩|fail)
theorem tRow (n:Nat) (rs:PRows) (hl:rs.length=n) (a:Int):Tr Tryz.prog 12 [ptr 0,.int .i64 a] (TN n rs) (fun v K=>v=.agg ⟨(pAt rs a).cells⟩∧K=TN n rs):=by
 subst hl; exact pagesRow_tr rs a
theorem tLen (n:Nat) (rs:PRows) (hl:rs.length=n):Tr Tryz.prog 60 [ptr 0] (TN n rs) (fun v K=>v=.int .i64 n∧K=TN n rs):=by
 subst hl; exact pagesLen_tr rs
theorem head_tr (n:Nat) (rs:PRows) (hl:rs.length=n) (hn:n≤256) (g j:Nat) (hj:g+j≤n) (h3:∀ i:Nat,g<i→i≤g+j→(pAt rs i).kind=3) (hk:(pAt rs g).kind≠3) (t:Bool) (hf:firstP (pAt rs g)=t):Tr Tryz.prog 58 [ptr 0,.int .i64 (g+j:Nat)] (TN n rs) (fun v K=>v=.tuple ⟨[.int .i64 (if t then g else 0),.bool t]⟩∧K=TN n rs):=by
 have hR:=tRow n rs hl
 have hF:=first_tr (pAt rs g)
 rw [hf] at hF
 refine Tr.of row_pages_Table_Head_ok rfl ?_
 repeat' (first|refine qN ?_|refine dN ?_|refine qB ?_|refine qS ?_|fail)
 refine LWp.pick [0,1] [0,1] rfl rfl rfl (L_loop (fun q l K=>∃ i:Nat,q=i∧i≤j∧l=[(0,ptr 0),(1,.int .i64 (g+i:Nat))]∧K=TN n rs) j ⟨j,rfl,Nat.le_refl _,rfl,rfl⟩ ?_)
 rintro q _ _ ⟨i,rfl,hi,rfl,rfl⟩
 have hR1:=hR (g+q:Nat)
 by_cases hi0:q=0
 ·subst hi0
  rw [Nat.add_zero] at hR1 ⊢
  generalize pAt rs g=u at *
  cases t
  ·repeat' (first|refine qN ?_|refine dN ?_|refine d0 ?_|refine qB ?_|refine rT ?_|refine qT ?_|refine qL ?_|refine qF ?_|refine iF (fun h=>?_) (fun h=>?_)|refine cP [0,1] (hR1) ?_|refine cP [] (hF) ?_|refine aS ?_|refine qR ?_|refine qS ?_|exact ⟨rfl,rfl⟩|fail)
   all_goals (exfalso; omega)
  ·repeat' (first|refine qN ?_|refine dN ?_|refine d0 ?_|refine qB ?_|refine rT ?_|refine qU ?_|refine qL ?_|refine qF ?_|refine iF (fun h=>?_) (fun h=>?_)|refine cP [0,1] (hR1) ?_|refine cP [] (hF) ?_|refine aS ?_|refine qR ?_|refine qS ?_|exact ⟨rfl,rfl⟩|fail)
   all_goals (exfalso; omega)
 ·have h3':=h3 (g+q) (by omega) (by omega)
  generalize pAt rs (g+q:Nat)=u at *
  repeat' (first|refine qN ?_|refine dN ?_|refine d0 ?_|refine qB ?_|refine qL ?_|refine qF ?_|refine iF (fun h=>?_) (fun h=>?_)|refine cP [0,1] (hR1) ?_|refine aS ?_|refine qR ?_|refine qS ?_|fail)
  all_goals first | (exfalso; omega)|exact Nx.pick [0,1] [0,1] rfl rfl rfl ⟨q-1,by omega,q-1,rfl,by omega,by rw [show ((g+q:Nat):Int)-1=((g+(q-1):Nat):Int) by omega]; rfl,rfl⟩
theorem gLen (r:PR) (ok:r.Ok):Tr Tryz.prog 53 [adR r.a 0] [box [r.a,r.b] (AN r.N r.bs)] (fun v K=>v=.int .i64 r.N∧K=[box [r.a,r.b] (AN r.N r.bs)]) :=
 TrK.boxed (aLen r.N r.bs ok.bl) rfl rfl (fun _ _ h=>L2.head (fun _ h=>VR.in0 (i:=0) rfl h) plain0 h) (fun _ h _=>h)
theorem gSizeL (r:PR) (ok:r.Ok) (p:Int):Tr Tryz.prog 59 [adR r.g0 0,.int .i64 p] [crowdG r.a r.key r.g0 r.g1 r.G r.gc,box [r.a,r.b] (AN r.N r.bs)] (fun v K=>v=.int .i64 (gget r.G p)∧K=[crowdG r.a r.key r.g0 r.g1 r.G r.gc,box [r.a,r.b] (AN r.N r.bs)]) :=
 largeL r.a r.b r.g0 r.g1 r.key r.N r.bs r.bs ok.bl ok.bl r.G r.G r.gc r.gc plain_int (plain1 plain_int) rfl rfl (gSize_tr r.key r.bs r.G r.gc p)
theorem pAt_row {r:PR} (ok:r.Ok) {p:Nat} (hp:p<r.man+r.mgd):pAt r.rs p=rowP r.sl r.G p:=by
 unfold pAt
 rw [if_neg (by omega),Int.toNat_natCast,List.getD_eq_getElem?_getD,ok.row p hp]; rfl
theorem gget_in {G:Great} {c:Nat} (h:GOk G c) {b:Int × Int × Nat} (hb:b∈G):gget G b.1=b.2.1:=by
 simp only [gget,h.find hb]; rfl
def Pl.val (q:Option Pl):Value:=.tuple ⟨[.agg ⟨(q.getD Pl.Z).cells⟩,.bool q.isSome]⟩
set_option maxHeartbeats 1000000 in
theorem pgFind_tr (r:PR) (ok:r.Ok) (a:Int):Tr Tryz.prog 10 [ptr 0,.int .i64 a] (RPL r) (fun v K=>v=Pl.val (r.find a)∧K=RPL r):=by
 have hL:=gLen r ok
 have hn:=ok.n2
 have hN:r.N=256*(r.man+r.mgd):=rfl
 unfold PR.find
 by_cases h0:a<0∨(r.N:Int)≤a
 ·rw [if_pos h0]
  refine Tr.of row_region_Region_Find_ok rfl ?_
  repeat' (first|refine qN ?_|refine dN ?_|refine rT ?_|refine qT ?_|refine qL ?_|refine iF (fun h=>?_) (fun h=>?_)|refine cP [5] (hL) ?_|refine aD ?_|refine sP 19 (fun h=>?_) (fun h=>?_)|refine qS ?_|exact ⟨rfl,rfl⟩|fail)
  all_goals (exfalso; omega)
 rw [if_neg h0]
 obtain ⟨n,rfl⟩:=Int.eq_ofNat_of_zero_le (show 0≤a by omega)
 have hq:((n:Int) / 256)=((n / 256:Nat):Int):=by omega
 rw [hq]
 cases hs:sfind r.sl ((n / 256:Nat):Int) with
 | some x =>
  obtain ⟨i,hi,hm,hpg⟩:=sfind_some hs
  have hx:=ok.sok x hm
  have hb:=hx.cls.bd
  have hS:=pgSlab_at r hs
  have h2:=slabK r.a r.b r.key r.N r.bs r.sl i x hi plain_int plain0 (sClass_tr r.key r.N r.bs (n:=nC x.t.c) x.t)
  have h3:=Slot_tr hx.cls (n:Int)
  have e1:slotI (zC x.t.c) (n:Int)=((n % 256 / zC x.t.c:Nat):Int):=by
   unfold slotI; rw [if_neg (by omega)]; rfl
  rw [e1] at h3
  have hlt:n % 256 / zC x.t.c<nC x.t.c:=by
   rcases hx.cls.is with ⟨_,h4,h5⟩ | ⟨_,h4,h5⟩ | ⟨_,h4,h5⟩ | ⟨_,h4,h5⟩ <;> rw [h4,h5] <;> omega
  have h4:=pgPlace_tr r ok i x hi _ hlt
  generalize pageI (n:Int)=pp at *
  simp only [Int.toNat_natCast]
  refine Tr.of row_region_Region_Find_ok rfl ?_
  repeat' (first|refine qN ?_|refine dN ?_|refine rT ?_|refine qT ?_|refine qL ?_|refine iF (fun h=>?_) (fun h=>?_)|refine cP [5] (hL) ?_|refine S_Q [] rfl rfl (QY.divN (c:=((n / 256:Nat):Int)) rfl rfl (by omega) (by omega) (by omega)) ?_|(refine cF [0,1,2,3,4,5,6] (hS) ?_; conv=>whnf)|refine cP [4,5] (h2) ?_|refine cP [] (h3) ?_|refine cP [0,1,2,3,4,5,6] (h4) ?_|refine qS ?_|exact ⟨rfl,rfl⟩|fail)
  all_goals (exfalso; omega)
 | none =>
  have hS:=pgSlab_no r hs
  have hlt:n / 256<r.man+r.mgd:=by omega
  have hrow:=pAt_row ok hlt
  have hr1:rowP r.sl r.G ((n / 256:Nat):Int)=(match gin r.G ((n / 256:Nat):Int) with
   | some b=>if b.1=((n / 256:Nat):Int) then lrow (pagesC b.2.1) else tailP
   | none=>PRow.Z):=by unfold rowP; rw [hs]; first | done | rfl
  cases hg:gin r.G ((n / 256:Nat):Int) with
  | none =>
   rw [hr1,hg] at hrow
   replace hrow:pAt r.rs ((n / 256:Nat):Int)=PRow.Z:=hrow
   have hH:=head_tr (r.man+r.mgd) r.rs ok.rl hn (n / 256) 0 (by omega) (fun i h1 h2=>by omega) (by rw [hrow]; decide) false (by rw [hrow]; rfl)
   have hG:=gSizeL r ok 0
   rw [Nat.add_zero] at hH
   refine Tr.of row_region_Region_Find_ok rfl ?_
   repeat' (first|refine qN ?_|refine dN ?_|refine rT ?_|refine qU ?_|refine qL ?_|refine iF (fun h=>?_) (fun h=>?_)|refine cP [5] (hL) ?_|refine S_Q [] rfl rfl (QY.divN (c:=((n / 256:Nat):Int)) rfl rfl (by omega) (by omega) (by omega)) ?_|(refine cF [0,1,2,3,4,5,6] (hS) ?_; conv=>whnf)|refine cP [1,2] (hH) ?_|refine cP [6,5] (hG) ?_|refine qS ?_|exact ⟨rfl,rfl⟩|fail)
   all_goals (exfalso; omega)
  | some b =>
   obtain ⟨hm,hb1,hb2⟩:=gin_some hg
   have hb:=ok.gok b hm
   obtain ⟨M,hM,hM1,hM17⟩:=greatC_pages hb.gr
   have hlo:=hb.lo
   have hhi:=hb.hi
   obtain ⟨g,hg0⟩:=Int.eq_ofNat_of_zero_le hlo
   have rowG:∀ j:Nat,j<M→pAt r.rs ((g+j:Nat):Int)=if j=0 then lrow M else tailP:=fun j hj=>by
    rw [pAt_row ok (by omega)]
    unfold rowP
    have e1:sfind r.sl ((g+j:Nat):Int)=none:=by
     cases e:sfind r.sl ((g+j:Nat):Int) with
     | none=>rfl
     | some x =>
      obtain ⟨_,_,hx,hp⟩:=sfind_some e
      have:=ok.sg x hx b hm
      omega
    rw [e1,gin_mem ok.gap hm (by omega)]
    simp only [hM]
    by_cases hj0:j=0
    ·rw [if_pos (by omega),if_pos hj0]
    ·rw [if_neg (by omega),if_neg hj0]
   have hH:=head_tr (r.man+r.mgd) r.rs ok.rl hn g (n / 256-g) (by omega) (fun i h1 h2=>by rw [show i=g+(i-g) by omega,rowG _ (by omega),if_neg (by omega)]; rfl) (by have:=rowG 0 (by omega); rw [Nat.add_zero,if_pos rfl] at this; rw [this]; show (2:Int)≠3; decide) true (by have:=rowG 0 (by omega); rw [Nat.add_zero] at this; rw [this]; rfl)
   rw [show g+(n / 256-g)=n / 256 by omega,if_pos rfl] at hH
   have hG:=gSizeL r ok g
   rw [← hg0,gget_in ok.gg hm] at hG
   rw [← hg0] at hH
   have hsz:120<b.2.1∧b.2.1≤4096:=by
    have:=hb.gr
    unfold greatC at this
    simp at this; omega
   have hv:Pl.val ((some b).map placeG)=.tuple ⟨[.agg ⟨[.int .i64 b.1,.int .i64 0,.int .i64 (256*b.1),.int .i64 b.2.1,.int .i64 1,.bool true]⟩,.bool true]⟩:=rfl
   rw [hv]
   generalize b.1=q1 at *
   generalize b.2.1=q2 at *
   refine Tr.of row_region_Region_Find_ok rfl ?_
   repeat' (first|refine qN ?_|refine dN ?_|refine rT ?_|refine qU ?_|refine qL ?_|refine iF (fun h=>?_) (fun h=>?_)|refine cP [5] (hL) ?_|refine S_Q [] rfl rfl (QY.divN (c:=((n / 256:Nat):Int)) rfl rfl (by omega) (by omega) (by omega)) ?_|(refine cF [0,1,2,3,4,5,6] (hS) ?_; conv=>whnf)|refine cP [1,2] (hH) ?_|refine cP [6,5] (hG) ?_|refine aM ?_|refine qS ?_|exact ⟨rfl,rfl⟩|fail)
   all_goals (exfalso; omega)
end Go.Proofs.YtgfjgfapigekiaaGreat
end
section
namespace Go.Proofs.YtgfjgfapigekiaaGreat
open Go Go.Tum Go.Tum.Base
set_option maxRecDepth 4000
theorem pgBase_no (r:PR) (ok:r.Ok) (a:Int) (h:r.base a=none):Tr Tryz.prog 63 [ptr 0,.int .i64 a] (RPL r) (fun v K=>v=.tuple ⟨[.agg ⟨Pl.Z.cells⟩,.int .i64 6]⟩∧K=RPL r):=by
 have hF:=pgFind_tr r ok a
 unfold PR.base at h
 cases hf:r.find a with
 | none =>
  rw [hf] at hF
  refine Tr.of row_region_Region_base_ok rfl ?_
  repeat' (first|refine qN ?_|refine dN ?_|refine rT ?_|refine qT ?_|refine qU ?_|refine qL ?_|refine cP [0,1,2,3,4,5,6] (hF) ?_|refine qS ?_|exact ⟨rfl,rfl⟩|fail)
 | some p =>
  rw [hf] at hF h
  have hne:p.bs≠a:=fun e=>by simp only at h; rw [if_pos e] at h; cases h
  change Tr Tryz.prog _ _ _ (fun v K=>v=.tuple ⟨[.agg ⟨p.cells⟩,.bool true]⟩∧K=RPL r) at hF
  refine Tr.of row_region_Region_base_ok rfl ?_
  repeat' (first|refine qN ?_|refine dN ?_|refine rT ?_|refine qU ?_|refine qL ?_|refine iF (fun h=>?_) (fun h=>?_)|refine cP [0,1,2,3,4,5,6] (hF) ?_|refine qS ?_|exact ⟨rfl,rfl⟩|fail)
  all_goals (exfalso; omega)
theorem pgBase_at (r:PR) (ok:r.Ok) (a:Int) (p:Pl) (h:r.base a=some p):Tr Tryz.prog 63 [ptr 0,.int .i64 a] (RPL r) (fun v K=>v=.tuple ⟨[.agg ⟨p.cells⟩,.int .i64 0]⟩∧K=RPL r):=by
 have hF:=pgFind_tr r ok a
 unfold PR.base at h
 cases hf:r.find a with
 | none=>rw [hf] at h; cases h
 | some q =>
  rw [hf] at hF h
  have he:q.bs=a∧q=p:=by
   simp only at h
   split at h
   ·cases h; exact ⟨‹_›,rfl⟩
   ·cases h
  obtain ⟨he,rfl⟩:=he
  change Tr Tryz.prog _ _ _ (fun v K=>v=.tuple ⟨[.agg ⟨q.cells⟩,.bool true]⟩∧K=RPL r) at hF
  refine Tr.of row_region_Region_base_ok rfl ?_
  repeat' (first|refine qN ?_|refine dN ?_|refine rT ?_|refine qU ?_|refine qL ?_|refine iF (fun h=>?_) (fun h=>?_)|refine cP [0,1,2,3,4,5,6] (hF) ?_|refine qS ?_|exact ⟨rfl,rfl⟩|fail)
  all_goals (exfalso; omega)
theorem pgTake_none (r:PR) (p:Int) (h:sfind r.sl p=none):Tr Tryz.prog 40 [ptr 0,.int .i64 p] (RPL r) (fun v K=>v=.tuple ⟨[.int .i64 0,.int .i64 6]⟩∧K=RPL r):=by
 have hS:=pgSlab_no r h
 refine Tr.of row_region_Region_Take_ok rfl ?_
 repeat' (first|refine qN ?_|refine dN ?_|refine rT ?_|refine qT ?_|refine qU ?_|refine qL ?_|(refine cF [0,1,2,3,4,5,6] (hS) ?_; conv=>whnf)|refine qS ?_|exact ⟨rfl,rfl⟩|fail)
theorem pgTake_no (r:PR) (ok:r.Ok) (i:Nat) (x:SE) (hi:r.sl[i]?=some x) (e:Int) (he:(x.t.f = -1∧e=5)∨∃ k,k<nC x.t.c∧x.t.f=baseN x.t.pg (zC x.t.c) k∧(folP r.key r.bs (zC x.t.c) (nC x.t.c) x.t k).2=false∧e=4):Tr Tryz.prog 40 [ptr 0,.int .i64 x.t.pg] (RPL r) (fun v K=>v=.tuple ⟨[.int .i64 0,.int .i64 e]⟩∧K=RPL r):=by
 have hx:=ok.sok x (List.mem_of_getElem? hi)
 have hS:=pgSlab_at r (sfind_mem ok.sap (List.mem_of_getElem? hi))
 have ht:x.t.Ok r.N _ _:=hx.t ok.n2
 have hT:Tr Tryz.prog 94 [ptr 2] (PSL r.key r.N r.bs (nC x.t.c) x.t) (fun v K=>v=.tuple ⟨[.int .i64 0,.int .i64 e]⟩∧K=PSL r.key r.N r.bs (nC x.t.c) x.t):=by
  rcases he with ⟨h1,rfl⟩ | ⟨k,hk,h1,h2,rfl⟩
  ·exact sTake_full r.key r.N r.bs x.t h1
  ·exact sTake_form r.key r.N r.bs ok.bl x.t ht k hk h1 h2
 have h1:=slabK r.a r.b r.key r.N r.bs r.sl i x hi plain_tup2 plain0 hT
 have he0:e=5∨e=4:=by rcases he with ⟨_,h⟩ | ⟨_,_,_,_,h⟩ <;> omega
 refine Tr.of row_region_Region_Take_ok rfl ?_
 repeat' (first|refine qN ?_|refine dN ?_|refine rT ?_|refine qU ?_|refine qL ?_|refine iF (fun h=>?_) (fun h=>?_)|(refine cF [0,1,2,3,4,5,6] (hS) ?_; conv=>whnf)|refine cP [4,5] (h1) ?_|refine qS ?_|exact ⟨rfl,rfl⟩|fail)
 all_goals (exfalso; omega)
theorem RPL_upS {r:PR} {i:Nat} {x:SE} {t:PS} {bs:Bytes} (hi:r.sl[i]?=some x) (h:t.pg=x.t.pg):RPL (PR.upS r i x t bs)=[.cells 0 [.int .i64 r.man,.int .i64 r.mgd,.int .u64 (r.seed.toNat:Int),adR r.a 0,ptr 1,.int .u64 (r.key.toNat:Int),.map (some 3),adR r.g0 0],
 .cells 0 [slB 2 (r.man+r.mgd)],.gro 4 (rowsC PRow.cells r.rs),pB r.m0 (peS r.sl) r.mc,crowdS r.a r.key (r.sl.set i { x with t:=t }),box [r.a,r.b] (AN r.N bs),crowdG r.a r.key r.g0 r.g1 r.G r.gc]:=by
 unfold RPL PR.upS
 simp only
 rw [peS_set (y:={ x with t:=t }) hi h rfl rfl]
 rfl
theorem pgTake_ok (r:PR) (ok:r.Ok) (i:Nat) (x:SE) (hi:r.sl[i]?=some x) (k:Nat) (hk:k<nC x.t.c) (hf:x.t.f=baseN x.t.pg (zC x.t.c) k) (nx:Int) (hfo:folP r.key r.bs (zC x.t.c) (nC x.t.c) x.t k=(nx,true)) :
  Tr Tryz.prog 40 [ptr 0,.int .i64 x.t.pg] (RPL r) (fun v K=>v=.tuple ⟨[.int .i64 (baseN x.t.pg (zC x.t.c) k:Nat),.int .i64 0]⟩∧K=RPL (r.upS i x (tookT x.t k nx) (tookB r.key r.bs x.t.pg (zC x.t.c) k))):=by
 have hx:=ok.sok x (List.mem_of_getElem? hi)
 have hp:=hx.pg
 have hn:=ok.n2
 have hS:=pgSlab_at r (sfind_mem ok.sap (List.mem_of_getElem? hi))
 have ht:x.t.Ok r.N _ _:=hx.t ok.n2
 have h1:=slabL r.a r.b r.key r.N r.bs _ r.sl i x (tookT x.t k nx) hi rfl plain_tup2 plain0 (sTake_ok r.key r.N r.bs ok.bl x.t ht k hk hf nx hfo)
 have hi':(r.sl.set i { x with t:=tookT x.t k nx })[i]?=some { x with t:=tookT x.t k nx }:=by rw [List.getElem?_set,if_pos rfl,if_pos (List.getElem?_eq_some_iff.1 hi).1]
 have h2:=slabK r.a r.b r.key r.N (tookB r.key r.bs x.t.pg (zC x.t.c) k) (r.sl.set i { x with t:=tookT x.t k nx }) i _ hi' plain_int plain0 (sClass_tr r.key r.N _ (n:=nC x.t.c) (tookT x.t k nx))
 have h3:=Base_ok hx.cls x.t.pg k (by omega) hk
 rw [RPL_upS (t:=tookT x.t k nx) hi rfl]
 generalize r.sl.set i { x with t:=tookT x.t k nx }=sl' at *
 refine Tr.of row_region_Region_Take_ok rfl ?_
 repeat' (first|refine qN ?_|refine dN ?_|refine rT ?_|refine qU ?_|refine qL ?_|(refine cF [0,1,2,3,4,5,6] (hS) ?_; conv=>whnf)|(refine cF [4,5] (h1) ?_; conv=>whnf)|refine cP [4,5] (h2) ?_|refine cP [] (h3) ?_|refine qS ?_|exact ⟨rfl,rfl⟩|fail)
 all_goals (exfalso; omega)
theorem pgDrop_none (r:PR) (ok:r.Ok) (a:Int) (h:r.base a=none):Tr Tryz.prog 15 [ptr 0,.int .i64 a] (RPL r) (fun v K=>v=.tuple ⟨[.bool false,.int .i64 6]⟩∧K=RPL r):=by
 have hB:=pgBase_no r ok a h
 refine Tr.of row_region_Region_Drop_ok rfl ?_
 repeat' (first|refine qN ?_|refine dN ?_|refine rT ?_|refine qT ?_|refine cP [0,1,2,3,4,5,6] (hB) ?_|refine qS ?_|exact ⟨rfl,rfl⟩|fail)
theorem pgDrop_no (r:PR) (ok:r.Ok) (i:Nat) (x:SE) (hi:r.sl[i]?=some x) (k:Nat) (hk:k<nC x.t.c) (hs:x.t.st k≠1):Tr Tryz.prog 15 [ptr 0,.int .i64 (baseN x.t.pg (zC x.t.c) k:Nat)] (RPL r) (fun v K=>v=.tuple ⟨[.bool false,.int .i64 8]⟩∧K=RPL r):=by
 have hm:=List.mem_of_getElem? hi
 have hB:=pgBase_at r ok _ _ (ok.base_slot hm hk)
 have hx:=ok.sok x hm
 have hS:=pgSlab_at r (sfind_mem ok.sap hm)
 have ht:x.t.Ok r.N _ _:=hx.t ok.n2
 have hD:=sDrop_no r.key r.N r.bs ok.bl x.t ht k (by rw [stI_at x.t hk]; exact hs)
 rw [stI_at x.t hk,if_neg (by have:=st_bd x.t k; omega)] at hD
 have h1:=slabK r.a r.b r.key r.N r.bs r.sl i x hi plain_tupb (plain1 plain_int) hD
 simp only [Pl.cells,placeS] at hB
 refine Tr.of row_region_Region_Drop_ok rfl ?_
 repeat' (first|refine qN ?_|refine dN ?_|refine rT ?_|refine qT ?_|refine qU ?_|refine qL ?_|refine cP [0,1,2,3,4,5,6] (hB) ?_|(refine cF [0,1,2,3,4,5,6] (hS) ?_; conv=>whnf)|refine cP [4,5] (h1) ?_|refine qS ?_|exact ⟨rfl,rfl⟩|fail)
theorem pgDrop_ok (r:PR) (ok:r.Ok) (i:Nat) (x:SE) (hi:r.sl[i]?=some x) (k:Nat) (hk:k<nC x.t.c) (hs:x.t.st k=1):Tr Tryz.prog 15 [ptr 0,.int .i64 (baseN x.t.pg (zC x.t.c) k:Nat)] (RPL r) (fun v K=>v=.tuple ⟨[.bool (standsK r.key r.bs x.t.pg (zC x.t.c) k),.int .i64 0]⟩∧K=RPL (r.upS i x (dropT x.t k) (dropB r.bs x.t.pg (zC x.t.c) k))):=by
 have hm:=List.mem_of_getElem? hi
 have hB:=pgBase_at r ok _ _ (ok.base_slot hm hk)
 have hx:=ok.sok x hm
 have hS:=pgSlab_at r (sfind_mem ok.sap hm)
 have ht:x.t.Ok r.N _ _:=hx.t ok.n2
 have h1:=slabL r.a r.b r.key r.N r.bs _ r.sl i x (dropT x.t k) hi rfl plain_tupb (plain1 plain_int) (sDrop_ok r.key r.N r.bs ok.bl x.t ht k hk hs)
 rw [RPL_upS (t:=dropT x.t k) hi rfl]
 simp only [Pl.cells,placeS] at hB
 refine Tr.of row_region_Region_Drop_ok rfl ?_
 repeat' (first|refine qN ?_|refine dN ?_|refine rT ?_|refine qT ?_|refine qU ?_|refine qL ?_|refine cP [0,1,2,3,4,5,6] (hB) ?_|(refine cF [0,1,2,3,4,5,6] (hS) ?_; conv=>whnf)|(refine cF [4,5] (h1) ?_; conv=>whnf)|refine qS ?_|exact ⟨rfl,rfl⟩|fail)
theorem pgGive_none (r:PR) (ok:r.Ok) (a:Int) (h:r.base a=none):Tr Tryz.prog 16 [ptr 0,.int .i64 a] (RPL r) (fun v K=>v=.int .i64 6∧K=RPL r):=by
 have hB:=pgBase_no r ok a h
 refine Tr.of row_region_Region_Give_ok rfl ?_
 repeat' (first|refine qN ?_|refine dN ?_|refine qB ?_|refine rT ?_|refine qT ?_|refine cP [0,1,2,3,4,5,6] (hB) ?_|refine qS ?_|exact ⟨rfl,rfl⟩|fail)
theorem pgGive_great (r:PR) (ok:r.Ok) (b:Int × Int × Nat) (hb:b∈r.G):Tr Tryz.prog 16 [ptr 0,.int .i64 (256*b.1)] (RPL r) (fun v K=>v=.int .i64 6∧K=RPL r):=by
 have hB:=pgBase_at r ok _ _ (ok.base_great hb)
 simp only [Pl.cells,placeG] at hB
 refine Tr.of row_region_Region_Give_ok rfl ?_
 repeat' (first|refine qN ?_|refine dN ?_|refine qB ?_|refine rT ?_|refine qT ?_|refine qU ?_|refine cP [0,1,2,3,4,5,6] (hB) ?_|refine qS ?_|exact ⟨rfl,rfl⟩|fail)
theorem pgGive_no (r:PR) (ok:r.Ok) (i:Nat) (x:SE) (hi:r.sl[i]?=some x) (k:Nat) (hk:k<nC x.t.c) (hs:x.t.st k≠2):Tr Tryz.prog 16 [ptr 0,.int .i64 (baseN x.t.pg (zC x.t.c) k:Nat)] (RPL r) (fun v K=>v=.int .i64 8∧K=RPL r):=by
 have hm:=List.mem_of_getElem? hi
 have hB:=pgBase_at r ok _ _ (ok.base_slot hm hk)
 have hx:=ok.sok x hm
 have hS:=pgSlab_at r (sfind_mem ok.sap hm)
 have ht:x.t.Ok r.N _ _:=hx.t ok.n2
 have hD:=sGive_no r.key r.N r.bs ok.bl x.t ht k (by rw [stI_at x.t hk]; exact hs)
 rw [stI_at x.t hk,if_neg (by have:=st_bd x.t k; omega)] at hD
 have h1:=slabK r.a r.b r.key r.N r.bs r.sl i x hi plain_int (plain1 plain_int) hD
 simp only [Pl.cells,placeS] at hB
 refine Tr.of row_region_Region_Give_ok rfl ?_
 repeat' (first|refine qN ?_|refine dN ?_|refine qB ?_|refine rT ?_|refine qU ?_|refine qL ?_|refine cP [0,1,2,3,4,5,6] (hB) ?_|(refine cF [0,1,2,3,4,5,6] (hS) ?_; conv=>whnf)|refine cP [4,5] (h1) ?_|refine qS ?_|exact ⟨rfl,rfl⟩|fail)
theorem pgGive_ok (r:PR) (ok:r.Ok) (i:Nat) (x:SE) (hi:r.sl[i]?=some x) (k:Nat) (hk:k<nC x.t.c) (hs:x.t.st k=2):Tr Tryz.prog 16 [ptr 0,.int .i64 (baseN x.t.pg (zC x.t.c) k:Nat)] (RPL r) (fun v K=>v=.int .i64 0∧K=RPL (r.upS i x (giveT x.t k) (joinP r.key r.bs (zC x.t.c) x.t k))):=by
 have hm:=List.mem_of_getElem? hi
 have hB:=pgBase_at r ok _ _ (ok.base_slot hm hk)
 have hx:=ok.sok x hm
 have hS:=pgSlab_at r (sfind_mem ok.sap hm)
 have ht:x.t.Ok r.N _ _:=hx.t ok.n2
 have h1:=slabL r.a r.b r.key r.N r.bs _ r.sl i x (giveT x.t k) hi rfl plain_int (plain1 plain_int) (sGive_ok r.key r.N r.bs ok.bl x.t ht k hk hs)
 rw [RPL_upS (t:=giveT x.t k) hi rfl]
 simp only [Pl.cells,placeS] at hB
 refine Tr.of row_region_Region_Give_ok rfl ?_
 repeat' (first|refine qN ?_|refine dN ?_|refine qB ?_|refine rT ?_|refine qU ?_|refine qL ?_|refine cP [0,1,2,3,4,5,6] (hB) ?_|(refine cF [0,1,2,3,4,5,6] (hS) ?_; conv=>whnf)|(refine cF [4,5] (h1) ?_; conv=>whnf)|refine qS ?_|exact ⟨rfl,rfl⟩|fail)
theorem pgOwner_no (r:PR) (a:Int) (ha:a<9223372036854775808) (h:a<0∨sfind r.sl (a / 256)=none):Tr Tryz.prog 51 [ptr 0,.int .i64 a] (RPL r) (fun v K=>v=.int .i64 (-1)∧K=RPL r):=by
 by_cases h0:a<0
 ·refine Tr.of row_region_Region_Owner_ok rfl ?_
  repeat' (first|refine qN ?_|refine dN ?_|refine rT ?_|refine qT ?_|refine qU ?_|refine qL ?_|refine aD ?_|refine sP 9 (fun h=>?_) (fun h=>?_)|refine qS ?_|exact ⟨rfl,rfl⟩|fail)
  all_goals (exfalso; omega)
 ·have hS:=pgSlab_no r (h.resolve_left h0)
  refine Tr.of row_region_Region_Owner_ok rfl ?_
  repeat' (first|refine qN ?_|refine dN ?_|refine rT ?_|refine qT ?_|refine qU ?_|refine qL ?_|(refine cF [0,1,2,3,4,5,6] (hS) ?_; conv=>whnf)|refine S_Q [] rfl rfl (QY.divN (c:=a / 256) rfl rfl rfl (by omega) (by omega)) ?_|refine sP 9 (fun h=>?_) (fun h=>?_)|refine qS ?_|exact ⟨rfl,rfl⟩|fail)
  all_goals (exfalso; omega)
theorem pgOwner_at (r:PR) (ok:r.Ok) (a:Int) (ha:a<9223372036854775808) (h0:0≤a) (x:SE) (h:sfind r.sl (a / 256)=some x):Tr Tryz.prog 51 [ptr 0,.int .i64 a] (RPL r) (fun v K=>v=.int .i64 x.t.ow∧K=RPL r):=by
 obtain ⟨i,hi,hm,_⟩:=sfind_some h
 have hS:=pgSlab_at r h
 have h2:=slabK r.a r.b r.key r.N r.bs r.sl i x hi plain_int plain0 (sOwner_tr r.key r.N r.bs (n:=nC x.t.c) x.t)
 refine Tr.of row_region_Region_Owner_ok rfl ?_
 repeat' (first|refine qN ?_|refine dN ?_|refine rT ?_|refine qT ?_|refine qU ?_|refine qL ?_|(refine cF [0,1,2,3,4,5,6] (hS) ?_; conv=>whnf)|refine S_Q [] rfl rfl (QY.divN (c:=a / 256) rfl rfl rfl (by omega) (by omega)) ?_|refine cP [4,5] (h2) ?_|refine sP 9 (fun h=>?_) (fun h=>?_)|refine qS ?_|exact ⟨rfl,rfl⟩|fail)
 all_goals (exfalso; omega)
end Go.Proofs.YtgfjgfapigekiaaGreat
end
