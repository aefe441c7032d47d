/-
  Layer 8: contracts of the program's functions.
-/
import Derived.Test.YtnleiiniajinbaaBaseC
import Derived.Test.YtnleiiniajinbaaLw13
namespace Go.Tum.Base
open Go Go.Tum

/-! ### great blocks: first page, bytes, when it came -/
abbrev Great := IMap
/-- has a block a page in common with others? -/
def meetsG (G : Great) (page many : Int) : Bool := G.any fun x => decide (page < x.1 + pagesC x.2.1 ∧ x.1 < page + many)
/-- great blocks as they may be: their pages are there -/
def Small (G : Great) (N : Nat) : Prop := ∀ x ∈ G, 0 ≤ x.1 ∧ greatC x.2.1 = true ∧ x.1 + pagesC x.2.1 ≤ N
theorem pagesC_bd (n : Int) : 0 ≤ pagesC n ∧ pagesC n ≤ 17 := by unfold pagesC; split <;> omega
end Go.Tum.Base
namespace Go.Proofs.Ytnleiiniajinbaa
open Go Go.Tum Go.Tum.Base
set_option maxRecDepth 4000

theorem arenaStoreA_ok (bs : Bytes) (hb : bs.length ≤ 65536) (i m n c : Nat) (h : i + m ≤ bs.length) (hm : m ≤ n) (f : Nat → List Value) (op : Nat → BitVec 8) (hop : ∀ i, i < n → f i = byteC (op i)) :
    TrK Try.prog [(2, n * 1, rowG 1 f)] [0, 1, 2] 10 [ptr 0, .int .i64 i, .slice (some ⟨2, 0, none⟩) m c] (AL bs ++ [.dead]) (fun v K => v = .int .i64 0 ∧ K = AL (overB bs i (takeA op m)) ++ [.dead]) := by
  have hI := arenaIn_tr bs hb i m
  rw [errIn_ok h] at hI
  rw [AL_over (by rw [takeA_length]; exact h)]
  refine Tr.of row_arena_Arena_Store_ok rfl ?_
  repeat' (first
    | refine L_rs ?_
    | refine S_done [] rfl (Nx.goL ?_)
    | refine S_done [] rfl (RetQ.keepN rfl rfl rfl rfl ?_)
    | refine S_done [] rfl ?_
    | refine L_block ?_
    | refine L_ret (RetQ.keep rfl rfl rfl rfl ?_)
    | refine L_true rfl ?_
    | refine L_false rfl ?_
    | refine L_skip (Nx.goL ?_)
    | refine L_skip ?_
    | refine L_exit (Nx.goL ?_)
    | refine L_exit ?_
    | refine L_ifp rfl (by first | exact bD | exact bE | exact bN | exact bNB | exact bEB | exact bNot bD | exact bNot bE | exact bNot bN) (fun h => ?_) (fun h => ?_)
    | refine S_Q [] rfl rfl (QY.idxN rfl rfl (by omega)) ?_
    | refine S_Q [] rfl rfl (QY.add rfl rfl rfl (by omega) (by omega)) ?_
    | refine S_Q [] rfl rfl (QY.sub rfl rfl rfl (by omega) (by omega)) ?_
    | refine S_Q [] rfl rfl (QY.mask rfl rfl (by decide) rfl) ?_
    | refine S_Q [] rfl rfl (QY.ldI rfl rfl (List.getElem?_eq_getElem (by omega))) ?_
    | refine S_Q [] rfl rfl (QY.divN rfl rfl rfl (by omega) (by omega)) ?_
    | refine S_Q [] rfl rfl (QY.remN rfl rfl rfl (by omega) (by omega)) ?_
    | refine S_Q [] rfl rfl (QY.mul rfl rfl rfl (by omega) (by omega)) ?_
    | refine L_reg ?_
    | refine L_seq ?_
    | exact ⟨rfl, rfl⟩
    | fail)
  first | refine L_rs ?_ | refine L_reg ?_ | skip
  refine S_Ed [] rfl rfl (EWd.callP [0, 1] (hI) rfl rfl (by decide) (by repeat' (first | exact trivial | refine ⟨rfl, ?_⟩ | fail)) rfl rfl) (disj_nil _) (nm_nilE _) (nm_nilT _) ?_
  rintro _ _ ⟨rfl, rfl⟩
  refine ⟨(by repeat' (first | exact trivial | refine ⟨⟨qsafe_ok (st := []) rfl, Sure.of rfl⟩, ?_⟩ | refine ⟨.inl rfl, ?_⟩ | refine ⟨.inr ⟨qsafe_ok (st := []) rfl, Sure.of rfl⟩, ?_⟩ | refine ⟨⟨qsafe_ok (st := []) rfl, Sure.slice (by omega)⟩, ?_⟩ | refine ⟨.inr ⟨qsafe_ok (st := []) rfl, Sure.slice (by omega)⟩, ?_⟩ | refine ⟨.inr ⟨QY.neqB rfl (by kernel_rfl) rfl rfl, Sure.of rfl⟩, ?_⟩ | refine ⟨.inr ⟨QY.eqlB rfl (by kernel_rfl) rfl rfl, Sure.of rfl⟩, ?_⟩ | fail)), ?_⟩
  repeat' (first
    | refine L_rs ?_
    | refine S_done [] rfl (Nx.goL ?_)
    | refine S_done [] rfl (RetQ.keepN rfl rfl rfl rfl ?_)
    | refine S_done [] rfl ?_
    | refine L_block ?_
    | refine L_ret (RetQ.keep rfl rfl rfl rfl ?_)
    | refine L_true rfl ?_
    | refine L_false rfl ?_
    | refine L_skip (Nx.goL ?_)
    | refine L_skip ?_
    | refine L_exit (Nx.goL ?_)
    | refine L_exit ?_
    | refine L_ifp rfl (by first | exact bD | exact bE | exact bN | exact bNB | exact bEB | exact bNot bD | exact bNot bE | exact bNot bN) (fun h => ?_) (fun h => ?_)
    | refine S_Q [] rfl rfl (QY.idxN rfl rfl (by omega)) ?_
    | refine S_Q [] rfl rfl (QY.add rfl rfl rfl (by omega) (by omega)) ?_
    | refine S_Q [] rfl rfl (QY.sub rfl rfl rfl (by omega) (by omega)) ?_
    | refine S_Q [] rfl rfl (QY.mask rfl rfl (by decide) rfl) ?_
    | refine S_Q [] rfl rfl (QY.ldI rfl rfl (List.getElem?_eq_getElem (by omega))) ?_
    | refine S_Q [] rfl rfl (QY.divN rfl rfl rfl (by omega) (by omega)) ?_
    | refine S_Q [] rfl rfl (QY.remN rfl rfl rfl (by omega) (by omega)) ?_
    | refine S_Q [] rfl rfl (QY.mul rfl rfl rfl (by omega) (by omega)) ?_
    | refine L_reg ?_
    | refine L_seq ?_
    | exact ⟨rfl, rfl⟩
    | fail)
  first | refine L_rs ?_ | refine L_reg ?_ | skip
  refine S_Q [] rfl rfl (QY.slc0 (b := 1) (lo' := i) (hi' := bs.length) rfl rfl rfl (by omega) (by omega)) ?_
  first | refine L_rs ?_ | refine L_reg ?_ | skip
  refine S_E [] rfl rfl (EW.copyA (i := i) (xs := bs) (j := 0) byteC_ok hop rfl (by kernel_rfl) rfl rfl rfl rfl (by omega) hm (by decide)) ?_
  rintro _ _ ⟨rfl, rfl⟩
  refine ⟨(by repeat' (first | exact trivial | refine ⟨⟨qsafe_ok (st := []) rfl, Sure.of rfl⟩, ?_⟩ | refine ⟨.inl rfl, ?_⟩ | refine ⟨.inr ⟨qsafe_ok (st := []) rfl, Sure.of rfl⟩, ?_⟩ | refine ⟨⟨qsafe_ok (st := []) rfl, Sure.slice (by omega)⟩, ?_⟩ | refine ⟨.inr ⟨qsafe_ok (st := []) rfl, Sure.slice (by omega)⟩, ?_⟩ | refine ⟨.inr ⟨QY.neqB rfl (by kernel_rfl) rfl rfl, Sure.of rfl⟩, ?_⟩ | refine ⟨.inr ⟨QY.eqlB rfl (by kernel_rfl) rfl rfl, Sure.of rfl⟩, ?_⟩ | fail)), LSt.nf ?_⟩
  conv => whnf
  repeat' (first
    | refine L_rs ?_
    | refine S_done [] rfl (Nx.goL ?_)
    | refine S_done [] rfl (RetQ.keepN rfl rfl rfl rfl ?_)
    | refine S_done [] rfl ?_
    | refine L_block ?_
    | refine L_ret (RetQ.keep rfl rfl rfl rfl ?_)
    | refine L_true rfl ?_
    | refine L_false rfl ?_
    | refine L_skip (Nx.goL ?_)
    | refine L_skip ?_
    | refine L_exit (Nx.goL ?_)
    | refine L_exit ?_
    | refine L_ifp rfl (by first | exact bD | exact bE | exact bN | exact bNB | exact bEB | exact bNot bD | exact bNot bE | exact bNot bN) (fun h => ?_) (fun h => ?_)
    | refine S_Q [] rfl rfl (QY.idxN rfl rfl (by omega)) ?_
    | refine S_Q [] rfl rfl (QY.add rfl rfl rfl (by omega) (by omega)) ?_
    | refine S_Q [] rfl rfl (QY.sub rfl rfl rfl (by omega) (by omega)) ?_
    | refine S_Q [] rfl rfl (QY.mask rfl rfl (by decide) rfl) ?_
    | refine S_Q [] rfl rfl (QY.ldI rfl rfl (List.getElem?_eq_getElem (by omega))) ?_
    | refine S_Q [] rfl rfl (QY.divN rfl rfl rfl (by omega) (by omega)) ?_
    | refine S_Q [] rfl rfl (QY.remN rfl rfl rfl (by omega) (by omega)) ?_
    | refine S_Q [] rfl rfl (QY.mul rfl rfl rfl (by omega) (by omega)) ?_
    | refine L_reg ?_
    | refine L_seq ?_
    | exact ⟨rfl, rfl⟩
    | fail)
  have e : bs.take i ++ takeA op (min m (bs.length - i)) ++ bs.drop (i + min m (bs.length - i)) = overB bs i (takeA op m) := by
    rw [Nat.min_eq_left (by omega), overB, takeA_length]
  rw [← e]
  exact ⟨rfl, rfl⟩

/-- a set of great blocks: its cell, the arena, the map -/
def SetL (key : BitVec 64) (bs : Bytes) (G : Great) (c : Nat) : LH := [.cells 0 [ptr 1, .int .u64 (key.toNat : Int), .map (some 3)], .cells 0 [slB 2 bs.length], BL bs, .imap G c]
theorem largeNew_tr (bs : Bytes) (key : BitVec 64) : TrK Try.prog [] [0, 1] 6 [ptr 0, .agg ⟨[.int .u64 (key.toNat : Int)]⟩] (AL bs) (fun v K => v = ptr 2 ∧ K = AL bs ++ [.cells 0 [ptr 0, .int .u64 (key.toNat : Int), .map (some 3)], .imap [] 0]) := by
  refine Tr.of row_large_New_ok rfl ?_
  repeat' (first
    | refine L_rs ?_
    | refine S_done [] rfl (Nx.goL ?_)
    | refine S_done [] rfl (RetQ.keepN rfl rfl rfl rfl ?_)
    | refine S_done [] rfl ?_
    | refine L_block ?_
    | refine L_ret (RetQ.keep rfl rfl rfl rfl ?_)
    | refine L_true rfl ?_
    | refine L_false rfl ?_
    | refine L_skip (Nx.goL ?_)
    | refine L_skip ?_
    | refine L_exit (Nx.goL ?_)
    | refine L_exit ?_
    | refine L_ifp rfl (by first | exact bD | exact bE | exact bN | exact bNB | exact bEB | exact bNot bD | exact bNot bE | exact bNot bN) (fun h => ?_) (fun h => ?_)
    | refine S_Q [] rfl rfl (QY.idxN rfl rfl (by omega)) ?_
    | refine S_Q [] rfl rfl (QY.add rfl rfl rfl (by omega) (by omega)) ?_
    | refine S_Q [] rfl rfl (QY.sub rfl rfl rfl (by omega) (by omega)) ?_
    | refine S_Q [] rfl rfl (QY.mask rfl rfl (by decide) rfl) ?_
    | refine S_Q [] rfl rfl (QY.ldI rfl rfl (List.getElem?_eq_getElem (by omega))) ?_
    | refine S_Q [] rfl rfl (QY.divN rfl rfl rfl (by omega) (by omega)) ?_
    | refine S_Q [] rfl rfl (QY.remN rfl rfl rfl (by omega) (by omega)) ?_
    | refine S_Q [] rfl rfl (QY.mul rfl rfl rfl (by omega) (by omega)) ?_
    | refine L_reg ?_
    | refine L_seq ?_
    | exact ⟨rfl, rfl⟩
    | fail)
  first | refine L_rs ?_ | refine L_reg ?_ | skip
  refine S_E [] rfl rfl (EW.imake rfl) ?_
  rintro _ _ ⟨rfl, rfl⟩
  refine ⟨(by repeat' (first | exact trivial | refine ⟨⟨qsafe_ok (st := []) rfl, Sure.of rfl⟩, ?_⟩ | refine ⟨.inl rfl, ?_⟩ | refine ⟨.inr ⟨qsafe_ok (st := []) rfl, Sure.of rfl⟩, ?_⟩ | refine ⟨⟨qsafe_ok (st := []) rfl, Sure.slice (by omega)⟩, ?_⟩ | refine ⟨.inr ⟨qsafe_ok (st := []) rfl, Sure.slice (by omega)⟩, ?_⟩ | refine ⟨.inr ⟨QY.neqB rfl (by kernel_rfl) rfl rfl, Sure.of rfl⟩, ?_⟩ | refine ⟨.inr ⟨QY.eqlB rfl (by kernel_rfl) rfl rfl, Sure.of rfl⟩, ?_⟩ | fail)), LSt.nf ?_⟩
  conv => whnf
  repeat' (first
    | refine L_rs ?_
    | refine S_done [] rfl (Nx.goL ?_)
    | refine S_done [] rfl (RetQ.keepN rfl rfl rfl rfl ?_)
    | refine S_done [] rfl ?_
    | refine L_block ?_
    | refine L_ret (RetQ.keep rfl rfl rfl rfl ?_)
    | refine L_true rfl ?_
    | refine L_false rfl ?_
    | refine L_skip (Nx.goL ?_)
    | refine L_skip ?_
    | refine L_exit (Nx.goL ?_)
    | refine L_exit ?_
    | refine L_ifp rfl (by first | exact bD | exact bE | exact bN | exact bNB | exact bEB | exact bNot bD | exact bNot bE | exact bNot bN) (fun h => ?_) (fun h => ?_)
    | refine S_Q [] rfl rfl (QY.idxN rfl rfl (by omega)) ?_
    | refine S_Q [] rfl rfl (QY.add rfl rfl rfl (by omega) (by omega)) ?_
    | refine S_Q [] rfl rfl (QY.sub rfl rfl rfl (by omega) (by omega)) ?_
    | refine S_Q [] rfl rfl (QY.mask rfl rfl (by decide) rfl) ?_
    | refine S_Q [] rfl rfl (QY.ldI rfl rfl (List.getElem?_eq_getElem (by omega))) ?_
    | refine S_Q [] rfl rfl (QY.divN rfl rfl rfl (by omega) (by omega)) ?_
    | refine S_Q [] rfl rfl (QY.remN rfl rfl rfl (by omega) (by omega)) ?_
    | refine S_Q [] rfl rfl (QY.mul rfl rfl rfl (by omega) (by omega)) ?_
    | refine L_reg ?_
    | refine L_seq ?_
    | exact ⟨rfl, rfl⟩
    | fail)
  exact L_ret (RetQ.pick [0, 1, 4, 3] rfl rfl rfl rfl ⟨rfl, rfl⟩)
theorem run_tr (n : Int) : Tr Try.prog 29 [.int .i64 n] [] (fun v K => v = .int .i64 (pagesC n) ∧ K = []) := by
  refine Tr.of row_large_run_ok rfl ?_
  repeat' (first
    | refine L_rs ?_
    | refine S_done [] rfl (Nx.goL ?_)
    | refine S_done [] rfl (RetQ.keepN rfl rfl rfl rfl ?_)
    | refine S_done [] rfl ?_
    | refine L_block ?_
    | refine L_ret (RetQ.keep rfl rfl rfl rfl ?_)
    | refine L_true rfl ?_
    | refine L_false rfl ?_
    | refine L_skip (Nx.goL ?_)
    | refine L_skip ?_
    | refine L_exit (Nx.goL ?_)
    | refine L_exit ?_
    | refine L_ifp rfl (by first | exact bD | exact bE | exact bN | exact bNB | exact bEB | exact bNot bD | exact bNot bE | exact bNot bN) (fun h => ?_) (fun h => ?_)
    | refine S_Q [] rfl rfl (QY.idxN rfl rfl (by omega)) ?_
    | refine S_Q [] rfl rfl (QY.add rfl rfl rfl (by omega) (by omega)) ?_
    | refine S_Q [] rfl rfl (QY.sub rfl rfl rfl (by omega) (by omega)) ?_
    | refine S_Q [] rfl rfl (QY.mask rfl rfl (by decide) rfl) ?_
    | refine S_Q [] rfl rfl (QY.ldI rfl rfl (List.getElem?_eq_getElem (by omega))) ?_
    | refine S_Q [] rfl rfl (QY.divN rfl rfl rfl (by omega) (by omega)) ?_
    | refine S_Q [] rfl rfl (QY.remN rfl rfl rfl (by omega) (by omega)) ?_
    | refine S_Q [] rfl rfl (QY.mul rfl rfl rfl (by omega) (by omega)) ?_
    | refine L_reg ?_
    | refine L_seq ?_
    | exact ⟨rfl, rfl⟩
    | fail)
  first | refine L_rs ?_ | refine L_reg ?_ | skip
  refine S_Ed [] rfl rfl (EWd.callP [] (Pages_tr n) rfl rfl (by decide) (by repeat' (first | exact trivial | refine ⟨rfl, ?_⟩ | fail)) rfl rfl) (disj_nil _) (nm_nilE _) (nm_nilT _) ?_
  rintro _ _ ⟨rfl, rfl⟩
  refine ⟨(by repeat' (first | exact trivial | refine ⟨⟨qsafe_ok (st := []) rfl, Sure.of rfl⟩, ?_⟩ | refine ⟨.inl rfl, ?_⟩ | refine ⟨.inr ⟨qsafe_ok (st := []) rfl, Sure.of rfl⟩, ?_⟩ | refine ⟨⟨qsafe_ok (st := []) rfl, Sure.slice (by omega)⟩, ?_⟩ | refine ⟨.inr ⟨qsafe_ok (st := []) rfl, Sure.slice (by omega)⟩, ?_⟩ | refine ⟨.inr ⟨QY.neqB rfl (by kernel_rfl) rfl rfl, Sure.of rfl⟩, ?_⟩ | refine ⟨.inr ⟨QY.eqlB rfl (by kernel_rfl) rfl rfl, Sure.of rfl⟩, ?_⟩ | fail)), ?_⟩
  repeat' (first
    | refine L_rs ?_
    | refine S_done [] rfl (Nx.goL ?_)
    | refine S_done [] rfl (RetQ.keepN rfl rfl rfl rfl ?_)
    | refine S_done [] rfl ?_
    | refine L_block ?_
    | refine L_ret (RetQ.keep rfl rfl rfl rfl ?_)
    | refine L_true rfl ?_
    | refine L_false rfl ?_
    | refine L_skip (Nx.goL ?_)
    | refine L_skip ?_
    | refine L_exit (Nx.goL ?_)
    | refine L_exit ?_
    | refine L_ifp rfl (by first | exact bD | exact bE | exact bN | exact bNB | exact bEB | exact bNot bD | exact bNot bE | exact bNot bN) (fun h => ?_) (fun h => ?_)
    | refine S_Q [] rfl rfl (QY.idxN rfl rfl (by omega)) ?_
    | refine S_Q [] rfl rfl (QY.add rfl rfl rfl (by omega) (by omega)) ?_
    | refine S_Q [] rfl rfl (QY.sub rfl rfl rfl (by omega) (by omega)) ?_
    | refine S_Q [] rfl rfl (QY.mask rfl rfl (by decide) rfl) ?_
    | refine S_Q [] rfl rfl (QY.ldI rfl rfl (List.getElem?_eq_getElem (by omega))) ?_
    | refine S_Q [] rfl rfl (QY.divN rfl rfl rfl (by omega) (by omega)) ?_
    | refine S_Q [] rfl rfl (QY.remN rfl rfl rfl (by omega) (by omega)) ?_
    | refine S_Q [] rfl rfl (QY.mul rfl rfl rfl (by omega) (by omega)) ?_
    | refine L_reg ?_
    | refine L_seq ?_
    | exact ⟨rfl, rfl⟩
    | fail)
theorem canary_tr (key : BitVec 64) (bs : Bytes) (G : Great) (c : Nat) (p n : Int) (hp : 0 ≤ p ∧ p ≤ 256) : Tr Try.prog 24 [ptr 0, .int .i64 p, .int .i64 n] (SetL key bs G c) (fun v K => v = .tuple ⟨[.int .i64 (256 * (p + pagesC n) - 8), .int .u64 ((canW key (256 * p)).toNat : Int)]⟩ ∧ K = SetL key bs G c) := by
  have hP := pagesC_bd n
  refine Tr.of row_large_Set_canary_ok rfl ?_
  repeat' (first
    | refine L_rs ?_
    | refine S_done [] rfl (Nx.goL ?_)
    | refine S_done [] rfl (RetQ.keepN rfl rfl rfl rfl ?_)
    | refine S_done [] rfl ?_
    | refine L_block ?_
    | refine L_ret (RetQ.keep rfl rfl rfl rfl ?_)
    | refine L_true rfl ?_
    | refine L_false rfl ?_
    | refine L_skip (Nx.goL ?_)
    | refine L_skip ?_
    | refine L_exit (Nx.goL ?_)
    | refine L_exit ?_
    | refine L_ifp rfl (by first | exact bD | exact bE | exact bN | exact bNB | exact bEB | exact bNot bD | exact bNot bE | exact bNot bN) (fun h => ?_) (fun h => ?_)
    | refine S_Q [] rfl rfl (QY.idxN rfl rfl (by omega)) ?_
    | refine S_Q [] rfl rfl (QY.add rfl rfl rfl (by omega) (by omega)) ?_
    | refine S_Q [] rfl rfl (QY.sub rfl rfl rfl (by omega) (by omega)) ?_
    | refine S_Q [] rfl rfl (QY.mask rfl rfl (by decide) rfl) ?_
    | refine S_Q [] rfl rfl (QY.ldI rfl rfl (List.getElem?_eq_getElem (by omega))) ?_
    | refine S_Q [] rfl rfl (QY.divN rfl rfl rfl (by omega) (by omega)) ?_
    | refine S_Q [] rfl rfl (QY.remN rfl rfl rfl (by omega) (by omega)) ?_
    | refine S_Q [] rfl rfl (QY.mul rfl rfl rfl (by omega) (by omega)) ?_
    | refine L_reg ?_
    | refine L_seq ?_
    | exact ⟨rfl, rfl⟩
    | fail)
  first | refine L_rs ?_ | refine L_reg ?_ | skip
  refine S_Ed [] rfl rfl (EWd.callP [] (run_tr n) rfl rfl (by decide) (by repeat' (first | exact trivial | refine ⟨rfl, ?_⟩ | fail)) rfl rfl) (disj_nil _) (nm_nilE _) (nm_nilT _) ?_
  rintro _ _ ⟨rfl, rfl⟩
  refine ⟨(by repeat' (first | exact trivial | refine ⟨⟨qsafe_ok (st := []) rfl, Sure.of rfl⟩, ?_⟩ | refine ⟨.inl rfl, ?_⟩ | refine ⟨.inr ⟨qsafe_ok (st := []) rfl, Sure.of rfl⟩, ?_⟩ | refine ⟨⟨qsafe_ok (st := []) rfl, Sure.slice (by omega)⟩, ?_⟩ | refine ⟨.inr ⟨qsafe_ok (st := []) rfl, Sure.slice (by omega)⟩, ?_⟩ | refine ⟨.inr ⟨QY.neqB rfl (by kernel_rfl) rfl rfl, Sure.of rfl⟩, ?_⟩ | refine ⟨.inr ⟨QY.eqlB rfl (by kernel_rfl) rfl rfl, Sure.of rfl⟩, ?_⟩ | fail)), ?_⟩
  repeat' (first
    | refine L_rs ?_
    | refine S_done [] rfl (Nx.goL ?_)
    | refine S_done [] rfl (RetQ.keepN rfl rfl rfl rfl ?_)
    | refine S_done [] rfl ?_
    | refine L_block ?_
    | refine L_ret (RetQ.keep rfl rfl rfl rfl ?_)
    | refine L_true rfl ?_
    | refine L_false rfl ?_
    | refine L_skip (Nx.goL ?_)
    | refine L_skip ?_
    | refine L_exit (Nx.goL ?_)
    | refine L_exit ?_
    | refine L_ifp rfl (by first | exact bD | exact bE | exact bN | exact bNB | exact bEB | exact bNot bD | exact bNot bE | exact bNot bN) (fun h => ?_) (fun h => ?_)
    | refine S_Q [] rfl rfl (QY.idxN rfl rfl (by omega)) ?_
    | refine S_Q [] rfl rfl (QY.add rfl rfl rfl (by omega) (by omega)) ?_
    | refine S_Q [] rfl rfl (QY.sub rfl rfl rfl (by omega) (by omega)) ?_
    | refine S_Q [] rfl rfl (QY.mask rfl rfl (by decide) rfl) ?_
    | refine S_Q [] rfl rfl (QY.ldI rfl rfl (List.getElem?_eq_getElem (by omega))) ?_
    | refine S_Q [] rfl rfl (QY.divN rfl rfl rfl (by omega) (by omega)) ?_
    | refine S_Q [] rfl rfl (QY.remN rfl rfl rfl (by omega) (by omega)) ?_
    | refine S_Q [] rfl rfl (QY.mul rfl rfl rfl (by omega) (by omega)) ?_
    | refine L_reg ?_
    | refine L_seq ?_
    | exact ⟨rfl, rfl⟩
    | fail)
  first | refine L_rs ?_ | refine L_reg ?_ | skip
  refine S_Ed [] rfl rfl (EWd.callP [] (Canary_tr key (256 * p)) rfl rfl (by decide) (by repeat' (first | exact trivial | refine ⟨rfl, ?_⟩ | fail)) rfl rfl) (disj_nil _) (nm_nilE _) (nm_nilT _) ?_
  rintro _ _ ⟨rfl, rfl⟩
  refine ⟨(by repeat' (first | exact trivial | refine ⟨⟨qsafe_ok (st := []) rfl, Sure.of rfl⟩, ?_⟩ | refine ⟨.inl rfl, ?_⟩ | refine ⟨.inr ⟨qsafe_ok (st := []) rfl, Sure.of rfl⟩, ?_⟩ | refine ⟨⟨qsafe_ok (st := []) rfl, Sure.slice (by omega)⟩, ?_⟩ | refine ⟨.inr ⟨qsafe_ok (st := []) rfl, Sure.slice (by omega)⟩, ?_⟩ | refine ⟨.inr ⟨QY.neqB rfl (by kernel_rfl) rfl rfl, Sure.of rfl⟩, ?_⟩ | refine ⟨.inr ⟨QY.eqlB rfl (by kernel_rfl) rfl rfl, Sure.of rfl⟩, ?_⟩ | fail)), ?_⟩
  repeat' (first
    | refine L_rs ?_
    | refine S_done [] rfl (Nx.goL ?_)
    | refine S_done [] rfl (RetQ.keepN rfl rfl rfl rfl ?_)
    | refine S_done [] rfl ?_
    | refine L_block ?_
    | refine L_ret (RetQ.keep rfl rfl rfl rfl ?_)
    | refine L_true rfl ?_
    | refine L_false rfl ?_
    | refine L_skip (Nx.goL ?_)
    | refine L_skip ?_
    | refine L_exit (Nx.goL ?_)
    | refine L_exit ?_
    | refine L_ifp rfl (by first | exact bD | exact bE | exact bN | exact bNB | exact bEB | exact bNot bD | exact bNot bE | exact bNot bN) (fun h => ?_) (fun h => ?_)
    | refine S_Q [] rfl rfl (QY.idxN rfl rfl (by omega)) ?_
    | refine S_Q [] rfl rfl (QY.add rfl rfl rfl (by omega) (by omega)) ?_
    | refine S_Q [] rfl rfl (QY.sub rfl rfl rfl (by omega) (by omega)) ?_
    | refine S_Q [] rfl rfl (QY.mask rfl rfl (by decide) rfl) ?_
    | refine S_Q [] rfl rfl (QY.ldI rfl rfl (List.getElem?_eq_getElem (by omega))) ?_
    | refine S_Q [] rfl rfl (QY.divN rfl rfl rfl (by omega) (by omega)) ?_
    | refine S_Q [] rfl rfl (QY.remN rfl rfl rfl (by omega) (by omega)) ?_
    | refine S_Q [] rfl rfl (QY.mul rfl rfl rfl (by omega) (by omega)) ?_
    | refine L_reg ?_
    | refine L_seq ?_
    | exact ⟨rfl, rfl⟩
    | fail)
theorem stands_tr (key : BitVec 64) (bs : Bytes) (hb : bs.length ≤ 65536) (G : Great) (c : Nat) (p : Nat) (n : Int) (hn : gget G p = n) (i : Nat) (hp : p ≤ 256) (hi : 256 * (p + pagesC n) - 8 = i) (hle : i + 8 ≤ bs.length) : Tr Try.prog 28 [ptr 0, .int .i64 p] (SetL key bs G c) (fun v K => v = .bool (decide (wordB bs i = canW key (256 * p))) ∧ K = SetL key bs G c) := by
  have hC := canary_tr key bs G c p n (by omega)
  rw [hi] at hC
  refine Tr.of row_large_Set_stands_ok rfl ?_
  repeat' (first
    | refine L_rs ?_
    | refine S_done [] rfl (Nx.goL ?_)
    | refine S_done [] rfl (RetQ.keepN rfl rfl rfl rfl ?_)
    | refine S_done [] rfl ?_
    | refine L_block ?_
    | refine L_ret (RetQ.keep rfl rfl rfl rfl ?_)
    | refine L_true rfl ?_
    | refine L_false rfl ?_
    | refine L_skip (Nx.goL ?_)
    | refine L_skip ?_
    | refine L_exit (Nx.goL ?_)
    | refine L_exit ?_
    | refine L_ifp rfl (by first | exact bD | exact bE | exact bN | exact bNB | exact bEB | exact bNot bD | exact bNot bE | exact bNot bN) (fun h => ?_) (fun h => ?_)
    | refine S_Q [] rfl rfl (QY.idxN rfl rfl (by omega)) ?_
    | refine S_Q [] rfl rfl (QY.add rfl rfl rfl (by omega) (by omega)) ?_
    | refine S_Q [] rfl rfl (QY.sub rfl rfl rfl (by omega) (by omega)) ?_
    | refine S_Q [] rfl rfl (QY.mask rfl rfl (by decide) rfl) ?_
    | refine S_Q [] rfl rfl (QY.ldI rfl rfl (List.getElem?_eq_getElem (by omega))) ?_
    | refine S_Q [] rfl rfl (QY.divN rfl rfl rfl (by omega) (by omega)) ?_
    | refine S_Q [] rfl rfl (QY.remN rfl rfl rfl (by omega) (by omega)) ?_
    | refine S_Q [] rfl rfl (QY.mul rfl rfl rfl (by omega) (by omega)) ?_
    | refine S_splitp 32 rfl rfl rfl (by first | exact bD | exact bE | exact bN | exact bNB | exact bEB | exact bNot bD | exact bNot bE | exact bNot bN) (fun h => ?_) (fun h => ?_)
    | refine L_reg ?_
    | refine L_seq ?_
    | exact ⟨rfl, rfl⟩
    | fail)
  first | refine L_rs ?_ | refine L_reg ?_ | skip
  refine S_Q [] rfl rfl (QY.iget rfl (by kernel_rfl) rfl rfl rfl hn) ?_
  first | refine L_rs ?_ | refine L_reg ?_ | skip
  refine S_Ed [] rfl rfl (EWd.callP [0, 1, 2, 3] (hC) rfl rfl (by decide) (by repeat' (first | exact trivial | refine ⟨rfl, ?_⟩ | fail)) rfl rfl) (disj_nil _) (nm_nilE _) (nm_nilT _) ?_
  rintro _ _ ⟨rfl, rfl⟩
  refine ⟨(by repeat' (first | exact trivial | refine ⟨⟨qsafe_ok (st := []) rfl, Sure.of rfl⟩, ?_⟩ | refine ⟨.inl rfl, ?_⟩ | refine ⟨.inr ⟨qsafe_ok (st := []) rfl, Sure.of rfl⟩, ?_⟩ | refine ⟨⟨qsafe_ok (st := []) rfl, Sure.slice (by omega)⟩, ?_⟩ | refine ⟨.inr ⟨qsafe_ok (st := []) rfl, Sure.slice (by omega)⟩, ?_⟩ | refine ⟨.inr ⟨QY.neqB rfl (by kernel_rfl) rfl rfl, Sure.of rfl⟩, ?_⟩ | refine ⟨.inr ⟨QY.eqlB rfl (by kernel_rfl) rfl rfl, Sure.of rfl⟩, ?_⟩ | fail)), ?_⟩
  repeat' (first
    | refine L_rs ?_
    | refine S_done [] rfl (Nx.goL ?_)
    | refine S_done [] rfl (RetQ.keepN rfl rfl rfl rfl ?_)
    | refine S_done [] rfl ?_
    | refine L_block ?_
    | refine L_ret (RetQ.keep rfl rfl rfl rfl ?_)
    | refine L_true rfl ?_
    | refine L_false rfl ?_
    | refine L_skip (Nx.goL ?_)
    | refine L_skip ?_
    | refine L_exit (Nx.goL ?_)
    | refine L_exit ?_
    | refine L_ifp rfl (by first | exact bD | exact bE | exact bN | exact bNB | exact bEB | exact bNot bD | exact bNot bE | exact bNot bN) (fun h => ?_) (fun h => ?_)
    | refine S_Q [] rfl rfl (QY.idxN rfl rfl (by omega)) ?_
    | refine S_Q [] rfl rfl (QY.add rfl rfl rfl (by omega) (by omega)) ?_
    | refine S_Q [] rfl rfl (QY.sub rfl rfl rfl (by omega) (by omega)) ?_
    | refine S_Q [] rfl rfl (QY.mask rfl rfl (by decide) rfl) ?_
    | refine S_Q [] rfl rfl (QY.ldI rfl rfl (List.getElem?_eq_getElem (by omega))) ?_
    | refine S_Q [] rfl rfl (QY.divN rfl rfl rfl (by omega) (by omega)) ?_
    | refine S_Q [] rfl rfl (QY.remN rfl rfl rfl (by omega) (by omega)) ?_
    | refine S_Q [] rfl rfl (QY.mul rfl rfl rfl (by omega) (by omega)) ?_
    | refine S_splitp 32 rfl rfl rfl (by first | exact bD | exact bE | exact bN | exact bNB | exact bEB | exact bNot bD | exact bNot bE | exact bNot bN) (fun h => ?_) (fun h => ?_)
    | refine L_reg ?_
    | refine L_seq ?_
    | exact ⟨rfl, rfl⟩
    | fail)
  first | refine L_rs ?_ | refine L_reg ?_ | skip
  refine S_Ed [] rfl rfl (EWd.callP [1, 2] (arenaWord_ok bs hb i hle (by omega)) rfl rfl (by decide) (by repeat' (first | exact trivial | refine ⟨rfl, ?_⟩ | fail)) rfl rfl) (disj_nil _) (nm_nilE _) (nm_nilT _) ?_
  rintro _ _ ⟨rfl, rfl⟩
  refine ⟨(by repeat' (first | exact trivial | refine ⟨⟨qsafe_ok (st := []) rfl, Sure.of rfl⟩, ?_⟩ | refine ⟨.inl rfl, ?_⟩ | refine ⟨.inr ⟨qsafe_ok (st := []) rfl, Sure.of rfl⟩, ?_⟩ | refine ⟨⟨qsafe_ok (st := []) rfl, Sure.slice (by omega)⟩, ?_⟩ | refine ⟨.inr ⟨qsafe_ok (st := []) rfl, Sure.slice (by omega)⟩, ?_⟩ | refine ⟨.inr ⟨QY.neqB rfl (by kernel_rfl) rfl rfl, Sure.of rfl⟩, ?_⟩ | refine ⟨.inr ⟨QY.eqlB rfl (by kernel_rfl) rfl rfl, Sure.of rfl⟩, ?_⟩ | fail)), ?_⟩
  repeat' (first
    | refine L_rs ?_
    | refine S_done [] rfl (Nx.goL ?_)
    | refine S_done [] rfl (RetQ.keepN rfl rfl rfl rfl ?_)
    | refine S_done [] rfl ?_
    | refine L_block ?_
    | refine L_ret (RetQ.keep rfl rfl rfl rfl ?_)
    | refine L_true rfl ?_
    | refine L_false rfl ?_
    | refine L_skip (Nx.goL ?_)
    | refine L_skip ?_
    | refine L_exit (Nx.goL ?_)
    | refine L_exit ?_
    | refine L_ifp rfl (by first | exact bD | exact bE | exact bN | exact bNB | exact bEB | exact bNot bD | exact bNot bE | exact bNot bN) (fun h => ?_) (fun h => ?_)
    | refine S_Q [] rfl rfl (QY.idxN rfl rfl (by omega)) ?_
    | refine S_Q [] rfl rfl (QY.add rfl rfl rfl (by omega) (by omega)) ?_
    | refine S_Q [] rfl rfl (QY.sub rfl rfl rfl (by omega) (by omega)) ?_
    | refine S_Q [] rfl rfl (QY.mask rfl rfl (by decide) rfl) ?_
    | refine S_Q [] rfl rfl (QY.ldI rfl rfl (List.getElem?_eq_getElem (by omega))) ?_
    | refine S_Q [] rfl rfl (QY.divN rfl rfl rfl (by omega) (by omega)) ?_
    | refine S_Q [] rfl rfl (QY.remN rfl rfl rfl (by omega) (by omega)) ?_
    | refine S_Q [] rfl rfl (QY.mul rfl rfl rfl (by omega) (by omega)) ?_
    | refine S_splitp 32 rfl rfl rfl (by first | exact bD | exact bE | exact bN | exact bNB | exact bEB | exact bNot bD | exact bNot bE | exact bNot bN) (fun h => ?_) (fun h => ?_)
    | refine L_reg ?_
    | refine L_seq ?_
    | exact ⟨rfl, rfl⟩
    | fail)
  refine ⟨congrArg Value.bool ?_, rfl⟩
  rw [Bool.eq_iff_iff, beq_iff_eq, decide_eq_true_eq]
  exact ⟨fun h => BitVec.eq_of_toNat_eq (by omega), fun h => by rw [h]⟩
set_option maxHeartbeats 1000000 in
theorem meets_tr (key : BitVec 64) (bs : Bytes) (G : Great) (c : Nat) (hG : Small G 256) (hO : GOk G c) (p m : Int) (hp : 0 ≤ p ∧ p ≤ 256) (hm : 0 ≤ m ∧ m ≤ 256) : Tr Try.prog 22 [ptr 0, .int .i64 p, .int .i64 m] (SetL key bs G c) (fun v K => v = .bool (meetsG G p m) ∧ K = SetL key bs G c) := by
  refine Tr.of row_large_Set_meets_ok rfl ?_
  refine L_rs (S_done [] rfl (Nx.goL ?_))
  refine L_cut (fun l L => meetsG G p m = false ∧ l = [] ∧ L = SetL key bs G c) ?_ ?_
  · repeat' (first
      | refine L_rs ?_
      | refine S_done [] rfl (Nx.goL ?_)
      | refine S_done [] rfl (RetQ.keepN rfl rfl rfl rfl ?_)
      | refine S_done [] rfl ?_
      | refine L_block ?_
      | refine L_ret (RetQ.keep rfl rfl rfl rfl ?_)
      | refine L_true rfl ?_
      | refine L_false rfl ?_
      | refine L_skip (Nx.goL ?_)
      | refine L_skip ?_
      | refine L_exit (Nx.goL ?_)
      | refine L_exit ?_
      | refine L_ifp rfl (by first | exact bD | exact bE | exact bN | exact bNB | exact bEB | exact bNot bD | exact bNot bE | exact bNot bN) (fun h => ?_) (fun h => ?_)
      | refine S_Q [] rfl rfl (QY.idxN rfl rfl (by omega)) ?_
      | refine S_Q [] rfl rfl (QY.add rfl rfl rfl (by omega) (by omega)) ?_
      | refine S_Q [] rfl rfl (QY.sub rfl rfl rfl (by omega) (by omega)) ?_
      | refine S_Q [] rfl rfl (QY.mask rfl rfl (by decide) rfl) ?_
      | refine S_Q [] rfl rfl (QY.ldI rfl rfl (List.getElem?_eq_getElem (by omega))) ?_
      | refine S_Q [] rfl rfl (QY.divN rfl rfl rfl (by omega) (by omega)) ?_
      | refine S_Q [] rfl rfl (QY.remN rfl rfl rfl (by omega) (by omega)) ?_
      | refine S_Q [] rfl rfl (QY.mul rfl rfl rfl (by omega) (by omega)) ?_
      | refine S_splitp 25 rfl rfl rfl (by first | exact bD | exact bE | exact bN | exact bNB | exact bEB | exact bNot bD | exact bNot bE | exact bNot bN) (fun h => ?_) (fun h => ?_)
      | refine L_reg ?_
      | refine L_seq ?_
      | exact ⟨rfl, rfl⟩
      | fail)
    first | refine L_rs ?_ | refine L_reg ?_ | skip
    refine S_E [] rfl rfl (EW.irange rfl (by kernel_rfl) rfl rfl) ?_
    rintro _ _ ⟨rfl, rfl⟩
    refine ⟨(by repeat' (first | exact trivial | refine ⟨⟨qsafe_ok (st := []) rfl, Sure.of rfl⟩, ?_⟩ | refine ⟨.inl rfl, ?_⟩ | refine ⟨.inr ⟨qsafe_ok (st := []) rfl, Sure.of rfl⟩, ?_⟩ | refine ⟨⟨qsafe_ok (st := []) rfl, Sure.slice (by omega)⟩, ?_⟩ | refine ⟨.inr ⟨qsafe_ok (st := []) rfl, Sure.slice (by omega)⟩, ?_⟩ | refine ⟨.inr ⟨QY.neqB rfl (by kernel_rfl) rfl rfl, Sure.of rfl⟩, ?_⟩ | refine ⟨.inr ⟨QY.eqlB rfl (by kernel_rfl) rfl rfl, Sure.of rfl⟩, ?_⟩ | fail)), LSt.nf ?_⟩
    conv => whnf
    refine S_done [] rfl (Nx.pick [0, 1, 2, 13] [0, 1, 2, 3, 4] rfl rfl rfl ?_)
    refine L_block (L_loop (fun r l L => ∃ seen : List Nat, r = unseen G seen ∧ (∀ x ∈ G, x.2.2 ∈ seen → ¬ (p < x.1 + pagesC x.2.1 ∧ x.1 < p + m)) ∧ l = [(0, ptr 0), (1, .int .i64 p), (2, .int .i64 m), (13, ptr 4)] ∧ L = SetL key bs G c ++ [.iter (some 3) c seen c]) (unseen G []) ⟨[], rfl, by simp, rfl, rfl⟩ ?_)
    rintro r _ _ ⟨seen, rfl, hs, rfl, rfl⟩
    refine L_rs (S_E [] rfl rfl (EW.inext rfl rfl rfl rfl) ?_)
    rintro _ _ (⟨e, he, hns, rfl, rfl⟩ | ⟨hall, rfl, rfl⟩)
    · refine ⟨trivial, LSt.nf ?_⟩
      conv => whnf
      refine S_done [] rfl (Nx.goL (L_seq (L_true rfl (L_skip (Nx.goL (L_block ?_))))))
      have hx := hG e he
      have hP := pagesC_bd e.2.1
      first | refine L_rs ?_ | refine L_reg ?_ | skip
      refine S_E [] rfl rfl (EW.ientry rfl rfl rfl rfl he) ?_
      rintro _ _ ⟨rfl, rfl⟩
      refine ⟨(by repeat' (first | exact trivial | refine ⟨⟨qsafe_ok (st := []) rfl, Sure.of rfl⟩, ?_⟩ | refine ⟨.inl rfl, ?_⟩ | refine ⟨.inr ⟨qsafe_ok (st := []) rfl, Sure.of rfl⟩, ?_⟩ | refine ⟨⟨qsafe_ok (st := []) rfl, Sure.slice (by omega)⟩, ?_⟩ | refine ⟨.inr ⟨qsafe_ok (st := []) rfl, Sure.slice (by omega)⟩, ?_⟩ | refine ⟨.inr ⟨QY.neqB rfl (by kernel_rfl) rfl rfl, Sure.of rfl⟩, ?_⟩ | refine ⟨.inr ⟨QY.eqlB rfl (by kernel_rfl) rfl rfl, Sure.of rfl⟩, ?_⟩ | fail)), LSt.nf ?_⟩
      conv => whnf
      repeat' (first
        | refine L_rs ?_
        | refine S_done [] rfl (Nx.goL ?_)
        | refine S_done [] rfl (RetQ.keepN rfl rfl rfl rfl ?_)
        | refine S_done [] rfl ?_
        | refine L_block ?_
        | refine L_ret (RetQ.keep rfl rfl rfl rfl ?_)
        | refine L_true rfl ?_
        | refine L_false rfl ?_
        | refine L_skip (Nx.goL ?_)
        | refine L_skip ?_
        | refine L_exit (Nx.goL ?_)
        | refine L_exit ?_
        | refine L_ifp rfl (by first | exact bD | exact bE | exact bN | exact bNB | exact bEB | exact bNot bD | exact bNot bE | exact bNot bN) (fun h => ?_) (fun h => ?_)
        | refine S_Q [] rfl rfl (QY.idxN rfl rfl (by omega)) ?_
        | refine S_Q [] rfl rfl (QY.add rfl rfl rfl (by omega) (by omega)) ?_
        | refine S_Q [] rfl rfl (QY.sub rfl rfl rfl (by omega) (by omega)) ?_
        | refine S_Q [] rfl rfl (QY.mask rfl rfl (by decide) rfl) ?_
        | refine S_Q [] rfl rfl (QY.ldI rfl rfl (List.getElem?_eq_getElem (by omega))) ?_
        | refine S_Q [] rfl rfl (QY.divN rfl rfl rfl (by omega) (by omega)) ?_
        | refine S_Q [] rfl rfl (QY.remN rfl rfl rfl (by omega) (by omega)) ?_
        | refine S_Q [] rfl rfl (QY.mul rfl rfl rfl (by omega) (by omega)) ?_
        | refine S_splitp 25 rfl rfl rfl (by first | exact bD | exact bE | exact bN | exact bNB | exact bEB | exact bNot bD | exact bNot bE | exact bNot bN) (fun h => ?_) (fun h => ?_)
        | refine L_reg ?_
        | refine L_seq ?_
        | exact ⟨rfl, rfl⟩
        | fail)
      first | refine L_rs ?_ | refine L_reg ?_ | skip
      refine S_Ed [] rfl rfl (EWd.callP [] (run_tr e.2.1) rfl rfl (by decide) (by repeat' (first | exact trivial | refine ⟨rfl, ?_⟩ | fail)) rfl rfl) (disj_nil _) (nm_nilE _) (nm_nilT _) ?_
      rintro _ _ ⟨rfl, rfl⟩
      refine ⟨(by repeat' (first | exact trivial | refine ⟨⟨qsafe_ok (st := []) rfl, Sure.of rfl⟩, ?_⟩ | refine ⟨.inl rfl, ?_⟩ | refine ⟨.inr ⟨qsafe_ok (st := []) rfl, Sure.of rfl⟩, ?_⟩ | refine ⟨⟨qsafe_ok (st := []) rfl, Sure.slice (by omega)⟩, ?_⟩ | refine ⟨.inr ⟨qsafe_ok (st := []) rfl, Sure.slice (by omega)⟩, ?_⟩ | refine ⟨.inr ⟨QY.neqB rfl (by kernel_rfl) rfl rfl, Sure.of rfl⟩, ?_⟩ | refine ⟨.inr ⟨QY.eqlB rfl (by kernel_rfl) rfl rfl, Sure.of rfl⟩, ?_⟩ | fail)), ?_⟩
      repeat' (first
        | refine L_rs ?_
        | refine S_done [] rfl (Nx.goL ?_)
        | refine S_done [] rfl (RetQ.keepN rfl rfl rfl rfl ?_)
        | refine S_done [] rfl ?_
        | refine L_block ?_
        | refine L_ret (RetQ.keep rfl rfl rfl rfl ?_)
        | refine L_true rfl ?_
        | refine L_false rfl ?_
        | refine L_skip (Nx.goL ?_)
        | refine L_skip ?_
        | refine L_exit (Nx.goL ?_)
        | refine L_exit ?_
        | refine L_ifp rfl (by first | exact bD | exact bE | exact bN | exact bNB | exact bEB | exact bNot bD | exact bNot bE | exact bNot bN) (fun h => ?_) (fun h => ?_)
        | refine S_Q [] rfl rfl (QY.idxN rfl rfl (by omega)) ?_
        | refine S_Q [] rfl rfl (QY.add rfl rfl rfl (by omega) (by omega)) ?_
        | refine S_Q [] rfl rfl (QY.sub rfl rfl rfl (by omega) (by omega)) ?_
        | refine S_Q [] rfl rfl (QY.mask rfl rfl (by decide) rfl) ?_
        | refine S_Q [] rfl rfl (QY.ldI rfl rfl (List.getElem?_eq_getElem (by omega))) ?_
        | refine S_Q [] rfl rfl (QY.divN rfl rfl rfl (by omega) (by omega)) ?_
        | refine S_Q [] rfl rfl (QY.remN rfl rfl rfl (by omega) (by omega)) ?_
        | refine S_Q [] rfl rfl (QY.mul rfl rfl rfl (by omega) (by omega)) ?_
        | refine S_splitp 25 rfl rfl rfl (by first | exact bD | exact bE | exact bN | exact bNB | exact bEB | exact bNot bD | exact bNot bE | exact bNot bN) (fun h => ?_) (fun h => ?_)
        | refine L_reg ?_
        | refine L_seq ?_
        | exact ⟨rfl, rfl⟩
        | fail)
      · refine ⟨congrArg Value.bool ?_, rfl⟩
        rw [Eq.comm, meetsG, List.any_eq_true]
        exact ⟨e, he, by simp; omega⟩
      all_goals
        refine Nx.pick [0, 1, 2, 13] [0, 1, 2, 3, 4] rfl rfl rfl ⟨unseen G (seen ++ [e.2.2]), unseen_lt he hns, seen ++ [e.2.2], rfl, fun x hx1 hx2 => ?_, rfl, rfl⟩
        rcases List.mem_append.1 hx2 with hx2 | hx2
        · exact hs x hx1 hx2
        · rw [List.mem_singleton] at hx2
          rw [hO.born hx1 he hx2]
          omega
    · refine ⟨trivial, ?_⟩
      repeat' (first
        | refine L_rs ?_
        | refine S_done [] rfl (Nx.goL ?_)
        | refine S_done [] rfl (RetQ.keepN rfl rfl rfl rfl ?_)
        | refine S_done [] rfl ?_
        | refine L_block ?_
        | refine L_ret (RetQ.keep rfl rfl rfl rfl ?_)
        | refine L_true rfl ?_
        | refine L_false rfl ?_
        | refine L_skip (Nx.goL ?_)
        | refine L_skip ?_
        | refine L_exit (Nx.goL ?_)
        | refine L_exit ?_
        | refine L_ifp rfl (by first | exact bD | exact bE | exact bN | exact bNB | exact bEB | exact bNot bD | exact bNot bE | exact bNot bN) (fun h => ?_) (fun h => ?_)
        | refine S_Q [] rfl rfl (QY.idxN rfl rfl (by omega)) ?_
        | refine S_Q [] rfl rfl (QY.add rfl rfl rfl (by omega) (by omega)) ?_
        | refine S_Q [] rfl rfl (QY.sub rfl rfl rfl (by omega) (by omega)) ?_
        | refine S_Q [] rfl rfl (QY.mask rfl rfl (by decide) rfl) ?_
        | refine S_Q [] rfl rfl (QY.ldI rfl rfl (List.getElem?_eq_getElem (by omega))) ?_
        | refine S_Q [] rfl rfl (QY.divN rfl rfl rfl (by omega) (by omega)) ?_
        | refine S_Q [] rfl rfl (QY.remN rfl rfl rfl (by omega) (by omega)) ?_
        | refine S_Q [] rfl rfl (QY.mul rfl rfl rfl (by omega) (by omega)) ?_
        | refine S_splitp 25 rfl rfl rfl (by first | exact bD | exact bE | exact bN | exact bNB | exact bEB | exact bNot bD | exact bNot bE | exact bNot bN) (fun h => ?_) (fun h => ?_)
        | refine L_reg ?_
        | refine L_seq ?_
        | exact ⟨rfl, rfl⟩
        | fail)
      exact Nx.pick [] [0, 1, 2, 3] rfl rfl rfl ⟨by rw [meetsG, List.any_eq_false]; intro x hx; have := hs x hx (hall x hx); simp; omega, rfl, rfl⟩
  · rintro _ _ ⟨hq, rfl, rfl⟩
    repeat' (first
      | refine L_rs ?_
      | refine S_done [] rfl (Nx.goL ?_)
      | refine S_done [] rfl (RetQ.keepN rfl rfl rfl rfl ?_)
      | refine S_done [] rfl ?_
      | refine L_block ?_
      | refine L_ret (RetQ.keep rfl rfl rfl rfl ?_)
      | refine L_true rfl ?_
      | refine L_false rfl ?_
      | refine L_skip (Nx.goL ?_)
      | refine L_skip ?_
      | refine L_exit (Nx.goL ?_)
      | refine L_exit ?_
      | refine L_ifp rfl (by first | exact bD | exact bE | exact bN | exact bNB | exact bEB | exact bNot bD | exact bNot bE | exact bNot bN) (fun h => ?_) (fun h => ?_)
      | refine S_Q [] rfl rfl (QY.idxN rfl rfl (by omega)) ?_
      | refine S_Q [] rfl rfl (QY.add rfl rfl rfl (by omega) (by omega)) ?_
      | refine S_Q [] rfl rfl (QY.sub rfl rfl rfl (by omega) (by omega)) ?_
      | refine S_Q [] rfl rfl (QY.mask rfl rfl (by decide) rfl) ?_
      | refine S_Q [] rfl rfl (QY.ldI rfl rfl (List.getElem?_eq_getElem (by omega))) ?_
      | refine S_Q [] rfl rfl (QY.divN rfl rfl rfl (by omega) (by omega)) ?_
      | refine S_Q [] rfl rfl (QY.remN rfl rfl rfl (by omega) (by omega)) ?_
      | refine S_Q [] rfl rfl (QY.mul rfl rfl rfl (by omega) (by omega)) ?_
      | refine S_splitp 25 rfl rfl rfl (by first | exact bD | exact bE | exact bN | exact bNB | exact bEB | exact bNot bD | exact bNot bE | exact bNot bN) (fun h => ?_) (fun h => ?_)
      | refine L_reg ?_
      | refine L_seq ?_
      | exact ⟨rfl, rfl⟩
      | fail)
    refine ⟨?_, rfl⟩
    rw [hq]; rfl
theorem no_find {G : Great} {p n : Int} (hG : Small G 256) (hn : greatC n = true) (hm : meetsG G p (pagesC n) = false) : gfind G p = none := by
  cases hf : gfind G p with
  | none => rfl
  | some x =>
    obtain ⟨h1, h2⟩ := gfind_some hf
    rw [meetsG, List.any_eq_false] at hm
    have h3 := hm x h1
    obtain ⟨_, h5, _⟩ := hG x h1
    have e1 : 1 ≤ pagesC n := by unfold pagesC; unfold greatC at hn; simp at hn; rw [if_neg (by omega)]; omega
    have e2 : 1 ≤ pagesC x.2.1 := by unfold pagesC; unfold greatC at h5; simp at h5; rw [if_neg (by omega)]; omega
    simp only [decide_eq_true_eq] at h3
    omega
/-- the bytes behind a Make -/
def madeB (key : BitVec 64) (bs : Bytes) (p M : Nat) : Bytes := overB (overB bs (256 * p) (List.replicate (256 * M) 0)) (256 * (p + M) - 8) (putB (canW key (256 * p)) 8)
theorem madeB_length {key : BitVec 64} {bs : Bytes} {p M : Nat} (h : 256 * (p + M) ≤ bs.length) (hM : 1 ≤ M) : (madeB key bs p M).length = bs.length := by
  unfold madeB
  have h1 : (overB bs (256 * p) (List.replicate (256 * M) 0)).length = bs.length := overB_length (by rw [List.length_replicate]; omega)
  rw [overB_length (by rw [putB_length, h1]; omega), h1]
theorem greatC_pages {n : Int} (h : greatC n = true) : ∃ M : Nat, pagesC n = M ∧ 1 ≤ M ∧ M ≤ 17 := by
  have h1 := pagesC_bd n
  have e1 : 1 ≤ pagesC n := by unfold pagesC; unfold greatC at h; simp at h; rw [if_neg (by omega)]; omega
  exact ⟨(pagesC n).toNat, by omega, by omega, by omega⟩
set_option maxHeartbeats 1000000 in
theorem largeMake_ok (key : BitVec 64) (bs : Bytes) (N : Nat) (hN : bs.length = 256 * N) (hN2 : N ≤ 256) (G : Great) (c : Nat) (hG : Small G 256) (hO : GOk G c) (p M : Nat) (n : Int) (hn : greatC n = true) (hM : pagesC n = M) (hpM : p + M ≤ N) (hm : meetsG G p M = false) :
    Tr Try.prog 8 [ptr 0, .int .i64 p, .int .i64 n] (SetL key bs G c) (fun v K => v = .int .i64 0 ∧ K = SetL key (madeB key bs p M) (gput G p n c) (c + 1)) := by
  obtain ⟨M', hM', hM1, hM17⟩ := greatC_pages hn
  obtain rfl : M' = M := by omega
  have hb : bs.length ≤ 65536 := by omega
  have hP := Pages_tr n
  rw [hM, hn] at hP
  have hf : gfind G p = none := no_find hG hn (by rw [hM]; exact hm)
  have hX := meets_tr key bs G c hG hO p M' (by omega) (by omega)
  rw [hm] at hX
  have hl1 : (overB bs (256 * p) (List.replicate (256 * M') 0)).length = bs.length := overB_length (by rw [List.length_replicate]; omega)
  have hF := arenaFill_ok bs hb (256 * p) (256 * M') 0 (by omega)
  rw [AL_over (by rw [List.length_replicate]; omega)] at hF
  have hC := canary_tr key (overB bs (256 * p) (List.replicate (256 * M') 0)) (gput G p n c) (c + 1) p n (by omega)
  rw [hM, show 256 * ((p : Int) + M') - 8 = ((256 * (p + M') - 8 : Nat) : Int) by omega] at hC
  have hS := arenaSetWord_ok (overB bs (256 * p) (List.replicate (256 * M') 0)) (by omega) (256 * (p + M') - 8) (by rw [hl1]; omega) (by omega) (canW key (256 * p))
  refine Tr.of row_large_Set_Make_ok rfl ?_
  repeat' (first
    | refine L_rs ?_
    | refine S_done [] rfl (Nx.goL ?_)
    | refine S_done [] rfl (RetQ.keepN rfl rfl rfl rfl ?_)
    | refine S_done [] rfl ?_
    | refine L_block ?_
    | refine L_ret (RetQ.keep rfl rfl rfl rfl ?_)
    | refine L_true rfl ?_
    | refine L_false rfl ?_
    | refine L_skip (Nx.goL ?_)
    | refine L_skip ?_
    | refine L_exit (Nx.goL ?_)
    | refine L_exit ?_
    | refine L_ifp rfl (by first | exact bD | exact bE | exact bN | exact bNB | exact bEB | exact bNot bD | exact bNot bE | exact bNot bN) (fun h => ?_) (fun h => ?_)
    | refine S_Q [] rfl rfl (QY.idxN rfl rfl (by omega)) ?_
    | refine S_Q [] rfl rfl (QY.add rfl rfl rfl (by omega) (by omega)) ?_
    | refine S_Q [] rfl rfl (QY.sub rfl rfl rfl (by omega) (by omega)) ?_
    | refine S_Q [] rfl rfl (QY.mask rfl rfl (by decide) rfl) ?_
    | refine S_Q [] rfl rfl (QY.ldI rfl rfl (List.getElem?_eq_getElem (by omega))) ?_
    | refine S_Q [] rfl rfl (QY.divN rfl rfl rfl (by omega) (by omega)) ?_
    | refine S_Q [] rfl rfl (QY.remN rfl rfl rfl (by omega) (by omega)) ?_
    | refine S_Q [] rfl rfl (QY.mul rfl rfl rfl (by omega) (by omega)) ?_
    | refine S_splitp 22 rfl rfl rfl (by first | exact bD | exact bE | exact bN | exact bNB | exact bEB | exact bNot bD | exact bNot bE | exact bNot bN) (fun h => ?_) (fun h => ?_)
    | refine L_reg ?_
    | refine L_seq ?_
    | exact ⟨rfl, rfl⟩
    | fail)
  first | refine L_rs ?_ | refine L_reg ?_ | skip
  refine S_Ed [] rfl rfl (EWd.callP [] (hP) rfl rfl (by decide) (by repeat' (first | exact trivial | refine ⟨rfl, ?_⟩ | fail)) rfl rfl) (disj_nil _) (nm_nilE _) (nm_nilT _) ?_
  rintro _ _ ⟨rfl, rfl⟩
  refine ⟨(by repeat' (first | exact trivial | refine ⟨⟨qsafe_ok (st := []) rfl, Sure.of rfl⟩, ?_⟩ | refine ⟨.inl rfl, ?_⟩ | refine ⟨.inr ⟨qsafe_ok (st := []) rfl, Sure.of rfl⟩, ?_⟩ | refine ⟨⟨qsafe_ok (st := []) rfl, Sure.slice (by omega)⟩, ?_⟩ | refine ⟨.inr ⟨qsafe_ok (st := []) rfl, Sure.slice (by omega)⟩, ?_⟩ | refine ⟨.inr ⟨QY.neqB rfl (by kernel_rfl) rfl rfl, Sure.of rfl⟩, ?_⟩ | refine ⟨.inr ⟨QY.eqlB rfl (by kernel_rfl) rfl rfl, Sure.of rfl⟩, ?_⟩ | fail)), ?_⟩
  repeat' (first
    | refine L_rs ?_
    | refine S_done [] rfl (Nx.goL ?_)
    | refine S_done [] rfl (RetQ.keepN rfl rfl rfl rfl ?_)
    | refine S_done [] rfl ?_
    | refine L_block ?_
    | refine L_ret (RetQ.keep rfl rfl rfl rfl ?_)
    | refine L_true rfl ?_
    | refine L_false rfl ?_
    | refine L_skip (Nx.goL ?_)
    | refine L_skip ?_
    | refine L_exit (Nx.goL ?_)
    | refine L_exit ?_
    | refine L_ifp rfl (by first | exact bD | exact bE | exact bN | exact bNB | exact bEB | exact bNot bD | exact bNot bE | exact bNot bN) (fun h => ?_) (fun h => ?_)
    | refine S_Q [] rfl rfl (QY.idxN rfl rfl (by omega)) ?_
    | refine S_Q [] rfl rfl (QY.add rfl rfl rfl (by omega) (by omega)) ?_
    | refine S_Q [] rfl rfl (QY.sub rfl rfl rfl (by omega) (by omega)) ?_
    | refine S_Q [] rfl rfl (QY.mask rfl rfl (by decide) rfl) ?_
    | refine S_Q [] rfl rfl (QY.ldI rfl rfl (List.getElem?_eq_getElem (by omega))) ?_
    | refine S_Q [] rfl rfl (QY.divN rfl rfl rfl (by omega) (by omega)) ?_
    | refine S_Q [] rfl rfl (QY.remN rfl rfl rfl (by omega) (by omega)) ?_
    | refine S_Q [] rfl rfl (QY.mul rfl rfl rfl (by omega) (by omega)) ?_
    | refine S_splitp 22 rfl rfl rfl (by first | exact bD | exact bE | exact bN | exact bNB | exact bEB | exact bNot bD | exact bNot bE | exact bNot bN) (fun h => ?_) (fun h => ?_)
    | refine L_reg ?_
    | refine L_seq ?_
    | exact ⟨rfl, rfl⟩
    | fail)
  first | refine L_rs ?_ | refine L_reg ?_ | skip
  refine S_Ed [] rfl rfl (EWd.callP [1, 2] (arenaLen_tr bs) rfl rfl (by decide) (by repeat' (first | exact trivial | refine ⟨rfl, ?_⟩ | fail)) rfl rfl) (disj_nil _) (nm_nilE _) (nm_nilT _) ?_
  rintro _ _ ⟨rfl, rfl⟩
  refine ⟨(by repeat' (first | exact trivial | refine ⟨⟨qsafe_ok (st := []) rfl, Sure.of rfl⟩, ?_⟩ | refine ⟨.inl rfl, ?_⟩ | refine ⟨.inr ⟨qsafe_ok (st := []) rfl, Sure.of rfl⟩, ?_⟩ | refine ⟨⟨qsafe_ok (st := []) rfl, Sure.slice (by omega)⟩, ?_⟩ | refine ⟨.inr ⟨qsafe_ok (st := []) rfl, Sure.slice (by omega)⟩, ?_⟩ | refine ⟨.inr ⟨QY.neqB rfl (by kernel_rfl) rfl rfl, Sure.of rfl⟩, ?_⟩ | refine ⟨.inr ⟨QY.eqlB rfl (by kernel_rfl) rfl rfl, Sure.of rfl⟩, ?_⟩ | fail)), ?_⟩
  repeat' (first
    | refine L_rs ?_
    | refine S_done [] rfl (Nx.goL ?_)
    | refine S_done [] rfl (RetQ.keepN rfl rfl rfl rfl ?_)
    | refine S_done [] rfl ?_
    | refine L_block ?_
    | refine L_ret (RetQ.keep rfl rfl rfl rfl ?_)
    | refine L_true rfl ?_
    | refine L_false rfl ?_
    | refine L_skip (Nx.goL ?_)
    | refine L_skip ?_
    | refine L_exit (Nx.goL ?_)
    | refine L_exit ?_
    | refine L_ifp rfl (by first | exact bD | exact bE | exact bN | exact bNB | exact bEB | exact bNot bD | exact bNot bE | exact bNot bN) (fun h => ?_) (fun h => ?_)
    | refine S_Q [] rfl rfl (QY.idxN rfl rfl (by omega)) ?_
    | refine S_Q [] rfl rfl (QY.add rfl rfl rfl (by omega) (by omega)) ?_
    | refine S_Q [] rfl rfl (QY.sub rfl rfl rfl (by omega) (by omega)) ?_
    | refine S_Q [] rfl rfl (QY.mask rfl rfl (by decide) rfl) ?_
    | refine S_Q [] rfl rfl (QY.ldI rfl rfl (List.getElem?_eq_getElem (by omega))) ?_
    | refine S_Q [] rfl rfl (QY.divN rfl rfl rfl (by omega) (by omega)) ?_
    | refine S_Q [] rfl rfl (QY.remN rfl rfl rfl (by omega) (by omega)) ?_
    | refine S_Q [] rfl rfl (QY.mul rfl rfl rfl (by omega) (by omega)) ?_
    | refine S_splitp 22 rfl rfl rfl (by first | exact bD | exact bE | exact bN | exact bNB | exact bEB | exact bNot bD | exact bNot bE | exact bNot bN) (fun h => ?_) (fun h => ?_)
    | refine L_reg ?_
    | refine L_seq ?_
    | exact ⟨rfl, rfl⟩
    | fail)
  · exfalso; omega
  first | refine L_rs ?_ | refine L_reg ?_ | skip
  refine S_Ed [] rfl rfl (EWd.callP [0, 1, 2, 3] (hX) rfl rfl (by decide) (by repeat' (first | exact trivial | refine ⟨rfl, ?_⟩ | fail)) rfl rfl) (disj_nil _) (nm_nilE _) (nm_nilT _) ?_
  rintro _ _ ⟨rfl, rfl⟩
  refine ⟨(by repeat' (first | exact trivial | refine ⟨⟨qsafe_ok (st := []) rfl, Sure.of rfl⟩, ?_⟩ | refine ⟨.inl rfl, ?_⟩ | refine ⟨.inr ⟨qsafe_ok (st := []) rfl, Sure.of rfl⟩, ?_⟩ | refine ⟨⟨qsafe_ok (st := []) rfl, Sure.slice (by omega)⟩, ?_⟩ | refine ⟨.inr ⟨qsafe_ok (st := []) rfl, Sure.slice (by omega)⟩, ?_⟩ | refine ⟨.inr ⟨QY.neqB rfl (by kernel_rfl) rfl rfl, Sure.of rfl⟩, ?_⟩ | refine ⟨.inr ⟨QY.eqlB rfl (by kernel_rfl) rfl rfl, Sure.of rfl⟩, ?_⟩ | fail)), ?_⟩
  repeat' (first
    | refine L_rs ?_
    | refine S_done [] rfl (Nx.goL ?_)
    | refine S_done [] rfl (RetQ.keepN rfl rfl rfl rfl ?_)
    | refine S_done [] rfl ?_
    | refine L_block ?_
    | refine L_ret (RetQ.keep rfl rfl rfl rfl ?_)
    | refine L_true rfl ?_
    | refine L_false rfl ?_
    | refine L_skip (Nx.goL ?_)
    | refine L_skip ?_
    | refine L_exit (Nx.goL ?_)
    | refine L_exit ?_
    | refine L_ifp rfl (by first | exact bD | exact bE | exact bN | exact bNB | exact bEB | exact bNot bD | exact bNot bE | exact bNot bN) (fun h => ?_) (fun h => ?_)
    | refine S_Q [] rfl rfl (QY.idxN rfl rfl (by omega)) ?_
    | refine S_Q [] rfl rfl (QY.add rfl rfl rfl (by omega) (by omega)) ?_
    | refine S_Q [] rfl rfl (QY.sub rfl rfl rfl (by omega) (by omega)) ?_
    | refine S_Q [] rfl rfl (QY.mask rfl rfl (by decide) rfl) ?_
    | refine S_Q [] rfl rfl (QY.ldI rfl rfl (List.getElem?_eq_getElem (by omega))) ?_
    | refine S_Q [] rfl rfl (QY.divN rfl rfl rfl (by omega) (by omega)) ?_
    | refine S_Q [] rfl rfl (QY.remN rfl rfl rfl (by omega) (by omega)) ?_
    | refine S_Q [] rfl rfl (QY.mul rfl rfl rfl (by omega) (by omega)) ?_
    | refine S_splitp 22 rfl rfl rfl (by first | exact bD | exact bE | exact bN | exact bNB | exact bEB | exact bNot bD | exact bNot bE | exact bNot bN) (fun h => ?_) (fun h => ?_)
    | refine L_reg ?_
    | refine L_seq ?_
    | exact ⟨rfl, rfl⟩
    | fail)
  first | refine L_rs ?_ | refine L_reg ?_ | skip
  refine S_E [] rfl rfl (EW.callF [1, 2] (hF) rfl rfl (by decide) (by repeat' (first | exact trivial | refine ⟨rfl, ?_⟩ | fail)) rfl rfl) ?_
  rintro _ _ ⟨rfl, rfl⟩
  refine ⟨(by repeat' (first | exact trivial | refine ⟨⟨qsafe_ok (st := []) rfl, Sure.of rfl⟩, ?_⟩ | refine ⟨.inl rfl, ?_⟩ | refine ⟨.inr ⟨qsafe_ok (st := []) rfl, Sure.of rfl⟩, ?_⟩ | refine ⟨⟨qsafe_ok (st := []) rfl, Sure.slice (by omega)⟩, ?_⟩ | refine ⟨.inr ⟨qsafe_ok (st := []) rfl, Sure.slice (by omega)⟩, ?_⟩ | refine ⟨.inr ⟨QY.neqB rfl (by kernel_rfl) rfl rfl, Sure.of rfl⟩, ?_⟩ | refine ⟨.inr ⟨QY.eqlB rfl (by kernel_rfl) rfl rfl, Sure.of rfl⟩, ?_⟩ | fail)), LSt.nf ?_⟩
  conv => whnf
  repeat' (first
    | refine L_rs ?_
    | refine S_done [] rfl (Nx.goL ?_)
    | refine S_done [] rfl (RetQ.keepN rfl rfl rfl rfl ?_)
    | refine S_done [] rfl ?_
    | refine L_block ?_
    | refine L_ret (RetQ.keep rfl rfl rfl rfl ?_)
    | refine L_true rfl ?_
    | refine L_false rfl ?_
    | refine L_skip (Nx.goL ?_)
    | refine L_skip ?_
    | refine L_exit (Nx.goL ?_)
    | refine L_exit ?_
    | refine L_ifp rfl (by first | exact bD | exact bE | exact bN | exact bNB | exact bEB | exact bNot bD | exact bNot bE | exact bNot bN) (fun h => ?_) (fun h => ?_)
    | refine S_Q [] rfl rfl (QY.idxN rfl rfl (by omega)) ?_
    | refine S_Q [] rfl rfl (QY.add rfl rfl rfl (by omega) (by omega)) ?_
    | refine S_Q [] rfl rfl (QY.sub rfl rfl rfl (by omega) (by omega)) ?_
    | refine S_Q [] rfl rfl (QY.mask rfl rfl (by decide) rfl) ?_
    | refine S_Q [] rfl rfl (QY.ldI rfl rfl (List.getElem?_eq_getElem (by omega))) ?_
    | refine S_Q [] rfl rfl (QY.divN rfl rfl rfl (by omega) (by omega)) ?_
    | refine S_Q [] rfl rfl (QY.remN rfl rfl rfl (by omega) (by omega)) ?_
    | refine S_Q [] rfl rfl (QY.mul rfl rfl rfl (by omega) (by omega)) ?_
    | refine S_splitp 22 rfl rfl rfl (by first | exact bD | exact bE | exact bN | exact bNB | exact bEB | exact bNot bD | exact bNot bE | exact bNot bN) (fun h => ?_) (fun h => ?_)
    | refine L_reg ?_
    | refine L_seq ?_
    | exact ⟨rfl, rfl⟩
    | fail)
  first | refine L_rs ?_ | refine L_reg ?_ | skip
  refine S_E [] rfl rfl (EW.iputN rfl (by kernel_rfl) rfl rfl rfl rfl hf) ?_
  rintro _ _ ⟨rfl, rfl⟩
  refine ⟨(by repeat' (first | exact trivial | refine ⟨⟨qsafe_ok (st := []) rfl, Sure.of rfl⟩, ?_⟩ | refine ⟨.inl rfl, ?_⟩ | refine ⟨.inr ⟨qsafe_ok (st := []) rfl, Sure.of rfl⟩, ?_⟩ | refine ⟨⟨qsafe_ok (st := []) rfl, Sure.slice (by omega)⟩, ?_⟩ | refine ⟨.inr ⟨qsafe_ok (st := []) rfl, Sure.slice (by omega)⟩, ?_⟩ | refine ⟨.inr ⟨QY.neqB rfl (by kernel_rfl) rfl rfl, Sure.of rfl⟩, ?_⟩ | refine ⟨.inr ⟨QY.eqlB rfl (by kernel_rfl) rfl rfl, Sure.of rfl⟩, ?_⟩ | fail)), LSt.nf ?_⟩
  conv => whnf
  simp only [SetL, hl1] at hC
  have hl2 := madeB_length (key := key) (bs := bs) (p := p) (M := M') (by omega) hM1
  simp only [AL, hl1, overB_length (show 256 * (p + M') - 8 + (putB (canW key (256 * p)) 8).length ≤ (overB bs (256 * p) (List.replicate (256 * M') 0)).length by rw [hl1, putB_length]; omega)] at hS
  repeat' (first
    | refine L_rs ?_
    | refine S_done [] rfl (Nx.goL ?_)
    | refine S_done [] rfl (RetQ.keepN rfl rfl rfl rfl ?_)
    | refine S_done [] rfl ?_
    | refine L_block ?_
    | refine L_ret (RetQ.keep rfl rfl rfl rfl ?_)
    | refine L_true rfl ?_
    | refine L_false rfl ?_
    | refine L_skip (Nx.goL ?_)
    | refine L_skip ?_
    | refine L_exit (Nx.goL ?_)
    | refine L_exit ?_
    | refine L_ifp rfl (by first | exact bD | exact bE | exact bN | exact bNB | exact bEB | exact bNot bD | exact bNot bE | exact bNot bN) (fun h => ?_) (fun h => ?_)
    | refine S_Q [] rfl rfl (QY.idxN rfl rfl (by omega)) ?_
    | refine S_Q [] rfl rfl (QY.add rfl rfl rfl (by omega) (by omega)) ?_
    | refine S_Q [] rfl rfl (QY.sub rfl rfl rfl (by omega) (by omega)) ?_
    | refine S_Q [] rfl rfl (QY.mask rfl rfl (by decide) rfl) ?_
    | refine S_Q [] rfl rfl (QY.ldI rfl rfl (List.getElem?_eq_getElem (by omega))) ?_
    | refine S_Q [] rfl rfl (QY.divN rfl rfl rfl (by omega) (by omega)) ?_
    | refine S_Q [] rfl rfl (QY.remN rfl rfl rfl (by omega) (by omega)) ?_
    | refine S_Q [] rfl rfl (QY.mul rfl rfl rfl (by omega) (by omega)) ?_
    | refine S_splitp 22 rfl rfl rfl (by first | exact bD | exact bE | exact bN | exact bNB | exact bEB | exact bNot bD | exact bNot bE | exact bNot bN) (fun h => ?_) (fun h => ?_)
    | refine L_reg ?_
    | refine L_seq ?_
    | exact ⟨rfl, rfl⟩
    | fail)
  first | refine L_rs ?_ | refine L_reg ?_ | skip
  refine S_Ed [] rfl rfl (EWd.callP [0, 1, 2, 3] (hC) rfl rfl (by decide) (by repeat' (first | exact trivial | refine ⟨rfl, ?_⟩ | fail)) rfl rfl) (disj_nil _) (nm_nilE _) (nm_nilT _) ?_
  rintro _ _ ⟨rfl, rfl⟩
  refine ⟨(by repeat' (first | exact trivial | refine ⟨⟨qsafe_ok (st := []) rfl, Sure.of rfl⟩, ?_⟩ | refine ⟨.inl rfl, ?_⟩ | refine ⟨.inr ⟨qsafe_ok (st := []) rfl, Sure.of rfl⟩, ?_⟩ | refine ⟨⟨qsafe_ok (st := []) rfl, Sure.slice (by omega)⟩, ?_⟩ | refine ⟨.inr ⟨qsafe_ok (st := []) rfl, Sure.slice (by omega)⟩, ?_⟩ | refine ⟨.inr ⟨QY.neqB rfl (by kernel_rfl) rfl rfl, Sure.of rfl⟩, ?_⟩ | refine ⟨.inr ⟨QY.eqlB rfl (by kernel_rfl) rfl rfl, Sure.of rfl⟩, ?_⟩ | fail)), ?_⟩
  repeat' (first
    | refine L_rs ?_
    | refine S_done [] rfl (Nx.goL ?_)
    | refine S_done [] rfl (RetQ.keepN rfl rfl rfl rfl ?_)
    | refine S_done [] rfl ?_
    | refine L_block ?_
    | refine L_ret (RetQ.keep rfl rfl rfl rfl ?_)
    | refine L_true rfl ?_
    | refine L_false rfl ?_
    | refine L_skip (Nx.goL ?_)
    | refine L_skip ?_
    | refine L_exit (Nx.goL ?_)
    | refine L_exit ?_
    | refine L_ifp rfl (by first | exact bD | exact bE | exact bN | exact bNB | exact bEB | exact bNot bD | exact bNot bE | exact bNot bN) (fun h => ?_) (fun h => ?_)
    | refine S_Q [] rfl rfl (QY.idxN rfl rfl (by omega)) ?_
    | refine S_Q [] rfl rfl (QY.add rfl rfl rfl (by omega) (by omega)) ?_
    | refine S_Q [] rfl rfl (QY.sub rfl rfl rfl (by omega) (by omega)) ?_
    | refine S_Q [] rfl rfl (QY.mask rfl rfl (by decide) rfl) ?_
    | refine S_Q [] rfl rfl (QY.ldI rfl rfl (List.getElem?_eq_getElem (by omega))) ?_
    | refine S_Q [] rfl rfl (QY.divN rfl rfl rfl (by omega) (by omega)) ?_
    | refine S_Q [] rfl rfl (QY.remN rfl rfl rfl (by omega) (by omega)) ?_
    | refine S_Q [] rfl rfl (QY.mul rfl rfl rfl (by omega) (by omega)) ?_
    | refine S_splitp 22 rfl rfl rfl (by first | exact bD | exact bE | exact bN | exact bNB | exact bEB | exact bNot bD | exact bNot bE | exact bNot bN) (fun h => ?_) (fun h => ?_)
    | refine L_reg ?_
    | refine L_seq ?_
    | exact ⟨rfl, rfl⟩
    | fail)
  first | refine L_rs ?_ | refine L_reg ?_ | skip
  refine S_E [] rfl rfl (EW.callF [1, 2] (hS) rfl rfl (by decide) (by repeat' (first | exact trivial | refine ⟨rfl, ?_⟩ | fail)) rfl rfl) ?_
  rintro _ _ ⟨rfl, rfl⟩
  refine ⟨(by repeat' (first | exact trivial | refine ⟨⟨qsafe_ok (st := []) rfl, Sure.of rfl⟩, ?_⟩ | refine ⟨.inl rfl, ?_⟩ | refine ⟨.inr ⟨qsafe_ok (st := []) rfl, Sure.of rfl⟩, ?_⟩ | refine ⟨⟨qsafe_ok (st := []) rfl, Sure.slice (by omega)⟩, ?_⟩ | refine ⟨.inr ⟨qsafe_ok (st := []) rfl, Sure.slice (by omega)⟩, ?_⟩ | refine ⟨.inr ⟨QY.neqB rfl (by kernel_rfl) rfl rfl, Sure.of rfl⟩, ?_⟩ | refine ⟨.inr ⟨QY.eqlB rfl (by kernel_rfl) rfl rfl, Sure.of rfl⟩, ?_⟩ | fail)), LSt.nf ?_⟩
  conv => whnf
  repeat' (first
    | refine L_rs ?_
    | refine S_done [] rfl (Nx.goL ?_)
    | refine S_done [] rfl (RetQ.keepN rfl rfl rfl rfl ?_)
    | refine S_done [] rfl ?_
    | refine L_block ?_
    | refine L_ret (RetQ.keep rfl rfl rfl rfl ?_)
    | refine L_true rfl ?_
    | refine L_false rfl ?_
    | refine L_skip (Nx.goL ?_)
    | refine L_skip ?_
    | refine L_exit (Nx.goL ?_)
    | refine L_exit ?_
    | refine L_ifp rfl (by first | exact bD | exact bE | exact bN | exact bNB | exact bEB | exact bNot bD | exact bNot bE | exact bNot bN) (fun h => ?_) (fun h => ?_)
    | refine S_Q [] rfl rfl (QY.idxN rfl rfl (by omega)) ?_
    | refine S_Q [] rfl rfl (QY.add rfl rfl rfl (by omega) (by omega)) ?_
    | refine S_Q [] rfl rfl (QY.sub rfl rfl rfl (by omega) (by omega)) ?_
    | refine S_Q [] rfl rfl (QY.mask rfl rfl (by decide) rfl) ?_
    | refine S_Q [] rfl rfl (QY.ldI rfl rfl (List.getElem?_eq_getElem (by omega))) ?_
    | refine S_Q [] rfl rfl (QY.divN rfl rfl rfl (by omega) (by omega)) ?_
    | refine S_Q [] rfl rfl (QY.remN rfl rfl rfl (by omega) (by omega)) ?_
    | refine S_Q [] rfl rfl (QY.mul rfl rfl rfl (by omega) (by omega)) ?_
    | refine S_splitp 22 rfl rfl rfl (by first | exact bD | exact bE | exact bN | exact bNB | exact bEB | exact bNot bD | exact bNot bE | exact bNot bN) (fun h => ?_) (fun h => ?_)
    | refine L_reg ?_
    | refine L_seq ?_
    | exact ⟨rfl, rfl⟩
    | fail)
  refine ⟨rfl, ?_⟩
  simp only [SetL, hl2]
  rfl
set_option maxHeartbeats 1000000 in
theorem largeDrop_ok (key : BitVec 64) (bs : Bytes) (hb : bs.length ≤ 65536) (G : Great) (c : Nat) (p M : Nat) (n : Int) (hf : ghas G p = true) (hg : gget G p = n) (hM : pagesC n = M) (hM1 : 1 ≤ M) (hp : 256 * (p + M) ≤ bs.length) :
    Tr Try.prog 11 [ptr 0, .int .i64 p] (SetL key bs G c) (fun v K => v = .tuple ⟨[.bool (decide (wordB bs (256 * (p + M) - 8) = canW key (256 * p))), .int .i64 0]⟩ ∧ K = SetL key (overB bs (256 * p) (List.replicate (256 * M) 0xDD#8)) (gdel G p) c) := by
  have hl1 : (overB bs (256 * p) (List.replicate (256 * M) 0xDD#8)).length = bs.length := overB_length (by rw [List.length_replicate]; omega)
  have hS := stands_tr key bs hb G c p n hg (256 * (p + M) - 8) (by omega) (by omega) (by omega)
  have hR := run_tr n
  rw [hM] at hR
  have hF := arenaFill_ok bs hb (256 * p) (256 * M) 0xDD#8 (by omega)
  rw [AL_over (by rw [List.length_replicate]; omega)] at hF
  refine Tr.of row_large_Set_Drop_ok rfl ?_
  repeat' (first
    | refine L_rs ?_
    | refine S_done [] rfl (Nx.goL ?_)
    | refine S_done [] rfl (RetQ.keepN rfl rfl rfl rfl ?_)
    | refine S_done [] rfl ?_
    | refine L_block ?_
    | refine L_ret (RetQ.keep rfl rfl rfl rfl ?_)
    | refine L_true rfl ?_
    | refine L_false rfl ?_
    | refine L_skip (Nx.goL ?_)
    | refine L_skip ?_
    | refine L_exit (Nx.goL ?_)
    | refine L_exit ?_
    | refine L_ifp rfl (by first | exact bD | exact bE | exact bN | exact bNB | exact bEB | exact bNot bD | exact bNot bE | exact bNot bN) (fun h => ?_) (fun h => ?_)
    | refine S_Q [] rfl rfl (QY.idxN rfl rfl (by omega)) ?_
    | refine S_Q [] rfl rfl (QY.add rfl rfl rfl (by omega) (by omega)) ?_
    | refine S_Q [] rfl rfl (QY.sub rfl rfl rfl (by omega) (by omega)) ?_
    | refine S_Q [] rfl rfl (QY.mask rfl rfl (by decide) rfl) ?_
    | refine S_Q [] rfl rfl (QY.ldI rfl rfl (List.getElem?_eq_getElem (by omega))) ?_
    | refine S_Q [] rfl rfl (QY.divN rfl rfl rfl (by omega) (by omega)) ?_
    | refine S_Q [] rfl rfl (QY.remN rfl rfl rfl (by omega) (by omega)) ?_
    | refine S_Q [] rfl rfl (QY.mul rfl rfl rfl (by omega) (by omega)) ?_
    | refine L_reg ?_
    | refine L_seq ?_
    | exact ⟨rfl, rfl⟩
    | fail)
  first | refine L_rs ?_ | refine L_reg ?_ | skip
  refine S_Q [] rfl rfl (QY.igetok rfl (by kernel_rfl) rfl rfl rfl hg hf) ?_
  repeat' (first
    | refine L_rs ?_
    | refine S_done [] rfl (Nx.goL ?_)
    | refine S_done [] rfl (RetQ.keepN rfl rfl rfl rfl ?_)
    | refine S_done [] rfl ?_
    | refine L_block ?_
    | refine L_ret (RetQ.keep rfl rfl rfl rfl ?_)
    | refine L_true rfl ?_
    | refine L_false rfl ?_
    | refine L_skip (Nx.goL ?_)
    | refine L_skip ?_
    | refine L_exit (Nx.goL ?_)
    | refine L_exit ?_
    | refine L_ifp rfl (by first | exact bD | exact bE | exact bN | exact bNB | exact bEB | exact bNot bD | exact bNot bE | exact bNot bN) (fun h => ?_) (fun h => ?_)
    | refine S_Q [] rfl rfl (QY.idxN rfl rfl (by omega)) ?_
    | refine S_Q [] rfl rfl (QY.add rfl rfl rfl (by omega) (by omega)) ?_
    | refine S_Q [] rfl rfl (QY.sub rfl rfl rfl (by omega) (by omega)) ?_
    | refine S_Q [] rfl rfl (QY.mask rfl rfl (by decide) rfl) ?_
    | refine S_Q [] rfl rfl (QY.ldI rfl rfl (List.getElem?_eq_getElem (by omega))) ?_
    | refine S_Q [] rfl rfl (QY.divN rfl rfl rfl (by omega) (by omega)) ?_
    | refine S_Q [] rfl rfl (QY.remN rfl rfl rfl (by omega) (by omega)) ?_
    | refine S_Q [] rfl rfl (QY.mul rfl rfl rfl (by omega) (by omega)) ?_
    | refine L_reg ?_
    | refine L_seq ?_
    | exact ⟨rfl, rfl⟩
    | fail)
  first | refine L_rs ?_ | refine L_reg ?_ | skip
  refine S_Ed [] rfl rfl (EWd.callP [0, 1, 2, 3] (hS) rfl rfl (by decide) (by repeat' (first | exact trivial | refine ⟨rfl, ?_⟩ | fail)) rfl rfl) (disj_nil _) (nm_nilE _) (nm_nilT _) ?_
  rintro _ _ ⟨rfl, rfl⟩
  refine ⟨(by repeat' (first | exact trivial | refine ⟨⟨qsafe_ok (st := []) rfl, Sure.of rfl⟩, ?_⟩ | refine ⟨.inl rfl, ?_⟩ | refine ⟨.inr ⟨qsafe_ok (st := []) rfl, Sure.of rfl⟩, ?_⟩ | refine ⟨⟨qsafe_ok (st := []) rfl, Sure.slice (by omega)⟩, ?_⟩ | refine ⟨.inr ⟨qsafe_ok (st := []) rfl, Sure.slice (by omega)⟩, ?_⟩ | refine ⟨.inr ⟨QY.neqB rfl (by kernel_rfl) rfl rfl, Sure.of rfl⟩, ?_⟩ | refine ⟨.inr ⟨QY.eqlB rfl (by kernel_rfl) rfl rfl, Sure.of rfl⟩, ?_⟩ | fail)), ?_⟩
  repeat' (first
    | refine L_rs ?_
    | refine S_done [] rfl (Nx.goL ?_)
    | refine S_done [] rfl (RetQ.keepN rfl rfl rfl rfl ?_)
    | refine S_done [] rfl ?_
    | refine L_block ?_
    | refine L_ret (RetQ.keep rfl rfl rfl rfl ?_)
    | refine L_true rfl ?_
    | refine L_false rfl ?_
    | refine L_skip (Nx.goL ?_)
    | refine L_skip ?_
    | refine L_exit (Nx.goL ?_)
    | refine L_exit ?_
    | refine L_ifp rfl (by first | exact bD | exact bE | exact bN | exact bNB | exact bEB | exact bNot bD | exact bNot bE | exact bNot bN) (fun h => ?_) (fun h => ?_)
    | refine S_Q [] rfl rfl (QY.idxN rfl rfl (by omega)) ?_
    | refine S_Q [] rfl rfl (QY.add rfl rfl rfl (by omega) (by omega)) ?_
    | refine S_Q [] rfl rfl (QY.sub rfl rfl rfl (by omega) (by omega)) ?_
    | refine S_Q [] rfl rfl (QY.mask rfl rfl (by decide) rfl) ?_
    | refine S_Q [] rfl rfl (QY.ldI rfl rfl (List.getElem?_eq_getElem (by omega))) ?_
    | refine S_Q [] rfl rfl (QY.divN rfl rfl rfl (by omega) (by omega)) ?_
    | refine S_Q [] rfl rfl (QY.remN rfl rfl rfl (by omega) (by omega)) ?_
    | refine S_Q [] rfl rfl (QY.mul rfl rfl rfl (by omega) (by omega)) ?_
    | refine L_reg ?_
    | refine L_seq ?_
    | exact ⟨rfl, rfl⟩
    | fail)
  first | refine L_rs ?_ | refine L_reg ?_ | skip
  refine S_E [] rfl rfl (EW.idel rfl (by kernel_rfl) rfl rfl rfl) ?_
  rintro _ _ ⟨rfl, rfl⟩
  refine ⟨(by repeat' (first | exact trivial | refine ⟨⟨qsafe_ok (st := []) rfl, Sure.of rfl⟩, ?_⟩ | refine ⟨.inl rfl, ?_⟩ | refine ⟨.inr ⟨qsafe_ok (st := []) rfl, Sure.of rfl⟩, ?_⟩ | refine ⟨⟨qsafe_ok (st := []) rfl, Sure.slice (by omega)⟩, ?_⟩ | refine ⟨.inr ⟨qsafe_ok (st := []) rfl, Sure.slice (by omega)⟩, ?_⟩ | refine ⟨.inr ⟨QY.neqB rfl (by kernel_rfl) rfl rfl, Sure.of rfl⟩, ?_⟩ | refine ⟨.inr ⟨QY.eqlB rfl (by kernel_rfl) rfl rfl, Sure.of rfl⟩, ?_⟩ | fail)), LSt.nf ?_⟩
  conv => whnf
  repeat' (first
    | refine L_rs ?_
    | refine S_done [] rfl (Nx.goL ?_)
    | refine S_done [] rfl (RetQ.keepN rfl rfl rfl rfl ?_)
    | refine S_done [] rfl ?_
    | refine L_block ?_
    | refine L_ret (RetQ.keep rfl rfl rfl rfl ?_)
    | refine L_true rfl ?_
    | refine L_false rfl ?_
    | refine L_skip (Nx.goL ?_)
    | refine L_skip ?_
    | refine L_exit (Nx.goL ?_)
    | refine L_exit ?_
    | refine L_ifp rfl (by first | exact bD | exact bE | exact bN | exact bNB | exact bEB | exact bNot bD | exact bNot bE | exact bNot bN) (fun h => ?_) (fun h => ?_)
    | refine S_Q [] rfl rfl (QY.idxN rfl rfl (by omega)) ?_
    | refine S_Q [] rfl rfl (QY.add rfl rfl rfl (by omega) (by omega)) ?_
    | refine S_Q [] rfl rfl (QY.sub rfl rfl rfl (by omega) (by omega)) ?_
    | refine S_Q [] rfl rfl (QY.mask rfl rfl (by decide) rfl) ?_
    | refine S_Q [] rfl rfl (QY.ldI rfl rfl (List.getElem?_eq_getElem (by omega))) ?_
    | refine S_Q [] rfl rfl (QY.divN rfl rfl rfl (by omega) (by omega)) ?_
    | refine S_Q [] rfl rfl (QY.remN rfl rfl rfl (by omega) (by omega)) ?_
    | refine S_Q [] rfl rfl (QY.mul rfl rfl rfl (by omega) (by omega)) ?_
    | refine L_reg ?_
    | refine L_seq ?_
    | exact ⟨rfl, rfl⟩
    | fail)
  first | refine L_rs ?_ | refine L_reg ?_ | skip
  refine S_Ed [] rfl rfl (EWd.callP [] (hR) rfl rfl (by decide) (by repeat' (first | exact trivial | refine ⟨rfl, ?_⟩ | fail)) rfl rfl) (disj_nil _) (nm_nilE _) (nm_nilT _) ?_
  rintro _ _ ⟨rfl, rfl⟩
  refine ⟨(by repeat' (first | exact trivial | refine ⟨⟨qsafe_ok (st := []) rfl, Sure.of rfl⟩, ?_⟩ | refine ⟨.inl rfl, ?_⟩ | refine ⟨.inr ⟨qsafe_ok (st := []) rfl, Sure.of rfl⟩, ?_⟩ | refine ⟨⟨qsafe_ok (st := []) rfl, Sure.slice (by omega)⟩, ?_⟩ | refine ⟨.inr ⟨qsafe_ok (st := []) rfl, Sure.slice (by omega)⟩, ?_⟩ | refine ⟨.inr ⟨QY.neqB rfl (by kernel_rfl) rfl rfl, Sure.of rfl⟩, ?_⟩ | refine ⟨.inr ⟨QY.eqlB rfl (by kernel_rfl) rfl rfl, Sure.of rfl⟩, ?_⟩ | fail)), ?_⟩
  repeat' (first
    | refine L_rs ?_
    | refine S_done [] rfl (Nx.goL ?_)
    | refine S_done [] rfl (RetQ.keepN rfl rfl rfl rfl ?_)
    | refine S_done [] rfl ?_
    | refine L_block ?_
    | refine L_ret (RetQ.keep rfl rfl rfl rfl ?_)
    | refine L_true rfl ?_
    | refine L_false rfl ?_
    | refine L_skip (Nx.goL ?_)
    | refine L_skip ?_
    | refine L_exit (Nx.goL ?_)
    | refine L_exit ?_
    | refine L_ifp rfl (by first | exact bD | exact bE | exact bN | exact bNB | exact bEB | exact bNot bD | exact bNot bE | exact bNot bN) (fun h => ?_) (fun h => ?_)
    | refine S_Q [] rfl rfl (QY.idxN rfl rfl (by omega)) ?_
    | refine S_Q [] rfl rfl (QY.add rfl rfl rfl (by omega) (by omega)) ?_
    | refine S_Q [] rfl rfl (QY.sub rfl rfl rfl (by omega) (by omega)) ?_
    | refine S_Q [] rfl rfl (QY.mask rfl rfl (by decide) rfl) ?_
    | refine S_Q [] rfl rfl (QY.ldI rfl rfl (List.getElem?_eq_getElem (by omega))) ?_
    | refine S_Q [] rfl rfl (QY.divN rfl rfl rfl (by omega) (by omega)) ?_
    | refine S_Q [] rfl rfl (QY.remN rfl rfl rfl (by omega) (by omega)) ?_
    | refine S_Q [] rfl rfl (QY.mul rfl rfl rfl (by omega) (by omega)) ?_
    | refine L_reg ?_
    | refine L_seq ?_
    | exact ⟨rfl, rfl⟩
    | fail)
  first | refine L_rs ?_ | refine L_reg ?_ | skip
  refine S_E [] rfl rfl (EW.callF [1, 2] (hF) rfl rfl (by decide) (by repeat' (first | exact trivial | refine ⟨rfl, ?_⟩ | fail)) rfl rfl) ?_
  rintro _ _ ⟨rfl, rfl⟩
  refine ⟨(by repeat' (first | exact trivial | refine ⟨⟨qsafe_ok (st := []) rfl, Sure.of rfl⟩, ?_⟩ | refine ⟨.inl rfl, ?_⟩ | refine ⟨.inr ⟨qsafe_ok (st := []) rfl, Sure.of rfl⟩, ?_⟩ | refine ⟨⟨qsafe_ok (st := []) rfl, Sure.slice (by omega)⟩, ?_⟩ | refine ⟨.inr ⟨qsafe_ok (st := []) rfl, Sure.slice (by omega)⟩, ?_⟩ | refine ⟨.inr ⟨QY.neqB rfl (by kernel_rfl) rfl rfl, Sure.of rfl⟩, ?_⟩ | refine ⟨.inr ⟨QY.eqlB rfl (by kernel_rfl) rfl rfl, Sure.of rfl⟩, ?_⟩ | fail)), LSt.nf ?_⟩
  conv => whnf
  repeat' (first
    | refine L_rs ?_
    | refine S_done [] rfl (Nx.goL ?_)
    | refine S_done [] rfl (RetQ.keepN rfl rfl rfl rfl ?_)
    | refine S_done [] rfl ?_
    | refine L_block ?_
    | refine L_ret (RetQ.keep rfl rfl rfl rfl ?_)
    | refine L_true rfl ?_
    | refine L_false rfl ?_
    | refine L_skip (Nx.goL ?_)
    | refine L_skip ?_
    | refine L_exit (Nx.goL ?_)
    | refine L_exit ?_
    | refine L_ifp rfl (by first | exact bD | exact bE | exact bN | exact bNB | exact bEB | exact bNot bD | exact bNot bE | exact bNot bN) (fun h => ?_) (fun h => ?_)
    | refine S_Q [] rfl rfl (QY.idxN rfl rfl (by omega)) ?_
    | refine S_Q [] rfl rfl (QY.add rfl rfl rfl (by omega) (by omega)) ?_
    | refine S_Q [] rfl rfl (QY.sub rfl rfl rfl (by omega) (by omega)) ?_
    | refine S_Q [] rfl rfl (QY.mask rfl rfl (by decide) rfl) ?_
    | refine S_Q [] rfl rfl (QY.ldI rfl rfl (List.getElem?_eq_getElem (by omega))) ?_
    | refine S_Q [] rfl rfl (QY.divN rfl rfl rfl (by omega) (by omega)) ?_
    | refine S_Q [] rfl rfl (QY.remN rfl rfl rfl (by omega) (by omega)) ?_
    | refine S_Q [] rfl rfl (QY.mul rfl rfl rfl (by omega) (by omega)) ?_
    | refine L_reg ?_
    | refine L_seq ?_
    | exact ⟨rfl, rfl⟩
    | fail)
  refine ⟨rfl, ?_⟩
  simp only [SetL, hl1]
  rfl
/-- does a block's canary stand? -/
def standsG (key : BitVec 64) (bs : Bytes) (x : Int × Int × Nat) : Bool := decide (wordB bs (256 * (x.1 + pagesC x.2.1) - 8).toNat = canW key (256 * x.1))
set_option maxHeartbeats 1000000 in
theorem largeCheck_tr (key : BitVec 64) (bs : Bytes) (N : Nat) (hN : bs.length = 256 * N) (hN2 : N ≤ 256) (G : Great) (c : Nat) (hG : Small G N) (hO : GOk G c) :
    Tr Try.prog 12 [ptr 0] (SetL key bs G c) (fun v K => v = .int .i64 (if G.all (standsG key bs) then 0 else 4) ∧ K = SetL key bs G c) := by
  refine Tr.of row_large_Set_Check_ok rfl ?_
  refine L_rs (S_done [] rfl (Nx.goL (L_seq (L_rs (S_done [] rfl (Nx.goL (L_false rfl (L_skip (Nx.goL ?_)))))))))
  refine L_cut (fun l L => G.all (standsG key bs) = true ∧ l = [] ∧ L = SetL key bs G c) ?_ ?_
  · repeat' (first
      | refine L_rs ?_
      | refine S_done [] rfl (Nx.goL ?_)
      | refine S_done [] rfl (RetQ.keepN rfl rfl rfl rfl ?_)
      | refine S_done [] rfl ?_
      | refine L_block ?_
      | refine L_ret (RetQ.keep rfl rfl rfl rfl ?_)
      | refine L_true rfl ?_
      | refine L_false rfl ?_
      | refine L_skip (Nx.goL ?_)
      | refine L_skip ?_
      | refine L_exit (Nx.goL ?_)
      | refine L_exit ?_
      | refine L_ifp rfl (by first | exact bD | exact bE | exact bN | exact bNB | exact bEB | exact bNot bD | exact bNot bE | exact bNot bN) (fun h => ?_) (fun h => ?_)
      | refine S_Q [] rfl rfl (QY.idxN rfl rfl (by omega)) ?_
      | refine S_Q [] rfl rfl (QY.add rfl rfl rfl (by omega) (by omega)) ?_
      | refine S_Q [] rfl rfl (QY.sub rfl rfl rfl (by omega) (by omega)) ?_
      | refine S_Q [] rfl rfl (QY.mask rfl rfl (by decide) rfl) ?_
      | refine S_Q [] rfl rfl (QY.ldI rfl rfl (List.getElem?_eq_getElem (by omega))) ?_
      | refine S_Q [] rfl rfl (QY.divN rfl rfl rfl (by omega) (by omega)) ?_
      | refine S_Q [] rfl rfl (QY.remN rfl rfl rfl (by omega) (by omega)) ?_
      | refine S_Q [] rfl rfl (QY.mul rfl rfl rfl (by omega) (by omega)) ?_
      | refine L_reg ?_
      | refine L_seq ?_
      | exact ⟨rfl, rfl⟩
      | fail)
    first | refine L_rs ?_ | refine L_reg ?_ | skip
    refine S_E [] rfl rfl (EW.irange rfl (by kernel_rfl) rfl rfl) ?_
    rintro _ _ ⟨rfl, rfl⟩
    refine ⟨(by repeat' (first | exact trivial | refine ⟨⟨qsafe_ok (st := []) rfl, Sure.of rfl⟩, ?_⟩ | refine ⟨.inl rfl, ?_⟩ | refine ⟨.inr ⟨qsafe_ok (st := []) rfl, Sure.of rfl⟩, ?_⟩ | refine ⟨⟨qsafe_ok (st := []) rfl, Sure.slice (by omega)⟩, ?_⟩ | refine ⟨.inr ⟨qsafe_ok (st := []) rfl, Sure.slice (by omega)⟩, ?_⟩ | refine ⟨.inr ⟨QY.neqB rfl (by kernel_rfl) rfl rfl, Sure.of rfl⟩, ?_⟩ | refine ⟨.inr ⟨QY.eqlB rfl (by kernel_rfl) rfl rfl, Sure.of rfl⟩, ?_⟩ | fail)), LSt.nf ?_⟩
    conv => whnf
    refine S_done [] rfl (Nx.pick [0, 10] [0, 1, 2, 3, 4] rfl rfl rfl ?_)
    refine L_block (L_loop (fun r l L => ∃ seen : List Nat, r = unseen G seen ∧ (∀ x ∈ G, x.2.2 ∈ seen → standsG key bs x = true) ∧ l = [(0, ptr 0), (10, ptr 4)] ∧ L = SetL key bs G c ++ [.iter (some 3) c seen c]) (unseen G []) ⟨[], rfl, by simp, rfl, rfl⟩ ?_)
    rintro r _ _ ⟨seen, rfl, hs, rfl, rfl⟩
    refine L_rs (S_E [] rfl rfl (EW.inext rfl rfl rfl rfl) ?_)
    rintro _ _ (⟨e, he, hns, rfl, rfl⟩ | ⟨hall, rfl, rfl⟩)
    · refine ⟨trivial, LSt.nf ?_⟩
      conv => whnf
      refine S_done [] rfl (Nx.goL (L_seq (L_true rfl (L_skip (Nx.goL (L_block ?_))))))
      obtain ⟨hx0, hx1, hx2⟩ := hG e he
      obtain ⟨M, hM, hM1, _⟩ := greatC_pages hx1
      obtain ⟨q, hq⟩ := Int.eq_ofNat_of_zero_le hx0
      have hS := stands_tr key bs (by omega) G c q e.2.1 (by rw [← hq]; simp only [gget, hO.find he]; rfl) (256 * (q + M) - 8) (by omega) (by omega) (by omega)
      have hst : decide (wordB bs (256 * (q + M) - 8) = canW key (256 * q)) = standsG key bs e := by
        unfold standsG
        rw [hq, hM, show (256 * ((q : Int) + M) - 8).toNat = 256 * (q + M) - 8 by omega]
      rw [hst, ← hq] at hS
      first | refine L_rs ?_ | refine L_reg ?_ | skip
      refine S_E [] rfl rfl (EW.ientry rfl rfl rfl rfl he) ?_
      rintro _ _ ⟨rfl, rfl⟩
      refine ⟨(by repeat' (first | exact trivial | refine ⟨⟨qsafe_ok (st := []) rfl, Sure.of rfl⟩, ?_⟩ | refine ⟨.inl rfl, ?_⟩ | refine ⟨.inr ⟨qsafe_ok (st := []) rfl, Sure.of rfl⟩, ?_⟩ | refine ⟨⟨qsafe_ok (st := []) rfl, Sure.slice (by omega)⟩, ?_⟩ | refine ⟨.inr ⟨qsafe_ok (st := []) rfl, Sure.slice (by omega)⟩, ?_⟩ | refine ⟨.inr ⟨QY.neqB rfl (by kernel_rfl) rfl rfl, Sure.of rfl⟩, ?_⟩ | refine ⟨.inr ⟨QY.eqlB rfl (by kernel_rfl) rfl rfl, Sure.of rfl⟩, ?_⟩ | fail)), LSt.nf ?_⟩
      conv => whnf
      repeat' (first
        | refine L_rs ?_
        | refine S_done [] rfl (Nx.goL ?_)
        | refine S_done [] rfl (RetQ.keepN rfl rfl rfl rfl ?_)
        | refine S_done [] rfl ?_
        | refine L_block ?_
        | refine L_ret (RetQ.keep rfl rfl rfl rfl ?_)
        | refine L_true rfl ?_
        | refine L_false rfl ?_
        | refine L_skip (Nx.goL ?_)
        | refine L_skip ?_
        | refine L_exit (Nx.goL ?_)
        | refine L_exit ?_
        | refine L_ifp rfl (by first | exact bD | exact bE | exact bN | exact bNB | exact bEB | exact bNot bD | exact bNot bE | exact bNot bN) (fun h => ?_) (fun h => ?_)
        | refine S_Q [] rfl rfl (QY.idxN rfl rfl (by omega)) ?_
        | refine S_Q [] rfl rfl (QY.add rfl rfl rfl (by omega) (by omega)) ?_
        | refine S_Q [] rfl rfl (QY.sub rfl rfl rfl (by omega) (by omega)) ?_
        | refine S_Q [] rfl rfl (QY.mask rfl rfl (by decide) rfl) ?_
        | refine S_Q [] rfl rfl (QY.ldI rfl rfl (List.getElem?_eq_getElem (by omega))) ?_
        | refine S_Q [] rfl rfl (QY.divN rfl rfl rfl (by omega) (by omega)) ?_
        | refine S_Q [] rfl rfl (QY.remN rfl rfl rfl (by omega) (by omega)) ?_
        | refine S_Q [] rfl rfl (QY.mul rfl rfl rfl (by omega) (by omega)) ?_
        | refine L_reg ?_
        | refine L_seq ?_
        | exact ⟨rfl, rfl⟩
        | fail)
      first | refine L_rs ?_ | refine L_reg ?_ | skip
      refine S_Ed [] rfl rfl (EWd.callP [0, 1, 2, 3] (hS) rfl rfl (by decide) (by repeat' (first | exact trivial | refine ⟨rfl, ?_⟩ | fail)) rfl rfl) (disj_nil _) (nm_nilE _) (nm_nilT _) ?_
      rintro _ _ ⟨rfl, rfl⟩
      refine ⟨(by repeat' (first | exact trivial | refine ⟨⟨qsafe_ok (st := []) rfl, Sure.of rfl⟩, ?_⟩ | refine ⟨.inl rfl, ?_⟩ | refine ⟨.inr ⟨qsafe_ok (st := []) rfl, Sure.of rfl⟩, ?_⟩ | refine ⟨⟨qsafe_ok (st := []) rfl, Sure.slice (by omega)⟩, ?_⟩ | refine ⟨.inr ⟨qsafe_ok (st := []) rfl, Sure.slice (by omega)⟩, ?_⟩ | refine ⟨.inr ⟨QY.neqB rfl (by kernel_rfl) rfl rfl, Sure.of rfl⟩, ?_⟩ | refine ⟨.inr ⟨QY.eqlB rfl (by kernel_rfl) rfl rfl, Sure.of rfl⟩, ?_⟩ | fail)), ?_⟩
      repeat' (first
        | refine L_rs ?_
        | refine S_done [] rfl (Nx.goL ?_)
        | refine S_done [] rfl (RetQ.keepN rfl rfl rfl rfl ?_)
        | refine S_done [] rfl ?_
        | refine L_block ?_
        | refine L_ret (RetQ.keep rfl rfl rfl rfl ?_)
        | refine L_true rfl ?_
        | refine L_false rfl ?_
        | refine L_skip (Nx.goL ?_)
        | refine L_skip ?_
        | refine L_exit (Nx.goL ?_)
        | refine L_exit ?_
        | refine L_ifp rfl (by first | exact bD | exact bE | exact bN | exact bNB | exact bEB | exact bNot bD | exact bNot bE | exact bNot bN) (fun h => ?_) (fun h => ?_)
        | refine S_Q [] rfl rfl (QY.idxN rfl rfl (by omega)) ?_
        | refine S_Q [] rfl rfl (QY.add rfl rfl rfl (by omega) (by omega)) ?_
        | refine S_Q [] rfl rfl (QY.sub rfl rfl rfl (by omega) (by omega)) ?_
        | refine S_Q [] rfl rfl (QY.mask rfl rfl (by decide) rfl) ?_
        | refine S_Q [] rfl rfl (QY.ldI rfl rfl (List.getElem?_eq_getElem (by omega))) ?_
        | refine S_Q [] rfl rfl (QY.divN rfl rfl rfl (by omega) (by omega)) ?_
        | refine S_Q [] rfl rfl (QY.remN rfl rfl rfl (by omega) (by omega)) ?_
        | refine S_Q [] rfl rfl (QY.mul rfl rfl rfl (by omega) (by omega)) ?_
        | refine L_reg ?_
        | refine L_seq ?_
        | exact ⟨rfl, rfl⟩
        | fail)
      · refine ⟨congrArg (Value.int _) ?_, rfl⟩
        rw [if_neg]
        intro hq
        rw [List.all_eq_true] at hq
        exact h (of_decide_eq_true (hq e he))
      · refine Nx.pick [0, 10] [0, 1, 2, 3, 4] rfl rfl rfl ⟨unseen G (seen ++ [e.2.2]), unseen_lt he hns, seen ++ [e.2.2], rfl, fun x hx1 hx2 => ?_, rfl, rfl⟩
        rcases List.mem_append.1 hx2 with hx2 | hx2
        · exact hs x hx1 hx2
        · rw [List.mem_singleton] at hx2
          rw [hO.born hx1 he hx2]
          exact decide_eq_true (by simpa using h)
    · refine ⟨trivial, ?_⟩
      repeat' (first
        | refine L_rs ?_
        | refine S_done [] rfl (Nx.goL ?_)
        | refine S_done [] rfl (RetQ.keepN rfl rfl rfl rfl ?_)
        | refine S_done [] rfl ?_
        | refine L_block ?_
        | refine L_ret (RetQ.keep rfl rfl rfl rfl ?_)
        | refine L_true rfl ?_
        | refine L_false rfl ?_
        | refine L_skip (Nx.goL ?_)
        | refine L_skip ?_
        | refine L_exit (Nx.goL ?_)
        | refine L_exit ?_
        | refine L_ifp rfl (by first | exact bD | exact bE | exact bN | exact bNB | exact bEB | exact bNot bD | exact bNot bE | exact bNot bN) (fun h => ?_) (fun h => ?_)
        | refine S_Q [] rfl rfl (QY.idxN rfl rfl (by omega)) ?_
        | refine S_Q [] rfl rfl (QY.add rfl rfl rfl (by omega) (by omega)) ?_
        | refine S_Q [] rfl rfl (QY.sub rfl rfl rfl (by omega) (by omega)) ?_
        | refine S_Q [] rfl rfl (QY.mask rfl rfl (by decide) rfl) ?_
        | refine S_Q [] rfl rfl (QY.ldI rfl rfl (List.getElem?_eq_getElem (by omega))) ?_
        | refine S_Q [] rfl rfl (QY.divN rfl rfl rfl (by omega) (by omega)) ?_
        | refine S_Q [] rfl rfl (QY.remN rfl rfl rfl (by omega) (by omega)) ?_
        | refine S_Q [] rfl rfl (QY.mul rfl rfl rfl (by omega) (by omega)) ?_
        | refine L_reg ?_
        | refine L_seq ?_
        | exact ⟨rfl, rfl⟩
        | fail)
      exact Nx.pick [] [0, 1, 2, 3] rfl rfl rfl ⟨List.all_eq_true.2 fun x hx => hs x hx (hall x hx), rfl, rfl⟩
  · rintro _ _ ⟨hq, rfl, rfl⟩
    repeat' (first
      | refine L_rs ?_
      | refine S_done [] rfl (Nx.goL ?_)
      | refine S_done [] rfl (RetQ.keepN rfl rfl rfl rfl ?_)
      | refine S_done [] rfl ?_
      | refine L_block ?_
      | refine L_ret (RetQ.keep rfl rfl rfl rfl ?_)
      | refine L_true rfl ?_
      | refine L_false rfl ?_
      | refine L_skip (Nx.goL ?_)
      | refine L_skip ?_
      | refine L_exit (Nx.goL ?_)
      | refine L_exit ?_
      | refine L_ifp rfl (by first | exact bD | exact bE | exact bN | exact bNB | exact bEB | exact bNot bD | exact bNot bE | exact bNot bN) (fun h => ?_) (fun h => ?_)
      | refine S_Q [] rfl rfl (QY.idxN rfl rfl (by omega)) ?_
      | refine S_Q [] rfl rfl (QY.add rfl rfl rfl (by omega) (by omega)) ?_
      | refine S_Q [] rfl rfl (QY.sub rfl rfl rfl (by omega) (by omega)) ?_
      | refine S_Q [] rfl rfl (QY.mask rfl rfl (by decide) rfl) ?_
      | refine S_Q [] rfl rfl (QY.ldI rfl rfl (List.getElem?_eq_getElem (by omega))) ?_
      | refine S_Q [] rfl rfl (QY.divN rfl rfl rfl (by omega) (by omega)) ?_
      | refine S_Q [] rfl rfl (QY.remN rfl rfl rfl (by omega) (by omega)) ?_
      | refine S_Q [] rfl rfl (QY.mul rfl rfl rfl (by omega) (by omega)) ?_
      | refine L_reg ?_
      | refine L_seq ?_
      | exact ⟨rfl, rfl⟩
      | fail)
    refine ⟨?_, rfl⟩
    rw [if_pos hq]; rfl
end Go.Proofs.Ytnleiiniajinbaa
