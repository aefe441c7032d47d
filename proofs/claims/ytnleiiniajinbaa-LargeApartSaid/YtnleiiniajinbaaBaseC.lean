/-
  Layers 1, 3, 5, 6: contracts of the program's functions.
-/
import Derived.Test.YtnleiiniajinbaaBaseM
import Derived.Test.YtnleiiniajinbaaTab
namespace Go.Proofs.Ytnleiiniajinbaa
open Go Go.Tum Go.Tum.Base

/-! ### classes -/
theorem may_tr (c : Int) : Tr Try.prog 51 [.int .i64 c] [] (fun v K => v = .bool (decide (0 ≤ c ∧ c < 4)) ∧ K = []) := by
  refine Tr.of row_class_may_ok rfl ?_
  repeat' (first
    | refine L_rs ?_
    | refine S_done [] rfl (Nx.goL ?_)
    | refine S_done [] rfl (RetQ.keepN rfl rfl rfl rfl ?_)
    | refine S_done [] rfl ?_
    | refine L_block ?_
    | refine L_ret (RetQ.keep rfl rfl rfl rfl ?_)
    | refine L_true rfl ?_
    | refine L_false rfl ?_
    | refine L_skip (Nx.goL ?_)
    | refine L_skip ?_
    | refine L_exit (Nx.goL ?_)
    | refine L_exit ?_
    | refine L_ifp rfl (by first | exact bD | exact bE | exact bN | exact bNB | exact bEB | exact bNot bD | exact bNot bE | exact bNot bN) (fun h => ?_) (fun h => ?_)
    | refine S_Q [] rfl rfl (QY.idxN rfl rfl (by omega)) ?_
    | refine S_Q [] rfl rfl (QY.add rfl rfl rfl (by omega) (by omega)) ?_
    | refine S_Q [] rfl rfl (QY.sub rfl rfl rfl (by omega) (by omega)) ?_
    | refine S_Q [] rfl rfl (QY.mask rfl rfl (by decide) rfl) ?_
    | refine S_Q [] rfl rfl (QY.ldI rfl rfl (List.getElem?_eq_getElem (by omega))) ?_
    | refine S_Q [] rfl rfl (QY.divN rfl rfl rfl (by omega) (by omega)) ?_
    | refine S_Q [] rfl rfl (QY.remN rfl rfl rfl (by omega) (by omega)) ?_
    | refine S_Q [] rfl rfl (QY.mul rfl rfl rfl (by omega) (by omega)) ?_
    | refine S_splitp 5 rfl rfl rfl (by first | exact bD | exact bE | exact bN | exact bNB | exact bEB | exact bNot bD | exact bNot bE | exact bNot bN) (fun h => ?_) (fun h => ?_)
    | refine L_reg ?_
    | refine L_seq ?_
    | exact ⟨rfl, rfl⟩
    | fail)
  all_goals (refine ⟨?_, rfl⟩; first | rfl | exact congrArg (Value.int _) (by (repeat' split) <;> omega) | exact congrArg Value.bool (by (repeat' split) <;> (rw [Bool.eq_iff_iff]; simp; try omega)) | exact VT2 (by (repeat' split) <;> omega) (by (repeat' split) <;> first | rfl | omega | (rw [Bool.eq_iff_iff]; simp; try omega)))
theorem Size_tr (c : Int) : Tr Try.prog 46 [.int .i64 c] [] (fun v K => v = .int .i64 (sizeC c) ∧ K = []) := by
  refine Tr.of row_class_Size_ok rfl ?_
  repeat' (first
    | refine L_rs ?_
    | refine S_done [] rfl (Nx.goL ?_)
    | refine S_done [] rfl (RetQ.keepN rfl rfl rfl rfl ?_)
    | refine S_done [] rfl ?_
    | refine L_block ?_
    | refine L_ret (RetQ.keep rfl rfl rfl rfl ?_)
    | refine L_true rfl ?_
    | refine L_false rfl ?_
    | refine L_skip (Nx.goL ?_)
    | refine L_skip ?_
    | refine L_exit (Nx.goL ?_)
    | refine L_exit ?_
    | refine L_ifp rfl (by first | exact bD | exact bE | exact bN | exact bNB | exact bEB | exact bNot bD | exact bNot bE | exact bNot bN) (fun h => ?_) (fun h => ?_)
    | refine S_Q [] rfl rfl (QY.idxN rfl rfl (by omega)) ?_
    | refine S_Q [] rfl rfl (QY.add rfl rfl rfl (by omega) (by omega)) ?_
    | refine S_Q [] rfl rfl (QY.sub rfl rfl rfl (by omega) (by omega)) ?_
    | refine S_Q [] rfl rfl (QY.mask rfl rfl (by decide) rfl) ?_
    | refine S_Q [] rfl rfl (QY.ldI rfl rfl (List.getElem?_eq_getElem (by omega))) ?_
    | refine S_Q [] rfl rfl (QY.divN rfl rfl rfl (by omega) (by omega)) ?_
    | refine S_Q [] rfl rfl (QY.remN rfl rfl rfl (by omega) (by omega)) ?_
    | refine S_Q [] rfl rfl (QY.mul rfl rfl rfl (by omega) (by omega)) ?_
    | refine L_reg ?_
    | refine L_seq ?_
    | exact ⟨rfl, rfl⟩
    | fail)
  first | refine L_rs ?_ | refine L_reg ?_ | skip
  refine S_Ed [] rfl rfl (EWd.callP [] (may_tr c) rfl rfl (by decide) (by repeat' (first | exact trivial | refine ⟨rfl, ?_⟩ | fail)) rfl rfl) (disj_nil _) (nm_nilE _) (nm_nilT _) ?_
  rintro _ _ ⟨rfl, rfl⟩
  refine ⟨(by repeat' (first | exact trivial | refine ⟨⟨qsafe_ok (st := []) rfl, Sure.of rfl⟩, ?_⟩ | refine ⟨.inl rfl, ?_⟩ | refine ⟨.inr ⟨qsafe_ok (st := []) rfl, Sure.of rfl⟩, ?_⟩ | refine ⟨⟨qsafe_ok (st := []) rfl, Sure.slice (by omega)⟩, ?_⟩ | refine ⟨.inr ⟨qsafe_ok (st := []) rfl, Sure.slice (by omega)⟩, ?_⟩ | refine ⟨.inr ⟨QY.neqB rfl (by kernel_rfl) rfl rfl, Sure.of rfl⟩, ?_⟩ | refine ⟨.inr ⟨QY.eqlB rfl (by kernel_rfl) rfl rfl, Sure.of rfl⟩, ?_⟩ | fail)), ?_⟩
  repeat' (first
    | refine L_rs ?_
    | refine S_done [] rfl (Nx.goL ?_)
    | refine S_done [] rfl (RetQ.keepN rfl rfl rfl rfl ?_)
    | refine S_done [] rfl ?_
    | refine L_block ?_
    | refine L_ret (RetQ.keep rfl rfl rfl rfl ?_)
    | refine L_true rfl ?_
    | refine L_false rfl ?_
    | refine L_skip (Nx.goL ?_)
    | refine L_skip ?_
    | refine L_exit (Nx.goL ?_)
    | refine L_exit ?_
    | refine L_ifp rfl (by first | exact bD | exact bE | exact bN | exact bNB | exact bEB | exact bNot bD | exact bNot bE | exact bNot bN) (fun h => ?_) (fun h => ?_)
    | refine S_Q [] rfl rfl (QY.idxN rfl rfl (by omega)) ?_
    | refine S_Q [] rfl rfl (QY.add rfl rfl rfl (by omega) (by omega)) ?_
    | refine S_Q [] rfl rfl (QY.sub rfl rfl rfl (by omega) (by omega)) ?_
    | refine S_Q [] rfl rfl (QY.mask rfl rfl (by decide) rfl) ?_
    | refine S_Q [] rfl rfl (QY.ldI rfl rfl (List.getElem?_eq_getElem (by omega))) ?_
    | refine S_Q [] rfl rfl (QY.divN rfl rfl rfl (by omega) (by omega)) ?_
    | refine S_Q [] rfl rfl (QY.remN rfl rfl rfl (by omega) (by omega)) ?_
    | refine S_Q [] rfl rfl (QY.mul rfl rfl rfl (by omega) (by omega)) ?_
    | refine L_reg ?_
    | refine L_seq ?_
    | exact ⟨rfl, rfl⟩
    | fail)
  · refine ⟨congrArg (Value.int _) ?_, rfl⟩
    unfold sizeC; (repeat' split) <;> omega
  · have hc : c = 0 ∨ c = 1 ∨ c = 2 ∨ c = 3 := by omega
    rcases hc with rfl | rfl | rfl | rfl <;>
    · first | refine L_rs ?_ | refine L_reg ?_ | skip
      refine S_Q [] rfl rfl (QY.shift rfl rfl (by decide) rfl) ?_
      repeat' (first
        | refine L_rs ?_
        | refine S_done [] rfl (Nx.goL ?_)
        | refine S_done [] rfl (RetQ.keepN rfl rfl rfl rfl ?_)
        | refine S_done [] rfl ?_
        | refine L_block ?_
        | refine L_ret (RetQ.keep rfl rfl rfl rfl ?_)
        | refine L_true rfl ?_
        | refine L_false rfl ?_
        | refine L_skip (Nx.goL ?_)
        | refine L_skip ?_
        | refine L_exit (Nx.goL ?_)
        | refine L_exit ?_
        | refine L_ifp rfl (by first | exact bD | exact bE | exact bN | exact bNB | exact bEB | exact bNot bD | exact bNot bE | exact bNot bN) (fun h => ?_) (fun h => ?_)
        | refine S_Q [] rfl rfl (QY.idxN rfl rfl (by omega)) ?_
        | refine S_Q [] rfl rfl (QY.add rfl rfl rfl (by omega) (by omega)) ?_
        | refine S_Q [] rfl rfl (QY.sub rfl rfl rfl (by omega) (by omega)) ?_
        | refine S_Q [] rfl rfl (QY.mask rfl rfl (by decide) rfl) ?_
        | refine S_Q [] rfl rfl (QY.ldI rfl rfl (List.getElem?_eq_getElem (by omega))) ?_
        | refine S_Q [] rfl rfl (QY.divN rfl rfl rfl (by omega) (by omega)) ?_
        | refine S_Q [] rfl rfl (QY.remN rfl rfl rfl (by omega) (by omega)) ?_
        | refine S_Q [] rfl rfl (QY.mul rfl rfl rfl (by omega) (by omega)) ?_
        | refine L_reg ?_
        | refine L_seq ?_
        | exact ⟨rfl, rfl⟩
        | fail)
theorem Room_tr (c : Int) : Tr Try.prog 38 [.int .i64 c] [] (fun v K => v = .int .i64 (max (sizeC c - 8) 0) ∧ K = []) := by
  have h1 : sizeC c ≤ 128 ∧ 0 ≤ sizeC c := by unfold sizeC; (repeat' split) <;> omega
  refine Tr.of row_class_Room_ok rfl ?_
  repeat' (first
    | refine L_rs ?_
    | refine S_done [] rfl (Nx.goL ?_)
    | refine S_done [] rfl (RetQ.keepN rfl rfl rfl rfl ?_)
    | refine S_done [] rfl ?_
    | refine L_block ?_
    | refine L_ret (RetQ.keep rfl rfl rfl rfl ?_)
    | refine L_true rfl ?_
    | refine L_false rfl ?_
    | refine L_skip (Nx.goL ?_)
    | refine L_skip ?_
    | refine L_exit (Nx.goL ?_)
    | refine L_exit ?_
    | refine L_ifp rfl (by first | exact bD | exact bE | exact bN | exact bNB | exact bEB | exact bNot bD | exact bNot bE | exact bNot bN) (fun h => ?_) (fun h => ?_)
    | refine S_Q [] rfl rfl (QY.idxN rfl rfl (by omega)) ?_
    | refine S_Q [] rfl rfl (QY.add rfl rfl rfl (by omega) (by omega)) ?_
    | refine S_Q [] rfl rfl (QY.sub rfl rfl rfl (by omega) (by omega)) ?_
    | refine S_Q [] rfl rfl (QY.mask rfl rfl (by decide) rfl) ?_
    | refine S_Q [] rfl rfl (QY.ldI rfl rfl (List.getElem?_eq_getElem (by omega))) ?_
    | refine S_Q [] rfl rfl (QY.divN rfl rfl rfl (by omega) (by omega)) ?_
    | refine S_Q [] rfl rfl (QY.remN rfl rfl rfl (by omega) (by omega)) ?_
    | refine S_Q [] rfl rfl (QY.mul rfl rfl rfl (by omega) (by omega)) ?_
    | refine L_reg ?_
    | refine L_seq ?_
    | exact ⟨rfl, rfl⟩
    | fail)
  first | refine L_rs ?_ | refine L_reg ?_ | skip
  refine S_Ed [] rfl rfl (EWd.callP [] (Size_tr c) rfl rfl (by decide) (by repeat' (first | exact trivial | refine ⟨rfl, ?_⟩ | fail)) rfl rfl) (disj_nil _) (nm_nilE _) (nm_nilT _) ?_
  rintro _ _ ⟨rfl, rfl⟩
  refine ⟨(by repeat' (first | exact trivial | refine ⟨⟨qsafe_ok (st := []) rfl, Sure.of rfl⟩, ?_⟩ | refine ⟨.inl rfl, ?_⟩ | refine ⟨.inr ⟨qsafe_ok (st := []) rfl, Sure.of rfl⟩, ?_⟩ | refine ⟨⟨qsafe_ok (st := []) rfl, Sure.slice (by omega)⟩, ?_⟩ | refine ⟨.inr ⟨qsafe_ok (st := []) rfl, Sure.slice (by omega)⟩, ?_⟩ | refine ⟨.inr ⟨QY.neqB rfl (by kernel_rfl) rfl rfl, Sure.of rfl⟩, ?_⟩ | refine ⟨.inr ⟨QY.eqlB rfl (by kernel_rfl) rfl rfl, Sure.of rfl⟩, ?_⟩ | fail)), ?_⟩
  repeat' (first
    | refine L_rs ?_
    | refine S_done [] rfl (Nx.goL ?_)
    | refine S_done [] rfl (RetQ.keepN rfl rfl rfl rfl ?_)
    | refine S_done [] rfl ?_
    | refine L_block ?_
    | refine L_ret (RetQ.keep rfl rfl rfl rfl ?_)
    | refine L_true rfl ?_
    | refine L_false rfl ?_
    | refine L_skip (Nx.goL ?_)
    | refine L_skip ?_
    | refine L_exit (Nx.goL ?_)
    | refine L_exit ?_
    | refine L_ifp rfl (by first | exact bD | exact bE | exact bN | exact bNB | exact bEB | exact bNot bD | exact bNot bE | exact bNot bN) (fun h => ?_) (fun h => ?_)
    | refine S_Q [] rfl rfl (QY.idxN rfl rfl (by omega)) ?_
    | refine S_Q [] rfl rfl (QY.add rfl rfl rfl (by omega) (by omega)) ?_
    | refine S_Q [] rfl rfl (QY.sub rfl rfl rfl (by omega) (by omega)) ?_
    | refine S_Q [] rfl rfl (QY.mask rfl rfl (by decide) rfl) ?_
    | refine S_Q [] rfl rfl (QY.ldI rfl rfl (List.getElem?_eq_getElem (by omega))) ?_
    | refine S_Q [] rfl rfl (QY.divN rfl rfl rfl (by omega) (by omega)) ?_
    | refine S_Q [] rfl rfl (QY.remN rfl rfl rfl (by omega) (by omega)) ?_
    | refine S_Q [] rfl rfl (QY.mul rfl rfl rfl (by omega) (by omega)) ?_
    | refine L_reg ?_
    | refine L_seq ?_
    | exact ⟨rfl, rfl⟩
    | fail)
theorem Room3_tr : Tr Try.prog 38 [.int .i64 3] [] (fun v K => v = .int .i64 120 ∧ K = []) := Room_tr 3
theorem Pages_tr (n : Int) : Tr Try.prog 20 [.int .i64 n] [] (fun v K => v = .tuple ⟨[.int .i64 (pagesC n), .bool (greatC n)]⟩ ∧ K = []) := by
  refine Tr.of row_class_Pages_ok rfl ?_
  repeat' (first
    | refine L_rs ?_
    | refine S_done [] rfl (Nx.goL ?_)
    | refine S_done [] rfl (RetQ.keepN rfl rfl rfl rfl ?_)
    | refine S_done [] rfl ?_
    | refine L_block ?_
    | refine L_ret (RetQ.keep rfl rfl rfl rfl ?_)
    | refine L_true rfl ?_
    | refine L_false rfl ?_
    | refine L_skip (Nx.goL ?_)
    | refine L_skip ?_
    | refine L_exit (Nx.goL ?_)
    | refine L_exit ?_
    | refine L_ifp rfl (by first | exact bD | exact bE | exact bN | exact bNB | exact bEB | exact bNot bD | exact bNot bE | exact bNot bN) (fun h => ?_) (fun h => ?_)
    | refine S_Q [] rfl rfl (QY.idxN rfl rfl (by omega)) ?_
    | refine S_Q [] rfl rfl (QY.add rfl rfl rfl (by omega) (by omega)) ?_
    | refine S_Q [] rfl rfl (QY.sub rfl rfl rfl (by omega) (by omega)) ?_
    | refine S_Q [] rfl rfl (QY.mask rfl rfl (by decide) rfl) ?_
    | refine S_Q [] rfl rfl (QY.ldI rfl rfl (List.getElem?_eq_getElem (by omega))) ?_
    | refine S_Q [] rfl rfl (QY.divN rfl rfl rfl (by omega) (by omega)) ?_
    | refine S_Q [] rfl rfl (QY.remN rfl rfl rfl (by omega) (by omega)) ?_
    | refine S_Q [] rfl rfl (QY.mul rfl rfl rfl (by omega) (by omega)) ?_
    | refine S_splitp 7 rfl rfl rfl (by first | exact bD | exact bE | exact bN | exact bNB | exact bEB | exact bNot bD | exact bNot bE | exact bNot bN) (fun h => ?_) (fun h => ?_)
    | refine L_reg ?_
    | refine L_seq ?_
    | exact ⟨rfl, rfl⟩
    | fail)
  first | refine L_rs ?_ | refine L_reg ?_ | skip
  refine S_Ed [] rfl rfl (EWd.callP [] (Room3_tr) rfl rfl (by decide) (by repeat' (first | exact trivial | refine ⟨rfl, ?_⟩ | fail)) rfl rfl) (disj_nil _) (nm_nilE _) (nm_nilT _) ?_
  rintro _ _ ⟨rfl, rfl⟩
  refine ⟨(by repeat' (first | exact trivial | refine ⟨⟨qsafe_ok (st := []) rfl, Sure.of rfl⟩, ?_⟩ | refine ⟨.inl rfl, ?_⟩ | refine ⟨.inr ⟨qsafe_ok (st := []) rfl, Sure.of rfl⟩, ?_⟩ | refine ⟨⟨qsafe_ok (st := []) rfl, Sure.slice (by omega)⟩, ?_⟩ | refine ⟨.inr ⟨qsafe_ok (st := []) rfl, Sure.slice (by omega)⟩, ?_⟩ | refine ⟨.inr ⟨QY.neqB rfl (by kernel_rfl) rfl rfl, Sure.of rfl⟩, ?_⟩ | refine ⟨.inr ⟨QY.eqlB rfl (by kernel_rfl) rfl rfl, Sure.of rfl⟩, ?_⟩ | fail)), ?_⟩
  repeat' (first
    | refine L_rs ?_
    | refine S_done [] rfl (Nx.goL ?_)
    | refine S_done [] rfl (RetQ.keepN rfl rfl rfl rfl ?_)
    | refine S_done [] rfl ?_
    | refine L_block ?_
    | refine L_ret (RetQ.keep rfl rfl rfl rfl ?_)
    | refine L_true rfl ?_
    | refine L_false rfl ?_
    | refine L_skip (Nx.goL ?_)
    | refine L_skip ?_
    | refine L_exit (Nx.goL ?_)
    | refine L_exit ?_
    | refine L_ifp rfl (by first | exact bD | exact bE | exact bN | exact bNB | exact bEB | exact bNot bD | exact bNot bE | exact bNot bN) (fun h => ?_) (fun h => ?_)
    | refine S_Q [] rfl rfl (QY.idxN rfl rfl (by omega)) ?_
    | refine S_Q [] rfl rfl (QY.add rfl rfl rfl (by omega) (by omega)) ?_
    | refine S_Q [] rfl rfl (QY.sub rfl rfl rfl (by omega) (by omega)) ?_
    | refine S_Q [] rfl rfl (QY.mask rfl rfl (by decide) rfl) ?_
    | refine S_Q [] rfl rfl (QY.ldI rfl rfl (List.getElem?_eq_getElem (by omega))) ?_
    | refine S_Q [] rfl rfl (QY.divN rfl rfl rfl (by omega) (by omega)) ?_
    | refine S_Q [] rfl rfl (QY.remN rfl rfl rfl (by omega) (by omega)) ?_
    | refine S_Q [] rfl rfl (QY.mul rfl rfl rfl (by omega) (by omega)) ?_
    | refine S_splitp 7 rfl rfl rfl (by first | exact bD | exact bE | exact bN | exact bNB | exact bEB | exact bNot bD | exact bNot bE | exact bNot bN) (fun h => ?_) (fun h => ?_)
    | refine L_reg ?_
    | refine L_seq ?_
    | exact ⟨rfl, rfl⟩
    | fail)
  all_goals refine ⟨VT2 ?_ ?_, rfl⟩
  all_goals first | (unfold pagesC; (repeat' split) <;> omega) | (unfold greatC; first | (symm; rw [decide_eq_true_eq]; omega) | (symm; rw [decide_eq_false_iff_not]; omega))

/-! ### the mix -/
theorem mix_tr (x : BitVec 64) : Tr Try.prog 19 [.int .u64 (x.toNat : Int)] [] (fun v K => v = .int .u64 ((mixW x).toNat : Int) ∧ K = []) := by
  refine Tr.of row_link_mix_ok rfl ?_
  repeat' (first
    | refine L_rs ?_
    | refine S_done [] rfl (Nx.goL ?_)
    | refine S_done [] rfl (RetQ.keepN rfl rfl rfl rfl ?_)
    | refine S_done [] rfl ?_
    | refine L_block ?_
    | refine L_ret (RetQ.keep rfl rfl rfl rfl ?_)
    | refine L_true rfl ?_
    | refine L_false rfl ?_
    | refine L_skip (Nx.goL ?_)
    | refine L_skip ?_
    | refine L_exit (Nx.goL ?_)
    | refine L_exit ?_
    | refine L_ifp rfl (by first | exact bD | exact bE | exact bN | exact bNB | exact bEB | exact bNot bD | exact bNot bE | exact bNot bN) (fun h => ?_) (fun h => ?_)
    | refine S_Q [] rfl rfl (QY.idxN rfl rfl (by omega)) ?_
    | refine S_Q [] rfl rfl (QY.add rfl rfl rfl (by omega) (by omega)) ?_
    | refine S_Q [] rfl rfl (QY.sub rfl rfl rfl (by omega) (by omega)) ?_
    | refine S_Q [] rfl rfl (QY.mask rfl rfl (by decide) rfl) ?_
    | refine S_Q [] rfl rfl (QY.ldI rfl rfl (List.getElem?_eq_getElem (by omega))) ?_
    | refine S_Q [] rfl rfl (QY.divN rfl rfl rfl (by omega) (by omega)) ?_
    | refine S_Q [] rfl rfl (QY.remN rfl rfl rfl (by omega) (by omega)) ?_
    | refine S_Q [] rfl rfl (QY.mul rfl rfl rfl (by omega) (by omega)) ?_
    | refine L_reg ?_
    | refine L_seq ?_
    | exact ⟨rfl, rfl⟩
    | fail)
  first | refine L_rs ?_ | refine L_reg ?_ | skip
  refine S_Q [] rfl rfl (QY.shrW (n := 30) rfl rfl) ?_
  first | refine L_rs ?_ | refine L_reg ?_ | skip
  refine S_Q [] rfl rfl (QY.xorW rfl rfl) ?_
  first | refine L_rs ?_ | refine L_reg ?_ | skip
  refine S_Q [] rfl rfl (QY.mulW (b := 0xBF58476D1CE4E5B9#64) rfl rfl) ?_
  repeat' (first
    | refine L_rs ?_
    | refine S_done [] rfl (Nx.goL ?_)
    | refine S_done [] rfl (RetQ.keepN rfl rfl rfl rfl ?_)
    | refine S_done [] rfl ?_
    | refine L_block ?_
    | refine L_ret (RetQ.keep rfl rfl rfl rfl ?_)
    | refine L_true rfl ?_
    | refine L_false rfl ?_
    | refine L_skip (Nx.goL ?_)
    | refine L_skip ?_
    | refine L_exit (Nx.goL ?_)
    | refine L_exit ?_
    | refine L_ifp rfl (by first | exact bD | exact bE | exact bN | exact bNB | exact bEB | exact bNot bD | exact bNot bE | exact bNot bN) (fun h => ?_) (fun h => ?_)
    | refine S_Q [] rfl rfl (QY.idxN rfl rfl (by omega)) ?_
    | refine S_Q [] rfl rfl (QY.add rfl rfl rfl (by omega) (by omega)) ?_
    | refine S_Q [] rfl rfl (QY.sub rfl rfl rfl (by omega) (by omega)) ?_
    | refine S_Q [] rfl rfl (QY.mask rfl rfl (by decide) rfl) ?_
    | refine S_Q [] rfl rfl (QY.ldI rfl rfl (List.getElem?_eq_getElem (by omega))) ?_
    | refine S_Q [] rfl rfl (QY.divN rfl rfl rfl (by omega) (by omega)) ?_
    | refine S_Q [] rfl rfl (QY.remN rfl rfl rfl (by omega) (by omega)) ?_
    | refine S_Q [] rfl rfl (QY.mul rfl rfl rfl (by omega) (by omega)) ?_
    | refine L_reg ?_
    | refine L_seq ?_
    | exact ⟨rfl, rfl⟩
    | fail)
  first | refine L_rs ?_ | refine L_reg ?_ | skip
  refine S_Q [] rfl rfl (QY.shrW (n := 27) rfl rfl) ?_
  first | refine L_rs ?_ | refine L_reg ?_ | skip
  refine S_Q [] rfl rfl (QY.xorW rfl rfl) ?_
  first | refine L_rs ?_ | refine L_reg ?_ | skip
  refine S_Q [] rfl rfl (QY.mulW (b := 0x94D049BB133111EB#64) rfl rfl) ?_
  repeat' (first
    | refine L_rs ?_
    | refine S_done [] rfl (Nx.goL ?_)
    | refine S_done [] rfl (RetQ.keepN rfl rfl rfl rfl ?_)
    | refine S_done [] rfl ?_
    | refine L_block ?_
    | refine L_ret (RetQ.keep rfl rfl rfl rfl ?_)
    | refine L_true rfl ?_
    | refine L_false rfl ?_
    | refine L_skip (Nx.goL ?_)
    | refine L_skip ?_
    | refine L_exit (Nx.goL ?_)
    | refine L_exit ?_
    | refine L_ifp rfl (by first | exact bD | exact bE | exact bN | exact bNB | exact bEB | exact bNot bD | exact bNot bE | exact bNot bN) (fun h => ?_) (fun h => ?_)
    | refine S_Q [] rfl rfl (QY.idxN rfl rfl (by omega)) ?_
    | refine S_Q [] rfl rfl (QY.add rfl rfl rfl (by omega) (by omega)) ?_
    | refine S_Q [] rfl rfl (QY.sub rfl rfl rfl (by omega) (by omega)) ?_
    | refine S_Q [] rfl rfl (QY.mask rfl rfl (by decide) rfl) ?_
    | refine S_Q [] rfl rfl (QY.ldI rfl rfl (List.getElem?_eq_getElem (by omega))) ?_
    | refine S_Q [] rfl rfl (QY.divN rfl rfl rfl (by omega) (by omega)) ?_
    | refine S_Q [] rfl rfl (QY.remN rfl rfl rfl (by omega) (by omega)) ?_
    | refine S_Q [] rfl rfl (QY.mul rfl rfl rfl (by omega) (by omega)) ?_
    | refine L_reg ?_
    | refine L_seq ?_
    | exact ⟨rfl, rfl⟩
    | fail)
  first | refine L_rs ?_ | refine L_reg ?_ | skip
  refine S_Q [] rfl rfl (QY.shrW (n := 31) rfl rfl) ?_
  first | refine L_rs ?_ | refine L_reg ?_ | skip
  refine S_Q [] rfl rfl (QY.xorW rfl rfl) ?_
  repeat' (first
    | refine L_rs ?_
    | refine S_done [] rfl (Nx.goL ?_)
    | refine S_done [] rfl (RetQ.keepN rfl rfl rfl rfl ?_)
    | refine S_done [] rfl ?_
    | refine L_block ?_
    | refine L_ret (RetQ.keep rfl rfl rfl rfl ?_)
    | refine L_true rfl ?_
    | refine L_false rfl ?_
    | refine L_skip (Nx.goL ?_)
    | refine L_skip ?_
    | refine L_exit (Nx.goL ?_)
    | refine L_exit ?_
    | refine L_ifp rfl (by first | exact bD | exact bE | exact bN | exact bNB | exact bEB | exact bNot bD | exact bNot bE | exact bNot bN) (fun h => ?_) (fun h => ?_)
    | refine S_Q [] rfl rfl (QY.idxN rfl rfl (by omega)) ?_
    | refine S_Q [] rfl rfl (QY.add rfl rfl rfl (by omega) (by omega)) ?_
    | refine S_Q [] rfl rfl (QY.sub rfl rfl rfl (by omega) (by omega)) ?_
    | refine S_Q [] rfl rfl (QY.mask rfl rfl (by decide) rfl) ?_
    | refine S_Q [] rfl rfl (QY.ldI rfl rfl (List.getElem?_eq_getElem (by omega))) ?_
    | refine S_Q [] rfl rfl (QY.divN rfl rfl rfl (by omega) (by omega)) ?_
    | refine S_Q [] rfl rfl (QY.remN rfl rfl rfl (by omega) (by omega)) ?_
    | refine S_Q [] rfl rfl (QY.mul rfl rfl rfl (by omega) (by omega)) ?_
    | refine L_reg ?_
    | refine L_seq ?_
    | exact ⟨rfl, rfl⟩
    | fail)
theorem linkNew_tr (x : BitVec 64) : Tr Try.prog 7 [.int .u64 (x.toNat : Int)] [] (fun v K => v = .agg ⟨[.int .u64 ((keyW x).toNat : Int)]⟩ ∧ K = []) := by
  refine Tr.of row_link_New_ok rfl ?_
  repeat' (first
    | refine L_rs ?_
    | refine S_done [] rfl (Nx.goL ?_)
    | refine S_done [] rfl (RetQ.keepN rfl rfl rfl rfl ?_)
    | refine S_done [] rfl ?_
    | refine L_block ?_
    | refine L_ret (RetQ.keep rfl rfl rfl rfl ?_)
    | refine L_true rfl ?_
    | refine L_false rfl ?_
    | refine L_skip (Nx.goL ?_)
    | refine L_skip ?_
    | refine L_exit (Nx.goL ?_)
    | refine L_exit ?_
    | refine L_ifp rfl (by first | exact bD | exact bE | exact bN | exact bNB | exact bEB | exact bNot bD | exact bNot bE | exact bNot bN) (fun h => ?_) (fun h => ?_)
    | refine S_Q [] rfl rfl (QY.idxN rfl rfl (by omega)) ?_
    | refine S_Q [] rfl rfl (QY.add rfl rfl rfl (by omega) (by omega)) ?_
    | refine S_Q [] rfl rfl (QY.sub rfl rfl rfl (by omega) (by omega)) ?_
    | refine S_Q [] rfl rfl (QY.mask rfl rfl (by decide) rfl) ?_
    | refine S_Q [] rfl rfl (QY.ldI rfl rfl (List.getElem?_eq_getElem (by omega))) ?_
    | refine S_Q [] rfl rfl (QY.divN rfl rfl rfl (by omega) (by omega)) ?_
    | refine S_Q [] rfl rfl (QY.remN rfl rfl rfl (by omega) (by omega)) ?_
    | refine S_Q [] rfl rfl (QY.mul rfl rfl rfl (by omega) (by omega)) ?_
    | refine L_reg ?_
    | refine L_seq ?_
    | exact ⟨rfl, rfl⟩
    | fail)
  first | refine L_rs ?_ | refine L_reg ?_ | skip
  refine S_Q [] rfl rfl (QY.addW (b := 0x9E3779B97F4A7C15#64) rfl rfl) ?_
  first | refine L_rs ?_ | refine L_reg ?_ | skip
  refine S_Ed [] rfl rfl (EWd.callP [] (mix_tr (x + 0x9E3779B97F4A7C15#64)) rfl rfl (by decide) (by repeat' (first | exact trivial | refine ⟨rfl, ?_⟩ | fail)) rfl rfl) (disj_nil _) (nm_nilE _) (nm_nilT _) ?_
  rintro _ _ ⟨rfl, rfl⟩
  refine ⟨(by repeat' (first | exact trivial | refine ⟨⟨qsafe_ok (st := []) rfl, Sure.of rfl⟩, ?_⟩ | refine ⟨.inl rfl, ?_⟩ | refine ⟨.inr ⟨qsafe_ok (st := []) rfl, Sure.of rfl⟩, ?_⟩ | refine ⟨⟨qsafe_ok (st := []) rfl, Sure.slice (by omega)⟩, ?_⟩ | refine ⟨.inr ⟨qsafe_ok (st := []) rfl, Sure.slice (by omega)⟩, ?_⟩ | refine ⟨.inr ⟨QY.neqB rfl (by kernel_rfl) rfl rfl, Sure.of rfl⟩, ?_⟩ | refine ⟨.inr ⟨QY.eqlB rfl (by kernel_rfl) rfl rfl, Sure.of rfl⟩, ?_⟩ | fail)), ?_⟩
  repeat' (first
    | refine L_rs ?_
    | refine S_done [] rfl (Nx.goL ?_)
    | refine S_done [] rfl (RetQ.keepN rfl rfl rfl rfl ?_)
    | refine S_done [] rfl ?_
    | refine L_block ?_
    | refine L_ret (RetQ.keep rfl rfl rfl rfl ?_)
    | refine L_true rfl ?_
    | refine L_false rfl ?_
    | refine L_skip (Nx.goL ?_)
    | refine L_skip ?_
    | refine L_exit (Nx.goL ?_)
    | refine L_exit ?_
    | refine L_ifp rfl (by first | exact bD | exact bE | exact bN | exact bNB | exact bEB | exact bNot bD | exact bNot bE | exact bNot bN) (fun h => ?_) (fun h => ?_)
    | refine S_Q [] rfl rfl (QY.idxN rfl rfl (by omega)) ?_
    | refine S_Q [] rfl rfl (QY.add rfl rfl rfl (by omega) (by omega)) ?_
    | refine S_Q [] rfl rfl (QY.sub rfl rfl rfl (by omega) (by omega)) ?_
    | refine S_Q [] rfl rfl (QY.mask rfl rfl (by decide) rfl) ?_
    | refine S_Q [] rfl rfl (QY.ldI rfl rfl (List.getElem?_eq_getElem (by omega))) ?_
    | refine S_Q [] rfl rfl (QY.divN rfl rfl rfl (by omega) (by omega)) ?_
    | refine S_Q [] rfl rfl (QY.remN rfl rfl rfl (by omega) (by omega)) ?_
    | refine S_Q [] rfl rfl (QY.mul rfl rfl rfl (by omega) (by omega)) ?_
    | refine L_reg ?_
    | refine L_seq ?_
    | exact ⟨rfl, rfl⟩
    | fail)
theorem Canary_tr (k : BitVec 64) (a : Int) : Tr Try.prog 39 [.agg ⟨[.int .u64 (k.toNat : Int)]⟩, .int .i64 a] [] (fun v K => v = .int .u64 ((canW k a).toNat : Int) ∧ K = []) := by
  refine Tr.of row_link_Code_Canary_ok rfl ?_
  repeat' (first
    | refine L_rs ?_
    | refine S_done [] rfl (Nx.goL ?_)
    | refine S_done [] rfl (RetQ.keepN rfl rfl rfl rfl ?_)
    | refine S_done [] rfl ?_
    | refine L_block ?_
    | refine L_ret (RetQ.keep rfl rfl rfl rfl ?_)
    | refine L_true rfl ?_
    | refine L_false rfl ?_
    | refine L_skip (Nx.goL ?_)
    | refine L_skip ?_
    | refine L_exit (Nx.goL ?_)
    | refine L_exit ?_
    | refine L_ifp rfl (by first | exact bD | exact bE | exact bN | exact bNB | exact bEB | exact bNot bD | exact bNot bE | exact bNot bN) (fun h => ?_) (fun h => ?_)
    | refine S_Q [] rfl rfl (QY.idxN rfl rfl (by omega)) ?_
    | refine S_Q [] rfl rfl (QY.add rfl rfl rfl (by omega) (by omega)) ?_
    | refine S_Q [] rfl rfl (QY.sub rfl rfl rfl (by omega) (by omega)) ?_
    | refine S_Q [] rfl rfl (QY.mask rfl rfl (by decide) rfl) ?_
    | refine S_Q [] rfl rfl (QY.ldI rfl rfl (List.getElem?_eq_getElem (by omega))) ?_
    | refine S_Q [] rfl rfl (QY.divN rfl rfl rfl (by omega) (by omega)) ?_
    | refine S_Q [] rfl rfl (QY.remN rfl rfl rfl (by omega) (by omega)) ?_
    | refine S_Q [] rfl rfl (QY.mul rfl rfl rfl (by omega) (by omega)) ?_
    | refine L_reg ?_
    | refine L_seq ?_
    | exact ⟨rfl, rfl⟩
    | fail)
  first | refine L_rs ?_ | refine L_reg ?_ | skip
  refine S_Q [] rfl rfl (QY.cvIW rfl) ?_
  first | refine L_rs ?_ | refine L_reg ?_ | skip
  refine S_Q [] rfl rfl (QY.xorW rfl rfl) ?_
  first | refine L_rs ?_ | refine L_reg ?_ | skip
  refine S_Ed [] rfl rfl (EWd.callP [] (mix_tr (k ^^^ BitVec.ofInt 64 a)) rfl rfl (by decide) (by repeat' (first | exact trivial | refine ⟨rfl, ?_⟩ | fail)) rfl rfl) (disj_nil _) (nm_nilE _) (nm_nilT _) ?_
  rintro _ _ ⟨rfl, rfl⟩
  refine ⟨(by repeat' (first | exact trivial | refine ⟨⟨qsafe_ok (st := []) rfl, Sure.of rfl⟩, ?_⟩ | refine ⟨.inl rfl, ?_⟩ | refine ⟨.inr ⟨qsafe_ok (st := []) rfl, Sure.of rfl⟩, ?_⟩ | refine ⟨⟨qsafe_ok (st := []) rfl, Sure.slice (by omega)⟩, ?_⟩ | refine ⟨.inr ⟨qsafe_ok (st := []) rfl, Sure.slice (by omega)⟩, ?_⟩ | refine ⟨.inr ⟨QY.neqB rfl (by kernel_rfl) rfl rfl, Sure.of rfl⟩, ?_⟩ | refine ⟨.inr ⟨QY.eqlB rfl (by kernel_rfl) rfl rfl, Sure.of rfl⟩, ?_⟩ | fail)), ?_⟩
  repeat' (first
    | refine L_rs ?_
    | refine S_done [] rfl (Nx.goL ?_)
    | refine S_done [] rfl (RetQ.keepN rfl rfl rfl rfl ?_)
    | refine S_done [] rfl ?_
    | refine L_block ?_
    | refine L_ret (RetQ.keep rfl rfl rfl rfl ?_)
    | refine L_true rfl ?_
    | refine L_false rfl ?_
    | refine L_skip (Nx.goL ?_)
    | refine L_skip ?_
    | refine L_exit (Nx.goL ?_)
    | refine L_exit ?_
    | refine L_ifp rfl (by first | exact bD | exact bE | exact bN | exact bNB | exact bEB | exact bNot bD | exact bNot bE | exact bNot bN) (fun h => ?_) (fun h => ?_)
    | refine S_Q [] rfl rfl (QY.idxN rfl rfl (by omega)) ?_
    | refine S_Q [] rfl rfl (QY.add rfl rfl rfl (by omega) (by omega)) ?_
    | refine S_Q [] rfl rfl (QY.sub rfl rfl rfl (by omega) (by omega)) ?_
    | refine S_Q [] rfl rfl (QY.mask rfl rfl (by decide) rfl) ?_
    | refine S_Q [] rfl rfl (QY.ldI rfl rfl (List.getElem?_eq_getElem (by omega))) ?_
    | refine S_Q [] rfl rfl (QY.divN rfl rfl rfl (by omega) (by omega)) ?_
    | refine S_Q [] rfl rfl (QY.remN rfl rfl rfl (by omega) (by omega)) ?_
    | refine S_Q [] rfl rfl (QY.mul rfl rfl rfl (by omega) (by omega)) ?_
    | refine L_reg ?_
    | refine L_seq ?_
    | exact ⟨rfl, rfl⟩
    | fail)

/-! ### the arena -/
abbrev slB (b n : Nat) : Value := .slice (some ⟨b, 0, none⟩) n n
abbrev ptr (b : Nat) : Value := .pointer (some ⟨b, 0, none⟩)
def BL (bs : Bytes) : LB := .gro 1 (rowsC byteC bs)
/-- an arena: its cell, its bytes -/
def AL (bs : Bytes) : LH := [.cells 0 [slB 1 bs.length], BL bs]
set_option maxRecDepth 4000 in
theorem arenaNew_tr (p : Int) (n : Nat) (hn : 256 * min (max p 0) 256 = n) : Tr Try.prog 5 [.int .i64 p] [] (fun v K => v = ptr 0 ∧ K = AL (List.replicate n 0)) := by
  refine Tr.of row_arena_New_ok rfl ?_
  repeat' (first
    | refine L_rs ?_
    | refine S_done [] rfl (Nx.goL ?_)
    | refine S_done [] rfl (RetQ.keepN rfl rfl rfl rfl ?_)
    | refine S_done [] rfl ?_
    | refine L_block ?_
    | refine L_ret (RetQ.keep rfl rfl rfl rfl ?_)
    | refine L_true rfl ?_
    | refine L_false rfl ?_
    | refine L_skip (Nx.goL ?_)
    | refine L_skip ?_
    | refine L_exit (Nx.goL ?_)
    | refine L_exit ?_
    | refine L_ifp rfl (by first | exact bD | exact bE | exact bN | exact bNB | exact bEB | exact bNot bD | exact bNot bE | exact bNot bN) (fun h => ?_) (fun h => ?_)
    | refine S_Q [] rfl rfl (QY.idxN rfl rfl (by omega)) ?_
    | refine S_Q [] rfl rfl (QY.mul rfl rfl hn (by omega) (by omega)) ?_
    | refine S_Q [] rfl rfl (QY.add rfl rfl rfl (by omega) (by omega)) ?_
    | refine S_Q [] rfl rfl (QY.sub rfl rfl rfl (by omega) (by omega)) ?_
    | refine S_Q [] rfl rfl (QY.mask rfl rfl (by decide) rfl) ?_
    | refine S_Q [] rfl rfl (QY.ldI rfl rfl (List.getElem?_eq_getElem (by omega))) ?_
    | refine S_Q [] rfl rfl (QY.divN rfl rfl rfl (by omega) (by omega)) ?_
    | refine S_Q [] rfl rfl (QY.remN rfl rfl rfl (by omega) (by omega)) ?_
    | refine S_Q [] rfl rfl (QY.mul rfl rfl rfl (by omega) (by omega)) ?_
    | refine L_reg ?_
    | refine L_seq ?_
    | exact ⟨rfl, rfl⟩
    | fail)
  first | refine L_rs ?_ | refine L_reg ?_ | skip
  refine S_E [] rfl rfl (EW.mk (sz := 1) (bytes := 1) (k := n) (zs := byteC 0) rfl (by kernel_rfl) rfl rfl (by omega) (by omega)) ?_
  rintro _ _ ⟨rfl, rfl⟩
  refine ⟨(by repeat' (first | exact trivial | refine ⟨⟨qsafe_ok (st := []) rfl, Sure.of rfl⟩, ?_⟩ | refine ⟨.inl rfl, ?_⟩ | refine ⟨.inr ⟨qsafe_ok (st := []) rfl, Sure.of rfl⟩, ?_⟩ | refine ⟨⟨qsafe_ok (st := []) rfl, Sure.slice (by omega)⟩, ?_⟩ | refine ⟨.inr ⟨qsafe_ok (st := []) rfl, Sure.slice (by omega)⟩, ?_⟩ | refine ⟨.inr ⟨QY.neqB rfl (by kernel_rfl) rfl rfl, Sure.of rfl⟩, ?_⟩ | refine ⟨.inr ⟨QY.eqlB rfl (by kernel_rfl) rfl rfl, Sure.of rfl⟩, ?_⟩ | fail)), LSt.nf ?_⟩
  conv => whnf
  repeat' (first
    | refine L_rs ?_
    | refine S_done [] rfl (Nx.goL ?_)
    | refine S_done [] rfl (RetQ.keepN rfl rfl rfl rfl ?_)
    | refine S_done [] rfl ?_
    | refine L_block ?_
    | refine L_ret (RetQ.keep rfl rfl rfl rfl ?_)
    | refine L_true rfl ?_
    | refine L_false rfl ?_
    | refine L_skip (Nx.goL ?_)
    | refine L_skip ?_
    | refine L_exit (Nx.goL ?_)
    | refine L_exit ?_
    | refine L_ifp rfl (by first | exact bD | exact bE | exact bN | exact bNB | exact bEB | exact bNot bD | exact bNot bE | exact bNot bN) (fun h => ?_) (fun h => ?_)
    | refine S_Q [] rfl rfl (QY.idxN rfl rfl (by omega)) ?_
    | refine S_Q [] rfl rfl (QY.add rfl rfl rfl (by omega) (by omega)) ?_
    | refine S_Q [] rfl rfl (QY.sub rfl rfl rfl (by omega) (by omega)) ?_
    | refine S_Q [] rfl rfl (QY.mask rfl rfl (by decide) rfl) ?_
    | refine S_Q [] rfl rfl (QY.ldI rfl rfl (List.getElem?_eq_getElem (by omega))) ?_
    | refine S_Q [] rfl rfl (QY.divN rfl rfl rfl (by omega) (by omega)) ?_
    | refine S_Q [] rfl rfl (QY.remN rfl rfl rfl (by omega) (by omega)) ?_
    | refine S_Q [] rfl rfl (QY.mul rfl rfl rfl (by omega) (by omega)) ?_
    | refine L_reg ?_
    | refine L_seq ?_
    | exact ⟨rfl, rfl⟩
    | fail)
  refine L_ret (RetQ.pick [1, 0] rfl rfl rfl rfl ⟨rfl, ?_⟩)
  rw [repC_rows (0 : BitVec 8), AL, BL, List.length_replicate]
  rfl
theorem arenaLen_tr (bs : Bytes) : Tr Try.prog 21 [ptr 0] (AL bs) (fun v K => v = .int .i64 bs.length ∧ K = AL bs) := by
  refine Tr.of row_arena_Arena_Len_ok rfl ?_
  repeat' (first
    | refine L_rs ?_
    | refine S_done [] rfl (Nx.goL ?_)
    | refine S_done [] rfl (RetQ.keepN rfl rfl rfl rfl ?_)
    | refine S_done [] rfl ?_
    | refine L_block ?_
    | refine L_ret (RetQ.keep rfl rfl rfl rfl ?_)
    | refine L_true rfl ?_
    | refine L_false rfl ?_
    | refine L_skip (Nx.goL ?_)
    | refine L_skip ?_
    | refine L_exit (Nx.goL ?_)
    | refine L_exit ?_
    | refine L_ifp rfl (by first | exact bD | exact bE | exact bN | exact bNB | exact bEB | exact bNot bD | exact bNot bE | exact bNot bN) (fun h => ?_) (fun h => ?_)
    | refine S_Q [] rfl rfl (QY.idxN rfl rfl (by omega)) ?_
    | refine S_Q [] rfl rfl (QY.add rfl rfl rfl (by omega) (by omega)) ?_
    | refine S_Q [] rfl rfl (QY.sub rfl rfl rfl (by omega) (by omega)) ?_
    | refine S_Q [] rfl rfl (QY.mask rfl rfl (by decide) rfl) ?_
    | refine S_Q [] rfl rfl (QY.ldI rfl rfl (List.getElem?_eq_getElem (by omega))) ?_
    | refine S_Q [] rfl rfl (QY.divN rfl rfl rfl (by omega) (by omega)) ?_
    | refine S_Q [] rfl rfl (QY.remN rfl rfl rfl (by omega) (by omega)) ?_
    | refine S_Q [] rfl rfl (QY.mul rfl rfl rfl (by omega) (by omega)) ?_
    | refine L_reg ?_
    | refine L_seq ?_
    | exact ⟨rfl, rfl⟩
    | fail)
theorem arenaIn_tr (bs : Bytes) (hb : bs.length ≤ 65536) (a k : Int) : Tr Try.prog 26 [ptr 0, .int .i64 a, .int .i64 k] (AL bs) (fun v K => v = .int .i64 (errIn bs.length a k) ∧ K = AL bs) := by
  refine Tr.of row_arena_Arena_in_ok rfl ?_
  repeat' (first
    | refine L_rs ?_
    | refine S_done [] rfl (Nx.goL ?_)
    | refine S_done [] rfl (RetQ.keepN rfl rfl rfl rfl ?_)
    | refine S_done [] rfl ?_
    | refine L_block ?_
    | refine L_ret (RetQ.keep rfl rfl rfl rfl ?_)
    | refine L_true rfl ?_
    | refine L_false rfl ?_
    | refine L_skip (Nx.goL ?_)
    | refine L_skip ?_
    | refine L_exit (Nx.goL ?_)
    | refine L_exit ?_
    | refine L_ifp rfl (by first | exact bD | exact bE | exact bN | exact bNB | exact bEB | exact bNot bD | exact bNot bE | exact bNot bN) (fun h => ?_) (fun h => ?_)
    | refine S_Q [] rfl rfl (QY.idxN rfl rfl (by omega)) ?_
    | refine S_Q [] rfl rfl (QY.add rfl rfl rfl (by omega) (by omega)) ?_
    | refine S_Q [] rfl rfl (QY.sub rfl rfl rfl (by omega) (by omega)) ?_
    | refine S_Q [] rfl rfl (QY.mask rfl rfl (by decide) rfl) ?_
    | refine S_Q [] rfl rfl (QY.ldI rfl rfl (List.getElem?_eq_getElem (by omega))) ?_
    | refine S_Q [] rfl rfl (QY.divN rfl rfl rfl (by omega) (by omega)) ?_
    | refine S_Q [] rfl rfl (QY.remN rfl rfl rfl (by omega) (by omega)) ?_
    | refine S_Q [] rfl rfl (QY.mul rfl rfl rfl (by omega) (by omega)) ?_
    | refine S_splitp 13 rfl rfl rfl (by first | exact bD | exact bE | exact bN | exact bNB | exact bEB | exact bNot bD | exact bNot bE | exact bNot bN) (fun h => ?_) (fun h => ?_)
    | refine S_splitp 17 rfl rfl rfl (by first | exact bD | exact bE | exact bN | exact bNB | exact bEB | exact bNot bD | exact bNot bE | exact bNot bN) (fun h => ?_) (fun h => ?_)
    | refine S_splitp 26 rfl rfl rfl (by first | exact bD | exact bE | exact bN | exact bNB | exact bEB | exact bNot bD | exact bNot bE | exact bNot bN) (fun h => ?_) (fun h => ?_)
    | refine L_reg ?_
    | refine L_seq ?_
    | exact ⟨rfl, rfl⟩
    | fail)
  all_goals (refine ⟨congrArg (Value.int _) ?_, rfl⟩; unfold errIn; (repeat' split) <;> omega)
theorem bytesClone_tr (ys : Bytes) (i m c : Nat) (h : i + m ≤ ys.length) (hb : ys.length ≤ 65536) : Tr Try.prog 27 [.slice (some ⟨0, i * 1, none⟩) m c] [BL ys] (fun v K => v = slB 1 m ∧ K = [BL ys, BL (partB ys i m)]) := by
  refine Tr.of row_bytes_Clone_ok rfl ?_
  repeat' (first
    | refine L_rs ?_
    | refine S_done [] rfl (Nx.goL ?_)
    | refine S_done [] rfl (RetQ.keepN rfl rfl rfl rfl ?_)
    | refine S_done [] rfl ?_
    | refine L_block ?_
    | refine L_ret (RetQ.keep rfl rfl rfl rfl ?_)
    | refine L_true rfl ?_
    | refine L_false rfl ?_
    | refine L_skip (Nx.goL ?_)
    | refine L_skip ?_
    | refine L_exit (Nx.goL ?_)
    | refine L_exit ?_
    | refine L_ifp rfl (by first | exact bD | exact bE | exact bN | exact bNB | exact bEB | exact bNot bD | exact bNot bE | exact bNot bN) (fun h => ?_) (fun h => ?_)
    | refine S_Q [] rfl rfl (QY.idxN rfl rfl (by omega)) ?_
    | refine S_Q [] rfl rfl (QY.add rfl rfl rfl (by omega) (by omega)) ?_
    | refine S_Q [] rfl rfl (QY.sub rfl rfl rfl (by omega) (by omega)) ?_
    | refine S_Q [] rfl rfl (QY.mask rfl rfl (by decide) rfl) ?_
    | refine S_Q [] rfl rfl (QY.ldI rfl rfl (List.getElem?_eq_getElem (by omega))) ?_
    | refine S_Q [] rfl rfl (QY.divN rfl rfl rfl (by omega) (by omega)) ?_
    | refine S_Q [] rfl rfl (QY.remN rfl rfl rfl (by omega) (by omega)) ?_
    | refine S_Q [] rfl rfl (QY.mul rfl rfl rfl (by omega) (by omega)) ?_
    | refine L_reg ?_
    | refine L_seq ?_
    | exact ⟨rfl, rfl⟩
    | fail)
  rcases Nat.eq_zero_or_pos m with rfl | hm
  · refine S_Q2 [] rfl rfl (QY.nilS2 rfl (by kernel_rfl) rfl) ?_ ?_
    · refine S_done [] rfl (Nx.goL (L_true rfl (L_rs (S_done [] rfl (Nx.goL ?_)))))
      refine LWp.nilE 2 1 rfl ?_
      exact L_ret (RetQ.pick [0, 1] rfl rfl rfl rfl ⟨rfl, rfl⟩)
    · repeat' (first
        | refine L_rs ?_
        | refine S_done [] rfl (Nx.goL ?_)
        | refine S_done [] rfl (RetQ.keepN rfl rfl rfl rfl ?_)
        | refine S_done [] rfl ?_
        | refine L_block ?_
        | refine L_ret (RetQ.keep rfl rfl rfl rfl ?_)
        | refine L_true rfl ?_
        | refine L_false rfl ?_
        | refine L_skip (Nx.goL ?_)
        | refine L_skip ?_
        | refine L_exit (Nx.goL ?_)
        | refine L_exit ?_
        | refine L_ifp rfl (by first | exact bD | exact bE | exact bN | exact bNB | exact bEB | exact bNot bD | exact bNot bE | exact bNot bN) (fun h => ?_) (fun h => ?_)
        | refine S_Q [] rfl rfl (QY.idxN rfl rfl (by omega)) ?_
        | refine S_Q [] rfl rfl (QY.add rfl rfl rfl (by omega) (by omega)) ?_
        | refine S_Q [] rfl rfl (QY.sub rfl rfl rfl (by omega) (by omega)) ?_
        | refine S_Q [] rfl rfl (QY.mask rfl rfl (by decide) rfl) ?_
        | refine S_Q [] rfl rfl (QY.ldI rfl rfl (List.getElem?_eq_getElem (by omega))) ?_
        | refine S_Q [] rfl rfl (QY.divN rfl rfl rfl (by omega) (by omega)) ?_
        | refine S_Q [] rfl rfl (QY.remN rfl rfl rfl (by omega) (by omega)) ?_
        | refine S_Q [] rfl rfl (QY.mul rfl rfl rfl (by omega) (by omega)) ?_
        | refine L_reg ?_
        | refine L_seq ?_
        | exact ⟨rfl, rfl⟩
        | fail)
      refine S_wk [] rfl (wk_gro0 (b := 1) 1 rfl) ?_
      first | refine L_rs ?_ | refine L_reg ?_ | skip
      refine S_E [] rfl rfl (EW.appRS (bytes := 1) (xs := []) byteC_ok rfl (by kernel_rfl) rfl rfl rfl rfl rfl rfl h (by decide) (by simp)) ?_
      rintro _ _ ⟨rfl, rfl⟩
      refine ⟨(by repeat' (first | exact trivial | refine ⟨⟨qsafe_ok (st := []) rfl, Sure.of rfl⟩, ?_⟩ | refine ⟨.inl rfl, ?_⟩ | refine ⟨.inr ⟨qsafe_ok (st := []) rfl, Sure.of rfl⟩, ?_⟩ | refine ⟨⟨qsafe_ok (st := []) rfl, Sure.slice (by omega)⟩, ?_⟩ | refine ⟨.inr ⟨qsafe_ok (st := []) rfl, Sure.slice (by omega)⟩, ?_⟩ | refine ⟨.inr ⟨QY.neqB rfl (by kernel_rfl) rfl rfl, Sure.of rfl⟩, ?_⟩ | refine ⟨.inr ⟨QY.eqlB rfl (by kernel_rfl) rfl rfl, Sure.of rfl⟩, ?_⟩ | fail)), LSt.nf ?_⟩
      conv => whnf
      repeat' (first
        | refine L_rs ?_
        | refine S_done [] rfl (Nx.goL ?_)
        | refine S_done [] rfl (RetQ.keepN rfl rfl rfl rfl ?_)
        | refine S_done [] rfl ?_
        | refine L_block ?_
        | refine L_ret (RetQ.keep rfl rfl rfl rfl ?_)
        | refine L_true rfl ?_
        | refine L_false rfl ?_
        | refine L_skip (Nx.goL ?_)
        | refine L_skip ?_
        | refine L_exit (Nx.goL ?_)
        | refine L_exit ?_
        | refine L_ifp rfl (by first | exact bD | exact bE | exact bN | exact bNB | exact bEB | exact bNot bD | exact bNot bE | exact bNot bN) (fun h => ?_) (fun h => ?_)
        | refine S_Q [] rfl rfl (QY.idxN rfl rfl (by omega)) ?_
        | refine S_Q [] rfl rfl (QY.add rfl rfl rfl (by omega) (by omega)) ?_
        | refine S_Q [] rfl rfl (QY.sub rfl rfl rfl (by omega) (by omega)) ?_
        | refine S_Q [] rfl rfl (QY.mask rfl rfl (by decide) rfl) ?_
        | refine S_Q [] rfl rfl (QY.ldI rfl rfl (List.getElem?_eq_getElem (by omega))) ?_
        | refine S_Q [] rfl rfl (QY.divN rfl rfl rfl (by omega) (by omega)) ?_
        | refine S_Q [] rfl rfl (QY.remN rfl rfl rfl (by omega) (by omega)) ?_
        | refine S_Q [] rfl rfl (QY.mul rfl rfl rfl (by omega) (by omega)) ?_
        | refine L_reg ?_
        | refine L_seq ?_
        | exact ⟨rfl, rfl⟩
        | fail)
      exact L_ret (RetQ.pick [0, 2] rfl rfl rfl rfl ⟨rfl, rfl⟩)
  · refine S_Q [] rfl rfl (QY.nilS rfl (by kernel_rfl) rfl hm) ?_
    repeat' (first
      | refine L_rs ?_
      | refine S_done [] rfl (Nx.goL ?_)
      | refine S_done [] rfl (RetQ.keepN rfl rfl rfl rfl ?_)
      | refine S_done [] rfl ?_
      | refine L_block ?_
      | refine L_ret (RetQ.keep rfl rfl rfl rfl ?_)
      | refine L_true rfl ?_
      | refine L_false rfl ?_
      | refine L_skip (Nx.goL ?_)
      | refine L_skip ?_
      | refine L_exit (Nx.goL ?_)
      | refine L_exit ?_
      | refine L_ifp rfl (by first | exact bD | exact bE | exact bN | exact bNB | exact bEB | exact bNot bD | exact bNot bE | exact bNot bN) (fun h => ?_) (fun h => ?_)
      | refine S_Q [] rfl rfl (QY.idxN rfl rfl (by omega)) ?_
      | refine S_Q [] rfl rfl (QY.add rfl rfl rfl (by omega) (by omega)) ?_
      | refine S_Q [] rfl rfl (QY.sub rfl rfl rfl (by omega) (by omega)) ?_
      | refine S_Q [] rfl rfl (QY.mask rfl rfl (by decide) rfl) ?_
      | refine S_Q [] rfl rfl (QY.ldI rfl rfl (List.getElem?_eq_getElem (by omega))) ?_
      | refine S_Q [] rfl rfl (QY.divN rfl rfl rfl (by omega) (by omega)) ?_
      | refine S_Q [] rfl rfl (QY.remN rfl rfl rfl (by omega) (by omega)) ?_
      | refine S_Q [] rfl rfl (QY.mul rfl rfl rfl (by omega) (by omega)) ?_
      | refine L_reg ?_
      | refine L_seq ?_
      | exact ⟨rfl, rfl⟩
      | fail)
    refine S_wk [] rfl (wk_gro0 (b := 1) 1 rfl) ?_
    first | refine L_rs ?_ | refine L_reg ?_ | skip
    refine S_E [] rfl rfl (EW.appRS (bytes := 1) (xs := []) byteC_ok rfl (by kernel_rfl) rfl rfl rfl rfl rfl rfl h (by decide) (by simp; omega)) ?_
    rintro _ _ ⟨rfl, rfl⟩
    refine ⟨(by repeat' (first | exact trivial | refine ⟨⟨qsafe_ok (st := []) rfl, Sure.of rfl⟩, ?_⟩ | refine ⟨.inl rfl, ?_⟩ | refine ⟨.inr ⟨qsafe_ok (st := []) rfl, Sure.of rfl⟩, ?_⟩ | refine ⟨⟨qsafe_ok (st := []) rfl, Sure.slice (by omega)⟩, ?_⟩ | refine ⟨.inr ⟨qsafe_ok (st := []) rfl, Sure.slice (by omega)⟩, ?_⟩ | refine ⟨.inr ⟨QY.neqB rfl (by kernel_rfl) rfl rfl, Sure.of rfl⟩, ?_⟩ | refine ⟨.inr ⟨QY.eqlB rfl (by kernel_rfl) rfl rfl, Sure.of rfl⟩, ?_⟩ | fail)), LSt.nf ?_⟩
    conv => whnf
    repeat' (first
      | refine L_rs ?_
      | refine S_done [] rfl (Nx.goL ?_)
      | refine S_done [] rfl (RetQ.keepN rfl rfl rfl rfl ?_)
      | refine S_done [] rfl ?_
      | refine L_block ?_
      | refine L_ret (RetQ.keep rfl rfl rfl rfl ?_)
      | refine L_true rfl ?_
      | refine L_false rfl ?_
      | refine L_skip (Nx.goL ?_)
      | refine L_skip ?_
      | refine L_exit (Nx.goL ?_)
      | refine L_exit ?_
      | refine L_ifp rfl (by first | exact bD | exact bE | exact bN | exact bNB | exact bEB | exact bNot bD | exact bNot bE | exact bNot bN) (fun h => ?_) (fun h => ?_)
      | refine S_Q [] rfl rfl (QY.idxN rfl rfl (by omega)) ?_
      | refine S_Q [] rfl rfl (QY.add rfl rfl rfl (by omega) (by omega)) ?_
      | refine S_Q [] rfl rfl (QY.sub rfl rfl rfl (by omega) (by omega)) ?_
      | refine S_Q [] rfl rfl (QY.mask rfl rfl (by decide) rfl) ?_
      | refine S_Q [] rfl rfl (QY.ldI rfl rfl (List.getElem?_eq_getElem (by omega))) ?_
      | refine S_Q [] rfl rfl (QY.divN rfl rfl rfl (by omega) (by omega)) ?_
      | refine S_Q [] rfl rfl (QY.remN rfl rfl rfl (by omega) (by omega)) ?_
      | refine S_Q [] rfl rfl (QY.mul rfl rfl rfl (by omega) (by omega)) ?_
      | refine L_reg ?_
      | refine L_seq ?_
      | exact ⟨rfl, rfl⟩
      | fail)
    exact L_ret (RetQ.pick [0, 2] rfl rfl rfl rfl ⟨by show Value.slice _ (0 + m) (0 + m) = _; rw [Nat.zero_add]; rfl, rfl⟩)
theorem arenaLoad_ok (bs : Bytes) (hb : bs.length ≤ 65536) (i m : Nat) (h : i + m ≤ bs.length) : Tr Try.prog 9 [ptr 0, .int .i64 i, .int .i64 m] (AL bs) (fun v K => v = .tuple ⟨[slB 2 m, .int .i64 0]⟩ ∧ K = AL bs ++ [BL (partB bs i m)]) := by
  have hI := arenaIn_tr bs hb i m
  rw [errIn_ok h] at hI
  refine Tr.of row_arena_Arena_Load_ok rfl ?_
  repeat' (first
    | refine L_rs ?_
    | refine S_done [] rfl (Nx.goL ?_)
    | refine S_done [] rfl (RetQ.keepN rfl rfl rfl rfl ?_)
    | refine S_done [] rfl ?_
    | refine L_block ?_
    | refine L_ret (RetQ.keep rfl rfl rfl rfl ?_)
    | refine L_true rfl ?_
    | refine L_false rfl ?_
    | refine L_skip (Nx.goL ?_)
    | refine L_skip ?_
    | refine L_exit (Nx.goL ?_)
    | refine L_exit ?_
    | refine L_ifp rfl (by first | exact bD | exact bE | exact bN | exact bNB | exact bEB | exact bNot bD | exact bNot bE | exact bNot bN) (fun h => ?_) (fun h => ?_)
    | refine S_Q [] rfl rfl (QY.idxN rfl rfl (by omega)) ?_
    | refine S_Q [] rfl rfl (QY.add rfl rfl rfl (by omega) (by omega)) ?_
    | refine S_Q [] rfl rfl (QY.sub rfl rfl rfl (by omega) (by omega)) ?_
    | refine S_Q [] rfl rfl (QY.mask rfl rfl (by decide) rfl) ?_
    | refine S_Q [] rfl rfl (QY.ldI rfl rfl (List.getElem?_eq_getElem (by omega))) ?_
    | refine S_Q [] rfl rfl (QY.divN rfl rfl rfl (by omega) (by omega)) ?_
    | refine S_Q [] rfl rfl (QY.remN rfl rfl rfl (by omega) (by omega)) ?_
    | refine S_Q [] rfl rfl (QY.mul rfl rfl rfl (by omega) (by omega)) ?_
    | refine L_reg ?_
    | refine L_seq ?_
    | exact ⟨rfl, rfl⟩
    | fail)
  first | refine L_rs ?_ | refine L_reg ?_ | skip
  refine S_Ed [] rfl rfl (EWd.callP [0, 1] (hI) rfl rfl (by decide) (by repeat' (first | exact trivial | refine ⟨rfl, ?_⟩ | fail)) rfl rfl) (disj_nil _) (nm_nilE _) (nm_nilT _) ?_
  rintro _ _ ⟨rfl, rfl⟩
  refine ⟨(by repeat' (first | exact trivial | refine ⟨⟨qsafe_ok (st := []) rfl, Sure.of rfl⟩, ?_⟩ | refine ⟨.inl rfl, ?_⟩ | refine ⟨.inr ⟨qsafe_ok (st := []) rfl, Sure.of rfl⟩, ?_⟩ | refine ⟨⟨qsafe_ok (st := []) rfl, Sure.slice (by omega)⟩, ?_⟩ | refine ⟨.inr ⟨qsafe_ok (st := []) rfl, Sure.slice (by omega)⟩, ?_⟩ | refine ⟨.inr ⟨QY.neqB rfl (by kernel_rfl) rfl rfl, Sure.of rfl⟩, ?_⟩ | refine ⟨.inr ⟨QY.eqlB rfl (by kernel_rfl) rfl rfl, Sure.of rfl⟩, ?_⟩ | fail)), ?_⟩
  repeat' (first
    | refine L_rs ?_
    | refine S_done [] rfl (Nx.goL ?_)
    | refine S_done [] rfl (RetQ.keepN rfl rfl rfl rfl ?_)
    | refine S_done [] rfl ?_
    | refine L_block ?_
    | refine L_ret (RetQ.keep rfl rfl rfl rfl ?_)
    | refine L_true rfl ?_
    | refine L_false rfl ?_
    | refine L_skip (Nx.goL ?_)
    | refine L_skip ?_
    | refine L_exit (Nx.goL ?_)
    | refine L_exit ?_
    | refine L_ifp rfl (by first | exact bD | exact bE | exact bN | exact bNB | exact bEB | exact bNot bD | exact bNot bE | exact bNot bN) (fun h => ?_) (fun h => ?_)
    | refine S_Q [] rfl rfl (QY.idxN rfl rfl (by omega)) ?_
    | refine S_Q [] rfl rfl (QY.add rfl rfl rfl (by omega) (by omega)) ?_
    | refine S_Q [] rfl rfl (QY.sub rfl rfl rfl (by omega) (by omega)) ?_
    | refine S_Q [] rfl rfl (QY.mask rfl rfl (by decide) rfl) ?_
    | refine S_Q [] rfl rfl (QY.ldI rfl rfl (List.getElem?_eq_getElem (by omega))) ?_
    | refine S_Q [] rfl rfl (QY.divN rfl rfl rfl (by omega) (by omega)) ?_
    | refine S_Q [] rfl rfl (QY.remN rfl rfl rfl (by omega) (by omega)) ?_
    | refine S_Q [] rfl rfl (QY.mul rfl rfl rfl (by omega) (by omega)) ?_
    | refine L_reg ?_
    | refine L_seq ?_
    | exact ⟨rfl, rfl⟩
    | fail)
  refine S_Q [] rfl rfl (QY.slc0 (b := 1) (lo' := i) (hi' := i + m) rfl rfl rfl (by omega) (by omega)) ?_
  have hC := bytesClone_tr bs i (i + m - i) (bs.length - i) (by omega) hb
  first | refine L_rs ?_ | refine L_reg ?_ | skip
  refine S_E [] rfl rfl (EW.callF [1] (hC) rfl rfl (by decide) (by repeat' (first | exact trivial | refine ⟨rfl, ?_⟩ | fail)) rfl rfl) ?_
  rintro _ _ ⟨rfl, rfl⟩
  refine ⟨(by repeat' (first | exact trivial | refine ⟨⟨qsafe_ok (st := []) rfl, Sure.of rfl⟩, ?_⟩ | refine ⟨.inl rfl, ?_⟩ | refine ⟨.inr ⟨qsafe_ok (st := []) rfl, Sure.of rfl⟩, ?_⟩ | refine ⟨⟨qsafe_ok (st := []) rfl, Sure.slice (by omega)⟩, ?_⟩ | refine ⟨.inr ⟨qsafe_ok (st := []) rfl, Sure.slice (by omega)⟩, ?_⟩ | refine ⟨.inr ⟨QY.neqB rfl (by kernel_rfl) rfl rfl, Sure.of rfl⟩, ?_⟩ | refine ⟨.inr ⟨QY.eqlB rfl (by kernel_rfl) rfl rfl, Sure.of rfl⟩, ?_⟩ | fail)), LSt.nf ?_⟩
  conv => whnf
  repeat' (first
    | refine L_rs ?_
    | refine S_done [] rfl (Nx.goL ?_)
    | refine S_done [] rfl (RetQ.keepN rfl rfl rfl rfl ?_)
    | refine S_done [] rfl ?_
    | refine L_block ?_
    | refine L_ret (RetQ.keep rfl rfl rfl rfl ?_)
    | refine L_true rfl ?_
    | refine L_false rfl ?_
    | refine L_skip (Nx.goL ?_)
    | refine L_skip ?_
    | refine L_exit (Nx.goL ?_)
    | refine L_exit ?_
    | refine L_ifp rfl (by first | exact bD | exact bE | exact bN | exact bNB | exact bEB | exact bNot bD | exact bNot bE | exact bNot bN) (fun h => ?_) (fun h => ?_)
    | refine S_Q [] rfl rfl (QY.idxN rfl rfl (by omega)) ?_
    | refine S_Q [] rfl rfl (QY.add rfl rfl rfl (by omega) (by omega)) ?_
    | refine S_Q [] rfl rfl (QY.sub rfl rfl rfl (by omega) (by omega)) ?_
    | refine S_Q [] rfl rfl (QY.mask rfl rfl (by decide) rfl) ?_
    | refine S_Q [] rfl rfl (QY.ldI rfl rfl (List.getElem?_eq_getElem (by omega))) ?_
    | refine S_Q [] rfl rfl (QY.divN rfl rfl rfl (by omega) (by omega)) ?_
    | refine S_Q [] rfl rfl (QY.remN rfl rfl rfl (by omega) (by omega)) ?_
    | refine S_Q [] rfl rfl (QY.mul rfl rfl rfl (by omega) (by omega)) ?_
    | refine L_reg ?_
    | refine L_seq ?_
    | exact ⟨rfl, rfl⟩
    | fail)
  rw [show i + m - i = m by omega]
  refine L_ret (RetQ.pick [0, 1, 2] rfl rfl rfl rfl ⟨rfl, rfl⟩)
theorem arenaLoad_no (bs : Bytes) (hb : bs.length ≤ 65536) (a k : Int) (h : errIn bs.length a k ≠ 0) : Tr Try.prog 9 [ptr 0, .int .i64 a, .int .i64 k] (AL bs) (fun v K => v = .tuple ⟨[.slice none 0 0, .int .i64 (errIn bs.length a k)]⟩ ∧ K = AL bs) := by
  refine Tr.of row_arena_Arena_Load_ok rfl ?_
  repeat' (first
    | refine L_rs ?_
    | refine S_done [] rfl (Nx.goL ?_)
    | refine S_done [] rfl (RetQ.keepN rfl rfl rfl rfl ?_)
    | refine S_done [] rfl ?_
    | refine L_block ?_
    | refine L_ret (RetQ.keep rfl rfl rfl rfl ?_)
    | refine L_true rfl ?_
    | refine L_false rfl ?_
    | refine L_skip (Nx.goL ?_)
    | refine L_skip ?_
    | refine L_exit (Nx.goL ?_)
    | refine L_exit ?_
    | refine L_ifp rfl (by first | exact bD | exact bE | exact bN | exact bNB | exact bEB | exact bNot bD | exact bNot bE | exact bNot bN) (fun h => ?_) (fun h => ?_)
    | refine S_Q [] rfl rfl (QY.idxN rfl rfl (by omega)) ?_
    | refine S_Q [] rfl rfl (QY.add rfl rfl rfl (by omega) (by omega)) ?_
    | refine S_Q [] rfl rfl (QY.sub rfl rfl rfl (by omega) (by omega)) ?_
    | refine S_Q [] rfl rfl (QY.mask rfl rfl (by decide) rfl) ?_
    | refine S_Q [] rfl rfl (QY.ldI rfl rfl (List.getElem?_eq_getElem (by omega))) ?_
    | refine S_Q [] rfl rfl (QY.divN rfl rfl rfl (by omega) (by omega)) ?_
    | refine S_Q [] rfl rfl (QY.remN rfl rfl rfl (by omega) (by omega)) ?_
    | refine S_Q [] rfl rfl (QY.mul rfl rfl rfl (by omega) (by omega)) ?_
    | refine L_reg ?_
    | refine L_seq ?_
    | exact ⟨rfl, rfl⟩
    | fail)
  first | refine L_rs ?_ | refine L_reg ?_ | skip
  refine S_Ed [] rfl rfl (EWd.callP [0, 1] (arenaIn_tr bs hb a k) rfl rfl (by decide) (by repeat' (first | exact trivial | refine ⟨rfl, ?_⟩ | fail)) rfl rfl) (disj_nil _) (nm_nilE _) (nm_nilT _) ?_
  rintro _ _ ⟨rfl, rfl⟩
  refine ⟨(by repeat' (first | exact trivial | refine ⟨⟨qsafe_ok (st := []) rfl, Sure.of rfl⟩, ?_⟩ | refine ⟨.inl rfl, ?_⟩ | refine ⟨.inr ⟨qsafe_ok (st := []) rfl, Sure.of rfl⟩, ?_⟩ | refine ⟨⟨qsafe_ok (st := []) rfl, Sure.slice (by omega)⟩, ?_⟩ | refine ⟨.inr ⟨qsafe_ok (st := []) rfl, Sure.slice (by omega)⟩, ?_⟩ | refine ⟨.inr ⟨QY.neqB rfl (by kernel_rfl) rfl rfl, Sure.of rfl⟩, ?_⟩ | refine ⟨.inr ⟨QY.eqlB rfl (by kernel_rfl) rfl rfl, Sure.of rfl⟩, ?_⟩ | fail)), ?_⟩
  repeat' (first
    | refine L_rs ?_
    | refine S_done [] rfl (Nx.goL ?_)
    | refine S_done [] rfl (RetQ.keepN rfl rfl rfl rfl ?_)
    | refine S_done [] rfl ?_
    | refine L_block ?_
    | refine L_ret (RetQ.keep rfl rfl rfl rfl ?_)
    | refine L_true rfl ?_
    | refine L_false rfl ?_
    | refine L_skip (Nx.goL ?_)
    | refine L_skip ?_
    | refine L_exit (Nx.goL ?_)
    | refine L_exit ?_
    | refine L_ifp rfl (by first | exact bD | exact bE | exact bN | exact bNB | exact bEB | exact bNot bD | exact bNot bE | exact bNot bN) (fun h => ?_) (fun h => ?_)
    | refine S_Q [] rfl rfl (QY.idxN rfl rfl (by omega)) ?_
    | refine S_Q [] rfl rfl (QY.add rfl rfl rfl (by omega) (by omega)) ?_
    | refine S_Q [] rfl rfl (QY.sub rfl rfl rfl (by omega) (by omega)) ?_
    | refine S_Q [] rfl rfl (QY.mask rfl rfl (by decide) rfl) ?_
    | refine S_Q [] rfl rfl (QY.ldI rfl rfl (List.getElem?_eq_getElem (by omega))) ?_
    | refine S_Q [] rfl rfl (QY.divN rfl rfl rfl (by omega) (by omega)) ?_
    | refine S_Q [] rfl rfl (QY.remN rfl rfl rfl (by omega) (by omega)) ?_
    | refine S_Q [] rfl rfl (QY.mul rfl rfl rfl (by omega) (by omega)) ?_
    | refine L_reg ?_
    | refine L_seq ?_
    | exact ⟨rfl, rfl⟩
    | fail)
  · contradiction
theorem arenaFill_no (bs : Bytes) (hb : bs.length ≤ 65536) (a k : Int) (c : BitVec 8) (h : errIn bs.length a k ≠ 0) : Tr Try.prog 23 [ptr 0, .int .i64 a, .int .i64 k, .int .u8 (c.toNat : Int)] (AL bs) (fun v K => v = .int .i64 (errIn bs.length a k) ∧ K = AL bs) := by
  refine Tr.of row_arena_Arena_Fill_ok rfl ?_
  repeat' (first
    | refine L_rs ?_
    | refine S_done [] rfl (Nx.goL ?_)
    | refine S_done [] rfl (RetQ.keepN rfl rfl rfl rfl ?_)
    | refine S_done [] rfl ?_
    | refine L_block ?_
    | refine L_ret (RetQ.keep rfl rfl rfl rfl ?_)
    | refine L_true rfl ?_
    | refine L_false rfl ?_
    | refine L_skip (Nx.goL ?_)
    | refine L_skip ?_
    | refine L_exit (Nx.goL ?_)
    | refine L_exit ?_
    | refine L_ifp rfl (by first | exact bD | exact bE | exact bN | exact bNB | exact bEB | exact bNot bD | exact bNot bE | exact bNot bN) (fun h => ?_) (fun h => ?_)
    | refine S_Q [] rfl rfl (QY.idxN rfl rfl (by omega)) ?_
    | refine S_Q [] rfl rfl (QY.add rfl rfl rfl (by omega) (by omega)) ?_
    | refine S_Q [] rfl rfl (QY.sub rfl rfl rfl (by omega) (by omega)) ?_
    | refine S_Q [] rfl rfl (QY.mask rfl rfl (by decide) rfl) ?_
    | refine S_Q [] rfl rfl (QY.ldI rfl rfl (List.getElem?_eq_getElem (by omega))) ?_
    | refine S_Q [] rfl rfl (QY.divN rfl rfl rfl (by omega) (by omega)) ?_
    | refine S_Q [] rfl rfl (QY.remN rfl rfl rfl (by omega) (by omega)) ?_
    | refine S_Q [] rfl rfl (QY.mul rfl rfl rfl (by omega) (by omega)) ?_
    | refine L_reg ?_
    | refine L_seq ?_
    | exact ⟨rfl, rfl⟩
    | fail)
  first | refine L_rs ?_ | refine L_reg ?_ | skip
  refine S_Ed [] rfl rfl (EWd.callP [0, 1] (arenaIn_tr bs hb a k) rfl rfl (by decide) (by repeat' (first | exact trivial | refine ⟨rfl, ?_⟩ | fail)) rfl rfl) (disj_nil _) (nm_nilE _) (nm_nilT _) ?_
  rintro _ _ ⟨rfl, rfl⟩
  refine ⟨(by repeat' (first | exact trivial | refine ⟨⟨qsafe_ok (st := []) rfl, Sure.of rfl⟩, ?_⟩ | refine ⟨.inl rfl, ?_⟩ | refine ⟨.inr ⟨qsafe_ok (st := []) rfl, Sure.of rfl⟩, ?_⟩ | refine ⟨⟨qsafe_ok (st := []) rfl, Sure.slice (by omega)⟩, ?_⟩ | refine ⟨.inr ⟨qsafe_ok (st := []) rfl, Sure.slice (by omega)⟩, ?_⟩ | refine ⟨.inr ⟨QY.neqB rfl (by kernel_rfl) rfl rfl, Sure.of rfl⟩, ?_⟩ | refine ⟨.inr ⟨QY.eqlB rfl (by kernel_rfl) rfl rfl, Sure.of rfl⟩, ?_⟩ | fail)), ?_⟩
  repeat' (first
    | refine L_rs ?_
    | refine S_done [] rfl (Nx.goL ?_)
    | refine S_done [] rfl (RetQ.keepN rfl rfl rfl rfl ?_)
    | refine S_done [] rfl ?_
    | refine L_block ?_
    | refine L_ret (RetQ.keep rfl rfl rfl rfl ?_)
    | refine L_true rfl ?_
    | refine L_false rfl ?_
    | refine L_skip (Nx.goL ?_)
    | refine L_skip ?_
    | refine L_exit (Nx.goL ?_)
    | refine L_exit ?_
    | refine L_ifp rfl (by first | exact bD | exact bE | exact bN | exact bNB | exact bEB | exact bNot bD | exact bNot bE | exact bNot bN) (fun h => ?_) (fun h => ?_)
    | refine S_Q [] rfl rfl (QY.idxN rfl rfl (by omega)) ?_
    | refine S_Q [] rfl rfl (QY.add rfl rfl rfl (by omega) (by omega)) ?_
    | refine S_Q [] rfl rfl (QY.sub rfl rfl rfl (by omega) (by omega)) ?_
    | refine S_Q [] rfl rfl (QY.mask rfl rfl (by decide) rfl) ?_
    | refine S_Q [] rfl rfl (QY.ldI rfl rfl (List.getElem?_eq_getElem (by omega))) ?_
    | refine S_Q [] rfl rfl (QY.divN rfl rfl rfl (by omega) (by omega)) ?_
    | refine S_Q [] rfl rfl (QY.remN rfl rfl rfl (by omega) (by omega)) ?_
    | refine S_Q [] rfl rfl (QY.mul rfl rfl rfl (by omega) (by omega)) ?_
    | refine L_reg ?_
    | refine L_seq ?_
    | exact ⟨rfl, rfl⟩
    | fail)
  · contradiction
theorem AL_over {bs : Bytes} {i : Nat} {ys : Bytes} (h : i + ys.length ≤ bs.length) : AL (overB bs i ys) = [.cells 0 [slB 1 bs.length], BL (overB bs i ys)] := by rw [AL, overB_length h]
theorem arenaFill_ok (bs : Bytes) (hb : bs.length ≤ 65536) (i m : Nat) (c : BitVec 8) (h : i + m ≤ bs.length) : Tr Try.prog 23 [ptr 0, .int .i64 i, .int .i64 m, .int .u8 (c.toNat : Int)] (AL bs) (fun v K => v = .int .i64 0 ∧ K = AL (overB bs i (List.replicate m c))) := by
  have hI := arenaIn_tr bs hb i m
  rw [errIn_ok h] at hI
  rw [AL_over (by rw [List.length_replicate]; exact h)]
  refine Tr.of row_arena_Arena_Fill_ok rfl ?_
  refine L_rs (S_done [] rfl (Nx.goL (L_seq ?_)))
  first | refine L_rs ?_ | refine L_reg ?_ | skip
  refine S_Ed [] rfl rfl (EWd.callP [0, 1] (hI) rfl rfl (by decide) (by repeat' (first | exact trivial | refine ⟨rfl, ?_⟩ | fail)) rfl rfl) (disj_nil _) (nm_nilE _) (nm_nilT _) ?_
  rintro _ _ ⟨rfl, rfl⟩
  refine ⟨(by repeat' (first | exact trivial | refine ⟨⟨qsafe_ok (st := []) rfl, Sure.of rfl⟩, ?_⟩ | refine ⟨.inl rfl, ?_⟩ | refine ⟨.inr ⟨qsafe_ok (st := []) rfl, Sure.of rfl⟩, ?_⟩ | refine ⟨⟨qsafe_ok (st := []) rfl, Sure.slice (by omega)⟩, ?_⟩ | refine ⟨.inr ⟨qsafe_ok (st := []) rfl, Sure.slice (by omega)⟩, ?_⟩ | refine ⟨.inr ⟨QY.neqB rfl (by kernel_rfl) rfl rfl, Sure.of rfl⟩, ?_⟩ | refine ⟨.inr ⟨QY.eqlB rfl (by kernel_rfl) rfl rfl, Sure.of rfl⟩, ?_⟩ | fail)), ?_⟩
  refine S_done [] rfl (Nx.goL (L_rs (S_done [] rfl (Nx.goL (L_false rfl (L_skip (Nx.goL ?_)))))))
  refine L_cut (fun l L => l = [] ∧ L = [.cells 0 [slB 1 bs.length], BL (overB bs i (List.replicate m c))]) ?_ ?_
  · refine L_rs (S_done [] rfl (Nx.pick [0, 1, 2, 3, 10] [0, 1] rfl rfl rfl ?_))
    refine L_block (L_loop (fun r l L => ∃ j : Nat, r = m - j ∧ j ≤ m ∧ l = [(0, ptr 0), (1, .int .i64 i), (2, .int .i64 m), (3, .int .u8 (c.toNat : Int)), (10, .int .i64 ((i + j : Nat) : Int))] ∧ L = [.cells 0 [slB 1 bs.length], BL (overB bs i (List.replicate j c))]) m ⟨0, rfl, by omega, rfl, by rw [List.replicate_zero, overB_nil]; rfl⟩ ?_)
    rintro r _ _ ⟨j, rfl, hj, rfl, rfl⟩
    refine L_seq ?_
    repeat' (first
      | refine L_rs ?_
      | refine S_done [] rfl (Nx.goL ?_)
      | refine S_done [] rfl (RetQ.keepN rfl rfl rfl rfl ?_)
      | refine S_done [] rfl ?_
      | refine L_block ?_
      | refine L_ret (RetQ.keep rfl rfl rfl rfl ?_)
      | refine L_true rfl ?_
      | refine L_false rfl ?_
      | refine L_skip (Nx.goL ?_)
      | refine L_skip ?_
      | refine L_exit (Nx.goL ?_)
      | refine L_exit ?_
      | refine L_ifp rfl (by first | exact bD | exact bE | exact bN | exact bNB | exact bEB | exact bNot bD | exact bNot bE | exact bNot bN) (fun h => ?_) (fun h => ?_)
      | refine S_Q [] rfl rfl (QY.idxN rfl rfl (by omega)) ?_
      | refine S_Q [] rfl rfl (QY.add rfl rfl rfl (by omega) (by omega)) ?_
      | refine S_Q [] rfl rfl (QY.sub rfl rfl rfl (by omega) (by omega)) ?_
      | refine S_Q [] rfl rfl (QY.mask rfl rfl (by decide) rfl) ?_
      | refine S_Q [] rfl rfl (QY.ldI rfl rfl (List.getElem?_eq_getElem (by omega))) ?_
      | refine S_Q [] rfl rfl (QY.divN rfl rfl rfl (by omega) (by omega)) ?_
      | refine S_Q [] rfl rfl (QY.remN rfl rfl rfl (by omega) (by omega)) ?_
      | refine S_Q [] rfl rfl (QY.mul rfl rfl rfl (by omega) (by omega)) ?_
      | refine L_reg ?_
      | refine L_seq ?_
      | exact ⟨rfl, rfl⟩
      | fail)
    · have hs := overB_snoc (bs := bs) (i := i) (ys := List.replicate j c) c (by rw [List.length_replicate]; omega)
      rw [List.length_replicate, ← List.replicate_succ'] at hs
      first | refine L_rs ?_ | refine L_reg ?_ | skip
      refine S_E [] rfl rfl (EW.stY (k := i + j) rfl rfl rfl (by rw [overB_length (by rw [List.length_replicate]; omega)]; omega)) ?_
      rintro _ _ ⟨rfl, rfl⟩
      refine ⟨(by repeat' (first | exact trivial | refine ⟨⟨qsafe_ok (st := []) rfl, Sure.of rfl⟩, ?_⟩ | refine ⟨.inl rfl, ?_⟩ | refine ⟨.inr ⟨qsafe_ok (st := []) rfl, Sure.of rfl⟩, ?_⟩ | refine ⟨⟨qsafe_ok (st := []) rfl, Sure.slice (by omega)⟩, ?_⟩ | refine ⟨.inr ⟨qsafe_ok (st := []) rfl, Sure.slice (by omega)⟩, ?_⟩ | refine ⟨.inr ⟨QY.neqB rfl (by kernel_rfl) rfl rfl, Sure.of rfl⟩, ?_⟩ | refine ⟨.inr ⟨QY.eqlB rfl (by kernel_rfl) rfl rfl, Sure.of rfl⟩, ?_⟩ | fail)), LSt.nf ?_⟩
      conv => whnf
      repeat' (first
        | refine L_rs ?_
        | refine S_done [] rfl (Nx.goL ?_)
        | refine S_done [] rfl (RetQ.keepN rfl rfl rfl rfl ?_)
        | refine S_done [] rfl ?_
        | refine L_block ?_
        | refine L_ret (RetQ.keep rfl rfl rfl rfl ?_)
        | refine L_true rfl ?_
        | refine L_false rfl ?_
        | refine L_skip (Nx.goL ?_)
        | refine L_skip ?_
        | refine L_exit (Nx.goL ?_)
        | refine L_exit ?_
        | refine L_ifp rfl (by first | exact bD | exact bE | exact bN | exact bNB | exact bEB | exact bNot bD | exact bNot bE | exact bNot bN) (fun h => ?_) (fun h => ?_)
        | refine S_Q [] rfl rfl (QY.idxN rfl rfl (by omega)) ?_
        | refine S_Q [] rfl rfl (QY.add rfl rfl rfl (by omega) (by omega)) ?_
        | refine S_Q [] rfl rfl (QY.sub rfl rfl rfl (by omega) (by omega)) ?_
        | refine S_Q [] rfl rfl (QY.mask rfl rfl (by decide) rfl) ?_
        | refine S_Q [] rfl rfl (QY.ldI rfl rfl (List.getElem?_eq_getElem (by omega))) ?_
        | refine S_Q [] rfl rfl (QY.divN rfl rfl rfl (by omega) (by omega)) ?_
        | refine S_Q [] rfl rfl (QY.remN rfl rfl rfl (by omega) (by omega)) ?_
        | refine S_Q [] rfl rfl (QY.mul rfl rfl rfl (by omega) (by omega)) ?_
        | refine L_reg ?_
        | refine L_seq ?_
        | exact ⟨rfl, rfl⟩
        | fail)
      exact Nx.pick [0, 1, 2, 3, 10] [0, 1] rfl rfl rfl ⟨m - (j + 1), by omega, j + 1, rfl, by omega, rfl, by rw [← hs]; rfl⟩
    · obtain rfl : j = m := by omega
      exact Nx.pick [] [0, 1] rfl rfl rfl ⟨rfl, rfl⟩
  rintro _ _ ⟨rfl, rfl⟩
  repeat' (first
    | refine L_rs ?_
    | refine S_done [] rfl (Nx.goL ?_)
    | refine S_done [] rfl (RetQ.keepN rfl rfl rfl rfl ?_)
    | refine S_done [] rfl ?_
    | refine L_block ?_
    | refine L_ret (RetQ.keep rfl rfl rfl rfl ?_)
    | refine L_true rfl ?_
    | refine L_false rfl ?_
    | refine L_skip (Nx.goL ?_)
    | refine L_skip ?_
    | refine L_exit (Nx.goL ?_)
    | refine L_exit ?_
    | refine L_ifp rfl (by first | exact bD | exact bE | exact bN | exact bNB | exact bEB | exact bNot bD | exact bNot bE | exact bNot bN) (fun h => ?_) (fun h => ?_)
    | refine S_Q [] rfl rfl (QY.idxN rfl rfl (by omega)) ?_
    | refine S_Q [] rfl rfl (QY.add rfl rfl rfl (by omega) (by omega)) ?_
    | refine S_Q [] rfl rfl (QY.sub rfl rfl rfl (by omega) (by omega)) ?_
    | refine S_Q [] rfl rfl (QY.mask rfl rfl (by decide) rfl) ?_
    | refine S_Q [] rfl rfl (QY.ldI rfl rfl (List.getElem?_eq_getElem (by omega))) ?_
    | refine S_Q [] rfl rfl (QY.divN rfl rfl rfl (by omega) (by omega)) ?_
    | refine S_Q [] rfl rfl (QY.remN rfl rfl rfl (by omega) (by omega)) ?_
    | refine S_Q [] rfl rfl (QY.mul rfl rfl rfl (by omega) (by omega)) ?_
    | refine L_reg ?_
    | refine L_seq ?_
    | exact ⟨rfl, rfl⟩
    | fail)
theorem arenaword_tr (bs : Bytes) (hb : bs.length ≤ 65536) (a : Int) : Tr Try.prog 40 [ptr 0, .int .i64 a] (AL bs) (fun v K => v = .int .i64 (errW bs.length a) ∧ K = AL bs) := by
  rw [errW_in]
  have hI := arenaIn_tr bs hb a 8
  by_cases h0 : errIn bs.length a 8 = 0
  · obtain ⟨i, m, rfl, hm, hle⟩ := errIn_nat h0
    rw [h0] at hI ⊢
    refine Tr.of row_arena_Arena_word_ok rfl ?_
    repeat' (first
      | refine L_rs ?_
      | refine S_done [] rfl (Nx.goL ?_)
      | refine S_done [] rfl (RetQ.keepN rfl rfl rfl rfl ?_)
      | refine S_done [] rfl ?_
      | refine L_block ?_
      | refine L_ret (RetQ.keep rfl rfl rfl rfl ?_)
      | refine L_true rfl ?_
      | refine L_false rfl ?_
      | refine L_skip (Nx.goL ?_)
      | refine L_skip ?_
      | refine L_exit (Nx.goL ?_)
      | refine L_exit ?_
      | refine L_ifp rfl (by first | exact bD | exact bE | exact bN | exact bNB | exact bEB | exact bNot bD | exact bNot bE | exact bNot bN) (fun h => ?_) (fun h => ?_)
      | refine S_Q [] rfl rfl (QY.idxN rfl rfl (by omega)) ?_
      | refine S_Q [] rfl rfl (QY.add rfl rfl rfl (by omega) (by omega)) ?_
      | refine S_Q [] rfl rfl (QY.sub rfl rfl rfl (by omega) (by omega)) ?_
      | refine S_Q [] rfl rfl (QY.mask rfl rfl (by decide) rfl) ?_
      | refine S_Q [] rfl rfl (QY.ldI rfl rfl (List.getElem?_eq_getElem (by omega))) ?_
      | refine S_Q [] rfl rfl (QY.divN rfl rfl rfl (by omega) (by omega)) ?_
      | refine S_Q [] rfl rfl (QY.remN rfl rfl rfl (by omega) (by omega)) ?_
      | refine S_Q [] rfl rfl (QY.mul rfl rfl rfl (by omega) (by omega)) ?_
      | refine L_reg ?_
      | refine L_seq ?_
      | exact ⟨rfl, rfl⟩
      | fail)
    first | refine L_rs ?_ | refine L_reg ?_ | skip
    refine S_Ed [] rfl rfl (EWd.callP [0, 1] (hI) rfl rfl (by decide) (by repeat' (first | exact trivial | refine ⟨rfl, ?_⟩ | fail)) rfl rfl) (disj_nil _) (nm_nilE _) (nm_nilT _) ?_
    rintro _ _ ⟨rfl, rfl⟩
    refine ⟨(by repeat' (first | exact trivial | refine ⟨⟨qsafe_ok (st := []) rfl, Sure.of rfl⟩, ?_⟩ | refine ⟨.inl rfl, ?_⟩ | refine ⟨.inr ⟨qsafe_ok (st := []) rfl, Sure.of rfl⟩, ?_⟩ | refine ⟨⟨qsafe_ok (st := []) rfl, Sure.slice (by omega)⟩, ?_⟩ | refine ⟨.inr ⟨qsafe_ok (st := []) rfl, Sure.slice (by omega)⟩, ?_⟩ | refine ⟨.inr ⟨QY.neqB rfl (by kernel_rfl) rfl rfl, Sure.of rfl⟩, ?_⟩ | refine ⟨.inr ⟨QY.eqlB rfl (by kernel_rfl) rfl rfl, Sure.of rfl⟩, ?_⟩ | fail)), ?_⟩
    repeat' (first
      | refine L_rs ?_
      | refine S_done [] rfl (Nx.goL ?_)
      | refine S_done [] rfl (RetQ.keepN rfl rfl rfl rfl ?_)
      | refine S_done [] rfl ?_
      | refine L_block ?_
      | refine L_ret (RetQ.keep rfl rfl rfl rfl ?_)
      | refine L_true rfl ?_
      | refine L_false rfl ?_
      | refine L_skip (Nx.goL ?_)
      | refine L_skip ?_
      | refine L_exit (Nx.goL ?_)
      | refine L_exit ?_
      | refine L_ifp rfl (by first | exact bD | exact bE | exact bN | exact bNB | exact bEB | exact bNot bD | exact bNot bE | exact bNot bN) (fun h => ?_) (fun h => ?_)
      | refine S_Q [] rfl rfl (QY.idxN rfl rfl (by omega)) ?_
      | refine S_Q [] rfl rfl (QY.add rfl rfl rfl (by omega) (by omega)) ?_
      | refine S_Q [] rfl rfl (QY.sub rfl rfl rfl (by omega) (by omega)) ?_
      | refine S_Q [] rfl rfl (QY.mask rfl rfl (by decide) rfl) ?_
      | refine S_Q [] rfl rfl (QY.ldI rfl rfl (List.getElem?_eq_getElem (by omega))) ?_
      | refine S_Q [] rfl rfl (QY.divN rfl rfl rfl (by omega) (by omega)) ?_
      | refine S_Q [] rfl rfl (QY.remN rfl rfl rfl (by omega) (by omega)) ?_
      | refine S_Q [] rfl rfl (QY.mul rfl rfl rfl (by omega) (by omega)) ?_
      | refine L_reg ?_
      | refine L_seq ?_
      | exact ⟨rfl, rfl⟩
      | fail)
    · refine ⟨congrArg (Value.int _) ?_, rfl⟩
      rw [if_neg (by decide), if_pos (by omega)]
    · refine ⟨congrArg (Value.int _) ?_, rfl⟩
      rw [if_neg (by decide), if_neg (by omega)]
  · refine Tr.of row_arena_Arena_word_ok rfl ?_
    repeat' (first
      | refine L_rs ?_
      | refine S_done [] rfl (Nx.goL ?_)
      | refine S_done [] rfl (RetQ.keepN rfl rfl rfl rfl ?_)
      | refine S_done [] rfl ?_
      | refine L_block ?_
      | refine L_ret (RetQ.keep rfl rfl rfl rfl ?_)
      | refine L_true rfl ?_
      | refine L_false rfl ?_
      | refine L_skip (Nx.goL ?_)
      | refine L_skip ?_
      | refine L_exit (Nx.goL ?_)
      | refine L_exit ?_
      | refine L_ifp rfl (by first | exact bD | exact bE | exact bN | exact bNB | exact bEB | exact bNot bD | exact bNot bE | exact bNot bN) (fun h => ?_) (fun h => ?_)
      | refine S_Q [] rfl rfl (QY.idxN rfl rfl (by omega)) ?_
      | refine S_Q [] rfl rfl (QY.add rfl rfl rfl (by omega) (by omega)) ?_
      | refine S_Q [] rfl rfl (QY.sub rfl rfl rfl (by omega) (by omega)) ?_
      | refine S_Q [] rfl rfl (QY.mask rfl rfl (by decide) rfl) ?_
      | refine S_Q [] rfl rfl (QY.ldI rfl rfl (List.getElem?_eq_getElem (by omega))) ?_
      | refine S_Q [] rfl rfl (QY.divN rfl rfl rfl (by omega) (by omega)) ?_
      | refine S_Q [] rfl rfl (QY.remN rfl rfl rfl (by omega) (by omega)) ?_
      | refine S_Q [] rfl rfl (QY.mul rfl rfl rfl (by omega) (by omega)) ?_
      | refine L_reg ?_
      | refine L_seq ?_
      | exact ⟨rfl, rfl⟩
      | fail)
    first | refine L_rs ?_ | refine L_reg ?_ | skip
    refine S_Ed [] rfl rfl (EWd.callP [0, 1] (hI) rfl rfl (by decide) (by repeat' (first | exact trivial | refine ⟨rfl, ?_⟩ | fail)) rfl rfl) (disj_nil _) (nm_nilE _) (nm_nilT _) ?_
    rintro _ _ ⟨rfl, rfl⟩
    refine ⟨(by repeat' (first | exact trivial | refine ⟨⟨qsafe_ok (st := []) rfl, Sure.of rfl⟩, ?_⟩ | refine ⟨.inl rfl, ?_⟩ | refine ⟨.inr ⟨qsafe_ok (st := []) rfl, Sure.of rfl⟩, ?_⟩ | refine ⟨⟨qsafe_ok (st := []) rfl, Sure.slice (by omega)⟩, ?_⟩ | refine ⟨.inr ⟨qsafe_ok (st := []) rfl, Sure.slice (by omega)⟩, ?_⟩ | refine ⟨.inr ⟨QY.neqB rfl (by kernel_rfl) rfl rfl, Sure.of rfl⟩, ?_⟩ | refine ⟨.inr ⟨QY.eqlB rfl (by kernel_rfl) rfl rfl, Sure.of rfl⟩, ?_⟩ | fail)), ?_⟩
    repeat' (first
      | refine L_rs ?_
      | refine S_done [] rfl (Nx.goL ?_)
      | refine S_done [] rfl (RetQ.keepN rfl rfl rfl rfl ?_)
      | refine S_done [] rfl ?_
      | refine L_block ?_
      | refine L_ret (RetQ.keep rfl rfl rfl rfl ?_)
      | refine L_true rfl ?_
      | refine L_false rfl ?_
      | refine L_skip (Nx.goL ?_)
      | refine L_skip ?_
      | refine L_exit (Nx.goL ?_)
      | refine L_exit ?_
      | refine L_ifp rfl (by first | exact bD | exact bE | exact bN | exact bNB | exact bEB | exact bNot bD | exact bNot bE | exact bNot bN) (fun h => ?_) (fun h => ?_)
      | refine S_Q [] rfl rfl (QY.idxN rfl rfl (by omega)) ?_
      | refine S_Q [] rfl rfl (QY.add rfl rfl rfl (by omega) (by omega)) ?_
      | refine S_Q [] rfl rfl (QY.sub rfl rfl rfl (by omega) (by omega)) ?_
      | refine S_Q [] rfl rfl (QY.mask rfl rfl (by decide) rfl) ?_
      | refine S_Q [] rfl rfl (QY.ldI rfl rfl (List.getElem?_eq_getElem (by omega))) ?_
      | refine S_Q [] rfl rfl (QY.divN rfl rfl rfl (by omega) (by omega)) ?_
      | refine S_Q [] rfl rfl (QY.remN rfl rfl rfl (by omega) (by omega)) ?_
      | refine S_Q [] rfl rfl (QY.mul rfl rfl rfl (by omega) (by omega)) ?_
      | refine L_reg ?_
      | refine L_seq ?_
      | exact ⟨rfl, rfl⟩
      | fail)
    · refine ⟨congrArg (Value.int _) ?_, rfl⟩
      rw [if_pos h0, errIn] at *
      split at h0
      · rw [if_pos ‹_›]
      · exact absurd rfl h0
    all_goals contradiction
theorem numGet_tr (ys : Bytes) (i m c : Nat) (h : i + m ≤ ys.length) (hb : ys.length ≤ 65536) : Tr Try.prog 47 [.slice (some ⟨0, i * 1, none⟩) m c] [BL ys] (fun v K => v = .int .u64 ((getW (partB ys i m)).toNat : Int) ∧ K = [BL ys]) := by
  refine Tr.of row_num_Get_ok rfl ?_
  refine L_rs (S_done [] rfl (Nx.goL (L_rs (S_done [] rfl (Nx.goL ?_)))))
  have hlen := partB_length h
  refine L_cut (fun l L => l = [(3, .int .u64 ((getW (partB ys i m)).toNat : Int))] ∧ L = [BL ys]) ?_ ?_
  · refine L_rs (S_done [] rfl (Nx.pick [0, 3, 7, 8] [0] rfl rfl rfl ?_))
    refine L_block (L_loop (fun r l L => ∃ k : Nat, r = min m 8 - k ∧ k ≤ min m 8 ∧ l = [(0, .slice (some ⟨0, i * 1, none⟩) m c), (3, .int .u64 ((getF (partB ys i m) k).toNat : Int)), (7, .int .i64 (min m 8 : Nat)), (8, .int .i64 k)] ∧ L = [BL ys]) (min m 8) ⟨0, rfl, by omega, ?_, rfl⟩ ?_)
    · rw [show ((min m 8 : Nat) : Int) = imm false m 8 by show _ = min (m : Int) 8; omega]; rfl
    rintro r _ _ ⟨k, rfl, hk, rfl, rfl⟩
    first
      | refine L_seq (L_rs (S_done [] rfl (Nx.goL (L_ifp rfl (by first | exact bD | exact bE | exact bN | exact bNB | exact bEB | exact bNot bD | exact bNot bE | exact bNot bN) (fun h => L_skip (Nx.goL ?_)) (fun h => L_exit ?_)))))
      | refine L_rs (S_done [] rfl (Nx.goL (L_seq (L_ifp rfl (by first | exact bD | exact bE | exact bN | exact bNB | exact bEB | exact bNot bD | exact bNot bE | exact bNot bN) (fun h => L_skip (Nx.goL ?_)) (fun h => L_exit ?_)))))
    · have hk' : k < m := by omega
      obtain ⟨x, hx⟩ : ∃ x, ys[i + k]? = some x := ⟨_, List.getElem?_eq_getElem (by omega)⟩
      have hg : (partB ys i m).getD k 0 = x := by
        rw [List.getD_eq_getElem?_getD, partB, List.getElem?_take, if_pos hk', List.getElem?_drop, hx]; rfl
      repeat' (first
        | refine L_rs ?_
        | refine S_done [] rfl (Nx.goL ?_)
        | refine S_done [] rfl (RetQ.keepN rfl rfl rfl rfl ?_)
        | refine S_done [] rfl ?_
        | refine L_block ?_
        | refine L_ret (RetQ.keep rfl rfl rfl rfl ?_)
        | refine L_true rfl ?_
        | refine L_false rfl ?_
        | refine L_skip (Nx.goL ?_)
        | refine L_skip ?_
        | refine L_exit (Nx.goL ?_)
        | refine L_exit ?_
        | refine L_ifp rfl (by first | exact bD | exact bE | exact bN | exact bNB | exact bEB | exact bNot bD | exact bNot bE | exact bNot bN) (fun h => ?_) (fun h => ?_)
        | refine S_Q [] rfl rfl (QY.idxN rfl rfl (by omega)) ?_
        | refine S_Q [] rfl rfl (QY.add rfl rfl rfl (by omega) (by omega)) ?_
        | refine S_Q [] rfl rfl (QY.sub rfl rfl rfl (by omega) (by omega)) ?_
        | refine S_Q [] rfl rfl (QY.mask rfl rfl (by decide) rfl) ?_
        | refine S_Q [] rfl rfl (QY.ldI rfl rfl (List.getElem?_eq_getElem (by omega))) ?_
        | refine S_Q [] rfl rfl (QY.divN rfl rfl rfl (by omega) (by omega)) ?_
        | refine S_Q [] rfl rfl (QY.remN rfl rfl rfl (by omega) (by omega)) ?_
        | refine S_Q [] rfl rfl (QY.mul rfl rfl rfl (by omega) (by omega)) ?_
        | refine L_reg ?_
        | refine L_seq ?_
        | exact ⟨rfl, rfl⟩
        | fail)
      first | refine L_rs ?_ | refine L_reg ?_ | skip
      refine S_Q [] rfl rfl (QY.idxO rfl rfl hk') ?_
      first | refine L_rs ?_ | refine L_reg ?_ | skip
      refine S_Q [] rfl rfl (QY.ldYo rfl (by omega) rfl hx) ?_
      first | refine L_rs ?_ | refine L_reg ?_ | skip
      refine S_Q [] rfl rfl (QY.cvBW rfl) ?_
      first | refine L_rs ?_ | refine L_reg ?_ | skip
      refine S_Q [] rfl rfl (QY.mul (c := ((8 * k : Nat) : Int)) rfl rfl (by omega) (by omega) (by omega)) ?_
      first | refine L_rs ?_ | refine L_reg ?_ | skip
      refine S_Q [] rfl rfl (QY.shlW (n := 8 * k) rfl rfl) ?_
      first | refine L_rs ?_ | refine L_reg ?_ | skip
      refine S_Q [] rfl rfl (QY.orW rfl rfl) ?_
      repeat' (first
        | refine L_rs ?_
        | refine S_done [] rfl (Nx.goL ?_)
        | refine S_done [] rfl (RetQ.keepN rfl rfl rfl rfl ?_)
        | refine S_done [] rfl ?_
        | refine L_block ?_
        | refine L_ret (RetQ.keep rfl rfl rfl rfl ?_)
        | refine L_true rfl ?_
        | refine L_false rfl ?_
        | refine L_skip (Nx.goL ?_)
        | refine L_skip ?_
        | refine L_exit (Nx.goL ?_)
        | refine L_exit ?_
        | refine L_ifp rfl (by first | exact bD | exact bE | exact bN | exact bNB | exact bEB | exact bNot bD | exact bNot bE | exact bNot bN) (fun h => ?_) (fun h => ?_)
        | refine S_Q [] rfl rfl (QY.idxN rfl rfl (by omega)) ?_
        | refine S_Q [] rfl rfl (QY.add rfl rfl rfl (by omega) (by omega)) ?_
        | refine S_Q [] rfl rfl (QY.sub rfl rfl rfl (by omega) (by omega)) ?_
        | refine S_Q [] rfl rfl (QY.mask rfl rfl (by decide) rfl) ?_
        | refine S_Q [] rfl rfl (QY.ldI rfl rfl (List.getElem?_eq_getElem (by omega))) ?_
        | refine S_Q [] rfl rfl (QY.divN rfl rfl rfl (by omega) (by omega)) ?_
        | refine S_Q [] rfl rfl (QY.remN rfl rfl rfl (by omega) (by omega)) ?_
        | refine S_Q [] rfl rfl (QY.mul rfl rfl rfl (by omega) (by omega)) ?_
        | refine L_reg ?_
        | refine L_seq ?_
        | exact ⟨rfl, rfl⟩
        | fail)
      exact Nx.pick [0, 3, 7, 8] [0] rfl rfl rfl ⟨min m 8 - (k + 1), by omega, k + 1, rfl, by omega, by rw [getF, hg]; rfl, rfl⟩
    · obtain rfl : k = min m 8 := by omega
      exact Nx.pick [3] [0] rfl rfl rfl ⟨by rw [getW, hlen]; rfl, rfl⟩
  rintro _ _ ⟨rfl, rfl⟩
  repeat' (first
    | refine L_rs ?_
    | refine S_done [] rfl (Nx.goL ?_)
    | refine S_done [] rfl (RetQ.keepN rfl rfl rfl rfl ?_)
    | refine S_done [] rfl ?_
    | refine L_block ?_
    | refine L_ret (RetQ.keep rfl rfl rfl rfl ?_)
    | refine L_true rfl ?_
    | refine L_false rfl ?_
    | refine L_skip (Nx.goL ?_)
    | refine L_skip ?_
    | refine L_exit (Nx.goL ?_)
    | refine L_exit ?_
    | refine L_ifp rfl (by first | exact bD | exact bE | exact bN | exact bNB | exact bEB | exact bNot bD | exact bNot bE | exact bNot bN) (fun h => ?_) (fun h => ?_)
    | refine S_Q [] rfl rfl (QY.idxN rfl rfl (by omega)) ?_
    | refine S_Q [] rfl rfl (QY.add rfl rfl rfl (by omega) (by omega)) ?_
    | refine S_Q [] rfl rfl (QY.sub rfl rfl rfl (by omega) (by omega)) ?_
    | refine S_Q [] rfl rfl (QY.mask rfl rfl (by decide) rfl) ?_
    | refine S_Q [] rfl rfl (QY.ldI rfl rfl (List.getElem?_eq_getElem (by omega))) ?_
    | refine S_Q [] rfl rfl (QY.divN rfl rfl rfl (by omega) (by omega)) ?_
    | refine S_Q [] rfl rfl (QY.remN rfl rfl rfl (by omega) (by omega)) ?_
    | refine S_Q [] rfl rfl (QY.mul rfl rfl rfl (by omega) (by omega)) ?_
    | refine L_reg ?_
    | refine L_seq ?_
    | exact ⟨rfl, rfl⟩
    | fail)
set_option maxRecDepth 4000 in
theorem numPut_tr (v : BitVec 64) : Tr Try.prog 41 [.int .i64 8, .int .u64 (v.toNat : Int)] [] (fun u K => u = slB 0 8 ∧ K = [BL (putB v 8)]) := by
  refine Tr.of row_num_Put_ok rfl ?_
  repeat' (first
    | refine L_rs ?_
    | refine S_done [] rfl (Nx.goL ?_)
    | refine S_done [] rfl (RetQ.keepN rfl rfl rfl rfl ?_)
    | refine S_done [] rfl ?_
    | refine L_block ?_
    | refine L_ret (RetQ.keep rfl rfl rfl rfl ?_)
    | refine L_true rfl ?_
    | refine L_false rfl ?_
    | refine L_skip (Nx.goL ?_)
    | refine L_skip ?_
    | refine L_exit (Nx.goL ?_)
    | refine L_exit ?_
    | refine L_ifp rfl (by first | exact bD | exact bE | exact bN | exact bNB | exact bEB | exact bNot bD | exact bNot bE | exact bNot bN) (fun h => ?_) (fun h => ?_)
    | refine S_Q [] rfl rfl (QY.idxN rfl rfl (by omega)) ?_
    | refine S_Q [] rfl rfl (QY.add rfl rfl rfl (by omega) (by omega)) ?_
    | refine S_Q [] rfl rfl (QY.sub rfl rfl rfl (by omega) (by omega)) ?_
    | refine S_Q [] rfl rfl (QY.mask rfl rfl (by decide) rfl) ?_
    | refine S_Q [] rfl rfl (QY.ldI rfl rfl (List.getElem?_eq_getElem (by omega))) ?_
    | refine S_Q [] rfl rfl (QY.divN rfl rfl rfl (by omega) (by omega)) ?_
    | refine S_Q [] rfl rfl (QY.remN rfl rfl rfl (by omega) (by omega)) ?_
    | refine S_Q [] rfl rfl (QY.mul rfl rfl rfl (by omega) (by omega)) ?_
    | refine S_splitp 9 rfl rfl rfl (by first | exact bD | exact bE | exact bN | exact bNB | exact bEB | exact bNot bD | exact bNot bE | exact bNot bN) (fun h => ?_) (fun h => ?_)
    | refine L_reg ?_
    | refine L_seq ?_
    | exact ⟨rfl, rfl⟩
    | fail)
  first | refine L_rs ?_ | refine L_reg ?_ | skip
  refine S_E [] rfl rfl (EW.mk (sz := 1) (bytes := 1) (k := 8) (zs := byteC 0) rfl (by kernel_rfl) rfl rfl (by omega) (by omega)) ?_
  rintro _ _ ⟨rfl, rfl⟩
  refine ⟨(by repeat' (first | exact trivial | refine ⟨⟨qsafe_ok (st := []) rfl, Sure.of rfl⟩, ?_⟩ | refine ⟨.inl rfl, ?_⟩ | refine ⟨.inr ⟨qsafe_ok (st := []) rfl, Sure.of rfl⟩, ?_⟩ | refine ⟨⟨qsafe_ok (st := []) rfl, Sure.slice (by omega)⟩, ?_⟩ | refine ⟨.inr ⟨qsafe_ok (st := []) rfl, Sure.slice (by omega)⟩, ?_⟩ | refine ⟨.inr ⟨QY.neqB rfl (by kernel_rfl) rfl rfl, Sure.of rfl⟩, ?_⟩ | refine ⟨.inr ⟨QY.eqlB rfl (by kernel_rfl) rfl rfl, Sure.of rfl⟩, ?_⟩ | fail)), LSt.nf ?_⟩
  conv => whnf
  refine S_done [] rfl (Nx.goL ?_)
  refine L_cut (fun l L => l = [(5, slB 0 8)] ∧ L = [BL (putB v 8)]) ?_ ?_
  · refine L_rs (S_done [] rfl (Nx.pick [1, 5, 16, 17] [0] rfl rfl rfl ?_))
    refine L_block (L_loop (fun r l L => ∃ k : Nat, r = 8 - k ∧ k ≤ 8 ∧ l = [(1, .int .u64 (v.toNat : Int)), (5, slB 0 8), (16, .int .i64 8), (17, .int .i64 k)] ∧ L = [BL (putB v k ++ List.replicate (8 - k) 0)]) 8 ⟨0, rfl, by omega, rfl, by rw [repC_rows (0 : BitVec 8)]; rfl⟩ ?_)
    rintro r _ _ ⟨k, rfl, hk, rfl, rfl⟩
    have hl := putB_length v k
    first
      | refine L_seq (L_rs (S_done [] rfl (Nx.goL (L_ifp rfl (by first | exact bD | exact bE | exact bN | exact bNB | exact bEB | exact bNot bD | exact bNot bE | exact bNot bN) (fun h => L_skip (Nx.goL ?_)) (fun h => L_exit ?_)))))
      | refine L_rs (S_done [] rfl (Nx.goL (L_seq (L_ifp rfl (by first | exact bD | exact bE | exact bN | exact bNB | exact bEB | exact bNot bD | exact bNot bE | exact bNot bN) (fun h => L_skip (Nx.goL ?_)) (fun h => L_exit ?_)))))
    · have hk8 : k < 8 := by omega
      repeat' (first
        | refine L_rs ?_
        | refine S_done [] rfl (Nx.goL ?_)
        | refine S_done [] rfl (RetQ.keepN rfl rfl rfl rfl ?_)
        | refine S_done [] rfl ?_
        | refine L_block ?_
        | refine L_ret (RetQ.keep rfl rfl rfl rfl ?_)
        | refine L_true rfl ?_
        | refine L_false rfl ?_
        | refine L_skip (Nx.goL ?_)
        | refine L_skip ?_
        | refine L_exit (Nx.goL ?_)
        | refine L_exit ?_
        | refine L_ifp rfl (by first | exact bD | exact bE | exact bN | exact bNB | exact bEB | exact bNot bD | exact bNot bE | exact bNot bN) (fun h => ?_) (fun h => ?_)
        | refine S_Q [] rfl rfl (QY.idxN rfl rfl (by omega)) ?_
        | refine S_Q [] rfl rfl (QY.add rfl rfl rfl (by omega) (by omega)) ?_
        | refine S_Q [] rfl rfl (QY.sub rfl rfl rfl (by omega) (by omega)) ?_
        | refine S_Q [] rfl rfl (QY.mask rfl rfl (by decide) rfl) ?_
        | refine S_Q [] rfl rfl (QY.ldI rfl rfl (List.getElem?_eq_getElem (by omega))) ?_
        | refine S_Q [] rfl rfl (QY.divN rfl rfl rfl (by omega) (by omega)) ?_
        | refine S_Q [] rfl rfl (QY.remN rfl rfl rfl (by omega) (by omega)) ?_
        | refine S_Q [] rfl rfl (QY.mul rfl rfl rfl (by omega) (by omega)) ?_
        | refine S_splitp 9 rfl rfl rfl (by first | exact bD | exact bE | exact bN | exact bNB | exact bEB | exact bNot bD | exact bNot bE | exact bNot bN) (fun h => ?_) (fun h => ?_)
        | refine L_reg ?_
        | refine L_seq ?_
        | exact ⟨rfl, rfl⟩
        | fail)
      first | refine L_rs ?_ | refine L_reg ?_ | skip
      refine S_Q [] rfl rfl (QY.shrW (n := 8 * k) rfl rfl) ?_
      first | refine L_rs ?_ | refine L_reg ?_ | skip
      refine S_Q [] rfl rfl (QY.cvWB rfl) ?_
      first | refine L_rs ?_ | refine L_reg ?_ | skip
      refine S_Q [] rfl rfl (QY.idxN rfl rfl hk8) ?_
      first | refine L_rs ?_ | refine L_reg ?_ | skip
      refine S_E [] rfl rfl (EW.stY (k := k) rfl rfl rfl (by simp; omega)) ?_
      rintro _ _ ⟨rfl, rfl⟩
      refine ⟨(by repeat' (first | exact trivial | refine ⟨⟨qsafe_ok (st := []) rfl, Sure.of rfl⟩, ?_⟩ | refine ⟨.inl rfl, ?_⟩ | refine ⟨.inr ⟨qsafe_ok (st := []) rfl, Sure.of rfl⟩, ?_⟩ | refine ⟨⟨qsafe_ok (st := []) rfl, Sure.slice (by omega)⟩, ?_⟩ | refine ⟨.inr ⟨qsafe_ok (st := []) rfl, Sure.slice (by omega)⟩, ?_⟩ | refine ⟨.inr ⟨QY.neqB rfl (by kernel_rfl) rfl rfl, Sure.of rfl⟩, ?_⟩ | refine ⟨.inr ⟨QY.eqlB rfl (by kernel_rfl) rfl rfl, Sure.of rfl⟩, ?_⟩ | fail)), LSt.nf ?_⟩
      conv => whnf
      repeat' (first
        | refine L_rs ?_
        | refine S_done [] rfl (Nx.goL ?_)
        | refine S_done [] rfl (RetQ.keepN rfl rfl rfl rfl ?_)
        | refine S_done [] rfl ?_
        | refine L_block ?_
        | refine L_ret (RetQ.keep rfl rfl rfl rfl ?_)
        | refine L_true rfl ?_
        | refine L_false rfl ?_
        | refine L_skip (Nx.goL ?_)
        | refine L_skip ?_
        | refine L_exit (Nx.goL ?_)
        | refine L_exit ?_
        | refine L_ifp rfl (by first | exact bD | exact bE | exact bN | exact bNB | exact bEB | exact bNot bD | exact bNot bE | exact bNot bN) (fun h => ?_) (fun h => ?_)
        | refine S_Q [] rfl rfl (QY.idxN rfl rfl (by omega)) ?_
        | refine S_Q [] rfl rfl (QY.add rfl rfl rfl (by omega) (by omega)) ?_
        | refine S_Q [] rfl rfl (QY.sub rfl rfl rfl (by omega) (by omega)) ?_
        | refine S_Q [] rfl rfl (QY.mask rfl rfl (by decide) rfl) ?_
        | refine S_Q [] rfl rfl (QY.ldI rfl rfl (List.getElem?_eq_getElem (by omega))) ?_
        | refine S_Q [] rfl rfl (QY.divN rfl rfl rfl (by omega) (by omega)) ?_
        | refine S_Q [] rfl rfl (QY.remN rfl rfl rfl (by omega) (by omega)) ?_
        | refine S_Q [] rfl rfl (QY.mul rfl rfl rfl (by omega) (by omega)) ?_
        | refine S_splitp 9 rfl rfl rfl (by first | exact bD | exact bE | exact bN | exact bNB | exact bEB | exact bNot bD | exact bNot bE | exact bNot bN) (fun h => ?_) (fun h => ?_)
        | refine L_reg ?_
        | refine L_seq ?_
        | exact ⟨rfl, rfl⟩
        | fail)
      refine Nx.pick [1, 5, 16, 17] [0] rfl rfl rfl ⟨8 - (k + 1), by omega, k + 1, rfl, by omega, rfl, ?_⟩
      have e : (putB v k ++ List.replicate (8 - k) 0).set k ((v >>> (8 * k)).setWidth 8) = putB v (k + 1) ++ List.replicate (8 - (k + 1)) 0 := by
        rw [List.set_append_right _ _ (by omega), hl, Nat.sub_self, show 8 - k = (8 - (k + 1)) + 1 by omega, List.replicate_succ, List.set_cons_zero, putB, List.append_assoc]; rfl
      rw [← e]; rfl
    · obtain rfl : k = 8 := by omega
      exact Nx.pick [5] [0] rfl rfl rfl ⟨rfl, by rw [Nat.sub_self, List.replicate_zero, List.append_nil]; rfl⟩
  rintro _ _ ⟨rfl, rfl⟩
  repeat' (first
    | refine L_rs ?_
    | refine S_done [] rfl (Nx.goL ?_)
    | refine S_done [] rfl (RetQ.keepN rfl rfl rfl rfl ?_)
    | refine S_done [] rfl ?_
    | refine L_block ?_
    | refine L_ret (RetQ.keep rfl rfl rfl rfl ?_)
    | refine L_true rfl ?_
    | refine L_false rfl ?_
    | refine L_skip (Nx.goL ?_)
    | refine L_skip ?_
    | refine L_exit (Nx.goL ?_)
    | refine L_exit ?_
    | refine L_ifp rfl (by first | exact bD | exact bE | exact bN | exact bNB | exact bEB | exact bNot bD | exact bNot bE | exact bNot bN) (fun h => ?_) (fun h => ?_)
    | refine S_Q [] rfl rfl (QY.idxN rfl rfl (by omega)) ?_
    | refine S_Q [] rfl rfl (QY.add rfl rfl rfl (by omega) (by omega)) ?_
    | refine S_Q [] rfl rfl (QY.sub rfl rfl rfl (by omega) (by omega)) ?_
    | refine S_Q [] rfl rfl (QY.mask rfl rfl (by decide) rfl) ?_
    | refine S_Q [] rfl rfl (QY.ldI rfl rfl (List.getElem?_eq_getElem (by omega))) ?_
    | refine S_Q [] rfl rfl (QY.divN rfl rfl rfl (by omega) (by omega)) ?_
    | refine S_Q [] rfl rfl (QY.remN rfl rfl rfl (by omega) (by omega)) ?_
    | refine S_Q [] rfl rfl (QY.mul rfl rfl rfl (by omega) (by omega)) ?_
    | refine S_splitp 9 rfl rfl rfl (by first | exact bD | exact bE | exact bN | exact bNB | exact bEB | exact bNot bD | exact bNot bE | exact bNot bN) (fun h => ?_) (fun h => ?_)
    | refine L_reg ?_
    | refine L_seq ?_
    | exact ⟨rfl, rfl⟩
    | fail)
  exact L_ret (RetQ.pick [0] rfl rfl rfl rfl ⟨rfl, rfl⟩)
theorem arenaWord_ok (bs : Bytes) (hb : bs.length ≤ 65536) (i : Nat) (h : i + 8 ≤ bs.length) (h8 : i % 8 = 0) : Tr Try.prog 42 [ptr 0, .int .i64 i] (AL bs) (fun v K => v = .tuple ⟨[.int .u64 ((wordB bs i).toNat : Int), .int .i64 0]⟩ ∧ K = AL bs) := by
  have hI := arenaword_tr bs hb i
  rw [errW_ok h h8] at hI
  have hG := numGet_tr bs i (i + 8 - i) (bs.length - i) (by omega) hb
  refine Tr.of row_arena_Arena_Word_ok rfl ?_
  repeat' (first
    | refine L_rs ?_
    | refine S_done [] rfl (Nx.goL ?_)
    | refine S_done [] rfl (RetQ.keepN rfl rfl rfl rfl ?_)
    | refine S_done [] rfl ?_
    | refine L_block ?_
    | refine L_ret (RetQ.keep rfl rfl rfl rfl ?_)
    | refine L_true rfl ?_
    | refine L_false rfl ?_
    | refine L_skip (Nx.goL ?_)
    | refine L_skip ?_
    | refine L_exit (Nx.goL ?_)
    | refine L_exit ?_
    | refine L_ifp rfl (by first | exact bD | exact bE | exact bN | exact bNB | exact bEB | exact bNot bD | exact bNot bE | exact bNot bN) (fun h => ?_) (fun h => ?_)
    | refine S_Q [] rfl rfl (QY.idxN rfl rfl (by omega)) ?_
    | refine S_Q [] rfl rfl (QY.add rfl rfl rfl (by omega) (by omega)) ?_
    | refine S_Q [] rfl rfl (QY.sub rfl rfl rfl (by omega) (by omega)) ?_
    | refine S_Q [] rfl rfl (QY.mask rfl rfl (by decide) rfl) ?_
    | refine S_Q [] rfl rfl (QY.ldI rfl rfl (List.getElem?_eq_getElem (by omega))) ?_
    | refine S_Q [] rfl rfl (QY.divN rfl rfl rfl (by omega) (by omega)) ?_
    | refine S_Q [] rfl rfl (QY.remN rfl rfl rfl (by omega) (by omega)) ?_
    | refine S_Q [] rfl rfl (QY.mul rfl rfl rfl (by omega) (by omega)) ?_
    | refine L_reg ?_
    | refine L_seq ?_
    | exact ⟨rfl, rfl⟩
    | fail)
  first | refine L_rs ?_ | refine L_reg ?_ | skip
  refine S_Ed [] rfl rfl (EWd.callP [0, 1] (hI) rfl rfl (by decide) (by repeat' (first | exact trivial | refine ⟨rfl, ?_⟩ | fail)) rfl rfl) (disj_nil _) (nm_nilE _) (nm_nilT _) ?_
  rintro _ _ ⟨rfl, rfl⟩
  refine ⟨(by repeat' (first | exact trivial | refine ⟨⟨qsafe_ok (st := []) rfl, Sure.of rfl⟩, ?_⟩ | refine ⟨.inl rfl, ?_⟩ | refine ⟨.inr ⟨qsafe_ok (st := []) rfl, Sure.of rfl⟩, ?_⟩ | refine ⟨⟨qsafe_ok (st := []) rfl, Sure.slice (by omega)⟩, ?_⟩ | refine ⟨.inr ⟨qsafe_ok (st := []) rfl, Sure.slice (by omega)⟩, ?_⟩ | refine ⟨.inr ⟨QY.neqB rfl (by kernel_rfl) rfl rfl, Sure.of rfl⟩, ?_⟩ | refine ⟨.inr ⟨QY.eqlB rfl (by kernel_rfl) rfl rfl, Sure.of rfl⟩, ?_⟩ | fail)), ?_⟩
  repeat' (first
    | refine L_rs ?_
    | refine S_done [] rfl (Nx.goL ?_)
    | refine S_done [] rfl (RetQ.keepN rfl rfl rfl rfl ?_)
    | refine S_done [] rfl ?_
    | refine L_block ?_
    | refine L_ret (RetQ.keep rfl rfl rfl rfl ?_)
    | refine L_true rfl ?_
    | refine L_false rfl ?_
    | refine L_skip (Nx.goL ?_)
    | refine L_skip ?_
    | refine L_exit (Nx.goL ?_)
    | refine L_exit ?_
    | refine L_ifp rfl (by first | exact bD | exact bE | exact bN | exact bNB | exact bEB | exact bNot bD | exact bNot bE | exact bNot bN) (fun h => ?_) (fun h => ?_)
    | refine S_Q [] rfl rfl (QY.idxN rfl rfl (by omega)) ?_
    | refine S_Q [] rfl rfl (QY.add rfl rfl rfl (by omega) (by omega)) ?_
    | refine S_Q [] rfl rfl (QY.sub rfl rfl rfl (by omega) (by omega)) ?_
    | refine S_Q [] rfl rfl (QY.mask rfl rfl (by decide) rfl) ?_
    | refine S_Q [] rfl rfl (QY.ldI rfl rfl (List.getElem?_eq_getElem (by omega))) ?_
    | refine S_Q [] rfl rfl (QY.divN rfl rfl rfl (by omega) (by omega)) ?_
    | refine S_Q [] rfl rfl (QY.remN rfl rfl rfl (by omega) (by omega)) ?_
    | refine S_Q [] rfl rfl (QY.mul rfl rfl rfl (by omega) (by omega)) ?_
    | refine L_reg ?_
    | refine L_seq ?_
    | exact ⟨rfl, rfl⟩
    | fail)
  first | refine L_rs ?_ | refine L_reg ?_ | skip
  refine S_Q [] rfl rfl (QY.slc0 (b := 1) (lo' := i) (hi' := i + 8) rfl rfl rfl (by omega) (by omega)) ?_
  first | refine L_rs ?_ | refine L_reg ?_ | skip
  refine S_Ed [] rfl rfl (EWd.callP [1] (hG) rfl rfl (by decide) (by repeat' (first | exact trivial | refine ⟨rfl, ?_⟩ | fail)) rfl rfl) (disj_nil _) (nm_nilE _) (nm_nilT _) ?_
  rintro _ _ ⟨rfl, rfl⟩
  refine ⟨(by repeat' (first | exact trivial | refine ⟨⟨qsafe_ok (st := []) rfl, Sure.of rfl⟩, ?_⟩ | refine ⟨.inl rfl, ?_⟩ | refine ⟨.inr ⟨qsafe_ok (st := []) rfl, Sure.of rfl⟩, ?_⟩ | refine ⟨⟨qsafe_ok (st := []) rfl, Sure.slice (by omega)⟩, ?_⟩ | refine ⟨.inr ⟨qsafe_ok (st := []) rfl, Sure.slice (by omega)⟩, ?_⟩ | refine ⟨.inr ⟨QY.neqB rfl (by kernel_rfl) rfl rfl, Sure.of rfl⟩, ?_⟩ | refine ⟨.inr ⟨QY.eqlB rfl (by kernel_rfl) rfl rfl, Sure.of rfl⟩, ?_⟩ | fail)), ?_⟩
  repeat' (first
    | refine L_rs ?_
    | refine S_done [] rfl (Nx.goL ?_)
    | refine S_done [] rfl (RetQ.keepN rfl rfl rfl rfl ?_)
    | refine S_done [] rfl ?_
    | refine L_block ?_
    | refine L_ret (RetQ.keep rfl rfl rfl rfl ?_)
    | refine L_true rfl ?_
    | refine L_false rfl ?_
    | refine L_skip (Nx.goL ?_)
    | refine L_skip ?_
    | refine L_exit (Nx.goL ?_)
    | refine L_exit ?_
    | refine L_ifp rfl (by first | exact bD | exact bE | exact bN | exact bNB | exact bEB | exact bNot bD | exact bNot bE | exact bNot bN) (fun h => ?_) (fun h => ?_)
    | refine S_Q [] rfl rfl (QY.idxN rfl rfl (by omega)) ?_
    | refine S_Q [] rfl rfl (QY.add rfl rfl rfl (by omega) (by omega)) ?_
    | refine S_Q [] rfl rfl (QY.sub rfl rfl rfl (by omega) (by omega)) ?_
    | refine S_Q [] rfl rfl (QY.mask rfl rfl (by decide) rfl) ?_
    | refine S_Q [] rfl rfl (QY.ldI rfl rfl (List.getElem?_eq_getElem (by omega))) ?_
    | refine S_Q [] rfl rfl (QY.divN rfl rfl rfl (by omega) (by omega)) ?_
    | refine S_Q [] rfl rfl (QY.remN rfl rfl rfl (by omega) (by omega)) ?_
    | refine S_Q [] rfl rfl (QY.mul rfl rfl rfl (by omega) (by omega)) ?_
    | refine L_reg ?_
    | refine L_seq ?_
    | exact ⟨rfl, rfl⟩
    | fail)
  refine ⟨?_, rfl⟩
  rw [show i + 8 - i = 8 by omega]; rfl
theorem arenaWord_no (bs : Bytes) (hb : bs.length ≤ 65536) (a : Int) (h : errW bs.length a ≠ 0) : Tr Try.prog 42 [ptr 0, .int .i64 a] (AL bs) (fun v K => v = .tuple ⟨[.int .u64 0, .int .i64 (errW bs.length a)]⟩ ∧ K = AL bs) := by
  refine Tr.of row_arena_Arena_Word_ok rfl ?_
  repeat' (first
    | refine L_rs ?_
    | refine S_done [] rfl (Nx.goL ?_)
    | refine S_done [] rfl (RetQ.keepN rfl rfl rfl rfl ?_)
    | refine S_done [] rfl ?_
    | refine L_block ?_
    | refine L_ret (RetQ.keep rfl rfl rfl rfl ?_)
    | refine L_true rfl ?_
    | refine L_false rfl ?_
    | refine L_skip (Nx.goL ?_)
    | refine L_skip ?_
    | refine L_exit (Nx.goL ?_)
    | refine L_exit ?_
    | refine L_ifp rfl (by first | exact bD | exact bE | exact bN | exact bNB | exact bEB | exact bNot bD | exact bNot bE | exact bNot bN) (fun h => ?_) (fun h => ?_)
    | refine S_Q [] rfl rfl (QY.idxN rfl rfl (by omega)) ?_
    | refine S_Q [] rfl rfl (QY.add rfl rfl rfl (by omega) (by omega)) ?_
    | refine S_Q [] rfl rfl (QY.sub rfl rfl rfl (by omega) (by omega)) ?_
    | refine S_Q [] rfl rfl (QY.mask rfl rfl (by decide) rfl) ?_
    | refine S_Q [] rfl rfl (QY.ldI rfl rfl (List.getElem?_eq_getElem (by omega))) ?_
    | refine S_Q [] rfl rfl (QY.divN rfl rfl rfl (by omega) (by omega)) ?_
    | refine S_Q [] rfl rfl (QY.remN rfl rfl rfl (by omega) (by omega)) ?_
    | refine S_Q [] rfl rfl (QY.mul rfl rfl rfl (by omega) (by omega)) ?_
    | refine L_reg ?_
    | refine L_seq ?_
    | exact ⟨rfl, rfl⟩
    | fail)
  first | refine L_rs ?_ | refine L_reg ?_ | skip
  refine S_Ed [] rfl rfl (EWd.callP [0, 1] (arenaword_tr bs hb a) rfl rfl (by decide) (by repeat' (first | exact trivial | refine ⟨rfl, ?_⟩ | fail)) rfl rfl) (disj_nil _) (nm_nilE _) (nm_nilT _) ?_
  rintro _ _ ⟨rfl, rfl⟩
  refine ⟨(by repeat' (first | exact trivial | refine ⟨⟨qsafe_ok (st := []) rfl, Sure.of rfl⟩, ?_⟩ | refine ⟨.inl rfl, ?_⟩ | refine ⟨.inr ⟨qsafe_ok (st := []) rfl, Sure.of rfl⟩, ?_⟩ | refine ⟨⟨qsafe_ok (st := []) rfl, Sure.slice (by omega)⟩, ?_⟩ | refine ⟨.inr ⟨qsafe_ok (st := []) rfl, Sure.slice (by omega)⟩, ?_⟩ | refine ⟨.inr ⟨QY.neqB rfl (by kernel_rfl) rfl rfl, Sure.of rfl⟩, ?_⟩ | refine ⟨.inr ⟨QY.eqlB rfl (by kernel_rfl) rfl rfl, Sure.of rfl⟩, ?_⟩ | fail)), ?_⟩
  repeat' (first
    | refine L_rs ?_
    | refine S_done [] rfl (Nx.goL ?_)
    | refine S_done [] rfl (RetQ.keepN rfl rfl rfl rfl ?_)
    | refine S_done [] rfl ?_
    | refine L_block ?_
    | refine L_ret (RetQ.keep rfl rfl rfl rfl ?_)
    | refine L_true rfl ?_
    | refine L_false rfl ?_
    | refine L_skip (Nx.goL ?_)
    | refine L_skip ?_
    | refine L_exit (Nx.goL ?_)
    | refine L_exit ?_
    | refine L_ifp rfl (by first | exact bD | exact bE | exact bN | exact bNB | exact bEB | exact bNot bD | exact bNot bE | exact bNot bN) (fun h => ?_) (fun h => ?_)
    | refine S_Q [] rfl rfl (QY.idxN rfl rfl (by omega)) ?_
    | refine S_Q [] rfl rfl (QY.add rfl rfl rfl (by omega) (by omega)) ?_
    | refine S_Q [] rfl rfl (QY.sub rfl rfl rfl (by omega) (by omega)) ?_
    | refine S_Q [] rfl rfl (QY.mask rfl rfl (by decide) rfl) ?_
    | refine S_Q [] rfl rfl (QY.ldI rfl rfl (List.getElem?_eq_getElem (by omega))) ?_
    | refine S_Q [] rfl rfl (QY.divN rfl rfl rfl (by omega) (by omega)) ?_
    | refine S_Q [] rfl rfl (QY.remN rfl rfl rfl (by omega) (by omega)) ?_
    | refine S_Q [] rfl rfl (QY.mul rfl rfl rfl (by omega) (by omega)) ?_
    | refine L_reg ?_
    | refine L_seq ?_
    | exact ⟨rfl, rfl⟩
    | fail)
  all_goals contradiction
theorem arenaSetWord_ok (bs : Bytes) (hb : bs.length ≤ 65536) (i : Nat) (h : i + 8 ≤ bs.length) (h8 : i % 8 = 0) (x : BitVec 64) : Tr Try.prog 25 [ptr 0, .int .i64 i, .int .u64 (x.toNat : Int)] (AL bs) (fun v K => v = .int .i64 0 ∧ K = AL (overB bs i (putB x 8))) := by
  have hI := arenaword_tr bs hb i
  rw [errW_ok h h8] at hI
  rw [AL_over (by rw [putB_length]; exact h)]
  refine Tr.of row_arena_Arena_SetWord_ok rfl ?_
  repeat' (first
    | refine L_rs ?_
    | refine S_done [] rfl (Nx.goL ?_)
    | refine S_done [] rfl (RetQ.keepN rfl rfl rfl rfl ?_)
    | refine S_done [] rfl ?_
    | refine L_block ?_
    | refine L_ret (RetQ.keep rfl rfl rfl rfl ?_)
    | refine L_true rfl ?_
    | refine L_false rfl ?_
    | refine L_skip (Nx.goL ?_)
    | refine L_skip ?_
    | refine L_exit (Nx.goL ?_)
    | refine L_exit ?_
    | refine L_ifp rfl (by first | exact bD | exact bE | exact bN | exact bNB | exact bEB | exact bNot bD | exact bNot bE | exact bNot bN) (fun h => ?_) (fun h => ?_)
    | refine S_Q [] rfl rfl (QY.idxN rfl rfl (by omega)) ?_
    | refine S_Q [] rfl rfl (QY.add rfl rfl rfl (by omega) (by omega)) ?_
    | refine S_Q [] rfl rfl (QY.sub rfl rfl rfl (by omega) (by omega)) ?_
    | refine S_Q [] rfl rfl (QY.mask rfl rfl (by decide) rfl) ?_
    | refine S_Q [] rfl rfl (QY.ldI rfl rfl (List.getElem?_eq_getElem (by omega))) ?_
    | refine S_Q [] rfl rfl (QY.divN rfl rfl rfl (by omega) (by omega)) ?_
    | refine S_Q [] rfl rfl (QY.remN rfl rfl rfl (by omega) (by omega)) ?_
    | refine S_Q [] rfl rfl (QY.mul rfl rfl rfl (by omega) (by omega)) ?_
    | refine L_reg ?_
    | refine L_seq ?_
    | exact ⟨rfl, rfl⟩
    | fail)
  first | refine L_rs ?_ | refine L_reg ?_ | skip
  refine S_Ed [] rfl rfl (EWd.callP [0, 1] (hI) rfl rfl (by decide) (by repeat' (first | exact trivial | refine ⟨rfl, ?_⟩ | fail)) rfl rfl) (disj_nil _) (nm_nilE _) (nm_nilT _) ?_
  rintro _ _ ⟨rfl, rfl⟩
  refine ⟨(by repeat' (first | exact trivial | refine ⟨⟨qsafe_ok (st := []) rfl, Sure.of rfl⟩, ?_⟩ | refine ⟨.inl rfl, ?_⟩ | refine ⟨.inr ⟨qsafe_ok (st := []) rfl, Sure.of rfl⟩, ?_⟩ | refine ⟨⟨qsafe_ok (st := []) rfl, Sure.slice (by omega)⟩, ?_⟩ | refine ⟨.inr ⟨qsafe_ok (st := []) rfl, Sure.slice (by omega)⟩, ?_⟩ | refine ⟨.inr ⟨QY.neqB rfl (by kernel_rfl) rfl rfl, Sure.of rfl⟩, ?_⟩ | refine ⟨.inr ⟨QY.eqlB rfl (by kernel_rfl) rfl rfl, Sure.of rfl⟩, ?_⟩ | fail)), ?_⟩
  repeat' (first
    | refine L_rs ?_
    | refine S_done [] rfl (Nx.goL ?_)
    | refine S_done [] rfl (RetQ.keepN rfl rfl rfl rfl ?_)
    | refine S_done [] rfl ?_
    | refine L_block ?_
    | refine L_ret (RetQ.keep rfl rfl rfl rfl ?_)
    | refine L_true rfl ?_
    | refine L_false rfl ?_
    | refine L_skip (Nx.goL ?_)
    | refine L_skip ?_
    | refine L_exit (Nx.goL ?_)
    | refine L_exit ?_
    | refine L_ifp rfl (by first | exact bD | exact bE | exact bN | exact bNB | exact bEB | exact bNot bD | exact bNot bE | exact bNot bN) (fun h => ?_) (fun h => ?_)
    | refine S_Q [] rfl rfl (QY.idxN rfl rfl (by omega)) ?_
    | refine S_Q [] rfl rfl (QY.add rfl rfl rfl (by omega) (by omega)) ?_
    | refine S_Q [] rfl rfl (QY.sub rfl rfl rfl (by omega) (by omega)) ?_
    | refine S_Q [] rfl rfl (QY.mask rfl rfl (by decide) rfl) ?_
    | refine S_Q [] rfl rfl (QY.ldI rfl rfl (List.getElem?_eq_getElem (by omega))) ?_
    | refine S_Q [] rfl rfl (QY.divN rfl rfl rfl (by omega) (by omega)) ?_
    | refine S_Q [] rfl rfl (QY.remN rfl rfl rfl (by omega) (by omega)) ?_
    | refine S_Q [] rfl rfl (QY.mul rfl rfl rfl (by omega) (by omega)) ?_
    | refine L_reg ?_
    | refine L_seq ?_
    | exact ⟨rfl, rfl⟩
    | fail)
  first | refine L_rs ?_ | refine L_reg ?_ | skip
  refine S_Q [] rfl rfl (QY.slc0 (b := 1) (lo' := i) (hi' := bs.length) rfl rfl rfl (by omega) (by omega)) ?_
  first | refine L_rs ?_ | refine L_reg ?_ | skip
  refine S_E [] rfl rfl (EW.callF [] (numPut_tr x) rfl rfl (by decide) (by repeat' (first | exact trivial | refine ⟨rfl, ?_⟩ | fail)) rfl rfl) ?_
  rintro _ _ ⟨rfl, rfl⟩
  refine ⟨(by repeat' (first | exact trivial | refine ⟨⟨qsafe_ok (st := []) rfl, Sure.of rfl⟩, ?_⟩ | refine ⟨.inl rfl, ?_⟩ | refine ⟨.inr ⟨qsafe_ok (st := []) rfl, Sure.of rfl⟩, ?_⟩ | refine ⟨⟨qsafe_ok (st := []) rfl, Sure.slice (by omega)⟩, ?_⟩ | refine ⟨.inr ⟨qsafe_ok (st := []) rfl, Sure.slice (by omega)⟩, ?_⟩ | refine ⟨.inr ⟨QY.neqB rfl (by kernel_rfl) rfl rfl, Sure.of rfl⟩, ?_⟩ | refine ⟨.inr ⟨QY.eqlB rfl (by kernel_rfl) rfl rfl, Sure.of rfl⟩, ?_⟩ | fail)), LSt.nf ?_⟩
  conv => whnf
  first | refine L_rs ?_ | refine L_reg ?_ | skip
  refine S_E [] rfl rfl (EW.copyg (i := i) (j := 0) (xs := bs) (ys := putB x 8) byteC_ok rfl (by kernel_rfl) rfl rfl rfl rfl (by omega) (by rw [putB_length]; omega) (by decide)) ?_
  rintro _ _ ⟨rfl, rfl⟩
  refine ⟨(by repeat' (first | exact trivial | refine ⟨⟨qsafe_ok (st := []) rfl, Sure.of rfl⟩, ?_⟩ | refine ⟨.inl rfl, ?_⟩ | refine ⟨.inr ⟨qsafe_ok (st := []) rfl, Sure.of rfl⟩, ?_⟩ | refine ⟨⟨qsafe_ok (st := []) rfl, Sure.slice (by omega)⟩, ?_⟩ | refine ⟨.inr ⟨qsafe_ok (st := []) rfl, Sure.slice (by omega)⟩, ?_⟩ | refine ⟨.inr ⟨QY.neqB rfl (by kernel_rfl) rfl rfl, Sure.of rfl⟩, ?_⟩ | refine ⟨.inr ⟨QY.eqlB rfl (by kernel_rfl) rfl rfl, Sure.of rfl⟩, ?_⟩ | fail)), LSt.nf ?_⟩
  conv => whnf
  repeat' (first
    | refine L_rs ?_
    | refine S_done [] rfl (Nx.goL ?_)
    | refine S_done [] rfl (RetQ.keepN rfl rfl rfl rfl ?_)
    | refine S_done [] rfl ?_
    | refine L_block ?_
    | refine L_ret (RetQ.keep rfl rfl rfl rfl ?_)
    | refine L_true rfl ?_
    | refine L_false rfl ?_
    | refine L_skip (Nx.goL ?_)
    | refine L_skip ?_
    | refine L_exit (Nx.goL ?_)
    | refine L_exit ?_
    | refine L_ifp rfl (by first | exact bD | exact bE | exact bN | exact bNB | exact bEB | exact bNot bD | exact bNot bE | exact bNot bN) (fun h => ?_) (fun h => ?_)
    | refine S_Q [] rfl rfl (QY.idxN rfl rfl (by omega)) ?_
    | refine S_Q [] rfl rfl (QY.add rfl rfl rfl (by omega) (by omega)) ?_
    | refine S_Q [] rfl rfl (QY.sub rfl rfl rfl (by omega) (by omega)) ?_
    | refine S_Q [] rfl rfl (QY.mask rfl rfl (by decide) rfl) ?_
    | refine S_Q [] rfl rfl (QY.ldI rfl rfl (List.getElem?_eq_getElem (by omega))) ?_
    | refine S_Q [] rfl rfl (QY.divN rfl rfl rfl (by omega) (by omega)) ?_
    | refine S_Q [] rfl rfl (QY.remN rfl rfl rfl (by omega) (by omega)) ?_
    | refine S_Q [] rfl rfl (QY.mul rfl rfl rfl (by omega) (by omega)) ?_
    | refine L_reg ?_
    | refine L_seq ?_
    | exact ⟨rfl, rfl⟩
    | fail)
  rw [← overB_copy bs i (putB x 8) (sn := 8) (dn := bs.length - i) (by rw [putB_length]) (by omega)]
  exact ⟨rfl, rfl⟩
theorem arenaSetWord_no (bs : Bytes) (hb : bs.length ≤ 65536) (a : Int) (x : BitVec 64) (h : errW bs.length a ≠ 0) : Tr Try.prog 25 [ptr 0, .int .i64 a, .int .u64 (x.toNat : Int)] (AL bs) (fun v K => v = .int .i64 (errW bs.length a) ∧ K = AL bs) := by
  refine Tr.of row_arena_Arena_SetWord_ok rfl ?_
  repeat' (first
    | refine L_rs ?_
    | refine S_done [] rfl (Nx.goL ?_)
    | refine S_done [] rfl (RetQ.keepN rfl rfl rfl rfl ?_)
    | refine S_done [] rfl ?_
    | refine L_block ?_
    | refine L_ret (RetQ.keep rfl rfl rfl rfl ?_)
    | refine L_true rfl ?_
    | refine L_false rfl ?_
    | refine L_skip (Nx.goL ?_)
    | refine L_skip ?_
    | refine L_exit (Nx.goL ?_)
    | refine L_exit ?_
    | refine L_ifp rfl (by first | exact bD | exact bE | exact bN | exact bNB | exact bEB | exact bNot bD | exact bNot bE | exact bNot bN) (fun h => ?_) (fun h => ?_)
    | refine S_Q [] rfl rfl (QY.idxN rfl rfl (by omega)) ?_
    | refine S_Q [] rfl rfl (QY.add rfl rfl rfl (by omega) (by omega)) ?_
    | refine S_Q [] rfl rfl (QY.sub rfl rfl rfl (by omega) (by omega)) ?_
    | refine S_Q [] rfl rfl (QY.mask rfl rfl (by decide) rfl) ?_
    | refine S_Q [] rfl rfl (QY.ldI rfl rfl (List.getElem?_eq_getElem (by omega))) ?_
    | refine S_Q [] rfl rfl (QY.divN rfl rfl rfl (by omega) (by omega)) ?_
    | refine S_Q [] rfl rfl (QY.remN rfl rfl rfl (by omega) (by omega)) ?_
    | refine S_Q [] rfl rfl (QY.mul rfl rfl rfl (by omega) (by omega)) ?_
    | refine L_reg ?_
    | refine L_seq ?_
    | exact ⟨rfl, rfl⟩
    | fail)
  first | refine L_rs ?_ | refine L_reg ?_ | skip
  refine S_Ed [] rfl rfl (EWd.callP [0, 1] (arenaword_tr bs hb a) rfl rfl (by decide) (by repeat' (first | exact trivial | refine ⟨rfl, ?_⟩ | fail)) rfl rfl) (disj_nil _) (nm_nilE _) (nm_nilT _) ?_
  rintro _ _ ⟨rfl, rfl⟩
  refine ⟨(by repeat' (first | exact trivial | refine ⟨⟨qsafe_ok (st := []) rfl, Sure.of rfl⟩, ?_⟩ | refine ⟨.inl rfl, ?_⟩ | refine ⟨.inr ⟨qsafe_ok (st := []) rfl, Sure.of rfl⟩, ?_⟩ | refine ⟨⟨qsafe_ok (st := []) rfl, Sure.slice (by omega)⟩, ?_⟩ | refine ⟨.inr ⟨qsafe_ok (st := []) rfl, Sure.slice (by omega)⟩, ?_⟩ | refine ⟨.inr ⟨QY.neqB rfl (by kernel_rfl) rfl rfl, Sure.of rfl⟩, ?_⟩ | refine ⟨.inr ⟨QY.eqlB rfl (by kernel_rfl) rfl rfl, Sure.of rfl⟩, ?_⟩ | fail)), ?_⟩
  repeat' (first
    | refine L_rs ?_
    | refine S_done [] rfl (Nx.goL ?_)
    | refine S_done [] rfl (RetQ.keepN rfl rfl rfl rfl ?_)
    | refine S_done [] rfl ?_
    | refine L_block ?_
    | refine L_ret (RetQ.keep rfl rfl rfl rfl ?_)
    | refine L_true rfl ?_
    | refine L_false rfl ?_
    | refine L_skip (Nx.goL ?_)
    | refine L_skip ?_
    | refine L_exit (Nx.goL ?_)
    | refine L_exit ?_
    | refine L_ifp rfl (by first | exact bD | exact bE | exact bN | exact bNB | exact bEB | exact bNot bD | exact bNot bE | exact bNot bN) (fun h => ?_) (fun h => ?_)
    | refine S_Q [] rfl rfl (QY.idxN rfl rfl (by omega)) ?_
    | refine S_Q [] rfl rfl (QY.add rfl rfl rfl (by omega) (by omega)) ?_
    | refine S_Q [] rfl rfl (QY.sub rfl rfl rfl (by omega) (by omega)) ?_
    | refine S_Q [] rfl rfl (QY.mask rfl rfl (by decide) rfl) ?_
    | refine S_Q [] rfl rfl (QY.ldI rfl rfl (List.getElem?_eq_getElem (by omega))) ?_
    | refine S_Q [] rfl rfl (QY.divN rfl rfl rfl (by omega) (by omega)) ?_
    | refine S_Q [] rfl rfl (QY.remN rfl rfl rfl (by omega) (by omega)) ?_
    | refine S_Q [] rfl rfl (QY.mul rfl rfl rfl (by omega) (by omega)) ?_
    | refine L_reg ?_
    | refine L_seq ?_
    | exact ⟨rfl, rfl⟩
    | fail)
  all_goals contradiction
end Go.Proofs.Ytnleiiniajinbaa
