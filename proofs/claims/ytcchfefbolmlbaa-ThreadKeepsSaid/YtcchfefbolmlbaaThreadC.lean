/-
  Layer 29: contracts of a table's functions, over its own blocks; the document's table has the same form.
-/
import Derived.Test.YtcchfefbolmlbaaTab
import Derived.Test.YtcchfefbolmlbaaLw4
namespace Go.Proofs.Ytcchfefbolmlbaa
open Go Go.Tum

structure Th where
  st : Int
  kd : Int
  bits : Int
  trap : Int
def Th.zero : Th := ⟨0, 0, 0, 0⟩
def Th.cells (x : Th) : List Value := [.int .i64 x.st, .int .i64 x.kd, .int .u64 x.bits, .int .i64 x.trap]
theorem Th.ok : RowOk Th.cells 4 := ⟨fun _ => rfl, fun _ => rfl⟩
structure Tb where
  most : Int
  l : List Th
  mu : List Int
def TL (t : Tb) : LH := [.cells 0 [.int .i64 t.most, .slice (some ⟨1, 0, none⟩) t.l.length t.l.length, .slice (some ⟨2, 0, none⟩) t.mu.length t.mu.length], .gro 4 (rowsC Th.cells t.l), .gro 1 (rowsC intC t.mu)]
abbrev tp : Value := .pointer (some ⟨0, 0, none⟩)
def thAt (l : List Th) (k : Int) : Th := if 0 ≤ k ∧ k < l.length then l.getD k.toNat .zero else .zero
theorem thAt_get {l : List Th} {j : Nat} {x : Th} (h : l[j]? = some x) : thAt l (j : Int) = x := by
  have := (List.getElem?_eq_some_iff.1 h).1
  rw [thAt, if_pos (by omega)]; simp [h]
theorem thAt_no {l : List Th} {k : Int} (h : ¬ (0 ≤ k ∧ k < l.length)) : thAt l k = .zero := by rw [thAt, if_neg h]

theorem Len_tr (t : Tb) : Tr Try.prog 19 [tp] (TL t) (fun v K => v = .int .i64 t.l.length ∧ K = TL t) := by
  refine Tr.of row_thread_Table_Len_ok rfl ?_
  repeat' (first
    | refine L_rs ?_
    | refine S_done [] rfl (Nx.go ?_)
    | refine S_done [] rfl (RetQ.keepN rfl rfl rfl rfl ?_)
    | refine L_block ?_
    | refine L_ret (RetQ.keep rfl rfl rfl rfl ?_)
    | refine L_true rfl ?_
    | refine L_false rfl ?_
    | refine L_skip (Nx.go ?_)
    | refine L_ifp rfl (by first | exact bD | exact bE | exact bN | exact bNB | exact bEB | exact bNot bD | exact bNot bE | exact bNot bN) (fun h => ?_) (fun h => ?_)
    | refine S_Q [] rfl rfl (QY.idxN rfl rfl (by omega)) ?_
    | refine L_reg ?_
    | refine L_seq ?_
    | exact ⟨rfl, rfl⟩
    | fail)

theorem of_tr (t : Tb) (k : Int) : Tr Try.prog 31 [tp, .int .i64 k] (TL t) (fun v K => v = .agg ⟨(thAt t.l k).cells⟩ ∧ K = TL t) := by
  refine Tr.of row_thread_Table_of_ok rfl ?_
  repeat' (first
    | refine L_rs ?_
    | refine S_done [] rfl (Nx.go ?_)
    | refine S_done [] rfl (RetQ.keepN rfl rfl rfl rfl ?_)
    | refine L_block ?_
    | refine L_ret (RetQ.keep rfl rfl rfl rfl ?_)
    | refine L_true rfl ?_
    | refine L_false rfl ?_
    | refine L_skip (Nx.go ?_)
    | refine L_ifp rfl (by first | exact bD | exact bE | exact bN | exact bNB | exact bEB | exact bNot bD | exact bNot bE | exact bNot bN) (fun h => ?_) (fun h => ?_)
    | refine S_Q [] rfl rfl (QY.idxN rfl rfl (by omega)) ?_
    | refine S_splitp 7 rfl rfl rfl (by first | exact bD | exact bE | exact bN | exact bNB | exact bEB | exact bNot bD | exact bNot bE | exact bNot bN) (fun h => ?_) (fun h => ?_)
    | refine L_reg ?_
    | refine L_seq ?_
    | exact ⟨rfl, rfl⟩
    | fail)
  · rw [thAt_no (by omega)]; exact ⟨rfl, rfl⟩
  · first | refine L_rs ?_ | refine L_reg ?_ | skip
    refine S_Ed [] rfl rfl (EWd.callP [0, 1, 2] (Len_tr t) rfl rfl (by decide) (by repeat' (first | exact trivial | refine ⟨rfl, ?_⟩ | fail)) rfl rfl) (disj_nil _) (nm_nilE _) (nm_nilT _) ?_
    rintro _ _ ⟨rfl, rfl⟩
    refine ⟨(by repeat' (first | exact trivial | refine ⟨⟨qsafe_ok (st := []) rfl, Sure.of rfl⟩, ?_⟩ | refine ⟨.inl rfl, ?_⟩ | refine ⟨.inr ⟨qsafe_ok (st := []) rfl, Sure.of rfl⟩, ?_⟩ | refine ⟨.inr ⟨QY.neqB rfl (by kernel_rfl) rfl rfl, Sure.of rfl⟩, ?_⟩ | refine ⟨.inr ⟨QY.eqlB rfl (by kernel_rfl) rfl rfl, Sure.of rfl⟩, ?_⟩ | fail)), ?_⟩
    repeat' (first
      | refine L_rs ?_
      | refine S_done [] rfl (Nx.go ?_)
      | refine S_done [] rfl (RetQ.keepN rfl rfl rfl rfl ?_)
      | refine L_block ?_
      | refine L_ret (RetQ.keep rfl rfl rfl rfl ?_)
      | refine L_true rfl ?_
      | refine L_false rfl ?_
      | refine L_skip (Nx.go ?_)
      | refine L_ifp rfl (by first | exact bD | exact bE | exact bN | exact bNB | exact bEB | exact bNot bD | exact bNot bE | exact bNot bN) (fun h => ?_) (fun h => ?_)
      | refine S_Q [] rfl rfl (QY.idxN rfl rfl (by omega)) ?_
      | refine L_reg ?_
      | refine L_seq ?_
      | exact ⟨rfl, rfl⟩
      | fail)
    · rw [thAt_no (by omega)]; exact ⟨rfl, rfl⟩
    · obtain ⟨j, rfl⟩ := Int.eq_ofNat_of_zero_le (by omega : 0 ≤ k)
      obtain ⟨x, hx⟩ : ∃ x, t.l[j]? = some x := ⟨_, List.getElem?_eq_getElem (by omega)⟩
      repeat' (first
        | refine L_rs ?_
        | refine S_done [] rfl (Nx.go ?_)
        | refine S_done [] rfl (RetQ.keepN rfl rfl rfl rfl ?_)
        | refine L_block ?_
        | refine L_ret (RetQ.keep rfl rfl rfl rfl ?_)
        | refine L_true rfl ?_
        | refine L_false rfl ?_
        | refine L_skip (Nx.go ?_)
        | refine L_ifp rfl (by first | exact bD | exact bE | exact bN | exact bNB | exact bEB | exact bNot bD | exact bNot bE | exact bNot bN) (fun h => ?_) (fun h => ?_)
        | refine S_Q [] rfl rfl (QY.idxN rfl rfl (by omega)) ?_
        | refine L_reg ?_
        | refine L_seq ?_
        | exact ⟨rfl, rfl⟩
        | fail)
      refine S_Q [] rfl rfl (QY.ldRow Th.ok rfl rfl hx (by decide)) ?_
      repeat' (first
        | refine L_rs ?_
        | refine S_done [] rfl (Nx.go ?_)
        | refine S_done [] rfl (RetQ.keepN rfl rfl rfl rfl ?_)
        | refine L_block ?_
        | refine L_ret (RetQ.keep rfl rfl rfl rfl ?_)
        | refine L_true rfl ?_
        | refine L_false rfl ?_
        | refine L_skip (Nx.go ?_)
        | refine L_ifp rfl (by first | exact bD | exact bE | exact bN | exact bNB | exact bEB | exact bNot bD | exact bNot bE | exact bNot bN) (fun h => ?_) (fun h => ?_)
        | refine S_Q [] rfl rfl (QY.idxN rfl rfl (by omega)) ?_
        | refine L_reg ?_
        | refine L_seq ?_
        | exact ⟨rfl, rfl⟩
        | fail)
      rw [thAt_get hx]; exact ⟨rfl, rfl⟩

def runsE (t : Tb) (k : Int) : Int := if (thAt t.l k).st = 1 then 0 else 8
theorem runs_tr (t : Tb) (k : Int) : Tr Try.prog 32 [tp, .int .i64 k] (TL t) (fun v K => v = .int .i64 (runsE t k) ∧ K = TL t) := by
  refine Tr.of row_thread_Table_runs_ok rfl ?_
  repeat' (first
    | refine L_rs ?_
    | refine S_done [] rfl (Nx.go ?_)
    | refine S_done [] rfl (RetQ.keepN rfl rfl rfl rfl ?_)
    | refine L_block ?_
    | refine L_ret (RetQ.keep rfl rfl rfl rfl ?_)
    | refine L_true rfl ?_
    | refine L_false rfl ?_
    | refine L_skip (Nx.go ?_)
    | refine L_ifp rfl (by first | exact bD | exact bE | exact bN | exact bNB | exact bEB | exact bNot bD | exact bNot bE | exact bNot bN) (fun h => ?_) (fun h => ?_)
    | refine S_Q [] rfl rfl (QY.idxN rfl rfl (by omega)) ?_
    | refine L_reg ?_
    | refine L_seq ?_
    | exact ⟨rfl, rfl⟩
    | fail)
  first | refine L_rs ?_ | refine L_reg ?_ | skip
  refine S_Ed [] rfl rfl (EWd.callP [0, 1, 2] (of_tr t k) rfl rfl (by decide) (by repeat' (first | exact trivial | refine ⟨rfl, ?_⟩ | fail)) rfl rfl) (disj_nil _) (nm_nilE _) (nm_nilT _) ?_
  rintro _ _ ⟨rfl, rfl⟩
  refine ⟨(by repeat' (first | exact trivial | refine ⟨⟨qsafe_ok (st := []) rfl, Sure.of rfl⟩, ?_⟩ | refine ⟨.inl rfl, ?_⟩ | refine ⟨.inr ⟨qsafe_ok (st := []) rfl, Sure.of rfl⟩, ?_⟩ | refine ⟨.inr ⟨QY.neqB rfl (by kernel_rfl) rfl rfl, Sure.of rfl⟩, ?_⟩ | refine ⟨.inr ⟨QY.eqlB rfl (by kernel_rfl) rfl rfl, Sure.of rfl⟩, ?_⟩ | fail)), ?_⟩
  repeat' (first
    | refine L_rs ?_
    | refine S_done [] rfl (Nx.go ?_)
    | refine S_done [] rfl (RetQ.keepN rfl rfl rfl rfl ?_)
    | refine L_block ?_
    | refine L_ret (RetQ.keep rfl rfl rfl rfl ?_)
    | refine L_true rfl ?_
    | refine L_false rfl ?_
    | refine L_skip (Nx.go ?_)
    | refine L_ifp rfl (by first | exact bD | exact bE | exact bN | exact bNB | exact bEB | exact bNot bD | exact bNot bE | exact bNot bN) (fun h => ?_) (fun h => ?_)
    | refine S_Q [] rfl rfl (QY.idxN rfl rfl (by omega)) ?_
    | refine L_reg ?_
    | refine L_seq ?_
    | exact ⟨rfl, rfl⟩
    | fail)
  · rw [runsE, if_neg h]; exact ⟨rfl, rfl⟩
  · rw [runsE, if_pos (by simpa using h)]; exact ⟨rfl, rfl⟩
theorem runs_in {t : Tb} {k : Int} (h : runsE t k = 0) : ∃ j : Nat, k = j ∧ j < t.l.length := by
  unfold runsE at h
  by_cases h1 : 0 ≤ k ∧ k < t.l.length
  · exact ⟨k.toNat, by omega, by omega⟩
  · rw [thAt, if_neg h1] at h
    simp [Th.zero] at h

theorem State_tr (t : Tb) (k : Int) : Tr Try.prog 11 [tp, .int .i64 k] (TL t) (fun v K => v = .int .i64 (thAt t.l k).st ∧ K = TL t) := by
  refine Tr.of row_thread_Table_State_ok rfl ?_
  repeat' (first
    | refine L_rs ?_
    | refine S_done [] rfl (Nx.go ?_)
    | refine S_done [] rfl (RetQ.keepN rfl rfl rfl rfl ?_)
    | refine L_block ?_
    | refine L_ret (RetQ.keep rfl rfl rfl rfl ?_)
    | refine L_true rfl ?_
    | refine L_false rfl ?_
    | refine L_skip (Nx.go ?_)
    | refine L_ifp rfl (by first | exact bD | exact bE | exact bN | exact bNB | exact bEB | exact bNot bD | exact bNot bE | exact bNot bN) (fun h => ?_) (fun h => ?_)
    | refine S_Q [] rfl rfl (QY.idxN rfl rfl (by omega)) ?_
    | refine L_reg ?_
    | refine L_seq ?_
    | exact ⟨rfl, rfl⟩
    | fail)
  first | refine L_rs ?_ | refine L_reg ?_ | skip
  refine S_Ed [] rfl rfl (EWd.callP [0, 1, 2] (of_tr t k) rfl rfl (by decide) (by repeat' (first | exact trivial | refine ⟨rfl, ?_⟩ | fail)) rfl rfl) (disj_nil _) (nm_nilE _) (nm_nilT _) ?_
  rintro _ _ ⟨rfl, rfl⟩
  refine ⟨(by repeat' (first | exact trivial | refine ⟨⟨qsafe_ok (st := []) rfl, Sure.of rfl⟩, ?_⟩ | refine ⟨.inl rfl, ?_⟩ | refine ⟨.inr ⟨qsafe_ok (st := []) rfl, Sure.of rfl⟩, ?_⟩ | refine ⟨.inr ⟨QY.neqB rfl (by kernel_rfl) rfl rfl, Sure.of rfl⟩, ?_⟩ | refine ⟨.inr ⟨QY.eqlB rfl (by kernel_rfl) rfl rfl, Sure.of rfl⟩, ?_⟩ | fail)), ?_⟩
  repeat' (first
    | refine L_rs ?_
    | refine S_done [] rfl (Nx.go ?_)
    | refine S_done [] rfl (RetQ.keepN rfl rfl rfl rfl ?_)
    | refine L_block ?_
    | refine L_ret (RetQ.keep rfl rfl rfl rfl ?_)
    | refine L_true rfl ?_
    | refine L_false rfl ?_
    | refine L_skip (Nx.go ?_)
    | refine L_ifp rfl (by first | exact bD | exact bE | exact bN | exact bNB | exact bEB | exact bNot bD | exact bNot bE | exact bNot bN) (fun h => ?_) (fun h => ?_)
    | refine S_Q [] rfl rfl (QY.idxN rfl rfl (by omega)) ?_
    | refine L_reg ?_
    | refine L_seq ?_
    | exact ⟨rfl, rfl⟩
    | fail)
theorem Trap_tr (t : Tb) (k : Int) : Tr Try.prog 13 [tp, .int .i64 k] (TL t) (fun v K => v = .int .i64 (thAt t.l k).trap ∧ K = TL t) := by
  refine Tr.of row_thread_Table_Trap_ok rfl ?_
  repeat' (first
    | refine L_rs ?_
    | refine S_done [] rfl (Nx.go ?_)
    | refine S_done [] rfl (RetQ.keepN rfl rfl rfl rfl ?_)
    | refine L_block ?_
    | refine L_ret (RetQ.keep rfl rfl rfl rfl ?_)
    | refine L_true rfl ?_
    | refine L_false rfl ?_
    | refine L_skip (Nx.go ?_)
    | refine L_ifp rfl (by first | exact bD | exact bE | exact bN | exact bNB | exact bEB | exact bNot bD | exact bNot bE | exact bNot bN) (fun h => ?_) (fun h => ?_)
    | refine S_Q [] rfl rfl (QY.idxN rfl rfl (by omega)) ?_
    | refine L_reg ?_
    | refine L_seq ?_
    | exact ⟨rfl, rfl⟩
    | fail)
  first | refine L_rs ?_ | refine L_reg ?_ | skip
  refine S_Ed [] rfl rfl (EWd.callP [0, 1, 2] (of_tr t k) rfl rfl (by decide) (by repeat' (first | exact trivial | refine ⟨rfl, ?_⟩ | fail)) rfl rfl) (disj_nil _) (nm_nilE _) (nm_nilT _) ?_
  rintro _ _ ⟨rfl, rfl⟩
  refine ⟨(by repeat' (first | exact trivial | refine ⟨⟨qsafe_ok (st := []) rfl, Sure.of rfl⟩, ?_⟩ | refine ⟨.inl rfl, ?_⟩ | refine ⟨.inr ⟨qsafe_ok (st := []) rfl, Sure.of rfl⟩, ?_⟩ | refine ⟨.inr ⟨QY.neqB rfl (by kernel_rfl) rfl rfl, Sure.of rfl⟩, ?_⟩ | refine ⟨.inr ⟨QY.eqlB rfl (by kernel_rfl) rfl rfl, Sure.of rfl⟩, ?_⟩ | fail)), ?_⟩
  repeat' (first
    | refine L_rs ?_
    | refine S_done [] rfl (Nx.go ?_)
    | refine S_done [] rfl (RetQ.keepN rfl rfl rfl rfl ?_)
    | refine L_block ?_
    | refine L_ret (RetQ.keep rfl rfl rfl rfl ?_)
    | refine L_true rfl ?_
    | refine L_false rfl ?_
    | refine L_skip (Nx.go ?_)
    | refine L_ifp rfl (by first | exact bD | exact bE | exact bN | exact bNB | exact bEB | exact bNot bD | exact bNot bE | exact bNot bN) (fun h => ?_) (fun h => ?_)
    | refine S_Q [] rfl rfl (QY.idxN rfl rfl (by omega)) ?_
    | refine L_reg ?_
    | refine L_seq ?_
    | exact ⟨rfl, rfl⟩
    | fail)
theorem Over_tr (t : Tb) (k : Int) : Tr Try.prog 22 [tp, .int .i64 k] (TL t) (fun v K => v = .bool (decide ((thAt t.l k).st ≥ 2)) ∧ K = TL t) := by
  refine Tr.of row_thread_Table_Over_ok rfl ?_
  repeat' (first
    | refine L_rs ?_
    | refine S_done [] rfl (Nx.go ?_)
    | refine S_done [] rfl (RetQ.keepN rfl rfl rfl rfl ?_)
    | refine L_block ?_
    | refine L_ret (RetQ.keep rfl rfl rfl rfl ?_)
    | refine L_true rfl ?_
    | refine L_false rfl ?_
    | refine L_skip (Nx.go ?_)
    | refine L_ifp rfl (by first | exact bD | exact bE | exact bN | exact bNB | exact bEB | exact bNot bD | exact bNot bE | exact bNot bN) (fun h => ?_) (fun h => ?_)
    | refine S_Q [] rfl rfl (QY.idxN rfl rfl (by omega)) ?_
    | refine L_reg ?_
    | refine L_seq ?_
    | exact ⟨rfl, rfl⟩
    | fail)
  first | refine L_rs ?_ | refine L_reg ?_ | skip
  refine S_Ed [] rfl rfl (EWd.callP [0, 1, 2] (of_tr t k) rfl rfl (by decide) (by repeat' (first | exact trivial | refine ⟨rfl, ?_⟩ | fail)) rfl rfl) (disj_nil _) (nm_nilE _) (nm_nilT _) ?_
  rintro _ _ ⟨rfl, rfl⟩
  refine ⟨(by repeat' (first | exact trivial | refine ⟨⟨qsafe_ok (st := []) rfl, Sure.of rfl⟩, ?_⟩ | refine ⟨.inl rfl, ?_⟩ | refine ⟨.inr ⟨qsafe_ok (st := []) rfl, Sure.of rfl⟩, ?_⟩ | refine ⟨.inr ⟨QY.neqB rfl (by kernel_rfl) rfl rfl, Sure.of rfl⟩, ?_⟩ | refine ⟨.inr ⟨QY.eqlB rfl (by kernel_rfl) rfl rfl, Sure.of rfl⟩, ?_⟩ | fail)), ?_⟩
  repeat' (first
    | refine L_rs ?_
    | refine S_done [] rfl (Nx.go ?_)
    | refine S_done [] rfl (RetQ.keepN rfl rfl rfl rfl ?_)
    | refine L_block ?_
    | refine L_ret (RetQ.keep rfl rfl rfl rfl ?_)
    | refine L_true rfl ?_
    | refine L_false rfl ?_
    | refine L_skip (Nx.go ?_)
    | refine L_ifp rfl (by first | exact bD | exact bE | exact bN | exact bNB | exact bEB | exact bNot bD | exact bNot bE | exact bNot bN) (fun h => ?_) (fun h => ?_)
    | refine S_Q [] rfl rfl (QY.idxN rfl rfl (by omega)) ?_
    | refine L_reg ?_
    | refine L_seq ?_
    | exact ⟨rfl, rfl⟩
    | fail)
theorem Exit_tr (t : Tb) (k : Int) : Tr Try.prog 10 [tp, .int .i64 k] (TL t) (fun v K => v = .tuple ⟨[.agg ⟨[.int .i64 (thAt t.l k).kd, .int .u64 (thAt t.l k).bits]⟩, .bool ((thAt t.l k).st == 2)]⟩ ∧ K = TL t) := by
  refine Tr.of row_thread_Table_Exit_ok rfl ?_
  repeat' (first
    | refine L_rs ?_
    | refine S_done [] rfl (Nx.go ?_)
    | refine S_done [] rfl (RetQ.keepN rfl rfl rfl rfl ?_)
    | refine L_block ?_
    | refine L_ret (RetQ.keep rfl rfl rfl rfl ?_)
    | refine L_true rfl ?_
    | refine L_false rfl ?_
    | refine L_skip (Nx.go ?_)
    | refine L_ifp rfl (by first | exact bD | exact bE | exact bN | exact bNB | exact bEB | exact bNot bD | exact bNot bE | exact bNot bN) (fun h => ?_) (fun h => ?_)
    | refine S_Q [] rfl rfl (QY.idxN rfl rfl (by omega)) ?_
    | refine L_reg ?_
    | refine L_seq ?_
    | exact ⟨rfl, rfl⟩
    | fail)
  first | refine L_rs ?_ | refine L_reg ?_ | skip
  refine S_Ed [] rfl rfl (EWd.callP [0, 1, 2] (of_tr t k) rfl rfl (by decide) (by repeat' (first | exact trivial | refine ⟨rfl, ?_⟩ | fail)) rfl rfl) (disj_nil _) (nm_nilE _) (nm_nilT _) ?_
  rintro _ _ ⟨rfl, rfl⟩
  refine ⟨(by repeat' (first | exact trivial | refine ⟨⟨qsafe_ok (st := []) rfl, Sure.of rfl⟩, ?_⟩ | refine ⟨.inl rfl, ?_⟩ | refine ⟨.inr ⟨qsafe_ok (st := []) rfl, Sure.of rfl⟩, ?_⟩ | refine ⟨.inr ⟨QY.neqB rfl (by kernel_rfl) rfl rfl, Sure.of rfl⟩, ?_⟩ | refine ⟨.inr ⟨QY.eqlB rfl (by kernel_rfl) rfl rfl, Sure.of rfl⟩, ?_⟩ | fail)), ?_⟩
  repeat' (first
    | refine L_rs ?_
    | refine S_done [] rfl (Nx.go ?_)
    | refine S_done [] rfl (RetQ.keepN rfl rfl rfl rfl ?_)
    | refine L_block ?_
    | refine L_ret (RetQ.keep rfl rfl rfl rfl ?_)
    | refine L_true rfl ?_
    | refine L_false rfl ?_
    | refine L_skip (Nx.go ?_)
    | refine L_ifp rfl (by first | exact bD | exact bE | exact bN | exact bNB | exact bEB | exact bNot bD | exact bNot bE | exact bNot bN) (fun h => ?_) (fun h => ?_)
    | refine S_Q [] rfl rfl (QY.idxN rfl rfl (by omega)) ?_
    | refine L_reg ?_
    | refine L_seq ?_
    | exact ⟨rfl, rfl⟩
    | fail)
  refine S_E [] rfl rfl (esafe_ok rfl) ?_
  rintro _ _ ⟨rfl, rfl⟩
  refine ⟨(by repeat' (first | exact trivial | refine ⟨⟨qsafe_ok (st := []) rfl, Sure.of rfl⟩, ?_⟩ | refine ⟨.inl rfl, ?_⟩ | refine ⟨.inr ⟨qsafe_ok (st := []) rfl, Sure.of rfl⟩, ?_⟩ | refine ⟨.inr ⟨QY.neqB rfl (by kernel_rfl) rfl rfl, Sure.of rfl⟩, ?_⟩ | refine ⟨.inr ⟨QY.eqlB rfl (by kernel_rfl) rfl rfl, Sure.of rfl⟩, ?_⟩ | fail)), ?_⟩
  repeat' (first
    | refine L_rs ?_
    | refine S_done [] rfl (Nx.go ?_)
    | refine S_done [] rfl (RetQ.keepN rfl rfl rfl rfl ?_)
    | refine L_block ?_
    | refine L_ret (RetQ.keep rfl rfl rfl rfl ?_)
    | refine L_true rfl ?_
    | refine L_false rfl ?_
    | refine L_skip (Nx.go ?_)
    | refine L_ifp rfl (by first | exact bD | exact bE | exact bN | exact bNB | exact bEB | exact bNot bD | exact bNot bE | exact bNot bN) (fun h => ?_) (fun h => ?_)
    | refine S_Q [] rfl rfl (QY.idxN rfl rfl (by omega)) ?_
    | refine L_reg ?_
    | refine L_seq ?_
    | exact ⟨rfl, rfl⟩
    | fail)

def inE (t : Tb) (m : Int) : Int := if 0 ≤ m ∧ m < t.mu.length then 0 else 3
theorem in_tr (t : Tb) (m : Int) : Tr Try.prog 30 [tp, .int .i64 m] (TL t) (fun v K => v = .int .i64 (inE t m) ∧ K = TL t) := by
  refine Tr.of row_thread_Table_in_ok rfl ?_
  repeat' (first
    | refine L_rs ?_
    | refine S_done [] rfl (Nx.go ?_)
    | refine S_done [] rfl (RetQ.keepN rfl rfl rfl rfl ?_)
    | refine L_block ?_
    | refine L_ret (RetQ.keep rfl rfl rfl rfl ?_)
    | refine L_true rfl ?_
    | refine L_false rfl ?_
    | refine L_skip (Nx.go ?_)
    | refine L_ifp rfl (by first | exact bD | exact bE | exact bN | exact bNB | exact bEB | exact bNot bD | exact bNot bE | exact bNot bN) (fun h => ?_) (fun h => ?_)
    | refine S_Q [] rfl rfl (QY.idxN rfl rfl (by omega)) ?_
    | refine S_splitp 11 rfl rfl rfl (by first | exact bD | exact bE | exact bN | exact bNB | exact bEB | exact bNot bD | exact bNot bE | exact bNot bN) (fun h => ?_) (fun h => ?_)
    | refine L_reg ?_
    | refine L_seq ?_
    | exact ⟨rfl, rfl⟩
    | fail)
  · rw [inE, if_neg (by omega)]; exact ⟨rfl, rfl⟩
  · rw [inE, if_neg (by omega)]; exact ⟨rfl, rfl⟩
  · rw [inE, if_pos (by omega)]; exact ⟨rfl, rfl⟩
theorem in_yes {t : Tb} {m : Int} (h : inE t m = 0) : ∃ j : Nat, m = j ∧ j < t.mu.length := by
  unfold inE at h
  by_cases h1 : 0 ≤ m ∧ m < t.mu.length
  · exact ⟨m.toNat, by omega, by omega⟩
  · rw [if_neg h1] at h; cases h

def putT (t : Tb) (k : Int) (x : Th) : Tb := { t with l := t.l.set k.toNat x }
theorem put_TL (t : Tb) (j : Nat) (x : Th) : TL (putT t j x) = [.cells 0 [.int .i64 t.most, .slice (some ⟨1, 0, none⟩) t.l.length t.l.length, .slice (some ⟨2, 0, none⟩) t.mu.length t.mu.length], .gro 4 (rowsC Th.cells (t.l.set j x)), .gro 1 (rowsC intC t.mu)] := by
  simp [TL, putT]
def endT (t : Tb) (k a b : Int) : Tb := if runsE t k = 0 then putT t k ⟨2, a, b, 0⟩ else t
theorem End_tr (t : Tb) (k a b : Int) : TrK Try.prog [] [0] 17 [tp, .int .i64 k, .agg ⟨[.int .i64 a, .int .u64 b]⟩] (TL t) (fun v K => v = .int .i64 (runsE t k) ∧ K = TL (endT t k a b)) := by
  refine Tr.of row_thread_Table_End_ok rfl ?_
  repeat' (first
    | refine L_rs ?_
    | refine S_done [] rfl (Nx.go ?_)
    | refine S_done [] rfl (RetQ.keepN rfl rfl rfl rfl ?_)
    | refine L_block ?_
    | refine L_ret (RetQ.keep rfl rfl rfl rfl ?_)
    | refine L_true rfl ?_
    | refine L_false rfl ?_
    | refine L_skip (Nx.go ?_)
    | refine L_ifp rfl (by first | exact bD | exact bE | exact bN | exact bNB | exact bEB | exact bNot bD | exact bNot bE | exact bNot bN) (fun h => ?_) (fun h => ?_)
    | refine S_Q [] rfl rfl (QY.idxN rfl rfl (by omega)) ?_
    | refine L_reg ?_
    | refine L_seq ?_
    | exact ⟨rfl, rfl⟩
    | fail)
  first | refine L_rs ?_ | refine L_reg ?_ | skip
  refine S_Ed [] rfl rfl (EWd.callP [0, 1, 2] (runs_tr t k) rfl rfl (by decide) (by repeat' (first | exact trivial | refine ⟨rfl, ?_⟩ | fail)) rfl rfl) (disj_nil _) (nm_nilE _) (nm_nilT _) ?_
  rintro _ _ ⟨rfl, rfl⟩
  refine ⟨(by repeat' (first | exact trivial | refine ⟨⟨qsafe_ok (st := []) rfl, Sure.of rfl⟩, ?_⟩ | refine ⟨.inl rfl, ?_⟩ | refine ⟨.inr ⟨qsafe_ok (st := []) rfl, Sure.of rfl⟩, ?_⟩ | refine ⟨.inr ⟨QY.neqB rfl (by kernel_rfl) rfl rfl, Sure.of rfl⟩, ?_⟩ | refine ⟨.inr ⟨QY.eqlB rfl (by kernel_rfl) rfl rfl, Sure.of rfl⟩, ?_⟩ | fail)), ?_⟩
  repeat' (first
    | refine L_rs ?_
    | refine S_done [] rfl (Nx.go ?_)
    | refine S_done [] rfl (RetQ.keepN rfl rfl rfl rfl ?_)
    | refine L_block ?_
    | refine L_ret (RetQ.keep rfl rfl rfl rfl ?_)
    | refine L_true rfl ?_
    | refine L_false rfl ?_
    | refine L_skip (Nx.go ?_)
    | refine L_ifp rfl (by first | exact bD | exact bE | exact bN | exact bNB | exact bEB | exact bNot bD | exact bNot bE | exact bNot bN) (fun h => ?_) (fun h => ?_)
    | refine S_Q [] rfl rfl (QY.idxN rfl rfl (by omega)) ?_
    | refine L_reg ?_
    | refine L_seq ?_
    | exact ⟨rfl, rfl⟩
    | fail)
  · obtain ⟨j, rfl, hj⟩ := runs_in h
    refine S_Q [] rfl rfl (QY.idxN rfl rfl hj) (S_E [] rfl rfl (EW.stRow (a := ⟨2, a, b, 0⟩) Th.ok rfl rfl rfl hj (by decide)) ?_)
    rintro _ _ ⟨rfl, rfl⟩
    refine ⟨trivial, ?_⟩
    repeat' (first
      | refine L_rs ?_
      | refine S_done [] rfl (Nx.go ?_)
      | refine S_done [] rfl (RetQ.keepN rfl rfl rfl rfl ?_)
      | refine L_block ?_
      | refine L_ret (RetQ.keep rfl rfl rfl rfl ?_)
      | refine L_true rfl ?_
      | refine L_false rfl ?_
      | refine L_skip (Nx.go ?_)
      | refine L_ifp rfl (by first | exact bD | exact bE | exact bN | exact bNB | exact bEB | exact bNot bD | exact bNot bE | exact bNot bN) (fun h => ?_) (fun h => ?_)
      | refine S_Q [] rfl rfl (QY.idxN rfl rfl (by omega)) ?_
      | refine L_reg ?_
      | refine L_seq ?_
      | exact ⟨rfl, rfl⟩
      | fail)
    rw [endT, if_pos h, put_TL]; exact ⟨rfl, rfl⟩
  · rw [endT, if_neg h]; exact ⟨rfl, rfl⟩
def killE (t : Tb) (k trap : Int) : Int := if runsE t k = 0 then (if trap < 1 then 1 else 0) else runsE t k
def killT (t : Tb) (k trap : Int) : Tb := if runsE t k = 0 then (if trap < 1 then t else putT t k ⟨3, 0, 0, trap⟩) else t
theorem Kill_tr (t : Tb) (k trap : Int) : TrK Try.prog [] [0] 18 [tp, .int .i64 k, .int .i64 trap] (TL t) (fun v K => v = .int .i64 (killE t k trap) ∧ K = TL (killT t k trap)) := by
  refine Tr.of row_thread_Table_Kill_ok rfl ?_
  repeat' (first
    | refine L_rs ?_
    | refine S_done [] rfl (Nx.go ?_)
    | refine S_done [] rfl (RetQ.keepN rfl rfl rfl rfl ?_)
    | refine L_block ?_
    | refine L_ret (RetQ.keep rfl rfl rfl rfl ?_)
    | refine L_true rfl ?_
    | refine L_false rfl ?_
    | refine L_skip (Nx.go ?_)
    | refine L_ifp rfl (by first | exact bD | exact bE | exact bN | exact bNB | exact bEB | exact bNot bD | exact bNot bE | exact bNot bN) (fun h => ?_) (fun h => ?_)
    | refine S_Q [] rfl rfl (QY.idxN rfl rfl (by omega)) ?_
    | refine L_reg ?_
    | refine L_seq ?_
    | exact ⟨rfl, rfl⟩
    | fail)
  first | refine L_rs ?_ | refine L_reg ?_ | skip
  refine S_Ed [] rfl rfl (EWd.callP [0, 1, 2] (runs_tr t k) rfl rfl (by decide) (by repeat' (first | exact trivial | refine ⟨rfl, ?_⟩ | fail)) rfl rfl) (disj_nil _) (nm_nilE _) (nm_nilT _) ?_
  rintro _ _ ⟨rfl, rfl⟩
  refine ⟨(by repeat' (first | exact trivial | refine ⟨⟨qsafe_ok (st := []) rfl, Sure.of rfl⟩, ?_⟩ | refine ⟨.inl rfl, ?_⟩ | refine ⟨.inr ⟨qsafe_ok (st := []) rfl, Sure.of rfl⟩, ?_⟩ | refine ⟨.inr ⟨QY.neqB rfl (by kernel_rfl) rfl rfl, Sure.of rfl⟩, ?_⟩ | refine ⟨.inr ⟨QY.eqlB rfl (by kernel_rfl) rfl rfl, Sure.of rfl⟩, ?_⟩ | fail)), ?_⟩
  repeat' (first
    | refine L_rs ?_
    | refine S_done [] rfl (Nx.go ?_)
    | refine S_done [] rfl (RetQ.keepN rfl rfl rfl rfl ?_)
    | refine L_block ?_
    | refine L_ret (RetQ.keep rfl rfl rfl rfl ?_)
    | refine L_true rfl ?_
    | refine L_false rfl ?_
    | refine L_skip (Nx.go ?_)
    | refine L_ifp rfl (by first | exact bD | exact bE | exact bN | exact bNB | exact bEB | exact bNot bD | exact bNot bE | exact bNot bN) (fun h => ?_) (fun h => ?_)
    | refine S_Q [] rfl rfl (QY.idxN rfl rfl (by omega)) ?_
    | refine L_reg ?_
    | refine L_seq ?_
    | exact ⟨rfl, rfl⟩
    | fail)
  · rw [killE, if_neg h, killT, if_neg h]; exact ⟨rfl, rfl⟩
  · rename_i h0
    have h0 : runsE t k = 0 := by simpa using h0
    rw [killE, if_pos h0, killT, if_pos h0, if_pos h, if_pos h]; exact ⟨rfl, rfl⟩
  · rename_i h0
    have h0 : runsE t k = 0 := by simpa using h0
    obtain ⟨j, rfl, hj⟩ := runs_in h0
    refine S_Q [] rfl rfl (QY.idxN rfl rfl hj) (S_E [] rfl rfl (EW.stRow (a := ⟨3, 0, 0, trap⟩) Th.ok rfl rfl rfl hj (by decide)) ?_)
    rintro _ _ ⟨rfl, rfl⟩
    refine ⟨trivial, ?_⟩
    repeat' (first
      | refine L_rs ?_
      | refine S_done [] rfl (Nx.go ?_)
      | refine S_done [] rfl (RetQ.keepN rfl rfl rfl rfl ?_)
      | refine L_block ?_
      | refine L_ret (RetQ.keep rfl rfl rfl rfl ?_)
      | refine L_true rfl ?_
      | refine L_false rfl ?_
      | refine L_skip (Nx.go ?_)
      | refine L_ifp rfl (by first | exact bD | exact bE | exact bN | exact bNB | exact bEB | exact bNot bD | exact bNot bE | exact bNot bN) (fun h => ?_) (fun h => ?_)
      | refine S_Q [] rfl rfl (QY.idxN rfl rfl (by omega)) ?_
      | refine L_reg ?_
      | refine L_seq ?_
      | exact ⟨rfl, rfl⟩
      | fail)
    rw [killE, if_pos h0, killT, if_pos h0, if_neg h, if_neg h, put_TL]; exact ⟨rfl, rfl⟩
def spawnV (t : Tb) : Value := .tuple ⟨[.int .i64 (if (t.l.length : Int) = t.most then 0 else t.l.length), .int .i64 (if (t.l.length : Int) = t.most then 5 else 0)]⟩
def spawnT (t : Tb) : Tb := if (t.l.length : Int) = t.most then t else { t with l := t.l ++ [⟨1, 0, 0, 0⟩] }
theorem Spawn_tr (t : Tb) (hl : t.l.length ≤ 64) : TrK Try.prog [] [0] 16 [tp] (TL t) (fun v K => v = spawnV t ∧ K = TL (spawnT t)) := by
  refine Tr.of row_thread_Table_Spawn_ok rfl ?_
  repeat' (first
    | refine L_rs ?_
    | refine S_done [] rfl (Nx.go ?_)
    | refine S_done [] rfl (RetQ.keepN rfl rfl rfl rfl ?_)
    | refine L_block ?_
    | refine L_ret (RetQ.keep rfl rfl rfl rfl ?_)
    | refine L_true rfl ?_
    | refine L_false rfl ?_
    | refine L_skip (Nx.go ?_)
    | refine L_ifp rfl (by first | exact bD | exact bE | exact bN | exact bNB | exact bEB | exact bNot bD | exact bNot bE | exact bNot bN) (fun h => ?_) (fun h => ?_)
    | refine S_Q [] rfl rfl (QY.idxN rfl rfl (by omega)) ?_
    | refine L_reg ?_
    | refine L_seq ?_
    | exact ⟨rfl, rfl⟩
    | fail)
  · rw [spawnV, spawnT, if_pos h, if_pos h, if_pos h]; exact ⟨rfl, rfl⟩
  · refine S_E [] rfl rfl (EW.appR1 (bytes := 32) (a := ⟨1, 0, 0, 0⟩) Th.ok rfl (by kernel_rfl) rfl rfl rfl rfl rfl (by omega)) ?_
    rintro _ _ ⟨rfl, rfl⟩
    refine ⟨trivial, ?_⟩
    repeat' (first
      | refine L_rs ?_
      | refine S_done [] rfl (Nx.go ?_)
      | refine S_done [] rfl (RetQ.keepN rfl rfl rfl rfl ?_)
      | refine L_block ?_
      | refine L_ret (RetQ.keep rfl rfl rfl rfl ?_)
      | refine L_true rfl ?_
      | refine L_false rfl ?_
      | refine L_skip (Nx.go ?_)
      | refine L_ifp rfl (by first | exact bD | exact bE | exact bN | exact bNB | exact bEB | exact bNot bD | exact bNot bE | exact bNot bN) (fun h => ?_) (fun h => ?_)
      | refine S_Q [] rfl rfl (QY.idxN rfl rfl (by omega)) ?_
      | refine L_reg ?_
      | refine L_seq ?_
      | exact ⟨rfl, rfl⟩
      | fail)
    refine S_Q [] rfl rfl (QY.sub (c := (t.l.length : Int)) rfl rfl (by omega) (by omega) (by omega)) (S_done [] rfl (Nx.go (L_ret (RetQ.pick [0, 4, 2] rfl rfl rfl rfl ?_))))
    rw [spawnV, spawnT, if_neg h, if_neg h, if_neg h]
    exact ⟨rfl, by simp only [TL, List.length_append]; rfl⟩

def whoAt (t : Tb) (m : Int) : Int := if 0 ≤ m ∧ m < t.mu.length then t.mu.getD m.toNat (-1) else -1
theorem whoAt_get {t : Tb} {j : Nat} {x : Int} (h : t.mu[j]? = some x) : whoAt t (j : Int) = x := by
  have := (List.getElem?_eq_some_iff.1 h).1
  rw [whoAt, if_pos (by omega)]; simp [h]
theorem Holder_tr (t : Tb) (m : Int) : Tr Try.prog 9 [tp, .int .i64 m] (TL t) (fun v K => v = .tuple ⟨[.int .i64 (if whoAt t m = -1 then 0 else whoAt t m), .bool (decide (whoAt t m ≠ -1))]⟩ ∧ K = TL t) := by
  refine Tr.of row_thread_Table_Holder_ok rfl ?_
  repeat' (first
    | refine L_rs ?_
    | refine S_done [] rfl (Nx.go ?_)
    | refine S_done [] rfl (RetQ.keepN rfl rfl rfl rfl ?_)
    | refine L_block ?_
    | refine L_ret (RetQ.keep rfl rfl rfl rfl ?_)
    | refine L_true rfl ?_
    | refine L_false rfl ?_
    | refine L_skip (Nx.go ?_)
    | refine L_ifp rfl (by first | exact bD | exact bE | exact bN | exact bNB | exact bEB | exact bNot bD | exact bNot bE | exact bNot bN) (fun h => ?_) (fun h => ?_)
    | refine S_Q [] rfl rfl (QY.idxN rfl rfl (by omega)) ?_
    | refine L_reg ?_
    | refine L_seq ?_
    | exact ⟨rfl, rfl⟩
    | fail)
  first | refine L_rs ?_ | refine L_reg ?_ | skip
  refine S_Ed [] rfl rfl (EWd.callP [0, 1, 2] (in_tr t m) rfl rfl (by decide) (by repeat' (first | exact trivial | refine ⟨rfl, ?_⟩ | fail)) rfl rfl) (disj_nil _) (nm_nilE _) (nm_nilT _) ?_
  rintro _ _ ⟨rfl, rfl⟩
  refine ⟨(by repeat' (first | exact trivial | refine ⟨⟨qsafe_ok (st := []) rfl, Sure.of rfl⟩, ?_⟩ | refine ⟨.inl rfl, ?_⟩ | refine ⟨.inr ⟨qsafe_ok (st := []) rfl, Sure.of rfl⟩, ?_⟩ | refine ⟨.inr ⟨QY.neqB rfl (by kernel_rfl) rfl rfl, Sure.of rfl⟩, ?_⟩ | refine ⟨.inr ⟨QY.eqlB rfl (by kernel_rfl) rfl rfl, Sure.of rfl⟩, ?_⟩ | fail)), ?_⟩
  repeat' (first
    | refine L_rs ?_
    | refine S_done [] rfl (Nx.go ?_)
    | refine S_done [] rfl (RetQ.keepN rfl rfl rfl rfl ?_)
    | refine L_block ?_
    | refine L_ret (RetQ.keep rfl rfl rfl rfl ?_)
    | refine L_true rfl ?_
    | refine L_false rfl ?_
    | refine L_skip (Nx.go ?_)
    | refine L_ifp rfl (by first | exact bD | exact bE | exact bN | exact bNB | exact bEB | exact bNot bD | exact bNot bE | exact bNot bN) (fun h => ?_) (fun h => ?_)
    | refine S_Q [] rfl rfl (QY.idxN rfl rfl (by omega)) ?_
    | refine S_splitp 10 rfl rfl rfl (by first | exact bD | exact bE | exact bN | exact bNB | exact bEB | exact bNot bD | exact bNot bE | exact bNot bN) (fun h => ?_) (fun h => ?_)
    | refine L_reg ?_
    | refine L_seq ?_
    | exact ⟨rfl, rfl⟩
    | fail)
  · have e : whoAt t m = -1 := by
      rw [whoAt, if_neg]
      intro hc; exact h (by rw [inE, if_pos hc])
    rw [e]; exact ⟨rfl, rfl⟩
  · obtain ⟨j, rfl, hj⟩ := in_yes (Classical.not_not.1 h)
    obtain ⟨x, hx⟩ : ∃ x, t.mu[j]? = some x := ⟨_, List.getElem?_eq_getElem (by omega)⟩
    repeat' (first
      | refine L_rs ?_
      | refine S_done [] rfl (Nx.go ?_)
      | refine S_done [] rfl (RetQ.keepN rfl rfl rfl rfl ?_)
      | refine L_block ?_
      | refine L_ret (RetQ.keep rfl rfl rfl rfl ?_)
      | refine L_true rfl ?_
      | refine L_false rfl ?_
      | refine L_skip (Nx.go ?_)
      | refine L_ifp rfl (by first | exact bD | exact bE | exact bN | exact bNB | exact bEB | exact bNot bD | exact bNot bE | exact bNot bN) (fun h => ?_) (fun h => ?_)
      | refine S_Q [] rfl rfl (QY.idxN rfl rfl (by omega)) ?_
      | refine S_Q [] rfl rfl (QY.ldI rfl rfl hx) ?_
      | refine L_reg ?_
      | refine L_seq ?_
      | exact ⟨rfl, rfl⟩
      | fail)
    · rw [whoAt_get hx, h]; exact ⟨rfl, rfl⟩
    · rw [whoAt_get hx, if_neg h, decide_eq_true h]; exact ⟨rfl, rfl⟩
def lockE (t : Tb) (k m : Int) : Int := if inE t m = 0 then (if runsE t k = 0 then (if whoAt t m = k then 7 else if whoAt t m ≠ -1 then 5 else 0) else 8) else inE t m
def putM (t : Tb) (m x : Int) : Tb := { t with mu := t.mu.set m.toNat x }
theorem put_TM (t : Tb) (j : Nat) (x : Int) : TL (putM t j x) = [.cells 0 [.int .i64 t.most, .slice (some ⟨1, 0, none⟩) t.l.length t.l.length, .slice (some ⟨2, 0, none⟩) t.mu.length t.mu.length], .gro 4 (rowsC Th.cells t.l), .gro 1 (rowsC intC (t.mu.set j x))] := by
  simp [TL, putM]
def lockT (t : Tb) (k m : Int) : Tb := if lockE t k m = 0 then putM t m k else t
theorem Lock_tr (t : Tb) (k m : Int) : TrK Try.prog [] [0] 20 [tp, .int .i64 k, .int .i64 m] (TL t) (fun v K => v = .int .i64 (lockE t k m) ∧ K = TL (lockT t k m)) := by
  refine Tr.of row_thread_Table_Lock_ok rfl ?_
  repeat' (first
    | refine L_rs ?_
    | refine S_done [] rfl (Nx.go ?_)
    | refine S_done [] rfl (RetQ.keepN rfl rfl rfl rfl ?_)
    | refine L_block ?_
    | refine L_ret (RetQ.keep rfl rfl rfl rfl ?_)
    | refine L_true rfl ?_
    | refine L_false rfl ?_
    | refine L_skip (Nx.go ?_)
    | refine L_ifp rfl (by first | exact bD | exact bE | exact bN | exact bNB | exact bEB | exact bNot bD | exact bNot bE | exact bNot bN) (fun h => ?_) (fun h => ?_)
    | refine S_Q [] rfl rfl (QY.idxN rfl rfl (by omega)) ?_
    | refine L_reg ?_
    | refine L_seq ?_
    | exact ⟨rfl, rfl⟩
    | fail)
  first | refine L_rs ?_ | refine L_reg ?_ | skip
  refine S_Ed [] rfl rfl (EWd.callP [0, 1, 2] (in_tr t m) rfl rfl (by decide) (by repeat' (first | exact trivial | refine ⟨rfl, ?_⟩ | fail)) rfl rfl) (disj_nil _) (nm_nilE _) (nm_nilT _) ?_
  rintro _ _ ⟨rfl, rfl⟩
  refine ⟨(by repeat' (first | exact trivial | refine ⟨⟨qsafe_ok (st := []) rfl, Sure.of rfl⟩, ?_⟩ | refine ⟨.inl rfl, ?_⟩ | refine ⟨.inr ⟨qsafe_ok (st := []) rfl, Sure.of rfl⟩, ?_⟩ | refine ⟨.inr ⟨QY.neqB rfl (by kernel_rfl) rfl rfl, Sure.of rfl⟩, ?_⟩ | refine ⟨.inr ⟨QY.eqlB rfl (by kernel_rfl) rfl rfl, Sure.of rfl⟩, ?_⟩ | fail)), ?_⟩
  repeat' (first
    | refine L_rs ?_
    | refine S_done [] rfl (Nx.go ?_)
    | refine S_done [] rfl (RetQ.keepN rfl rfl rfl rfl ?_)
    | refine L_block ?_
    | refine L_ret (RetQ.keep rfl rfl rfl rfl ?_)
    | refine L_true rfl ?_
    | refine L_false rfl ?_
    | refine L_skip (Nx.go ?_)
    | refine L_ifp rfl (by first | exact bD | exact bE | exact bN | exact bNB | exact bEB | exact bNot bD | exact bNot bE | exact bNot bN) (fun h => ?_) (fun h => ?_)
    | refine S_Q [] rfl rfl (QY.idxN rfl rfl (by omega)) ?_
    | refine L_reg ?_
    | refine L_seq ?_
    | exact ⟨rfl, rfl⟩
    | fail)
  · have e : lockE t k m = inE t m := by rw [lockE, if_neg h]
    rw [lockT, e, if_neg h]; exact ⟨rfl, rfl⟩
  · have h0 := Classical.not_not.1 h
    obtain ⟨j, rfl, hj⟩ := in_yes h0
    obtain ⟨x, hx⟩ : ∃ x, t.mu[j]? = some x := ⟨_, List.getElem?_eq_getElem (by omega)⟩
    have ew := whoAt_get hx
    first | refine L_rs ?_ | refine L_reg ?_ | skip
    refine S_Ed [] rfl rfl (EWd.callP [0, 1, 2] (runs_tr t k) rfl rfl (by decide) (by repeat' (first | exact trivial | refine ⟨rfl, ?_⟩ | fail)) rfl rfl) (disj_nil _) (nm_nilE _) (nm_nilT _) ?_
    rintro _ _ ⟨rfl, rfl⟩
    refine ⟨(by repeat' (first | exact trivial | refine ⟨⟨qsafe_ok (st := []) rfl, Sure.of rfl⟩, ?_⟩ | refine ⟨.inl rfl, ?_⟩ | refine ⟨.inr ⟨qsafe_ok (st := []) rfl, Sure.of rfl⟩, ?_⟩ | refine ⟨.inr ⟨QY.neqB rfl (by kernel_rfl) rfl rfl, Sure.of rfl⟩, ?_⟩ | refine ⟨.inr ⟨QY.eqlB rfl (by kernel_rfl) rfl rfl, Sure.of rfl⟩, ?_⟩ | fail)), ?_⟩
    repeat' (first
      | refine L_rs ?_
      | refine S_done [] rfl (Nx.go ?_)
      | refine S_done [] rfl (RetQ.keepN rfl rfl rfl rfl ?_)
      | refine L_block ?_
      | refine L_ret (RetQ.keep rfl rfl rfl rfl ?_)
      | refine L_true rfl ?_
      | refine L_false rfl ?_
      | refine L_skip (Nx.go ?_)
      | refine L_ifp rfl (by first | exact bD | exact bE | exact bN | exact bNB | exact bEB | exact bNot bD | exact bNot bE | exact bNot bN) (fun h => ?_) (fun h => ?_)
      | refine S_Q [] rfl rfl (QY.idxN rfl rfl (by omega)) ?_
      | refine S_Q [] rfl rfl (QY.ldI rfl rfl hx) ?_
      | refine L_reg ?_
      | refine L_seq ?_
      | exact ⟨rfl, rfl⟩
      | fail)
    · have e : lockE t k j = 8 := by rw [lockE, if_pos h0, if_neg (by assumption)]
      rw [lockT, e, if_neg (by decide)]; exact ⟨rfl, rfl⟩
    · rename_i h1
      have h1 := Classical.not_not.1 h1
      have e : lockE t k j = 7 := by rw [lockE, if_pos h0, if_pos h1, ew, if_pos h]
      rw [lockT, e, if_neg (by decide)]; exact ⟨rfl, rfl⟩
    · rename_i h1 h2
      have h1 := Classical.not_not.1 h1
      have e : lockE t k j = 5 := by rw [lockE, if_pos h0, if_pos h1, ew, if_neg h2, if_pos h]
      rw [lockT, e, if_neg (by decide)]; exact ⟨rfl, rfl⟩
    · rename_i h1 h2
      have h1 := Classical.not_not.1 h1
      have e : lockE t k j = 0 := by rw [lockE, if_pos h0, if_pos h1, ew, if_neg h2, if_neg h]
      refine S_E [] rfl rfl (EW.stI rfl rfl rfl hj) ?_
      rintro _ _ ⟨rfl, rfl⟩
      refine ⟨trivial, ?_⟩
      repeat' (first
        | refine L_rs ?_
        | refine S_done [] rfl (Nx.go ?_)
        | refine S_done [] rfl (RetQ.keepN rfl rfl rfl rfl ?_)
        | refine L_block ?_
        | refine L_ret (RetQ.keep rfl rfl rfl rfl ?_)
        | refine L_true rfl ?_
        | refine L_false rfl ?_
        | refine L_skip (Nx.go ?_)
        | refine L_ifp rfl (by first | exact bD | exact bE | exact bN | exact bNB | exact bEB | exact bNot bD | exact bNot bE | exact bNot bN) (fun h => ?_) (fun h => ?_)
        | refine S_Q [] rfl rfl (QY.idxN rfl rfl (by omega)) ?_
        | refine L_reg ?_
        | refine L_seq ?_
        | exact ⟨rfl, rfl⟩
        | fail)
      rw [lockT, e, if_pos rfl, put_TM]; exact ⟨rfl, rfl⟩
def unlockE (t : Tb) (k m : Int) : Int := if inE t m = 0 then (if k < 0 ∨ whoAt t m ≠ k then 8 else 0) else inE t m
def unlockT (t : Tb) (k m : Int) : Tb := if unlockE t k m = 0 then putM t m (-1) else t
theorem Unlock_tr (t : Tb) (k m : Int) : TrK Try.prog [] [0] 21 [tp, .int .i64 k, .int .i64 m] (TL t) (fun v K => v = .int .i64 (unlockE t k m) ∧ K = TL (unlockT t k m)) := by
  refine Tr.of row_thread_Table_Unlock_ok rfl ?_
  repeat' (first
    | refine L_rs ?_
    | refine S_done [] rfl (Nx.go ?_)
    | refine S_done [] rfl (RetQ.keepN rfl rfl rfl rfl ?_)
    | refine L_block ?_
    | refine L_ret (RetQ.keep rfl rfl rfl rfl ?_)
    | refine L_true rfl ?_
    | refine L_false rfl ?_
    | refine L_skip (Nx.go ?_)
    | refine L_ifp rfl (by first | exact bD | exact bE | exact bN | exact bNB | exact bEB | exact bNot bD | exact bNot bE | exact bNot bN) (fun h => ?_) (fun h => ?_)
    | refine S_Q [] rfl rfl (QY.idxN rfl rfl (by omega)) ?_
    | refine L_reg ?_
    | refine L_seq ?_
    | exact ⟨rfl, rfl⟩
    | fail)
  first | refine L_rs ?_ | refine L_reg ?_ | skip
  refine S_Ed [] rfl rfl (EWd.callP [0, 1, 2] (in_tr t m) rfl rfl (by decide) (by repeat' (first | exact trivial | refine ⟨rfl, ?_⟩ | fail)) rfl rfl) (disj_nil _) (nm_nilE _) (nm_nilT _) ?_
  rintro _ _ ⟨rfl, rfl⟩
  refine ⟨(by repeat' (first | exact trivial | refine ⟨⟨qsafe_ok (st := []) rfl, Sure.of rfl⟩, ?_⟩ | refine ⟨.inl rfl, ?_⟩ | refine ⟨.inr ⟨qsafe_ok (st := []) rfl, Sure.of rfl⟩, ?_⟩ | refine ⟨.inr ⟨QY.neqB rfl (by kernel_rfl) rfl rfl, Sure.of rfl⟩, ?_⟩ | refine ⟨.inr ⟨QY.eqlB rfl (by kernel_rfl) rfl rfl, Sure.of rfl⟩, ?_⟩ | fail)), ?_⟩
  repeat' (first
    | refine L_rs ?_
    | refine S_done [] rfl (Nx.go ?_)
    | refine S_done [] rfl (RetQ.keepN rfl rfl rfl rfl ?_)
    | refine L_block ?_
    | refine L_ret (RetQ.keep rfl rfl rfl rfl ?_)
    | refine L_true rfl ?_
    | refine L_false rfl ?_
    | refine L_skip (Nx.go ?_)
    | refine L_ifp rfl (by first | exact bD | exact bE | exact bN | exact bNB | exact bEB | exact bNot bD | exact bNot bE | exact bNot bN) (fun h => ?_) (fun h => ?_)
    | refine S_Q [] rfl rfl (QY.idxN rfl rfl (by omega)) ?_
    | refine L_reg ?_
    | refine L_seq ?_
    | exact ⟨rfl, rfl⟩
    | fail)
  · have e : unlockE t k m = inE t m := by rw [unlockE, if_neg h]
    rw [unlockT, e, if_neg h]; exact ⟨rfl, rfl⟩
  · have h0 := Classical.not_not.1 h
    obtain ⟨j, rfl, hj⟩ := in_yes h0
    obtain ⟨x, hx⟩ : ∃ x, t.mu[j]? = some x := ⟨_, List.getElem?_eq_getElem (by omega)⟩
    have ew := whoAt_get hx
    repeat' (first
      | refine L_rs ?_
      | refine S_done [] rfl (Nx.go ?_)
      | refine S_done [] rfl (RetQ.keepN rfl rfl rfl rfl ?_)
      | refine L_block ?_
      | refine L_ret (RetQ.keep rfl rfl rfl rfl ?_)
      | refine L_true rfl ?_
      | refine L_false rfl ?_
      | refine L_skip (Nx.go ?_)
      | refine L_ifp rfl (by first | exact bD | exact bE | exact bN | exact bNB | exact bEB | exact bNot bD | exact bNot bE | exact bNot bN) (fun h => ?_) (fun h => ?_)
      | refine S_Q [] rfl rfl (QY.idxN rfl rfl (by omega)) ?_
      | refine S_Q [] rfl rfl (QY.ldI rfl rfl hx) ?_
      | refine S_splitp 16 rfl rfl rfl (by first | exact bD | exact bE | exact bN | exact bNB | exact bEB | exact bNot bD | exact bNot bE | exact bNot bN) (fun h => ?_) (fun h => ?_)
      | refine L_reg ?_
      | refine L_seq ?_
      | exact ⟨rfl, rfl⟩
      | fail)
    · have e : unlockE t k j = 8 := by rw [unlockE, if_pos h0, if_pos (.inl (by assumption))]
      rw [unlockT, e, if_neg (by decide)]; exact ⟨rfl, rfl⟩
    · have e : unlockE t k j = 8 := by rw [unlockE, if_pos h0, if_pos (.inr (by rw [ew]; assumption))]
      rw [unlockT, e, if_neg (by decide)]; exact ⟨rfl, rfl⟩
    · rename_i h1
      have e : unlockE t k j = 0 := by rw [unlockE, if_pos h0, if_neg]; rw [ew]; rintro (h2 | h2) <;> contradiction
      refine S_E [] rfl rfl (EW.stI rfl rfl rfl hj) ?_
      rintro _ _ ⟨rfl, rfl⟩
      refine ⟨trivial, ?_⟩
      repeat' (first
        | refine L_rs ?_
        | refine S_done [] rfl (Nx.go ?_)
        | refine S_done [] rfl (RetQ.keepN rfl rfl rfl rfl ?_)
        | refine L_block ?_
        | refine L_ret (RetQ.keep rfl rfl rfl rfl ?_)
        | refine L_true rfl ?_
        | refine L_false rfl ?_
        | refine L_skip (Nx.go ?_)
        | refine L_ifp rfl (by first | exact bD | exact bE | exact bN | exact bNB | exact bEB | exact bNot bD | exact bNot bE | exact bNot bN) (fun h => ?_) (fun h => ?_)
        | refine S_Q [] rfl rfl (QY.idxN rfl rfl (by omega)) ?_
        | refine L_reg ?_
        | refine L_seq ?_
        | exact ⟨rfl, rfl⟩
        | fail)
      rw [unlockT, e, if_pos rfl, put_TM]; exact ⟨rfl, rfl⟩

theorem rep_step {α : Type} {k n : Nat} {a b : α} (h : k < n) : (List.replicate k a ++ List.replicate (n - k) b).set k a = List.replicate (k + 1) a ++ List.replicate (n - (k + 1)) b := by
  rw [List.set_append_right _ _ (by simp), List.length_replicate, Nat.sub_self, show n - k = (n - (k + 1)) + 1 by omega, List.replicate_succ, List.set_cons_zero, List.replicate_succ', List.append_assoc]
  rfl
def clip (n most : Int) : Int := min (max n 0) most
def newT (most mutexes : Int) : Tb := ⟨clip most 64, [], List.replicate (clip mutexes 16).toNat (-1)⟩
theorem New_tr (most mutexes : Int) : Tr Try.prog 6 [.int .i64 most, .int .i64 mutexes] [] (fun v K => v = tp ∧ K = TL (newT most mutexes)) := by
  obtain ⟨n, hn⟩ : ∃ n : Nat, clip mutexes 16 = n := ⟨(clip mutexes 16).toNat, by unfold clip; omega⟩
  have hn16 : n ≤ 16 := by unfold clip at hn; omega
  refine Tr.of row_thread_New_ok rfl ?_
  repeat' (first
    | refine L_rs ?_
    | refine S_done [] rfl (Nx.go ?_)
    | refine S_done [] rfl (RetQ.keepN rfl rfl rfl rfl ?_)
    | refine L_block ?_
    | refine L_ret (RetQ.keep rfl rfl rfl rfl ?_)
    | refine L_true rfl ?_
    | refine L_false rfl ?_
    | refine L_skip (Nx.go ?_)
    | refine L_ifp rfl (by first | exact bD | exact bE | exact bN | exact bNB | exact bEB | exact bNot bD | exact bNot bE | exact bNot bN) (fun h => ?_) (fun h => ?_)
    | refine S_Q [] rfl rfl (QY.idxN rfl rfl (by omega)) ?_
    | refine L_reg ?_
    | refine L_seq ?_
    | exact ⟨rfl, rfl⟩
    | fail)
  refine S_E [] rfl rfl (EW.mk (sz := 1) (bytes := 8) (k := n) (zs := intC 0) rfl (by kernel_rfl) (by rw [← hn]; rfl) (by rw [← hn]; rfl) (by omega) (by omega)) ?_
  rintro _ _ ⟨rfl, rfl⟩
  rw [repC_rows (g := intC) (0 : Int)]
  refine ⟨trivial, ?_⟩
  refine S_done [] rfl (Nx.go ?_)
  refine L_seq (L_rs (S_done [] rfl ?_))
  refine Nx.pick [5, 20, 21] [1, 0] rfl rfl rfl ?_
  refine L_block (L_loop (fun r l L => ∃ k : Nat, r = n - k ∧ k ≤ n ∧ l = [(5, tp), (20, .int .i64 n), (21, .int .i64 k)] ∧ L = [.cells 0 [.int .i64 (clip most 64), .slice none 0 0, .slice (some ⟨1, 0, none⟩) n n], .gro 1 (rowsC intC (List.replicate k (-1) ++ List.replicate (n - k) 0))]) n ⟨0, rfl, by omega, rfl, rfl⟩ ?_)
  rintro r _ _ ⟨k, rfl, hk, rfl, rfl⟩
  repeat' (first
    | refine L_rs ?_
    | refine S_done [] rfl (Nx.go ?_)
    | refine S_done [] rfl (RetQ.keepN rfl rfl rfl rfl ?_)
    | refine L_block ?_
    | refine L_ret (RetQ.keep rfl rfl rfl rfl ?_)
    | refine L_true rfl ?_
    | refine L_false rfl ?_
    | refine L_skip (Nx.go ?_)
    | refine L_ifp rfl (by first | exact bD | exact bE | exact bN | exact bNB | exact bEB | exact bNot bD | exact bNot bE | exact bNot bN) (fun h => ?_) (fun h => ?_)
    | refine S_Q [] rfl rfl (QY.idxN rfl rfl (by omega)) ?_
    | refine L_reg ?_
    | refine L_seq ?_
    | exact ⟨rfl, rfl⟩
    | fail)
  · refine S_E [] rfl rfl (EW.stI rfl rfl rfl (by simp; omega)) ?_
    rintro _ _ ⟨rfl, rfl⟩
    refine ⟨trivial, ?_⟩
    refine S_done [] rfl (Nx.go ?_)
    refine L_reg (S_Q [] rfl rfl (QY.add (c := ((k + 1 : Nat) : Int)) rfl rfl rfl (by omega) (by omega)) (S_done [] rfl ?_))
    refine Nx.pick [5, 20, 21] [0, 1] rfl rfl rfl ⟨n - (k + 1), by omega, k + 1, rfl, by omega, rfl, ?_⟩
    rw [← rep_step (by omega)]; rfl
  · have hkn : k = n := by omega
    subst hkn
    refine L_exit (Nx.go ?_)
    refine LWp.nilG (b := 0) (o := 1) 4 rfl rfl ?_
    refine L_rs (S_done [] rfl (Nx.go (L_ret ?_)))
    refine RetQ.pick [0, 2, 1] rfl rfl rfl rfl ⟨rfl, ?_⟩
    have e : newT most mutexes = ⟨clip most 64, [], List.replicate k (-1)⟩ := by rw [newT, hn]; rfl
    rw [e, Nat.sub_self, List.replicate_zero, List.append_nil]
    simp only [TL, List.length_replicate]
    rfl
end Go.Proofs.Ytcchfefbolmlbaa
