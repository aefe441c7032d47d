/-
  class: how many pages a great block has, whatever its size.
-/
import Derived.Test.YtbpfcmefpangbaaTab
import Derived.Test.YtbpfcmefpangbaaOv
namespace Go.Proofs.Ytbpfcmefpangbaa
open Go Go.Tum

def pagesOf (n : Int) : Int := if n ≤ 120 ∨ 4096 < n then 0 else (n + 263).tdiv 256
def pagesB (n : Int) : Bool := if n ≤ 120 ∨ 4096 < n then false else true

theorem Room3 (w : World) : Does Try.prog 64 #[.int .i64 3] w fun v w' => v = .int .i64 120 ∧ Fr (fun _ => False) w w' :=
  closed_call (vs := [.int .i64 3]) (fuel := 200) rows_ok (rawQ1_ok _) (rawE2_ok _) rfl rfl rfl (by kernel_rfl) w

theorem Pages_ok (w : World) (n : Int) : Does Try.prog 37 #[.int .i64 n] w fun v w' => v = .tuple #[.int .i64 (pagesOf n), .bool (pagesB n)] ∧ Fr (fun _ => False) w w' := by
  refine e_class_Pages rfl ?_
  refine w_rs (s_end rfl (n_all ?_))
  refine w_rs (s_call rfl rfl rfl (Room3 w) ?_)
  rintro _ w1 ⟨rfl, hf⟩
  refine ⟨trivial, s_split 7 rfl rfl rfl (fun h => ?_) (fun h => ?_)⟩
  · have hn : n ≤ 120 := of_decide_eq_true h
    refine s_end rfl (n_all (w_true rfl (w_rs (s_end rfl (n_all ?_)))))
    refine w_ret (RQ.two (t := 2) (u := 3) rfl (.inl rfl) rfl rfl ⟨?_, hf⟩)
    simp [pagesOf, pagesB, hn]
  · have hn : ¬ n ≤ 120 := of_decide_eq_false h
    refine s_end rfl (n_all (w_if rfl (fun h4 => ?_) (fun h4 => ?_)))
    · have h4 : 4096 < n := of_decide_eq_true h4
      refine w_rs (s_end rfl (n_all (w_ret (RQ.two (t := 2) (u := 3) rfl (.inl rfl) rfl rfl ⟨?_, hf⟩))))
      simp [pagesOf, pagesB, h4]
    · have h4 : ¬ 4096 < n := of_decide_eq_false h4
      refine w_skip (n_all ?_)
      refine w_rs (s_add (c := n + 8) rfl rfl rfl rfl rfl (by omega) (by omega) (s_add (c := n + 264) rfl rfl rfl rfl (by omega) (by omega) (by omega) (s_sub (c := n + 263) rfl rfl rfl rfl (by omega) (by omega) (by omega) ?_)))
      have hq : (n + 263).tdiv 256 = (n + 263) / 256 := Int.tdiv_eq_ediv_of_nonneg (by omega)
      refine s_bin (v := .int .i64 ((n + 263).tdiv 256)) rfl rfl rfl rfl ?_ (s_end rfl (n_all (w_ret (RQ.two (t := 2) (u := 3) rfl (.inl rfl) rfl rfl ⟨?_, hf⟩))))
      · simp only [ibin]
        rw [if_neg (by decide), wrap64_id (by rw [hq]; omega) (by rw [hq]; omega)]
      · have : ¬ (n ≤ 120 ∨ 4096 < n) := by omega
        simp [pagesOf, pagesB, this]

/-- what is told of class.Pages -/
def ovPages : CallF := ovPure 37 fun vs => match vs with
  | [.int .i64 n] => some (.tuple #[.int .i64 (pagesOf n), .bool (pagesB n)])
  | _ => none
theorem ovPages_ok (H : HypW) : CallOk H Try.prog ovPages := by
  refine ovPure_ok (by kernel_rfl) fun vs v h => ?_
  split at h <;> first | (cases h; done) | skip
  cases h
  exact ⟨rfl, fun E => ⟨_, rfl, rfl, rfl, trivial⟩, fun _ _ w _ _ => Pages_ok w _⟩
end Go.Proofs.Ytbpfcmefpangbaa
