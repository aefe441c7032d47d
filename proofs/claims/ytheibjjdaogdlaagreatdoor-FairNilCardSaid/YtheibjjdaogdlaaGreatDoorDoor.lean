/-
  math/bits.TrailingZeros64 over its table, which is a package's variable that is laid.
-/
import Derived.Test.YtheibjjdaogdlaaGreatDoorTab
import Derived.Test.YtheibjjdaogdlaaGreatDoorOv
namespace Go.Proofs.YtheibjjdaogdlaaGreatDoor
open Go Go.Tum

def tab64 : List Int := [0, 1, 56, 2, 57, 49, 28, 3, 61, 58, 42, 50, 38, 29, 17, 4, 62, 47, 59, 36, 45, 43, 51, 22, 53, 39, 33, 30, 24, 18, 12, 5, 63, 55, 48, 27, 60, 41, 37, 16, 46, 35, 44, 21, 52, 32, 23, 11, 54, 26, 40, 15, 34, 20, 31, 10, 25, 14, 19, 9, 13, 8, 7, 6]
/-- the table lies in the world -/
def TabIn (w : World) : Prop := ∀ (i : Nat) (x : Int), tab64[i]? = some x → w.cell? ⟨1, i, none⟩ = some (.int .u8 x)
def DoorH : HypW := fun X w => TabIn w ∧ ¬ X 1 ∧ 1 < w.heap.size

def tzJ (x : Int) : Int := (IntKind.u64.wrap (IntKind.u64.wrap (BitVec.ofInt 64 x &&& BitVec.ofInt 64 (IntKind.u64.wrap (0 - x))).toNat * 285870213051353865)).fdiv (2 ^ 58)
def tzV (x : Int) : Int := bif x == 0 then 64 else IntKind.i64.wrap (tab64.getD (tzJ x).toNat 0)

theorem tzJ_in (x : Int) : 0 ≤ tzJ x ∧ tzJ x < 64 := by
  unfold tzJ
  generalize IntKind.u64.wrap (BitVec.ofInt 64 x &&& BitVec.ofInt 64 (IntKind.u64.wrap (0 - x))).toNat * 285870213051353865 = y
  have h := IntKind.wrap_u64 y
  have h1 : 0 ≤ IntKind.u64.wrap y ∧ IntKind.u64.wrap y < 18446744073709551616 := by rw [h]; omega
  rw [Int.fdiv_eq_ediv_of_nonneg _ (by decide)]
  omega

theorem TZ_ok {w : World} (ht : TabIn w) (x : Int) : Does Tryz.prog 283 #[.int .u64 x] w fun v w' => v = .int .i64 (tzV x) ∧ w' = w := by
  have hj := tzJ_in x
  refine e_math_bits_TrailingZeros64 rfl ?_
  refine w_rs (s_end rfl (n_all ?_))
  refine w_rs (s_end rfl (n_all ?_))
  refine w_seq (w_if rfl (fun h => ?_) (fun h => ?_))
  · refine w_rs (s_end rfl (n_all (w_ret (RQ.one (t := 2) rfl (.inl rfl) rfl ⟨?_, rfl⟩))))
    simp only [tzV, h, cond_true]
  · refine w_skip (n_all ?_)
    obtain ⟨y, hy⟩ : ∃ y, tab64[(tzJ x).toNat]? = some y := ⟨_, List.getElem?_eq_getElem (show (tzJ x).toNat < 64 by omega)⟩
    refine w_rs (s_q (v := .int .u64 (IntKind.u64.wrap (0 - x))) rfl rfl (.inr ⟨.u64, x, rfl, rfl, rfl⟩) ?_)
    refine (s_bin (v := .int .u64 (IntKind.u64.wrap (BitVec.ofInt 64 x &&& BitVec.ofInt 64 (IntKind.u64.wrap (0 - x))).toNat)) rfl rfl rfl rfl rfl ?_)
    refine (s_bin (v := .int .u64 (IntKind.u64.wrap (IntKind.u64.wrap (BitVec.ofInt 64 x &&& BitVec.ofInt 64 (IntKind.u64.wrap (0 - x))).toNat * 285870213051353865))) rfl rfl rfl rfl rfl ?_)
    refine s_q (v := .int .u64 (tzJ x)) rfl rfl ⟨.u64, _, _, 58, rfl, rfl, by decide, rfl⟩ ?_
    refine s_q (v := .pointer (some ⟨1, 0 + (tzJ x).toNat * 1, none⟩)) rfl rfl ⟨_, .u64, tzJ x, rfl, rfl, hj.1, hj.2, by rw [add_none]⟩ ?_
    refine s_ld (v := .int .u8 y) rfl rfl rfl (by have := ht _ _ hy; simpa using this) ?_
    refine s_cvi (m := IntKind.i64.wrap y) rfl rfl rfl rfl (s_end rfl (n_all (w_ret (RQ.one (t := 2) rfl (.inl rfl) rfl ⟨?_, rfl⟩))))
    simp [tzV, h, hy]

/-- what is told of math/bits.TrailingZeros64 -/
def ovTZ : CallF := ovPure 283 fun vs => match vs with
  | [.int .u64 x] => some (.int .i64 (tzV x))
  | _ => none
theorem ovTZ_ok : CallOk DoorH Tryz.prog ovTZ := by
  refine ovPure_ok (by kernel_rfl) fun vs v h => ?_
  split at h <;> first | (cases h; done) | skip
  cases h
  refine ⟨rfl, fun E => rfl, fun X w0 w hH hf => (TZ_ok (w := w) (fun i x hx => ?_) _).mono fun v' w' ⟨h1, h2⟩ => ⟨h1, by subst h2; exact Fr.refl _ _⟩⟩
  rw [hf.cell hH.2.2 hH.2.1]
  exact hH.1 i x hx
end Go.Proofs.YtheibjjdaogdlaaGreatDoor
