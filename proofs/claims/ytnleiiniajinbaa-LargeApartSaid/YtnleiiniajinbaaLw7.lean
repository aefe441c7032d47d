/-
  The logic over named blocks: masks.
-/
import Derived.Test.YtnleiiniajinbaaObj
namespace Go.Tum
open Go

theorem ofInt_and_mask {n : Nat} (a : Int) {m : Nat} (hm : 2 ^ (m + 1).log2 = m + 1) (hn : (m + 1).log2 < n) : ((BitVec.ofInt n a &&& BitVec.ofInt n m).toNat : Int) = a % ((m : Int) + 1) := by
  obtain ⟨k, hk⟩ : ∃ k, k = (m + 1).log2 := ⟨_, rfl⟩
  rw [← hk] at hm hn
  have hlt : 2 ^ k < 2 ^ n := Nat.pow_lt_pow_right (by omega) hn
  have e1 : (BitVec.ofInt n (m : Int)).toNat = m := by
    rw [BitVec.toNat_ofInt, ← Int.natCast_emod, Int.toNat_natCast, Nat.mod_eq_of_lt (by omega)]
  have e2 : m = 2 ^ k - 1 := by omega
  rw [BitVec.toNat_and, e1, e2, Nat.and_two_pow_sub_one_eq_mod, BitVec.toNat_ofInt]
  have e3 : ((2 ^ k - 1 : Nat) : Int) + 1 = ((2 ^ k : Nat) : Int) := by omega
  rw [e3, Int.natCast_emod, Int.toNat_of_nonneg (Int.emod_nonneg _ (by have := Nat.two_pow_pos n; omega))]
  have hd : (2 ^ k : Nat) ∣ (2 ^ n : Nat) := Nat.pow_dvd_pow 2 (by omega)
  exact Int.emod_emod_of_dvd a (Int.natCast_dvd_natCast.2 hd)

section
variable {P : Program} {n0 : NA} {l : Env} {L : LH}
/-- & with 2^k - 1 -/
theorem QY.mask {x y : Operand} {a c : Int} {m : Nat} (hx : lv l x = some (.int .i64 a)) (hy : lv l y = some (.int .i64 (m : Int))) (hm : 2 ^ (m + 1).log2 = m + 1 ∧ (m + 1).log2 < 63) (hc : a % ((m : Int) + 1) = c) : QY P n0 L l (.bin .and x y) (.int .i64 c) := by
  subst hc
  refine QY.arith hx hy ?_ rfl
  simp only [ibin]
  have h := ofInt_and_mask (n := 64) a hm.1 (by omega)
  have h2 : (m : Int) + 1 ≤ 9223372036854775808 := by
    have : 2 ^ (m + 1).log2 < 2 ^ 63 := Nat.pow_lt_pow_right (by omega) hm.2
    omega
  have h3 := Int.emod_lt_of_pos a (show 0 < (m : Int) + 1 by omega)
  have h4 := Int.emod_nonneg a (show (m : Int) + 1 ≠ 0 by omega)
  show some (Value.int .i64 (IntKind.i64.wrap (((BitVec.ofInt 64 a &&& BitVec.ofInt 64 (m : Int)).toNat : Nat) : Int))) = _
  rw [h, wrap64_id (by omega) (by omega)]
/-- rows that came in, of a type -/
theorem QY.rowT {α : Type} {g : α → List Value} {x : Operand} {k o n sz j i : Nat} {f : Nat → List Value} {op : Nat → α} (hop : ∀ i, i < n → f i = g (op i)) (h : RowOk g sz) (hx : lv l x = some (.pointer (some ⟨k, o, none⟩))) (hA : n0.A[j]? = some (k, n * sz, rowG sz f)) (ho : o = i * sz) (hi : i < n) : QY P n0 L l (.ldn x sz) (.agg ⟨g (op i)⟩) := by
  have e := hop i hi
  rw [← e]
  exact QY.rowA i hx hA ho hi (by rw [e]; exact h.len _) (by rw [e]; exact h.still _)
end
end Go.Tum
