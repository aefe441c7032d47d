/-
  The logic over named blocks: words and bytes as rows of bits.
-/
import Derived.Test.YtnleiiniajinbaaLw7
namespace Go.Tum
open Go

def wordC (x : BitVec 64) : List Value := [.int .u64 (x.toNat : Int)]
theorem wordC_ok : RowOk wordC 1 := ⟨fun _ => rfl, fun _ => rfl⟩
def byteC (x : BitVec 8) : List Value := [.int .u8 (x.toNat : Int)]
theorem byteC_ok : RowOk byteC 1 := ⟨fun _ => rfl, fun _ => rfl⟩

theorem wrap_u64 (n : Int) : IntKind.u64.wrap n = ((BitVec.ofInt 64 n).toNat : Int) := by
  rw [BitVec.toNat_ofInt, Int.toNat_of_nonneg (Int.emod_nonneg _ (by decide))]
  rfl
theorem wrap_u8 (n : Int) : IntKind.u8.wrap n = ((BitVec.ofInt 8 n).toNat : Int) := by
  rw [BitVec.toNat_ofInt, Int.toNat_of_nonneg (Int.emod_nonneg _ (by decide))]
  rfl
theorem ofInt_toNat {n : Nat} (x : BitVec n) : BitVec.ofInt n (x.toNat : Int) = x := by
  rw [BitVec.ofInt_natCast, BitVec.ofNat_toNat, BitVec.setWidth_eq]
theorem wrap_u64_w (x : BitVec 64) : IntKind.u64.wrap (x.toNat : Int) = (x.toNat : Int) := by rw [wrap_u64, ofInt_toNat]
theorem wrap_u8_w (x : BitVec 8) : IntKind.u8.wrap (x.toNat : Int) = (x.toNat : Int) := by rw [wrap_u8, ofInt_toNat]

section
variable {P : Program} {n0 : NA} {l : Env} {L : LH} {x y : Operand}

theorem QY.xorW {a b : BitVec 64} (hx : lv l x = some (.int .u64 (a.toNat : Int))) (hy : lv l y = some (.int .u64 (b.toNat : Int))) : QY P n0 L l (.bin .xor x y) (.int .u64 ((a ^^^ b).toNat : Int)) :=
  QY.arith hx hy (by simp only [ibin]; rw [show IntKind.u64.bits = 64 from rfl, ofInt_toNat, ofInt_toNat, wrap_u64_w]) rfl
theorem QY.orW {a b : BitVec 64} (hx : lv l x = some (.int .u64 (a.toNat : Int))) (hy : lv l y = some (.int .u64 (b.toNat : Int))) : QY P n0 L l (.bin .or x y) (.int .u64 ((a ||| b).toNat : Int)) :=
  QY.arith hx hy (by simp only [ibin]; rw [show IntKind.u64.bits = 64 from rfl, ofInt_toNat, ofInt_toNat, wrap_u64_w]) rfl
theorem QY.andW {a b : BitVec 64} (hx : lv l x = some (.int .u64 (a.toNat : Int))) (hy : lv l y = some (.int .u64 (b.toNat : Int))) : QY P n0 L l (.bin .and x y) (.int .u64 ((a &&& b).toNat : Int)) :=
  QY.arith hx hy (by simp only [ibin]; rw [show IntKind.u64.bits = 64 from rfl, ofInt_toNat, ofInt_toNat, wrap_u64_w]) rfl
theorem QY.andNotW {a b : BitVec 64} (hx : lv l x = some (.int .u64 (a.toNat : Int))) (hy : lv l y = some (.int .u64 (b.toNat : Int))) : QY P n0 L l (.bin .andNot x y) (.int .u64 ((a &&& ~~~ b).toNat : Int)) :=
  QY.arith hx hy (by simp only [ibin]; rw [show IntKind.u64.bits = 64 from rfl, ofInt_toNat, ofInt_toNat, wrap_u64_w]) rfl
theorem QY.addW {a b : BitVec 64} (hx : lv l x = some (.int .u64 (a.toNat : Int))) (hy : lv l y = some (.int .u64 (b.toNat : Int))) : QY P n0 L l (.bin .add x y) (.int .u64 ((a + b).toNat : Int)) :=
  QY.arith hx hy (by simp only [ibin]; rw [wrap_u64, BitVec.ofInt_add, ofInt_toNat, ofInt_toNat]) rfl
theorem QY.mulW {a b : BitVec 64} (hx : lv l x = some (.int .u64 (a.toNat : Int))) (hy : lv l y = some (.int .u64 (b.toNat : Int))) : QY P n0 L l (.bin .mul x y) (.int .u64 ((a * b).toNat : Int)) :=
  QY.arith hx hy (by simp only [ibin]; rw [wrap_u64, BitVec.ofInt_mul, ofInt_toNat, ofInt_toNat]) rfl
theorem ishift_shr (a : BitVec 64) (n : Nat) : ishift false .u64 (a.toNat : Int) (n : Int) = ((a >>> n).toNat : Int) := by
  simp only [ishift]
  rw [BitVec.toNat_ushiftRight, Nat.shiftRight_eq_div_pow, Int.toNat_natCast]
  have h64 : IntKind.u64.bits = 64 := rfl
  rw [h64, Int.fdiv_eq_ediv_of_nonneg _ (Int.pow_nonneg (by decide))]
  have e : ((2 : Int) ^ min n 64) = ((2 ^ min n 64 : Nat) : Int) := by norm_cast
  rw [e, ← Int.natCast_ediv]
  rcases Nat.le_total n 64 with h | h
  · rw [Nat.min_eq_left h]
  · rw [Nat.min_eq_right h, Nat.div_eq_of_lt a.isLt, Nat.div_eq_of_lt (Nat.lt_of_lt_of_le a.isLt (Nat.pow_le_pow_right (by decide) h))]
theorem ishift_shl (a : BitVec 64) (n : Nat) : ishift true .u64 (a.toNat : Int) (n : Int) = ((a <<< n).toNat : Int) := by
  simp only [ishift]
  rw [wrap_u64, Int.toNat_natCast, show IntKind.u64.bits = 64 from rfl]
  congr 2
  have e : ((a.toNat : Int) * 2 ^ min n 64) = ((a.toNat * 2 ^ min n 64 : Nat) : Int) := by norm_cast
  rw [e, BitVec.ofInt_natCast]
  apply BitVec.eq_of_toNat_eq
  rw [BitVec.toNat_ofNat, BitVec.toNat_shiftLeft, Nat.shiftLeft_eq]
  rcases Nat.le_total n 64 with h | h
  · rw [Nat.min_eq_left h]
  · rw [Nat.min_eq_right h]
    have h1 : 2 ^ n = 2 ^ 64 * 2 ^ (n - 64) := by rw [← Nat.pow_add]; congr 1; omega
    rw [h1, Nat.mul_mod_left, ← Nat.mul_assoc, Nat.mul_right_comm, Nat.mul_mod_left]
theorem QY.shrW {a : BitVec 64} {n : Nat} {k' : IntKind} (hx : lv l x = some (.int .u64 (a.toNat : Int))) (hy : lv l y = some (.int k' (n : Int))) : QY P n0 L l (.sh false x y) (.int .u64 ((a >>> n).toNat : Int)) :=
  QY.shift hx hy (by omega) (ishift_shr a n)
theorem QY.shlW {a : BitVec 64} {n : Nat} {k' : IntKind} (hx : lv l x = some (.int .u64 (a.toNat : Int))) (hy : lv l y = some (.int k' (n : Int))) : QY P n0 L l (.sh true x y) (.int .u64 ((a <<< n).toNat : Int)) :=
  QY.shift hx hy (by omega) (ishift_shl a n)

/-! ### conversions -/
theorem QY.cvi {k k' : IntKind} {n m : Int} (hx : lv l x = some (.int k' n)) (hm : k.wrap n = m) : QY P n0 L l (.cvi k x) (.int k m) := by
  intro X w0 E0 w E l' h0 hE hR hl
  obtain ⟨_, h1, rfl⟩ := lv_ev hl hx
  exact ⟨_, ⟨k', n, h1, rfl⟩, by rw [hm]; rfl⟩
theorem QY.cvWB {a : BitVec 64} (hx : lv l x = some (.int .u64 (a.toNat : Int))) : QY P n0 L l (.cvi .u8 x) (.int .u8 ((a.setWidth 8).toNat : Int)) :=
  QY.cvi hx (by rw [wrap_u8, BitVec.ofInt_natCast, BitVec.ofNat_toNat])
theorem QY.cvBW {a : BitVec 8} (hx : lv l x = some (.int .u8 (a.toNat : Int))) : QY P n0 L l (.cvi .u64 x) (.int .u64 ((a.setWidth 64).toNat : Int)) :=
  QY.cvi hx (by rw [wrap_u64, BitVec.ofInt_natCast, BitVec.ofNat_toNat])
theorem QY.cvIW {a : Int} (hx : lv l x = some (.int .i64 a)) : QY P n0 L l (.cvi .u64 x) (.int .u64 ((BitVec.ofInt 64 a).toNat : Int)) :=
  QY.cvi hx (wrap_u64 a)
theorem wrap_i64 (n : Int) : IntKind.i64.wrap n = (BitVec.ofInt 64 n).toInt := by
  have h1 : ((BitVec.ofInt 64 n).toNat : Int) = n % 18446744073709551616 := by rw [← wrap_u64]; rfl
  rw [BitVec.toInt_eq_toNat_cond, h1]
  have h2 : IntKind.i64.wrap n = if n % 18446744073709551616 ≥ 9223372036854775808 then n % 18446744073709551616 - 18446744073709551616 else n % 18446744073709551616 := by
    simp [IntKind.wrap, IntKind.signed, IntKind.bits]
  rw [h2]
  have h3 : ((2 ^ 64 : Nat) : Int) = 18446744073709551616 := by decide
  rw [h3]
  by_cases h : n % 18446744073709551616 ≥ 9223372036854775808
  · rw [if_pos h, if_neg (by omega)]
  · rw [if_neg h, if_pos (by omega)]
theorem QY.cvWI {a : BitVec 64} (hx : lv l x = some (.int .u64 (a.toNat : Int))) : QY P n0 L l (.cvi .i64 x) (.int .i64 a.toInt) :=
  QY.cvi hx (by rw [wrap_i64, ofInt_toNat])

/-! ### whole numbers that are not below 0 -/
theorem QY.divN {a b c : Int} (hx : lv l x = some (.int .i64 a)) (hy : lv l y = some (.int .i64 b)) (hc : a / b = c) (ha : 0 ≤ a ∧ a ≤ 9223372036854775807) (hb : 0 < b) : QY P n0 L l (.bin .quo x y) (.int .i64 c) := by
  have h1 : a / b ≤ a := Int.ediv_le_self _ ha.1
  have h2 : 0 ≤ a / b := Int.ediv_nonneg ha.1 (by omega)
  exact QY.quo hx hy (by omega) (by rw [← hc, Int.tdiv_eq_ediv_of_nonneg ha.1]) (by omega) (by omega)
theorem QY.remN {a b c : Int} (hx : lv l x = some (.int .i64 a)) (hy : lv l y = some (.int .i64 b)) (hc : a % b = c) (ha : 0 ≤ a) (hb : 0 < b) : QY P n0 L l (.bin .rem x y) (.int .i64 c) :=
  QY.rem hx hy (by omega) (by rw [← hc, Int.tmod_eq_emod_of_nonneg ha])

/-! ### rows of words and bytes -/
theorem QY.ldW {b k : Nat} {xs : List (BitVec 64)} {a : BitVec 64} (hx : lv l x = some (.pointer (some ⟨b, k * 1, none⟩))) (hb : L[b]? = some (.gro 1 (rowsC wordC xs))) (hk : xs[k]? = some a) : QY P n0 L l (.ld x) (.int .u64 (a.toNat : Int)) :=
  QY.ldF (j := 0) wordC_ok hx hb hk rfl rfl
theorem QY.ldY {b k : Nat} {xs : List (BitVec 8)} {a : BitVec 8} (hx : lv l x = some (.pointer (some ⟨b, k * 1, none⟩))) (hb : L[b]? = some (.gro 1 (rowsC byteC xs))) (hk : xs[k]? = some a) : QY P n0 L l (.ld x) (.int .u8 (a.toNat : Int)) :=
  QY.ldF (j := 0) byteC_ok hx hb hk rfl rfl
theorem EW.stW {b k : Nat} {xs : List (BitVec 64)} {a : BitVec 64} (hx : lv l x = some (.pointer (some ⟨b, k * 1, none⟩))) (hy : lv l y = some (.int .u64 (a.toNat : Int))) (hb : L[b]? = some (.gro 1 (rowsC wordC xs))) (hk : k < xs.length) :
    EW P n0 L l (.st x y) (fun w K => w = undef ∧ K = L.set b (.gro 1 (rowsC wordC (xs.set k a)))) :=
  EW.stF (j := 0) (a' := a) wordC_ok hx hy hb (List.getElem?_eq_getElem hk) (by omega) rfl rfl
theorem EW.stY {b k : Nat} {xs : List (BitVec 8)} {a : BitVec 8} (hx : lv l x = some (.pointer (some ⟨b, k * 1, none⟩))) (hy : lv l y = some (.int .u8 (a.toNat : Int))) (hb : L[b]? = some (.gro 1 (rowsC byteC xs))) (hk : k < xs.length) :
    EW P n0 L l (.st x y) (fun w K => w = undef ∧ K = L.set b (.gro 1 (rowsC byteC (xs.set k a)))) :=
  EW.stF (j := 0) (a' := a) byteC_ok hx hy hb (List.getElem?_eq_getElem hk) (by omega) rfl rfl
end
end Go.Tum
