/-
  Layers 1, 3, 5, 6, plainly: classes, words as bytes, the mix, parts of an arena.
-/
import Derived.Test.YtnleiiniajinbaaLw11
namespace Go.Tum.Base
open Go Go.Tum

theorem VT2 {k : IntKind} {a c : Int} {b d : Bool} (h1 : a = c) (h2 : b = d) : Value.tuple ⟨[.int k a, .bool b]⟩ = Value.tuple ⟨[.int k c, .bool d]⟩ := by rw [h1, h2]

/-! ### classes -/
def sizeC (c : Int) : Int := if c = 0 then 16 else if c = 1 then 32 else if c = 2 then 64 else if c = 3 then 128 else 0
def pagesC (n : Int) : Int := if n ≤ 120 ∨ n > 4096 then 0 else (n + 263) / 256
def greatC (n : Int) : Bool := decide (¬ (n ≤ 120 ∨ n > 4096))

/-! ### the mix -/
def mixW (x : BitVec 64) : BitVec 64 :=
  let a := (x ^^^ x >>> 30) * 0xBF58476D1CE4E5B9#64
  let b := (a ^^^ a >>> 27) * 0x94D049BB133111EB#64
  b ^^^ b >>> 31
def keyW (seed : BitVec 64) : BitVec 64 := mixW (seed + 0x9E3779B97F4A7C15#64)
def canW (key : BitVec 64) (at_ : Int) : BitVec 64 := mixW (key ^^^ BitVec.ofInt 64 at_)

/-! ### words as bytes -/
abbrev Bytes := List (BitVec 8)
def byteAt (v : BitVec 64) (k : Nat) : BitVec 8 := (v >>> (8 * k)).setWidth 8
def putB (v : BitVec 64) : Nat → Bytes
  | 0 => []
  | k + 1 => putB v k ++ [byteAt v k]
theorem putB_length (v : BitVec 64) : ∀ k, (putB v k).length = k
  | 0 => rfl
  | k + 1 => by simp [putB, putB_length v k]
theorem putB_get (v : BitVec 64) : ∀ (n k : Nat), k < n → (putB v n)[k]? = some (byteAt v k)
  | n + 1, k, h => by
    rw [putB]
    by_cases e : k = n
    · subst e
      have := putB_length v k
      rw [List.getElem?_append_right (by omega), this]; simp
    · have := putB_length v n
      rw [List.getElem?_append_left (by omega), putB_get v n k (by omega)]
def getF (bs : Bytes) : Nat → BitVec 64
  | 0 => 0
  | k + 1 => getF bs k ||| ((bs.getD k 0).setWidth 64 <<< (8 * k))
def getW (bs : Bytes) : BitVec 64 := getF bs (min bs.length 8)
theorem getF_put (v : BitVec 64) : ∀ k, k ≤ 8 → ∀ i, i < 64 → (getF (putB v 8) k).getLsbD i = (decide (i < 8 * k) && v.getLsbD i)
  | 0, _, i, _ => by simp [getF]
  | k + 1, hk, i, hi => by
    have hg : (putB v 8).getD k 0 = byteAt v k := by rw [List.getD_eq_getElem?_getD, putB_get v 8 k (by omega)]; rfl
    rw [getF, BitVec.getLsbD_or, getF_put v k (by omega) i hi, hg, BitVec.getLsbD_shiftLeft, byteAt, BitVec.getLsbD_setWidth, BitVec.getLsbD_setWidth, BitVec.getLsbD_ushiftRight]
    by_cases h1 : i < 8 * k
    · simp [h1, show i < 8 * (k + 1) by omega]
    · by_cases h2 : i < 8 * (k + 1)
      · have e : 8 * k + (i - 8 * k) = i := by omega
        simp [h1, h2, hi, e, show i - 8 * k < 64 by omega, show i - 8 * k < 8 by omega]
      · simp [h1, h2, show ¬ i - 8 * k < 8 by omega]
theorem getW_put (v : BitVec 64) : getW (putB v 8) = v := by
  apply BitVec.eq_of_getLsbD_eq
  intro i hi
  have : min (putB v 8).length 8 = 8 := by rw [putB_length]; rfl
  rw [getW, this, getF_put v 8 (Nat.le_refl _) i hi]
  simp [show i < 8 * 8 by omega]

/-! ### parts of an arena -/
def errIn (n : Nat) (at_ k : Int) : Int := if at_ < 0 ∨ k < 0 ∨ k > n ∨ at_ > n - k then 3 else 0
def errW (n : Nat) (at_ : Int) : Int := if at_ < 0 ∨ 8 > (n : Int) ∨ at_ > n - 8 then 3 else if at_ % 8 ≠ 0 then 1 else 0
def partB (bs : Bytes) (i m : Nat) : Bytes := (bs.drop i).take m
def overB (bs : Bytes) (i : Nat) (ys : Bytes) : Bytes := bs.take i ++ ys ++ bs.drop (i + ys.length)
theorem overB_length {bs : Bytes} {i : Nat} {ys : Bytes} (h : i + ys.length ≤ bs.length) : (overB bs i ys).length = bs.length := by simp [overB]; omega
theorem partB_length {bs : Bytes} {i m : Nat} (h : i + m ≤ bs.length) : (partB bs i m).length = m := by simp [partB]; omega
theorem overB_get {bs : Bytes} {i : Nat} {ys : Bytes} (h : i + ys.length ≤ bs.length) (k : Nat) : (overB bs i ys)[k]? = if i ≤ k ∧ k < i + ys.length then ys[k - i]? else bs[k]? := by
  unfold overB
  by_cases h1 : k < i
  · rw [if_neg (by omega), List.append_assoc, List.getElem?_append_left (by simp; omega), List.getElem?_take, if_pos h1]
  · by_cases h2 : k < i + ys.length
    · rw [if_pos (by omega), List.append_assoc, List.getElem?_append_right (by simp; omega), List.getElem?_append_left (by simp; omega)]
      congr 1; simp; omega
    · rw [if_neg (by omega), List.getElem?_append_right (by simp; omega), List.getElem?_drop]
      congr 1; simp; omega
theorem partB_over_same {bs : Bytes} {i : Nat} {ys : Bytes} (h : i + ys.length ≤ bs.length) : partB (overB bs i ys) i ys.length = ys := by
  apply List.ext_getElem?
  intro k
  rw [partB, List.getElem?_take, List.getElem?_drop, overB_get h]
  by_cases hk : k < ys.length
  · rw [if_pos hk, if_pos (by omega)]; congr 1; omega
  · rw [if_neg hk, List.getElem?_eq_none (by omega)]
theorem partB_over_other {bs : Bytes} {i : Nat} {ys : Bytes} (h : i + ys.length ≤ bs.length) {j m : Nat} (hd : j + m ≤ i ∨ i + ys.length ≤ j) : partB (overB bs i ys) j m = partB bs j m := by
  apply List.ext_getElem?
  intro k
  rw [partB, partB, List.getElem?_take, List.getElem?_take, List.getElem?_drop, List.getElem?_drop, overB_get h]
  by_cases hk : k < m
  · rw [if_pos hk, if_pos hk, if_neg (by omega)]
  · rw [if_neg hk, if_neg hk]
theorem overB_nil (bs : Bytes) (i : Nat) : overB bs i [] = bs := by simp [overB]
theorem overB_snoc {bs : Bytes} {i : Nat} {ys : Bytes} (y : BitVec 8) (h : i + ys.length < bs.length) : (overB bs i ys).set (i + ys.length) y = overB bs i (ys ++ [y]) := by
  apply List.ext_getElem?
  intro k
  rw [List.getElem?_set, overB_get (bs := bs) (ys := ys) (by omega), overB_get (bs := bs) (ys := ys ++ [y]) (by rw [List.length_append, List.length_singleton]; omega), overB_length (by omega), List.length_append, List.length_singleton]
  by_cases h1 : i + ys.length = k
  · subst h1
    rw [if_pos rfl, if_pos h, if_pos (by omega), List.getElem?_append_right (by omega)]; simp
  · rw [if_neg h1]
    by_cases h2 : i ≤ k ∧ k < i + ys.length
    · rw [if_pos h2, if_pos (by omega), List.getElem?_append_left (by omega)]
    · rw [if_neg h2, if_neg (by omega)]
theorem overB_copy (bs : Bytes) (i : Nat) (ys : Bytes) {sn dn : Nat} (hs : sn = ys.length) (hd : sn ≤ dn) : bs.take i ++ (ys.drop 0).take (min sn dn) ++ bs.drop (i + min sn dn) = overB bs i ys := by
  rw [Nat.min_eq_left hd, hs, List.drop_zero, List.take_length, overB]
theorem errIn_ok {n i m : Nat} (h : i + m ≤ n) : errIn n i m = 0 := by unfold errIn; rw [if_neg (by omega)]
theorem errW_ok {n i : Nat} (h : i + 8 ≤ n) (h8 : i % 8 = 0) : errW n i = 0 := by unfold errW; rw [if_neg (by omega), if_neg (by omega)]
theorem errIn_nat {n : Nat} {a k : Int} (h : errIn n a k = 0) : ∃ i m : Nat, a = i ∧ k = m ∧ i + m ≤ n := by
  unfold errIn at h
  split at h
  · cases h
  · exact ⟨a.toNat, k.toNat, by omega, by omega, by omega⟩
theorem errW_nat {n : Nat} {a : Int} (h : errW n a = 0) : ∃ i : Nat, a = i ∧ i + 8 ≤ n ∧ i % 8 = 0 := by
  unfold errW at h
  split at h
  · cases h
  · split at h
    · cases h
    · exact ⟨a.toNat, by omega, by omega, by omega⟩
theorem errW_in (n : Nat) (a : Int) : errW n a = if errIn n a 8 ≠ 0 then 3 else if a % 8 ≠ 0 then 1 else 0 := by
  by_cases h : a < 0 ∨ 8 > (n : Int) ∨ a > (n : Int) - 8
  · have e : errIn n a 8 = 3 := by unfold errIn; rw [if_pos (by omega)]
    rw [e, errW, if_pos h, if_pos (by decide)]
  · have e : errIn n a 8 = 0 := by unfold errIn; rw [if_neg (by omega)]
    rw [e, errW, if_neg h]; simp
/-- the word at a place -/
def wordB (bs : Bytes) (i : Nat) : BitVec 64 := getW (partB bs i 8)
theorem wordB_set {bs : Bytes} {i : Nat} (h : i + 8 ≤ bs.length) (v : BitVec 64) : wordB (overB bs i (putB v 8)) i = v := by
  have := partB_over_same (bs := bs) (i := i) (ys := putB v 8) (by rw [putB_length]; exact h)
  rw [putB_length] at this
  rw [wordB, this, getW_put]
theorem wordB_other {bs : Bytes} {i : Nat} {ys : Bytes} (h : i + ys.length ≤ bs.length) {j : Nat} (hd : j + 8 ≤ i ∨ i + ys.length ≤ j) : wordB (overB bs i ys) j = wordB bs j := by
  rw [wordB, partB_over_other h hd]; rfl
end Go.Tum.Base
