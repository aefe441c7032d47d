/-
  The logic over named blocks: maps whose keys are whole numbers.
-/
import Derived.Test.YtnleiiniajinbaaLw9
namespace Go.Tum
open Go

theorem ikEq_self (k : IntKind) : ikEq k k = true := by simp [ikEq]
theorem mInt_back (k : IntKind) : ∀ mi : List (Int × Value × Nat), mInt k (mBack k mi) = some mi
  | [] => rfl
  | (a, v, b) :: r => by
    have := mInt_back k r
    simp only [mBack] at this
    simp only [mBack, List.map_cons, mInt, ikEq_self, cond_true, this]

section
variable {P : Program} {n0 : NA} {l : Env} {L : LH}
theorem lmapOf_at {x : Operand} {b c : Nat} {k : IntKind} {mi : List (Int × Value × Nat)} (hx : lv l x = some (.map (some b))) (hb : L[b]? = some (.map (mBack k mi) c)) : lmapOf L l k x = some (b, mi, c) := by
  simp only [lmapOf, hx, hb, mInt_back]
theorem QY.mget {o : Oper} {mT et : TypeId} {x y : Operand} {z v : Value} {b c : Nat} {k : IntKind} {mi : List (Int × Value × Nat)} {a : Int} (ho : o.op = .lookup mT x y false) (hk : keyKind P mT = some et) (hz : zeroOf P et = some z) (hs : still z = true)
    (hx : lv l x = some (.map (some b))) (hy : lv l y = some (.int k a)) (hb : L[b]? = some (.map (mBack k mi) c)) (hv : ((mfind mi a).map (·.2.1)).getD z = v) : QY P n0 L l (.raw o) v := by
  refine QY.of ?_
  show rawQ1 P L l o = _
  unfold rawQ1
  rw [ho]
  simp only [hk, hy, hz, lmapOf_at hx hb, hs, cond_true]
  cases hf : mfind mi a with
  | none => rw [hf] at hv; rw [← hv]; rfl
  | some e => rw [hf] at hv; rw [← hv]; rfl
theorem QY.mgetok {o : Oper} {mT et : TypeId} {x y : Operand} {z v : Value} {b c : Nat} {k : IntKind} {mi : List (Int × Value × Nat)} {a : Int} (ho : o.op = .lookup mT x y true) (hk : keyKind P mT = some et) (hz : zeroOf P et = some z) (hs : still z = true)
    (hx : lv l x = some (.map (some b))) (hy : lv l y = some (.int k a)) (hb : L[b]? = some (.map (mBack k mi) c)) (hv : .tuple ⟨[((mfind mi a).map (·.2.1)).getD z, .bool (mfind mi a).isSome]⟩ = v) : QY P n0 L l (.raw o) v := by
  refine QY.of ?_
  show rawQ1 P L l o = _
  unfold rawQ1
  rw [ho]
  simp only [hk, hy, hz, lmapOf_at hx hb, hs, cond_true]
  cases hf : mfind mi a with
  | none => rw [hf] at hv; rw [← hv]; rfl
  | some e => rw [hf] at hv; rw [← hv]; rfl
theorem EW.mput {o : Oper} {mT et : TypeId} {x y u : Operand} {v : Value} {b c : Nat} {k : IntKind} {mi : List (Int × Value × Nat)} {a : Int} (ho : o.op = .mapUpdate mT x y u) (hk : keyKind P mT = some et)
    (hx : lv l x = some (.map (some b))) (hy : lv l y = some (.int k a)) (hu : lv l u = some v) (hb : L[b]? = some (.map (mBack k mi) c)) (hw : wfB mi c = true) (hv : notTup v = true) :
    EW P n0 L l (.raw o) (fun w K => w = undef ∧ K = L.set b (.map (mBack k (mset mi a v c).1) (mset mi a v c).2)) := by
  refine EW.of ?_
  show rawE2 P L l o = _
  have h1 : rawE2 P L l o = rawE1 P L l o := by unfold rawE2; rw [ho]
  rw [h1]
  unfold rawE1
  rw [ho]
  simp only [hk, hy, hu, lmapOf_at hx hb, hw, hv, Bool.and_self, cond_true]
theorem EW.mdel {o : Oper} {mT kT et : TypeId} {x y : Operand} {b c : Nat} {k : IntKind} {mi : List (Int × Value × Nat)} {a : Int} (ho : o.op = .call ⟨.builtin .delete, ⟨[x, y]⟩, ⟨[mT, kT]⟩⟩) (hk : keyKind P mT = some et)
    (hx : lv l x = some (.map (some b))) (hy : lv l y = some (.int k a)) (hb : L[b]? = some (.map (mBack k mi) c)) (hw : wfB mi c = true) :
    EW P n0 L l (.raw o) (fun w K => w = .tuple #[] ∧ K = L.set b (.map (mBack k (mdel mi a)) c)) := by
  refine EW.of ?_
  show rawE2 P L l o = _
  have h1 : rawE2 P L l o = rawE1 P L l o := by unfold rawE2; rw [ho]
  rw [h1]
  unfold rawE1
  rw [ho]
  simp only [hk, hy, lmapOf_at hx hb, hw, cond_true]
theorem EW.mmake {o : Oper} {mT : TypeId} (k : IntKind) (ho : o.op = .makeMap mT none) : EW P n0 L l (.raw o) (fun w K => w = .map (some L.length) ∧ K = L ++ [.map (mBack k []) 0]) := by
  refine EW.of ?_
  show rawE2 P L l o = _
  have h1 : rawE2 P L l o = rawE1 P L l o := by unfold rawE2; rw [ho]
  rw [h1]
  unfold rawE1
  rw [ho]
  rfl
end
end Go.Tum
