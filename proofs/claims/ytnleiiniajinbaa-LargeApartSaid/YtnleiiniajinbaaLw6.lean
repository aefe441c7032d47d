/-
  The logic over named blocks: arrays.
-/
import Derived.Test.YtnleiiniajinbaaLw5
namespace Go.Tum
open Go

section
variable {P : Program} {n0 : NA} {l : Env} {L : LH}
theorem QY.idxa {x i : Operand} {b o n sz : Nat} {kd : IntKind} {j : Int} (hx : lv l x = some (.pointer (some ⟨b, o, none⟩))) (hi : lv l i = some (.int kd j)) (h0 : 0 ≤ j) (h1 : j < (n : Int)) : QY P n0 L l (.idxa x i n sz) (.pointer (some ⟨b, o + j.toNat * sz, none⟩)) := by
  intro X w0 E0 w E l' _ hE hR hl
  obtain ⟨_, g1, a', rfl, _, r, g3, rfl⟩ := lv_ev hl hx
  obtain ⟨_, g5, rfl⟩ := lv_ev hl hi
  refine ⟨_, ⟨_, kd, j, g1, g5, h0, h1, rfl⟩, _, rfl, ?_⟩
  have := AR.add (a := ⟨b, o, none⟩) (E := E) ⟨rfl, r, g3, rfl⟩ (j.toNat * sz)
  rwa [add_none] at this
theorem QY.idxaN {x i : Operand} {b n sz k : Nat} {kd : IntKind} (hx : lv l x = some (.pointer (some ⟨b, 0, none⟩))) (hi : lv l i = some (.int kd (k : Int))) (h1 : k < n) : QY P n0 L l (.idxa x i n sz) (.pointer (some ⟨b, k * sz, none⟩)) := by
  have := QY.idxa (P := P) (n0 := n0) (L := L) (sz := sz) (n := n) hx hi (by omega) (by omega)
  simpa using this
/-- a block that was made whole: a row of fixed length -/
theorem wk_new {b : Nat} {vs : List Value} (sz : Nat) (hb : L[b]? = some (.cells 0 vs)) (hne : vs ≠ []) (hsz : 0 < sz) (hs : vs.all stillS = true) : ∀ X w0 E w, Rep X w0 E L w → Rep X w0 E (L.set b (.gro sz vs)) w := by
  intro X w0 E w hR
  obtain ⟨r, hr⟩ := hR.ent hb
  obtain ⟨cs, hB, hl2, hroom, hz⟩ := hR.blk b _ r hb hr
  have h0 := hz rfl
  refine hR.upd hb hr (Fr.refl _ w) (.inr ⟨hne, hsz, cs, hB, L2.eq_still hs hl2, ?_⟩) (by rw [gro_foot hne]; exact fun _ h => .inl h)
  rw [h0] at hroom ⊢
  simpa using hroom
/-- an array of single cells: how many -/
def arrT (P : Program) (t : TypeId) : Option Nat := match P.underlying t with
  | some (.array n e) => match P.info? e with
    | some ie => bif scalarT P e && Nat.beq ie.size 1 then some n else none
    | none => none
  | _ => none
theorem QY.index {o : Oper} {aT : TypeId} {x i : Operand} {vs : List Value} {v : Value} {n : Nat} {kd : IntKind} {j : Int} (ho : o.op = .index aT x i) (ht : arrT P aT = some n) (hx : lv l x = some (.agg ⟨vs⟩)) (hi : lv l i = some (.int kd j)) (h0 : 0 ≤ j) (h1 : j < (n : Int)) (hv : vs[j.toNat]? = some v) : QY P n0 L l (.raw o) v := by
  intro X w0 E0 w E l' _ hE hR hl
  unfold arrT at ht
  split at ht
  rotate_left
  · cases ht
  rename_i n' e hu
  split at ht
  rotate_left
  · cases ht
  rename_i ie he
  cases hc : (scalarT P e && Nat.beq ie.size 1)
  · rw [hc] at ht; cases ht
  rw [hc] at ht; cases ht
  rw [Bool.and_eq_true] at hc
  have h1s := Nat.eq_of_beq_eq_true hc.2
  obtain ⟨_, g1, vs', rfl, g2⟩ := lv_ev hl hx
  obtain ⟨_, g5, rfl⟩ := lv_ev hl hi
  obtain ⟨v', g3, g4⟩ := g2.get hv
  refine ⟨v', fun ρ w1 ha _ => ?_, g4.vr⟩
  obtain ⟨d, op, ty, pos, af, g⟩ := o
  simp only at ho
  subst ho
  have hp := part_scalar (P := P) (w := w1) (cs := ⟨vs'⟩) hc.1 (by simpa using g3)
  simp only [execOp, ha x _ g1, ha i _ g5, Instr.index]
  have h01 : 0 ≤ j ∧ j < (n : Int) := ⟨h0, h1⟩
  simp only [asIntOf, Sem.run_bind, Sem.run_pure, Result.andThen_ok, run_underlying hu, if_pos h01, sizeOf_run he, h1s, Nat.mul_one, hp]
/-! ### a part of a row -/
theorem lslc_rows {α : Type} {g : α → List Value} {sz : Nat} {b o i m c : Nat} {ys : List α} (h : RowOk g sz) (hb : L[b]? = some (.gro sz (rowsC g ys))) (ho : o = i * sz) (hm : i + m ≤ ys.length) (hz : 0 < sz) : lslc L sz (.slice (some ⟨b, o, none⟩) m c) = some (rowsC g ((ys.drop i).take m)) := by
  subst ho
  cases m with
  | zero => simp [lslc, rowsC]
  | succ m =>
    have hle : (i + (m + 1)) * sz ≤ ys.length * sz := Nat.mul_le_mul_right _ hm
    have hpos : 0 < (m + 1) * sz := Nat.mul_pos (by omega) hz
    rw [Nat.add_mul] at hle
    have hlen := rowsC_length h ys
    have h1 : Nat.ble (i * sz + (m + 1) * sz) (rowsC g ys).length = true := Nat.ble_eq_true_of_le (by omega)
    have h2 : (rowsC g ys).isEmpty = false := by
      cases hq : rowsC g ys with
      | nil => rw [hq] at hlen; simp at hlen; omega
      | cons => rfl
    have h3 : ((rowsC g ys).drop (i * sz)).take ((m + 1) * sz) = rowsC g ((ys.drop i).take (m + 1)) := by rw [rowsC_drop h, rowsC_take h]
    have h4 := rowsC_still h ((ys.drop i).take (m + 1))
    simp only [lslc, lcells, hb, h1, h2, h3, h4, Bool.and_self, Bool.not_false, cond_true]
theorem EW.appRS {α : Type} {g : α → List Value} {sz : Nat} {o : Oper} {s x : Operand} {sT xT : TypeId} {bytes b n bx ox i m cx : Nat} {xs ys : List α} (h : RowOk g sz) (ho : o.op = .call ⟨.builtin .append, ⟨[s, x]⟩, ⟨[sT, xT]⟩⟩) (ht : appT P sT xT = some (sz, bytes)) (hs : lv l s = some (.slice (some ⟨b, 0, none⟩) n n)) (hx : lv l x = some (.slice (some ⟨bx, ox, none⟩) m cx))
    (hb : L[b]? = some (.gro sz (rowsC g xs))) (hbx : L[bx]? = some (.gro sz (rowsC g ys))) (hox : ox = i * sz) (hn : xs.length = n) (hm : i + m ≤ ys.length) (hz : 0 < sz) (hbd : (2 * (n + m) + 2048) * bytes ≤ 281474976710656) :
    EW P n0 L l (.raw o) (fun v K => v = .slice (some ⟨L.length, 0, none⟩) (n + m) (n + m) ∧ K = L.set b .dead ++ [.gro sz (rowsC g (xs ++ (ys.drop i).take m))]) := by
  rw [rowsC_append]
  exact EW.appg ho ht hs hx hb (by rw [rowsC_length h, hn]) (rowsC_still h xs) (lslc_rows h hbx hox hm hz) (rowsC_still h _) hbd
end
end Go.Tum
