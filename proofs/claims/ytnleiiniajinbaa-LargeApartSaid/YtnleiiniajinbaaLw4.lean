/-
  The logic over named blocks: typed rows, truths by their meaning, appends to empty rows, returns.
-/
import Derived.Test.YtnleiiniajinbaaLw3
namespace Go.Tum
open Go

/-! ### typed rows -/
section
variable {α : Type} {g : α → List Value} {sz : Nat}
def rowsC (g : α → List Value) : List α → List Value
  | [] => []
  | x :: r => g x ++ rowsC g r
structure RowOk (g : α → List Value) (sz : Nat) : Prop where
  len : ∀ x, (g x).length = sz
  still : ∀ x, (g x).all stillS = true
theorem rowsC_length (h : RowOk g sz) : ∀ l, (rowsC g l).length = l.length * sz
  | [] => by simp [rowsC]
  | x :: r => by simp only [rowsC, List.length_append, h.len, rowsC_length h r, List.length_cons, Nat.add_mul]; omega
theorem rowsC_still (h : RowOk g sz) : ∀ l, (rowsC g l).all stillS = true
  | [] => rfl
  | x :: r => by simp only [rowsC, List.all_append, h.still, rowsC_still h r, Bool.and_self]
theorem rowsC_append : ∀ a b, rowsC g (a ++ b) = rowsC g a ++ rowsC g b
  | [], b => rfl
  | x :: r, b => by simp only [List.cons_append, rowsC, rowsC_append r b, List.append_assoc]
theorem rowsC_one (x : α) : rowsC g [x] = g x := by simp [rowsC]
theorem rowsC_drop (h : RowOk g sz) : ∀ (l : List α) (k : Nat), (rowsC g l).drop (k * sz) = rowsC g (l.drop k)
  | l, 0 => by simp
  | [], k + 1 => by simp [rowsC]
  | x :: r, k + 1 => by
    have e : (k + 1) * sz = (g x).length + k * sz := by rw [h.len, Nat.add_mul]; omega
    rw [rowsC, e, List.drop_append, List.drop_of_length_le (by omega), Nat.add_sub_cancel_left, List.nil_append, List.drop_succ_cons, rowsC_drop h r k]
theorem rowsC_take (h : RowOk g sz) : ∀ (l : List α) (k : Nat), (rowsC g l).take (k * sz) = rowsC g (l.take k)
  | l, 0 => by simp [rowsC]
  | [], k + 1 => by simp [rowsC]
  | x :: r, k + 1 => by
    have e : (k + 1) * sz = (g x).length + k * sz := by rw [h.len, Nat.add_mul]; omega
    rw [rowsC, e, List.take_append, List.take_of_length_le (by omega), Nat.add_sub_cancel_left, List.take_succ_cons, rowsC, rowsC_take h r k]
theorem rowsC_get (h : RowOk g sz) {l : List α} {k : Nat} {x : α} (hx : l[k]? = some x) : ((rowsC g l).drop (k * sz)).take sz = g x := by
  have hk := (List.getElem?_eq_some_iff.1 hx).1
  have e : l[k] = x := by rw [List.getElem?_eq_getElem hk] at hx; exact Option.some.inj hx
  rw [rowsC_drop h, List.drop_eq_getElem_cons hk, rowsC, e, ← h.len x, List.take_left]
theorem rowsC_cell (h : RowOk g sz) {l : List α} {k j : Nat} {x : α} (hx : l[k]? = some x) (hj : j < sz) : (rowsC g l)[k * sz + j]? = (g x)[j]? := by
  have := congrArg (fun l => l[j]?) (rowsC_get h hx)
  simpa [hj] using this
theorem rowsC_set (h : RowOk g sz) {l : List α} {k : Nat} (x : α) (hk : k < l.length) : splice (rowsC g l) (k * sz) (g x) = rowsC g (l.set k x) := by
  have e : k * sz + (g x).length = (k + 1) * sz := by rw [h.len, Nat.add_mul]; omega
  rw [splice, e, rowsC_take h, rowsC_drop h]
  have e2 : l.set k x = l.take k ++ x :: l.drop (k + 1) := List.set_eq_take_append_cons_drop .. |>.trans (by rw [if_pos hk])
  rw [e2, rowsC_append]
  simp [rowsC]
theorem rowsC_setF (h : RowOk g sz) {l : List α} {k j : Nat} {x y : α} {u : Value} (hx : l[k]? = some x) (hj : j < sz) (hy : g y = (g x).set j u) : (rowsC g l).set (k * sz + j) u = rowsC g (l.set k y) := by
  have hk := (List.getElem?_eq_some_iff.1 hx).1
  rw [← rowsC_set h y hk, hy]
  have e := rowsC_get h hx
  have hlen : (rowsC g l).length = l.length * sz := rowsC_length h l
  have hle : (k + 1) * sz ≤ l.length * sz := Nat.mul_le_mul_right _ hk
  rw [Nat.add_mul, Nat.one_mul] at hle
  apply List.ext_getElem?
  intro i
  rw [List.getElem?_set, splice, List.length_set, h.len]
  by_cases h1 : i < k * sz
  · rw [if_neg (by omega), List.append_assoc, List.getElem?_append_left (by simp; omega), List.getElem?_take, if_pos h1]
  · by_cases h2 : i < k * sz + sz
    · rw [List.append_assoc, List.getElem?_append_right (by simp; omega), List.getElem?_append_left (by simp [h.len]; omega), List.getElem?_set]
      simp only [List.length_take, hlen, h.len]
      rw [Nat.min_eq_left (by omega)]
      by_cases h3 : k * sz + j = i
      · rw [if_pos h3, if_pos (by omega), if_pos (by omega), if_pos (by omega)]
      · rw [if_neg h3, if_neg (by omega)]
        have := rowsC_cell h hx (j := i - k * sz) (by omega)
        rw [← this]; congr 1; omega
    · rw [if_neg (by omega), List.getElem?_append_right (by simp [h.len]; omega)]
      simp only [List.length_append, List.length_take, List.length_set, hlen, h.len, List.getElem?_drop]
      rw [Nat.min_eq_left (by omega)]
      congr 1; omega
end

/-- whole numbers, one a cell -/
def intC (x : Int) : List Value := [.int .i64 x]
theorem intC_ok : RowOk intC 1 := ⟨fun _ => rfl, fun _ => rfl⟩
def boolC (x : Bool) : List Value := [.bool x]
theorem boolC_ok : RowOk boolC 1 := ⟨fun _ => rfl, fun _ => rfl⟩
theorem repC_rows {α : Type} {g : α → List Value} (x : α) : ∀ n, repC n (g x) = rowsC g (List.replicate n x)
  | 0 => rfl
  | n + 1 => by simp only [repC, List.replicate_succ, rowsC, repC_rows x n]

section
variable {P : Program} {n0 : NA} {Q : Exit → Env → LH → Prop} {l : Env} {L : LH} {K : Env → LH → Prop}
variable {α : Type} {g : α → List Value} {sz : Nat}

theorem QY.idxN {x i : Operand} {b n c k : Nat} {kd : IntKind} (hx : lv l x = some (.slice (some ⟨b, 0, none⟩) n c)) (hi : lv l i = some (.int kd (k : Int))) (h1 : k < n) : QY P n0 L l (.idx x i sz) (.pointer (some ⟨b, k * sz, none⟩)) := by
  have := QY.idx (P := P) (n0 := n0) (L := L) (size := sz) hx hi (by omega) (by omega)
  simpa using this
theorem QY.ldRow {x : Operand} {b k : Nat} {xs : List α} {a : α} (h : RowOk g sz) (hx : lv l x = some (.pointer (some ⟨b, k * sz, none⟩))) (hb : L[b]? = some (.gro sz (rowsC g xs))) (hk : xs[k]? = some a) (hz : 0 < sz) : QY P n0 L l (.ldn x sz) (.agg ⟨g a⟩) := by
  have hlt := (List.getElem?_eq_some_iff.1 hk).1
  have hle : (k + 1) * sz ≤ xs.length * sz := Nat.mul_le_mul_right _ hlt
  rw [Nat.add_mul, Nat.one_mul] at hle
  exact QY.ldng hx hb (by rw [rowsC_length h]; omega) hz (rowsC_get h hk) (h.still a)
/-- one cell of a row -/
theorem QY.ldF {x : Operand} {b k j : Nat} {xs : List α} {a : α} {u : Value} (h : RowOk g sz) (hx : lv l x = some (.pointer (some ⟨b, k * sz + j, none⟩))) (hb : L[b]? = some (.gro sz (rowsC g xs))) (hk : xs[k]? = some a) (hu : (g a)[j]? = some u) (hs : stillS u = true) : QY P n0 L l (.ld x) u := by
  have hj : j < sz := by rw [← h.len a]; exact (List.getElem?_eq_some_iff.1 hu).1
  exact QY.ldg hx hb (by rw [rowsC_cell h hk hj]; exact hu) hs
theorem QY.ldI {x : Operand} {b k : Nat} {xs : List Int} {a : Int} (hx : lv l x = some (.pointer (some ⟨b, k * 1, none⟩))) (hb : L[b]? = some (.gro 1 (rowsC intC xs))) (hk : xs[k]? = some a) : QY P n0 L l (.ld x) (.int .i64 a) :=
  QY.ldF (j := 0) intC_ok hx hb hk rfl rfl
theorem QY.ldB {x : Operand} {b k : Nat} {xs : List Bool} {a : Bool} (hx : lv l x = some (.pointer (some ⟨b, k * 1, none⟩))) (hb : L[b]? = some (.gro 1 (rowsC boolC xs))) (hk : xs[k]? = some a) : QY P n0 L l (.ld x) (.bool a) :=
  QY.ldF (j := 0) boolC_ok hx hb hk rfl rfl
theorem EW.stRow {x y : Operand} {b k : Nat} {xs : List α} {a : α} (h : RowOk g sz) (hx : lv l x = some (.pointer (some ⟨b, k * sz, none⟩))) (hy : lv l y = some (.agg ⟨g a⟩)) (hb : L[b]? = some (.gro sz (rowsC g xs))) (hk : k < xs.length) (hz : 0 < sz) :
    EW P n0 L l (.stn x y sz) (fun w K => w = undef ∧ K = L.set b (.gro sz (rowsC g (xs.set k a)))) := by
  have hle : (k + 1) * sz ≤ xs.length * sz := Nat.mul_le_mul_right _ hk
  rw [Nat.add_mul, Nat.one_mul] at hle
  have := EW.stng (P := P) (n0 := n0) hx hy (h.len a) hb (h.still a) (by rw [rowsC_length h]; omega) hz
  rwa [rowsC_set h a hk] at this
theorem EW.stF {x y : Operand} {b k j : Nat} {xs : List α} {a a' : α} {u : Value} (h : RowOk g sz) (hx : lv l x = some (.pointer (some ⟨b, k * sz + j, none⟩))) (hy : lv l y = some u) (hb : L[b]? = some (.gro sz (rowsC g xs))) (hk : xs[k]? = some a) (hj : j < sz) (hu : stillS u = true) (ha : g a' = (g a).set j u) :
    EW P n0 L l (.st x y) (fun w K => w = undef ∧ K = L.set b (.gro sz (rowsC g (xs.set k a')))) := by
  have hlt := (List.getElem?_eq_some_iff.1 hk).1
  have hle : (k + 1) * sz ≤ xs.length * sz := Nat.mul_le_mul_right _ hlt
  rw [Nat.add_mul, Nat.one_mul] at hle
  have := EW.stg (P := P) (n0 := n0) hx hy hb hu (by rw [rowsC_length h]; omega)
  rwa [rowsC_setF h hk hj ha] at this
theorem EW.stI {x y : Operand} {b k : Nat} {xs : List Int} {a : Int} (hx : lv l x = some (.pointer (some ⟨b, k * 1, none⟩))) (hy : lv l y = some (.int .i64 a)) (hb : L[b]? = some (.gro 1 (rowsC intC xs))) (hk : k < xs.length) :
    EW P n0 L l (.st x y) (fun w K => w = undef ∧ K = L.set b (.gro 1 (rowsC intC (xs.set k a)))) :=
  EW.stF (j := 0) (a' := a) intC_ok hx hy hb (List.getElem?_eq_getElem hk) (by omega) rfl rfl
theorem EW.stB {x y : Operand} {b k : Nat} {xs : List Bool} {a : Bool} (hx : lv l x = some (.pointer (some ⟨b, k * 1, none⟩))) (hy : lv l y = some (.bool a)) (hb : L[b]? = some (.gro 1 (rowsC boolC xs))) (hk : k < xs.length) :
    EW P n0 L l (.st x y) (fun w K => w = undef ∧ K = L.set b (.gro 1 (rowsC boolC (xs.set k a)))) :=
  EW.stF (j := 0) (a' := a) boolC_ok hx hy hb (List.getElem?_eq_getElem hk) (by omega) rfl rfl

/-! ### truths, by their meaning -/
theorem bD {p : Prop} [Decidable p] : decide p = true ↔ p := decide_eq_true_iff
theorem bE {a b : Int} : (a == b) = true ↔ a = b := beq_iff_eq
theorem bN {a b : Int} : (a != b) = true ↔ a ≠ b := bne_iff_ne
theorem bNot {b : Bool} {p : Prop} (h : b = true ↔ p) : (!b) = true ↔ ¬ p := by rw [← h]; cases b <;> simp
theorem bV {b : Bool} : b = true ↔ b = true := Iff.rfl
theorem bNB {a b : Bool} : (a != b) = true ↔ a ≠ b := bne_iff_ne
theorem bEB {a b : Bool} : (a == b) = true ↔ a = b := beq_iff_eq

theorem L_ifp {c : Operand} {x y : MC} {t : Bool} {p : Prop} (hc : lv l c = some (.bool t)) (hp : t = true ↔ p) (ht : p → LWp P n0 x Q (knows c true l) L) (hf : ¬ p → LWp P n0 y Q (knows c false l) L) : LWp P n0 (.cond c x y) Q l L :=
  L_if hc (fun e => ht (hp.1 e)) (fun e => hf fun h => by rw [hp.2 h] at e; cases e)
theorem S_splitp (s : Nat) {b : Bool} {p : Prop} {ss ss1 : List Step} {l1 : Env} {T T1 : Taken} {L1 : LH} (h0 : arun [s] ss l T L = (ss1, l1, T1, L1)) (hh : headGuard ss1 = some s) (hb : eget l1 s = some (.bool b)) (hp : b = true ↔ p)
    (ht : p → LSt P n0 ss1 K ((s, .bool true) :: l1) T1 L1) (hf : ¬ p → LSt P n0 ss1 K ((s, .bool false) :: l1) T1 L1) : LSt P n0 ss K l T L :=
  S_split s h0 hh hb (fun e => ht (hp.1 e)) (fun e => hf fun h => by rw [hp.2 h] at e; cases e)
theorem S_splitT (s : Nat) {b : Bool} {ss ss1 : List Step} {l1 : Env} {T T1 : Taken} {L1 : LH} (h0 : arun [s] ss l T L = (ss1, l1, T1, L1)) (hh : headGuard ss1 = some s) (hb : eget l1 s = some (.bool b)) (hp : b = true)
    (ht : LSt P n0 ss1 K ((s, .bool true) :: l1) T1 L1) : LSt P n0 ss K l T L :=
  S_split s h0 hh hb (fun _ => ht) (fun e => by rw [hp] at e; cases e)
theorem S_splitF (s : Nat) {b : Bool} {ss ss1 : List Step} {l1 : Env} {T T1 : Taken} {L1 : LH} (h0 : arun [s] ss l T L = (ss1, l1, T1, L1)) (hh : headGuard ss1 = some s) (hb : eget l1 s = some (.bool b)) (hp : b = false)
    (ht : LSt P n0 ss1 K ((s, .bool false) :: l1) T1 L1) : LSt P n0 ss K l T L :=
  S_split s h0 hh hb (fun e => by rw [hp] at e; cases e) (fun _ => ht)
theorem QY.pickp {c a b : Operand} {t : Bool} {x y : Bool} (hc : lv l c = some (.bool t)) (ha : lv l a = some (.bool x)) (hb : lv l b = some (.bool y)) : QY P n0 L l (.pick c a b) (.bool (if t then x else y)) := by
  intro X w0 E0 w E l' h0 hE hR hl
  obtain ⟨_, h1, h2⟩ := lv_ev hl hc
  obtain ⟨_, h3, h4⟩ := lv_ev hl ha
  obtain ⟨_, h5, h6⟩ := lv_ev hl hb
  have h2 : _ = Value.bool t := h2
  have h4 : _ = Value.bool x := h4
  have h6 : _ = Value.bool y := h6
  subst h2; subst h4; subst h6
  refine ⟨.bool (if t then x else y), ⟨t, h1, ?_⟩, rfl⟩
  cases t
  · exact h5
  · exact h3

/-! ### equal values -/
def boolT (P : Program) (t : TypeId) : Bool := match P.underlying t with
  | some .bool => !P.eqGuardType P.depth t
  | _ => false
theorem leqv_bool {t : TypeId} {a b : Bool} (h : boolT P t = true) : leqv P 20 t (.bool a) (.bool b) = some (a == b) ∧ P.eqGuardType P.depth t = false := by
  unfold boolT at h
  split at h
  · rename_i hu
    simp only [Bool.not_eq_true'] at h
    exact ⟨by simp only [leqv, hu], h⟩
  · cases h
theorem QY.neqB {o : Oper} {t ty : TypeId} {x y : Operand} {a b : Bool} (ho : o.op = .binOp .neq t x y ty) (ht : boolT P t = true) (hx : lv l x = some (.bool a)) (hy : lv l y = some (.bool b)) : QY P n0 L l (.raw o) (.bool (a != b)) := by
  refine QY.of ?_
  obtain ⟨h1, h2⟩ := leqv_bool (a := a) (b := b) ht
  show rawQ1 P L l o = _
  unfold rawQ1
  rw [ho]
  show rawQ0 P L l o = _
  unfold rawQ0
  rw [ho]
  simp only [hx, hy, noInt, h1, h2, Bool.not_false, Bool.and_self, cond_true]
  rfl
theorem QY.eqlB {o : Oper} {t ty : TypeId} {x y : Operand} {a b : Bool} (ho : o.op = .binOp .eql t x y ty) (ht : boolT P t = true) (hx : lv l x = some (.bool a)) (hy : lv l y = some (.bool b)) : QY P n0 L l (.raw o) (.bool (a == b)) := by
  refine QY.of ?_
  obtain ⟨h1, h2⟩ := leqv_bool (a := a) (b := b) ht
  show rawQ1 P L l o = _
  unfold rawQ1
  rw [ho]
  show rawQ0 P L l o = _
  unfold rawQ0
  rw [ho]
  simp only [hx, hy, noInt, h1, h2, Bool.not_false, Bool.and_self, cond_true]

/-- equality of flat structs: one truth a field -/
def leqs (P : Program) (xs ys : List Value) : List Field → Option (List Bool)
  | [] => some []
  | f :: fs => bif decide (f.name = "_") then none else match P.underlying f.type, xs[f.offset]?, ys[f.offset]? with
    | some .bool, some (.bool a), some (.bool b) => match leqs P xs ys fs with
      | some r => some ((a == b) :: r)
      | none => none
    | some (.int _), some (.int k a), some (.int k' b) => bif ikEq k k' then (match leqs P xs ys fs with
      | some r => some ((a == b) :: r)
      | none => none) else none
    | _, _, _ => none
theorem leqs_ok {xs ys : List Value} : ∀ {fs : List Field} {bs : List Bool}, leqs P xs ys fs = some bs → leqf P (leqv P 19) xs ys fs = some (bs.all id)
  | [], bs, h => by cases h; rfl
  | f :: fs, bs, h => by
    simp only [leqs] at h
    simp only [leqf]
    cases hn : decide (f.name = "_")
    rotate_left
    · rw [hn] at h; cases h
    rw [hn] at h
    simp only [cond_false] at h ⊢
    have key : ∀ (a b : Value) (r : Bool) (bs' : List Bool), xs[f.offset]? = some a → ys[f.offset]? = some b → scalarT P f.type = true → leqv P 19 f.type a b = some r → leqs P xs ys fs = some bs' →
        (match lpart P f.type xs f.offset, lpart P f.type ys f.offset with
          | some a, some b => match leqv P 19 f.type a b with
            | some true => leqf P (leqv P 19) xs ys fs
            | some false => some false
            | none => none
          | _, _ => none) = some ((r :: bs').all id) := by
      intro a b r bs' h1 h2 h3 h4 h5
      simp only [lpart, h3, cond_true, h1, h2, h4]
      cases r
      · rfl
      · rw [leqs_ok h5]; rfl
    split at h <;> first | (cases h; done) | skip
    · rename_i a b hu hx hy
      split at h <;> cases h
      rename_i r hr
      exact key _ _ _ _ hx hy (by simp [scalarT, hu]) (by simp only [leqv, hu]) hr
    · rename_i k k' a k'' b hu hx hy
      cases hk : ikEq k' k''
      · rw [hk] at h; cases h
      rw [hk] at h
      simp only [cond_true] at h
      split at h <;> cases h
      rename_i r hr
      exact key _ _ _ _ hx hy (by simp [scalarT, hu]) (by simp only [leqv, hu, hk, cond_true]) hr
def structT (P : Program) (t : TypeId) (xs ys : List Value) : Option (List Bool) := match P.underlying t with
  | some (.struct fs) => bif !P.stoodInHeld t && !P.eqGuardType P.depth t then leqs P xs ys fs.toList else none
  | _ => none
theorem structT_ok {t : TypeId} {xs ys : List Value} {bs : List Bool} (h : structT P t xs ys = some bs) : leqv P 20 t (.agg ⟨xs⟩) (.agg ⟨ys⟩) = some (bs.all id) ∧ P.eqGuardType P.depth t = false := by
  unfold structT at h
  split at h
  · rename_i fs hu
    cases hc : (!P.stoodInHeld t && !P.eqGuardType P.depth t)
    · rw [hc] at h; cases h
    rw [hc] at h
    simp only [Bool.and_eq_true, Bool.not_eq_true'] at hc
    exact ⟨by simp only [leqv, hu, hc.1, cond_false]; exact leqs_ok h, hc.2⟩
  · cases h
theorem QY.neqS {o : Oper} {t ty : TypeId} {x y : Operand} {xs ys : List Value} {bs : List Bool} (ho : o.op = .binOp .neq t x y ty) (hx : lv l x = some (.agg ⟨xs⟩)) (hy : lv l y = some (.agg ⟨ys⟩)) (ht : structT P t xs ys = some bs) : QY P n0 L l (.raw o) (.bool (!(bs.all id))) := by
  refine QY.of ?_
  obtain ⟨h1, h2⟩ := structT_ok ht
  show rawQ1 P L l o = _
  unfold rawQ1
  rw [ho]
  show rawQ0 P L l o = _
  unfold rawQ0
  rw [ho]
  simp only [hx, hy, noInt, h1, h2, Bool.not_false, Bool.and_self, cond_true]
theorem QY.eqlS {o : Oper} {t ty : TypeId} {x y : Operand} {xs ys : List Value} {bs : List Bool} (ho : o.op = .binOp .eql t x y ty) (hx : lv l x = some (.agg ⟨xs⟩)) (hy : lv l y = some (.agg ⟨ys⟩)) (ht : structT P t xs ys = some bs) : QY P n0 L l (.raw o) (.bool (bs.all id)) := by
  refine QY.of ?_
  obtain ⟨h1, h2⟩ := structT_ok ht
  show rawQ1 P L l o = _
  unfold rawQ1
  rw [ho]
  show rawQ0 P L l o = _
  unfold rawQ0
  rw [ho]
  simp only [hx, hy, noInt, h1, h2, Bool.not_false, Bool.and_self, cond_true]

/-! ### what is appended -/
theorem lslc_gro {b m c : Nat} {us : List Value} (hb : L[b]? = some (.gro sz us)) (hm : us.length = m * sz) (hs : us.all stillS = true) (hz : 0 < sz) : lslc L sz (.slice (some ⟨b, 0, none⟩) m c) = some us := by
  cases m with
  | zero =>
    have : us = [] := List.length_eq_zero_iff.1 (by simpa using hm)
    subst this; rfl
  | succ m =>
    have h1 : Nat.ble (0 + (m + 1) * sz) us.length = true := Nat.ble_eq_true_of_le (by omega)
    have h2 : us.isEmpty = false := by
      cases us with
      | nil => have : 0 < (m + 1) * sz := Nat.mul_pos (by omega) hz
               simp at hm; omega
      | cons => rfl
    have h3 : (us.drop 0).take ((m + 1) * sz) = us := by rw [List.drop_zero, ← hm, List.take_length]
    simp only [lslc, lcells, hb, h1, h2, h3, hs, Bool.and_self, Bool.not_false, cond_true]
/-- rows to rows -/
theorem EW.appRR {o : Oper} {s x : Operand} {sT xT : TypeId} {bytes b n bx m cx : Nat} {xs ys : List α} (h : RowOk g sz) (ho : o.op = .call ⟨.builtin .append, ⟨[s, x]⟩, ⟨[sT, xT]⟩⟩) (ht : appT P sT xT = some (sz, bytes)) (hs : lv l s = some (.slice (some ⟨b, 0, none⟩) n n)) (hx : lv l x = some (.slice (some ⟨bx, 0, none⟩) m cx))
    (hb : L[b]? = some (.gro sz (rowsC g xs))) (hbx : L[bx]? = some (.gro sz (rowsC g ys))) (hn : xs.length = n) (hm : ys.length = m) (hz : 0 < sz) (hbd : (2 * (n + m) + 2048) * bytes ≤ 281474976710656) :
    EW P n0 L l (.raw o) (fun v K => v = .slice (some ⟨L.length, 0, none⟩) (n + m) (n + m) ∧ K = L.set b .dead ++ [.gro sz (rowsC g (xs ++ ys))]) := by
  rw [rowsC_append]
  exact EW.appg ho ht hs hx hb (by rw [rowsC_length h, hn]) (rowsC_still h xs) (lslc_gro hbx (by rw [rowsC_length h, hm]) (rowsC_still h ys) hz) (rowsC_still h ys) hbd
/-- one more -/
theorem EW.appR1 {o : Oper} {s x : Operand} {sT xT : TypeId} {bytes b n bx : Nat} {xs : List α} {a : α} (h : RowOk g sz) (ho : o.op = .call ⟨.builtin .append, ⟨[s, x]⟩, ⟨[sT, xT]⟩⟩) (ht : appT P sT xT = some (sz, bytes)) (hs : lv l s = some (.slice (some ⟨b, 0, none⟩) n n)) (hx : lv l x = some (.slice (some ⟨bx, 0, none⟩) 1 1))
    (hb : L[b]? = some (.gro sz (rowsC g xs))) (hbx : L[bx]? = some (.cells 0 (g a))) (hn : xs.length = n) (hbd : (2 * (n + 1) + 2048) * bytes ≤ 281474976710656) :
    EW P n0 L l (.raw o) (fun v K => v = .slice (some ⟨L.length, 0, none⟩) (n + 1) (n + 1) ∧ K = L.set b .dead ++ [.gro sz (rowsC g (xs ++ [a]))]) := by
  rw [rowsC_append, rowsC_one]
  refine EW.appg ho ht hs hx hb (by rw [rowsC_length h, hn]) (rowsC_still h xs) ?_ (h.still a) hbd
  have h1 : Nat.ble (0 + (0 + 1) * sz) (g a).length = true := Nat.ble_eq_true_of_le (by rw [h.len]; omega)
  have h3 : ((g a).drop 0).take ((0 + 1) * sz) = g a := by rw [List.drop_zero, List.take_of_length_le]; rw [h.len]; omega
  simp only [lslc, lcells, hbx, h1, h3, cond_true]
theorem S_wk {ss ss1 : List Step} {l1 : Env} {T T1 : Taken} {L1 L2 : LH} (st : List Nat) (h : arun st ss l T L = (ss1, l1, T1, L1)) (hw : ∀ X w0 E w, Rep X w0 E L1 w → Rep X w0 E L2 w) (hn : LSt P n0 ss1 K l1 T1 L2) : LSt P n0 ss K l T L :=
  arun_ok st ss l T L h ⟨fun X w0 E0 w E l' F h0 hE hR hl hT => hn.go X w0 E0 w E l' F h0 hE (hw _ _ _ _ hR) hl hT⟩

/-! ### ends -/
theorem Nx.goL {b : MC} (h : LWp P n0 b Q l L) : Nx n0 (LWp P n0 b Q) l L := Nx.go h
theorem seqN_keep : ∀ (ks : List Nat) (n : Nat), (ks.all fun k => Nat.blt k n) = true → keepOk (seqN 0 n) ks = true
  | [], _, _ => rfl
  | k :: ks, n, h => by
    simp only [List.all_cons, Bool.and_eq_true] at h
    have hk : k < n := Nat.le_of_ble_eq_true h.1
    simp only [keepOk, seqN_get n 0 k hk, Nat.zero_add, Nat.beq_refl, seqN_keep ks n h.2, Bool.and_self]
/-- the names that were handed stay, and no others -/
theorem RetQ.keep {res : List RV} {R : Value → LH → Prop} {us : List Value} {v : Value} {L1 : LH} (h : lres l L res = some us) (h0 : (n0.keep.all fun k => Nat.blt k n0.n) = true) (h1 : letGoV (seqN 0 n0.n) L (lret us) = some v) (h2 : letGo (seqN 0 n0.n) L = some L1) (hr : R v L1) : RetQ n0 res R .ret l L :=
  RetQ.pick (seqN 0 n0.n) h (seqN_keep _ _ h0) h1 h2 hr (by rw [seqN_length]; exact Nat.ble_eq_true_of_le (Nat.le_refl _))
theorem RetQ.keepN {res : List RV} {R : Value → LH → Prop} {us : List Value} {v : Value} {L1 : LH} (h : lres l L res = some us) (h0 : (n0.keep.all fun k => Nat.blt k n0.n) = true) (h1 : letGoV (seqN 0 n0.n) L (lret us) = some v) (h2 : letGo (seqN 0 n0.n) L = some L1) (hr : R v L1) : RetQ n0 res R .normal l L :=
  RetQ.end (seqN 0 n0.n) h (seqN_keep _ _ h0) h1 h2 hr (by rw [seqN_length]; exact Nat.ble_eq_true_of_le (Nat.le_refl _))
/-- a call whose answer and blocks are told, behind which an object's inner blocks may be other ones -/
theorem EWd.callF {keep : List Nat} {f : FuncId} {args : List Operand} {vs us : List Value} {Lc L1 K2 : LH} {v1 v2 : Value} (φ : List Nat) (ht : TrK P [] keep f us Lc (fun v K => v = v1 ∧ K = L1)) (hv : lvs l args = some vs) (he : us.map (rnV L.length φ) = vs) (hn : φ.Nodup) (hp : partL L φ φ Lc) (hm : nmL (dropped keep 0 φ) φ 0 L = true)
    (h2 : rnV (L.length + L1.length) (phi2 φ L.length L1) v1 = v2) (hK : joinL φ L L1 = K2) : EWd P n0 φ (dropped keep 0 φ) L l (.call f args) (fun v K => v = v2 ∧ K = K2) :=
  (EWd.call φ ht hv he (Part.of hn hp) handed_nil hm).mono fun v K ⟨v', L', ⟨h3, h4⟩, h5, h6⟩ => by subst h3; subst h4; exact ⟨h5.trans h2, h6.trans hK⟩
end

def fNp {β : Sort _} : Nat → (Nat → β) → β
  | 0, k => k 0
  | n + 1, k => k (n + 1)
theorem fNp_eq {β : Sort _} (n : Nat) (k : Nat → β) : fNp n k = k n := by cases n <;> rfl

/-! ### calls that change nothing -/
theorem rn0_still {v : Value} {N : Nat} {φ : List Nat} (h : stillS v = true) : rn0 N φ v = v := by
  cases v <;> first | rfl | skip
  case pointer a => cases a <;> first | rfl | cases h
  case slice a _ _ => cases a <;> first | rfl | cases h
  case map a => cases a <;> first | rfl | cases h
theorem rnS_still {v : Value} {N : Nat} {φ : List Nat} (h : stillS v = true) : rnS N φ v = v := by
  unfold rnS
  split
  · rename_i f a c
    simp only [stillS, Bool.and_eq_true] at h
    have h1 : a = [] := by cases a with
      | nil => rfl
      | cons => cases h.1
    have h2 : c = [] := by cases c with
      | nil => rfl
      | cons => cases h.2
    subst h1; subst h2; rfl
  · exact rn0_still h
theorem rn1_still {v : Value} {N : Nat} {φ : List Nat} (h : still v = true) : rn1 N φ v = v := by
  unfold rn1
  split
  · rename_i cs
    have h : cs.all stillS = true := h
    congr 2
    exact List.map_congr_left (g := id) (fun a ha => rnS_still (List.all_eq_true.1 h a ha)) |>.trans (by simp)
  · rename_i hn
    have : stillS v = true := by
      unfold still at h
      split at h
      · rename_i cs; exact absurd rfl (hn cs)
      · exact h
    exact rnS_still this
theorem rnV_still {v : Value} {N : Nat} {φ : List Nat} (h : stillT v = true) : rnV N φ v = v := by
  unfold rnV
  split
  · rename_i vs
    have h : vs.all still = true := h
    congr 2
    exact List.map_congr_left (g := id) (fun a ha => rn1_still (List.all_eq_true.1 h a ha)) |>.trans (by simp)
  · rename_i hn
    have : still v = true := by
      unfold stillT at h
      split at h
      · rename_i cs; exact absurd rfl (hn cs)
      · exact h
    exact rn1_still this
section
variable {φ : List Nat} {n N N' : Nat}
theorem rn_same {b : Nat} (hφ : φ.length = n) (h : okN (seqN 0 n) n b = true) : rn N φ b = rn N' φ b := by
  have hb : b < n := by
    unfold okN at h
    split at h
    · rename_i k hk
      have := (List.getElem?_eq_some_iff.1 hk).1
      rwa [seqN_length] at this
    · cases h
  unfold rn
  rw [List.getElem?_eq_getElem (by omega)]
  rfl
theorem rn0_same {v : Value} (hφ : φ.length = n) (h : ok0 (seqN 0 n) n v = true) : rn0 N φ v = rn0 N' φ v := by
  cases v <;> first | rfl | skip
  case pointer a => cases a <;> first | rfl | (simp only [rn0, rnA, rn_same (N := N) (N' := N') hφ h])
  case slice a _ _ => cases a <;> first | rfl | (simp only [rn0, rnA, rn_same (N := N) (N' := N') hφ h])
  case map a => cases a <;> first | rfl | (simp only [rn0, rn_same (N := N) (N' := N') hφ h])
theorem rnS_same {v : Value} (hφ : φ.length = n) (h : okS (seqN 0 n) n v = true) : rnS N φ v = rnS N' φ v := by
  unfold rnS
  split
  · rename_i f a c
    simp only [okS, Bool.and_eq_true] at h
    congr 2
    · exact List.map_congr_left fun x hx => rn0_same hφ (List.all_eq_true.1 h.1 x hx)
    · exact List.map_congr_left fun x hx => rn0_same hφ (List.all_eq_true.1 h.2 x hx)
  · rename_i hn
    refine rn0_same hφ ?_
    unfold okS at h
    split at h
    · rename_i f a c; exact absurd rfl (hn f a c)
    · exact h
theorem rn1_same {v : Value} (hφ : φ.length = n) (h : ok1 (seqN 0 n) n v = true) : rn1 N φ v = rn1 N' φ v := by
  unfold rn1
  split
  · rename_i cs
    congr 2
    exact List.map_congr_left fun x hx => rnS_same hφ (List.all_eq_true.1 h x hx)
  · rename_i hn
    refine rnS_same hφ ?_
    unfold ok1 at h
    split at h
    · rename_i cs; exact absurd rfl (hn cs)
    · exact h
theorem rnB_same {x : LB} (hφ : φ.length = n) (h : okB (seqN 0 n) n x = true) : rnB N φ x = rnB N' φ x := by
  cases x <;> first | rfl | skip
  case cells sz vs =>
    simp only [rnB]
    congr 1
    exact List.map_congr_left fun y hy => rnS_same hφ (List.all_eq_true.1 h y hy)
  case map m c =>
    simp only [rnB]
    congr 1
    refine List.map_congr_left fun y hy => ?_
    have := List.all_eq_true.1 h y hy
    simp only [Bool.and_eq_true] at this
    rw [rn1_same (N' := N') hφ this.1, rn1_same (N' := N') hφ this.2]
  case iter m a b c =>
    cases m with
    | none => rfl
    | some q => simp only [rnB, Option.map_some]; rw [rn_same (N := N) (N' := N') hφ h]
end
/-- all names are the blocks' own -/
def closedL (L : LH) : Bool := L.all (okB (seqN 0 L.length) L.length)
theorem jset_self {M : LH} : ∀ (φ : List Nat) (r : LH), (∀ (k : Nat) (x : LB), r[k]? = some x → ∃ j, φ[k]? = some j ∧ M[j]? = some x) → jset M φ r = M
  | [], r, _ => by simp [jset]
  | k :: φ, [], _ => by simp [jset]
  | k :: φ, x :: r, h => by
    obtain ⟨j, h1, h2⟩ := h 0 x rfl
    simp at h1; subst h1
    have e : M.set k x = M := by
      apply List.ext_getElem?
      intro i
      rw [List.getElem?_set]
      split
      · rename_i e; subst e; rw [h2, if_pos (List.getElem?_eq_some_iff.1 h2).1]
      · rfl
    simp only [jset, e]
    exact jset_self φ r fun i y hy => by simpa using h (i + 1) y (by simpa using hy)
theorem joinL_self {φ : List Nat} {M L : LH} (hp : Part φ M L) (hc : closedL L = true) : joinL φ M L = M := by
  unfold joinL phi2
  rw [hp.len, Nat.sub_self, List.drop_length, List.take_length]
  simp only [seqN, List.append_nil, List.map_nil]
  refine jset_self φ _ fun k x hx => ?_
  rw [List.getElem?_map] at hx
  cases hq : L[k]? with
  | none => rw [hq] at hx; cases hx
  | some y =>
    rw [hq] at hx; cases hx
    obtain ⟨j, h1, h2⟩ := hp.blk k y hq
    refine ⟨j, h1, ?_⟩
    rw [h2, rnB_same (N' := M.length + L.length) hp.len (List.all_eq_true.1 hc y (List.mem_of_getElem? hq))]
section
variable {P : Program} {n0 : NA} {Q : Exit → Env → LH → Prop} {l : Env} {L : LH} {K : Env → LH → Prop}
theorem EW.callP {f : FuncId} {args : List Operand} {vs us : List Value} {Lc : LH} {v1 : Value} (φ : List Nat) (ht : Tr P f us Lc (fun v K => v = v1 ∧ K = Lc)) (hv : lvs l args = some vs) (he : us.map (rnV L.length φ) = vs) (hn : φ.Nodup) (hp : partL L φ φ Lc) (hc : closedL Lc = true) (hs : stillT v1 = true) :
    EW P n0 L l (.call f args) (fun v K => v = v1 ∧ K = L) :=
  (EW.callA φ ht hv he (Part.of hn hp) handed_nil).mono fun v K ⟨v', L', ⟨h3, h4⟩, h5, h6⟩ => by
    subst h3; subst h4
    exact ⟨h5.trans (rnV_still hs), h6.trans (joinL_self (Part.of hn hp) hc)⟩

theorem EWd.callP {f : FuncId} {args : List Operand} {vs us : List Value} {Lc : LH} {v1 : Value} (φ : List Nat) (ht : Tr P f us Lc (fun v K => v = v1 ∧ K = Lc)) (hv : lvs l args = some vs) (he : us.map (rnV L.length φ) = vs) (hn : φ.Nodup) (hp : partL L φ φ Lc) (hc : closedL Lc = true) (hs : stillT v1 = true) :
    EWd P n0 φ [] L l (.call f args) (fun v K => v = v1 ∧ K = L) := by
  have e := dropped_seq φ 0 Lc.length (by rw [(Part.of hn hp).len]; omega)
  have h := EWd.call (n0 := n0) φ ht hv he (Part.of hn hp) handed_nil (by rw [e]; exact nm_nilL φ 0 L)
  rw [e] at h
  exact h.mono fun v K ⟨v', L', ⟨h3, h4⟩, h5, h6⟩ => by
    subst h3; subst h4
    exact ⟨h5.trans (rnV_still hs), h6.trans (joinL_self (Part.of hn hp) hc)⟩
theorem nm_nilV (v : Value) : nmV [] v = true := by
  unfold nmV
  split
  · simp [nm_nil1]
  · exact nm_nil1 _
theorem nm_nilE : ∀ (l : Env), nmE [] l = true
  | [] => rfl
  | (_, v) :: r => by simp [nmE, nm_nilV, nm_nilE r]
theorem nm_nilT : ∀ (T : Taken), nmT [] T = true
  | [] => rfl
  | (_, _, l, v) :: r => by simp [nmT, nm_nilV, nm_nilE, nm_nilT r]
theorem disj_nil : ∀ (ks : List Nat), disj [] ks = true
  | [] => rfl
  | k :: ks => by simp [disj, inL, disj_nil ks]

/-! ### what is known, reckoned out -/
def nV {β : Sort _} : Value → (Value → β) → β
  | .pointer (some ⟨b, o, s⟩), k => fNp b fun b => k (.pointer (some ⟨b, o, s⟩))
  | .slice (some ⟨b, o, s⟩) n c, k => fNp b fun b => k (.slice (some ⟨b, o, s⟩) n c)
  | .map (some b), k => fNp b fun b => k (.map (some b))
  | .int i n, k => k (.int i n)
  | .bool b, k => k (.bool b)
  | .agg ⟨cs⟩, k => k (.agg ⟨cs⟩)
  | .tuple ⟨cs⟩, k => k (.tuple ⟨cs⟩)
  | v, k => k v
theorem nV_eq {β : Sort _} (v : Value) (k : Value → β) : nV v k = k v := by
  unfold nV; split <;> first | rfl | simp only [fNp_eq]
def nVs {β : Sort _} : List Value → (List Value → β) → β
  | [], k => k []
  | v :: r, k => nV v fun v => nVs r fun r => k (v :: r)
theorem nVs_eq {β : Sort _} : ∀ (l : List Value) (k : List Value → β), nVs l k = k l
  | [], k => rfl
  | v :: r, k => by simp only [nVs, nV_eq, nVs_eq r]
def nB {β : Sort _} : LB → (LB → β) → β
  | .cells sz vs, k => nVs vs fun vs => k (.cells sz vs)
  | .gro sz vs, k => k (.gro sz vs)
  | .dead, k => k .dead
  | .map m c, k => k (.map m c)
  | .abs A F, k => k (.abs A F)
  | x, k => k x
theorem nB_eq {β : Sort _} (x : LB) (k : LB → β) : nB x k = k x := by
  unfold nB; split <;> first | rfl | simp only [nVs_eq]
def nL {β : Sort _} : LH → (LH → β) → β
  | [], k => k []
  | x :: r, k => nB x fun x => nL r fun r => k (x :: r)
theorem nL_eq {β : Sort _} : ∀ (l : LH) (k : LH → β), nL l k = k l
  | [], k => rfl
  | v :: r, k => by simp only [nL, nB_eq, nL_eq r]
def nE {β : Sort _} : Env → (Env → β) → β
  | [], k => k []
  | (t, v) :: r, k => nV v fun v => nE r fun r => k ((t, v) :: r)
theorem nE_eq {β : Sort _} : ∀ (l : Env) (k : Env → β), nE l k = k l
  | [], k => rfl
  | (t, v) :: r, k => by simp only [nE, nV_eq, nE_eq r]
theorem LSt.nf {ss : List Step} {T : Taken} (h : nE l fun l => nL L fun L => LSt P n0 ss K l T L) : LSt P n0 ss K l T L := by rw [nE_eq, nL_eq] at h; exact h
theorem LWp.nf {m : MC} (h : nE l fun l => nL L fun L => LWp P n0 m Q l L) : LWp P n0 m Q l L := by rw [nE_eq, nL_eq] at h; exact h
end
end Go.Tum
