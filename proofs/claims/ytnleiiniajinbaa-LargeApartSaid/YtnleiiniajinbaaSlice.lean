/-
  Slices that own their block; append.
-/
import Derived.Test.YtnleiiniajinbaaMem
namespace Go.Tum
open Go

/-- v is a slice of n elements of sz cells each, which hold 'cells'; it owns the blocks F (none, if it is nil). -/
def Sl (w : World) (sz : Nat) (v : Value) (n : Nat) (cells : List Value) (F : List Nat) : Prop :=
  cells.length = n * sz ∧ (∀ u ∈ cells, one u = true) ∧
  ((v = .slice none 0 0 ∧ n = 0 ∧ F = []) ∨
   ∃ b o c cs, v = .slice (some ⟨b, o, none⟩) n c ∧ F = [b] ∧ Blk w b cs ∧ o + c * sz ≤ cs.length ∧ n ≤ c ∧ (cs.drop o).take (n * sz) = cells)

/-- v can be read as a slice of n elements, whoever owns it -/
def Rd (w : World) (sz : Nat) (v : Value) (n : Nat) (cells : List Value) : Prop :=
  cells.length = n * sz ∧ (∀ u ∈ cells, one u = true) ∧
  (((∃ a c, v = .slice a 0 c) ∧ n = 0) ∨ ∃ b o c cs, v = .slice (some ⟨b, o, none⟩) n c ∧ Blk w b cs ∧ o + n * sz ≤ cs.length ∧ (cs.drop o).take (n * sz) = cells)

theorem Sl.rd {w : World} {sz : Nat} {v : Value} {n : Nat} {cells : List Value} {F : List Nat} (h : Sl w sz v n cells F) : Rd w sz v n cells := by
  obtain ⟨h1, h2, h3⟩ := h
  refine ⟨h1, h2, ?_⟩
  rcases h3 with ⟨h4, h5, _⟩ | ⟨b, o, c, cs, h4, _, h5, h6, h7, h8⟩
  · exact .inl ⟨⟨_, _, h4⟩, h5⟩
  · have : n * sz ≤ c * sz := Nat.mul_le_mul_right sz h7
    exact .inr ⟨b, o, c, cs, h4, h5, by omega, h8⟩

theorem Sl.fr {w w' : World} {sz : Nat} {v : Value} {n : Nat} {cells : List Value} {F : List Nat} {G : Nat → Prop} (h : Sl w sz v n cells F) (hf : Fr G w w') (hd : ∀ b ∈ F, ¬ G b) : Sl w' sz v n cells F := by
  obtain ⟨h1, h2, h3⟩ := h
  refine ⟨h1, h2, ?_⟩
  rcases h3 with h4 | ⟨b, o, c, cs, h4, rfl, h5, h6⟩
  · exact .inl h4
  · exact .inr ⟨b, o, c, cs, h4, rfl, hf.blk h5 (hd b (by simp)), h6⟩

theorem Sl.lt {w : World} {sz : Nat} {v : Value} {n : Nat} {cells : List Value} {F : List Nat} (h : Sl w sz v n cells F) : ∀ b ∈ F, b < w.heap.size := by
  obtain ⟨_, _, h3⟩ := h
  rcases h3 with ⟨_, _, rfl⟩ | ⟨b, o, c, cs, h4, rfl, h5, h6⟩
  · intro b hb; cases hb
  · intro b' hb'; rw [List.mem_singleton] at hb'; subst hb'; exact h5.lt

theorem Sl.one {w : World} {sz : Nat} {v : Value} {n : Nat} {cells : List Value} {F : List Nat} (h : Sl w sz v n cells F) : one v = true := by
  rcases h.2.2 with ⟨rfl, _⟩ | ⟨b, o, c, cs, rfl, _⟩ <;> rfl

theorem Sl.form {w : World} {sz : Nat} {v : Value} {n : Nat} {cells : List Value} {F : List Nat} (h : Sl w sz v n cells F) : ∃ a c, v = .slice a n c := by
  rcases h.2.2 with ⟨rfl, rfl, _⟩ | ⟨b, o, c, cs, rfl, _⟩
  · exact ⟨_, _, rfl⟩
  · exact ⟨_, _, rfl⟩

theorem Sl.nil (w : World) (sz : Nat) : Sl w sz (.slice none 0 0) 0 [] [] := ⟨by simp, by simp, .inl ⟨rfl, rfl, rfl⟩⟩

theorem Rd.sim {w w0 : World} {sz : Nat} {v : Value} {n : Nat} {cells : List Value} (h : Rd w sz v n cells) (hs : Sim w0 w) : Rd w0 sz v n cells := by
  obtain ⟨h1, h2, h3⟩ := h
  refine ⟨h1, h2, ?_⟩
  rcases h3 with h4 | ⟨b, o, c, cs, h4, h5, h6⟩
  · exact .inl h4
  · exact .inr ⟨b, o, c, cs, h4, h5.sim hs, h6⟩

theorem Rd.fr {w w' : World} {sz : Nat} {v : Value} {n : Nat} {cells : List Value} {G : Nat → Prop} (h : Rd w sz v n cells) (hf : Fr G w w') (hd : ∀ b o c, v = .slice (some ⟨b, o, none⟩) n c → ¬ G b) : Rd w' sz v n cells := by
  obtain ⟨h1, h2, h3⟩ := h
  refine ⟨h1, h2, ?_⟩
  rcases h3 with h4 | ⟨b, o, c, cs, h4, h5, h6⟩
  · exact .inl h4
  · exact .inr ⟨b, o, c, cs, h4, hf.blk h5 (hd b o c h4), h6⟩

/-- the i-th cell -/
theorem Rd.cell {w : World} {sz : Nat} {v : Value} {n : Nat} {cells : List Value} (h : Rd w sz v n cells) {i : Nat} {u : Value} (hu : cells[i]? = some u) :
    ∃ b o c, v = .slice (some ⟨b, o, none⟩) n c ∧ w.cell? ⟨b, o + i, none⟩ = some u := by
  obtain ⟨h1, h2, h3⟩ := h
  have hi : i < cells.length := (List.getElem?_eq_some_iff.1 hu).1
  rcases h3 with ⟨_, rfl⟩ | ⟨b, o, c, cs, h4, h5, h6, h7⟩
  · omega
  · refine ⟨b, o, c, h4, ?_⟩
    rw [h5.cellEq]
    rw [← h7] at hu
    rw [List.getElem?_take] at hu
    split at hu
    · simpa using hu
    · cases hu

def AppOp (s x : Operand) (sT xT ty : TypeId) : Oper := ⟨none, .call ⟨.builtin .append, #[s, x], #[sT, xT]⟩, ty, "", #[], none⟩

section
variable {P : Program} {w : World} {l : Env} {K : Value → World → Prop}

theorem firstCells_rd {sz n : Nat} {v : Value} {cells : List Value} (h : Rd w sz v n cells) : (Builtin.firstCells sz n v).run P w = .ok cells.toArray w := by
  obtain ⟨h1, _, h3⟩ := h
  rcases h3 with ⟨⟨a, c, rfl⟩, rfl⟩ | ⟨b, o, c, cs, rfl, h5, h6, h7⟩
  · have : cells = [] := by simpa using h1
    subst this
    cases a with
    | none => simp [Builtin.firstCells]
    | some a =>
      simp only [Builtin.firstCells, Nat.zero_mul]
      exact loadCells_run 0 0 #[] #[] rfl (fun j _ hj => by omega) (by simp)
  · simp only [Builtin.firstCells]
    rw [loadCells_blk h5 h6, h7]

theorem nextslicecap_le (need c : Nat) (h : c < need) : Builtin.nextslicecap need c ≤ 2 * need + 2048 := by
  unfold Builtin.nextslicecap
  split
  · omega
  · split
    · omega
    · have step : ∀ (r k : Nat), Builtin.growBy need r k ≤ max k (need + (need + 768) / 4) := by
        intro r
        induction r with
        | zero => intro k; simp only [Builtin.growBy]; omega
        | succ r ih =>
          intro k
          simp only [Builtin.growBy]
          split
          · omega
          · have := ih (k + (k + 768) / 4); omega
      have := step 4 c
      omega

/-- what must be known of a type of elements -/
structure ElemT (P : Program) (sT e : TypeId) (sz bytes : Nat) : Prop where
  und : P.underlying sT = some (.slice e)
  info : ∃ i z, P.info? e = some i ∧ i.size = sz ∧ i.bytes = bytes ∧ i.zero = some z ∧ z.cells.size = sz ∧ ∀ u ∈ z.cells.toList, one u = true

theorem append_run {sT xT e : TypeId} {sz bytes n m c : Nat} {base : Option Addr} {vx : Value} {cells cells2 : List Value} {ty : TypeId} (he : ElemT P sT e sz bytes) (hx : ∃ e', P.underlying xT = some (.slice e'))
    (hs : Rd w sz (.slice base n c) n cells) (hr : Rd w sz vx m cells2) (hb : (2 * (n + m) + 2048) * bytes ≤ 281474976710656) (hby : 0 < bytes) :
    ((n + m ≤ c ∧ (∀ a, base = some a → (Builtin.append_ #[sT, xT] ty #[.slice base n c, vx]).run P w = (do storeCells (a.add (n * sz)) cells2; pure (.slice base (n + m) c) : Sem Value).run P w) ∧
        (base = none → (Builtin.append_ #[sT, xT] ty #[.slice base n c, vx]).run P w = .ok (.slice base (n + m) c) w)) ∨
     (c < n + m ∧ ∃ c' zs w', n + m ≤ c' ∧ (cells ++ cells2 ++ zs).length = c' * sz ∧ Sim w' (w.alloc (.cells (cells ++ cells2 ++ zs).toArray e)) ∧
        (Builtin.append_ #[sT, xT] ty #[.slice base n c, vx]).run P w = .ok (.slice (some ⟨w.heap.size, 0, none⟩) (n + m) c') w')) := by
  obtain ⟨hu, i, z, hi, h1, h2, hz, hzs, _⟩ := he
  obtain ⟨e', hx⟩ := hx
  have hl : (Builtin.lenOf vx).run P w = .ok m w := by
    obtain ⟨_, _, h3⟩ := hr
    rcases h3 with ⟨⟨a, c, rfl⟩, rfl⟩ | ⟨b, o, c, cs, rfl, _⟩ <;> simp [Builtin.lenOf]
  have hzv : (zeroValue e).run P w = .ok z w := by simp [zeroValue, typeInfo_run hi, hz]
  by_cases hc : n + m ≤ c
  · refine .inl ⟨hc, fun a ha => ?_, fun ha => ?_⟩
    · subst ha
      unfold Builtin.append_
      simp [run_underlying hu, run_underlying hx, sizeOf_run hi, h1, hl, hc, firstCells_rd hr]
    · subst ha
      unfold Builtin.append_
      simp [run_underlying hu, run_underlying hx, sizeOf_run hi, h1, hl, hc, firstCells_rd hr]
  · refine .inr ⟨by omega, ?_⟩
    have hcap := nextslicecap_le (n + m) c (by omega)
    have hle : Builtin.nextslicecap (n + m) c * bytes ≤ 281474976710656 := Nat.le_trans (Nat.mul_le_mul_right _ hcap) hb
    have hnm : (2 * (n + m) + 2048) * 1 ≤ (2 * (n + m) + 2048) * bytes := Nat.mul_le_mul_left _ hby
    have hq : (Question.appendCap (n + m) c e).forced = false := rfl
    have hbig : ¬ (IntKind.i64.max < ((n : Int) + (m : Int))) := by
      have : IntKind.i64.max = 9223372036854775807 := rfl
      rw [this]; omega
    let t := w.tape w.drawn (Question.appendCap (n + m) c e)
    let c' := (n + m) + t % (2 ^ 63 - (n + m))
    have hsim : Sim w.drew w := ⟨rfl, rfl, rfl, rfl⟩
    have f1 : (Builtin.firstCells sz n (.slice base n c)).run P w.drew = .ok cells.toArray w.drew := firstCells_rd (hs.sim hsim)
    have f2 : (Builtin.firstCells sz m vx).run P w.drew = .ok cells2.toArray w.drew := firstCells_rd (hr.sim hsim)
    have hzv1 : (zeroValue e).run P w.drew = .ok z w.drew := by simp [zeroValue, typeInfo_run hi, hz]
    refine ⟨c', (Builtin.zeroCells z.cells (c' - (n + m))).toList, w.drew.alloc (.cells (cells.toArray ++ cells2.toArray ++ Builtin.zeroCells z.cells (c' - (n + m))) e), Nat.le_add_right _ _, ?_, ?_, ?_⟩
    · obtain ⟨k1, _, _⟩ := hs
      obtain ⟨k2, _, _⟩ := hr
      simp only [List.length_append, k1, k2, Builtin.zeroCells]
      simp only [Array.length_toList, Array.size_map, Array.size_range, hzs]
      have e1 : c' - (n + m) + (n + m) = c' := Nat.sub_add_cancel (Nat.le_add_right _ _)
      rw [← Nat.add_mul, ← Nat.add_mul]
      congr 1
      omega
    · refine ⟨?_, rfl, rfl, rfl⟩
      show w.heap.push _ = w.heap.push _
      congr 2
      simp
    · unfold Builtin.append_
      have hle' : ¬ (281474976710656 < Builtin.nextslicecap (n + m) c * bytes) := by omega
      have hne : bytes ≠ 0 := by omega
      simp [run_underlying hu, run_underlying hx, sizeOf_run hi, h1, hl, hc, typeInfo_run hi, h2, hne, hle', newRow]
      rw [if_neg (by rw [hq]; simp), f1]
      simp only [Result.andThen_ok]
      rw [f2]
      simp only [Result.andThen_ok]
      rw [hzv1]
      simp only [Result.andThen_ok, Result.ok.injEq]
      refine ⟨rfl, ?_⟩
      congr 2
      show cells.toArray ++ (cells2.toArray ++ Builtin.zeroCells z.cells (c' - (n + m))) = _
      generalize Builtin.zeroCells z.cells (c' - (n + m)) = Z
      rw [← Array.append_assoc]
      simp

theorem take_splice {cs a b : List Value} {o k : Nat} (hk : o + k + b.length ≤ cs.length) (ha : (cs.drop o).take k = a) : ((splice cs (o + k) b).drop o).take (k + b.length) = a ++ b := by
  have hl : k ≤ (cs.drop o).length := by simp; omega
  unfold splice
  have e1 : cs.take (o + k) = cs.take o ++ a := by rw [List.take_add, ha]
  rw [e1]
  have ho : (cs.take o).length = o := by simp; omega
  have hal : a.length = k := by rw [← ha]; simp; omega
  rw [List.append_assoc, List.append_assoc, List.drop_append_of_le_length (by omega), List.drop_eq_nil_of_le (by omega), List.nil_append, ← List.append_assoc, List.take_append_of_le_length (by simp; omega), List.take_of_length_le (by simp; omega)]

theorem append_W {s x : Operand} {sT xT ty e : TypeId} {sz bytes n m : Nat} {vs vx : Value} {cells cells2 : List Value} {F : List Nat} (he : ElemT P sT e sz bytes) (hxT : ∃ e', P.underlying xT = some (.slice e'))
    (hs : ev l s = some vs) (hx : ev l x = some vx) (hS : Sl w sz vs n cells F) (hR : Rd w sz vx m cells2) (hb : (2 * (n + m) + 2048) * bytes ≤ 281474976710656) (hby : 0 < bytes)
    (h : ∀ v' w' F', Sl w' sz v' (n + m) (cells ++ cells2) F' → Fr (· ∈ F) w w' → (∀ b ∈ F', b ∈ F ∨ w.heap.size ≤ b) → K v' w') : (EOp.raw (AppOp s x sT xT ty)).W P K l w := by
  intro ρ w0 ha hsim
  have hexec : execOp ρ (AppOp s x sT xT ty) = (do let r ← Builtin.append_ #[sT, xT] ty #[vs, vx]; pure (Next.value r)) := by
    simp [execOp, AppOp, resolve, invoke, builtin, ha s _ hs, ha x _ hx]
  have hlen : (cells ++ cells2).length = (n + m) * sz := by rw [List.length_append, hS.1, hR.1, Nat.add_mul]
  have hone : ∀ u ∈ cells ++ cells2, one u = true := by
    intro u hu
    rcases List.mem_append.1 hu with hu | hu
    · exact hS.2.1 u hu
    · exact hR.2.1 u hu
  obtain ⟨base, c, rfl⟩ : ∃ base c, vs = .slice base n c := by
    rcases hS.2.2 with ⟨h1, h2, _⟩ | ⟨b, o, c, cs, h1, _⟩
    · exact ⟨none, 0, by rw [h1, h2]⟩
    · exact ⟨_, _, h1⟩
  have hrun := append_run (P := P) (w := w0) (ty := ty) he hxT (hS.rd.sim hsim) (hR.sim hsim) hb hby
  rcases hrun with ⟨hle, h1, h2⟩ | ⟨hlt, c', zs, w', hc', hlz, hsw, hr⟩
  · rcases hS.2.2 with ⟨e1, rfl, rfl⟩ | ⟨b, o, c1, cs, e1, rfl, hB, hlen1, hn, hcells⟩
    · cases e1
      have hm : m = 0 := by omega
      subst hm
      have hc2 : cells2 = [] := by simpa using hR.1
      have hc1 : cells = [] := by simpa using hS.1
      subst hc2; subst hc1
      refine Eff.value (v := .slice none 0 0) (w' := w0) ?_ ⟨w, hsim, h _ w [] (Sl.nil w sz) (Fr.refl _ w) (fun b hb => by cases hb)⟩
      rw [hexec]
      simp [h2 rfl]
    · cases e1
      have hcl : o + n * sz + cells2.length ≤ cs.length := by
        rw [hR.1]
        have : (n + m) * sz ≤ c * sz := Nat.mul_le_mul_right sz hle
        rw [Nat.add_mul] at this
        omega
      have hst := storeCells_blk (P := P) (w := w0) (hB.sim hsim) hcl hR.2.1
      refine Eff.value (v := .slice (some ⟨b, o, none⟩) (n + m) c) (w' := putCells w0 ⟨b, o + n * sz, none⟩ 0 cells2) ?_ ⟨putCells w ⟨b, o + n * sz, none⟩ 0 cells2, putCells_sim hsim _ _ _, h _ _ [b] ⟨hlen, hone, .inr ⟨b, o, c, splice cs (o + n * sz) cells2, rfl, rfl, putCells_blk _ 0 _ _ hB hcl, ?_, hle, ?_⟩⟩ ?_ ?_⟩
      · rw [hexec]
        simp only [Sem.run_bind, h1 _ rfl, add_none, hst]
        simp
      · rw [splice_length hcl]; exact hlen1
      · have := take_splice (o := o) hcl hcells
        rw [hR.1] at this
        rw [Nat.add_mul]; exact this
      · exact (putCells_fr (p := ⟨b, o + n * sz, none⟩) cells2 0 w).mono fun x _ hx => by rw [List.mem_singleton]; exact hx
      · intro x hx; exact .inl hx
  · refine Eff.value (v := .slice (some ⟨w0.heap.size, 0, none⟩) (n + m) c') (w' := w') ?_ ⟨w.alloc (.cells (cells ++ cells2 ++ zs).toArray e), hsw.trans (hsim.push _), ?_⟩
    · rw [hexec]
      simp [hr]
    · rw [hsim.heap]
      refine h _ _ [w.heap.size] ⟨hlen, hone, .inr ⟨_, 0, c', cells ++ cells2 ++ zs, rfl, rfl, Blk.new w _ e, by omega, hc', ?_⟩⟩ (Fr.alloc _ w _) ?_
      · rw [List.drop_zero, ← hlen, List.take_append_of_le_length (Nat.le_refl _), List.take_length]
      · intro x hx; rw [List.mem_singleton] at hx; exact .inr (by omega)
end
end Go.Tum
