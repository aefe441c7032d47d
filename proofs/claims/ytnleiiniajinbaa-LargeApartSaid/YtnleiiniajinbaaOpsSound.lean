/-
  That the operations of the text before say what the model's operations do.
-/
import Derived.Test.YtnleiiniajinbaaOps
namespace Go.Tum
open Go

theorem raw_sound {P : Program} {o : Oper} {l : Env} {v : Value} {w : World} {ρ : Operand → Value} (hy : (QOp.raw o).Y P l v w) (ha : Agr l ρ) :
    (execOp ρ o).run P w = .ok (.value v) w := hy ρ w ha (Sim.refl w)

section
variable {P : Program} {l : Env} {v : Value} {w : World} {ρ : Operand → Value} {d : Option Tmp} {ty : TypeId} {pos : String} {af : Array Edge} {g : Option (Nat × Bool)}

theorem mov_sound {x : Operand} (hy : (QOp.mov x).Y P l v w) (ha : Agr l ρ) : (execOp ρ ⟨d, .move x, ty, pos, af, g⟩).run P w = .ok (.value v) w := by
  simp [execOp, ha x v hy, go_sem]
theorem assign_sound {x : Operand} (hy : (QOp.mov x).Y P l v w) (ha : Agr l ρ) : (execOp ρ ⟨d, .assign x, ty, pos, af, g⟩).run P w = .ok (.value v) w := by
  simp [execOp, ha x v hy, go_sem]
theorem pick_sound {c a b : Operand} (hy : (QOp.pick c a b).Y P l v w) (ha : Agr l ρ) : (execOp ρ ⟨d, .pick c a b, ty, pos, af, g⟩).run P w = .ok (.value v) w := by
  obtain ⟨t, h1, h2⟩ := hy
  cases t
  · simp at h2; simp [execOp, ha c _ h1, ha b _ h2, go_sem]
  · simp at h2; simp [execOp, ha c _ h1, ha a _ h2, go_sem]
theorem nilc_sound {x : Operand} (hy : (QOp.nilc x).Y P l v w) (ha : Agr l ρ) : (execOp ρ ⟨d, .nilCheck x, ty, pos, af, g⟩).run P w = .ok (.value v) w := by
  rcases hy with ⟨p, h1, rfl⟩ | ⟨f, a, c, h1, rfl⟩
  · simp [execOp, ha x _ h1, go_sem]
  · simp [execOp, ha x _ h1, go_sem]
theorem evs_map : ∀ {xs : List Operand} {vs : List Value}, evs l xs = some vs → Agr l ρ → xs.map ρ = vs
  | [], vs, h, _ => by simp only [evs, Option.some.injEq] at h; subst h; rfl
  | x :: r, vs, h, ha => by
    simp only [evs] at h
    cases hx : ev l x with
    | none => rw [hx] at h; cases h
    | some v =>
      rw [hx] at h
      cases hr : evs l r with
      | none => rw [hr] at h; cases h
      | some us => rw [hr] at h; cases h; simp [ha x v hx, evs_map hr ha]

theorem sh_sound {lft : Bool} {t t' : TypeId} {x y : Operand} (hy : (QOp.sh lft x y).Y P l v w) (ha : Agr l ρ) : (execOp ρ ⟨d, .binOp (if lft then .shl else .shr) t x y t', ty, pos, af, g⟩).run P w = .ok (.value v) w := by
  obtain ⟨k, a, k', n, h1, h2, h3, rfl⟩ := hy
  have hn : ¬ n < 0 := by omega
  cases lft
  · simp [execOp, ha x _ h1, ha y _ h2, eqGuard, binOp, Op.shift, hn, ishift, go_sem]
  · simp [execOp, ha x _ h1, ha y _ h2, eqGuard, binOp, Op.shift, hn, ishift, go_sem]
theorem xorn_sound {t : TypeId} {x : Operand} (hy : (QOp.xorn x).Y P l v w) (ha : Agr l ρ) : (execOp ρ ⟨d, .unOp .xor t x, ty, pos, af, g⟩).run P w = .ok (.value v) w := by
  obtain ⟨k, n, h1, rfl⟩ := hy
  simp [execOp, ha x _ h1, Op.unary, Op.intBits, ixorn, go_sem]
theorem mm_sound {mx : Bool} {x y : Operand} {args : Array Operand} {ats : Array TypeId} (hargs : args.toList = [x, y]) (hy : (QOp.mm mx x y).Y P l v w) (ha : Agr l ρ) : (execOp ρ ⟨d, .call ⟨.builtin (if mx then .max else .min), args, ats⟩, ty, pos, af, g⟩).run P w = .ok (.value v) w := by
  obtain rfl : args = #[x, y] := by simpa using congrArg List.toArray hargs
  obtain ⟨k, a, b, h1, h2, rfl⟩ := hy
  cases mx
  · have : (if b < a then b else a) = min a b := by rw [Int.min_def]; split <;> split <;> omega
    simp [execOp, resolve, invoke, builtin, Builtin.min_, Builtin.min2, ha x _ h1, ha y _ h2, this, imm]
  · simp [execOp, resolve, invoke, builtin, Builtin.max_, Builtin.max2, ha x _ h1, ha y _ h2, imm]
    omega
theorem mkf_sound {fn : Fn} {first cap : Array Operand} (hy : (QOp.mkf fn first.toList cap.toList).Y P l v w) (ha : Agr l ρ) : (execOp ρ ⟨d, .makeFunc fn first cap, ty, pos, af, g⟩).run P w = .ok (.value v) w := by
  obtain ⟨a, c, h1, h2, rfl⟩ := hy
  have e : ∀ (xs : Array Operand) (vs : List Value), evs l xs.toList = some vs → xs.map ρ = vs.toArray := by
    intro xs vs h
    apply Array.ext'
    rw [Array.toList_map]
    exact evs_map h ha
  simp [execOp, Instr.makeFunc, e _ _ h1, e _ _ h2, go_sem]
theorem ext_sound {x : Operand} {k : Nat} (hy : (QOp.ext x k).Y P l v w) (ha : Agr l ρ) : (execOp ρ ⟨d, .extract x k, ty, pos, af, g⟩).run P w = .ok (.value v) w := by
  obtain ⟨vs, h1, h2⟩ := hy
  simp [execOp, ha x _ h1, Instr.extract, h2, go_sem]
theorem typeInfo_run {t : TypeId} {i : TypeInfo} (h : P.info? t = some i) : (typeInfo t).run P w = .ok i w := by
  simp [typeInfo, h, go_sem]
theorem sizeOf_run {t : TypeId} {i : TypeInfo} (h : P.info? t = some i) : (Go.sizeOf t).run P w = .ok i.size w := by
  simp [Go.sizeOf, typeInfo, h, go_sem]
theorem fld_sound {s : TypeId} {x : Operand} {f : Nat} {fs : Array Field} {fd : Field} {i : TypeInfo} (hs : P.underlying s = some (.struct fs)) (hf : fs[f]? = some fd) (hi : P.info? fd.type = some i) (h0 : i.size ≠ 0)
    (hy : (QOp.fld x fd.offset).Y P l v w) (ha : Agr l ρ) : (execOp ρ ⟨d, .fieldAddr s x f, ty, pos, af, g⟩).run P w = .ok (.value v) w := by
  obtain ⟨b, o, sp, h1, rfl⟩ := hy
  simp [execOp, ha x _ h1, Instr.fieldAt, run_underlying hs, hf, Instr.sureAddr, fieldPlace, sizeOf_run hi, h0, go_sem]
theorem isAgg_false {t : TypeId} (h : scalarT P t = true) : (isAgg t).run P w = .ok false w := by
  unfold scalarT at h
  cases hu : P.underlying t with
  | none => simp [hu] at h
  | some x => cases x <;> simp [hu] at h <;> simp [isAgg, run_underlying hu, go_sem]
theorem isAgg_true {t : TypeId} {n : Nat} (h : aggT P t = some n) : (isAgg t).run P w = .ok true w ∧ (Go.sizeOf t).run P w = .ok n w := by
  unfold aggT at h
  cases hu : P.underlying t with
  | none => simp [hu] at h
  | some x =>
    cases hi : P.info? t with
    | none => cases x <;> simp [hu, hi] at h
    | some i => cases x <;> simp [hu, hi] at h <;> exact ⟨by simp [isAgg, run_underlying hu, go_sem], by rw [sizeOf_run hi, h]⟩
theorem fldv_sound {s : TypeId} {x : Operand} {f : Nat} {fs : Array Field} {fd : Field} (hs : P.underlying s = some (.struct fs)) (hf : fs[f]? = some fd) (hi : scalarT P fd.type = true)
    (hy : (QOp.fldv x fd.offset).Y P l v w) (ha : Agr l ρ) : (execOp ρ ⟨d, .field s x f, ty, pos, af, g⟩).run P w = .ok (.value v) w := by
  obtain ⟨cs, h1, h2⟩ := hy
  simp [execOp, ha x _ h1, Instr.field, run_underlying hs, hf, part, isAgg_false hi, asAgg, h2, go_sem]
theorem fldn_sound {s : TypeId} {x : Operand} {f n : Nat} {fs : Array Field} {fd : Field} (hs : P.underlying s = some (.struct fs)) (hf : fs[f]? = some fd) (hi : aggT P fd.type = some n)
    (hy : (QOp.fldn x fd.offset n).Y P l v w) (ha : Agr l ρ) : (execOp ρ ⟨d, .field s x f, ty, pos, af, g⟩).run P w = .ok (.value v) w := by
  obtain ⟨cs, h1, rfl⟩ := hy
  simp [execOp, ha x _ h1, Instr.field, run_underlying hs, hf, part, (isAgg_true hi).1, (isAgg_true hi).2, asAgg, go_sem]
theorem idx_sound {t e : TypeId} {x i : Operand} {ie : TypeInfo} (ht : P.underlying t = some (.slice e)) (he : P.info? e = some ie)
    (hy : (QOp.idx x i ie.size).Y P l v w) (ha : Agr l ρ) : (execOp ρ ⟨d, .indexAddr t x i, ty, pos, af, g⟩).run P w = .ok (.value v) w := by
  obtain ⟨p, n, c, k, j, h1, h2, h3, h4, rfl⟩ := hy
  simp [execOp, ha x _ h1, ha i _ h2, Instr.indexAt, run_underlying ht, sizeOf_run he, asIntOf, h3, h4, go_sem]
theorem idxa_sound {t e : TypeId} {n : Nat} {x i : Operand} {ie : TypeInfo} (ht : P.underlying t = some (.array n e)) (he : P.info? e = some ie)
    (hy : (QOp.idxa x i n ie.size).Y P l v w) (ha : Agr l ρ) : (execOp ρ ⟨d, .indexAddr t x i, ty, pos, af, g⟩).run P w = .ok (.value v) w := by
  obtain ⟨p, k, j, h1, h2, h3, h4, rfl⟩ := hy
  simp [execOp, ha x _ h1, ha i _ h2, Instr.indexAt, run_underlying ht, sizeOf_run he, asIntOf, Instr.sureAddr, h3, h4, go_sem]
theorem bin_sound {op : BinOp} {t t' : TypeId} {x y : Operand} 
    (hy : (QOp.bin op x y).Y P l v w) (ha : Agr l ρ) : (execOp ρ ⟨d, .binOp op t x y t', ty, pos, af, g⟩).run P w = .ok (.value v) w := by
  obtain ⟨k, a, b, h1, h2, h3⟩ := hy
  cases op <;> simp only [ibin, Option.some.injEq, reduceCtorEq] at h3 <;> first | subst h3 | skip
  case quo =>
    by_cases hb : b = 0
    · simp [hb] at h3
    · rw [if_neg hb] at h3; cases h3
      simp [execOp, ha x _ h1, ha y _ h2, eqGuard, binOp, Op.intDiv, hb, go_sem]
  case rem =>
    by_cases hb : b = 0
    · simp [hb] at h3
    · rw [if_neg hb] at h3; cases h3
      simp [execOp, ha x _ h1, ha y _ h2, eqGuard, binOp, Op.intDiv, hb, go_sem]
  all_goals simp [execOp, ha x _ h1, ha y _ h2, eqGuard, binOp, Op.intArith, Op.intCmp, Op.intBits, go_sem]
theorem nilp_sound {t e : TypeId} {x : Operand} {t' : TypeId} (neg : Bool) (ht : P.underlying t = some (.pointer e))
    (hy : (QOp.nilp neg x).Y P l v w) (ha : Agr l ρ) : (execOp ρ ⟨d, .binOp (if neg then .neq else .eql) t x (.const (.pointer none)) t', ty, pos, af, g⟩).run P w = .ok (.value v) w := by
  obtain ⟨p, h1, rfl⟩ := hy
  have hn : ρ (.const (.pointer none)) = .pointer none := ha _ _ rfl
  have he : (Op.equal t (.pointer p) (.pointer none)).run P w = .ok p.isNone w := by
    unfold Op.equal Op.maxDepth
    rw [show (10000 : Nat) = 9999 + 1 from rfl]
    unfold Op.equalIn
    cases p <;> simp [run_underlying ht]
  cases neg
  · show (execOp ρ ⟨d, .binOp .eql t x (.const (.pointer none)) t', ty, pos, af, g⟩).run P w = _
    simp only [execOp, ha x _ h1, hn, eqGuard, binOp]
    simp [he]
  · show (execOp ρ ⟨d, .binOp .neq t x (.const (.pointer none)) t', ty, pos, af, g⟩).run P w = _
    simp only [execOp, ha x _ h1, hn, eqGuard, binOp]
    simp [he]
theorem not_sound {x : Operand} {t : TypeId} (hy : (QOp.un .not x).Y P l v w) (ha : Agr l ρ) : (execOp ρ ⟨d, .unOp .not t x, ty, pos, af, g⟩).run P w = .ok (.value v) w := by
  rcases hy with ⟨b, _, h1, rfl⟩ | ⟨k, n, h0, _⟩
  · simp [execOp, ha x _ h1, Op.unary, go_sem]
  · cases h0
theorem neg_sound {x : Operand} {t : TypeId} (hy : (QOp.un .neg x).Y P l v w) (ha : Agr l ρ) : (execOp ρ ⟨d, .unOp .neg t x, ty, pos, af, g⟩).run P w = .ok (.value v) w := by
  rcases hy with ⟨b, h0, _⟩ | ⟨k, n, _, h1, rfl⟩
  · cases h0
  · simp [execOp, ha x _ h1, Op.unary, Op.intArith, go_sem]
theorem cvi_sound {s t : TypeId} {k k' : IntKind} {x : Operand} (hs : P.underlying s = some (.int k')) (ht : P.underlying t = some (.int k))
    (hy : (QOp.cvi k x).Y P l v w) (ha : Agr l ρ) : (execOp ρ ⟨d, .convert s t x, ty, pos, af, g⟩).run P w = .ok (.value v) w := by
  obtain ⟨k1, n, h1, rfl⟩ := hy
  simp [execOp, ha x _ h1, convert, run_underlying hs, run_underlying ht, Conv.intToInt, go_sem]
theorem len_sound {t e : TypeId} {x : Operand} {ats : Array TypeId} {args : Array Operand} (h0 : ats[0]? = some t) (hx : args.toList = [x]) (ht : P.underlying t = some (.slice e))
    (hy : (QOp.len x).Y P l v w) (ha : Agr l ρ) : (execOp ρ ⟨d, .call ⟨.builtin .len, args, ats⟩, ty, pos, af, g⟩).run P w = .ok (.value v) w := by
  obtain ⟨a, n, c, h1, rfl⟩ := hy
  obtain rfl : args = #[x] := by simpa using congrArg List.toArray hx
  simp [Builtin.len_, ha x _ h1, run_underlying ht, h0, goInt, go_sem]
theorem bound_run {x : Operand} {y n : Nat} {code : BoundsCode} (hb : obound l (some x) 0 n) (hn : n ≤ y) (ha : Agr l ρ) : (Instr.sliceBound (ρ x) y code).run P w = .ok n w := by
  obtain ⟨k, i, h1, h2, rfl⟩ := hb
  simp [Instr.sliceBound, ha x _ h1, asIntOf, h2, show i ≤ (y : Int) by omega, go_sem]
theorem slc_sound {t e : TypeId} {x : Operand} {lo hi : Option Operand} {ie : TypeInfo} (ht : P.underlying t = some (.slice e)) (he : P.info? e = some ie)
    (hy : (QOp.slc x lo hi ie.size).Y P l v w) (ha : Agr l ρ) : (execOp ρ ⟨d, .slice t x lo hi none, ty, pos, af, g⟩).run P w = .ok (.value v) w := by
  obtain ⟨p, n, c, lo', hi', h1, h2, h3, h4, h5, rfl⟩ := hy
  cases lo with
  | none =>
    simp only [obound] at h2; subst h2
    cases hi with
    | none => simp only [obound] at h3; subst h3; simp [execOp, Instr.sliceAt, Instr.slice, ha x _ h1, run_underlying ht, sizeOf_run he, go_sem]
    | some y =>
      have := @bound_run P l w ρ y c hi' .sliceAcap h3 h5 ha
      simp [execOp, Instr.sliceAt, Instr.slice, ha x _ h1, run_underlying ht, this, sizeOf_run he, go_sem]
  | some z =>
    have hz := @bound_run P l w ρ z hi' lo' .sliceB h2 h4 ha
    cases hi with
    | none => simp only [obound] at h3; subst h3; simp [execOp, Instr.sliceAt, Instr.slice, ha x _ h1, run_underlying ht, hz, sizeOf_run he, go_sem]
    | some y =>
      have := @bound_run P l w ρ y c hi' .sliceAcap h3 h5 ha
      simp [execOp, Instr.sliceAt, Instr.slice, ha x _ h1, run_underlying ht, this, hz, sizeOf_run he, go_sem]
theorem ld_sound {t : TypeId} {x : Operand} (ht : scalarT P t = true) (hy : (QOp.ld x).Y P l v w) (ha : Agr l ρ) : (execOp ρ ⟨d, .load t x, ty, pos, af, g⟩).run P w = .ok (.value v) w := by
  obtain ⟨p, h1, h2⟩ := hy
  simp [execOp, Instr.loadAt, Instr.sureAddr, ha x _ h1, loadVar, isAgg_false ht, h2, go_sem]
theorem loadCells_run {p : Addr} : ∀ (n i : Nat) (acc vs : Array Value), vs.size = i + n → (∀ j, i ≤ j → j < i + n → w.cell? (p.add j) = vs[j]?) → acc = vs.extract 0 i → (loadCellsFrom p i n acc).run P w = .ok vs w := by
  intro n
  induction n with
  | zero =>
    intro i acc vs hs _ ha
    have e : acc = vs := by rw [ha]; simp; omega
    subst e
    simp [loadCellsFrom, go_sem]
  | succ n ih =>
    intro i acc vs hs hc ha
    have h1 := hc i (Nat.le_refl _) (by omega)
    have hi : i < vs.size := by omega
    rw [Array.getElem?_eq_getElem hi] at h1
    have := ih (i + 1) (acc.push vs[i]) vs (by omega) (fun j h2 h3 => hc j (by omega) (by omega)) (by rw [ha]; simp)
    simp only [loadCellsFrom]
    simp [h1, this, go_sem]
theorem ldn_sound {t : TypeId} {x : Operand} {n : Nat} (ht : aggT P t = some n) (hy : (QOp.ldn x n).Y P l v w) (ha : Agr l ρ) : (execOp ρ ⟨d, .load t x, ty, pos, af, g⟩).run P w = .ok (.value v) w := by
  obtain ⟨p, vs, h1, h2, h3, rfl⟩ := hy
  have := @loadCells_run P w p n 0 #[] vs (by omega) (fun j _ h => h3 j (by omega)) (by simp)
  simp [execOp, Instr.loadAt, Instr.sureAddr, ha x _ h1, loadVar, (isAgg_true ht).1, (isAgg_true ht).2, loadCells, this, go_sem]

theorem fill_fold (off : Nat) : ∀ (cs : List Value) (k : Nat) (A : Array Value) (i : Nat), (List.foldl (fun (a : Array Value) (x : Value × Nat) => a.setIfInBounds (off + x.2) x.1) A (cs.zipIdx k))[i]? =
    if off + k ≤ i ∧ i < off + k + cs.length ∧ i < A.size then cs[i - (off + k)]? else A[i]? := by
  intro cs
  induction cs with
  | nil => intro k A i; simp; intro h1 h2; omega
  | cons c r ih =>
    intro k A i
    simp only [List.zipIdx_cons, List.foldl_cons]
    rw [ih (k + 1)]
    simp only [Array.size_setIfInBounds, List.length_cons]
    by_cases h1 : off + k = i
    · subst h1
      rw [if_neg (by omega)]
      by_cases h2 : off + k < A.size
      · rw [if_pos ⟨by omega, by omega, h2⟩]; simp [h2]
      · rw [if_neg (by omega), Array.getElem?_eq_none (by simp; omega), Array.getElem?_eq_none (by omega)]
    · rw [Array.getElem?_setIfInBounds_ne h1]
      by_cases h2 : off + (k + 1) ≤ i ∧ i < off + (k + 1) + r.length ∧ i < A.size
      · rw [if_pos h2, if_pos ⟨by omega, by omega, h2.2.2⟩]
        rw [show i - (off + k) = (i - (off + (k + 1))) + 1 by omega]; simp
      · rw [if_neg h2, if_neg (by omega)]

theorem setL_spec : ∀ (l : List Value) (n : Nat) (vs r : List Value), setL l n vs = some r → (vs = [] ∨ n + vs.length ≤ l.length) ∧ r.length = l.length ∧ ∀ i, r[i]? = if n ≤ i ∧ i < n + vs.length then vs[i - n]? else l[i]?
  | l, n, [], r, h => by
    cases l <;> simp only [setL, Option.some.injEq] at h <;> subst h <;> refine ⟨.inl rfl, rfl, fun i => ?_⟩ <;> rw [if_neg (by simp)]
  | [], _, _ :: _, _, h => by simp [setL] at h
  | a :: l, 0, v :: vs, r, h => by
    simp only [setL] at h
    cases h1 : setL l 0 vs with
    | none => rw [h1] at h; cases h
    | some r' =>
      rw [h1] at h; cases h
      obtain ⟨h2, h3, h4⟩ := setL_spec l 0 vs r' h1
      refine ⟨.inr ?_, by simp [h3], fun i => ?_⟩
      · rcases h2 with rfl | h2
        · simp
        · simp; omega
      · cases i with
        | zero => simp
        | succ i =>
          have := h4 i
          simp only [List.getElem?_cons_succ, this, List.length_cons]
          by_cases hc : i < vs.length
          · rw [if_pos (by omega), if_pos (by omega)]; simp
          · rw [if_neg (by omega), if_neg (by omega)]
  | a :: l, n + 1, v :: vs, r, h => by
    simp only [setL] at h
    cases h1 : setL l n (v :: vs) with
    | none => rw [h1] at h; cases h
    | some r' =>
      rw [h1] at h; cases h
      obtain ⟨h2, h3, h4⟩ := setL_spec l n (v :: vs) r' h1
      refine ⟨.inr ?_, by simp [h3], fun i => ?_⟩
      · rcases h2 with h2 | h2
        · cases h2
        · simp at h2 ⊢; omega
      · cases i with
        | zero => rw [if_neg (by omega)]; simp
        | succ i =>
          have := h4 i
          simp only [List.getElem?_cons_succ, this]
          by_cases hc : n ≤ i ∧ i < n + (v :: vs).length
          · rw [if_pos hc, if_pos (by omega), show i + 1 - (n + 1) = i - n by omega]
          · rw [if_neg hc, if_neg (by omega)]

theorem cellsL_eq (u : Value) : (cellsL u).toArray = u.cells := by
  cases u <;> rfl

theorem fill_bldv {fs : Array Field} (ha : Agr l ρ) : ∀ (parts : List (Nat × Operand)) (ps : List (Nat × Nat × Operand)) (zero vs : List Value) (pl : Nat → Option (Nat × Nat)), placeParts P fs parts = some ps → (∀ i x, placeOf P fs i = some x → pl i = some x) →
    bldv l zero ps = some vs → Instr.fill pl zero.toArray (parts.map fun y => (y.1, ρ y.2)) = some vs.toArray
  | [], ps, zero, vs, pl, h, _, hb => by
    simp only [placeParts, Option.some.injEq] at h; subst h
    simp only [bldv, Option.some.injEq] at hb; subst hb
    rfl
  | (i, x) :: parts, ps, zero, vs, pl, h, hpl, hb => by
    simp only [placeParts] at h
    cases h1 : placeOf P fs i with
    | none => rw [h1] at h; cases h
    | some os =>
      obtain ⟨off, sz⟩ := os
      cases h2 : placeParts P fs parts with
      | none => rw [h1, h2] at h; cases h
      | some r' =>
        rw [h1, h2] at h
        simp only at h
        split at h
        · cases h
        rename_i hsz0
        cases h
        simp only [bldv] at hb
        cases h3 : ev l x with
        | none => rw [h3] at hb; cases hb
        | some u =>
          rw [h3] at hb
          simp only at hb
          cases hlen : Nat.beq (cellsL u).length sz with
          | false => rw [hlen] at hb; cases hb
          | true =>
            rw [hlen] at hb
            have hsz := Nat.eq_of_beq_eq_true hlen
            cases h4 : setL zero off (cellsL u) with
            | none => rw [h4] at hb; cases hb
            | some z =>
              rw [h4] at hb
              simp only [cond_true] at hb
              obtain ⟨h5, h6, h7⟩ := setL_spec zero off (cellsL u) z h4
              have hus : u.cells.size = sz := by rw [← cellsL_eq]; simpa using hsz
              have hle : off + sz ≤ zero.length := by
                rcases h5 with h5 | h5
                · rw [h5] at hsz; simp at hsz; omega
                · omega
              have hfold : Array.foldl (fun (cs : Array Value) (y : Value × Nat) => cs.setIfInBounds (off + y.2) y.1) zero.toArray u.cells.zipIdx = z.toArray := by
                apply Array.ext_getElem?
                intro k
                have := fill_fold off u.cells.toList 0 zero.toArray k
                rw [← Array.foldl_toList, Array.toList_zipIdx]
                simp only [Nat.add_zero] at this
                rw [this]
                simp only [List.getElem?_toArray]
                rw [h7 k]
                have hcl : u.cells.toList = cellsL u := by rw [← cellsL_eq]
                rw [hcl]
                by_cases hk : off ≤ k ∧ k < off + (cellsL u).length
                · rw [if_pos hk, if_pos ⟨hk.1, hk.2, by simp; omega⟩]
                · rw [if_neg hk, if_neg (by intro h; exact hk ⟨h.1, h.2.1⟩)]
              simp only [List.map_cons, Instr.fill, hpl i _ h1, ha x u h3, hus]
              rw [if_neg (by simp; omega), hfold]
              exact fill_bldv ha parts r' z vs pl h2 hpl hb

theorem mapM_places {fs : List Field} (h : allInfo P fs = true) : (fs.mapM fun (f : Field) => (do pure (f.offset, ← Go.sizeOf f.type) : Sem (Nat × Nat))).run P w = .ok (fs.map fun f => (f.offset, (P.cellsOf f.type))) w := by
  induction fs with
  | nil => rfl
  | cons f r ih =>
    simp only [allInfo, List.all_cons, Bool.and_eq_true] at h
    obtain ⟨i, hi⟩ := Option.isSome_iff_exists.1 h.1
    have := ih h.2
    rw [List.mapM_cons]
    simp only [Sem.run_bind, sizeOf_run hi, Result.andThen_ok, Sem.run_pure, this, List.map_cons]
    simp [Program.cellsOf, hi]

theorem bld_sound {t : TypeId} {fs : Array Field} {i : TypeInfo} {z : Value} {parts : Array (Nat × Operand)} {ps : List (Nat × Nat × Operand)} (ht : P.underlying t = some (.struct fs)) (hi : P.info? t = some i) (hz : i.zero = some z) (hp : placeParts P fs parts.toList = some ps) (hall : allInfo P fs.toList = true)
    (hy : (QOp.bld z.cells.toList ps).Y P l v w) (ha : Agr l ρ) : (execOp ρ ⟨d, .build t parts, ty, pos, af, g⟩).run P w = .ok (.value v) w := by
  obtain ⟨vs, h1, rfl⟩ := hy
  have hzv : (zeroValue t).run P w = .ok z w := by simp [zeroValue, typeInfo_run hi, hz]
  have hpl : (fs.mapM fun (f : Field) => (do pure (f.offset, ← Go.sizeOf f.type) : Sem (Nat × Nat))).run P w = .ok (fs.toList.map fun f => (f.offset, P.cellsOf f.type)).toArray w := by
    have := mapM_places (P := P) (w := w) hall
    have e : fs = fs.toList.toArray := by simp
    rw [e, List.mapM_toArray]
    simp only [Sem.run_map, this, Result.andThen_ok]
  have hfill := fill_bldv (P := P) (fs := fs) ha parts.toList ps z.cells.toList vs (fun k => ((fs.toList.map fun f => (f.offset, P.cellsOf f.type)).toArray)[k]?) hp (by
    intro k x hk
    unfold placeOf at hk
    cases hf : fs[k]? with
    | none => rw [hf] at hk; cases hk
    | some f =>
      rw [hf] at hk
      simp only at hk
      cases hfi : P.info? f.type with
      | none => rw [hfi] at hk; cases hk
      | some ti => rw [hfi] at hk; cases hk; simp [hf, Program.cellsOf, hfi]) h1
  have hb : (Instr.build t (parts.map fun y => (y.1, ρ y.2))).run P w = .ok (.agg vs.toArray) w := by
    unfold Instr.build
    simp only [Sem.run_bind, hzv, Result.andThen_ok, run_underlying ht, hpl, Array.toList_map]
    rw [show z.cells.toList.toArray = z.cells by simp] at hfill
    rw [hfill]
    rfl
  show Sem.run P (do let r ← Instr.build t (parts.map fun (y : Nat × Operand) => (y.1, ρ y.2)); pure (Next.value r)) w = _
  rw [Sem.run_bind, hb]
  rfl

theorem compQ_sound {o : Oper} {q : QOp} {rd : Bool} (hc : compQ P o = some (q, rd)) (hy : q.Y P l v w) (ha : Agr l ρ) : (execOp ρ o).run P w = .ok (.value v) w := by
  obtain ⟨d, op, ty, pos, af, g⟩ := o
  have raw : ∀ {rd' : Bool} {o' : Oper}, some (QOp.raw (strip o'), rd') = some (q, rd) → (execOp ρ o').run P w = .ok (.value v) w := by
    intro rd' o' h
    cases h
    exact raw_sound hy ha
  cases op <;> simp only [compQ] at hc
  case move x => cases hc; exact mov_sound hy ha
  case assign x => cases hc; exact assign_sound hy ha
  case pick c a b => cases hc; exact pick_sound hy ha
  case nilCheck x => cases hc; exact nilc_sound hy ha
  case extract x k => cases hc; exact ext_sound hy ha
  case fieldAddr s x f =>
    split at hc
    · rename_i fs hs
      split at hc
      · rename_i fd hf
        split at hc
        · rename_i i hi
          split at hc
          · exact raw hc
          · rename_i h0; cases hc; exact fld_sound hs hf hi h0 hy ha
        · cases hc
      · cases hc
    · cases hc
  case field s x f =>
    split at hc
    · rename_i fs hs
      split at hc
      · rename_i fd hf
        split at hc
        · rename_i hsc; cases hc; exact fldv_sound hs hf hsc hy ha
        · split at hc
          · rename_i n hn; cases hc; exact fldn_sound hs hf hn hy ha
          · cases hc
      · cases hc
    · cases hc
  case indexAddr t x i =>
    split at hc
    · rename_i e ht
      split at hc
      · rename_i ie he; cases hc; exact idx_sound ht he hy ha
      · cases hc
    · rename_i n e ht
      split at hc
      · rename_i ie he; cases hc; exact idxa_sound ht he hy ha
      · cases hc
    · cases hc
  case binOp op t x y t' =>
    split at hc
    · split at hc
      · cases hc; exact sh_sound (lft := true) hy ha
      · cases hc; exact sh_sound (lft := false) hy ha
      · cases hc; exact bin_sound hy ha
    · rename_i e ht
      split at hc
      · cases hc; exact nilp_sound false ht hy ha
      · cases hc; exact nilp_sound true ht hy ha
      · exact raw hc
    · exact raw hc
  case unOp op t x =>
    split at hc
    · cases hc; exact not_sound hy ha
    · cases hc; exact neg_sound hy ha
    · cases hc; exact xorn_sound hy ha
    · exact raw hc
  case convert s t x =>
    split at hc
    · rename_i k' k hs ht; cases hc; exact cvi_sound hs ht hy ha
    · exact raw hc
  case slice t x lo hi mx =>
    cases mx with
    | none =>
      simp only at hc
      split at hc
      · rename_i e ht
        split at hc
        · rename_i ie he; cases hc; exact slc_sound ht he hy ha
        · cases hc
      · exact raw hc
    | some m => simp only [quietHead, if_true] at hc; exact raw hc
  case build t parts =>
    split at hc
    · rename_i fs i ht hi
      split at hc
      · rename_i z ps hz hp
        split at hc
        · rename_i hall; cases hc; exact bld_sound ht hi hz hp hall hy ha
        · exact raw hc
      · exact raw hc
    · exact raw hc
  case makeFunc fn a c => cases hc; exact mkf_sound hy ha
  case load t x =>
    split at hc
    · rename_i ht; cases hc; exact ld_sound ht hy ha
    · split at hc
      · rename_i n hn; cases hc; exact ldn_sound hn hy ha
      · cases hc
  case call c =>
    obtain ⟨callee, args, ats⟩ := c
    cases callee with
    | builtin b =>
      cases b
      case len =>
        simp only at hc
        split at hc
        · rename_i t x h0 hx
          split at hc
          · rename_i e ht; cases hc; exact len_sound h0 hx ht hy ha
          · exact raw hc
        · exact raw hc
      case min =>
        simp only at hc
        split at hc
        · rename_i t x y h0 hx
          split at hc
          · cases hc; exact mm_sound (mx := false) hx hy ha
          · exact raw hc
        · exact raw hc
      case max =>
        simp only at hc
        split at hc
        · rename_i t x y h0 hx
          split at hc
          · cases hc; exact mm_sound (mx := true) hx hy ha
          · exact raw hc
        · exact raw hc
      all_goals
        (simp only [quietHead] at hc
         first
           | (simp at hc; done)
           | (rw [if_pos trivial] at hc; exact raw hc))
    | value f => simp [quietHead] at hc
    | invoke r m => simp [quietHead] at hc
  all_goals
    (simp only [quietHead] at hc
     first
       | (simp at hc; done)
       | (rw [if_pos trivial] at hc; exact raw hc))

theorem compQ_free {o : Oper} {q : QOp} (hc : compQ P o = some (q, false)) (hy : q.Y P l v w) (w' : World) : q.Y P l v w' := by
  cases q <;> first | exact hy | skip
  all_goals
    exfalso
    unfold compQ at hc
    repeat' split at hc
    all_goals (first | (simp at hc; done) | skip)
end
end Go.Tum
