/-
  What the operations that are left as they are come to: maps, make, min and max.
-/
import Derived.Test.YtnleiiniajinbaaMap
import Derived.Test.YtnleiiniajinbaaLoop
namespace Go.Tum
open Go

def lookupOp (mT : TypeId) (x k : Operand) (ok : Bool) (ty : TypeId) : Oper := ⟨none, .lookup mT x k ok, ty, "", #[], none⟩
def mapEntryOp (mT : TypeId) (x k : Operand) (ty : TypeId) : Oper := ⟨none, .mapEntry mT x k, ty, "", #[], none⟩
def entryStoreOp (mT : TypeId) (x s v : Operand) (ty : TypeId) : Oper := ⟨none, .entryStore mT x s v, ty, "", #[], none⟩
def deleteOp (x k : Operand) (mT kT ty : TypeId) : Oper := ⟨none, .call ⟨.builtin .delete, #[x, k], #[mT, kT]⟩, ty, "", #[], none⟩
def mapUpdateOp (mT : TypeId) (x k v : Operand) (ty : TypeId) : Oper := ⟨none, .mapUpdate mT x k v, ty, "", #[], none⟩
def lenOp (x : Operand) (mT ty : TypeId) : Oper := ⟨none, .call ⟨.builtin .len, #[x], #[mT]⟩, ty, "", #[], none⟩
def makeMapOp (mT ty : TypeId) : Oper := ⟨none, .makeMap mT none, ty, "", #[], none⟩
def makeSliceOp (sT : TypeId) (n c : Operand) (ty : TypeId) : Oper := ⟨none, .makeSlice sT n c, ty, "", #[], none⟩
def minOp (x y : Operand) (a b ty : TypeId) : Oper := ⟨none, .call ⟨.builtin .min, #[x, y], #[a, b]⟩, ty, "", #[], none⟩
def maxOp (x y : Operand) (a b ty : TypeId) : Oper := ⟨none, .call ⟨.builtin .max, #[x, y], #[a, b]⟩, ty, "", #[], none⟩

section
variable {P : Program} {w : World} {l : Env} {K : Value → World → Prop}

theorem zero_run {E : TypeId} {i : TypeInfo} {z : Value} (hi : P.info? E = some i) (hz : i.zero = some z) (w : World) : (zeroValue E).run P w = .ok z w := by simp [zeroValue, typeInfo_run hi, hz]

variable {κ : Type} [DecidableEq κ] {Kt E mT ty : TypeId} {enc : κ → Value} {b c : Nat} {m : List (κ × Value × Nat)} {k : κ} {x y : Operand}

theorem lookup_Y {z v : Value} (hT : P.underlying mT = some (.map Kt E)) (hk : KeyLaw P Kt enc) (hz : ∀ w, (zeroValue E).run P w = .ok z w) (hx : ev l x = some (.map (some b))) (hy : ev l y = some (enc k)) (hm : Mp enc w b m c)
    (hv : ((mfind m k).map (·.2.1)).getD z = v) : (QOp.raw (lookupOp mT x y false ty)).Y P l v w := by
  intro ρ w0 ha hs
  simp only [execOp, lookupOp, ha x _ hx, ha y _ hy, Sem.run_bind, lookup_run hT hk (hz w0) (hm.sim hs), hv]
  rfl
theorem lookupOk_Y {z v : Value} (hT : P.underlying mT = some (.map Kt E)) (hk : KeyLaw P Kt enc) (hz : ∀ w, (zeroValue E).run P w = .ok z w) (hx : ev l x = some (.map (some b))) (hy : ev l y = some (enc k)) (hm : Mp enc w b m c)
    (hv : .tuple #[((mfind m k).map (·.2.1)).getD z, .bool (mfind m k).isSome] = v) : (QOp.raw (lookupOp mT x y true ty)).Y P l v w := by
  intro ρ w0 ha hs
  simp only [execOp, lookupOp, ha x _ hx, ha y _ hy, Sem.run_bind, lookup_ok_run hT hk (hz w0) (hm.sim hs), hv]
  rfl
omit [DecidableEq κ] in
theorem lenMap_Y (hT : P.underlying mT = some (.map Kt E)) (hx : ev l x = some (.map (some b))) (hm : Mp enc w b m c) : (QOp.raw (lenOp x mT ty)).Y P l (.int .i64 m.length) w := by
  intro ρ w0 ha hs
  have := len_run (P := P) (ty := ty) hT (hm.sim hs)
  simp [execOp, lenOp, resolve, invoke, builtin, ha x _ hx, this]
theorem mapEntry_W {z : Value} (hT : P.underlying mT = some (.map Kt E)) (hk : KeyLaw P Kt enc) (hz : ∀ w, (zeroValue E).run P w = .ok z w) (hx : ev l x = some (.map (some b))) (hy : ev l y = some (enc k)) (hm : Mp enc w b m c)
    (h : ∀ w', Mp enc w' b (ment m k z c).2.1 (ment m k z c).2.2 → Fr (· = b) w w' → w'.heap.size = w.heap.size → K (.tuple #[(ment m k z c).1.2.1, .int .i64 (ment m k z c).1.2.2]) w') : (EOp.raw (mapEntryOp mT x y ty)).W P K l w := by
  intro ρ w0 ha hs
  refine Eff.value ?_ ⟨_, hs.setObj b (.map ((ment m k z c).2.1.map (mkE enc)).toArray (ment m k z c).2.2), h _ ?_ (Fr.setObj w b _) (by simp)⟩
  · simp only [execOp, mapEntryOp, ha x _ hx, ha y _ hy, Sem.run_bind, mapEntry_run hT hk (hz w0) (hm.sim hs)]
    rfl
  · unfold Mp
    simp [hm.lt]
theorem entryStore_W {i : Nat} {e : κ × Value × Nat} {s v : Operand} {u : Value} (hx : ev l x = some (.map (some b))) (hs' : ev l s = some (.int .i64 e.2.2)) (hv : ev l v = some u) (hm : Mp enc w b m c) (hw : Wf m c) (he : m[i]? = some e)
    (h : ∀ w', Mp enc w' b (mput m e.1 u) c → Fr (· = b) w w' → w'.heap.size = w.heap.size → K undef w') : (EOp.raw (entryStoreOp mT x s v ty)).W P K l w := by
  intro ρ w0 ha hs
  refine Eff.skip ?_ ⟨_, hs.setObj b (.map ((mput m e.1 u).map (mkE enc)).toArray c), h _ ?_ (Fr.setObj w b _) (by simp)⟩
  · simp only [execOp, entryStoreOp, ha x _ hx, ha s _ hs', ha v _ hv, Sem.run_bind, entryStore_run (hm.sim hs) hw he]
    rfl
  · unfold Mp
    simp [hm.lt]
theorem delete_W {kT : TypeId} (hT : P.underlying mT = some (.map Kt E)) (hk : KeyLaw P Kt enc) (hx : ev l x = some (.map (some b))) (hy : ev l y = some (enc k)) (hm : Mp enc w b m c) (hw : Wf m c)
    (h : ∀ w', Mp enc w' b (mdel m k) c → Fr (· = b) w w' → w'.heap.size = w.heap.size → K (.tuple #[]) w') : (EOp.raw (deleteOp x y mT kT ty)).W P K l w := by
  intro ρ w0 ha hs
  refine Eff.value ?_ ⟨_, hs.setObj b (.map ((mdel m k).map (mkE enc)).toArray c), h _ ?_ (Fr.setObj w b _) (by simp)⟩
  · have := delete_run (P := P) (kT := kT) (ty := ty) (k := k) hT hk (hm.sim hs) hw
    simp [execOp, deleteOp, resolve, invoke, builtin, ha x _ hx, ha y _ hy, this]
  · unfold Mp
    simp [hm.lt]
def mset (m : List (κ × Value × Nat)) (k : κ) (v : Value) (c : Nat) : List (κ × Value × Nat) × Nat :=
  match mfind m k with
  | some _ => (mput m k v, c)
  | none => (m ++ [(k, v, c)], c + 1)
theorem Wf.mset (hw : Wf m c) (v : Value) : Wf (mset m k v c).1 (mset m k v c).2 := by
  unfold Tum.mset
  cases h : mfind m k with
  | none => exact hw.push h v
  | some x => exact hw.put v
theorem mapUpdate_W {v : Operand} {u : Value} (hT : P.underlying mT = some (.map Kt E)) (hk : KeyLaw P Kt enc) (hx : ev l x = some (.map (some b))) (hy : ev l y = some (enc k)) (hv : ev l v = some u) (hm : Mp enc w b m c) (hw : Wf m c)
    (h : ∀ w', Mp enc w' b (mset m k u c).1 (mset m k u c).2 → Fr (· = b) w w' → w'.heap.size = w.heap.size → K undef w') : (EOp.raw (mapUpdateOp mT x y v ty)).W P K l w := by
  intro ρ w0 ha hs
  refine Eff.skip ?_ ⟨_, hs.setObj b (.map ((mset m k u c).1.map (mkE enc)).toArray (mset m k u c).2), h _ ?_ (Fr.setObj w b _) (by simp)⟩
  · simp only [execOp, mapUpdateOp, ha x _ hx, ha y _ hy, ha v _ hv, Sem.run_bind, update_run (v := u) (k := k) hT hk (hm.sim hs) hw, mset]
    cases mfind m k <;> rfl
  · unfold Mp
    simp [hm.lt]
omit [DecidableEq κ] in
theorem makeMap_W (enc : κ → Value) (h : ∀ w', Mp enc w' w.heap.size [] 0 → Fr (fun _ => False) w w' → w'.heap.size = w.heap.size + 1 → K (.map (some w.heap.size)) w') : (EOp.raw (makeMapOp mT ty)).W P K l w := by
  intro ρ w0 ha hs
  refine Eff.value (v := .map (some w0.heap.size)) (w' := w0.alloc (.map #[] 0)) ?_ ⟨w.alloc (.map #[] 0), hs.push _, ?_⟩
  · simp [execOp, makeMapOp, Instr.makeMap]
  · rw [hs.heap]; exact h _ (Mp.new enc w) (Fr.alloc _ w _) (by show (w.heap.push _).size = _; simp)

theorem makeSlice_W {sT e : TypeId} {sz bytes : Nat} {xn xc : Operand} {n : Nat} {z : Value} (he : P.underlying sT = some (.slice e)) (hi : ∃ i, P.info? e = some i ∧ i.size = sz ∧ i.bytes = bytes ∧ i.zero = some z) (hz1 : z.cells = #[z]) (hz2 : one z = true) (hsz : sz = 1) (hb : bytes * n ≤ 281474976710656) (hn64 : n ≤ 9223372036854775807)
    (hn : ev l xn = some (.int .i64 n)) (hc : ev l xc = some (.int .i64 n))
    (h : ∀ w' v, Sl w' 1 v n (List.replicate n z) [w.heap.size] → Fr (fun _ => False) w w' → w'.heap.size = w.heap.size + 1 → v = .slice (some ⟨w.heap.size, 0, none⟩) n n → Blk w' w.heap.size (List.replicate n z) → K v w') : (EOp.raw (makeSliceOp sT xn xc ty)).W P K l w := by
  intro ρ w0 ha hs
  obtain ⟨i, hi, h1, h2, hz⟩ := hi
  subst hsz
  have hrow : ((Array.range n).map fun j => z.cells[j % z.cells.size]!) = (List.replicate n z).toArray := by
    apply Array.ext'
    rw [hz1]
    simp only [Array.toList_map, Array.toList_range]
    apply List.ext_getElem?
    intro j
    simp only [List.getElem?_map, List.getElem?_replicate]
    by_cases hj : j < n
    · simp [hj, Nat.mod_one]
    · simp [hj]
  have hblk := Blk.new w (List.replicate n z) e
  refine Eff.value (v := .slice (some ⟨w0.heap.size, 0, none⟩) n n) (w' := w0.alloc (.cells (List.replicate n z).toArray e)) ?_ ⟨w.alloc (.cells (List.replicate n z).toArray e), hs.push _, ?_⟩
  · have hwr : IntKind.i64.wrap (n : Int) = n := wrap64_id (by omega) (by omega)
    have hbi : ¬ ((281474976710656 : Int) < (bytes : Int) * (n : Int)) := by
      have : ((bytes * n : Nat) : Int) ≤ ((281474976710656 : Nat) : Int) := Int.ofNat_le.2 hb
      rw [Int.natCast_mul] at this
      omega
    simp only [execOp, makeSliceOp, Instr.makeSlice, ha xn _ hn, ha xc _ hc]
    by_cases hn0 : n = 0
    · subst hn0
      have hwr0 : IntKind.i64.wrap 0 = 0 := hwr
      simp [run_underlying he, typeInfo_run hi, asInt, asIntOf, sizeOf_run hi, h1, newRow, hwr0]
      rw [show (Array.range 0) = #[] from Array.eq_empty_of_size_eq_zero (by simp), Array.map_empty]
    · simp [run_underlying he, typeInfo_run hi, asInt, asIntOf, h2, sizeOf_run hi, h1, newRow, hwr, hbi, hn0, zero_run hi hz]
      rw [if_neg (by omega), hrow]
      simp
  · rw [hs.heap]
    refine h _ _ ⟨by simp, fun u hu => by rw [List.eq_of_mem_replicate hu]; exact hz2, .inr ⟨_, 0, n, _, rfl, rfl, hblk, by simp, Nat.le_refl _, by simp⟩⟩ (Fr.alloc _ w _) (by show (w.heap.push _).size = _; simp) rfl hblk
theorem min_Y {a b ty : TypeId} {kd : IntKind} {p q : Int} (hx : ev l x = some (.int kd p)) (hy : ev l y = some (.int kd q)) : (QOp.raw (minOp x y a b ty)).Y P l (.int kd (min p q)) w := by
  intro ρ w0 ha hs
  have : (if q < p then q else p) = min p q := by rw [Int.min_def]; split <;> split <;> omega
  simp [execOp, minOp, resolve, invoke, builtin, Builtin.min_, Builtin.min2, ha x _ hx, ha y _ hy, this]
theorem max_Y {a b ty : TypeId} {kd : IntKind} {p q : Int} (hx : ev l x = some (.int kd p)) (hy : ev l y = some (.int kd q)) : (QOp.raw (maxOp x y a b ty)).Y P l (.int kd (max p q)) w := by
  intro ρ w0 ha hs
  have : (if q > p then q else p) = max p q := by rw [Int.max_def]; split <;> split <;> omega
  simp [execOp, maxOp, resolve, invoke, builtin, Builtin.max_, Builtin.max2, ha x _ hx, ha y _ hy]
  omega
end

/-! ### structs that are compared -/
section
variable {P : Program} {w : World}
theorem equalIn_int {d : Nat} {t : TypeId} {k k' : IntKind} {a b : Int} (h : P.underlying t = some (.int k')) : (Op.equalIn (d + 1) t (.int k a) (.int k b)).run P w = .ok (a == b) w := by
  unfold Op.equalIn
  simp [run_underlying h]
theorem part_scalar {t : TypeId} {cs : Array Value} {o : Nat} {v : Value} (h : scalarT P t = true) (hv : cs[o]? = some v) : (part t cs o).run P w = .ok v w := by
  simp [part, isAgg_false h, hv]
theorem eqFields_int {d : Nat} {f : Field} {fs : List Field} {xs ys : Array Value} {k k' : IntKind} {a b : Int} (hn : f.name ≠ "_") (ht : P.underlying f.type = some (.int k')) (hx : xs[f.offset]? = some (.int k a)) (hy : ys[f.offset]? = some (.int k b)) :
    (Op.eqFields (d + 1) xs ys (f :: fs)).run P w = if a = b then (Op.eqFields (d + 1) xs ys fs).run P w else .ok false w := by
  have hs : scalarT P f.type = true := by simp [scalarT, ht]
  simp only [Op.eqFields, if_pos hn, Sem.run_bind, part_scalar hs hx, part_scalar hs hy, Result.andThen_ok, equalIn_int ht]
  by_cases h : a = b
  · subst h; simp
  · simp [h]
theorem eqFields_nil {d : Nat} {xs ys : Array Value} : (Op.eqFields d xs ys []).run P w = .ok true w := rfl

/-- two ints as a key -/
def pairV (k : Int × Int) : Value := .agg #[.int .i64 k.1, .int .i64 k.2]

theorem pair_equal {t : TypeId} {f1 f2 : Field} {k1 k2 : IntKind} (hu : P.underlying t = some (.struct (P.fieldsOf t))) (hp : P.stoodInHeld t = false) (hf : (P.fieldsOf t).toList = [f1, f2]) (hn1 : f1.name ≠ "_") (hn2 : f2.name ≠ "_") (ho1 : f1.offset = 0) (ho2 : f2.offset = 1)
    (ht1 : P.underlying f1.type = some (.int k1)) (ht2 : P.underlying f2.type = some (.int k2)) (a b : Int × Int) (w : World) : (Op.equal t (pairV a) (pairV b)).run P w = .ok (decide (b = a)) w := by
  unfold Op.equal Op.maxDepth pairV
  rw [show (10000 : Nat) = 9998 + 1 + 1 from rfl, run_equalIn_agg _ _ _ _ _ hu hp, hf]
  rw [eqFields_int (k := .i64) (a := a.1) (b := b.1) hn1 ht1 (by rw [ho1]; rfl) (by rw [ho1]; rfl), eqFields_int (k := .i64) (a := a.2) (b := b.2) hn2 ht2 (by rw [ho2]; rfl) (by rw [ho2]; rfl), eqFields_nil]
  obtain ⟨a1, a2⟩ := a
  obtain ⟨b1, b2⟩ := b
  by_cases h1 : a1 = b1
  · by_cases h2 : a2 = b2
    · subst h1; subst h2; simp
    · have : ¬ b2 = a2 := fun e => h2 e.symm
      simp [h1, h2, this]
  · have : ¬ b1 = a1 := fun e => h1 e.symm
    simp [h1, this]

theorem keyLaw_pair {t : TypeId} (heq : ∀ (a b : Int × Int) (w : World), (Op.equal t (pairV a) (pairV b)).run P w = .ok (decide (b = a)) w) (hu : ∃ fs, P.underlying t = some (.struct fs)) (hc : ∀ e k w, (Instr.checkKey e 10000 t (pairV k)).run P w = .ok () w) : KeyLaw P t pairV := by
  refine ⟨hc, fun k => ?_, fun k m w => ?_⟩
  · unfold pairV
    rw [show (10000 : Nat) = 9998 + 1 + 1 from rfl]
    simp [Instr.sameBits]
  · obtain ⟨fs, hu⟩ := hu
    have ask : ∀ (m : List ((Int × Int) × Value × Nat)) (i : Nat), (Instr.findAsking t (pairV k) (m.map (mkE pairV)) i).run P w = .ok ((mix m k).bind fun j => m[j]?.map fun x => (i + j, x.2.1)) w := by
      intro m
      induction m with
      | nil => intro i; rfl
      | cons x r ih =>
        intro i
        simp only [List.map_cons, Instr.findAsking, mkE, Sem.run_bind, heq, Result.andThen_ok]
        by_cases h : x.1 = k
        · simp [h, mix, List.findIdx?_cons]
        · simp only [h, decide_false, Bool.false_eq_true, if_false]
          rw [ih (i + 1)]
          have : mix (x :: r) k = (mix r k).map (· + 1) := by
            simp only [mix, List.findIdx?_cons, h, decide_false, Bool.false_eq_true, if_false]
          rw [this]
          cases mix r k with
          | none => rfl
          | some j => simp [show i + 1 + j = i + (j + 1) by omega]
    unfold Instr.findKey
    simp only [Sem.run_bind, run_underlying hu, Result.andThen_ok]
    cases m with
    | nil => rfl
    | cons x r =>
      have hnow : Instr.findNow (.struct fs) (pairV k) ((x :: r).map (mkE pairV)) 0 = none := by
        simp [Instr.findNow, Instr.sameNow, pairV, mkE]
      rw [hnow]
      have := ask (x :: r) 0
      simp only [Nat.zero_add] at this
      exact this
end

/-! ### what stays -/
theorem Fr.cell {G : Nat → Prop} {w w' : World} (h : Fr G w w') {p : Addr} (hb : p.block < w.heap.size) (hn : ¬ G p.block) : w'.cell? p = w.cell? p := by
  unfold World.cell?; rw [h.keep p.block hb hn]

theorem ld_keep {P : Program} {x : Operand} {l : Env} {v : Value} {p : Addr} {w w' : World} (hx : ev l x = some (.pointer (some p))) (hc : w'.cell? p = w.cell? p) : (QOp.ld x).Y P l v w → (QOp.ld x).Y P l v w' := by
  rintro ⟨q, hq, hv⟩
  rw [hx] at hq; cases hq
  exact ⟨p, hx, by rw [hc]; exact hv⟩

theorem ldn_keep {P : Program} {x : Operand} {n : Nat} {l : Env} {v : Value} {p : Addr} {w w' : World} (hx : ev l x = some (.pointer (some p))) (hc : ∀ i, i < n → w'.cell? (p.add i) = w.cell? (p.add i)) : (QOp.ldn x n).Y P l v w → (QOp.ldn x n).Y P l v w' := by
  rintro ⟨q, vs, hq, h1, h2, h3⟩
  rw [hx] at hq; cases hq
  exact ⟨p, vs, hx, h1, fun i hi => by rw [hc i hi]; exact h2 i hi, h3⟩

/-- an object's blocks G have become G' -/
structure Grow (G G' : Nat → Prop) (w w' : World) : Prop where
  fr : Fr G w w'
  sub : ∀ b, G' b → G b ∨ w.heap.size ≤ b

theorem Grow.refl (G : Nat → Prop) (w : World) : Grow G G w w := ⟨Fr.refl _ w, fun _ h => .inl h⟩
theorem Grow.trans {A B C : Nat → Prop} {w w1 w2 : World} (h : Grow A B w w1) (k : Grow B C w1 w2) : Grow A C w w2 := by
  refine ⟨h.fr.trans k.fr fun b hb hB => ?_, fun b hC => ?_⟩
  · rcases h.sub b hB with h1 | h1
    · exact h1
    · omega
  · rcases k.sub b hC with h1 | h1
    · exact h.sub b h1
    · exact .inr (Nat.le_trans h.fr.size h1)
theorem Grow.disj {G G' H : Nat → Prop} {w w' : World} (h : Grow G G' w w') (hd : ∀ b, G b → H b → False) (hs : ∀ b, H b → b < w.heap.size) : ∀ b, G' b → H b → False := by
  intro b h1 h2
  rcases h.sub b h1 with h3 | h3
  · exact hd b h3 h2
  · have := hs b h2; omega

/-- all of G was made behind w, and nothing else has changed -/
def Fresh (w w' : World) (G : Nat → Prop) : Prop := Fr (fun _ => False) w w' ∧ ∀ b, G b → w.heap.size ≤ b
theorem Fresh.grow {w w1 w2 : World} {G G' : Nat → Prop} (h : Fresh w w1 G) (hg : Grow G G' w1 w2) : Fresh w w2 G' :=
  ⟨h.1.trans hg.fr fun b hb hG => by have := h.2 b hG; omega, fun b hb => by
    rcases hg.sub b hb with h1 | h1
    · exact h.2 b h1
    · exact Nat.le_trans h.1.size h1⟩

/-- a block of ints, of two cells: what a struct of two ints is as a value -/
theorem Blk.pair {w : World} {b : Nat} {x y : Value} (h : Blk w b [x, y]) : ∀ i, i < 2 → w.cell? ((⟨b, 0, none⟩ : Addr).add i) = [x, y][i]? := by
  intro i _
  rw [add_none, h.cellEq, Nat.zero_add]
end Go.Tum
