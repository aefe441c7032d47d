/-
  Runs by reckoning: make, copy, clear; maps with whole numbers for keys.
-/
import Derived.Test.YtnleiiniajinbaaRunAll
namespace Go.Tum
open Go

/-! ### rows of the same -/
def repC : Nat → List Value → List Value
  | 0, _ => []
  | n + 1, zs => zs ++ repC n zs
theorem repC_length (zs : List Value) : ∀ n, (repC n zs).length = n * zs.length
  | 0 => by simp [repC]
  | n + 1 => by simp [repC, repC_length zs n, Nat.add_mul]; omega
theorem repC_get (zs : List Value) : ∀ (n j : Nat), j < n * zs.length → (repC n zs)[j]? = zs[j % zs.length]?
  | 0, j, h => by simp at h
  | n + 1, j, h => by
    simp only [repC]
    rw [List.getElem?_append]
    split
    · rename_i hj; rw [Nat.mod_eq_of_lt hj]
    · rename_i hj
      have h1 : j - zs.length < n * zs.length := by rw [Nat.add_mul] at h; omega
      rw [repC_get zs n _ h1]
      congr 1
      rw [← Nat.mod_eq_sub_mod (by omega)]
theorem repC_mem {zs : List Value} {u : Value} : ∀ {n : Nat}, u ∈ repC n zs → u ∈ zs
  | 0, h => by simp [repC] at h
  | n + 1, h => by
    simp only [repC, List.mem_append] at h
    rcases h with h | h
    · exact h
    · exact repC_mem h
theorem rangeC (zero : Array Value) (n : Nat) (h : 0 < zero.size) : ((Array.range (n * zero.size)).map fun i => zero[i % zero.size]!) = (repC n zero.toList).toArray := by
  apply Array.ext'
  simp only [Array.toList_map, Array.toList_range]
  apply List.ext_getElem?
  intro j
  simp only [List.getElem?_map]
  by_cases hj : j < n * zero.size
  · have := repC_get zero.toList n j (by simpa using hj)
    rw [this]
    have hm : j % zero.size < zero.size := Nat.mod_lt _ h
    simp [hj, hm]
  · have hl : (repC n zero.toList).length ≤ j := by rw [repC_length]; simp; omega
    rw [List.getElem?_eq_none hl]
    simp [hj]

section
variable {P : Program} {w : World} {l : Env} {K : Value → World → Prop}

theorem makeSlice_any {sT e ty : TypeId} {xn xc : Operand} {n c : Nat} {i : TypeInfo} {z : Value} (he : P.underlying sT = some (.slice e)) (hi : P.info? e = some i) (hz : i.zero = some z) (hsz : z.cells.size = i.size) (hpos : 0 < i.size) (hnc : n ≤ c)
    (hb : i.bytes * c ≤ 140737488355328) (hn64 : c ≤ 9223372036854775807) (hn : ev l xn = some (.int .i64 n)) (hc : ev l xc = some (.int .i64 c))
    (h : K (.slice (some ⟨w.heap.size, 0, none⟩) n c) (w.alloc (.cells (repC c z.cells.toList).toArray e))) : (EOp.raw (makeSliceOp sT xn xc ty)).W P K l w := by
  intro ρ w0 ha hs
  refine Eff.value (v := .slice (some ⟨w0.heap.size, 0, none⟩) n c) (w' := w0.alloc (.cells (repC c z.cells.toList).toArray e)) ?_ ⟨_, hs.push _, by rw [hs.heap]; exact h⟩
  have hwr : IntKind.i64.wrap (c : Int) = c := wrap64_id (by omega) (by omega)
  have hwn : IntKind.i64.wrap (n : Int) = n := wrap64_id (by omega) (by omega)
  have hbi : ¬ ((281474976710656 : Int) < (i.bytes : Int) * (c : Int)) := by
    have : ((i.bytes * c : Nat) : Int) ≤ ((140737488355328 : Nat) : Int) := Int.ofNat_le.2 hb
    rw [Int.natCast_mul] at this
    omega
  have hroom : ¬ (c * i.bytes > roomBytes) := by
    unfold roomBytes; rw [Nat.mul_comm]; omega
  simp only [execOp, makeSliceOp, Instr.makeSlice, ha xn _ hn, ha xc _ hc]
  by_cases hc0 : c = 0
  · subst hc0
    obtain rfl : n = 0 := by omega
    have hwr0 : IntKind.i64.wrap 0 = 0 := hwr
    simp [run_underlying he, typeInfo_run hi, asInt, asIntOf, sizeOf_run hi, newRow, hwr0, repC]
    rw [show (Array.range 0) = #[] from Array.eq_empty_of_size_eq_zero (by simp), Array.map_empty]
  · have hne : c * i.size ≠ 0 := Nat.mul_ne_zero hc0 (by omega)
    have hrow := rangeC z.cells c (by omega)
    rw [hsz] at hrow
    have hlt : ¬ ((c : Int) < (n : Int)) := by omega
    simp [run_underlying he, typeInfo_run hi, asInt, asIntOf, sizeOf_run hi, newRow, hwr, hwn, hbi, hlt, askRoom]
    rw [if_neg (by omega), if_neg hne]
    simp [zero_run hi hz, hsz, hrow]

theorem loadCells_none (a : Addr) : (loadCells a 0).run P w = .ok #[] w := loadCells_run 0 0 #[] #[] rfl (fun j _ hj => by omega) (by simp)

theorem copy_any {d : Option Tmp} {pos : String} {af : Array Edge} {g : Option (Nat × Bool)} {x y : Operand} {dT sT e ty : TypeId} {i : TypeInfo} {base sb : Option Addr} {dn dc sn sc : Nat} (he : P.underlying dT = some (.slice e)) (hi : P.info? e = some i)
    (hx : ev l x = some (.slice base dn dc)) (hy : ev l y = some (.slice sb sn sc))
    (h0 : min sn dn = 0 → K (.int .i64 0) w)
    (h1 : 0 < min sn dn → ∃ b o sb' so cs ss, base = some ⟨b, o, none⟩ ∧ sb = some ⟨sb', so, none⟩ ∧ Blk w b cs ∧ Blk w sb' ss ∧ o + min sn dn * i.size ≤ cs.length ∧ so + min sn dn * i.size ≤ ss.length ∧ (∀ u ∈ (ss.drop so).take (min sn dn * i.size), one u = true) ∧
      K (.int .i64 (min sn dn : Nat)) (putCells w ⟨b, o, none⟩ 0 ((ss.drop so).take (min sn dn * i.size)))) :
    (EOp.raw ⟨d, .call ⟨.builtin .copy, #[x, y], #[dT, sT]⟩, ty, pos, af, g⟩).W P K l w := by
  intro ρ w0 ha hs
  have hexec : execOp ρ ⟨d, .call ⟨.builtin .copy, #[x, y], #[dT, sT]⟩, ty, pos, af, g⟩ = (do let r ← Builtin.copy_ #[dT, sT] ty #[.slice base dn dc, .slice sb sn sc]; pure (Next.value r)) := by
    simp [execOp, resolve, invoke, builtin, ha x _ hx, ha y _ hy]
  have hmin : ∀ a b : Nat, Nat.min a b = min a b := fun _ _ => rfl
  by_cases hz : min sn dn = 0
  · refine Eff.value (v := .int .i64 0) (w' := w0) ?_ ⟨w, hs, h0 hz⟩
    rw [hexec]
    cases sb <;> cases base <;> simp [Builtin.copy_, run_underlying he, Builtin.lenOf, sizeOf_run hi, Builtin.firstCells, hmin, hz, loadCells_none, storeCells, goInt]
  · obtain ⟨b, o, sb', so, cs, ss, rfl, rfl, hB, hS, hle, hsl, hone, hK⟩ := h1 (by omega)
    have hload := loadCells_blk (P := P) (hS.sim hs) (o := so) (n := min sn dn * i.size) hsl
    have hlen : ((ss.drop so).take (min sn dn * i.size)).length = min sn dn * i.size := by simp; omega
    have hst := storeCells_blk (P := P) (w := w0) (hB.sim hs) (o := o) (vs := (ss.drop so).take (min sn dn * i.size)) (by omega) hone
    refine Eff.value (v := .int .i64 (min sn dn : Nat)) (w' := putCells w0 ⟨b, o, none⟩ 0 ((ss.drop so).take (min sn dn * i.size))) ?_ ⟨_, putCells_sim hs _ _ _, hK⟩
    rw [hexec]
    simp only [Builtin.copy_, List.getElem?_toArray, List.getElem?_cons_zero, List.getElem?_cons_succ, Sem.run_bind, run_underlying he, Result.andThen_ok, Builtin.lenOf, Sem.run_pure, sizeOf_run hi, Builtin.firstCells, hmin, hload, hst, goInt]

theorem clear_any {d : Option Tmp} {pos : String} {af : Array Edge} {g : Option (Nat × Bool)} {x : Operand} {dT e ty : TypeId} {i : TypeInfo} {z : Value} {base : Option Addr} {dn dc : Nat} (he : P.underlying dT = some (.slice e)) (hi : P.info? e = some i) (hz : i.zero = some z) (hzp : 0 < z.cells.size)
    (hone : ∀ u ∈ z.cells.toList, one u = true) (hx : ev l x = some (.slice base dn dc))
    (h0 : dn = 0 → K (.tuple #[]) w)
    (h1 : 0 < dn → ∃ b o cs, base = some ⟨b, o, none⟩ ∧ Blk w b cs ∧ o + dn * z.cells.size ≤ cs.length ∧ K (.tuple #[]) (putCells w ⟨b, o, none⟩ 0 (repC dn z.cells.toList))) :
    (EOp.raw ⟨d, .call ⟨.builtin .clear, #[x], #[dT]⟩, ty, pos, af, g⟩).W P K l w := by
  intro ρ w0 ha hs
  have hexec : execOp ρ ⟨d, .call ⟨.builtin .clear, #[x], #[dT]⟩, ty, pos, af, g⟩ = (do let r ← Builtin.clear_ #[dT] ty #[.slice base dn dc]; pure (Next.value r)) := by
    simp [execOp, resolve, invoke, builtin, ha x _ hx]
  cases dn with
  | zero =>
    refine Eff.value (v := .tuple #[]) (w' := w0) ?_ ⟨w, hs, h0 rfl⟩
    rw [hexec]
    cases base <;> simp [Builtin.clear_, run_underlying he]
  | succ n =>
    obtain ⟨b, o, cs, rfl, hB, hle, hK⟩ := h1 (by omega)
    have hst := storeCells_blk (P := P) (w := w0) (hB.sim hs) (o := o) (vs := repC (n + 1) z.cells.toList) (by rw [repC_length]; simpa using hle) (fun u hu => hone u (repC_mem hu))
    refine Eff.value (v := .tuple #[]) (w' := putCells w0 ⟨b, o, none⟩ 0 (repC (n + 1) z.cells.toList)) ?_ ⟨_, putCells_sim hs _ _ _, hK⟩
    have hrow := rangeC z.cells (n + 1) hzp
    rw [hexec]
    simp only [Builtin.clear_, List.getElem?_toArray, List.getElem?_cons_zero, Sem.run_bind, run_underlying he, Result.andThen_ok, zero_run hi hz, Builtin.zeroCells, hrow, hst, Sem.run_pure]
end

/-! ### whole numbers for keys -/
theorem keyLaw_int {P : Program} {t : TypeId} {k k' : IntKind} (ht : P.underlying t = some (.int k')) : KeyLaw P t (Value.int k) := by
  refine ⟨fun e a w => ?_, fun a => ?_, fun a m w => ?_⟩
  · unfold Instr.checkKey
    simp [run_underlying ht]
  · simp [Instr.sameBits]
  · have key : ∀ (m : List (Int × Value × Nat)) (i : Nat), Instr.findNow (.int k') (.int k a) (m.map (mkE (Value.int k))) i = some ((mix m a).bind fun j => m[j]?.map fun x => (i + j, x.2.1)) := by
      intro m
      induction m with
      | nil => intro i; simp [Instr.findNow, mix]
      | cons x r ih =>
        intro i
        simp only [List.map_cons, Instr.findNow, mkE, Instr.sameNow, if_true]
        by_cases h : a = x.1
        · have : (a == x.1) = true := by simpa using h
          rw [this]
          simp [mix, List.findIdx?_cons, h]
        · have : (a == x.1) = false := by simpa using h
          rw [this]
          simp only
          rw [ih (i + 1)]
          have h' : ¬ x.1 = a := fun e => h e.symm
          simp only [mix, List.findIdx?_cons, decide_eq_true_eq, h', if_false]
          cases hq : List.findIdx? (fun x : Int × Value × Nat => decide (x.1 = a)) r with
          | none => simp
          | some j =>
            simp only [Option.bind_some, Option.map_some, List.getElem?_cons_succ]
            rw [show i + 1 + j = i + (j + 1) by omega]
    unfold Instr.findKey
    rw [Sem.run_bind, run_underlying ht]
    simp only [Result.andThen_ok, key m 0]
    simp

/-- the entries of a map whose keys are whole numbers of one kind -/
def mInt (k : IntKind) : List (Value × Value × Nat) → Option (List (Int × Value × Nat))
  | [] => some []
  | (.int k' a, v, b) :: r => bif ikEq k k' then (match mInt k r with
    | some s => some ((a, v, b) :: s)
    | none => none) else none
  | _ :: _ => none
def mBack (k : IntKind) (m : List (Int × Value × Nat)) : List (Value × Value × Nat) := m.map fun x => (.int k x.1, x.2.1, x.2.2)
def MI (E : Emb) : List (Int × Value × Nat) → List (Int × Value × Nat) → Prop
  | [], [] => True
  | a :: r, b :: s => (b.1 = a.1 ∧ V1 E a.2.1 b.2.1 ∧ b.2.2 = a.2.2) ∧ MI E r s
  | _, _ => False
theorem mInt_ok {E : Emb} {k : IntKind} : ∀ {m : List (Value × Value × Nat)} {es : List MapEntry} {mi : List (Int × Value × Nat)}, mInt k m = some mi → M2 E m es → ∃ mr, es = mr.map (mkE (Value.int k)) ∧ MI E mi mr
  | [], [], mi, h, _ => by cases h; exact ⟨[], rfl, trivial⟩
  | [], _ :: _, _, _, h => h.elim
  | _ :: _, [], _, _, h => h.elim
  | (u, v, b) :: r, e :: es, mi, h, ⟨⟨h1, h2, h3⟩, h4⟩ => by
    cases u <;> first | (cases h; done) | skip
    case int k' a =>
    simp only [mInt] at h
    cases hk : ikEq k k'
    · rw [hk] at h; cases h
    rw [hk] at h
    have hk := of_decide_eq_true hk
    subst hk
    simp only [cond_true] at h
    cases hr : mInt k r with
    | none => rw [hr] at h; cases h
    | some s =>
      rw [hr] at h; cases h
      obtain ⟨mr, h5, h6⟩ := mInt_ok hr h4
      refine ⟨(a, e.val, b) :: mr, ?_, ⟨rfl, h2, rfl⟩, h6⟩
      obtain ⟨ek, ev', eb⟩ := e
      simp only at h1 h3
      cases h1; subst h3
      simp [h5, mkE]
theorem MI.back {E : Emb} {k : IntKind} : ∀ {mi mr : List (Int × Value × Nat)}, MI E mi mr → M2 E (mBack k mi) (mr.map (mkE (Value.int k)))
  | [], [], _ => trivial
  | a :: r, b :: s, h => ⟨⟨by rw [show (mkE (Value.int k) b).key = Value.int k b.1 from rfl, h.1.1]; rfl, h.1.2.1, h.1.2.2⟩, MI.back h.2⟩
  | [], _ :: _, h => h.elim
  | _ :: _, [], h => h.elim
theorem MI.find {E : Emb} (a : Int) : ∀ {mi mr : List (Int × Value × Nat)}, MI E mi mr → (mfind mi a = none ∧ mfind mr a = none) ∨ ∃ x y, mfind mi a = some x ∧ mfind mr a = some y ∧ V1 E x.2.1 y.2.1 ∧ y.2.2 = x.2.2 ∧ y.1 = x.1
  | [], [], _ => .inl ⟨rfl, rfl⟩
  | x :: r, y :: s, h => by
    simp only [mfind, List.find?_cons]
    rw [h.1.1]
    cases hd : decide (x.1 = a)
    · simpa [mfind] using MI.find a h.2
    · exact .inr ⟨x, y, rfl, rfl, h.1.2.1, h.1.2.2, h.1.1⟩
  | [], _ :: _, h => h.elim
  | _ :: _, [], h => h.elim
theorem MI.put {E : Emb} (a : Int) {v v' : Value} (hv : V1 E v v') : ∀ {mi mr : List (Int × Value × Nat)}, MI E mi mr → MI E (mput mi a v) (mput mr a v')
  | [], [], _ => trivial
  | x :: r, y :: s, h => by
    refine ⟨?_, MI.put a hv h.2⟩
    simp only [h.1.1]
    by_cases e : x.1 = a
    · simp only [e, if_true]; exact ⟨trivial, hv, h.1.2.2⟩
    · simp only [e, if_false]; exact h.1
  | [], _ :: _, h => h.elim
  | _ :: _, [], h => h.elim
theorem MI.push {E : Emb} {z z' : Int × Value × Nat} (hz : z'.1 = z.1 ∧ V1 E z.2.1 z'.2.1 ∧ z'.2.2 = z.2.2) : ∀ {mi mr : List (Int × Value × Nat)}, MI E mi mr → MI E (mi ++ [z]) (mr ++ [z'])
  | [], [], _ => ⟨hz, trivial⟩
  | _ :: _, _ :: _, h => ⟨h.1, MI.push hz h.2⟩
  | [], _ :: _, h => h.elim
  | _ :: _, [], h => h.elim
theorem MI.del {E : Emb} (a : Int) : ∀ {mi mr : List (Int × Value × Nat)}, MI E mi mr → MI E (mdel mi a) (mdel mr a)
  | [], [], _ => trivial
  | x :: r, y :: s, h => by
    simp only [mdel, List.filter_cons, h.1.1]
    by_cases e : x.1 = a
    · simp only [e, decide_true, Bool.not_true, Bool.false_eq_true, if_false]; exact MI.del a h.2
    · simp only [e, decide_false, Bool.not_false, if_true]; exact ⟨h.1, MI.del a h.2⟩
  | [], _ :: _, h => h.elim
  | _ :: _, [], h => h.elim
theorem MI.keys {E : Emb} : ∀ {mi mr : List (Int × Value × Nat)}, MI E mi mr → mr.map (·.1) = mi.map (·.1) ∧ mr.map (·.2.2) = mi.map (·.2.2)
  | [], [], _ => ⟨rfl, rfl⟩
  | _ :: _, _ :: _, h => by simp [h.1.1, h.1.2.2, (MI.keys h.2).1, (MI.keys h.2).2]
  | [], _ :: _, h => h.elim
  | _ :: _, [], h => h.elim

def ndupI : List Int → Bool
  | [] => true
  | a :: r => !(r.any fun b => decide (b = a)) && ndupI r
theorem ndupI_ok : ∀ {l : List Int}, ndupI l = true → l.Nodup
  | [], _ => List.nodup_nil
  | a :: r, h => by
    simp only [ndupI, Bool.and_eq_true, Bool.not_eq_true'] at h
    refine List.nodup_cons.2 ⟨fun hm => ?_, ndupI_ok h.2⟩
    have := List.any_eq_false.1 h.1 a hm
    simp at this
def wfB (m : List (Int × Value × Nat)) (c : Nat) : Bool := ndupI (m.map (·.1)) && ndup (m.map (·.2.2)) && (m.map (·.2.2)).all fun b => Nat.blt b c
theorem wfB_ok {E : Emb} {mi mr : List (Int × Value × Nat)} {c : Nat} (h : wfB mi c = true) (hm : MI E mi mr) : Wf mr c := by
  simp only [wfB, Bool.and_eq_true] at h
  refine ⟨by rw [hm.keys.1]; exact ndupI_ok h.1.1, by rw [hm.keys.2]; exact ndup_ok h.1.2, fun x hx => ?_⟩
  have : x.2.2 ∈ mi.map (·.2.2) := by rw [← hm.keys.2]; exact List.mem_map_of_mem hx
  exact Nat.le_of_ble_eq_true (List.all_eq_true.1 h.2 _ this)

def keyKind (P : Program) (mT : TypeId) : Option TypeId :=
  match P.underlying mT with
  | some (.map kt et) => match P.underlying kt with
    | some (.int _) => some et
    | _ => none
  | _ => none
theorem keyKind_ok {P : Program} {mT et : TypeId} (h : keyKind P mT = some et) : ∃ kt k, P.underlying mT = some (.map kt et) ∧ P.underlying kt = some (.int k) := by
  unfold keyKind at h
  split at h <;> first | (cases h; done) | skip
  rename_i kt et' hu
  split at h <;> cases h
  rename_i k hk
  exact ⟨kt, k, hu, hk⟩
def zeroOf (P : Program) (t : TypeId) : Option Value :=
  match P.info? t with
  | some i => i.zero
  | none => none
theorem zeroOf_ok {P : Program} {t : TypeId} {z : Value} (h : zeroOf P t = some z) (w : World) : (zeroValue t).run P w = .ok z w := by
  unfold zeroOf at h
  split at h
  · rename_i i hi; exact zero_run hi h w
  · cases h

/-- the map that an operand is, with its kind of keys -/
def lmapOf (L : LH) (l : Env) (k : IntKind) (x : Operand) : Option (Nat × List (Int × Value × Nat) × Nat) :=
  match lv l x with
  | some (.map (some b)) => match L[b]? with
    | some (.map m c) => match mInt k m with
      | some mi => some (b, mi, c)
      | none => none
    | _ => none
  | _ => none
theorem lmapOf_ok {X : Nat → Prop} {w0 w : World} {E : Emb} {L : LH} {l l' : Env} {k : IntKind} {x : Operand} {b c : Nat} {mi : List (Int × Value × Nat)} (h : lmapOf L l k x = some (b, mi, c)) (hR : Rep X w0 E L w) (hl : ER E l l') :
    ∃ r mr m, L[b]? = some (.map m c) ∧ E[b]? = some r ∧ ev l' x = some (.map (some r.1)) ∧ Mp (Value.int k) w r.1 mr c ∧ MI E mi mr := by
  unfold lmapOf at h
  split at h <;> first | (cases h; done) | skip
  rename_i b' hx
  split at h <;> first | (cases h; done) | skip
  rename_i m c' hb
  split at h <;> cases h
  rename_i hm
  obtain ⟨_, h1, r, h2, rfl⟩ := lv_ev hl hx
  obtain ⟨es, h3, h4⟩ := hR.blk _ _ r hb h2
  obtain ⟨mr, rfl, h5⟩ := mInt_ok hm h4
  exact ⟨r, mr, m, hb, h2, h1, h3, h5⟩

def rawQ1 (P : Program) : RawQ := fun L l o =>
  match o.op with
  | .lookup mT x y ok => match keyKind P mT, lv l y with
    | some et, some (.int k a) => match zeroOf P et, lmapOf L l k x with
      | some z, some (_, mi, _) => bif still z then (match mfind mi a, ok with
        | some e, false => some e.2.1
        | some e, true => some (.tuple ⟨[e.2.1, .bool true]⟩)
        | none, false => some z
        | none, true => some (.tuple ⟨[z, .bool false]⟩)) else none
      | _, _ => none
    | _, _ => none
  | .call ⟨.builtin .len, ⟨[x]⟩, ⟨[mT]⟩⟩ => match keyKind P mT, lmapOf L l .i64 x with
    | some _, some (_, mi, _) => some (.int .i64 mi.length)
    | _, _ => none
  | _ => rawQ0 P L l o

theorem V1.still {E : Emb} {z : Value} (h : still z = true) : V1 E z z := by
  cases z <;> first | rfl | skip
  case pointer a => exact SR.still (v := .pointer a) h
  case slice a n c => exact SR.still (v := .slice a n c) h
  case map a => exact SR.still (v := .map a) h
  case func f a c => exact SR.still (v := .func f a c) h
  case agg cs => exact VR.still (v := .agg cs) h
  case tuple => cases h

theorem rawQ1_ok (P : Program) : RawOk P (rawQ1 P) := by
  intro X w0 w E L l l' o v h hR hl
  unfold rawQ1 at h
  split at h
  · rename_i mT x y ok hop
    split at h <;> first | (cases h; done) | skip
    rename_i et k a hk hy
    split at h <;> first | (cases h; done) | skip
    rename_i z b mi c hz hm
    cases hs : still z
    · rw [hs] at h; cases h
    rw [hs] at h
    simp only [cond_true] at h
    obtain ⟨kt, k', hT, hkt⟩ := keyKind_ok hk
    obtain ⟨r, mr, m, h1, h2, h3, h4, h5⟩ := lmapOf_ok hm hR hl
    obtain ⟨_, h6, rfl⟩ := lv_ev hl hy
    obtain ⟨d, op, ty, pos, af, g⟩ := o
    simp only at hop
    subst hop
    have hf := h5.find a
    cases ok with
    | false =>
      have Y : ∀ u, ((mfind mr a).map (·.2.1)).getD z = u → (QOp.raw ⟨d, .lookup mT x y false, ty, pos, af, g⟩).Y P l' u w := fun u hu => lookup_Y (ty := ty) hT (keyLaw_int hkt) (zeroOf_ok hz) h3 h6 h4 hu
      rcases hf with ⟨e1, e2⟩ | ⟨x1, y1, e1, e2, e3, _⟩
      · rw [e1] at h; cases h
        exact ⟨v, Y v (by rw [e2]; rfl), VR.still hs⟩
      · rw [e1] at h; cases h
        exact ⟨_, Y _ (by rw [e2]; rfl), e3.vr⟩
    | true =>
      have Y : ∀ u, Value.tuple #[((mfind mr a).map (·.2.1)).getD z, .bool (mfind mr a).isSome] = u → (QOp.raw ⟨d, .lookup mT x y true, ty, pos, af, g⟩).Y P l' u w := fun u hu => lookupOk_Y (ty := ty) hT (keyLaw_int hkt) (zeroOf_ok hz) h3 h6 h4 hu
      rcases hf with ⟨e1, e2⟩ | ⟨x1, y1, e1, e2, e3, _⟩
      · rw [e1] at h; cases h
        exact ⟨_, Y _ rfl, [z, .bool false], by rw [e2]; rfl, V1.still hs, rfl, trivial⟩
      · rw [e1] at h; cases h
        exact ⟨_, Y _ rfl, [y1.2.1, .bool true], by rw [e2]; rfl, e3, rfl, trivial⟩
  · rename_i x mT hop
    split at h <;> first | (cases h; done) | skip
    rename_i et b mi c hk hm
    cases h
    obtain ⟨kt, k', hT, hkt⟩ := keyKind_ok hk
    obtain ⟨r, mr, m, h1, h2, h3, h4, h5⟩ := lmapOf_ok hm hR hl
    obtain ⟨d, op, ty, pos, af, g⟩ := o
    simp only at hop
    subst hop
    have hlen : mr.length = mi.length := by have := congrArg List.length h5.keys.1; simpa using this
    refine ⟨_, ?_, rfl⟩
    rw [← hlen]
    exact lenMap_Y (ty := ty) hT h3 h4
  · exact rawQ0_ok P _ _ _ _ _ _ _ _ _ h hR hl

/-! ### effects -/
def bputL (x : Nat) : Nat → List Value → Option Nat
  | _, [] => some x
  | i, v :: r => match v with
    | .int .u8 (.ofNat c) => bif Nat.blt c 256 then fN (bset x i c) fun y => bputL y (i + 1) r else none
    | _ => none
theorem bputL_ok {n : Nat} : ∀ (us : List Value) (x i y : Nat), bputL x i us = some y → i + us.length ≤ n → bl n y = splice (bl n x) i us
  | [], x, i, y, h, _ => by cases h; rw [splice_nil]
  | v :: r, x, i, y, h, hn => by
    simp only [bputL] at h
    split at h <;> first | (cases h; done) | skip
    rename_i c
    cases hc : Nat.blt c 256
    · rw [hc] at h; cases h
    rw [hc] at h
    simp only [cond_true, fN_eq] at h
    have hc : c < 256 := Nat.le_of_ble_eq_true hc
    simp only [List.length_cons] at hn
    rw [bputL_ok r _ _ _ h (by omega), bset_bl hc, splice_cons (by rw [bl_length]; omega)]

def lcopy (L : LH) (sz : Nat) (d s : Value) : Option (Value × LH) :=
  match d, s with
  | .slice base dn _, .slice sb sn _ => match min sn dn with
    | 0 => some (.int .i64 0, L)
    | n + 1 => match base, sb with
      | some ⟨b, o, none⟩, some a => match lcells L a ((n + 1) * sz), L[b]? with
        | some cs, some (.cells bsz vs) => bif Nat.ble (o + (n + 1) * sz) vs.length then fL (lspl vs o cs) fun us => fL (L.set b (.cells bsz us)) fun L => some (.int .i64 (n + 1 : Nat), L) else none
        | some cs, some (.bytes N x) => bif Nat.ble (o + (n + 1) * sz) N then (match bputL x o cs with
          | some y => fN y fun y => fL (L.set b (.bytes N y)) fun L => some (.int .i64 (n + 1 : Nat), L)
          | none => none) else none
        | _, _ => none
      | _, _ => none
  | _, _ => none

def lclear (L : LH) (zs : List Value) (d : Value) : Option (Value × LH) :=
  match d with
  | .slice _ 0 _ => some (.tuple #[], L)
  | .slice (some ⟨b, o, none⟩) (n + 1) _ => match L[b]? with
    | some (.cells bsz vs) => bif Nat.ble (o + (n + 1) * zs.length) vs.length && zs.all stillS then fL (lspl vs o (repC (n + 1) zs)) fun us => fL (L.set b (.cells bsz us)) fun L => some (.tuple #[], L) else none
    | _ => none
  | _ => none

/-- a byte that is zero -/
def isB0 : Value → Bool
  | .int .u8 (.ofNat 0) => true
  | _ => false
def lmake (L : LH) (k k' : Nat) (z : Value) : Option (Value × LH) :=
  bif isB0 z && Nat.ble 64 k' then fL (L ++ [.bytes k' 0]) fun L' => some (.slice (some ⟨L.length, 0, none⟩) k k', L')
  else fL (repC k' z.cells.toList) fun us => fL (L ++ [.cells 0 us]) fun L' => some (.slice (some ⟨L.length, 0, none⟩) k k', L')
theorem repC_bl : ∀ k, repC k [.int .u8 (.ofNat 0)] = bl k 0 := by
  intro k
  apply List.ext_getElem?
  intro j
  by_cases hj : j < k
  · rw [repC_get _ _ _ (by simpa using hj), bl_get hj]
    have : bv 0 j = .int .u8 (.ofNat 0) := by
      show Value.int .u8 (.ofNat (((0 : Nat) >>> (8 * j)) % 256)) = _
      simp
    rw [this]; simp [Nat.mod_one]
  · rw [List.getElem?_eq_none (by rw [repC_length]; simp; omega), List.getElem?_eq_none (by rw [bl_length]; omega)]
def rawE1 (P : Program) : RawE := fun L l o =>
  match o.op with
  | .makeMap _ none => some (.map (some L.length), L ++ [.map [] 0])
  | .mapUpdate mT x y z => match keyKind P mT, lv l y, lv l z with
    | some _, some (.int k a), some u => match lmapOf L l k x with
      | some (b, mi, c) => bif wfB mi c && notTup u then some (undef, L.set b (.map (mBack k (mset mi a u c).1) (mset mi a u c).2)) else none
      | none => none
    | _, _, _ => none
  | .call ⟨.builtin .delete, ⟨[x, y]⟩, ⟨[mT, _]⟩⟩ => match keyKind P mT, lv l y with
    | some _, some (.int k a) => match lmapOf L l k x with
      | some (b, mi, c) => bif wfB mi c then some (.tuple #[], L.set b (.map (mBack k (mdel mi a)) c)) else none
      | none => none
    | _, _ => none
  | .call ⟨.builtin .copy, ⟨[x, y]⟩, ⟨[dT, _]⟩⟩ => match elemOf P dT, lv l x, lv l y with
    | some (_, i, _), some vd, some vs => lcopy L i.size vd vs
    | _, _, _ => none
  | .call ⟨.builtin .clear, ⟨[x]⟩, ⟨[dT]⟩⟩ => match elemOf P dT, lv l x with
    | some (_, _, z), some vd => bif Nat.blt 0 z.cells.toList.length then lclear L z.cells.toList vd else none
    | _, _ => none
  | .makeSlice sT n c => match elemOf P sT, lv l n, lv l c with
    | some (_, i, z), some (.int .i64 (.ofNat k)), some (.int .i64 (.ofNat k')) => bif Nat.ble k k' && Nat.beq z.cells.toList.length i.size && Nat.blt 0 i.size && z.cells.toList.all stillS && Nat.ble (i.bytes * k') 140737488355328 && Nat.ble k' 9223372036854775807 then
        fN k fun k => fN k' fun k' => lmake L k k' z else none
    | _, _, _ => none
  | _ => rawE0 P L l o

theorem MI.refl_len {E : Emb} {mi mr : List (Int × Value × Nat)} (h : MI E mi mr) : mr.length = mi.length := by
  have := congrArg List.length h.keys.1
  simpa using this

theorem MI.set {E : Emb} {mi mr : List (Int × Value × Nat)} (h : MI E mi mr) (a : Int) {u u' : Value} (hu : V1 E u u') (c : Nat) : MI E (mset mi a u c).1 (mset mr a u' c).1 ∧ (mset mr a u' c).2 = (mset mi a u c).2 := by
  unfold mset
  rcases h.find a with ⟨e1, e2⟩ | ⟨x, y, e1, e2, _⟩
  · rw [e1, e2]; exact ⟨MI.push (z := (a, u, c)) (z' := (a, u', c)) ⟨rfl, hu, rfl⟩ h, rfl⟩
  · rw [e1, e2]; exact ⟨h.put a hu, rfl⟩

theorem rawE1_ok (P : Program) : RawEOk P (rawE1 P) := by
  intro X w0 w E L l l' o v L' K h hR hl hK
  unfold rawE1 at h
  split at h
  · rename_i mT hop
    cases h
    obtain ⟨d, op, ty, pos, af, g⟩ := o
    simp only at hop
    subst hop
    exact makeMap_W (ty := ty) (mT := mT) (Value.int .i64) (fun w' hM hf hsz => hK w' (E ++ [(w.heap.size, 0, 0)]) _ (Ext.push E _) (hR.push1 hf rfl hsz (fun _ h => h) ⟨[], hM, trivial⟩) ⟨_, hR.last _, rfl⟩)
  · rename_i mT x y z hop
    split at h <;> first | (cases h; done) | skip
    rename_i et k a u hk hy hz
    split at h <;> first | (cases h; done) | skip
    rename_i b mi c hm
    cases hc : (wfB mi c && notTup u)
    · rw [hc] at h; cases h
    rw [hc] at h
    cases h
    rw [Bool.and_eq_true] at hc
    obtain ⟨kt, k', hT, hkt⟩ := keyKind_ok hk
    obtain ⟨r, mr, m, h1, h2, h3, h4, h5⟩ := lmapOf_ok hm hR hl
    obtain ⟨_, h6, rfl⟩ := lv_ev hl hy
    obtain ⟨u', h7, h8⟩ := lv_ev hl hz
    obtain ⟨d, op, ty, pos, af, g⟩ := o
    simp only at hop
    subst hop
    have hs := h5.set a (h8.v1 hc.2) c
    refine mapUpdate_W (ty := ty) (k := a) hT (keyLaw_int hkt) h3 h6 h7 h4 (wfB_ok hc.1 h5) (fun w' hM hf hsz => hK w' E _ (Ext.refl E) (hR.upd h1 h2 hf ⟨_, ?_, hs.1.back⟩ (fun _ h => .inl h)) VR.undef)
    rw [← hs.2]; exact hM
  · rename_i x y mT kT hop
    split at h <;> first | (cases h; done) | skip
    rename_i et k a hk hy
    split at h <;> first | (cases h; done) | skip
    rename_i b mi c hm
    cases hc : wfB mi c
    · rw [hc] at h; cases h
    rw [hc] at h
    cases h
    obtain ⟨kt, k', hT, hkt⟩ := keyKind_ok hk
    obtain ⟨r, mr, m, h1, h2, h3, h4, h5⟩ := lmapOf_ok hm hR hl
    obtain ⟨_, h6, rfl⟩ := lv_ev hl hy
    obtain ⟨d, op, ty, pos, af, g⟩ := o
    simp only at hop
    subst hop
    exact delete_W (ty := ty) (k := a) hT (keyLaw_int hkt) h3 h6 h4 (wfB_ok hc h5) (fun w' hM hf hsz => hK w' E _ (Ext.refl E) (hR.upd h1 h2 hf ⟨_, hM, (h5.del a).back⟩ (fun _ h => .inl h)) ⟨[], rfl, trivial⟩)
  · rename_i x y dT sT hop
    split at h <;> first | (cases h; done) | skip
    rename_i e i z vd vs he hx hy
    obtain ⟨hu, hi, hz⟩ := elemOf_ok he
    obtain ⟨vd', h1, h2⟩ := lv_ev hl hx
    obtain ⟨vs', h3, h4⟩ := lv_ev hl hy
    obtain ⟨d, op, ty, pos, af, g⟩ := o
    simp only at hop
    subst hop
    unfold lcopy at h
    simp only [fL_eq] at h
    split at h <;> first | (cases h; done) | skip
    rename_i base dn dc sb sn sc
    have form : ∀ {a : Option Addr} {n c : Nat} {v : Value}, VR E (.slice a n c) v → ∃ a' c', v = .slice a' n c' := by
      intro a n c v hv
      cases a with
      | none => cases hv; exact ⟨_, _, rfl⟩
      | some a => obtain ⟨_, r, _, ⟨a', c', rfl, _⟩ | ⟨rfl, _, _, rfl⟩⟩ := hv <;> exact ⟨_, _, rfl⟩
    obtain ⟨base', dc', rfl⟩ := form h2
    obtain ⟨sb', sc', rfl⟩ := form h4
    split at h
    · rename_i h0
      cases h
      exact copy_any (ty := ty) hu hi h1 h3 (fun _ => hK w E _ (Ext.refl E) hR rfl) (fun hp => by omega)
    · rename_i n h0
      split at h <;> first | (cases h; done) | skip
      rename_i b o a
      split at h <;> first | (cases h; done) | skip
      case h_2 cs N x hcs hb =>
        cases hck : Nat.ble (o + (n + 1) * i.size) N
        · rw [hck] at h; cases h
        rw [hck] at h
        simp only [cond_true] at h
        split at h <;> first | (cases h; done) | skip
        rename_i y hy2
        simp only [fN_eq] at h
        cases h
        have hle := Nat.le_of_ble_eq_true hck
        refine copy_any (ty := ty) hu hi h1 h3 (fun hz => by omega) (fun hp => ?_)
        have hdn : dn ≠ 0 := by omega
        have hsn : sn ≠ 0 := by omega
        obtain ⟨_, r, hr, ⟨a1, c1, e1, hcase⟩ | ⟨hz, _⟩⟩ := h2
        rotate_left
        · exact absurd hz hdn
        rcases hcase with ⟨rfl, rfl⟩ | ⟨hz, _⟩
        rotate_left
        · exact absurd hz hdn
        cases e1
        obtain ⟨hsp, q, hq, ⟨a2, c2, e2, hcase⟩ | ⟨hz, _⟩⟩ := h4
        rotate_left
        · exact absurd hz hsn
        rcases hcase with ⟨rfl, rfl⟩ | ⟨hz, _⟩
        rotate_left
        · exact absurd hz hsn
        cases e2
        obtain ⟨ss, us, hS, _, hsl, hus, hL, hul⟩ := lcells_ok hR (a := a) (a' := ⟨q.1, a.off + q.2.1, none⟩) ⟨hsp, q, hq, rfl⟩ hcs
        simp only at hS hsl hus
        obtain ⟨hB, hr0⟩ := hR.blk b _ r hb hr
        obtain ⟨r1, r2⟩ := r
        simp only at hr0 hB; subst hr0
        have hcsl := hL.length
        have hstill : us = cs := by
          refine L2.eq_still (E := E) ?_ hL
          have : ∀ (cs : List Value) (x i y : Nat), bputL x i cs = some y → cs.all stillS = true := by
            intro cs
            induction cs with
            | nil => intros; rfl
            | cons v r ih =>
              intro x i y h
              simp only [bputL] at h
              split at h <;> first | (cases h; done) | skip
              rename_i c
              cases hc : Nat.blt c 256
              · rw [hc] at h; cases h
              rw [hc] at h
              simp only [cond_true, fN_eq] at h
              rw [List.all_cons, ih _ _ _ h]; rfl
          exact this cs _ _ _ hy2
        subst hstill
        have hcl : o + us.length ≤ N := by rw [hul]; exact hle
        rw [h0]
        refine ⟨_, _, _, _, bl N x, ss, rfl, rfl, hB, hS, by rw [bl_length]; simpa using hle, hsl, fun u hu => ?_, hK _ E _ (Ext.refl E) ?_ rfl⟩
        · rw [← hus] at hu
          obtain ⟨u0, _, h5⟩ := hL.mem u hu
          exact h5.one.2
        · rw [← hus]
          have hpb := putCells_blk (o := o + 0) us 0 w _ hB (by rw [bl_length]; omega)
          simp only [Nat.add_zero] at hpb
          refine hR.upd hb hr (putCells_fr (p := ⟨r1, o + 0, none⟩) us 0 w) ⟨?_, rfl⟩ (fun _ h => .inl h)
          rw [bputL_ok us _ _ _ hy2 hcl]
          exact hpb
      rename_i cs bsz bs hcs hb
      cases hck : Nat.ble (o + (n + 1) * i.size) bs.length
      · rw [hck] at h; cases h
      rw [hck] at h
      cases h
      have hle := Nat.le_of_ble_eq_true hck
      refine copy_any (ty := ty) hu hi h1 h3 (fun hz => by omega) (fun hp => ?_)
      have hdn : dn ≠ 0 := by omega
      have hsn : sn ≠ 0 := by omega
      obtain ⟨_, r, hr, ⟨a1, c1, e1, hcase⟩ | ⟨hz, _⟩⟩ := h2
      rotate_left
      · exact absurd hz hdn
      rcases hcase with ⟨rfl, rfl⟩ | ⟨hz, _⟩
      rotate_left
      · exact absurd hz hdn
      cases e1
      obtain ⟨hsp, q, hq, ⟨a2, c2, e2, hcase⟩ | ⟨hz, _⟩⟩ := h4
      rotate_left
      · exact absurd hz hsn
      rcases hcase with ⟨rfl, rfl⟩ | ⟨hz, _⟩
      rotate_left
      · exact absurd hz hsn
      cases e2
      obtain ⟨ss, us, hS, _, hsl, hus, hL, hul⟩ := lcells_ok hR (a := a) (a' := ⟨q.1, a.off + q.2.1, none⟩) ⟨hsp, q, hq, rfl⟩ hcs
      simp only at hS hsl hus
      obtain ⟨ds, hB, hbl, hroom, hz2⟩ := hR.blk b _ r hb hr
      have hbll := hbl.length
      have hcl : o + r.2.1 + us.length ≤ ds.length := by rw [hul]; omega
      rw [h0]
      have hlim : o + r.2.1 + n.succ * i.size ≤ ds.length := by rw [← Nat.succ_eq_add_one] at hul; omega
      refine ⟨_, _, _, _, ds, ss, rfl, rfl, hB, hS, hlim, hsl, fun u hu => ?_, hK _ E _ (Ext.refl E) ?_ rfl⟩
      · rw [← hus] at hu
        obtain ⟨u0, _, h5⟩ := hL.mem u hu
        exact h5.one.2
      · rw [← hus]
        have hcsl := hL.length
        have hll : (lspl bs o cs).length = bs.length := by
          unfold lspl; simp; omega
        have hpb := putCells_blk (o := o + r.2.1) us 0 w _ hB (by omega)
        simp only [Nat.add_zero] at hpb
        refine hR.upd hb hr (putCells_fr (p := ⟨r.1, o + r.2.1, none⟩) us 0 w) ⟨_, hpb, ?_, ?_, hz2⟩ (fun _ h => .inl h)
        · have h5 := L2_splice (o := o) hbl hL
          have e : ((splice ds (o + r.2.1) us).drop r.2.1).take bs.length = splice ((ds.drop r.2.1).take bs.length) o us := by
            rw [splice_drop hcl (by omega), show o + r.2.1 - r.2.1 = o by omega, splice_take (by omega) (by simp; omega)]
          rw [hll, e]; exact h5
        · rw [hll, splice_length hcl]; exact hroom
  · rename_i x dT hop
    split at h <;> first | (cases h; done) | skip
    rename_i e i z vd he hx
    cases hzp : Nat.blt 0 z.cells.toList.length
    · rw [hzp] at h; cases h
    rw [hzp] at h
    simp only [cond_true] at h
    have hzp : 0 < z.cells.toList.length := Nat.le_of_ble_eq_true hzp
    obtain ⟨hu, hi, hz⟩ := elemOf_ok he
    obtain ⟨vd', h1, h2⟩ := lv_ev hl hx
    obtain ⟨d, op, ty, pos, af, g⟩ := o
    simp only at hop
    subst hop
    unfold lclear at h
    simp only [fL_eq] at h
    split at h <;> first | (cases h; done) | skip
    · rename_i a c
      cases h
      have : ∃ a' c', vd' = .slice a' 0 c' := by
        cases a with
        | none => cases h2; exact ⟨_, _, rfl⟩
        | some a => obtain ⟨_, r, _, ⟨a', c', rfl, _⟩ | ⟨_, _, _, rfl⟩⟩ := h2 <;> exact ⟨_, _, rfl⟩
      obtain ⟨a', c', rfl⟩ := this
      by_cases hone : ∀ u ∈ z.cells.toList, one u = true
      · exact clear_any (ty := ty) hu hi hz (by simpa using hzp) hone h1 (fun _ => hK w E _ (Ext.refl E) hR ⟨[], rfl, trivial⟩) (fun hp => by omega)
      · -- an empty row: nothing is written
        intro ρ w1 ha hs
        refine Eff.value (v := .tuple #[]) (w' := w1) ?_ ⟨w, hs, hK w E _ (Ext.refl E) hR ⟨[], rfl, trivial⟩⟩
        have hexec : execOp ρ ⟨d, .call ⟨.builtin .clear, #[x], #[dT]⟩, ty, pos, af, g⟩ = (do let r ← Builtin.clear_ #[dT] ty #[.slice a' 0 c']; pure (Next.value r)) := by
          simp [execOp, resolve, invoke, builtin, ha x _ h1]
        show (execOp ρ ⟨d, .call ⟨.builtin .clear, #[x], #[dT]⟩, ty, pos, af, g⟩).run P w1 = _
        rw [hexec]
        cases a' <;> simp [Builtin.clear_, run_underlying hu]
    · rename_i b o n c
      split at h <;> first | (cases h; done) | skip
      rename_i bsz bs hb
      cases hck : (Nat.ble (o + (n + 1) * z.cells.toList.length) bs.length && z.cells.toList.all stillS)
      · rw [hck] at h; cases h
      rw [hck] at h
      cases h
      rw [Bool.and_eq_true] at hck
      have hle := Nat.le_of_ble_eq_true hck.1
      have hst := hck.2
      obtain ⟨_, r, hr, ⟨a1, c1, rfl, hcase⟩ | ⟨hz0, _⟩⟩ := h2
      rotate_left
      · omega
      rcases hcase with ⟨rfl, rfl⟩ | ⟨hz0, _⟩
      rotate_left
      · omega
      obtain ⟨ds, hB, hbl, hroom, hz2⟩ := hR.blk b _ r hb hr
      have hbll := hbl.length
      have hrl : (repC (n + 1) z.cells.toList).length = (n + 1) * z.cells.toList.length := repC_length _ _
      have hcl : o + r.2.1 + (repC (n + 1) z.cells.toList).length ≤ ds.length := by rw [hrl]; omega
      refine clear_any (ty := ty) hu hi hz (by simpa using hzp) (fun u hu => (SR.still (E := E) (List.all_eq_true.1 hst u hu)).one.1) h1 (fun h0 => by omega) (fun _ => ⟨_, _, ds, rfl, hB, by rw [hrl] at hcl; simpa using hcl, hK _ E _ (Ext.refl E) ?_ ⟨[], rfl, trivial⟩⟩)
      have hL : L2 (SR E) (repC (n + 1) z.cells.toList) (repC (n + 1) z.cells.toList) := L2.self fun u hu => SR.still (List.all_eq_true.1 hst u (repC_mem hu))
      have hll : (lspl bs o (repC (n + 1) z.cells.toList)).length = bs.length := by
        unfold lspl; simp only [List.length_append, List.length_take, List.length_drop, hrl]; omega
      have hpb := putCells_blk (o := o + r.2.1) (repC (n + 1) z.cells.toList) 0 w _ hB (by omega)
      simp only [Nat.add_zero] at hpb
      refine hR.upd hb hr (putCells_fr (p := ⟨r.1, o + r.2.1, none⟩) (repC (n + 1) z.cells.toList) 0 w) ⟨_, hpb, ?_, ?_, hz2⟩ (fun _ h => .inl h)
      · have h5 := L2_splice (o := o) hbl hL
        have e : ((splice ds (o + r.2.1) (repC (n + 1) z.cells.toList)).drop r.2.1).take bs.length = splice ((ds.drop r.2.1).take bs.length) o (repC (n + 1) z.cells.toList) := by
          rw [splice_drop hcl (by omega), show o + r.2.1 - r.2.1 = o by omega, splice_take (by omega) (by simp; omega)]
        rw [hll, e]; exact h5
      · rw [hll, splice_length hcl]; exact hroom
  · rename_i sT n c hop
    split at h <;> first | (cases h; done) | skip
    rename_i e i z k k' he hn hcc
    simp only [fN_eq] at h
    cases hc : (Nat.ble k k' && Nat.beq z.cells.toList.length i.size && Nat.blt 0 i.size && z.cells.toList.all stillS && Nat.ble (i.bytes * k') 140737488355328 && Nat.ble k' 9223372036854775807)
    · rw [hc] at h; cases h
    rw [hc] at h
    simp only [cond_true] at h
    simp only [Bool.and_eq_true] at hc
    obtain ⟨hu, hi, hz⟩ := elemOf_ok he
    obtain ⟨_, h1, rfl⟩ := lv_ev hl hn
    obtain ⟨_, h3, rfl⟩ := lv_ev hl hcc
    obtain ⟨d, op, ty, pos, af, g⟩ := o
    simp only at hop
    subst hop
    have hst := hc.1.1.2
    unfold lmake at h
    simp only [fL_eq] at h
    cases hb0 : (isB0 z && Nat.ble 64 k')
    case true =>
      rw [hb0] at h
      cases h
      rw [Bool.and_eq_true] at hb0
      have hz0 : z = .int .u8 (.ofNat 0) := by
        have h1 := hb0.1
        unfold isB0 at h1
        split at h1
        · rfl
        · cases h1
      subst hz0
      refine makeSlice_any (ty := ty) hu hi hz (by simpa using Nat.eq_of_beq_eq_true hc.1.1.1.1.2) (Nat.le_of_ble_eq_true hc.1.1.1.2) (Nat.le_of_ble_eq_true hc.1.1.1.1.1) (Nat.le_of_ble_eq_true hc.1.2) (Nat.le_of_ble_eq_true hc.2) h1 h3
        (hK _ (E ++ [(w.heap.size, 0, 0)]) _ (Ext.push E _) (hR.push1 (Fr.alloc _ w _) rfl (alloc_size _ _) (fun _ h => h) ⟨?_, rfl⟩) ⟨rfl, _, hR.last _, .inl ⟨_, _, rfl, .inl ⟨by simp, by simp⟩⟩⟩)
      have e : (repC k' (Value.int .u8 (.ofNat 0)).cells.toList) = bl k' 0 := repC_bl k'
      rw [e]
      exact Blk.new w _ _
    rw [hb0] at h
    cases h
    exact makeSlice_any (ty := ty) hu hi hz (by simpa using Nat.eq_of_beq_eq_true hc.1.1.1.1.2) (Nat.le_of_ble_eq_true hc.1.1.1.2) (Nat.le_of_ble_eq_true hc.1.1.1.1.1) (Nat.le_of_ble_eq_true hc.1.2) (Nat.le_of_ble_eq_true hc.2) h1 h3
      (hK _ (E ++ [(w.heap.size, 0, 0)]) _ (Ext.push E _) (new_rep hR (cs := (repC k' z.cells.toList).toArray) (by simpa using L2.self fun u hu => SR.still (List.all_eq_true.1 hst u (repC_mem hu)))) ⟨rfl, _, hR.last _, .inl ⟨_, _, rfl, .inl ⟨by simp, by simp⟩⟩⟩)
  · exact rawE0_ok P _ _ _ _ _ _ _ _ _ _ K h hR hl hK
end Go.Tum
