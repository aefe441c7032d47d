/-
  Layer 12, plainly: what a mail is, what its calls do; how it lies in memory.
-/
import Derived.Test.YtgfkadmpakgmeaaRaw
namespace Go.Tum.Remote
open Go Go.Tum

structure Mail where
  n : Nat
  bt : Nat
  come : List (List Int)
  held : Int × Int → List Int

def upd (f : Int × Int → List Int) (k : Int × Int) (v : List Int) : Int × Int → List Int := fun k' => if k' = k then v else f k'
theorem upd_same (f : Int × Int → List Int) (k : Int × Int) (v : List Int) : upd f k v k = v := by simp [upd]
theorem upd_ne (f : Int × Int → List Int) {k k' : Int × Int} (v : List Int) (h : k' ≠ k) : upd f k v k' = f k' := by simp [upd, h]

def Mail.row (s : Mail) (t : Nat) : List Int := s.come.getD t []
def Mail.pass (s : Mail) (f t : Int) : Mail := { s with come := s.come.set t.toNat (s.row t.toNat ++ s.held (f, t)), held := upd s.held (f, t) [] }
def Mail.put (s : Mail) (f t a : Int) : Mail := { s with held := upd s.held (f, t) (s.held (f, t) ++ [a]) }
def Mail.post (s : Mail) (f t a : Int) : Mail := if s.bt ≤ ((s.put f t a).held (f, t)).length then (s.put f t a).pass f t else s.put f t a
def Mail.sendTo (s : Mail) (f : Int) : Nat → Mail
  | 0 => s
  | k + 1 => (s.sendTo f k).pass f k
def Mail.next (s : Mail) (t : Int) : Mail := { s with come := s.come.set t.toNat ((s.row t.toNat).drop 1) }

def Mail.waits (s : Mail) (t : Int) : Nat := if 0 ≤ t ∧ t < s.n then (s.row t.toNat).length else 0
def Mail.heldTo (s : Mail) (f : Int) : Nat → Nat
  | 0 => 0
  | k + 1 => s.heldTo f k + (s.held (f, (k : Int))).length
def Mail.heldN (s : Mail) (f : Int) : Nat := if 0 ≤ f ∧ f < s.n then s.heldTo f s.n else 0
def Mail.heldAll (s : Mail) (f : Int) : Nat → List Int
  | 0 => []
  | k + 1 => s.heldAll f k ++ s.held (f, (k : Int))
def Mail.allTo (s : Mail) : Nat → List Int
  | 0 => []
  | k + 1 => s.allTo k ++ s.row k ++ s.heldAll k s.n
def Mail.Small (s : Mail) : Prop := s.n ≤ 64 ∧ ∀ f t : Nat, f < s.n → t < s.n → (s.row t).length + (s.held ((f : Int), (t : Int))).length ≤ 1000000
def Mail.new (threads batch : Int) : Mail := { n := (min (max threads 0) 64).toNat, bt := (min (max batch 1) 64).toNat, come := List.replicate (min (max threads 0) 64).toNat [], held := fun _ => [] }

theorem heldTo_le {s : Mail} (h : s.Small) {f : Nat} (hf : f < s.n) : ∀ k, k ≤ s.n → s.heldTo f k ≤ k * 1000000
  | 0, _ => by simp [Mail.heldTo]
  | k + 1, hk => by
    have h1 := heldTo_le h hf k (by omega)
    have h2 := h.2 f k hf (by omega)
    simp only [Mail.heldTo]; omega
theorem heldAll_length {s : Mail} (f : Int) : ∀ k, (s.heldAll f k).length = s.heldTo f k
  | 0 => rfl
  | k + 1 => by simp [Mail.heldAll, Mail.heldTo, heldAll_length f k]
theorem allTo_le {s : Mail} (h : s.Small) : ∀ k, k ≤ s.n → (s.allTo k).length ≤ k * 65000000
  | 0, _ => by simp [Mail.allTo]
  | k + 1, hk => by
    have h1 := allTo_le h k (by omega)
    have h2 := h.2 k k (by omega) (by omega)
    have h3 := heldTo_le h (f := k) (by omega) s.n (Nat.le_refl _)
    have h4 := h.1
    simp only [Mail.allTo, List.length_append, heldAll_length]; omega

def ints (l : List Int) : List Value := l.map (Value.int .i64)
theorem ints_length (l : List Int) : (ints l).length = l.length := by simp [ints]
theorem ints_append (a b : List Int) : ints (a ++ b) = ints a ++ ints b := by simp [ints]
theorem ints_one (l : List Int) : ∀ u ∈ ints l, one u = true := by
  intro u hu; obtain ⟨x, _, rfl⟩ := List.mem_map.1 hu; rfl

abbrev encW : Int × Int → Value := pairV

abbrev Own := Nat → Option (Nat × Int × Int)

structure MailR (w : World) (p : Nat) (s : Mail) (own : Own) (cb hb : Nat) (vs : List Value) (m : List ((Int × Int) × Value × Nat)) (c : Nat) : Prop where
  small : ∀ b, own b ≠ none → b < w.heap.size
  op : own p = some (0, 0, 0)
  oc : own cb = some (1, 0, 0)
  oh : own hb = some (2, 0, 0)
  blk : Blk w p [.int .i64 s.n, .int .i64 s.bt, .slice (some ⟨cb, 0, none⟩) s.n s.n, .map (some hb)]
  cblk : Blk w cb vs
  vlen : vs.length = s.n
  clen : s.come.length = s.n
  rows : ∀ (t : Nat) (v : Value), vs[t]? = some v → ∃ F, Sl w 1 v (s.row t).length (ints (s.row t)) F ∧ ∀ b ∈ F, own b = some (3, (t : Int), 0)
  map : Mp encW w hb m c
  wf : Wf m c
  ents : ∀ e ∈ m, ∃ F, Sl w 1 e.2.1 (s.held e.1).length (ints (s.held e.1)) F ∧ ∀ b ∈ F, own b = some (4, e.1.1, e.1.2)
  absent : ∀ k, mfind m k = none → s.held k = []

def MailIs (w : World) (p : Nat) (s : Mail) (G : Nat → Prop) : Prop := ∃ own cb hb vs m c, MailR w p s own cb hb vs m c ∧ G = fun b => own b ≠ none

section
variable {w w' : World} {p : Nat} {s : Mail} {own : Own} {cb hb : Nat} {vs : List Value} {m : List ((Int × Int) × Value × Nat)} {c : Nat}

theorem MailR.fr {G : Nat → Prop} (h : MailR w p s own cb hb vs m c) (hf : Fr G w w') (hd : ∀ b, own b ≠ none → ¬ G b) : MailR w' p s own cb hb vs m c :=
  { h with
    small := fun b hb => Nat.lt_of_lt_of_le (h.small b hb) hf.size
    blk := hf.blk h.blk (hd _ (by rw [h.op]; simp))
    cblk := hf.blk h.cblk (hd _ (by rw [h.oc]; simp))
    rows := fun t v hv => let ⟨F, h1, h2⟩ := h.rows t v hv; ⟨F, h1.fr hf fun b hb => hd b (by rw [h2 b hb]; simp), h2⟩
    map := h.map.fr hf (hd _ (by rw [h.oh]; simp))
    ents := fun e he => let ⟨F, h1, h2⟩ := h.ents e he; ⟨F, h1.fr hf fun b hb => hd b (by rw [h2 b hb]; simp), h2⟩ }

theorem MailIs.fr {G H : Nat → Prop} (h : MailIs w p s H) (hf : Fr G w w') (hd : ∀ b, G b → H b → False) : MailIs w' p s H := by
  obtain ⟨own, cb, hb, vs, m, c, hR, rfl⟩ := h
  exact ⟨own, cb, hb, vs, m, c, hR.fr hf fun b hb hg => hd b hg hb, rfl⟩
theorem MailIs.small {G : Nat → Prop} (h : MailIs w p s G) : ∀ b, G b → b < w.heap.size := by
  obtain ⟨own, cb, hb, vs, m, c, hR, rfl⟩ := h
  exact hR.small

theorem MailR.cell (h : MailR w p s own cb hb vs m c) : w.cell? ⟨p, 0, none⟩ = some (.int .i64 s.n) ∧ w.cell? ⟨p, 1, none⟩ = some (.int .i64 s.bt) ∧ w.cell? ⟨p, 2, none⟩ = some (.slice (some ⟨cb, 0, none⟩) s.n s.n) ∧ w.cell? ⟨p, 3, none⟩ = some (.map (some hb)) :=
  ⟨h.blk.cell rfl, h.blk.cell rfl, h.blk.cell rfl, h.blk.cell rfl⟩

theorem MailR.rowAt (h : MailR w p s own cb hb vs m c) {t : Nat} (ht : t < s.n) : ∃ v F, vs[t]? = some v ∧ w.cell? ⟨cb, t, none⟩ = some v ∧ Sl w 1 v (s.row t).length (ints (s.row t)) F ∧ ∀ b ∈ F, own b = some (3, (t : Int), 0) := by
  have hl : t < vs.length := by rw [h.vlen]; exact ht
  obtain ⟨F, h1, h2⟩ := h.rows t vs[t] (List.getElem?_eq_getElem hl)
  exact ⟨vs[t], F, List.getElem?_eq_getElem hl, h.cblk.cell (List.getElem?_eq_getElem hl), h1, h2⟩

/-- what a key's entry is, or that of one that is not there -/
theorem MailR.entAt (h : MailR w p s own cb hb vs m c) (k : Int × Int) : ∃ F, Sl w 1 (((mfind m k).map (·.2.1)).getD (.slice none 0 0)) (s.held k).length (ints (s.held k)) F ∧ ∀ b ∈ F, own b = some (4, k.1, k.2) := by
  cases hf : mfind m k with
  | none => rw [h.absent k hf]; exact ⟨[], Sl.nil w 1, fun b hb => by cases hb⟩
  | some e =>
    have hm := List.mem_of_find?_eq_some hf
    have hk : e.1 = k := by simpa using List.find?_some hf
    obtain ⟨F, h1, h2⟩ := h.ents e hm
    rw [hk] at h1 h2
    exact ⟨F, h1, h2⟩

theorem mfind_del {k k' : Int × Int} : mfind (mdel m k) k' = if k' = k then none else mfind m k' := by
  unfold mfind mdel
  induction m with
  | nil => simp
  | cons x r ih =>
    by_cases hx : x.1 = k
    · simp only [List.filter_cons, hx, decide_true, Bool.not_true, Bool.false_eq_true, if_false]
      rw [ih]
      by_cases hk : k' = k
      · simp [hk]
      · simp [hk, hx, Ne.symm hk]
    · simp only [List.filter_cons, hx, decide_false, Bool.not_false, if_true, List.find?_cons]
      by_cases hk : x.1 = k'
      · have : k' ≠ k := fun e => hx (hk.trans e)
        simp [hk, this]
      · simp only [hk, decide_false]
        exact ih

/-- the entry of k gone -/
theorem MailR.del (h : MailR w p s own cb hb vs m c) (k : Int × Int) (hf : Fr (· = hb) w w') (hm : Mp encW w' hb (mdel m k) c) : MailR w' p { s with held := upd s.held k [] } own cb hb vs (mdel m k) c := by
  have nb : ∀ b x, own b = some x → x ≠ (2, 0, 0) → b ≠ hb := by
    intro b x h1 h2 e; subst e; rw [h.oh] at h1; cases h1; exact h2 rfl
  refine ⟨fun b hb => Nat.lt_of_lt_of_le (h.small b hb) hf.size, h.op, h.oc, h.oh, hf.blk h.blk (nb _ _ h.op (by simp)), hf.blk h.cblk (nb _ _ h.oc (by simp)), h.vlen, h.clen, fun t v hv => ?_, hm, h.wf.del, fun e he => ?_, fun k' hk' => ?_⟩
  · obtain ⟨F, h1, h2⟩ := h.rows t v hv
    exact ⟨F, h1.fr hf fun b hb => nb _ _ (h2 b hb) (by simp), h2⟩
  · obtain ⟨he1, he2⟩ := List.mem_filter.1 he
    have hne : e.1 ≠ k := by simpa using he2
    obtain ⟨F, h1, h2⟩ := h.ents e he1
    refine ⟨F, ?_, h2⟩
    show Sl w' 1 e.2.1 (upd s.held k [] e.1).length (ints (upd s.held k [] e.1)) F
    rw [upd_ne _ _ hne]
    exact h1.fr hf fun b hb => nb _ _ (h2 b hb) (by simp)
  · show upd s.held k [] k' = []
    rw [mfind_del] at hk'
    by_cases e : k' = k
    · rw [e, upd_same]
    · rw [if_neg e] at hk'
      rw [upd_ne _ _ e]; exact h.absent k' hk'

/-- the row of t is another one: v, which owns F' -/
theorem MailR.setRow (h : MailR w p s own cb hb vs m c) {t : Nat} (ht : t < s.n) {v : Value} {xs : List Int} {F F' : List Nat} {w1 : World} (hS : Sl w1 1 v xs.length (ints xs) F') (hf : Fr (· ∈ F) w w1) (hF : ∀ b ∈ F, own b = some (3, (t : Int), 0)) (hF' : ∀ b ∈ F', b ∈ F ∨ w.heap.size ≤ b) :
    MailR (w1.setCell ⟨cb, t, none⟩ v) p { s with come := s.come.set t xs } (fun b => if b ∈ F' then some (3, (t : Int), 0) else own b) cb hb (vs.set t v) m c := by
  have fresh : ∀ b ∈ F', own b ≠ none → own b = some (3, (t : Int), 0) := by
    intro b hb hn
    rcases hF' b hb with h1 | h1
    · exact hF b h1
    · have := h.small b hn; omega
  have old : ∀ b x, own b = some x → x ≠ (3, (t : Int), 0) → b ∉ F' ∧ b ∉ F := by
    intro b x h1 h2
    refine ⟨fun hb => ?_, fun hb => ?_⟩
    · have := fresh b hb (by rw [h1]; simp)
      rw [h1] at this; cases this; exact h2 rfl
    · have := hF b hb
      rw [h1] at this; cases this; exact h2 rfl
  have f2 := Fr.setCell w1 ⟨cb, t, none⟩ v
  have hcbF := old cb _ h.oc (by simp)
  have nc : ∀ b x, own b = some x → x ≠ (1, 0, 0) → b ≠ cb := by
    intro b x h1 h2 e; subst e; rw [h.oc] at h1; cases h1; exact h2 rfl
  have keep : ∀ b x, own b = some x → x ≠ (3, (t : Int), 0) → x ≠ (1, 0, 0) → ∀ cs, Blk w b cs → Blk (w1.setCell ⟨cb, t, none⟩ v) b cs := fun b x h1 h2 h3 cs hcs => f2.blk (hf.blk hcs (old b x h1 h2).2) (nc b x h1 h3)
  have own' : ∀ b x, own b = some x → x ≠ (3, (t : Int), 0) → (if b ∈ F' then some (3, (t : Int), 0) else own b) = some x := fun b x h1 h2 => by rw [if_neg (old b x h1 h2).1]; exact h1
  have hsz : w.heap.size ≤ (w1.setCell ⟨cb, t, none⟩ v).heap.size := Nat.le_trans hf.size f2.size
  have slKeep : ∀ (u : Value) (n : Nat) (cells : List Value) (A : List Nat) x, x ≠ (3, (t : Int), 0) → x ≠ (1, 0, 0) → Sl w 1 u n cells A → (∀ b ∈ A, own b = some x) → Sl (w1.setCell ⟨cb, t, none⟩ v) 1 u n cells A := by
    intro u n cells A x h1 h2 h3 h4
    exact (h3.fr hf fun b hb => (old b x (h4 b hb) h1).2).fr f2 fun b hb => nc b x (h4 b hb) h2
  have hcb1 : Blk w1 cb vs := hf.blk h.cblk hcbF.2
  refine ⟨fun b hb => ?_, own' _ _ h.op (by simp), own' _ _ h.oc (by simp), own' _ _ h.oh (by simp), keep _ _ h.op (by simp) (by simp) _ h.blk, hcb1.set t v, by simp [h.vlen], by simp [h.clen], fun t' v' hv' => ?_, ?_, h.wf, fun e he => ?_, h.absent⟩
  · by_cases e : b ∈ F'
    · exact Nat.lt_of_lt_of_le (hS.lt b e) f2.size
    · rw [if_neg e] at hb; exact Nat.lt_of_lt_of_le (h.small b hb) hsz
  · by_cases e : t = t'
    · subst e
      have htl : t < vs.length := by rw [h.vlen]; exact ht
      rw [List.getElem?_set_self htl] at hv'
      cases hv'
      refine ⟨F', ?_, fun b hb => by rw [if_pos hb]⟩
      have hrow : Mail.row { s with come := s.come.set t xs } t = xs := by
        simp [Mail.row, h.clen, ht]
      rw [hrow]
      refine hS.fr f2 fun b hb e => ?_
      have : b = cb := e
      subst this
      exact hcbF.1 hb
    · rw [List.getElem?_set_ne e] at hv'
      obtain ⟨A, h1, h2⟩ := h.rows t' v' hv'
      have hne : ((3, (t' : Int), 0) : Nat × Int × Int) ≠ (3, (t : Int), 0) := by
        intro h; apply e; simp at h; omega
      refine ⟨A, ?_, fun b hb => own' b _ (h2 b hb) hne⟩
      have hrow : Mail.row { s with come := s.come.set t xs } t' = s.row t' := by
        simp [Mail.row, List.getElem?_set_ne e]
      rw [hrow]
      exact slKeep v' _ _ A _ hne (by simp) h1 h2
  · exact (h.map.fr hf (old _ _ h.oh (by simp)).2).fr f2 (nc _ _ h.oh (by simp))
  · obtain ⟨A, h1, h2⟩ := h.ents e he
    exact ⟨A, slKeep _ _ _ A _ (by simp) (by simp) h1 h2, fun b hb => own' b _ (h2 b hb) (by simp)⟩
theorem mfind_none_iff {k : Int × Int} {m : List ((Int × Int) × Value × Nat)} : mfind m k = none ↔ ∀ x ∈ m, x.1 ≠ k := by
  unfold mfind; simp [List.find?_eq_none]

theorem ment_val {k : Int × Int} {z : Value} {m : List ((Int × Int) × Value × Nat)} {c : Nat} : (ment m k z c).1.2.1 = ((mfind m k).map (·.2.1)).getD z := by
  unfold ment
  cases mfind m k <;> rfl

theorem mem_ment {k : Int × Int} {z : Value} {x : (Int × Int) × Value × Nat} (hx : x ∈ (ment m k z c).2.1) (hk : x.1 ≠ k) : x ∈ m := by
  unfold ment at hx
  cases h : mfind m k with
  | none =>
    rw [h] at hx
    rcases List.mem_append.1 hx with hx | hx
    · exact hx
    · simp at hx; rw [hx] at hk; exact absurd rfl hk
  | some e => rw [h] at hx; exact hx

theorem ment_sub {k : Int × Int} {z : Value} {x : (Int × Int) × Value × Nat} (hx : x ∈ m) : x ∈ (ment m k z c).2.1 := by
  unfold ment
  cases mfind m k with
  | none => exact List.mem_append_left _ hx
  | some e => exact hx

/-- the entry of k is another one: v, which owns F' -/
theorem MailR.setEnt (h : MailR w p s own cb hb vs m c) {k : Int × Int} {v z : Value} {xs : List Int} {F F' : List Nat} (hf : Fr (fun b => b = hb ∨ b ∈ F) w w') (hM : Mp encW w' hb (mput (ment m k z c).2.1 k v) (ment m k z c).2.2) (hS : Sl w' 1 v xs.length (ints xs) F')
    (hF : ∀ b ∈ F, own b = some (4, k.1, k.2)) (hF' : ∀ b ∈ F', b ∈ F ∨ w.heap.size ≤ b) :
    MailR w' p { s with held := upd s.held k xs } (fun b => if b ∈ F' then some (4, k.1, k.2) else own b) cb hb vs (mput (ment m k z c).2.1 k v) (ment m k z c).2.2 := by
  have fresh : ∀ b ∈ F', own b ≠ none → own b = some (4, k.1, k.2) := by
    intro b hb hn
    rcases hF' b hb with h1 | h1
    · exact hF b h1
    · have := h.small b hn; omega
  have old : ∀ b x, own b = some x → x ≠ (4, k.1, k.2) → b ∉ F' ∧ b ∉ F := by
    intro b x h1 h2
    refine ⟨fun hb => ?_, fun hb => ?_⟩
    · have := fresh b hb (by rw [h1]; simp)
      rw [h1] at this; cases this; exact h2 rfl
    · have := hF b hb
      rw [h1] at this; cases this; exact h2 rfl
  have nh : ∀ b x, own b = some x → x ≠ (2, 0, 0) → b ≠ hb := by
    intro b x h1 h2 e; subst e; rw [h.oh] at h1; cases h1; exact h2 rfl
  have nG : ∀ b x, own b = some x → x ≠ (4, k.1, k.2) → x ≠ (2, 0, 0) → ¬ (b = hb ∨ b ∈ F) := fun b x h1 h2 h3 e => by
    rcases e with e | e
    · exact nh b x h1 h3 e
    · exact (old b x h1 h2).2 e
  have own' : ∀ b x, own b = some x → x ≠ (4, k.1, k.2) → (if b ∈ F' then some (4, k.1, k.2) else own b) = some x := fun b x h1 h2 => by rw [if_neg (old b x h1 h2).1]; exact h1
  have hwf := (h.wf.ent (k := k) z)
  refine ⟨fun b hb => ?_, own' _ _ h.op (by simp), own' _ _ h.oc (by simp), own' _ _ h.oh (by simp), hf.blk h.blk (nG _ _ h.op (by simp) (by simp)), hf.blk h.cblk (nG _ _ h.oc (by simp) (by simp)), h.vlen, h.clen, fun t v' hv' => ?_, hM, hwf.1.put v, fun e he => ?_, fun k' hk' => ?_⟩
  · by_cases e : b ∈ F'
    · exact hS.lt b e
    · rw [if_neg e] at hb; exact Nat.lt_of_lt_of_le (h.small b hb) hf.size
  · obtain ⟨A, h1, h2⟩ := h.rows t v' hv'
    exact ⟨A, h1.fr hf fun b hb => nG _ _ (h2 b hb) (by simp) (by simp), fun b hb => own' b _ (h2 b hb) (by simp)⟩
  · obtain ⟨x, hx, rfl⟩ := List.mem_map.1 he
    by_cases e : x.1 = k
    · rw [if_pos e]
      refine ⟨F', ?_, fun b hb => ?_⟩
      · show Sl w' 1 v (upd s.held k xs x.1).length (ints (upd s.held k xs x.1)) F'
        rw [e, upd_same]; exact hS
      · show (if b ∈ F' then some (4, k.1, k.2) else own b) = some (4, x.1.1, x.1.2)
        rw [if_pos hb, e]
    · rw [if_neg e]
      obtain ⟨A, h1, h2⟩ := h.ents x (mem_ment hx e)
      have hne : ((4, x.1.1, x.1.2) : Nat × Int × Int) ≠ (4, k.1, k.2) := by
        intro h; apply e; simp at h; exact Prod.ext h.1 h.2
      refine ⟨A, ?_, fun b hb => own' b _ (h2 b hb) hne⟩
      show Sl w' 1 x.2.1 (upd s.held k xs x.1).length (ints (upd s.held k xs x.1)) A
      rw [upd_ne _ _ e]
      exact h1.fr hf fun b hb => nG _ _ (h2 b hb) hne (by simp)
  · show upd s.held k xs k' = []
    rw [mfind_none_iff] at hk'
    by_cases e : k' = k
    · subst e
      have hm := hwf.2.1
      have := hk' ((ment m k' z c).1.1, v, (ment m k' z c).1.2.2) (List.mem_map.2 ⟨_, hm, by rw [if_pos hwf.2.2]⟩)
      exact absurd hwf.2.2 this
    · rw [upd_ne _ _ e]
      refine h.absent k' (mfind_none_iff.2 fun x hx ex => ?_)
      have hx1 := ment_sub (k := k) (z := z) (c := c) hx
      have hne : x.1 ≠ k := by rw [ex]; exact e
      exact hk' x (List.mem_map.2 ⟨x, hx1, by rw [if_neg hne]⟩) ex
end

theorem sendTo_n (s : Mail) (f : Int) : ∀ k, (s.sendTo f k).n = s.n ∧ (s.sendTo f k).bt = s.bt ∧ (s.sendTo f k).come.length = s.come.length
  | 0 => ⟨rfl, rfl, rfl⟩
  | k + 1 => by
    obtain ⟨h1, h2, h3⟩ := sendTo_n s f k
    exact ⟨h1, h2, by simp [Mail.sendTo, Mail.pass, h3]⟩
theorem sendTo_held (s : Mail) (f : Int) : ∀ (k : Nat) (x : Int × Int), (s.sendTo f k).held x = if x.1 = f ∧ 0 ≤ x.2 ∧ x.2 < k then [] else s.held x
  | 0, x => by rw [if_neg (by omega)]; rfl
  | k + 1, x => by
    show upd (s.sendTo f k).held (f, (k : Int)) [] x = _
    by_cases e : x = (f, (k : Int))
    · subst e; rw [upd_same, if_pos ⟨rfl, by simp, by simp; omega⟩]
    · rw [upd_ne _ _ e, sendTo_held s f k x]
      by_cases h : x.1 = f ∧ 0 ≤ x.2 ∧ x.2 < k
      · rw [if_pos h, if_pos ⟨h.1, h.2.1, by omega⟩]
      · rw [if_neg h, if_neg]
        rintro ⟨h1, h2, h3⟩
        apply h
        refine ⟨h1, h2, ?_⟩
        have : x.2 ≠ k := fun e2 => e (Prod.ext h1 e2)
        omega
theorem sendTo_row (s : Mail) (f : Int) : ∀ (k t : Nat), k ≤ s.come.length → (s.sendTo f k).row t = if t < k then s.row t ++ s.held (f, (t : Int)) else s.row t
  | 0, t, _ => by rw [if_neg (by omega)]; rfl
  | k + 1, t, hk => by
    have hl := (sendTo_n s f k).2.2
    have ih := sendTo_row s f k
    have hrow : ∀ t, ((s.sendTo f k).pass f k).row t = if k = t then (s.sendTo f k).row k ++ (s.sendTo f k).held (f, (k : Int)) else (s.sendTo f k).row t := by
      intro t
      simp only [Mail.row, Mail.pass, Int.toNat_natCast, List.getD_eq_getElem?_getD]
      by_cases e : k = t
      · subst e
        rw [if_pos rfl, List.getElem?_set_self (by omega)]
        rfl
      · rw [if_neg e, List.getElem?_set_ne e]
    show ((s.sendTo f k).pass f k).row t = _
    rw [hrow t]
    by_cases e : k = t
    · subst e
      rw [if_pos rfl, if_pos (by omega), ih k (by omega), if_neg (by omega), sendTo_held, if_neg (by simp)]
    · rw [if_neg e, ih t (by omega)]
      by_cases h : t < k
      · rw [if_pos h, if_pos (by omega)]
      · rw [if_neg h, if_neg (by omega)]
end Go.Tum.Remote
