/- Running code by rewriting. -/
import Derived.Test.YtmnffigepjgnhaaGreatDoorAxD
set_option linter.unusedVariables false
set_option linter.unusedSimpArgs false
namespace Go.Ax
open Go
variable {L : Type} {P : Program}

theorem set_same (F : Fr) (d : Nat) (v : Value) : Fr.set F d v d = v := if_pos rfl
theorem set_ne (F : Fr) (d i : Nat) (v : Value) (h : (i == d) = false) : Fr.set F d v i = F i := by
  unfold Fr.set; rw [if_neg]; simpa using h
theorem evT (F : Fr) (t : Nat) : aEval F (.tmp t) = F t := rfl
theorem evC (F : Fr) (v : Value) : aEval F (.const v) = v := rfl
theorem evF (F : Fr) (f : FuncId) : aEval F (.func f) = .func (.func f) #[] #[] := rfl
theorem put_some (F : Fr) (d : Nat) (v : Value) : Fr.put F (some d) v = Fr.set F d v := rfl
theorem put_none (F : Fr) (v : Value) : Fr.put F none v = F := rfl

/-- The numbers of blocks: what lies behind the next is free. -/
def WF (σ : AMem L) : Prop := ∀ b, σ.next ≤ b → σ.get b = none

theorem WF.lt {σ : AMem L} (h : WF σ) {b : Nat} {o : AObj L} (hb : σ.get b = some o) : b < σ.next := by
  rcases Nat.lt_or_ge b σ.next with h1 | h1
  · exact h1
  · rw [h b h1] at hb; cases hb

/-- More blocks, the old ones as they were. -/
structure Grow (σ σ' : AMem L) : Prop where
  get : ∀ b, b < σ.next → σ'.get b = σ.get b
  next : σ.next ≤ σ'.next
  wf : WF σ'

theorem Grow.refl {σ : AMem L} (h : WF σ) : Grow σ σ := ⟨fun _ _ => rfl, Nat.le_refl _, h⟩
theorem Grow.trans {a b c : AMem L} (h : Grow a b) (k : Grow b c) : Grow a c :=
  ⟨fun x hx => by rw [k.get x (Nat.lt_of_lt_of_le hx h.next), h.get x hx], Nat.le_trans h.next k.next, k.wf⟩
theorem Grow.some {σ σ' : AMem L} (h : Grow σ σ') (hw : WF σ) {b : Nat} {o : AObj L} (hb : σ.get b = some o) : σ'.get b = some o := by
  rw [h.get b (hw.lt hb)]; exact hb

theorem WF.put {σ : AMem L} (h : WF σ) {b nx : Nat} {o : AObj L} (hn : σ.next ≤ nx) (hb : b < nx) : WF (σ.put b nx o) := by
  intro x hx
  simp only [AMem.next_put] at hx
  rw [AMem.get_put, if_neg (by omega)]
  exact h x (by omega)
theorem WF.kill {σ : AMem L} (h : WF σ) (b : Nat) : WF (σ.kill b) := by
  intro x hx
  rw [AMem.get_kill]; split
  · rfl
  · exact h x hx
theorem WF.set {σ : AMem L} (h : WF σ) {b : Nat} {o o' : AObj L} (hb : σ.get b = some o') : WF (σ.set b o) := by
  intro x hx
  rw [AMem.next_set] at hx
  rw [AMem.get_set, if_neg (by have := h.lt hb; omega)]
  exact h x hx
theorem WF.skipTo {σ : AMem L} (h : WF σ) {nx : Nat} (hn : σ.next ≤ nx) : WF (σ.skipTo nx) := fun x hx => h x (Nat.le_trans hn hx)

theorem Grow.put {σ0 σ : AMem L} (h : Grow σ0 σ) {b nx : Nat} {o : AObj L} (hb : σ0.next ≤ b) (hn : σ.next ≤ nx) (hbn : b < nx) : Grow σ0 (σ.put b nx o) :=
  ⟨fun x hx => by rw [AMem.get_put, if_neg (by omega)]; exact h.get x hx, Nat.le_trans h.next hn, h.wf.put hn hbn⟩
theorem Grow.skipTo {σ0 σ : AMem L} (h : Grow σ0 σ) {nx : Nat} (hn : σ.next ≤ nx) : Grow σ0 (σ.skipTo nx) := ⟨h.get, Nat.le_trans h.next hn, h.wf.skipTo hn⟩
theorem Grow.kill {σ0 σ : AMem L} (h : Grow σ0 σ) {b : Nat} (hb : σ0.next ≤ b) : Grow σ0 (σ.kill b) :=
  ⟨fun x hx => by rw [AMem.get_kill, if_neg (by omega)]; exact h.get x hx, h.next, h.wf.kill b⟩
theorem Grow.set {σ0 σ : AMem L} (h : Grow σ0 σ) {b : Nat} {o o' : AObj L} (hb : σ0.next ≤ b) (hg : σ.get b = .some o') : Grow σ0 (σ.set b o) :=
  ⟨fun x hx => by rw [AMem.get_set, if_neg (by omega)]; exact h.get x hx, h.next, h.wf.set hg⟩

end Go.Ax

/- Slices seen as lists. -/
namespace Go.Ax
open Go
variable {L : Type} {P : Program} {σ σ0 σ' : AMem L}

/-- A slice that is read: so many elements of so many cells. -/
def Slc (P : Program) (σ : AMem L) (es : Nat) (v : Value) (n : Nat) (cells : List Value) : Prop :=
  cells.length = n * es ∧ ((v = .slice none 0 0 ∧ n = 0) ∨
    ∃ b off vs e ro, v = .slice (some ⟨b, off, none⟩) n n ∧ σ.get b = some (.cells vs e ro) ∧ szOf P e = some es ∧ off + n * es ≤ vs.length ∧ (vs.drop off).take (n * es) = cells)

/-- A slice that is one's own: a whole block. -/
def Own (σ : AMem L) (e es : Nat) (v : Value) (n : Nat) (cells : List Value) : Prop :=
  cells.length = n * es ∧ ((v = .slice none 0 0 ∧ n = 0) ∨ ∃ b, v = .slice (some ⟨b, 0, none⟩) n n ∧ σ.get b = some (.cells cells e false))

/-- The block of a slice is none of the first ones. -/
def Past (m : Nat) : Value → Prop
  | .slice (some a) _ _ => m ≤ a.block
  | _ => True
/-- The block is not that of the slice. -/
def Off (c : Nat) : Value → Prop
  | .slice (some a) _ _ => c ≠ a.block
  | _ => True

theorem Own.slc {e es n : Nat} {v : Value} {cells : List Value} (h : Own σ e es v n cells) (hs : szOf P e = some es) : Slc P σ es v n cells := by
  obtain ⟨h1, h2⟩ := h
  refine ⟨h1, ?_⟩
  rcases h2 with h2 | ⟨b, h2, h3⟩
  · exact .inl h2
  · exact .inr ⟨b, 0, cells, e, false, h2, h3, hs, by omega, by rw [List.drop_zero, ← h1, List.take_length]⟩

theorem Slc.cells {es n : Nat} {v : Value} {cells : List Value} (h : Slc P σ es v n cells) : sliceCells σ es v = some cells := by
  obtain ⟨h1, h2⟩ := h
  rcases h2 with ⟨rfl, rfl⟩ | ⟨b, off, vs, e, ro, rfl, h3, h4, h5, h6⟩
  · have : cells = [] := List.length_eq_zero_iff.1 (by rw [h1]; simp)
    subst this; rfl
  · cases n with
    | zero =>
      have : cells = [] := List.length_eq_zero_iff.1 (by rw [h1]; simp)
      subst this; rfl
    | succ n => simp only [sliceCells, h3, if_pos h5, h6]

theorem Slc.grow {es n : Nat} {v : Value} {cells : List Value} (h : Slc P σ es v n cells) (hw : WF σ) (hg : Grow σ σ') : Slc P σ' es v n cells := by
  obtain ⟨h1, h2⟩ := h
  refine ⟨h1, ?_⟩
  rcases h2 with h2 | ⟨b, off, vs, e, ro, h2, h3, h4⟩
  · exact .inl h2
  · exact .inr ⟨b, off, vs, e, ro, h2, hg.some hw h3, h4⟩

theorem Own.grow {e es n : Nat} {v : Value} {cells : List Value} (h : Own σ e es v n cells) (hw : WF σ) (hg : Grow σ σ') : Own σ' e es v n cells := by
  obtain ⟨h1, h2⟩ := h
  refine ⟨h1, ?_⟩
  rcases h2 with h2 | ⟨b, h2, h3⟩
  · exact .inl h2
  · exact .inr ⟨b, h2, hg.some hw h3⟩

/-- A change elsewhere. -/
theorem Slc.of_get {es n : Nat} {v : Value} {cells : List Value} (h : Slc P σ es v n cells) (hg : ∀ c, ¬ Off c v → σ'.get c = σ.get c) : Slc P σ' es v n cells := by
  obtain ⟨h1, h2⟩ := h
  refine ⟨h1, ?_⟩
  rcases h2 with h2 | ⟨b, off, vs, e, ro, h2, h3, h4⟩
  · exact .inl h2
  · exact .inr ⟨b, off, vs, e, ro, h2, by rw [hg b (by subst h2; simp [Off])]; exact h3, h4⟩
theorem Own.of_get {e es n : Nat} {v : Value} {cells : List Value} (h : Own σ e es v n cells) (hg : ∀ c, ¬ Off c v → σ'.get c = σ.get c) : Own σ' e es v n cells := by
  obtain ⟨h1, h2⟩ := h
  refine ⟨h1, ?_⟩
  rcases h2 with h2 | ⟨b, h2, h3⟩
  · exact .inl h2
  · exact .inr ⟨b, h2, by rw [hg b (by subst h2; simp [Off])]; exact h3⟩

theorem Slc.nil (P : Program) (σ : AMem L) (es : Nat) : Slc P σ es (.slice none 0 0) 0 [] := ⟨by simp, .inl ⟨rfl, rfl⟩⟩
theorem Own.nil (σ : AMem L) (e es : Nat) : Own σ e es (.slice none 0 0) 0 [] := ⟨by simp, .inl ⟨rfl, rfl⟩⟩

theorem Slc.len {es n : Nat} {v : Value} {cells : List Value} {t el : TypeId} (h : Slc P σ es v n cells) (ht : Program.underlying P t = some (.slice el)) (σ2 : AMem L) : aLen P t v σ2 = some (.int .i64 n) := by
  obtain ⟨h1, h2⟩ := h
  rcases h2 with ⟨rfl, rfl⟩ | ⟨b, off, vs, e, ro, rfl, _⟩ <;> simp [aLen, ht]

/-- The place of an element. -/
theorem Slc.index {es n : Nat} {v : Value} {cells : List Value} {t el : TypeId} (h : Slc P σ es v n cells) (ht : Program.underlying P t = some (.slice el)) (hs : szOf P el = some es) {k : IntKind} {i : Nat} (hi : i < n) :
    ∃ b off vs e ro, aIndexAddr P t v (.int k i) = some (.pointer (some ⟨b, off, none⟩)) ∧ σ.get b = some (.cells vs e ro) ∧ off + es ≤ vs.length ∧ (vs.drop off).take es = (cells.drop (i * es)).take es := by
  obtain ⟨h1, h2⟩ := h
  rcases h2 with ⟨rfl, rfl⟩ | ⟨b, off, vs, e, ro, rfl, h3, h4, h5, h6⟩
  · omega
  · have hle : i * es + es ≤ n * es := by
      have := Nat.mul_le_mul_right es (show i + 1 ≤ n from hi)
      rw [Nat.add_mul, Nat.one_mul] at this; exact this
    refine ⟨b, off + i * es, vs, e, ro, ?_, h3, by omega, ?_⟩
    · have : (0 : Int) ≤ i ∧ (i : Int) < n := by omega
      simp [aIndexAddr, ht, hs, hi]
    · rw [← h6, List.drop_take, List.take_take, List.drop_drop, Nat.min_eq_left (by omega)]

theorem Slc.load1 {n : Nat} {v : Value} {cells : List Value} {t el : TypeId} (h : Slc P σ 1 v n cells) (ht : Program.underlying P t = some (.slice el)) (hs : szOf P el = some 1) (ha : aggOf P el = some false) {k : IntKind} {i : Nat} {x : Value} (hi : cells[i]? = some x) :
    ∃ b off, aIndexAddr P t v (.int k i) = some (.pointer (some ⟨b, off, none⟩)) ∧ aLoad P el b off σ = some x := by
  have hlt : i < n := by
    have h1 := h.1
    rcases Nat.lt_or_ge i n with h2 | h2
    · exact h2
    · rw [List.getElem?_eq_none (by omega)] at hi; cases hi
  obtain ⟨b, off, vs, e, ro, h1, h2, h3, h4⟩ := h.index ht hs (k := k) hlt
  refine ⟨b, off, h1, ?_⟩
  simp only [aLoad, h2, ha, hs]
  have := congrArg (fun l => l[0]?) h4
  simp only [List.getElem?_take, List.getElem?_drop, Nat.add_zero, Nat.zero_lt_one, if_true, Nat.mul_one] at this
  rw [this]; exact hi

theorem Slc.loadN {es n : Nat} {v : Value} {cells : List Value} {t el : TypeId} (h : Slc P σ es v n cells) (ht : Program.underlying P t = some (.slice el)) (hs : szOf P el = some es) (ha : aggOf P el = some true) {k : IntKind} {i : Nat} (hi : i < n) :
    ∃ b off, aIndexAddr P t v (.int k i) = some (.pointer (some ⟨b, off, none⟩)) ∧ aLoad P el b off σ = some (.agg ((cells.drop (i * es)).take es).toArray) := by
  obtain ⟨b, off, vs, e, ro, h1, h2, h3, h4⟩ := h.index ht hs (k := k) hi
  refine ⟨b, off, h1, ?_⟩
  simp only [aLoad, h2, ha, hs, if_pos h3, h4]

/-- A part. -/
theorem Slc.part {es n : Nat} {v : Value} {cells : List Value} {t el : TypeId} (h : Slc P σ es v n cells) (ht : Program.underlying P t = some (.slice el)) (hs : szOf P el = some es) {lo hi : Option Value} {l m : Nat} (hl : bound lo 0 m = some l) (hm : bound hi n n = some m) (hlm : l ≤ m) (hmn : m ≤ n) :
    ∃ v', aSlice P t v lo hi σ = some v' ∧ Slc P σ es v' (m - l) ((cells.drop (l * es)).take ((m - l) * es)) ∧ (∀ c, Off c v → Off c v') ∧ (∀ m, Past m v → Past m v') := by
  obtain ⟨h1, h2⟩ := h
  rcases h2 with ⟨rfl, rfl⟩ | ⟨b, off, vs, e, ro, rfl, h3, h4, h5, h6⟩
  · have : m = 0 := by omega
    subst this
    have : l = 0 := by omega
    subst this
    refine ⟨.slice none 0 0, by simp [aSlice, ht, hs, hl, hm], ⟨by simp [h1], .inl ⟨rfl, rfl⟩⟩, fun _ h => h, fun _ h => h⟩
  · have hle : l * es ≤ m * es := Nat.mul_le_mul_right es hlm
    have hme : m * es ≤ n * es := Nat.mul_le_mul_right es hmn
    have hsub : (m - l) * es = m * es - l * es := Nat.sub_mul ..
    refine ⟨_, by simp [aSlice, ht, hs, h3, h4, hl, hm], ⟨?_, .inr ⟨b, off + l * es, vs, e, ro, rfl, h3, h4, by omega, ?_⟩⟩, fun _ h => h, fun _ h => h⟩
    · rw [List.length_take, List.length_drop]; omega
    · rw [← h6, List.drop_take, List.take_take, List.drop_drop, Nat.min_eq_left (by omega)]

theorem Slc.src {es n : Nat} {v : Value} {cells : List Value} {tx el : TypeId} (h : Slc P σ es v n cells) (ht : Program.underlying P tx = some (.slice el)) : aSrc P tx es σ v = some (n, cells) := by
  have hc := h.cells
  obtain ⟨h1, h2⟩ := h
  rcases h2 with ⟨rfl, rfl⟩ | ⟨b, off, vs, e, ro, rfl, _⟩
  · simp only [aSrc, ht, hc, Option.map_some]
  · simp only [aSrc, ht, hc, Option.map_some]

/-- A type's zero is of its cells, each plain. -/
def goodZero (es by_ : Nat) (z : Value) : Bool := z.cells.size == es && es != 0 && by_ != 0 && z.cells.all flat
theorem goodZero_spec {es by_ : Nat} {z : Value} (h : goodZero es by_ z = true) : z.cells.size = es ∧ es ≠ 0 ∧ by_ ≠ 0 ∧ z.cells.all flat = true := by
  simp only [goodZero, Bool.and_eq_true, beq_iff_eq, bne_iff_ne] at h
  exact ⟨h.1.1.1, h.1.1.2, h.1.2, h.2⟩

/-- Elements are added to one's own slice. -/
theorem Own.append {e es n m by_ : Nat} {s x z : Value} {olds news : List Value} {t tx : TypeId} {b nx : Nat} (h : Own σ e es s n olds) (hx : aSrc P tx es σ x = some (m, news)) (hm : news.length = m * es)
    (he : elemOf P t = some e) (hs : szOf P e = some es) (hz : zeroOf P e = some z) (hb : bytesOf P e = some by_) (h1 : goodZero es by_ z = true) (h2 : oneCells news = true) (h3 : (olds.length + news.length) * by_ ≤ 2 ^ 46)
    (hg : Grow σ0 σ) (hp : Past σ0.next s) (hb1 : σ0.next ≤ b) (hb2 : σ.next ≤ nx) (hb3 : b < nx) :
    ∃ v' σ', aAppend P t tx s x σ b nx = some (v', σ') ∧ Own σ' e es v' (n + m) (olds ++ news) ∧ Grow σ0 σ' ∧ Past σ0.next v' ∧ σ.next ≤ σ'.next ∧ (∀ c, Off c s → c ≠ b → σ'.get c = σ.get c) ∧ (∀ c, Off c s → c ≠ b → Off c v') := by
  have hsc : Slc P σ es s n olds := h.slc hs
  have hcells := hsc.cells
  obtain ⟨k1, k2⟩ := h
  have hlen : (olds ++ news).length = (n + m) * es := by rw [List.length_append, k1, hm, Nat.add_mul]
  have h3' : ¬ ((olds.length + news.length) * by_ > 2 ^ 46) := by omega
  have hcond : (es = 0 || by_ = 0 || z.cells.size ≠ es || !oneCells news || (olds.length + news.length) * by_ > 2 ^ 46) = false := by
    obtain ⟨g1, g2, g3, _⟩ := goodZero_spec h1
    simp only [g1, g2, g3, h2, Bool.not_true, Bool.or_false, decide_eq_false h3', ne_eq, not_true, decide_false]
  rcases k2 with ⟨rfl, rfl⟩ | ⟨c, rfl, hc⟩
  · have ho : olds = [] := List.length_eq_zero_iff.1 (by rw [k1]; simp)
    subst ho
    by_cases hm0 : m = 0
    · subst hm0
      have hn : news = [] := List.length_eq_zero_iff.1 (by rw [hm]; simp)
      subst hn
      refine ⟨_, _, ?_, ⟨hlen, .inl ⟨rfl, rfl⟩⟩, hg, trivial, Nat.le_refl _, fun _ _ _ => rfl, fun _ _ _ => trivial⟩
      simp only [aAppend, he, hs, hz, hb, hx, hcells, hcond, Bool.false_eq_true, if_false, if_true]
    · refine ⟨.slice (some ⟨b, 0, none⟩) m m, σ.put b nx (.cells news e false), ?_, ⟨hlen, .inr ⟨b, ?_, ?_⟩⟩, hg.put hb1 hb2 hb3, hb1, hb2, fun y _ hy => ?_, fun y _ hy => hy⟩
      · simp only [aAppend, he, hs, hz, hb, hx, hcells, hcond, Bool.false_eq_true, if_false, if_neg hm0]
      · simp
      · rw [AMem.get_put, if_pos rfl]; rfl
      · rw [AMem.get_put, if_neg hy]
  · by_cases hm0 : m = 0
    · subst hm0
      have hn : news = [] := List.length_eq_zero_iff.1 (by rw [hm]; simp)
      subst hn
      refine ⟨_, _, ?_, ⟨hlen, .inr ⟨c, rfl, by simpa using hc⟩⟩, hg, hp, Nat.le_refl _, fun _ _ _ => rfl, fun _ h _ => h⟩
      simp only [aAppend, he, hs, hz, hb, hx, hcells, hcond, Bool.false_eq_true, if_false, if_true, Nat.add_zero]
    · refine ⟨.slice (some ⟨b, 0, none⟩) (n + m) (n + m), (σ.kill c).put b nx (.cells (olds ++ news) e false), ?_, ⟨hlen, .inr ⟨b, rfl, ?_⟩⟩, (hg.kill hp).put hb1 hb2 hb3, hb1, hb2, fun y hy1 hy => ?_, fun y _ hy => hy⟩
      · simp only [aAppend, he, hs, hz, hb, hx, hcells, hcond, Bool.false_eq_true, if_false, if_neg hm0, hc, if_true]
      · rw [AMem.get_put, if_pos rfl]
      · rw [AMem.get_put, if_neg hy, AMem.get_kill, if_neg hy1]

end Go.Ax

/- More of slices: literals, one element more. -/
namespace Go.Ax
open Go
variable {L : Type} {P : Program} {σ σ0 σ' : AMem L}

theorem keep_mem (F : Fr) (ks : List Nat) (i : Nat) : Fr.keep F ks i = if i ∈ ks then F i else undef := rfl

/-- The rule of rounds. -/
theorem loop_rule {body : (Exit → Fr → AMem L → Prop) → Fr → AMem L → Prop} {Q : Exit → Fr → AMem L → Prop} {F : Fr} {σ : AMem L} (ks : List Nat) (I : Nat → Fr → AMem L → Prop) (n : Nat) (h0 : I n (F.keep ks) σ)
    (h : ∀ n F σ, I n F σ → body (exThen (fun F' σ' => ∃ m, m < n ∧ I m (F'.keep ks) σ') Q) F σ) : aLoop body Q F σ :=
  ⟨fun F => F.keep ks, I, fun F i => by
    by_cases hi : i ∈ ks
    · exact .inl (if_pos hi)
    · exact .inr (if_neg hi), ⟨n, h0⟩, h⟩

theorem conv_int {s d : TypeId} {ds : TypeDesc} {k k' : IntKind} {n : Int} {b nx : Nat} (h1 : Program.underlying P s = some ds) (h2 : Program.underlying P d = some (.int k')) : aConv P s d (.int k n) σ b nx = some (.int k' (k'.wrap n), σ) := by
  simp [aConv, h1, h2]

theorem conv_str {s d : TypeId} {ds : TypeDesc} {x : ByteArray} {b nx : Nat} (h1 : Program.underlying P s = some ds) (h2 : Program.underlying P d = some .string) : aConv P s d (.string x) σ b nx = some (.string x, σ) := by
  simp [aConv, h1, h2]

/-- A value of one cell. -/
def one (v : Value) : Bool := laidCell v

theorem cellsOf_one {v : Value} (h : laidCell v = true) : cellsOf v = some [v] := by
  cases v <;> simp_all [laidCell, cellsOf]

/-- The parts of a literal, one behind the other. -/
def rowed : List (List Value) → Nat → List (Nat × Value) → Prop
  | [], _, [] => True
  | cs :: css, i, (j, v) :: ps => j = i ∧ cellsOf v = some cs ∧ rowed css (i + 1) ps
  | _, _, _ => False

theorem setAt_append : ∀ (cs pre old post : List Value), old.length = cs.length → setAt (pre ++ old ++ post) pre.length cs = pre ++ cs ++ post
  | [], pre, old, post, h => by
    have : old = [] := List.length_eq_zero_iff.1 h
    subst this; rfl
  | c :: cs, pre, old, post, h => by
    cases old with
    | nil => cases h
    | cons o old =>
      have h' : old.length = cs.length := by simpa using h
      have := setAt_append cs (pre ++ [c]) old post h'
      simp only [setAt]
      rw [show (pre ++ (o :: old) ++ post).set pre.length c = (pre ++ [c]) ++ old ++ post by simp [List.set_append_right]]
      rw [show pre.length + 1 = (pre ++ [c]).length by simp, this]
      simp

theorem fill_rows {es : Nat} : ∀ (css : List (List Value)) (i : Nat) (ps : List (Nat × Value)) (pre rest : List Value), rowed css i ps → (∀ cs ∈ css, cs.length = es) → pre.length = i * es → rest.length = css.length * es →
    fillA (fun i => some (i * es, es)) (pre ++ rest).toArray ps = some (pre ++ css.flatten).toArray
  | [], i, [], pre, rest, _, _, _, hr => by
    have : rest = [] := List.length_eq_zero_iff.1 (by simpa using hr)
    subst this; simp [fillA]
  | [], i, _ :: _, _, _, h, _, _, _ => h.elim
  | _ :: _, i, [], _, _, h, _, _, _ => h.elim
  | cs :: css, i, (j, v) :: ps, pre, rest, h, hes, hp, hr => by
    obtain ⟨rfl, hv, h⟩ := h
    have hl : cs.length = es := hes cs (.head _)
    have hr' : rest.length = es + css.length * es := by rw [hr, List.length_cons, Nat.add_mul, Nat.one_mul, Nat.add_comm]
    have hsplit : rest = rest.take es ++ rest.drop es := (List.take_append_drop ..).symm
    have htk : (rest.take es).length = cs.length := by rw [List.length_take, hl]; omega
    simp only [fillA, hv]
    have hcond : (cs.length ≠ es || j * es + cs.length > (pre ++ rest).toArray.size) = false := by
      simp [hl]; omega
    rw [hcond]
    simp only [Bool.false_eq_true, if_false]
    have := setAt_append cs pre (rest.take es) (rest.drop es) htk
    rw [List.append_assoc, ← hsplit, hp] at this
    rw [this]
    have ih := fill_rows css (j + 1) ps (pre ++ cs) (rest.drop es) h (fun c hc => hes c (.tail _ hc)) (by rw [List.length_append, hp, hl, Nat.add_mul, Nat.one_mul]) (by rw [List.length_drop]; omega)
    rw [ih]
    simp

/-- A slice literal. -/
theorem buildSlice_rows {t : TypeId} {e es len : Nat} {z : Value} {css : List (List Value)} {ps : List (Nat × Value)} {b nx : Nat} (h : rowed css 0 ps) (hes : ∀ cs ∈ css, cs.length = es) (hlen : css.length = len) (he : elemOf P t = some e) (hs : szOf P e = some es) (hz : zeroOf P e = some z) {by_ : Nat}
    (h0 : goodZero es by_ z = true) (h1 : len * es ≤ 2 ^ 24) : aBuildSlice P t len ps σ b nx = some (.slice (some ⟨b, 0, none⟩) len len, σ.put b nx (.cells css.flatten e false)) := by
  have := fill_rows css 0 ps [] (zeroRow z.cells (len * es)) h hes (by simp) (by simp [zeroRow, hlen])
  simp only [List.nil_append] at this
  obtain ⟨g1, g2, g3, g4⟩ := goodZero_spec h0
  have h1' : (z.cells.size ≠ es || es = 0 || len * es > 2 ^ 24 || !z.cells.all flat) = false := by
    have e1 : decide (z.cells.size ≠ es) = false := by simp [g1]
    rw [e1, decide_eq_false g2, decide_eq_false (Nat.not_lt.2 h1), g4]; rfl
  simp only [aBuildSlice, he, hs, hz, h1', Bool.false_eq_true, if_false, this]

/-- A slice literal of single cells. -/
theorem buildSlice_one {t : TypeId} {e : Nat} {z v : Value} {b nx : Nat} (he : elemOf P t = some e) (hs : szOf P e = some 1) (hz : zeroOf P e = some z) {by_ : Nat}
    (h1 : goodZero 1 by_ z = true) (hv : laidCell v = true) : aBuildSlice P t 1 [(0, v)] σ b nx = some (.slice (some ⟨b, 0, none⟩) 1 1, σ.put b nx (.cells [v] e false)) := by
  have := buildSlice_rows (P := P) (σ := σ) (css := [[v]]) (ps := [(0, v)]) (es := 1) (len := 1) (b := b) (nx := nx) ⟨rfl, cellsOf_one hv, trivial⟩ (by simp) rfl he hs hz h1 (by decide)
  simpa using this

/-- One element more, out of a literal that was just made. -/
theorem Own.push {e es n by_ : Nat} {s z : Value} {olds cs : List Value} {t el : TypeId} (h : Own σ e es s n olds) (hcs : cs.length = es)
    (he : elemOf P t = some e) (hu : Program.underlying P t = some (.slice el)) (hs : szOf P e = some es) (hz : zeroOf P e = some z) (hb : bytesOf P e = some by_) (h1 : goodZero es by_ z = true) (h2 : oneCells cs = true) (h3 : (olds.length + es) * by_ ≤ 2 ^ 46)
    (hg : Grow σ0 σ) (hp : Past σ0.next s) :
    ∃ v' σ', aAppend P t t s (.slice (some ⟨σ.next, 0, none⟩) 1 1) (σ.put σ.next (σ.next + 1) (.cells cs e false)) (σ.next + 1) (σ.next + 1 + 1) = some (v', σ') ∧ Own σ' e es v' (n + 1) (olds ++ cs) ∧ Grow σ0 σ' ∧ Past σ0.next v' ∧ σ.next ≤ σ'.next ∧ (∀ c, c < σ.next → Off c s → σ'.get c = σ.get c) ∧ (∀ c, c < σ.next → Off c s → Off c v') := by
  have hw := hg.wf
  have hgp : Grow σ (σ.put σ.next (σ.next + 1) (.cells cs e false)) := (Grow.refl hw).put (Nat.le_refl _) (by omega) (by omega)
  have hsrc : Slc P (σ.put σ.next (σ.next + 1) (.cells cs e false)) es (.slice (some ⟨σ.next, 0, none⟩) 1 1) 1 cs :=
    ⟨by omega, .inr ⟨σ.next, 0, cs, e, false, rfl, by rw [AMem.get_put, if_pos rfl], hs, by omega, by rw [List.drop_zero]; exact List.take_of_length_le (by omega)⟩⟩
  obtain ⟨v', σ', k1, k2, k3, k4, k5, k6, k7⟩ := Own.append (b := σ.next + 1) (nx := σ.next + 1 + 1) (h.grow hw hgp) (hsrc.src hu) (by omega) he hs hz hb h1 h2 (by rw [hcs]; exact h3) (hg.trans hgp) hp (by have := hg.next; omega) (by simp [AMem.next_put]) (by omega)
  refine ⟨v', σ', k1, k2, k3, k4, ?_, fun c hc ho => ?_, fun c hc ho => k7 c ho (by omega)⟩
  · rw [AMem.next_put] at k5; omega
  · rw [k6 c ho (by omega), AMem.get_put, if_neg (by omega)]

theorem laid_int (k : IntKind) (n : Int) : laidCell (.int k n) = true := by unfold laidCell; rfl
theorem laid_bool (b : Bool) : laidCell (.bool b) = true := by unfold laidCell; rfl
theorem laid_string (b : ByteArray) : laidCell (.string b) = true := by unfold laidCell; rfl
theorem laid_slice (a : Option Addr) (n c : Nat) : laidCell (.slice a n c) = true := by unfold laidCell; rfl
theorem laid_pointer (a : Option Addr) : laidCell (.pointer a) = true := by unfold laidCell; rfl

end Go.Ax

/- Maps by numbers, for running inside the kernel. -/
namespace Go.Ax
open Go

inductive Tr (α : Type) where
  | nil
  | node (v : Option α) (l r : Tr α)

namespace Tr
variable {α : Type}

def get : Tr α → Nat → Option α
  | nil, _ => none
  | node v l r, n => match n with
    | 0 => v
    | n + 1 => match n % 2 with
      | 0 => l.get (n / 2)
      | _ => r.get (n / 2)

def forceT {β : Type} (t : Tr α) (k : Tr α → β) : β :=
  match t with
  | nil => k nil
  | node v l r => k (node v l r)
theorem forceT_eq {β : Type} (t : Tr α) (k : Tr α → β) : forceT t k = k t := by cases t <;> rfl

def setA : Nat → Tr α → Nat → Option α → Tr α
  | 0, t, _, _ => t
  | f + 1, nil, n, x => match n with
    | 0 => node x nil nil
    | n + 1 => match n % 2 with
      | 0 => forceT (setA f nil (n / 2) x) fun t => node none t nil
      | _ => forceT (setA f nil (n / 2) x) fun t => node none nil t
  | f + 1, node v l r, n, x => match n with
    | 0 => node x l r
    | n + 1 => match n % 2 with
      | 0 => forceT (setA f l (n / 2) x) fun t => node v t r
      | _ => forceT (setA f r (n / 2) x) fun t => node v l t

def set (t : Tr α) (n : Nat) (x : Option α) : Tr α := setA (n + 1) t n x

theorem get_nil (n : Nat) : (nil : Tr α).get n = none := rfl

theorem get_zero (v : Option α) (l r : Tr α) : (node v l r).get 0 = v := rfl
theorem get_succ (v : Option α) (l r : Tr α) (n : Nat) : (node v l r).get (n + 1) = if n % 2 = 0 then l.get (n / 2) else r.get (n / 2) := by
  show (match n % 2 with | 0 => l.get (n / 2) | _ => r.get (n / 2)) = _
  rcases Nat.mod_two_eq_zero_or_one n with h | h <;> rw [h] <;> rfl

/-- Without looking at the tree's own shape. -/
theorem setA_eq (f : Nat) (t : Tr α) (n : Nat) (x : Option α) : ∃ v l r, (∀ m, t.get m = (node v l r : Tr α).get m) ∧
    setA (f + 1) t n x = match n with
      | 0 => node x l r
      | n + 1 => match n % 2 with
        | 0 => node v (setA f l (n / 2) x) r
        | _ => node v l (setA f r (n / 2) x) := by
  cases t with
  | nil =>
    refine ⟨none, nil, nil, fun m => ?_, ?_⟩
    · cases m with
      | zero => rfl
      | succ m => rw [get_succ]; simp [get_nil]
    · cases n with
      | zero => rfl
      | succ n => simp only [setA, forceT_eq]
  | node v l r =>
    refine ⟨v, l, r, fun _ => rfl, ?_⟩
    cases n with
    | zero => rfl
    | succ n => simp only [setA, forceT_eq]

theorem get_setA : ∀ (f : Nat) (t : Tr α) (n m : Nat) (x : Option α), n < f → (setA f t n x).get m = if m = n then x else t.get m
  | 0, _, _, _, _, h => by omega
  | f + 1, t, n, m, x, h => by
    obtain ⟨v, l, r, hg, he⟩ := setA_eq f t n x
    rw [he, hg m]
    cases n with
    | zero =>
      cases m with
      | zero => rfl
      | succ m => rw [if_neg (by omega)]; simp only [get_succ]
    | succ n =>
      have ih := fun (t : Tr α) (m : Nat) => get_setA f t (n / 2) m x (by omega)
      simp only
      rcases Nat.mod_two_eq_zero_or_one n with h2 | h2
      · rw [h2]
        cases m with
        | zero => simp [get_zero]
        | succ m =>
          simp only [get_succ, ih]
          rcases Nat.mod_two_eq_zero_or_one m with h3 | h3
          · simp only [h3, if_true]
            by_cases hmn : m = n
            · subst hmn; simp
            · rw [if_neg (by omega), if_neg (by omega)]
          · have hne : m + 1 ≠ n + 1 := by omega
            simp only [h3, if_neg hne, Nat.one_ne_zero, if_false]
      · rw [h2]
        cases m with
        | zero => simp [get_zero]
        | succ m =>
          simp only [get_succ, ih]
          rcases Nat.mod_two_eq_zero_or_one m with h3 | h3
          · have hne : m + 1 ≠ n + 1 := by omega
            simp only [h3, if_neg hne, if_true]
          · simp only [h3, Nat.one_ne_zero, if_false]
            by_cases hmn : m = n
            · subst hmn; simp
            · rw [if_neg (by omega), if_neg (by omega)]

theorem get_set (t : Tr α) (n m : Nat) (x : Option α) : (t.set n x).get m = if m = n then x else t.get m := get_setA _ t n m x (by omega)

end Tr
end Go.Ax

/- Running code on known values, inside the kernel. -/
namespace Go.Ax
open Go
variable {L : Type} {P : Program}

structure CMem (L : Type) where
  next : Nat
  tr : Tr (AObj L)
def CMem.abs (m : CMem L) : AMem L := ⟨m.next, m.tr.get⟩
def absF (F : Tr Value) : Fr := fun i => (F.get i).getD undef

section
variable {β : Type}
def forceN (n : Nat) (k : Nat → β) : β := match n with | 0 => k 0 | m + 1 => k (m + 1)
theorem forceN_eq (n : Nat) (k : Nat → β) : forceN n k = k n := by cases n <;> rfl
def forceI (n : Int) (k : Int → β) : β := match n with | .ofNat n => forceN n fun n => k (.ofNat n) | .negSucc n => forceN n fun n => k (.negSucc n)
theorem forceI_eq (n : Int) (k : Int → β) : forceI n k = k n := by cases n <;> simp only [forceI, forceN_eq]
def forceL {α : Type} (l : List α) (k : List α → β) : β := match l with | [] => k [] | x :: l => forceL l fun l => k (x :: l)
theorem forceL_eq {α : Type} : ∀ (l : List α) (k : List α → β), forceL l k = k l
  | [], _ => rfl
  | x :: l, k => by simp only [forceL, forceL_eq l]
def forceA (a : Addr) (k : Addr → β) : β := match a with | ⟨b, o, s⟩ => forceN b fun b => forceN o fun o => k ⟨b, o, s⟩
theorem forceA_eq (a : Addr) (k : Addr → β) : forceA a k = k a := by cases a; simp only [forceA, forceN_eq]
def forceV (v : Value) (k : Value → β) : β :=
  match v with
  | .int kd n => forceI n fun n => k (.int kd n)
  | .bool b => (match b with | true => k (.bool true) | false => k (.bool false))
  | .pointer (some a) => forceA a fun a => k (.pointer (some a))
  | .slice (some a) n c => forceA a fun a => forceN n fun n => forceN c fun c => k (.slice (some a) n c)
  | .map (some b) => forceN b fun b => k (.map (some b))
  | .agg ⟨cs⟩ => forceL cs fun cs => k (.agg ⟨cs⟩)
  | .tuple ⟨cs⟩ => forceL cs fun cs => k (.tuple ⟨cs⟩)
  | .string ⟨⟨cs⟩⟩ => forceL cs fun cs => k (.string ⟨⟨cs⟩⟩)
  | v => k v
theorem forceV_eq (v : Value) (k : Value → β) : forceV v k = k v := by
  unfold forceV
  split <;> first | rfl | (simp only [forceI_eq, forceA_eq, forceN_eq, forceL_eq]; done) | (split <;> rfl)
/-- The same, but numbers and truths inside are left as they are. -/
def headV (v : Value) (k : Value → β) : β :=
  match v with
  | .int kd n => k (.int kd n)
  | .bool b => k (.bool b)
  | .string s => k (.string s)
  | .pointer (some a) => forceA a fun a => k (.pointer (some a))
  | .slice (some a) n c => forceA a fun a => forceN n fun n => forceN c fun c => k (.slice (some a) n c)
  | .map (some b) => forceN b fun b => k (.map (some b))
  | .agg ⟨cs⟩ => forceL cs fun cs => k (.agg ⟨cs⟩)
  | .tuple ⟨cs⟩ => forceL cs fun cs => k (.tuple ⟨cs⟩)
  | v => k v
theorem headV_eq (v : Value) (k : Value → β) : headV v k = k v := by
  unfold headV
  split <;> first | rfl | (simp only [forceA_eq, forceN_eq, forceL_eq]; done)
def forceO (o : AObj L) (k : AObj L → β) : β :=
  match o with
  | .cells vs e ro => forceL vs fun vs => k (.cells vs e ro)
  | .map es => forceL es fun es => k (.map es)
  | .logic x => k (.logic x)
theorem forceO_eq (o : AObj L) (k : AObj L → β) : forceO o k = k o := by cases o <;> simp only [forceO, forceL_eq]
end

/-- Does it reckon a new value? -/
def computes : Op → Bool
  | .binOp .. | .unOp .. | .convert .. | .call _ => true
  | _ => false

/-- May the operation turn memory? -/
def touches : Op → Bool
  | .alloc _ | .box .. | .buildSlice .. | .makeSlice .. | .makeMap .. | .convert .. | .store .. | .mapUpdate .. | .call _ => true
  | _ => false

/-- The old block that it turns. -/
def target (F : Fr) : Op → Option Nat
  | .store _ a _ => match aEval F a with
    | .pointer (some a) => some a.block
    | _ => none
  | .mapUpdate _ m _ _ => match aEval F m with
    | .map (some r) => some r
    | _ => none
  | .call { args, .. } => match args[0]? with
    | some x => match aEval F x with
      | .slice (some a) _ _ => some a.block
      | .map (some r) => some r
      | _ => none
    | none => none
  | _ => none

theorem aOp_still {op : Op} {F : Fr} {σ σ' : AMem L} {b nx : Nat} {v : Value} (ht : touches op = false) (h : aOp P op F σ b nx = some (v, σ')) : σ' = σ := by
  have key : ∀ x : Option Value, valued σ x = some (v, σ') → σ' = σ := fun x hx => (valued_some hx).2
  cases op with
  | move x => simp only [aOp, Option.some.injEq, Prod.mk.injEq] at h; exact h.2.symm
  | assign x => simp only [aOp, Option.some.injEq, Prod.mk.injEq] at h; exact h.2.symm
  | pick c x y =>
    simp only [aOp] at h
    split at h
    · simp only [Option.some.injEq, Prod.mk.injEq] at h; exact h.2.symm
    · cases h
  | build t parts => exact key _ h
  | load t x =>
    simp only [aOp] at h
    split at h
    · exact key _ h
    · cases h
  | nilCheck x =>
    simp only [aOp] at h
    split at h
    · simp only [Option.some.injEq, Prod.mk.injEq] at h; exact h.2.symm
    · simp only [Option.some.injEq, Prod.mk.injEq] at h; exact h.2.symm
    · cases h
  | binOp o t x y u => exact key _ h
  | unOp o t x => exact key _ h
  | makeFunc fn xs us => simp only [aOp, Option.some.injEq, Prod.mk.injEq] at h; exact h.2.symm
  | slice t x lo hi mx =>
    cases mx with
    | none => exact key _ h
    | some _ => simp [aOp] at h
  | fieldAddr t x f => exact key _ h
  | field t x f => exact key _ h
  | indexAddr t x i => exact key _ h
  | index t x i => exact key _ h
  | lookup t m k ok => exact key _ h
  | extract x i =>
    simp only [aOp] at h
    split at h
    · exact key _ h
    · cases h
  | alloc => cases ht
  | box => cases ht
  | buildSlice => cases ht
  | makeSlice => cases ht
  | makeMap => cases ht
  | convert => cases ht
  | store => cases ht
  | mapUpdate => cases ht
  | call => cases ht
  | _ => simp [aOp] at h

theorem put_elsewhere (σ : AMem L) {b nx x : Nat} (o : AObj L) (h : x ≠ b) : (σ.put b nx o).get x = σ.get x := by rw [AMem.get_put, if_neg h]
theorem set_elsewhere (σ : AMem L) {b x : Nat} (o : AObj L) (h : x ≠ b) : (σ.set b o).get x = σ.get x := by rw [AMem.get_set, if_neg h]

theorem aOp_only {op : Op} {F : Fr} {σ σ' : AMem L} {b nx : Nat} {v : Value} (h : aOp P op F σ b nx = some (v, σ')) {x : Nat} (hx : x ≠ b) (ht : target F op ≠ some x) : σ'.get x = σ.get x := by
  cases hto : touches op with
  | false => rw [aOp_still hto h]
  | true =>
  cases op with
  | alloc t =>
    simp only [aOp] at h
    split at h
    · split at h
      · cases h; exact put_elsewhere _ _ hx
      · cases h
    · cases h
  | box t y =>
    simp only [aOp] at h
    split at h
    · cases h; exact put_elsewhere _ _ hx
    · cases h
  | buildSlice t len parts =>
    simp only [aOp] at h
    unfold aBuildSlice at h
    split at h
    · split at h
      · split at h
        · cases h
        · split at h
          · cases h; exact put_elsewhere _ _ hx
          · cases h
      · cases h
    · cases h
  | makeSlice t y z =>
    simp only [aOp] at h
    unfold aMakeSlice at h
    split at h
    · split at h
      · split at h
        · cases h
        · split at h
          · cases h; exact put_elsewhere _ _ hx
          · cases h
      · cases h
    · cases h
  | makeMap t r =>
    cases r with
    | none => simp only [aOp] at h; cases h; exact put_elsewhere _ _ hx
    | some r => simp [aOp] at h
  | convert s d y =>
    simp only [aOp] at h
    unfold aConv at h
    split at h
    · cases h; rfl
    · cases h; rfl
    · split at h
      · cases h; exact put_elsewhere _ _ hx
      · cases h
    · split at h
      · cases h; rfl
      · cases h
    · cases h
  | store t a y =>
    simp only [aOp] at h
    simp only [target] at ht
    split at h
    · rename_i c off ha
      simp only [ha, ne_eq, Option.some.injEq] at ht
      obtain ⟨σ1, h1, h2⟩ := Option.map_eq_some_iff.1 h
      cases h2
      unfold aStore at h1
      repeat' split at h1
      all_goals first | (cases h1; done) | (cases h1; exact set_elsewhere _ _ (fun e => ht e.symm))
    · cases h
  | mapUpdate t m k y =>
    simp only [aOp] at h
    simp only [target] at ht
    obtain ⟨σ1, h1, h2⟩ := Option.map_eq_some_iff.1 h
    cases h2
    unfold aMapUpdate at h1
    split at h1
    · rename_i r _ hm
      simp only [hm, ne_eq, Option.some.injEq] at ht
      repeat' split at h1
      all_goals first | (cases h1; done) | (cases h1; exact set_elsewhere _ _ (fun e => ht e.symm))
    · cases h1
  | call c =>
    obtain ⟨callee, args, argTypes⟩ := c
    cases callee with
    | builtin bi =>
      simp only [aOp] at h
      have ht' : ∀ y ys, args.toList.map (aEval F) = y :: ys → (∀ a n c, y = .slice (some a) n c → a.block ≠ x) ∧ (∀ r, y = .map (some r) → r ≠ x) := by
        intro y ys hy
        cases hl : args.toList with
        | nil => rw [hl] at hy; cases hy
        | cons z zs =>
          rw [hl] at hy
          simp only [List.map_cons, List.cons.injEq] at hy
          have hz : args[0]? = some z := by rw [← Array.getElem?_toList, hl]; rfl
          simp only [target, hz, hy.1] at ht
          refine ⟨fun a n c e => ?_, fun r e => ?_⟩
          · subst e; simpa using ht
          · subst e; simpa using ht
      generalize args.toList.map (aEval F) = vs at h ht'
      unfold aBuiltin at h
      split at h
      · rw [(valued_some h).2]
      · rename_i s y t tx hvs hts
        have hs := (ht' _ _ rfl).1
        split at h
        · unfold aAppendZ at h
          split at h
          · split at h
            · split at h
              · cases h
              · split at h
                · cases h; exact put_elsewhere _ _ hx
                · cases h
            · cases h
          · cases h
        unfold aAppend at h
        split at h
        · split at h
          · split at h
            · split at h
              · cases h
              · split at h
                · split at h
                  · cases h; rfl
                  · cases h; exact put_elsewhere _ _ hx
                · split at h
                  · cases h; rfl
                  · split at h
                    · split at h
                      · cases h
                        rw [put_elsewhere _ _ hx, AMem.get_kill, if_neg (fun e => hs _ _ _ rfl e.symm)]
                      · cases h
                    · cases h
                · cases h
            · cases h
          · cases h
        · cases h
      · rename_i d s t _ hvs hts
        have hd := (ht' _ _ rfl).1
        split at h
        · cases h; rfl
        unfold aCopy at h
        split at h
        · split at h
          · split at h
            · split at h
              · cases h
              · cases h; exact set_elsewhere _ _ (fun e => hd _ _ _ rfl e.symm)
            · cases h
          · cases h
        · cases h
      · rename_i m k t _ hvs hts
        have hm := (ht' _ _ rfl).2
        obtain ⟨σ1, h1, h2⟩ := Option.map_eq_some_iff.1 h
        cases h2
        unfold aDelete at h1
        split at h1
        · split at h1
          · split at h1
            · cases h1; exact set_elsewhere _ _ (fun e => hm _ rfl e.symm)
            · cases h1
          · cases h1
        · cases h1
      · rw [(valued_some h).2]
      · rw [(valued_some h).2]
      · rw [(valued_some h).2]
      · cases h
    | _ => simp [aOp] at h
  | _ => cases hto

end Go.Ax

/- Running code on known values: the runner, and that it says what the evaluator says. -/
namespace Go.Ax
open Go
variable {L : Type} {P : Program} {β : Type}

def updT (t : Tr (AObj L)) (i : Nat) (g : Nat → Option (AObj L)) (k : Tr (AObj L) → β) : β :=
  match g i with
  | none => Tr.forceT (t.set i none) k
  | some o => forceO o fun o => Tr.forceT (t.set i (some o)) k
theorem updT_eq (t : Tr (AObj L)) (i : Nat) (g : Nat → Option (AObj L)) (k : Tr (AObj L) → β) : updT t i g k = k (t.set i (g i)) := by
  unfold updT
  split <;> rename_i h <;> rw [h]
  · rw [Tr.forceT_eq]
  · rw [forceO_eq, Tr.forceT_eq]

def cput (F : Tr Value) (d : Option Nat) (v : Value) (k : Tr Value → β) : β :=
  match d with
  | none => k F
  | some d => Tr.forceT (F.set d (some v)) k
theorem absF_set (F : Tr Value) (d : Nat) (v : Value) : absF (F.set d (some v)) = Fr.set (absF F) d v := by
  funext i
  simp only [absF, Tr.get_set, Fr.set]
  split <;> rfl
theorem cput_eq (F : Tr Value) (d : Option Nat) (v : Value) (k : Tr Value → β) : ∃ F', cput F d v k = k F' ∧ absF F' = Fr.put (absF F) d v := by
  cases d with
  | none => exact ⟨F, rfl, rfl⟩
  | some d => exact ⟨F.set d (some v), by simp only [cput, Tr.forceT_eq], absF_set F d v⟩

def cOp (P : Program) (op : Op) (F : Tr Value) (m : CMem L) (b nx : Nat) (k : Value → CMem L → Option β) : Option β :=
  match aOp P op (absF F) m.abs b nx with
  | none => none
  | some (v, σ') => (match computes op with | true => forceV v | false => headV v) fun v =>
    match touches op with
    | false => k v m
    | true => forceN σ'.next fun n => updT m.tr b σ'.get fun t =>
      match target (absF F) op with
      | none => k v ⟨n, t⟩
      | some c => updT t c σ'.get fun t => k v ⟨n, t⟩

theorem amem_ext {σ σ' : AMem L} (h1 : σ.next = σ'.next) (h2 : ∀ x, σ.get x = σ'.get x) : σ = σ' := by
  cases σ; cases σ'
  simp only at h1 h2
  subst h1
  congr
  funext x; exact h2 x

theorem cOp_sound {op : Op} {F : Tr Value} {m : CMem L} {b nx : Nat} {k : Value → CMem L → Option β} {r : β} (h : cOp P op F m b nx k = some r) : ∃ v m', aOp P op (absF F) m.abs b nx = some (v, m'.abs) ∧ k v m' = some r := by
  unfold cOp at h
  split at h
  · cases h
  · rename_i v σ' hop
    have hforce : ∀ (k : Value → Option β), (match computes op with | true => forceV v | false => headV v) k = k v := fun k => by
      cases computes op
      · exact headV_eq v k
      · exact forceV_eq v k
    rw [hforce] at h
    split at h
    · rename_i ht
      refine ⟨v, m, ?_, h⟩
      rw [hop, aOp_still ht hop]
    · rw [forceN_eq, updT_eq] at h
      split at h
      · rename_i htg
        refine ⟨v, ⟨σ'.next, m.tr.set b (σ'.get b)⟩, ?_, h⟩
        rw [hop]
        congr 2
        refine amem_ext rfl fun x => ?_
        simp only [CMem.abs, Tr.get_set]
        split
        · rename_i e; subst e; rfl
        · rename_i e
          exact aOp_only hop e (by rw [htg]; simp)
      · rename_i c htg
        rw [updT_eq] at h
        refine ⟨v, ⟨σ'.next, (m.tr.set b (σ'.get b)).set c (σ'.get c)⟩, ?_, h⟩
        rw [hop]
        congr 2
        refine amem_ext rfl fun x => ?_
        simp only [CMem.abs, Tr.get_set]
        split
        · rename_i e; subst e; rfl
        · rename_i e1
          split
          · rename_i e; subst e; rfl
          · rename_i e
            exact aOp_only hop e (by rw [htg]; simpa using fun h => e1 h.symm)

def lookL (F : Tr Value) : List Operand → (List Value → β) → β
  | [], k => k []
  | x :: xs, k => headV (aEval (absF F) x) fun v => lookL F xs fun vs => k (v :: vs)
theorem lookL_eq (F : Tr Value) : ∀ (xs : List Operand) (k : List Value → β), lookL F xs k = k (xs.map (aEval (absF F)))
  | [], _ => rfl
  | x :: xs, k => by simp only [lookL, headV_eq, lookL_eq F xs, List.map_cons]

/-- What calls answer. -/
abbrev CCall (L : Type) := FuncId → List Value → CMem L → Option (Value × CMem L)

def cStep (P : Program) (call : CCall L) (ops : Array Oper) (o : Oper) (F : Tr Value) (m : CMem L) (b nx : Nat) (k : Tr Value → CMem L → Option β) : Option β :=
  match aWanted ops o (absF F) with
  | none => none
  | some false => cput F o.dst skipped fun F => k F m
  | some true =>
    match o.op with
    | .call { callee := .value f, args, .. } =>
      match aEval (absF F) f with
      | .func (.func g) first captured => lookL F args.toList fun as => match call g (first.toList ++ as ++ captured.toList) m with
        | some (v, m') => cput F o.dst v fun F => k F m'
        | none => none
      | _ => none
    | op => cOp P op F m b nx fun v m' => cput F o.dst v fun F => k F m'

def CallsFit (ccall : CCall L) (call : Spec L) : Prop := ∀ g as m v m', ccall g as m = some (v, m') → ∀ K : Value → AMem L → Prop, K v m'.abs → call g as m.abs K

theorem cStep_sound {ccall : CCall L} {call : Spec L} (hc : CallsFit ccall call) {ops : Array Oper} {o : Oper} {F : Tr Value} {m : CMem L} {b nx : Nat} {k : Tr Value → CMem L → Option β} {r : β} {K : Fr → AMem L → Prop}
    (h : cStep P ccall ops o F m b nx k = some r) (hK : ∀ F' m', k F' m' = some r → K (absF F') m'.abs) : aStep P call ops o (absF F) m.abs b nx K := by
  unfold cStep at h
  unfold aStep
  split at h
  · cases h
  · rename_i hw
    rw [hw]
    obtain ⟨F', h1, h2⟩ := cput_eq F o.dst skipped fun F => k F m
    rw [h1] at h
    simp only [← h2]
    exact hK _ _ h
  · rename_i hw
    rw [hw]
    simp only
    split at h
    · rename_i f args argTypes hop
      simp only [hop]
      split at h
      · rename_i g first captured hf
        simp only [hf]
        rw [lookL_eq] at h
        split at h
        · rename_i v m' hg
          obtain ⟨F', h1, h2⟩ := cput_eq F o.dst v fun F => k F m'
          rw [h1] at h
          refine hc _ _ _ _ _ hg _ ?_
          rw [← h2]
          exact hK _ _ h
        · cases h
      · cases h
    · rename_i hnc
      obtain ⟨v, m', h1, h2⟩ := cOp_sound h
      obtain ⟨F', h3, h4⟩ := cput_eq F o.dst v fun F => k F m'
      rw [h3] at h2
      have hgoal : K (Fr.put (absF F) o.dst v) m'.abs := by rw [← h4]; exact hK _ _ h2
      obtain ⟨dst, op, ty, pos, after, guard⟩ := o
      cases op with
      | call c =>
        obtain ⟨callee, args, at'⟩ := c
        cases callee with
        | value f => exact absurd rfl (hnc _ _ _)
        | _ => simp only at h1 ⊢; rw [h1]; exact hgoal
      | _ => simp only at h1 ⊢; rw [h1]; exact hgoal

def cOps (P : Program) (call : CCall L) (ops : Array Oper) : List Oper → Tr Value → CMem L → (Tr Value → CMem L → Option β) → Option β
  | [], F, m, k => k F m
  | o :: rest, F, m, k => cStep P call ops o F m m.next (m.next + 1) fun F' m' => cOps P call ops rest F' m' k

theorem cOps_sound {ccall : CCall L} {call : Spec L} (hc : CallsFit ccall call) {ops : Array Oper} {k : Tr Value → CMem L → Option β} {r : β} {K : Fr → AMem L → Prop} (hK : ∀ F' m', k F' m' = some r → K (absF F') m'.abs) : ∀ (l : List Oper) (F : Tr Value) (m : CMem L),
    cOps P ccall ops l F m k = some r → aOps P call ops l (absF F) m.abs K
  | [], F, m, h => hK _ _ h
  | o :: rest, F, m, h => cStep_sound hc h fun F' m' h' => cOps_sound hc hK rest F' m' h'

/-! Equal values. -/
def sameC : Value → Value → Bool
  | .int k a, .int k' b => decide (k = k') && decide (a = b)
  | .float k a, .float k' b => decide (k = k') && decide (a = b)
  | .bool a, .bool b => a == b
  | .string a, .string b => decide (a.data.toList = b.data.toList)
  | .pointer a, .pointer b => decide (a = b)
  | .slice a n c, .slice b n' c' => decide (a = b) && decide (n = n') && decide (c = c')
  | .map a, .map b => decide (a = b)
  | .nilFunc, .nilFunc => true
  | .nilIface, .nilIface => true
  | _, _ => false
theorem sameC_eq {a b : Value} (h : sameC a b = true) : a = b := by
  unfold sameC at h
  split at h <;> first | (simp at h; done) | simp_all
  rename_i x y
  cases x; cases y
  simp only [ByteArray.mk.injEq] at h ⊢
  first | exact h | exact Array.toList_inj.1 h
def sameL : List Value → List Value → Bool
  | [], [] => true
  | x :: xs, y :: ys => sameC x y && sameL xs ys
  | _, _ => false
theorem sameL_eq : ∀ {a b : List Value}, sameL a b = true → a = b
  | [], [], _ => rfl
  | x :: xs, y :: ys, h => by
    simp only [sameL, Bool.and_eq_true] at h
    rw [sameC_eq h.1, sameL_eq h.2]
  | [], _ :: _, h => by cases h
  | _ :: _, [], h => by cases h
def sameV : Value → Value → Bool
  | .agg xs, .agg ys => sameL xs.toList ys.toList
  | a, b => sameC a b
theorem sameV_eq {a b : Value} (h : sameV a b = true) : a = b := by
  unfold sameV at h
  split at h
  · rw [Array.toList_inj.1 (sameL_eq h)]
  · exact sameC_eq h

def seen (P : Program) (ops : Array Oper) (base : Nat) (F : Tr Value) (m m' : CMem L) (j : Nat) : Bool :=
  match ops[j]? with
  | none => true
  | some oj => match aWanted ops oj (absF F) with
    | some true => looks P oj.op && !makes P oj.op && (match aOp P oj.op (absF F) m.abs (base + j) m.next with
      | none => false
      | some (v, _) => match aOp P oj.op (absF F) m'.abs (base + j) m'.next with
        | none => false
        | some (v', _) => sameV v v')
    | _ => true

theorem seen_sound {ops : Array Oper} {base : Nat} {F : Tr Value} {m m' : CMem L} {j : Nat} (h : seen P ops base F m m' j = true) : ∀ oj, ops[j]? = some oj → aWanted ops oj (absF F) = some true →
    ∃ v, aOp P oj.op (absF F) m.abs (base + j) m.abs.next = some (v, m.abs) ∧ aOp P oj.op (absF F) m'.abs (base + j) m'.abs.next = some (v, m'.abs) := by
  intro oj hoj hw
  unfold seen at h
  rw [hoj] at h
  simp only [hw, Bool.and_eq_true, Bool.not_eq_true'] at h
  obtain ⟨⟨h0, h1⟩, h2⟩ := h
  split at h2
  · cases h2
  · rename_i v σ1 e1
    split at h2
    · cases h2
    · rename_i v' σ2 e2
      have hv := sameV_eq h2
      subst hv
      have r1 := (looks_le h0 h1 e1).1
      have r2 := (looks_le h0 h1 e2).1
      subst r1; subst r2
      exact ⟨v, e1, e2⟩

def cPlan (P : Program) (call : CCall L) (ops : Array Oper) (base : Nat) : List (PItem × List Nat) → (Nat → Option (AObj L)) → Tr Value → CMem L → (Tr Value → CMem L → Option β) → Option β
  | [], _, F, m, k => k F m
  | (.op i, ls) :: rest, pend, F, m, k =>
    match ops[i]? with
    | none => none
    | some o => forceN (base + i) fun b => cStep P call ops o F m b m.next fun F' m' =>
        match ls.all (seen P ops base F m m') with
        | true => cPlan P call ops base rest pend F' m' k
        | false => none
  | (.mk i, _) :: rest, pend, F, m, k =>
    match ops[i]? with
    | none => none
    | some o => match aWanted ops o (absF F) with
      | none => none
      | some false => cput F o.dst skipped fun F => cPlan P call ops base rest pend F m k
      | some true => forceN (base + i) fun b => match aNew P L o.op (absF F) b with
        | some (v, ob) => forceV v fun v => forceO ob fun ob => cput F o.dst v fun F => cPlan P call ops base rest (setPend pend i ob) F m k
        | none => none
  | (.reveal i, _) :: rest, pend, F, m, k =>
    match pend i with
    | some ob => forceN (base + i) fun b => Tr.forceT (m.tr.set b (some ob)) fun t => cPlan P call ops base rest pend F ⟨m.next, t⟩ k
    | none => cPlan P call ops base rest pend F m k

theorem cPlan_sound {ccall : CCall L} {call : Spec L} (hc : CallsFit ccall call) {ops : Array Oper} {base : Nat} {k : Tr Value → CMem L → Option β} {r : β} {K : Fr → AMem L → Prop} (hK : ∀ F' m', k F' m' = some r → K (absF F') m'.abs) : ∀ (l : List (PItem × List Nat)) (pend : Nat → Option (AObj L)) (F : Tr Value) (m : CMem L),
    cPlan P ccall ops base l pend F m k = some r → aPlan P call ops base l pend (absF F) m.abs K
  | [], _, F, m, h => hK _ _ h
  | (.op i, ls) :: rest, pend, F, m, h => by
    simp only [cPlan] at h
    simp only [aPlan]
    split at h
    · cases h
    · rename_i o ho
      rw [forceN_eq] at h
      rw [ho]
      refine cStep_sound hc h fun F' m' h' => ?_
      split at h'
      · rename_i hall
        rw [List.all_eq_true] at hall
        exact ⟨fun j hj => seen_sound (hall j hj), cPlan_sound hc hK rest pend F' m' h'⟩
      · cases h'
  | (.mk i, ls) :: rest, pend, F, m, h => by
    simp only [cPlan] at h
    simp only [aPlan]
    split at h
    · cases h
    · rename_i o ho
      rw [ho]
      simp only
      split at h
      · cases h
      · rename_i hw
        rw [hw]
        obtain ⟨F', h1, h2⟩ := cput_eq F o.dst skipped fun F => cPlan P ccall ops base rest pend F m k
        rw [h1] at h
        simp only [← h2]
        exact cPlan_sound hc hK rest pend F' m h
      · rename_i hw
        rw [hw, forceN_eq] at *
        split at h
        · rename_i v ob hn
          rw [forceV_eq, forceO_eq] at h
          obtain ⟨F', h1, h2⟩ := cput_eq F o.dst v fun F => cPlan P ccall ops base rest (setPend pend i ob) F m k
          rw [h1] at h
          simp only [hn, ← h2]
          exact cPlan_sound hc hK rest _ F' m h
        · cases h
  | (.reveal i, ls) :: rest, pend, F, m, h => by
    simp only [cPlan] at h
    simp only [aPlan]
    split at h
    · rename_i ob hob
      rw [forceN_eq, Tr.forceT_eq] at h
      rw [hob]
      have := cPlan_sound hc hK rest pend F ⟨m.next, m.tr.set (base + i) (some ob)⟩ h
      have e : (⟨m.next, m.tr.set (base + i) (some ob)⟩ : CMem L).abs = m.abs.put (base + i) m.abs.next ob := by
        refine amem_ext rfl fun x => ?_
        simp only [CMem.abs, Tr.get_set, AMem.get_put]
      simp only
      rw [← e]; exact this
    · rename_i hob
      rw [hob]
      exact cPlan_sound hc hK rest pend F m h

abbrev Out (L : Type) := Option (Exit × Tr Value × CMem L)

def cLoop (body : Tr Value → CMem L → Out L) : Nat → Tr Value → CMem L → Out L
  | 0, _, _ => none
  | n + 1, F, m => match body F m with
    | some (.normal, F', m') => cLoop body n F' m'
    | r => r

def cCode (P : Program) (call : CCall L) (plans : Plans) (N : Nat) : Code → Tr Value → CMem L → Out L
  | .skip, F, m | .label _, F, m => some (.normal, F, m)
  | .region id ops draw, F, m =>
    match draw with
    | true => forceN (m.next + ops.size) fun n => cPlan P call ops m.next (plans id) (fun _ => none) F ⟨n, m.tr⟩ fun F m => some (.normal, F, m)
    | false => cOps P call ops ops.toList F m fun F m => some (.normal, F, m)
  | .seq a b, F, m => match cCode P call plans N a F m with
    | some (.normal, F', m') => cCode P call plans N b F' m'
    | r => r
  | .cond c a b, F, m => match aEval (absF F) c with
    | .bool true => cCode P call plans N a F m
    | .bool false => cCode P call plans N b F m
    | _ => none
  | .block id c, F, m => match cCode P call plans N c F m with
    | some (.exit i, F', m') => match i == id with
      | true => some (.normal, F', m')
      | false => some (.exit i, F', m')
    | r => r
  | .loop c, F, m => cLoop (cCode P call plans N c) N F m
  | .exit id, F, m => some (.exit id, F, m)
  | .scope c, F, m => match cCode P call plans N c F m with
    | some (.goto _, _, _) => none
    | r => r
  | .ret, F, m => some (.ret, F, m)
  | _, _, _ => none

theorem cCode_sound {ccall : CCall L} {call : Spec L} (hc : CallsFit ccall call) {plans : Plans} {N : Nat} : ∀ (c : Code) (Q : Exit → Fr → AMem L → Prop) (F : Tr Value) (m : CMem L) (e : Exit) (F' : Tr Value) (m' : CMem L),
    cCode P ccall plans N c F m = some (e, F', m') → Q e (absF F') m'.abs → aCode P call plans c Q (absF F) m.abs := by
  intro c
  induction c with
  | skip => intro Q F m e F' m' h hQ; simp only [cCode, Option.some.injEq, Prod.mk.injEq] at h; obtain ⟨rfl, rfl, rfl⟩ := h; exact hQ
  | label l => intro Q F m e F' m' h hQ; simp only [cCode, Option.some.injEq, Prod.mk.injEq] at h; obtain ⟨rfl, rfl, rfl⟩ := h; exact hQ
  | exit id => intro Q F m e F' m' h hQ; simp only [cCode, Option.some.injEq, Prod.mk.injEq] at h; obtain ⟨rfl, rfl, rfl⟩ := h; exact hQ
  | ret => intro Q F m e F' m' h hQ; simp only [cCode, Option.some.injEq, Prod.mk.injEq] at h; obtain ⟨rfl, rfl, rfl⟩ := h; exact hQ
  | region id ops draw =>
    intro Q F m e F' m' h hQ
    have hK : ∀ F1 m1, (fun F m => some (Exit.normal, F, m)) F1 m1 = some (e, F', m') → Q .normal (absF F1) m1.abs := by
      intro F1 m1 h1
      simp only [Option.some.injEq, Prod.mk.injEq] at h1
      obtain ⟨rfl, rfl, rfl⟩ := h1; exact hQ
    cases draw with
    | true =>
      simp only [cCode] at h
      rw [forceN_eq] at h
      simp only [aCode, if_true]
      exact cPlan_sound hc hK _ _ _ _ h
    | false =>
      simp only [cCode] at h
      simp only [aCode, Bool.false_eq_true, if_false]
      exact cOps_sound hc hK _ _ _ h
  | seq a b iha ihb =>
    intro Q F m e F' m' h hQ
    simp only [cCode] at h
    simp only [aCode]
    split at h
    · rename_i F1 m1 h1
      exact iha _ F m _ _ _ h1 (ihb Q F1 m1 e F' m' h hQ)
    · rename_i hne
      refine iha _ F m e F' m' h ?_
      cases e with
      | normal => exact absurd h (hne F' m')
      | _ => exact hQ
  | cond c a b iha ihb =>
    intro Q F m e F' m' h hQ
    simp only [cCode] at h
    simp only [aCode]
    split at h
    · rename_i hb; rw [hb]; exact iha Q F m e F' m' h hQ
    · rename_i hb; rw [hb]; exact ihb Q F m e F' m' h hQ
    · cases h
  | block id c ih =>
    intro Q F m e F' m' h hQ
    simp only [cCode] at h
    simp only [aCode]
    split at h
    · rename_i i F1 m1 h1
      split at h
      · rename_i hi
        simp only [Option.some.injEq, Prod.mk.injEq] at h
        obtain ⟨rfl, rfl, rfl⟩ := h
        refine ih _ F m _ _ _ h1 ?_
        simp only [beq_iff_eq] at hi
        simp only [exBlock, if_pos hi]; exact hQ
      · rename_i hi
        simp only [Option.some.injEq, Prod.mk.injEq] at h
        obtain ⟨rfl, rfl, rfl⟩ := h
        refine ih _ F m _ _ _ h1 ?_
        simp only [beq_eq_false_iff_ne, ne_eq] at hi
        simp only [exBlock, if_neg hi]; exact hQ
    · rename_i hne
      refine ih _ F m e F' m' h ?_
      cases e with
      | exit i => exact absurd h (hne i F' m')
      | _ => exact hQ
  | loop c ih =>
    intro Q F m e F' m' h hQ
    simp only [cCode] at h
    simp only [aCode]
    refine ⟨fun F => F, fun n F1 σ1 => ∃ F2 m2, F1 = absF F2 ∧ σ1 = m2.abs ∧ cLoop (cCode P ccall plans N c) n F2 m2 = some (e, F', m'), fun _ _ => .inl rfl, ⟨N, F, m, rfl, rfl, h⟩, ?_⟩
    rintro n _ _ ⟨F2, m2, rfl, rfl, hl⟩
    cases n with
    | zero => cases hl
    | succ n =>
      simp only [cLoop] at hl
      split at hl
      · rename_i F3 m3 h3
        exact ih _ F2 m2 _ _ _ h3 ⟨n, by omega, F3, m3, rfl, rfl, hl⟩
      · rename_i hne
        refine ih _ F2 m2 e F' m' hl ?_
        cases e with
        | normal => exact absurd hl (hne F' m')
        | _ => exact hQ
  | scope c ih =>
    intro Q F m e F' m' h hQ
    simp only [cCode] at h
    simp only [aCode]
    split at h
    · cases h
    · rename_i hne
      refine ih _ F m e F' m' h ?_
      cases e with
      | goto l => exact absurd h (hne l F' m')
      | _ => exact hQ
  | rangeFunc f ps x y _ _ => intro Q F m e F' m' h; simp [cCode] at h
  | goto l => intro Q F m e F' m' h; simp [cCode] at h
  | refuse s => intro Q F m e F' m' h; simp [cCode] at h

end Go.Ax

/- Running functions on known values. -/
namespace Go.Ax
open Go
variable {L : Type} {P : Program}

structure Entry where
  ntmps : Nat
  rs : List ResultVar
  code : Code
  plans : Plans

def Entry.Good (P : Program) (f : Nat) (en : Entry) : Prop := ∃ fn, FnOk P en.plans f fn en.code ∧ fn.ntmps = en.ntmps ∧ fn.results.toList = en.rs

def Tr.ofList {α : Type} : List (Nat × α) → Tr α
  | [] => .nil
  | (i, x) :: l => Tr.forceT ((Tr.ofList l).set i (some x)) id
theorem Tr.ofList_get {α : Type} : ∀ (l : List (Nat × α)) (i : Nat) (x : α), (Tr.ofList l).get i = some x → (i, x) ∈ l
  | [], _, _, h => by cases h
  | (j, y) :: l, i, x, h => by
    simp only [Tr.ofList, Tr.forceT_eq, id, Tr.get_set] at h
    split at h
    · rename_i e; subst e; cases h; exact .head _
    · exact .tail _ (Tr.ofList_get l i x h)

def initF : List Value → Nat → Tr Value → Tr Value
  | [], _, t => t
  | v :: vs, i, t => initF vs (i + 1) (t.set i (some v))

theorem initF_get : ∀ (args : List Value) (i : Nat) (t : Tr Value) (j : Nat), (initF args i t).get j = if i ≤ j ∧ j < i + args.length then args[j - i]? else t.get j
  | [], i, t, j => by
    rw [if_neg (by simp only [List.length_nil]; omega)]; rfl
  | v :: vs, i, t, j => by
    simp only [initF, List.length_cons]
    rw [initF_get vs (i + 1) _ j, Tr.get_set]
    by_cases h1 : i + 1 ≤ j ∧ j < i + 1 + vs.length
    · rw [if_pos h1, if_pos (by omega), show j - i = j - (i + 1) + 1 by omega]; rfl
    · rw [if_neg h1]
      by_cases h2 : j = i
      · subst h2; rw [if_pos rfl, if_pos (by omega)]; simp
      · rw [if_neg h2, if_neg (by omega)]

theorem absF_init (args : List Value) : absF (initF args 0 .nil) = aArgs args := by
  funext i
  simp only [absF, aArgs, initF_get, Tr.get_nil, List.getD_eq_getElem?_getD]
  by_cases h : i < args.length
  · rw [if_pos (by omega)]; simp
  · rw [if_neg (by omega), List.getElem?_eq_none (by omega)]

/-- Functions that are told in Lean. -/
abbrev Natives (L : Type) := FuncId → Option (List Value → CMem L → Option (Value × CMem L))

def crun (P : Program) (tab : FuncId → Option Entry) (nat : Natives L) (N : Nat) : Nat → CCall L
  | 0 => fun _ _ _ => none
  | n + 1 => fun f args m =>
    match nat f with
    | some g => g args m
    | none => match tab f with
      | none => none
      | some en => match Nat.ble args.length en.ntmps with
        | false => none
        | true => Tr.forceT (initF args 0 .nil) fun F => match cCode P (crun P tab nat N n) en.plans N en.code F m with
          | some (.normal, F', m') => (match aResults P en.rs (absF F') m'.abs with
            | some v => headV v fun v => some (v, m')
            | none => none)
          | some (.ret, F', m') => (match aResults P en.rs (absF F') m'.abs with
            | some v => headV v fun v => some (v, m')
            | none => none)
          | _ => none

/-- What a run says, as a law of calls. -/
def runSpec (run : CCall L) : Spec L := fun f args σ K => ∃ m v m', σ = m.abs ∧ run f args m = some (v, m') ∧ K v m'.abs

theorem crun_sim {rel : Rel P L} (hm : P.follows .mixedOrders = true) {tab : FuncId → Option Entry} {nat : Natives L} {N : Nat} (htab : ∀ f en, tab f = some en → en.Good P f)
    (hnat : Sim rel (runSpec fun f args m => (nat f).bind fun g => g args m)) : ∀ n, Sim rel (runSpec (crun P tab nat N n))
  | 0 => by
    rintro f args σ K ⟨m, v, m', _, h, _⟩
    cases h
  | n + 1 => by
    have ih := crun_sim hm htab hnat (N := N) n
    rintro f args σ K ⟨m, v, m', rfl, h, hK⟩
    simp only [crun] at h
    split at h
    · rename_i g hg
      exact hnat f args m.abs K ⟨m, v, m', rfl, by simp only [hg, Option.bind_some]; exact h, hK⟩
    · split at h
      · cases h
      · rename_i en hen
        obtain ⟨fn, hok, hnt, hrs⟩ := htab f en hen
        refine Sim.add ih hm hok (law := fun args σ K => args = args ∧ aBody P (runSpec (crun P tab nat N n)) en.plans fn en.code args σ K) (fun _ _ _ h => h.2) f args m.abs K (.inr ⟨rfl, rfl, ?_⟩)
        split at h
        · cases h
        · rename_i hlen
          rw [Tr.forceT_eq] at h
          refine ⟨by rw [hnt]; exact Nat.le_of_ble_eq_true hlen, ?_⟩
          rw [← absF_init]
          have hfit : CallsFit (crun P tab nat N n) (runSpec (crun P tab nat N n)) := fun g as m v m' h K hK => ⟨m, v, m', rfl, h, hK⟩
          split at h
          · rename_i F' m1 hc
            refine cCode_sound hfit _ _ _ _ _ _ _ hc ?_
            split at h
            · rename_i v1 hv
              rw [headV_eq] at h
              cases h
              simp only [aEnd, hrs, hv]; exact hK
            · cases h
          · rename_i F' m1 hc
            refine cCode_sound hfit _ _ _ _ _ _ _ hc ?_
            split at h
            · rename_i v1 hv
              rw [headV_eq] at h
              cases h
              simp only [aEnd, hrs, hv]; exact hK
            · cases h
          · cases h

end Go.Ax

/- Functions without a body, that the model answers at once. -/
namespace Go.Ax
open Go
variable {L : Type} {P : Program} {rel : Rel P L}

/-- The facts of such a function. -/
structure ExtOk (P : Program) (f : FuncId) (fn : Func) (e : Array Value → Sem Value) : Prop where
  func : P.funcs[f]? = some fn
  body : fn.body.isNone = true
  name : (fn.name == "runtime.NumGoroutine") = false
  next : (Extern.findNext fn).isNone = true
  find : Extern.find fn = some e

theorem ExtOk.run {f : FuncId} {fn : Func} {e : Array Value → Sem Value} (h : ExtOk P f fn e) {args : Array Value} {v : Value} {w : World} (he : (e args).run P w = .ok v w) : (callFunc f args).run P w = .ok (.value v) w := by
  have h1 : ¬ fn.name = "runtime.NumGoroutine" := by simpa using h.name
  have h2 : fn.body = none := by have := h.body; cases hb : fn.body with | none => rfl | some c => rw [hb] at this; cases this
  have h3 : Extern.findNext fn = none := by have := h.next; cases hb : Extern.findNext fn with | none => rfl | some c => rw [hb] at this; cases this
  simp [callFunc, run_program, h.func, h1, h2, h3, h.find, he]

/-- It may be called. -/
theorem Sim.ext {call : Spec L} (hsim : Sim rel call) {f : FuncId} {fn : Func} {e : Array Value → Sem Value} (h : ExtOk P f fn e) {law : Law L}
    (hl : ∀ args σ K, law args σ K → ∃ v, K v σ ∧ ∀ (ρ : Rho) (args' : Array Value), LRel ρ args args'.toList → ∃ v', VRel ρ v v' ∧ ∀ w, (e args').run P w = .ok v' w) :
    Sim rel (fun g args σ K => call g args σ K ∨ (g = f ∧ law args σ K)) := by
  intro g args σ K hc κ ρ w args' hargs hR
  rcases hc with hc | ⟨rfl, hc⟩
  · exact hsim g args σ K hc κ ρ w args' hargs hR
  · obtain ⟨v, hK, hv⟩ := hl args σ K hc
    obtain ⟨v', h1, h2⟩ := hv ρ args' hargs
    exact .inr ⟨v', w, h.run (h2 w), v, v', ρ, σ, rfl, hK, ρ.le_refl, fun _ _ => rfl, fun _ _ h => h, Nat.le_refl _, h1, hR⟩

end Go.Ax

/- Natives that only look: from laws of calls to laws of the runner. -/
namespace Go.Ax
open Go
variable {L : Type} {P : Program} {rel : Rel P L}

theorem sim_none (rel : Rel P L) : Sim rel (fun _ _ _ _ => False) := fun _ _ _ _ h => h.elim

/-- A native that computes a value of its arguments alone. -/
def pureNat (g : List Value → Option Value) : List Value → CMem L → Option (Value × CMem L) := fun args m => (g args).map fun v => (v, m)

/-- Old blocks stand, new ones came. -/
theorem MRel.of_ext {κ : Kappa} {ρ : Rho} {σ : AMem L} {w w' : World} (h : MRel P κ ρ σ w) (hk : ∀ c o, κ c = some o → c < w.heap.size) (hs : w.heap.size ≤ w'.heap.size) (hb : ∀ c, c < w.heap.size → w'.heap[c]? = w.heap[c]?) (hv : envOf w' = envOf w) : MRel P κ ρ σ w' where
  live b o ho hl := by
    obtain ⟨l, hr, hor⟩ := h.live b o ho hl
    exact ⟨l, hr, hor.of_block (hb _ (h.old b l hr))⟩
  inj := h.inj
  fresh := h.fresh
  old b l hr := Nat.lt_of_lt_of_le (h.old b l hr) hs
  kept c o hc := by rw [hb c (hk c o hc)]; exact h.kept c o hc
  apart := h.apart
  env := hv.trans h.env

theorem MRel.kept_lt {κ : Kappa} {ρ : Rho} {σ : AMem L} {w : World} (h : MRel P κ ρ σ w) {c : Nat} {o : Obj} (hc : κ c = some o) : c < w.heap.size :=
  (Array.getElem?_eq_some_iff.1 (h.kept c o hc)).1

end Go.Ax
