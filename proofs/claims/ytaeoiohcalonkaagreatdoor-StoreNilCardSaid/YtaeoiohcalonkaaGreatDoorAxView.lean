/- Slices seen as lists. -/
import Derived.Test.YtaeoiohcalonkaaGreatDoorAxRun
set_option linter.unusedVariables false
set_option linter.unusedSimpArgs false
namespace Go.Ax
open Go
variable {L : Type} {P : Program} {σ σ0 σ' : AMem L}

/-- A slice that is read: so many elements of so many cells. -/
def Slc (P : Program) (σ : AMem L) (es : Nat) (v : Value) (n : Nat) (cells : List Value) : Prop :=
  cells.length = n * es ∧ ((v = .slice none 0 0 ∧ n = 0) ∨
    ∃ b off vs e ro, v = .slice (some ⟨b, off, none⟩) n n ∧ σ.get b = some (.cells vs e ro) ∧ szOf P e = some es ∧ off + n * es ≤ vs.length ∧ (vs.drop off).take (n * es) = cells)

/-- A slice that is one's own: a whole block. -/
def Own (σ : AMem L) (e es : Nat) (v : Value) (n : Nat) (cells : List Value) : Prop :=
  cells.length = n * es ∧ ((v = .slice none 0 0 ∧ n = 0) ∨ ∃ b, v = .slice (some ⟨b, 0, none⟩) n n ∧ σ.get b = some (.cells cells e false))

/-- The block of a slice is none of the first ones. -/
def Past (m : Nat) : Value → Prop
  | .slice (some a) _ _ => m ≤ a.block
  | _ => True
/-- The block is not that of the slice. -/
def Off (c : Nat) : Value → Prop
  | .slice (some a) _ _ => c ≠ a.block
  | _ => True

theorem Own.slc {e es n : Nat} {v : Value} {cells : List Value} (h : Own σ e es v n cells) (hs : szOf P e = some es) : Slc P σ es v n cells := by
  obtain ⟨h1, h2⟩ := h
  refine ⟨h1, ?_⟩
  rcases h2 with h2 | ⟨b, h2, h3⟩
  · exact .inl h2
  · exact .inr ⟨b, 0, cells, e, false, h2, h3, hs, by omega, by rw [List.drop_zero, ← h1, List.take_length]⟩

theorem Slc.cells {es n : Nat} {v : Value} {cells : List Value} (h : Slc P σ es v n cells) : sliceCells σ es v = some cells := by
  obtain ⟨h1, h2⟩ := h
  rcases h2 with ⟨rfl, rfl⟩ | ⟨b, off, vs, e, ro, rfl, h3, h4, h5, h6⟩
  · have : cells = [] := List.length_eq_zero_iff.1 (by rw [h1]; simp)
    subst this; rfl
  · cases n with
    | zero =>
      have : cells = [] := List.length_eq_zero_iff.1 (by rw [h1]; simp)
      subst this; rfl
    | succ n => simp only [sliceCells, h3, if_pos h5, h6]

theorem Slc.grow {es n : Nat} {v : Value} {cells : List Value} (h : Slc P σ es v n cells) (hw : WF σ) (hg : Grow σ σ') : Slc P σ' es v n cells := by
  obtain ⟨h1, h2⟩ := h
  refine ⟨h1, ?_⟩
  rcases h2 with h2 | ⟨b, off, vs, e, ro, h2, h3, h4⟩
  · exact .inl h2
  · exact .inr ⟨b, off, vs, e, ro, h2, hg.some hw h3, h4⟩

theorem Own.grow {e es n : Nat} {v : Value} {cells : List Value} (h : Own σ e es v n cells) (hw : WF σ) (hg : Grow σ σ') : Own σ' e es v n cells := by
  obtain ⟨h1, h2⟩ := h
  refine ⟨h1, ?_⟩
  rcases h2 with h2 | ⟨b, h2, h3⟩
  · exact .inl h2
  · exact .inr ⟨b, h2, hg.some hw h3⟩

/-- A change elsewhere. -/
theorem Slc.of_get {es n : Nat} {v : Value} {cells : List Value} (h : Slc P σ es v n cells) (hg : ∀ c, ¬ Off c v → σ'.get c = σ.get c) : Slc P σ' es v n cells := by
  obtain ⟨h1, h2⟩ := h
  refine ⟨h1, ?_⟩
  rcases h2 with h2 | ⟨b, off, vs, e, ro, h2, h3, h4⟩
  · exact .inl h2
  · exact .inr ⟨b, off, vs, e, ro, h2, by rw [hg b (by subst h2; simp [Off])]; exact h3, h4⟩
theorem Own.of_get {e es n : Nat} {v : Value} {cells : List Value} (h : Own σ e es v n cells) (hg : ∀ c, ¬ Off c v → σ'.get c = σ.get c) : Own σ' e es v n cells := by
  obtain ⟨h1, h2⟩ := h
  refine ⟨h1, ?_⟩
  rcases h2 with h2 | ⟨b, h2, h3⟩
  · exact .inl h2
  · exact .inr ⟨b, h2, by rw [hg b (by subst h2; simp [Off])]; exact h3⟩

theorem Slc.nil (P : Program) (σ : AMem L) (es : Nat) : Slc P σ es (.slice none 0 0) 0 [] := ⟨by simp, .inl ⟨rfl, rfl⟩⟩
theorem Own.nil (σ : AMem L) (e es : Nat) : Own σ e es (.slice none 0 0) 0 [] := ⟨by simp, .inl ⟨rfl, rfl⟩⟩

theorem Slc.len {es n : Nat} {v : Value} {cells : List Value} {t el : TypeId} (h : Slc P σ es v n cells) (ht : Program.underlying P t = some (.slice el)) (σ2 : AMem L) : aLen P t v σ2 = some (.int .i64 n) := by
  obtain ⟨h1, h2⟩ := h
  rcases h2 with ⟨rfl, rfl⟩ | ⟨b, off, vs, e, ro, rfl, _⟩ <;> simp [aLen, ht]

/-- The place of an element. -/
theorem Slc.index {es n : Nat} {v : Value} {cells : List Value} {t el : TypeId} (h : Slc P σ es v n cells) (ht : Program.underlying P t = some (.slice el)) (hs : szOf P el = some es) {k : IntKind} {i : Nat} (hi : i < n) :
    ∃ b off vs e ro, aIndexAddr P t v (.int k i) = some (.pointer (some ⟨b, off, none⟩)) ∧ σ.get b = some (.cells vs e ro) ∧ off + es ≤ vs.length ∧ (vs.drop off).take es = (cells.drop (i * es)).take es := by
  obtain ⟨h1, h2⟩ := h
  rcases h2 with ⟨rfl, rfl⟩ | ⟨b, off, vs, e, ro, rfl, h3, h4, h5, h6⟩
  · omega
  · have hle : i * es + es ≤ n * es := by
      have := Nat.mul_le_mul_right es (show i + 1 ≤ n from hi)
      rw [Nat.add_mul, Nat.one_mul] at this; exact this
    refine ⟨b, off + i * es, vs, e, ro, ?_, h3, by omega, ?_⟩
    · have : (0 : Int) ≤ i ∧ (i : Int) < n := by omega
      simp [aIndexAddr, ht, hs, hi]
    · rw [← h6, List.drop_take, List.take_take, List.drop_drop, Nat.min_eq_left (by omega)]

theorem Slc.load1 {n : Nat} {v : Value} {cells : List Value} {t el : TypeId} (h : Slc P σ 1 v n cells) (ht : Program.underlying P t = some (.slice el)) (hs : szOf P el = some 1) (ha : aggOf P el = some false) {k : IntKind} {i : Nat} {x : Value} (hi : cells[i]? = some x) :
    ∃ b off, aIndexAddr P t v (.int k i) = some (.pointer (some ⟨b, off, none⟩)) ∧ aLoad P el b off σ = some x := by
  have hlt : i < n := by
    have h1 := h.1
    rcases Nat.lt_or_ge i n with h2 | h2
    · exact h2
    · rw [List.getElem?_eq_none (by omega)] at hi; cases hi
  obtain ⟨b, off, vs, e, ro, h1, h2, h3, h4⟩ := h.index ht hs (k := k) hlt
  refine ⟨b, off, h1, ?_⟩
  simp only [aLoad, h2, ha, hs]
  have := congrArg (fun l => l[0]?) h4
  simp only [List.getElem?_take, List.getElem?_drop, Nat.add_zero, Nat.zero_lt_one, if_true, Nat.mul_one] at this
  rw [this]; exact hi

theorem Slc.loadN {es n : Nat} {v : Value} {cells : List Value} {t el : TypeId} (h : Slc P σ es v n cells) (ht : Program.underlying P t = some (.slice el)) (hs : szOf P el = some es) (ha : aggOf P el = some true) {k : IntKind} {i : Nat} (hi : i < n) :
    ∃ b off, aIndexAddr P t v (.int k i) = some (.pointer (some ⟨b, off, none⟩)) ∧ aLoad P el b off σ = some (.agg ((cells.drop (i * es)).take es).toArray) := by
  obtain ⟨b, off, vs, e, ro, h1, h2, h3, h4⟩ := h.index ht hs (k := k) hi
  refine ⟨b, off, h1, ?_⟩
  simp only [aLoad, h2, ha, hs, if_pos h3, h4]

/-- A part. -/
theorem Slc.part {es n : Nat} {v : Value} {cells : List Value} {t el : TypeId} (h : Slc P σ es v n cells) (ht : Program.underlying P t = some (.slice el)) (hs : szOf P el = some es) {lo hi : Option Value} {l m : Nat} (hl : bound lo 0 m = some l) (hm : bound hi n n = some m) (hlm : l ≤ m) (hmn : m ≤ n) :
    ∃ v', aSlice P t v lo hi σ = some v' ∧ Slc P σ es v' (m - l) ((cells.drop (l * es)).take ((m - l) * es)) ∧ (∀ c, Off c v → Off c v') ∧ (∀ m, Past m v → Past m v') := by
  obtain ⟨h1, h2⟩ := h
  rcases h2 with ⟨rfl, rfl⟩ | ⟨b, off, vs, e, ro, rfl, h3, h4, h5, h6⟩
  · have : m = 0 := by omega
    subst this
    have : l = 0 := by omega
    subst this
    refine ⟨.slice none 0 0, by simp [aSlice, ht, hs, hl, hm], ⟨by simp [h1], .inl ⟨rfl, rfl⟩⟩, fun _ h => h, fun _ h => h⟩
  · have hle : l * es ≤ m * es := Nat.mul_le_mul_right es hlm
    have hme : m * es ≤ n * es := Nat.mul_le_mul_right es hmn
    have hsub : (m - l) * es = m * es - l * es := Nat.sub_mul ..
    refine ⟨_, by simp [aSlice, ht, hs, h3, h4, hl, hm], ⟨?_, .inr ⟨b, off + l * es, vs, e, ro, rfl, h3, h4, by omega, ?_⟩⟩, fun _ h => h, fun _ h => h⟩
    · rw [List.length_take, List.length_drop]; omega
    · rw [← h6, List.drop_take, List.take_take, List.drop_drop, Nat.min_eq_left (by omega)]

theorem Slc.src {es n : Nat} {v : Value} {cells : List Value} {tx el : TypeId} (h : Slc P σ es v n cells) (ht : Program.underlying P tx = some (.slice el)) : aSrc P tx es σ v = some (n, cells) := by
  have hc := h.cells
  obtain ⟨h1, h2⟩ := h
  rcases h2 with ⟨rfl, rfl⟩ | ⟨b, off, vs, e, ro, rfl, _⟩
  · simp only [aSrc, ht, hc, Option.map_some]
  · simp only [aSrc, ht, hc, Option.map_some]

/-- A type's zero is of its cells, each plain. -/
def goodZero (es by_ : Nat) (z : Value) : Bool := z.cells.size == es && es != 0 && by_ != 0 && z.cells.all flat
theorem goodZero_spec {es by_ : Nat} {z : Value} (h : goodZero es by_ z = true) : z.cells.size = es ∧ es ≠ 0 ∧ by_ ≠ 0 ∧ z.cells.all flat = true := by
  simp only [goodZero, Bool.and_eq_true, beq_iff_eq, bne_iff_ne] at h
  exact ⟨h.1.1.1, h.1.1.2, h.1.2, h.2⟩

/-- Elements are added to one's own slice. -/
theorem Own.append {e es n m by_ : Nat} {s x z : Value} {olds news : List Value} {t tx : TypeId} {b nx : Nat} (h : Own σ e es s n olds) (hx : aSrc P tx es σ x = some (m, news)) (hm : news.length = m * es)
    (he : elemOf P t = some e) (hs : szOf P e = some es) (hz : zeroOf P e = some z) (hb : bytesOf P e = some by_) (h1 : goodZero es by_ z = true) (h2 : oneCells news = true) (h3 : (olds.length + news.length) * by_ ≤ 2 ^ 46)
    (hg : Grow σ0 σ) (hp : Past σ0.next s) (hb1 : σ0.next ≤ b) (hb2 : σ.next ≤ nx) (hb3 : b < nx) :
    ∃ v' σ', aAppend P t tx s x σ b nx = some (v', σ') ∧ Own σ' e es v' (n + m) (olds ++ news) ∧ Grow σ0 σ' ∧ Past σ0.next v' ∧ σ.next ≤ σ'.next ∧ (∀ c, Off c s → c ≠ b → σ'.get c = σ.get c) ∧ (∀ c, Off c s → c ≠ b → Off c v') := by
  have hsc : Slc P σ es s n olds := h.slc hs
  have hcells := hsc.cells
  obtain ⟨k1, k2⟩ := h
  have hlen : (olds ++ news).length = (n + m) * es := by rw [List.length_append, k1, hm, Nat.add_mul]
  have h3' : ¬ ((olds.length + news.length) * by_ > 2 ^ 46) := by omega
  have hcond : (es = 0 || by_ = 0 || z.cells.size ≠ es || !oneCells news || (olds.length + news.length) * by_ > 2 ^ 46) = false := by
    obtain ⟨g1, g2, g3, _⟩ := goodZero_spec h1
    simp only [g1, g2, g3, h2, Bool.not_true, Bool.or_false, decide_eq_false h3', ne_eq, not_true, decide_false]
  rcases k2 with ⟨rfl, rfl⟩ | ⟨c, rfl, hc⟩
  · have ho : olds = [] := List.length_eq_zero_iff.1 (by rw [k1]; simp)
    subst ho
    by_cases hm0 : m = 0
    · subst hm0
      have hn : news = [] := List.length_eq_zero_iff.1 (by rw [hm]; simp)
      subst hn
      refine ⟨_, _, ?_, ⟨hlen, .inl ⟨rfl, rfl⟩⟩, hg, trivial, Nat.le_refl _, fun _ _ _ => rfl, fun _ _ _ => trivial⟩
      simp only [aAppend, he, hs, hz, hb, hx, hcells, hcond, Bool.false_eq_true, if_false, if_true]
    · refine ⟨.slice (some ⟨b, 0, none⟩) m m, σ.put b nx (.cells news e false), ?_, ⟨hlen, .inr ⟨b, ?_, ?_⟩⟩, hg.put hb1 hb2 hb3, hb1, hb2, fun y _ hy => ?_, fun y _ hy => hy⟩
      · simp only [aAppend, he, hs, hz, hb, hx, hcells, hcond, Bool.false_eq_true, if_false, if_neg hm0]
      · simp
      · rw [AMem.get_put, if_pos rfl]; rfl
      · rw [AMem.get_put, if_neg hy]
  · by_cases hm0 : m = 0
    · subst hm0
      have hn : news = [] := List.length_eq_zero_iff.1 (by rw [hm]; simp)
      subst hn
      refine ⟨_, _, ?_, ⟨hlen, .inr ⟨c, rfl, by simpa using hc⟩⟩, hg, hp, Nat.le_refl _, fun _ _ _ => rfl, fun _ h _ => h⟩
      simp only [aAppend, he, hs, hz, hb, hx, hcells, hcond, Bool.false_eq_true, if_false, if_true, Nat.add_zero]
    · refine ⟨.slice (some ⟨b, 0, none⟩) (n + m) (n + m), (σ.kill c).put b nx (.cells (olds ++ news) e false), ?_, ⟨hlen, .inr ⟨b, rfl, ?_⟩⟩, (hg.kill hp).put hb1 hb2 hb3, hb1, hb2, fun y hy1 hy => ?_, fun y _ hy => hy⟩
      · simp only [aAppend, he, hs, hz, hb, hx, hcells, hcond, Bool.false_eq_true, if_false, if_neg hm0, hc, if_true]
      · rw [AMem.get_put, if_pos rfl]
      · rw [AMem.get_put, if_neg hy, AMem.get_kill, if_neg hy1]

end Go.Ax
