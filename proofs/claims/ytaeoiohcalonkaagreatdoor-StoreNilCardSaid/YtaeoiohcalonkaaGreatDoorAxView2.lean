/- More of slices: literals, one element more. -/
import Derived.Test.YtaeoiohcalonkaaGreatDoorAxView
set_option linter.unusedVariables false
set_option linter.unusedSimpArgs false
namespace Go.Ax
open Go
variable {L : Type} {P : Program} {σ σ0 σ' : AMem L}

theorem keep_mem (F : Fr) (ks : List Nat) (i : Nat) : Fr.keep F ks i = if i ∈ ks then F i else undef := rfl

/-- The rule of rounds. -/
theorem loop_rule {body : (Exit → Fr → AMem L → Prop) → Fr → AMem L → Prop} {Q : Exit → Fr → AMem L → Prop} {F : Fr} {σ : AMem L} (ks : List Nat) (I : Nat → Fr → AMem L → Prop) (n : Nat) (h0 : I n (F.keep ks) σ)
    (h : ∀ n F σ, I n F σ → body (exThen (fun F' σ' => ∃ m, m < n ∧ I m (F'.keep ks) σ') Q) F σ) : aLoop body Q F σ :=
  ⟨fun F => F.keep ks, I, fun F i => by
    by_cases hi : i ∈ ks
    · exact .inl (if_pos hi)
    · exact .inr (if_neg hi), ⟨n, h0⟩, h⟩

theorem conv_int {s d : TypeId} {ds : TypeDesc} {k k' : IntKind} {n : Int} {b nx : Nat} (h1 : Program.underlying P s = some ds) (h2 : Program.underlying P d = some (.int k')) : aConv P s d (.int k n) σ b nx = some (.int k' (k'.wrap n), σ) := by
  simp [aConv, h1, h2]

theorem conv_str {s d : TypeId} {ds : TypeDesc} {x : ByteArray} {b nx : Nat} (h1 : Program.underlying P s = some ds) (h2 : Program.underlying P d = some .string) : aConv P s d (.string x) σ b nx = some (.string x, σ) := by
  simp [aConv, h1, h2]

/-- A value of one cell. -/
def one (v : Value) : Bool := laidCell v

theorem cellsOf_one {v : Value} (h : laidCell v = true) : cellsOf v = some [v] := by
  cases v <;> simp_all [laidCell, cellsOf]

/-- The parts of a literal, one behind the other. -/
def rowed : List (List Value) → Nat → List (Nat × Value) → Prop
  | [], _, [] => True
  | cs :: css, i, (j, v) :: ps => j = i ∧ cellsOf v = some cs ∧ rowed css (i + 1) ps
  | _, _, _ => False

theorem setAt_append : ∀ (cs pre old post : List Value), old.length = cs.length → setAt (pre ++ old ++ post) pre.length cs = pre ++ cs ++ post
  | [], pre, old, post, h => by
    have : old = [] := List.length_eq_zero_iff.1 h
    subst this; rfl
  | c :: cs, pre, old, post, h => by
    cases old with
    | nil => cases h
    | cons o old =>
      have h' : old.length = cs.length := by simpa using h
      have := setAt_append cs (pre ++ [c]) old post h'
      simp only [setAt]
      rw [show (pre ++ (o :: old) ++ post).set pre.length c = (pre ++ [c]) ++ old ++ post by simp [List.set_append_right]]
      rw [show pre.length + 1 = (pre ++ [c]).length by simp, this]
      simp

theorem fill_rows {es : Nat} : ∀ (css : List (List Value)) (i : Nat) (ps : List (Nat × Value)) (pre rest : List Value), rowed css i ps → (∀ cs ∈ css, cs.length = es) → pre.length = i * es → rest.length = css.length * es →
    fillA (fun i => some (i * es, es)) (pre ++ rest).toArray ps = some (pre ++ css.flatten).toArray
  | [], i, [], pre, rest, _, _, _, hr => by
    have : rest = [] := List.length_eq_zero_iff.1 (by simpa using hr)
    subst this; simp [fillA]
  | [], i, _ :: _, _, _, h, _, _, _ => h.elim
  | _ :: _, i, [], _, _, h, _, _, _ => h.elim
  | cs :: css, i, (j, v) :: ps, pre, rest, h, hes, hp, hr => by
    obtain ⟨rfl, hv, h⟩ := h
    have hl : cs.length = es := hes cs (.head _)
    have hr' : rest.length = es + css.length * es := by rw [hr, List.length_cons, Nat.add_mul, Nat.one_mul, Nat.add_comm]
    have hsplit : rest = rest.take es ++ rest.drop es := (List.take_append_drop ..).symm
    have htk : (rest.take es).length = cs.length := by rw [List.length_take, hl]; omega
    simp only [fillA, hv]
    have hcond : (cs.length ≠ es || j * es + cs.length > (pre ++ rest).toArray.size) = false := by
      simp [hl]; omega
    rw [hcond]
    simp only [Bool.false_eq_true, if_false]
    have := setAt_append cs pre (rest.take es) (rest.drop es) htk
    rw [List.append_assoc, ← hsplit, hp] at this
    rw [this]
    have ih := fill_rows css (j + 1) ps (pre ++ cs) (rest.drop es) h (fun c hc => hes c (.tail _ hc)) (by rw [List.length_append, hp, hl, Nat.add_mul, Nat.one_mul]) (by rw [List.length_drop]; omega)
    rw [ih]
    simp

/-- A slice literal. -/
theorem buildSlice_rows {t : TypeId} {e es len : Nat} {z : Value} {css : List (List Value)} {ps : List (Nat × Value)} {b nx : Nat} (h : rowed css 0 ps) (hes : ∀ cs ∈ css, cs.length = es) (hlen : css.length = len) (he : elemOf P t = some e) (hs : szOf P e = some es) (hz : zeroOf P e = some z) {by_ : Nat}
    (h0 : goodZero es by_ z = true) (h1 : len * es ≤ 2 ^ 24) : aBuildSlice P t len ps σ b nx = some (.slice (some ⟨b, 0, none⟩) len len, σ.put b nx (.cells css.flatten e false)) := by
  have := fill_rows css 0 ps [] (zeroRow z.cells (len * es)) h hes (by simp) (by simp [zeroRow, hlen])
  simp only [List.nil_append] at this
  obtain ⟨g1, g2, g3, g4⟩ := goodZero_spec h0
  have h1' : (z.cells.size ≠ es || es = 0 || len * es > 2 ^ 24 || !z.cells.all flat) = false := by
    have e1 : decide (z.cells.size ≠ es) = false := by simp [g1]
    rw [e1, decide_eq_false g2, decide_eq_false (Nat.not_lt.2 h1), g4]; rfl
  simp only [aBuildSlice, he, hs, hz, h1', Bool.false_eq_true, if_false, this]

/-- A slice literal of single cells. -/
theorem buildSlice_one {t : TypeId} {e : Nat} {z v : Value} {b nx : Nat} (he : elemOf P t = some e) (hs : szOf P e = some 1) (hz : zeroOf P e = some z) {by_ : Nat}
    (h1 : goodZero 1 by_ z = true) (hv : laidCell v = true) : aBuildSlice P t 1 [(0, v)] σ b nx = some (.slice (some ⟨b, 0, none⟩) 1 1, σ.put b nx (.cells [v] e false)) := by
  have := buildSlice_rows (P := P) (σ := σ) (css := [[v]]) (ps := [(0, v)]) (es := 1) (len := 1) (b := b) (nx := nx) ⟨rfl, cellsOf_one hv, trivial⟩ (by simp) rfl he hs hz h1 (by decide)
  simpa using this

/-- One element more, out of a literal that was just made. -/
theorem Own.push {e es n by_ : Nat} {s z : Value} {olds cs : List Value} {t el : TypeId} (h : Own σ e es s n olds) (hcs : cs.length = es)
    (he : elemOf P t = some e) (hu : Program.underlying P t = some (.slice el)) (hs : szOf P e = some es) (hz : zeroOf P e = some z) (hb : bytesOf P e = some by_) (h1 : goodZero es by_ z = true) (h2 : oneCells cs = true) (h3 : (olds.length + es) * by_ ≤ 2 ^ 46)
    (hg : Grow σ0 σ) (hp : Past σ0.next s) :
    ∃ v' σ', aAppend P t t s (.slice (some ⟨σ.next, 0, none⟩) 1 1) (σ.put σ.next (σ.next + 1) (.cells cs e false)) (σ.next + 1) (σ.next + 1 + 1) = some (v', σ') ∧ Own σ' e es v' (n + 1) (olds ++ cs) ∧ Grow σ0 σ' ∧ Past σ0.next v' ∧ σ.next ≤ σ'.next ∧ (∀ c, c < σ.next → Off c s → σ'.get c = σ.get c) ∧ (∀ c, c < σ.next → Off c s → Off c v') := by
  have hw := hg.wf
  have hgp : Grow σ (σ.put σ.next (σ.next + 1) (.cells cs e false)) := (Grow.refl hw).put (Nat.le_refl _) (by omega) (by omega)
  have hsrc : Slc P (σ.put σ.next (σ.next + 1) (.cells cs e false)) es (.slice (some ⟨σ.next, 0, none⟩) 1 1) 1 cs :=
    ⟨by omega, .inr ⟨σ.next, 0, cs, e, false, rfl, by rw [AMem.get_put, if_pos rfl], hs, by omega, by rw [List.drop_zero]; exact List.take_of_length_le (by omega)⟩⟩
  obtain ⟨v', σ', k1, k2, k3, k4, k5, k6, k7⟩ := Own.append (b := σ.next + 1) (nx := σ.next + 1 + 1) (h.grow hw hgp) (hsrc.src hu) (by omega) he hs hz hb h1 h2 (by rw [hcs]; exact h3) (hg.trans hgp) hp (by have := hg.next; omega) (by simp [AMem.next_put]) (by omega)
  refine ⟨v', σ', k1, k2, k3, k4, ?_, fun c hc ho => ?_, fun c hc ho => k7 c ho (by omega)⟩
  · rw [AMem.next_put] at k5; omega
  · rw [k6 c ho (by omega), AMem.get_put, if_neg (by omega)]

theorem laid_int (k : IntKind) (n : Int) : laidCell (.int k n) = true := by unfold laidCell; rfl
theorem laid_bool (b : Bool) : laidCell (.bool b) = true := by unfold laidCell; rfl
theorem laid_string (b : ByteArray) : laidCell (.string b) = true := by unfold laidCell; rfl
theorem laid_slice (a : Option Addr) (n c : Nat) : laidCell (.slice a n c) = true := by unfold laidCell; rfl
theorem laid_pointer (a : Option Addr) : laidCell (.pointer a) = true := by unfold laidCell; rfl

end Go.Ax
