/- Running code by rewriting. -/
import Derived.Test.YtaeoiohcalonkaaGreatDoorAxFunc
set_option linter.unusedVariables false
set_option linter.unusedSimpArgs false
namespace Go.Ax
open Go
variable {L : Type} {P : Program}

theorem set_same (F : Fr) (d : Nat) (v : Value) : Fr.set F d v d = v := if_pos rfl
theorem set_ne (F : Fr) (d i : Nat) (v : Value) (h : (i == d) = false) : Fr.set F d v i = F i := by
  unfold Fr.set; rw [if_neg]; simpa using h
theorem evT (F : Fr) (t : Nat) : aEval F (.tmp t) = F t := rfl
theorem evC (F : Fr) (v : Value) : aEval F (.const v) = v := rfl
theorem evF (F : Fr) (f : FuncId) : aEval F (.func f) = .func (.func f) #[] #[] := rfl
theorem put_some (F : Fr) (d : Nat) (v : Value) : Fr.put F (some d) v = Fr.set F d v := rfl
theorem put_none (F : Fr) (v : Value) : Fr.put F none v = F := rfl

/-- The numbers of blocks: what lies behind the next is free. -/
def WF (σ : AMem L) : Prop := ∀ b, σ.next ≤ b → σ.get b = none

theorem WF.lt {σ : AMem L} (h : WF σ) {b : Nat} {o : AObj L} (hb : σ.get b = some o) : b < σ.next := by
  rcases Nat.lt_or_ge b σ.next with h1 | h1
  · exact h1
  · rw [h b h1] at hb; cases hb

/-- More blocks, the old ones as they were. -/
structure Grow (σ σ' : AMem L) : Prop where
  get : ∀ b, b < σ.next → σ'.get b = σ.get b
  next : σ.next ≤ σ'.next
  wf : WF σ'

theorem Grow.refl {σ : AMem L} (h : WF σ) : Grow σ σ := ⟨fun _ _ => rfl, Nat.le_refl _, h⟩
theorem Grow.trans {a b c : AMem L} (h : Grow a b) (k : Grow b c) : Grow a c :=
  ⟨fun x hx => by rw [k.get x (Nat.lt_of_lt_of_le hx h.next), h.get x hx], Nat.le_trans h.next k.next, k.wf⟩
theorem Grow.some {σ σ' : AMem L} (h : Grow σ σ') (hw : WF σ) {b : Nat} {o : AObj L} (hb : σ.get b = some o) : σ'.get b = some o := by
  rw [h.get b (hw.lt hb)]; exact hb

theorem WF.put {σ : AMem L} (h : WF σ) {b nx : Nat} {o : AObj L} (hn : σ.next ≤ nx) (hb : b < nx) : WF (σ.put b nx o) := by
  intro x hx
  simp only [AMem.next_put] at hx
  rw [AMem.get_put, if_neg (by omega)]
  exact h x (by omega)
theorem WF.kill {σ : AMem L} (h : WF σ) (b : Nat) : WF (σ.kill b) := by
  intro x hx
  rw [AMem.get_kill]; split
  · rfl
  · exact h x hx
theorem WF.set {σ : AMem L} (h : WF σ) {b : Nat} {o o' : AObj L} (hb : σ.get b = some o') : WF (σ.set b o) := by
  intro x hx
  rw [AMem.next_set] at hx
  rw [AMem.get_set, if_neg (by have := h.lt hb; omega)]
  exact h x hx
theorem WF.skipTo {σ : AMem L} (h : WF σ) {nx : Nat} (hn : σ.next ≤ nx) : WF (σ.skipTo nx) := fun x hx => h x (Nat.le_trans hn hx)

theorem Grow.put {σ0 σ : AMem L} (h : Grow σ0 σ) {b nx : Nat} {o : AObj L} (hb : σ0.next ≤ b) (hn : σ.next ≤ nx) (hbn : b < nx) : Grow σ0 (σ.put b nx o) :=
  ⟨fun x hx => by rw [AMem.get_put, if_neg (by omega)]; exact h.get x hx, Nat.le_trans h.next hn, h.wf.put hn hbn⟩
theorem Grow.skipTo {σ0 σ : AMem L} (h : Grow σ0 σ) {nx : Nat} (hn : σ.next ≤ nx) : Grow σ0 (σ.skipTo nx) := ⟨h.get, Nat.le_trans h.next hn, h.wf.skipTo hn⟩
theorem Grow.kill {σ0 σ : AMem L} (h : Grow σ0 σ) {b : Nat} (hb : σ0.next ≤ b) : Grow σ0 (σ.kill b) :=
  ⟨fun x hx => by rw [AMem.get_kill, if_neg (by omega)]; exact h.get x hx, h.next, h.wf.kill b⟩
theorem Grow.set {σ0 σ : AMem L} (h : Grow σ0 σ) {b : Nat} {o o' : AObj L} (hb : σ0.next ≤ b) (hg : σ.get b = .some o') : Grow σ0 (σ.set b o) :=
  ⟨fun x hx => by rw [AMem.get_set, if_neg (by omega)]; exact h.get x hx, h.next, h.wf.set hg⟩

end Go.Ax
