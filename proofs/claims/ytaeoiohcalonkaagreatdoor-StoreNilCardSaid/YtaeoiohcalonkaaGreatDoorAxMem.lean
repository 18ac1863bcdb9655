/- What each step on memory does to the relation between abstract memory and World. -/
import Derived.Test.YtaeoiohcalonkaaGreatDoorAxBase
import Derived.Laws.IdiomCopy
set_option linter.unusedVariables false
set_option linter.unusedSimpArgs false
namespace Go.Ax
open Go
variable {L : Type} {P : Program} {κ : Kappa} {ρ : Rho} {σ : AMem L} {w : World}

theorem env_setCells (b : Nat) : ∀ (vs : List Value) (o : Nat) (w : World), envOf (w.setCells b o vs) = envOf w
  | [], _, _ => rfl
  | v :: vs, o, w => (env_setCells b vs (o + 1) _).trans rfl

theorem MRel.of_heap {w' : World} (h : MRel P κ ρ σ w) (hh : w'.heap = w.heap) (hv : envOf w' = envOf w := by first | rfl | exact env_setCells ..) : MRel P κ ρ σ w' where
  live b o ho hl := by
    obtain ⟨l, hr, hor⟩ := h.live b o ho hl
    refine ⟨l, hr, ?_⟩
    cases o <;> simp only [ORel, hh] at hor ⊢ <;> exact hor
  inj := h.inj
  fresh := h.fresh
  old b l hb := by rw [hh]; exact h.old b l hb
  kept c o hc := by rw [hh]; exact h.kept c o hc
  apart := h.apart
  env := hv.trans h.env

theorem MRel.get_lt (h : MRel P κ ρ σ w) {b : Nat} {o : AObj L} (ho : σ.get b = some o) : b < σ.next := by
  rcases Nat.lt_or_ge b σ.next with hlt | hge
  · exact hlt
  · rw [(h.fresh b hge).1] at ho; cases ho

theorem MRel.cells (h : MRel P κ ρ σ w) {b : Nat} {vs : List Value} {e : TypeId} {ro : Bool} (ho : σ.get b = some (.cells vs e ro)) {l : Loc} (hl : ρ b = some l) :
    ORel P ρ w l (.cells (L := L) vs e ro) := by
  obtain ⟨l', hr, hor⟩ := h.live b _ ho rfl
  rw [hl] at hr; cases hr; exact hor

theorem MRel.cell (h : MRel P κ ρ σ w) {b : Nat} {vs : List Value} {e : TypeId} {ro : Bool} (ho : σ.get b = some (.cells vs e ro)) {l : Loc} (hl : ρ b = some l)
    {i : Nat} {v : Value} (hv : vs[i]? = some v) : ∃ v', w.cell? ⟨l.blk, l.off + i, none⟩ = some v' ∧ VRel ρ v v' := by
  obtain ⟨arr, fr, hh, hs, hlen, _, hc, _⟩ := h.cells ho hl
  obtain ⟨v', hv', hr⟩ := hc i v hv
  exact ⟨v', by simp [World.cell?, hh, hv'], hr⟩

/-- ρ with one block more. -/
def Rho.add (ρ : Rho) (b : Nat) (l : Loc) : Rho := fun x => if x = b then some l else ρ x
theorem Rho.add_at (ρ : Rho) (b : Nat) (l : Loc) : ρ.add b l b = some l := by simp [Rho.add]
theorem Rho.add_ne (ρ : Rho) {b x : Nat} (l : Loc) (h : x ≠ b) : ρ.add b l x = ρ x := by simp [Rho.add, h]
theorem Rho.le_add {ρ : Rho} {b : Nat} (l : Loc) (h : ρ b = none) : ρ.le (ρ.add b l) := by
  intro x l' hx
  by_cases hxb : x = b
  · subst hxb; rw [h] at hx; cases hx
  · rw [ρ.add_ne l hxb]; exact hx

theorem ORel.mono {ρ' : Rho} (hρ : ρ.le ρ') {l : Loc} {o : AObj L} (h : ORel P ρ w l o) : ORel P ρ' w l o := by
  cases o with
  | cells vs e ro =>
    obtain ⟨arr, fr, hh, hs, hlen, he, hc, hf⟩ := h
    exact ⟨arr, fr, hh, hs, hlen, he, fun i v hv => let ⟨v', h1, h2⟩ := hc i v hv; ⟨v', h1, h2.mono hρ⟩, hf⟩
  | map es =>
    obtain ⟨ces, clock, hh, hst, hn, hk, es', hp, hlen, hc⟩ := h
    exact ⟨ces, clock, hh, hst, hn, hk, es', hp, hlen, fun i kv e h1 h2 => let ⟨a, b⟩ := hc i kv e h1 h2; ⟨a, b.mono hρ⟩⟩
  | logic x => trivial

theorem ORel.of_block {w' : World} {l : Loc} {o : AObj L} (h : ORel P ρ w l o) (hh : w'.heap[l.blk]? = w.heap[l.blk]?) : ORel P ρ w' l o := by
  cases o with
  | cells vs e ro => unfold ORel at *; rw [hh]; exact h
  | map es => unfold ORel at *; rw [hh]; exact h
  | logic x => trivial

/-- A new abstract block over a new block of the model. -/
theorem MRel.put (h : MRel P κ ρ σ w) {b nx : Nat} {o : AObj L} {ob : Obj} {l : Loc} (hb : σ.get b = none) (hr : ρ b = none) (hn : σ.next ≤ nx) (hbn : b < nx) (hlb : l.blk = w.heap.size)
    (hor : ORel P (ρ.add b l) { w with heap := w.heap.push ob } l o) : MRel P κ (ρ.add b l) (σ.put b nx o) { w with heap := w.heap.push ob } where
  live x o' ho hl := by
    rw [AMem.get_put] at ho
    by_cases hx : x = b
    · subst hx
      simp only [if_true, Option.some.injEq] at ho
      subst ho
      exact ⟨l, ρ.add_at _ _, hor⟩
    · rw [if_neg hx] at ho
      obtain ⟨l', hr', hor'⟩ := h.live x o' ho hl
      refine ⟨l', by rw [ρ.add_ne l hx]; exact hr', (hor'.of_block ?_).mono (Rho.le_add l hr)⟩
      have := h.old x l' hr'
      simp [Array.getElem?_push, Nat.ne_of_lt this]
  inj x y o1 o2 l1 l2 h1 h2 hne k1 k2 hro r1 r2 := by
    rw [AMem.get_put] at h1 h2
    by_cases hx : x = b
    · subst hx
      have hy : y ≠ x := fun e => hne e.symm
      rw [ρ.add_at] at r1; cases r1
      rw [ρ.add_ne l hy] at r2
      have := h.old y l2 r2
      omega
    · by_cases hy : y = b
      · subst hy
        rw [ρ.add_at] at r2; cases r2
        rw [ρ.add_ne l hx] at r1
        have := h.old x l1 r1
        omega
      · rw [if_neg hx] at h1; rw [if_neg hy] at h2
        rw [ρ.add_ne l hx] at r1; rw [ρ.add_ne l hy] at r2
        exact h.inj x y o1 o2 l1 l2 h1 h2 hne k1 k2 hro r1 r2
  fresh x hx := by
    have hxb : x ≠ b := by intro e; subst e; exact absurd hbn (by simp [AMem.next_put] at hx; omega)
    rw [AMem.get_put, if_neg hxb, ρ.add_ne l hxb]
    exact h.fresh x (by simp [AMem.next_put] at hx; omega)
  old x l' hx := by
    by_cases hxb : x = b
    · subst hxb; rw [ρ.add_at] at hx; cases hx; simp [hlb]
    · rw [ρ.add_ne l hxb] at hx
      have := h.old x l' hx
      simp; omega
  kept c o' hc := by
    have := h.kept c o' hc
    have hlt : c < w.heap.size := (Array.getElem?_eq_some_iff.1 this).1
    simp only [Array.getElem?_push, Nat.ne_of_lt hlt, if_false]
    exact this
  apart c o' x o'' l' hc hx hl hlr := by
    rw [AMem.get_put] at hx
    by_cases hxb : x = b
    · subst hxb; rw [ρ.add_at] at hlr; cases hlr
      have hlt : c < w.heap.size := (Array.getElem?_eq_some_iff.1 (h.kept c o' hc)).1
      omega
    · rw [if_neg hxb] at hx; rw [ρ.add_ne l hxb] at hlr
      exact h.apart c o' x o'' l' hc hx hl hlr
  env := h.env

/-- A new row of cells; the model's may be longer. -/
theorem ORel.new_cells {w' : World} {c e : Nat} {vs : List Value} {cells : Array Value} {es : Nat} {fr : Nat × Nat} (he : (P.info? e).map (·.size) = some es)
    (hw : w'.heap[c]? = some (.cells cells e fr)) (hv : LRel ρ vs (cells.toList.take vs.length)) (hlen : vs.length ≤ cells.size) (hf : unfrozen fr 0 cells.size) :
    ORel P ρ w' ⟨c, 0, cells.size, es⟩ (.cells (L := L) vs e false) := by
  refine ⟨cells, fr, hw, rfl, by simpa using hlen, he, fun i v hi => ?_, fun _ => hf⟩
  obtain ⟨y, hy, hr⟩ := hv.get hi
  refine ⟨y, ?_, hr⟩
  rw [List.getElem?_take] at hy
  split at hy
  · simpa using hy
  · cases hy

theorem unfrozen_zero (off size : Nat) : unfrozen (0, 0) off size := fun j _ _ h => by have := h.2; simp at this

/-- A block's contents are changed, in place. -/
theorem MRel.change (h : MRel P κ ρ σ w) {w' : World} {b : Nat} {o o' : AObj L} {l : Loc} (ho : σ.get b = some o) (hol : o.isLogic = false) (hro : o.isRo = false) (hro' : o'.isRo = false) (hol' : o'.isLogic = false)
    (hl : ρ b = some l) (hor : ORel P ρ w' l o') (hsz : w'.heap.size = w.heap.size) (hrest : ∀ c, c ≠ l.blk → w'.heap[c]? = w.heap[c]?) (hv : envOf w' = envOf w := by first | rfl | exact env_setCells ..) : MRel P κ ρ (σ.set b o') w' where
  live x o1 hx hxl := by
    rw [AMem.get_set] at hx
    by_cases hxb : x = b
    · subst hxb; simp only [if_true, Option.some.injEq] at hx; subst hx; exact ⟨l, hl, hor⟩
    · rw [if_neg hxb] at hx
      obtain ⟨l1, hr1, hor1⟩ := h.live x o1 hx hxl
      exact ⟨l1, hr1, hor1.of_block (hrest _ (h.inj x b o1 o l1 l hx ho hxb hxl hol (by simp [hro]) hr1 hl))⟩
  inj x y o1 o2 l1 l2 h1 h2 hne k1 k2 hr r1 r2 := by
    rw [AMem.get_set] at h1 h2
    by_cases hx : x = b
    · subst hx
      rw [if_neg (fun e => hne e.symm)] at h2
      exact h.inj x y o o2 l1 l2 ho h2 hne hol k2 (by simp [hro]) r1 r2
    · by_cases hy : y = b
      · subst hy
        rw [if_neg hx] at h1
        exact h.inj x y o1 o l1 l2 h1 ho hne k1 hol (by simp [hro]) r1 r2
      · rw [if_neg hx] at h1; rw [if_neg hy] at h2
        exact h.inj x y o1 o2 l1 l2 h1 h2 hne k1 k2 hr r1 r2
  fresh x hx := by
    have := h.fresh x hx
    refine ⟨?_, this.2⟩
    rw [AMem.get_set]
    split
    · rename_i e; subst e; rw [this.1] at ho; cases ho
    · exact this.1
  old x l' hx := by rw [hsz]; exact h.old x l' hx
  kept c oc hc := by
    rw [hrest c (fun e => h.apart c oc b o l hc ho hol hl e.symm)]
    exact h.kept c oc hc
  apart c oc x o1 l1 hc hx hxl hlx := by
    rw [AMem.get_set] at hx
    by_cases hxb : x = b
    · subst hxb; exact h.apart c oc x o l1 hc ho hol hlx
    · rw [if_neg hxb] at hx; exact h.apart c oc x o1 l1 hc hx hxl hlx
  env := hv.trans h.env

/-- A block is forgotten. -/
theorem MRel.kill (h : MRel P κ ρ σ w) (b : Nat) : MRel P κ ρ (σ.kill b) w where
  live x o hx hl := by
    rw [AMem.get_kill] at hx
    split at hx
    · cases hx
    · exact h.live x o hx hl
  inj x y o1 o2 l1 l2 h1 h2 := by
    rw [AMem.get_kill] at h1 h2
    split at h1
    · cases h1
    · split at h2
      · cases h2
      · exact h.inj x y o1 o2 l1 l2 h1 h2
  fresh x hx := by
    have := h.fresh x hx
    refine ⟨?_, this.2⟩
    rw [AMem.get_kill]; split
    · rfl
    · exact this.1
  old := h.old
  kept := h.kept
  apart c oc x o1 l1 hc hx := by
    rw [AMem.get_kill] at hx
    split at hx
    · cases hx
    · exact h.apart c oc x o1 l1 hc hx
  env := h.env

/-- Fewer blocks, and those as they were. -/
theorem MRel.sub {σ' : AMem L} (h : MRel P κ ρ σ w) (hs : ∀ b o, σ'.get b = some o → o.isLogic = false → σ.get b = some o) (hl : ∀ b, σ.next ≤ b → σ'.get b = none) (hn : σ'.next = σ.next) : MRel P κ ρ σ' w where
  live b o hb hlg := h.live b o (hs b o hb hlg) hlg
  inj x y o1 o2 l1 l2 h1 h2 hne k1 k2 := h.inj x y o1 o2 l1 l2 (hs _ _ h1 k1) (hs _ _ h2 k2) hne k1 k2
  fresh b hb := ⟨hl b (hn ▸ hb), (h.fresh b (hn ▸ hb)).2⟩
  old := h.old
  kept := h.kept
  apart c oc x o1 l1 hc hx hlg := h.apart c oc x o1 l1 hc (hs _ _ hx hlg) hlg
  env := h.env

theorem MRel.skipTo (h : MRel P κ ρ σ w) {nx : Nat} (hn : σ.next ≤ nx) : MRel P κ ρ (σ.skipTo nx) w where
  live := h.live
  inj := h.inj
  fresh b hb := h.fresh b (Nat.le_trans hn hb)
  old := h.old
  kept := h.kept
  apart := h.apart
  env := h.env

/-- The old block's abstract block is dropped, another one stands for the same block of the model ('append' in place). -/
theorem MRel.rename (h : MRel P κ ρ σ w) {w' : World} {b b' nx : Nat} {o o' : AObj L} {l l' : Loc} (ho : σ.get b = some o) (hol : o.isLogic = false) (hro : o.isRo = false) (hro' : o'.isRo = false) (hol' : o'.isLogic = false)
    (hl : ρ b = some l) (hb : σ.get b' = none) (hr : ρ b' = none) (hn : σ.next ≤ nx) (hbn : b' < nx) (hll : l'.blk = l.blk)
    (hor : ORel P (ρ.add b' l') w' l' o') (hsz : w'.heap.size = w.heap.size) (hrest : ∀ c, c ≠ l.blk → w'.heap[c]? = w.heap[c]?) (hv : envOf w' = envOf w := by first | rfl | exact env_setCells ..) :
    MRel P κ (ρ.add b' l') ((σ.kill b).put b' nx o') w' := by
  have hne : b' ≠ b := by intro e; subst e; rw [hb] at ho; cases ho
  exact {
    live := fun x o1 hx hxl => by
      rw [AMem.get_put] at hx
      by_cases hxb : x = b'
      · subst hxb; simp only [if_true, Option.some.injEq] at hx; subst hx; exact ⟨l', ρ.add_at _ _, hor⟩
      · rw [if_neg hxb, AMem.get_kill] at hx
        split at hx
        · cases hx
        · rename_i hxb2
          obtain ⟨l1, hr1, hor1⟩ := h.live x o1 hx hxl
          refine ⟨l1, by rw [ρ.add_ne l' hxb]; exact hr1, (hor1.of_block (hrest _ (h.inj x b o1 o l1 l hx ho hxb2 hxl hol (by simp [hro]) hr1 hl))).mono (Rho.le_add l' hr)⟩
    inj := fun x y o1 o2 l1 l2 h1 h2 hxy k1 k2 hrr r1 r2 => by
      rw [AMem.get_put] at h1 h2
      by_cases hx : x = b'
      · subst hx
        have hy : y ≠ x := fun e => hxy e.symm
        rw [ρ.add_at] at r1; cases r1
        rw [ρ.add_ne _ hy] at r2
        rw [if_neg hy, AMem.get_kill] at h2
        split at h2
        · cases h2
        · rename_i hyb
          have := h.inj y b o2 o l2 l h2 ho hyb k2 hol (by simp [hro]) r2 hl
          omega
      · by_cases hy : y = b'
        · subst hy
          rw [ρ.add_at] at r2; cases r2
          rw [ρ.add_ne _ hx] at r1
          rw [if_neg hx, AMem.get_kill] at h1
          split at h1
          · cases h1
          · rename_i hxb
            have := h.inj x b o1 o l1 l h1 ho hxb k1 hol (by simp [hro]) r1 hl
            omega
        · rw [if_neg hx, AMem.get_kill] at h1; rw [if_neg hy, AMem.get_kill] at h2
          rw [ρ.add_ne _ hx] at r1; rw [ρ.add_ne _ hy] at r2
          split at h1
          · cases h1
          · split at h2
            · cases h2
            · exact h.inj x y o1 o2 l1 l2 h1 h2 hxy k1 k2 hrr r1 r2
    fresh := fun x hx => by
      have hxb : x ≠ b' := by intro e; subst e; exact absurd hbn (by simp [AMem.next_put] at hx; omega)
      have := h.fresh x (by simp [AMem.next_put] at hx; omega)
      rw [AMem.get_put, if_neg hxb, ρ.add_ne l' hxb, AMem.get_kill]
      refine ⟨?_, this.2⟩
      split
      · rfl
      · exact this.1
    old := fun x l1 hx => by
      rw [hsz]
      by_cases hxb : x = b'
      · subst hxb; rw [ρ.add_at] at hx; cases hx; rw [hll]; exact h.old b l hl
      · rw [ρ.add_ne _ hxb] at hx; exact h.old x l1 hx
    kept := fun c oc hc => by
      rw [hrest c (fun e => h.apart c oc b o l hc ho hol hl e.symm)]
      exact h.kept c oc hc
    apart := fun c oc x o1 l1 hc hx hxl hlx => by
      rw [AMem.get_put] at hx
      by_cases hxb : x = b'
      · subst hxb; rw [ρ.add_at] at hlx; cases hlx; rw [hll]; exact h.apart c oc b o l hc ho hol hl
      · rw [if_neg hxb, AMem.get_kill] at hx
        rw [ρ.add_ne _ hxb] at hlx
        split at hx
        · cases hx
        · exact h.apart c oc x o1 l1 hc hx hxl hlx
    env := hv.trans h.env }

end Go.Ax
