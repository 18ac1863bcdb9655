/- The plain relation is one under which the operations run. -/
import Derived.Test.YtaeoiohcalonkaaGreatDoorAxCode
set_option linter.unusedVariables false
set_option linter.unusedSimpArgs false
namespace Go.Ax
open Go
variable {L : Type} {P : Program} {κ : Kappa} {ρ : Rho} {σ : AMem L} {w : World}

theorem ORel.block {l : Loc} {o : AObj L} (h : ORel P ρ w l o) (hl : o.isLogic = false) : ∃ ob, w.heap[l.blk]? = some ob := by
  cases o with
  | cells vs e ro => obtain ⟨arr, fr, hh, _⟩ := h; exact ⟨_, hh⟩
  | map es => obtain ⟨ces, clock, hh, _⟩ := h; exact ⟨_, hh⟩
  | logic x => cases hl

theorem MRel.hide {b : Nat} {o : AObj L} (h : MRel P κ ρ σ w) (hb : σ.get b = some o) (hl : o.isLogic = false) (hro : o.isRo = false) :
    ∃ l ob, ρ b = some l ∧ w.heap[l.blk]? = some ob ∧ κ l.blk = none ∧ MRel P (κ.add l.blk ob) ρ (σ.kill b) w := by
  obtain ⟨l, hr, hor⟩ := h.live b o hb hl
  obtain ⟨ob, hob⟩ := hor.block hl
  refine ⟨l, ob, hr, hob, ?_, ?_⟩
  · cases hk : κ l.blk with
    | none => rfl
    | some o' => exact absurd rfl (h.apart _ _ b o l hk hb hl hr)
  · have hk := h.kill b
    exact {
      live := hk.live, inj := hk.inj, fresh := hk.fresh, old := hk.old
      kept := fun c oc hc => by
        simp only [Kappa.add] at hc
        split at hc
        · rename_i e; subst e; cases hc; exact hob
        · exact h.kept c oc hc
      apart := fun c oc x o1 l1 hc hx hxl hlx => by
        simp only [Kappa.add] at hc
        split at hc
        · rename_i e; subst e
          rw [AMem.get_kill] at hx
          split at hx
          · cases hx
          · rename_i hxb; exact h.inj x b o1 o l1 l hx hb hxb hxl hl (by simp [hro]) hlx hr
        · exact hk.apart c oc x o1 l1 hc hx hxl hlx
      env := hk.env }

theorem MRel.shown {b nx : Nat} {l : Loc} {ob : Obj} {o : AObj L} (h : MRel P κ ρ σ w) (hk : κ l.blk = some ob) (hr : ρ b = some l) (hb : σ.get b = none) (hn : b < nx) (hnx : σ.next ≤ nx) (_hl : o.isLogic = false) (hor : ORel P ρ w l o) :
    MRel P (κ.del l.blk) ρ (σ.put b nx o) w where
  live x o1 hx hxl := by
    rw [AMem.get_put] at hx
    split at hx
    · rename_i e; subst e; cases hx; exact ⟨l, hr, hor⟩
    · exact h.live x o1 hx hxl
  inj x y o1 o2 l1 l2 h1 h2 hne k1 k2 hro r1 r2 := by
    rw [AMem.get_put] at h1 h2
    by_cases hx : x = b
    · subst hx
      rw [if_neg (fun e => hne e.symm)] at h2
      rw [hr] at r1; cases r1
      exact fun e => h.apart _ _ y o2 l2 hk h2 k2 r2 e.symm
    · by_cases hy : y = b
      · subst hy
        rw [if_neg hx] at h1
        rw [hr] at r2; cases r2
        exact h.apart _ _ x o1 l1 hk h1 k1 r1
      · rw [if_neg hx] at h1; rw [if_neg hy] at h2
        exact h.inj x y o1 o2 l1 l2 h1 h2 hne k1 k2 hro r1 r2
  fresh x hx := by
    simp only [AMem.next_put] at hx
    rw [AMem.get_put, if_neg (by omega)]
    exact h.fresh x (by omega)
  old := h.old
  kept c oc hc := by
    simp only [Kappa.del] at hc
    split at hc
    · cases hc
    · exact h.kept c oc hc
  apart c oc x o1 l1 hc hx hxl hlx := by
    simp only [Kappa.del] at hc
    split at hc
    · cases hc
    · rename_i hcl
      rw [AMem.get_put] at hx
      split at hx
      · rename_i e; subst e; rw [hr] at hlx; cases hlx; exact fun e => hcl e.symm
      · exact h.apart c oc x o1 l1 hc hx hxl hlx
  env := h.env

theorem MRel.iter (h : MRel P κ ρ σ w) (o : Obj) : MRel P (κ.add w.heap.size o) (ρ.add σ.next ⟨w.heap.size, 0, 1, 1⟩) (σ.skipTo (σ.next + 1)) (w.alloc o) := by
  have hfr := (h.fresh σ.next (Nat.le_refl _)).2
  have hsz : (w.alloc o).heap.size = w.heap.size + 1 := by show (w.heap.push o).size = _; simp
  have hold : ∀ c, c < w.heap.size → (w.alloc o).heap[c]? = w.heap[c]? := fun c hc => by
    show (w.heap.push o)[c]? = _
    rw [Array.getElem?_push_lt hc, Array.getElem?_eq_getElem hc]
  have hne : ∀ {b : Nat} {x : AObj L}, σ.get b = some x → b ≠ σ.next := fun {b x} hb e => by
    have := (h.fresh σ.next (Nat.le_refl _)).1
    rw [e, this] at hb; cases hb
  refine { live := fun b x hb hl => ?_, inj := fun b c x y l l' hb hc hbc hx hy hro hl hl' => ?_, fresh := fun b hb => ?_, old := fun b l hl => ?_, kept := fun c x hc => ?_, apart := fun c x b y l hc hb hl hlb => ?_, env := h.env }
  · obtain ⟨l, hr, hor⟩ := h.live b x hb hl
    exact ⟨l, by rw [ρ.add_ne _ (hne hb)]; exact hr, (hor.mono (Rho.le_add _ hfr)).of_block (hold _ (h.old b l hr))⟩
  · rw [ρ.add_ne _ (hne hb)] at hl
    rw [ρ.add_ne _ (hne hc)] at hl'
    exact h.inj b c x y l l' hb hc hbc hx hy hro hl hl'
  · have hb' : σ.next + 1 ≤ b := hb
    exact ⟨(h.fresh b (by omega)).1, by rw [ρ.add_ne _ (by omega)]; exact (h.fresh b (by omega)).2⟩
  · rw [hsz]
    by_cases e : b = σ.next
    · subst e; rw [ρ.add_at] at hl; cases hl; exact Nat.lt_succ_self _
    · rw [ρ.add_ne _ e] at hl; exact Nat.lt_succ_of_lt (h.old b l hl)
  · simp only [Kappa.add] at hc
    split at hc
    · rename_i e; subst e; cases hc
      show (w.heap.push o)[w.heap.size]? = _
      simp
    · have hk := h.kept c x hc
      have hlt : c < w.heap.size := (Array.getElem?_eq_some_iff.1 hk).1
      rw [hold c hlt]; exact hk
  · rw [ρ.add_ne _ (hne hb)] at hlb
    simp only [Kappa.add] at hc
    split at hc
    · rename_i e; subst e; exact Nat.ne_of_lt (h.old b l hlb)
    · exact h.apart c x b y l hc hb hl hlb

theorem MRel.turn {c : Nat} {o : Obj} (o' : Obj) (h : MRel P κ ρ σ w) (hc : κ c = some o) : MRel P (κ.add c o') ρ σ (ChangeMaps.setBlock w c o') := by
  have hrest : ∀ x, x ≠ c → (ChangeMaps.setBlock w c o').heap[x]? = w.heap[x]? := fun x hx => by
    show (w.heap.setIfInBounds c o')[x]? = _
    rw [Array.getElem?_setIfInBounds_ne (fun e => hx e.symm)]
  have hlt : c < w.heap.size := (Array.getElem?_eq_some_iff.1 (h.kept c o hc)).1
  refine { live := fun b x hb hl => ?_, inj := h.inj, fresh := h.fresh, old := fun b l hl => ?_, kept := fun x ob hx => ?_, apart := fun x ob b y l hx hb hl hlb => ?_, env := h.env }
  · obtain ⟨l, hr, hor⟩ := h.live b x hb hl
    exact ⟨l, hr, hor.of_block (hrest _ (h.apart c o b x l hc hb hl hr))⟩
  · show l.blk < (w.heap.setIfInBounds c o').size
    rw [Array.size_setIfInBounds]; exact h.old b l hl
  · simp only [Kappa.add] at hx
    split at hx
    · rename_i e; subst e; cases hx
      show (w.heap.setIfInBounds x o')[x]? = _
      rw [Array.getElem?_setIfInBounds_self_of_lt hlt]
    · rename_i e; rw [hrest x e]; exact h.kept x ob hx
  · simp only [Kappa.add] at hx
    split at hx
    · rename_i e; subst e; exact h.apart x o b y l hc hb hl hlb
    · exact h.apart x ob b y l hx hb hl hlb

theorem MRel.drop {c : Nat} {o : Obj} (h : MRel P (κ.add c o) ρ σ w) (hc : κ c = none) : MRel P κ ρ σ w := by
  have hk : ∀ x ob, κ x = some ob → (κ.add c o) x = some ob := fun x ob hx => by
    simp only [Kappa.add]
    rw [if_neg (fun e => by rw [e, hc] at hx; cases hx)]; exact hx
  exact { live := h.live, inj := h.inj, fresh := h.fresh, old := h.old, kept := fun x ob hx => h.kept x ob (hk x ob hx), apart := fun x ob b y l hx hb hl hlb => h.apart x ob b y l (hk x ob hx) hb hl hlb, env := h.env }

/-- The plain relation. -/
def physRel (P : Program) (L : Type) : Rel P L where
  R := MRel P
  opens h := ⟨_, fun _ _ h => h, h, fun _ _ _ _ h _ _ => h⟩
  hides h hb hl hro := h.hide hb hl hro
  shows h hk hr hb hn hnx hl hor := h.shown hk hr hb hn hnx hl hor
  iters o h := h.iter o
  turns o h hc := h.turn o hc
  drops h hc := h.drop hc

end Go.Ax
