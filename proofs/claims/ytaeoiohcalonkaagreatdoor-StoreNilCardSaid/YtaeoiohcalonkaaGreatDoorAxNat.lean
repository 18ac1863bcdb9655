/- Natives that only look: from laws of calls to laws of the runner. -/
import Derived.Test.YtaeoiohcalonkaaGreatDoorAxExt
set_option linter.unusedVariables false
set_option linter.unusedSimpArgs false
namespace Go.Ax
open Go
variable {L : Type} {P : Program} {rel : Rel P L}

theorem sim_none (rel : Rel P L) : Sim rel (fun _ _ _ _ => False) := fun _ _ _ _ h => h.elim

/-- A native that computes a value of its arguments alone. -/
def pureNat (g : List Value → Option Value) : List Value → CMem L → Option (Value × CMem L) := fun args m => (g args).map fun v => (v, m)

/-- Old blocks stand, new ones came. -/
theorem MRel.of_ext {κ : Kappa} {ρ : Rho} {σ : AMem L} {w w' : World} (h : MRel P κ ρ σ w) (hk : ∀ c o, κ c = some o → c < w.heap.size) (hs : w.heap.size ≤ w'.heap.size) (hb : ∀ c, c < w.heap.size → w'.heap[c]? = w.heap[c]?) (hv : envOf w' = envOf w) : MRel P κ ρ σ w' where
  live b o ho hl := by
    obtain ⟨l, hr, hor⟩ := h.live b o ho hl
    exact ⟨l, hr, hor.of_block (hb _ (h.old b l hr))⟩
  inj := h.inj
  fresh := h.fresh
  old b l hr := Nat.lt_of_lt_of_le (h.old b l hr) hs
  kept c o hc := by rw [hb c (hk c o hc)]; exact h.kept c o hc
  apart := h.apart
  env := hv.trans h.env

theorem MRel.kept_lt {κ : Kappa} {ρ : Rho} {σ : AMem L} {w : World} (h : MRel P κ ρ σ w) {c : Nat} {o : Obj} (hc : κ c = some o) : c < w.heap.size :=
  (Array.getElem?_eq_some_iff.1 (h.kept c o hc)).1

end Go.Ax
