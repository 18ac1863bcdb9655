/- The document's example runs, in any memory. -/
import Derived.Test.YtmnffigepjgnhaaGreatDoorNatSim
set_option linter.unusedVariables false
set_option linter.unusedSimpArgs false
namespace Go.Proofs
open Go Go.Ax
set_option maxRecDepth 1000000
theorem run_awake : isTrue (crun PP tab.get nat1 1000 40 5 [] ⟨0, .nil⟩) = true := by kernel_rfl

theorem sim_awake (rel : Rel PP Empty) : Sim rel (fun g xs σ K => (g = 5 ∧ xs = []) ∧ K (.bool true) σ) := by
  refine Sim.pure (sim_run1 (physRel PP Empty) 40) rfl rfl ?_
  have h := run_awake
  unfold isTrue at h
  split at h
  · rename_i m' he
    exact ⟨⟨0, .nil⟩, _, m', abs_nil.symm, he, rfl⟩
  · cases h
end Go.Proofs
