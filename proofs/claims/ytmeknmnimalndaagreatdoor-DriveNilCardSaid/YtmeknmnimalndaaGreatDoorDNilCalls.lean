/- The law of a drive that there is not: nothing of its command is looked at. -/
import Derived.Test.YtmeknmnimalndaaGreatDoorAxBridge
import Derived.Test.YtmeknmnimalndaaGreatDoorNatSim
set_option linter.unusedVariables false
set_option linter.unusedSimpArgs false
namespace Go.Proofs
open Go Go.Ax Go.RowKit
set_option maxRecDepth 1000000

def anyCmd : Value := .agg ⟨List.replicate 14 undef⟩

theorem run_dnil : isTrue (crun PP tab.get nat1 1000 40 3 [anyCmd] ⟨0, .nil⟩) = true := by kernel_rfl

theorem DriveNil_calls {H : Type} (enc : TypeId × Value → H) (base : Nat) (args : Array Value) {ds : List (DataW H)} {p : List MemPlace} {W : World} (hval : ∀ (j : Nat) t v, [27].toArray[j]? = some t → args[j]? = some v → Value.okWide Tryz.prog W .any base t v)
    (hA : DataW.TrodAll enc Tryz.prog W 0 (fun _ => true) true Tryz.f3.params.toList args.toList ds p) (W2 : World) (_ : W2 = W) :
    Calls Tryz.prog 3 args W2 fun e w' => e = .returned (.bool true) ∧ Below W2.heap.size W2 w' := by
  rw [Tryz.params3] at hA
  obtain ⟨v0, vs0, d0, ds0, p0, q0, e0, rfl, e0p, h0, r0⟩ := ChangeShapes.trodAll_cons hA
  obtain ⟨e1, rfl, _⟩ := ChangeShapes.trodAll_nil r0
  have hl : args.toList = [v0] := by rw [e0, e1]
  have hv0 : args[0]? = some v0 := by rw [← Array.getElem?_toList, hl]; rfl
  obtain ⟨cs, rfl, hsz⟩ := WideShapes.okWide_struct Tryz.underlying27 (hval 0 27 v0 rfl hv0)
  have hc : Tryz.prog.cellsOf 27 = 14 := by kernel_rfl
  refine Sim.below (sim_run1 (physRel PP Empty) 40) (fn := Tryz.f3) (args := [anyCmd]) Tryz.func3 (by kernel_rfl) (by kernel_rfl) ?_ (by
    rw [hl]
    refine .cons (VRel.agg_iff.2 ?_) (.nil _)
    exact undefs (by simp [hsz, hc]) (by simp)) W2
  have h := run_dnil
  unfold isTrue at h
  split at h
  · rename_i m' he
    exact ⟨⟨0, .nil⟩, _, m', abs_nil.symm, he, rfl⟩
  · cases h
end Go.Proofs
