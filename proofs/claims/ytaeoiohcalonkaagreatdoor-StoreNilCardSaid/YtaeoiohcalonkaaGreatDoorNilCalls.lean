/- The law of a store that there is not: nothing of its arguments is looked at. -/
import Derived.Test.YtaeoiohcalonkaaGreatDoorAxBridge
import Derived.Test.YtaeoiohcalonkaaGreatDoorNatSim
set_option linter.unusedVariables false
set_option linter.unusedSimpArgs false
namespace Go.Proofs
open Go Go.Ax Go.RowKit
set_option maxRecDepth 1000000

theorem run_nil (n : Int) : isTrue (crun PP tab.get nat1 1000 40 3 [undef, undef, .int .i64 n] ⟨0, .nil⟩) = true := by kernel_rfl

theorem StoreNil_calls {H : Type} (enc : TypeId × Value → H) (base : Nat) (args : Array Value) {ds : List (DataW H)} {p : List MemPlace} {W : World} (hval : ∀ (j : Nat) t v, [22, 9, 3].toArray[j]? = some t → args[j]? = some v → Value.okWide Tryz.prog W .any base t v)
    (hA : DataW.TrodAll enc Tryz.prog W 0 (fun _ => true) true Tryz.f3.params.toList args.toList ds p) (W2 : World) (_ : W2 = W) :
    Calls Tryz.prog 3 args W2 fun e w' => e = .returned (.bool true) ∧ Below W2.heap.size W2 w' := by
  rw [Tryz.params3] at hA
  obtain ⟨v0, vs0, d0, ds0, p0, q0, e0, rfl, e0p, h0, r0⟩ := ChangeShapes.trodAll_cons hA
  obtain ⟨v1, vs1, d1, ds1, p1, q1, e1, rfl, e1p, h1, r1⟩ := ChangeShapes.trodAll_cons r0
  obtain ⟨v2, vs2, d2, ds2, p2, q2, e2, rfl, e2p, h2, r2⟩ := ChangeShapes.trodAll_cons r1
  obtain ⟨e3, rfl, _⟩ := ChangeShapes.trodAll_nil r2
  have hl : args.toList = [v0, v1, v2] := by rw [e0, e1, e2, e3]
  have hv2 : args[2]? = some v2 := by rw [← Array.getElem?_toList, hl]; rfl
  obtain ⟨n, rfl, rfl, rfl, _⟩ := ChangeShapes.open_int Tryz.underlying3 (hval 2 3 v2 rfl hv2) h2
  refine Sim.below (sim_run1 (physRel PP Empty) 40) (fn := Tryz.f3) (args := [undef, undef, .int .i64 n]) Tryz.func3 (by kernel_rfl) (by kernel_rfl) ?_ (by rw [hl]; exact .cons (.any _) (.cons (.any _) (.cons (.int _ _) (.nil _)))) W2
  have h := run_nil n
  unfold isTrue at h
  split at h
  · rename_i m' he
    exact ⟨⟨0, .nil⟩, _, m', abs_nil.symm, he, rfl⟩
  · cases h
end Go.Proofs
