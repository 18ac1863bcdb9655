/- The law of so many snapshots answers true for every number. -/
import Derived.Test.YtmnffigepjgnhaaGreatDoorManyRun1
import Derived.Test.YtmnffigepjgnhaaGreatDoorManyRun2
import Derived.Test.YtmnffigepjgnhaaGreatDoorManyRun3
set_option linter.unusedVariables false
set_option linter.unusedSimpArgs false
namespace Go.Proofs
open Go Go.Ax Go.RowKit
set_option maxRecDepth 100000

theorem fnokM : FnOk PP plans4 4 Tryz.f4 code4 := ⟨Tryz.func4, by kernel_rfl, by kernel_rfl, by kernel_rfl⟩
theorem resM : Tryz.f4.results.toList = [.tmp 2] := by kernel_rfl
theorem lenM : ([.int .u8 0] : List Value).length ≤ Tryz.f4.ntmps := by decide +kernel

theorem many_all {n : Int} (h0 : 0 ≤ n) (h1 : n < 256) : aBody PP (runSpec (run2 40)) plans4 Tryz.f4 code4 [.int .u8 n] ⟨0, fun _ => none⟩ (fun u _ => u = .bool true) := by
  refine ⟨lenM, ?_⟩
  have key : ∀ j : Int, n % 16 = j → checkM PP (run2 40) plans4 code4 n j (1 + j) = true → aCode PP (runSpec (run2 40)) plans4 code4 (aEnd PP Tryz.f4.results.toList fun u _ => u = .bool true) (aArgs [.int .u8 n]) ⟨0, fun _ => none⟩ :=
    fun j hj hc => many_core resM h0 h1 hj rfl (many_reg n) (many_pre n) hc
  have hr : n % 16 = 0 ∨ n % 16 = 1 ∨ n % 16 = 2 ∨ n % 16 = 3 ∨ n % 16 = 4 ∨ n % 16 = 5 ∨ n % 16 = 6 ∨ n % 16 = 7 ∨ n % 16 = 8 ∨ n % 16 = 9 ∨ n % 16 = 10 ∨ n % 16 = 11 ∨ n % 16 = 12 ∨ n % 16 = 13 ∨ n % 16 = 14 ∨ n % 16 = 15 := by omega
  rcases hr with h | h | h | h | h | h | h | h | h | h | h | h | h | h | h | h
  · exact key 0 h (many_0 n)
  · exact key 1 h (many_1 n)
  · exact key 2 h (many_2 n)
  · exact key 3 h (many_3 n)
  · exact key 4 h (many_4 n)
  · exact key 5 h (many_5 n)
  · exact key 6 h (many_6 n)
  · exact key 7 h (many_7 n)
  · exact key 8 h (many_8 n)
  · exact key 9 h (many_9 n)
  · exact key 10 h (many_10 n)
  · exact key 11 h (many_11 n)
  · exact key 12 h (many_12 n)
  · exact key 13 h (many_13 n)
  · exact key 14 h (many_14 n)
  · exact key 15 h (many_15 n)

theorem StoreMany_calls {H : Type} (enc : TypeId × Value → H) (base : Nat) (args : Array Value) {ds : List (DataW H)} {p : List MemPlace} {W : World} (hval : ∀ (j : Nat) t v, [5].toArray[j]? = some t → args[j]? = some v → Value.okWide Tryz.prog W .any base t v)
    (hA : DataW.TrodAll enc Tryz.prog W 0 (fun _ => true) true Tryz.f4.params.toList args.toList ds p) (W2 : World) (_ : W2 = W) :
    Calls Tryz.prog 4 args W2 fun e w' => e = .returned (.bool true) ∧ Below W2.heap.size W2 w' := by
  rw [Tryz.params4] at hA
  obtain ⟨v0, vs0, d0, ds0, p0, q0, e0, rfl, e0p, h0, r0⟩ := ChangeShapes.trodAll_cons hA
  obtain ⟨e1, rfl, _⟩ := ChangeShapes.trodAll_nil r0
  have hl : args.toList = [v0] := by rw [e0, e1]
  have hv0 : args[0]? = some v0 := by rw [← Array.getElem?_toList, hl]; rfl
  obtain ⟨n, rfl, rfl, rfl, wn⟩ := ChangeShapes.open_int Tryz.underlying5 (hval 0 5 v0 rfl hv0) h0
  have hb := bounds_u8 wn
  refine Sim.below (Sim.add (sim_run2 (physRel PP Empty) 40) mixed fnokM (law := fun xs σ K => aBody PP (runSpec (run2 40)) plans4 Tryz.f4 code4 xs σ K) (fun _ _ _ h => h)) (fn := Tryz.f4) (args := [.int .u8 n]) Tryz.func4 (by kernel_rfl) (by kernel_rfl)
    (.inr ⟨rfl, many_all (by omega) (by omega)⟩) (by rw [hl]; exact .cons (.int _ _) (.nil _)) W2
end Go.Proofs
