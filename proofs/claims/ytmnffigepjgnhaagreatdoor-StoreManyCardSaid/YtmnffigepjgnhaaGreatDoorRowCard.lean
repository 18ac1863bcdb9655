/- THE STATEMENT Rows.StoreManyCardSaid: the law StoreMany of the given program answers true for every input, and leaves its arguments as they were; its condition: the package-level variables that the row lists start as the program's text lays them (the card ties them). -/
import Derived.Test.YtmnffigepjgnhaaGreatDoorRowSaid
import Derived.Test.YtmnffigepjgnhaaGreatDoorCardFacts
import Derived.Test.YtmnffigepjgnhaaGreatDoorTie
set_option linter.unusedVariables false
set_option linter.unusedSimpArgs false
namespace Go.Proofs.YtmnffigepjgnhaaGreatDoor.storeMany
open Go Go.Ax Go.ChangeShapes Go.WideShapes Go.ChangeAt Go.RowKit
set_option maxRecDepth 100000
set_option maxHeartbeats 0
/-- No parameter wants a stand-in. -/
theorem plain (f : FuncId) (fn : Func) (hf : Tryz.pinned.checked.prog.funcNamed "icebox/iceboxlaw26.StoreMany" = some f) (hfn : Tryz.pinned.checked.prog.funcs[f]? = some fn) :
    true = Tryz.pinned.checked.prog.looks [] ∧ ∀ (j : Nat) t, fn.params[j]? = some t → Tryz.pinned.checked.prog.wantsStandIn t = false := by
  obtain rfl : f = 4 := Option.some.inj ((show Tryz.prog.funcNamed "icebox/iceboxlaw26.StoreMany" = some 4 by kernel_rfl).symm.trans hf) |>.symm
  obtain rfl : fn = Tryz.f4 := (Option.some.inj (Tryz.func4.symm.trans hfn)).symm
  refine ⟨by kernel_rfl, fun j t ht => ?_⟩
  rw [Tryz.params4] at ht
  have hm : t ∈ [5] := by simpa using Array.mem_of_getElem? ht
  have hall : ([5].all fun u => !Tryz.prog.wantsStandIn u) = true := by kernel_rfl
  exact (show Tryz.prog.wantsStandIn t = false by simpa using List.all_eq_true.1 hall t hm)

/-- The card. -/
theorem card : Rows.StoreManyCardSaid :=
  Claim7.holds_tied_plain_at .later [] _ _ _ _ said (fun _ h => by cases h) wfByText (fun _ h => by cases h) storeMany_row_tie rfl ⟨rfl, rfl⟩ mainIs rfl plain goesBy
#print axioms card
end Go.Proofs.YtmnffigepjgnhaaGreatDoor.storeMany
