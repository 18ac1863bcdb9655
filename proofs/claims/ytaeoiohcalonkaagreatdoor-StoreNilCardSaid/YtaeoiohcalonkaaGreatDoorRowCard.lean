/- THE STATEMENT Rows.StoreNilCardSaid: the law StoreNil of the given program answers true for every input, and leaves its arguments as they were; its condition: the package-level variables that the row lists start as the program's text lays them (the card ties them). -/
import Derived.Test.YtaeoiohcalonkaaGreatDoorRowSaid
import Derived.Test.YtaeoiohcalonkaaGreatDoorCardFacts
import Derived.Test.YtaeoiohcalonkaaGreatDoorTie
set_option linter.unusedVariables false
set_option linter.unusedSimpArgs false
namespace Go.Proofs.YtaeoiohcalonkaaGreatDoor.storeNil
open Go Go.Ax Go.ChangeShapes Go.WideShapes Go.ChangeAt Go.RowKit
set_option maxRecDepth 100000
set_option maxHeartbeats 0
/-- No parameter wants a stand-in. -/
theorem plain (f : FuncId) (fn : Func) (hf : Tryz.pinned.checked.prog.funcNamed "icebox/iceboxlaw26.StoreNil" = some f) (hfn : Tryz.pinned.checked.prog.funcs[f]? = some fn) :
    true = Tryz.pinned.checked.prog.looks [] ∧ ∀ (j : Nat) t, fn.params[j]? = some t → Tryz.pinned.checked.prog.wantsStandIn t = false := by
  obtain rfl : f = 3 := Option.some.inj ((show Tryz.prog.funcNamed "icebox/iceboxlaw26.StoreNil" = some 3 by kernel_rfl).symm.trans hf) |>.symm
  obtain rfl : fn = Tryz.f3 := (Option.some.inj (Tryz.func3.symm.trans hfn)).symm
  refine ⟨by kernel_rfl, fun j t ht => ?_⟩
  rw [Tryz.params3] at ht
  have hm : t ∈ [22, 9, 3] := by simpa using Array.mem_of_getElem? ht
  have hall : ([22, 9, 3].all fun u => !Tryz.prog.wantsStandIn u) = true := by kernel_rfl
  exact (show Tryz.prog.wantsStandIn t = false by simpa using List.all_eq_true.1 hall t hm)

/-- The card. -/
theorem card : Rows.StoreNilCardSaid :=
  Claim7.holds_tied_plain_at .later [] _ _ _ _ said (fun _ h => by cases h) wfByText (fun _ h => by cases h) storeNil_row_tie rfl ⟨rfl, rfl⟩ mainIs rfl plain goesBy
#print axioms card
end Go.Proofs.YtaeoiohcalonkaaGreatDoor.storeNil
