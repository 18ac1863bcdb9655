/- The closed facts of the row Rows.storeManyRow, each asked by itself. -/
import Derived.Test.YtmnffigepjgnhaaGreatDoorCards
import Derived.ProofKit
import Derived.JoinedOf
import Derived.KernelRfl
set_option linter.unusedVariables false
set_option linter.unusedSimpArgs false
namespace Go.Proofs.YtmnffigepjgnhaaGreatDoor.storeMany
open Go
set_option maxRecDepth 100000
set_option maxHeartbeats 0
theorem both {a b : Bool} (h : a = true) (h' : b = true) : (a && b) = true := by rw [h, h']; rfl
theorem closed : joinedFacts Tryz.pinned.checked.prog 4 Tryz.f4 (OpenSpec.ofChange Rows.storeManySpec).bare Rows.storeManyRow = true := by
  unfold joinedFacts
  repeat' with_reducible refine both ?_ ?_
  all_goals as_aux_lemma => kernel_rfl
theorem fName : Tryz.pinned.checked.prog.funcNamed Rows.storeManyRow.func = some 4 := by kernel_rfl
end Go.Proofs.YtmnffigepjgnhaaGreatDoor.storeMany
