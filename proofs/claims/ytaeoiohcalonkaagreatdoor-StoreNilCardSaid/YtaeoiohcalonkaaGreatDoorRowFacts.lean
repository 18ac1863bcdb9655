/- The closed facts of the row Rows.storeNilRow, each asked by itself. -/
import Derived.Test.YtaeoiohcalonkaaGreatDoorCards
import Derived.ProofKit
import Derived.JoinedOf
import Derived.KernelRfl
set_option linter.unusedVariables false
set_option linter.unusedSimpArgs false
namespace Go.Proofs.YtaeoiohcalonkaaGreatDoor.storeNil
open Go
set_option maxRecDepth 100000
set_option maxHeartbeats 0
theorem both {a b : Bool} (h : a = true) (h' : b = true) : (a && b) = true := by rw [h, h']; rfl
theorem closed : joinedFacts Tryz.pinned.checked.prog 3 Tryz.f3 (OpenSpec.ofChange Rows.storeNilSpec).bare Rows.storeNilRow = true := by
  unfold joinedFacts
  repeat' with_reducible refine both ?_ ?_
  all_goals as_aux_lemma => kernel_rfl
theorem fName : Tryz.pinned.checked.prog.funcNamed Rows.storeNilRow.func = some 3 := by kernel_rfl
end Go.Proofs.YtaeoiohcalonkaaGreatDoor.storeNil
