/- The closed facts of the card Rows.storeManyCard. -/
import Derived.Test.YtmnffigepjgnhaaGreatDoorCards
import Derived.SevenTiedAt
import Derived.KernelRfl
set_option linter.unusedVariables false
set_option linter.unusedSimpArgs false
namespace Go.Proofs.YtmnffigepjgnhaaGreatDoor.storeMany
open Go
set_option maxRecDepth 100000
set_option maxHeartbeats 0
theorem wfByText : Rows.storeManyRow.wfByText (OpenSpec.ofChange Rows.storeManySpec) = true := by kernel_rfl
theorem mainIs : Tryz.pinned.checked.prog.mainIs = some (Rows.storeManyCard.stood.harness.1, Rows.storeManyCard.stood.harness.2.toList) := by kernel_rfl
theorem goesBy : false = Rows.storeManyRow.goesBy Tryz.pinned.checked.prog := by kernel_rfl
end Go.Proofs.YtmnffigepjgnhaaGreatDoor.storeMany
