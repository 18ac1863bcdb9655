/- The closed facts of the card Rows.storeNilCard. -/
import Derived.Test.YtaeoiohcalonkaaGreatDoorCards
import Derived.SevenTiedAt
import Derived.KernelRfl
set_option linter.unusedVariables false
set_option linter.unusedSimpArgs false
namespace Go.Proofs.YtaeoiohcalonkaaGreatDoor.storeNil
open Go
set_option maxRecDepth 100000
set_option maxHeartbeats 0
theorem wfByText : Rows.storeNilRow.wfByText (OpenSpec.ofChange Rows.storeNilSpec) = true := by kernel_rfl
theorem mainIs : Tryz.pinned.checked.prog.mainIs = some (Rows.storeNilCard.stood.harness.1, Rows.storeNilCard.stood.harness.2.toList) := by kernel_rfl
theorem goesBy : false = Rows.storeNilRow.goesBy Tryz.pinned.checked.prog := by kernel_rfl
end Go.Proofs.YtaeoiohcalonkaaGreatDoor.storeNil
