/- The closed facts of the card Rows.driveNilCard. -/
import Derived.Test.YtmeknmnimalndaaGreatDoorCards
import Derived.SevenTiedAt
import Derived.KernelRfl
set_option linter.unusedVariables false
set_option linter.unusedSimpArgs false
namespace Go.Proofs.YtmeknmnimalndaaGreatDoor.driveNil
open Go
set_option maxRecDepth 100000
set_option maxHeartbeats 0
theorem wfByText : Rows.driveNilRow.wfByText (OpenSpec.ofChange Rows.driveNilSpec) = true := by kernel_rfl
theorem mainIs : Tryz.pinned.checked.prog.mainIs = some (Rows.driveNilCard.stood.harness.1, Rows.driveNilCard.stood.harness.2.toList) := by kernel_rfl
theorem goesBy : false = Rows.driveNilRow.goesBy Tryz.pinned.checked.prog := by kernel_rfl
end Go.Proofs.YtmeknmnimalndaaGreatDoor.driveNil
