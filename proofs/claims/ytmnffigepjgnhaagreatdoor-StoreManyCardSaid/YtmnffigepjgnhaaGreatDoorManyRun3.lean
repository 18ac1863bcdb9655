/- The runs of the law of so many snapshots, part 3. -/
import Derived.Test.YtmnffigepjgnhaaGreatDoorMany
set_option linter.unusedVariables false
set_option linter.unusedSimpArgs false
namespace Go.Proofs
open Go Go.Ax
set_option maxRecDepth 1000000
set_option maxHeartbeats 0
theorem many_11 (n : Int) : checkM PP (run2 40) plans4 code4 n 11 12 = true := by kernel_rfl
theorem many_12 (n : Int) : checkM PP (run2 40) plans4 code4 n 12 13 = true := by kernel_rfl
theorem many_13 (n : Int) : checkM PP (run2 40) plans4 code4 n 13 14 = true := by kernel_rfl
theorem many_14 (n : Int) : checkM PP (run2 40) plans4 code4 n 14 15 = true := by kernel_rfl
theorem many_15 (n : Int) : checkM PP (run2 40) plans4 code4 n 15 16 = true := by kernel_rfl
end Go.Proofs
