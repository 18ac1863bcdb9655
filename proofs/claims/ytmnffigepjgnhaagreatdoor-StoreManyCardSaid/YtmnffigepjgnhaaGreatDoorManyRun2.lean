/- The runs of the law of so many snapshots, part 2. -/
import Derived.Test.YtmnffigepjgnhaaGreatDoorMany
set_option linter.unusedVariables false
set_option linter.unusedSimpArgs false
namespace Go.Proofs
open Go Go.Ax
set_option maxRecDepth 1000000
set_option maxHeartbeats 0
theorem many_6 (n : Int) : checkM PP (run2 40) plans4 code4 n 6 7 = true := by kernel_rfl
theorem many_7 (n : Int) : checkM PP (run2 40) plans4 code4 n 7 8 = true := by kernel_rfl
theorem many_8 (n : Int) : checkM PP (run2 40) plans4 code4 n 8 9 = true := by kernel_rfl
theorem many_9 (n : Int) : checkM PP (run2 40) plans4 code4 n 9 10 = true := by kernel_rfl
theorem many_10 (n : Int) : checkM PP (run2 40) plans4 code4 n 10 11 = true := by kernel_rfl
end Go.Proofs
