/- The runs of the law of so many snapshots, part 1. -/
import Derived.Test.YtmnffigepjgnhaaGreatDoorMany
set_option linter.unusedVariables false
set_option linter.unusedSimpArgs false
namespace Go.Proofs
open Go Go.Ax
set_option maxRecDepth 1000000
set_option maxHeartbeats 0
theorem many_pre (n : Int) : pre0 PP (run2 40) plans4 code4 n = some (.int .u8 n) := by kernel_rfl
theorem many_reg (n : Int) : isReg PP (run2 40) plans4 code4 n = some regM := by kernel_rfl
theorem many_0 (n : Int) : checkM PP (run2 40) plans4 code4 n 0 1 = true := by kernel_rfl
theorem many_1 (n : Int) : checkM PP (run2 40) plans4 code4 n 1 2 = true := by kernel_rfl
theorem many_2 (n : Int) : checkM PP (run2 40) plans4 code4 n 2 3 = true := by kernel_rfl
theorem many_3 (n : Int) : checkM PP (run2 40) plans4 code4 n 3 4 = true := by kernel_rfl
theorem many_4 (n : Int) : checkM PP (run2 40) plans4 code4 n 4 5 = true := by kernel_rfl
theorem many_5 (n : Int) : checkM PP (run2 40) plans4 code4 n 5 6 = true := by kernel_rfl
end Go.Proofs
