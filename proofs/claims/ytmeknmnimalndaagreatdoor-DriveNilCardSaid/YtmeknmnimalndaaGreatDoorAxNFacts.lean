/- What the evaluator asks of the functions told by hand: printed by program. -/
import Derived.Test.YtmeknmnimalndaaGreatDoorAxTab
import Derived.Test.YtmeknmnimalndaaGreatDoorAxView2
import Derived.Test.YtmeknmnimalndaaGreatDoorAxRangeX
import Derived.KernelRfl
set_option linter.unusedVariables false
set_option linter.unusedSimpArgs false
namespace Go.Proofs
open Go Go.Ax
theorem ag_79 : Ax.aggOf PP 79 = some false := by kernel_rfl
theorem ag_131 : Ax.aggOf PP 131 = some false := by kernel_rfl
theorem by_9 : Ax.bytesOf PP 9 = some 16 := by kernel_rfl
theorem el_116 : Ax.elemOf PP 116 = some 9 := by kernel_rfl
theorem fa_133_2 : Ax.fieldAtOf PP 133 2 = some (6, 1) := by kernel_rfl
theorem fa_158_2 : Ax.fieldAtOf PP 158 2 = some (2, 1) := by kernel_rfl
theorem gz_9 : goodZero 1 16 (.string ByteArray.empty) = true := by kernel_rfl
theorem mp_131 : Ax.mapOf PP 131 = some (9, 135) := by kernel_rfl
theorem sz_9 : Ax.szOf PP 9 = some 1 := by kernel_rfl
theorem sz_79 : Ax.szOf PP 79 = some 1 := by kernel_rfl
theorem sz_131 : Ax.szOf PP 131 = some 1 := by kernel_rfl
theorem un_3 : Program.underlying PP 3 = some (.int .i64) := by kernel_rfl
theorem un_9 : Program.underlying PP 9 = some (.string) := by kernel_rfl
theorem un_79 : Program.underlying PP 79 = some (.slice 5) := by kernel_rfl
theorem un_116 : Program.underlying PP 116 = some (.slice 9) := by kernel_rfl
theorem un_131 : Program.underlying PP 131 = some (.map 9 135) := by kernel_rfl
theorem zr_9 : Ax.zeroOf PP 9 = some (.string ByteArray.empty) := by kernel_rfl
theorem zr_135 : Ax.zeroOf PP 135 = some (.pointer none) := by kernel_rfl
theorem bo_116 {L : Type} {σ : AMem L} {v : Value} {b nx : Nat} (hv : laidCell v = true) : aBuildSlice PP 116 1 [(0, v)] σ b nx = some (.slice (some ⟨b, 0, none⟩) 1 1, σ.put b nx (.cells [v] 9 false)) := buildSlice_one el_116 sz_9 zr_9 gz_9 hv
def plans82 : Plans := fun _ => []
noncomputable def code82 : Code := (Tryz.f82.body).getD .skip
theorem fnokx82 : FnOkX PP plans82 82 Tryz.f82 code82 := ⟨Tryz.func82, by kernel_rfl, by kernel_rfl, by kernel_rfl⟩
def plans66 : Plans := fun _ => []
noncomputable def code66 : Code := (Tryz.f66.body).getD .skip
theorem fnokx66 : FnOkX PP plans66 66 Tryz.f66 code66 := ⟨Tryz.func66, by kernel_rfl, by kernel_rfl, by kernel_rfl⟩
def plans62 : Plans := fun _ => []
noncomputable def code62 : Code := (Tryz.f62.body).getD .skip
theorem fnokx62 : FnOkX PP plans62 62 Tryz.f62 code62 := ⟨Tryz.func62, by kernel_rfl, by kernel_rfl, by kernel_rfl⟩
end Go.Proofs
