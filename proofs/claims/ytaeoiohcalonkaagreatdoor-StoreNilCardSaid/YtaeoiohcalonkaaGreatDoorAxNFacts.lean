/- What the evaluator asks of the functions told by hand: printed by program. -/
import Derived.Test.YtaeoiohcalonkaaGreatDoorAxTab
import Derived.Test.YtaeoiohcalonkaaGreatDoorAxView2
import Derived.Test.YtaeoiohcalonkaaGreatDoorAxRangeX
import Derived.KernelRfl
set_option linter.unusedVariables false
set_option linter.unusedSimpArgs false
namespace Go.Proofs
open Go Go.Ax
theorem ag_92 : Ax.aggOf PP 92 = some false := by kernel_rfl
theorem ag_146 : Ax.aggOf PP 146 = some false := by kernel_rfl
theorem by_9 : Ax.bytesOf PP 9 = some 16 := by kernel_rfl
theorem el_77 : Ax.elemOf PP 77 = some 9 := by kernel_rfl
theorem fa_149_2 : Ax.fieldAtOf PP 149 2 = some (6, 1) := by kernel_rfl
theorem fa_154_2 : Ax.fieldAtOf PP 154 2 = some (2, 1) := by kernel_rfl
theorem gz_9 : goodZero 1 16 (.string ByteArray.empty) = true := by kernel_rfl
theorem mp_146 : Ax.mapOf PP 146 = some (9, 151) := by kernel_rfl
theorem sz_9 : Ax.szOf PP 9 = some 1 := by kernel_rfl
theorem sz_92 : Ax.szOf PP 92 = some 1 := by kernel_rfl
theorem sz_146 : Ax.szOf PP 146 = some 1 := by kernel_rfl
theorem un_3 : Program.underlying PP 3 = some (.int .i64) := by kernel_rfl
theorem un_9 : Program.underlying PP 9 = some (.string) := by kernel_rfl
theorem un_77 : Program.underlying PP 77 = some (.slice 9) := by kernel_rfl
theorem un_92 : Program.underlying PP 92 = some (.slice 5) := by kernel_rfl
theorem un_146 : Program.underlying PP 146 = some (.map 9 151) := by kernel_rfl
theorem zr_9 : Ax.zeroOf PP 9 = some (.string ByteArray.empty) := by kernel_rfl
theorem zr_151 : Ax.zeroOf PP 151 = some (.pointer none) := by kernel_rfl
theorem bo_77 {L : Type} {σ : AMem L} {v : Value} {b nx : Nat} (hv : laidCell v = true) : aBuildSlice PP 77 1 [(0, v)] σ b nx = some (.slice (some ⟨b, 0, none⟩) 1 1, σ.put b nx (.cells [v] 9 false)) := buildSlice_one el_77 sz_9 zr_9 gz_9 hv
def plans94 : Plans := fun _ => []
noncomputable def code94 : Code := (Tryz.f94.body).getD .skip
theorem fnokx94 : FnOkX PP plans94 94 Tryz.f94 code94 := ⟨Tryz.func94, by kernel_rfl, by kernel_rfl, by kernel_rfl⟩
def plans169 : Plans := fun _ => []
noncomputable def code169 : Code := (Tryz.f169.body).getD .skip
theorem fnokx169 : FnOkX PP plans169 169 Tryz.f169 code169 := ⟨Tryz.func169, by kernel_rfl, by kernel_rfl, by kernel_rfl⟩
def plans75 : Plans := fun _ => []
noncomputable def code75 : Code := (Tryz.f75.body).getD .skip
theorem fnokx75 : FnOkX PP plans75 75 Tryz.f75 code75 := ⟨Tryz.func75, by kernel_rfl, by kernel_rfl, by kernel_rfl⟩
end Go.Proofs
