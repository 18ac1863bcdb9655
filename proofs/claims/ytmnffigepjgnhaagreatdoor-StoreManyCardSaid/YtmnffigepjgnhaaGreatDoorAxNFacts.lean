/- What the evaluator asks of the functions told by hand: printed by program. -/
import Derived.Test.YtmnffigepjgnhaaGreatDoorAxTab
import Derived.Test.YtmnffigepjgnhaaGreatDoorAxE
import Derived.Test.YtmnffigepjgnhaaGreatDoorAxF
import Derived.KernelRfl
set_option linter.unusedVariables false
set_option linter.unusedSimpArgs false
namespace Go.Proofs
open Go Go.Ax
theorem ag_59 : Ax.aggOf PP 59 = some false := by kernel_rfl
theorem ag_87 : Ax.aggOf PP 87 = some false := by kernel_rfl
theorem by_9 : Ax.bytesOf PP 9 = some 16 := by kernel_rfl
theorem el_84 : Ax.elemOf PP 84 = some 9 := by kernel_rfl
theorem fa_62_2 : Ax.fieldAtOf PP 62 2 = some (6, 1) := by kernel_rfl
theorem fa_90_2 : Ax.fieldAtOf PP 90 2 = some (2, 1) := by kernel_rfl
theorem gz_9 : goodZero 1 16 (.string ByteArray.empty) = true := by kernel_rfl
theorem mp_59 : Ax.mapOf PP 59 = some (9, 86) := by kernel_rfl
theorem sz_9 : Ax.szOf PP 9 = some 1 := by kernel_rfl
theorem sz_59 : Ax.szOf PP 59 = some 1 := by kernel_rfl
theorem sz_87 : Ax.szOf PP 87 = some 1 := by kernel_rfl
theorem un_3 : Program.underlying PP 3 = some (.int .i64) := by kernel_rfl
theorem un_9 : Program.underlying PP 9 = some (.string) := by kernel_rfl
theorem un_59 : Program.underlying PP 59 = some (.map 9 86) := by kernel_rfl
theorem un_84 : Program.underlying PP 84 = some (.slice 9) := by kernel_rfl
theorem un_87 : Program.underlying PP 87 = some (.slice 5) := by kernel_rfl
theorem zr_9 : Ax.zeroOf PP 9 = some (.string ByteArray.empty) := by kernel_rfl
theorem zr_86 : Ax.zeroOf PP 86 = some (.pointer none) := by kernel_rfl
theorem bo_84 {L : Type} {σ : AMem L} {v : Value} {b nx : Nat} (hv : laidCell v = true) : aBuildSlice PP 84 1 [(0, v)] σ b nx = some (.slice (some ⟨b, 0, none⟩) 1 1, σ.put b nx (.cells [v] 9 false)) := buildSlice_one el_84 sz_9 zr_9 gz_9 hv
def plans80 : Plans := fun _ => []
noncomputable def code80 : Code := (Tryz.f80.body).getD .skip
theorem fnokx80 : FnOkX PP plans80 80 Tryz.f80 code80 := ⟨Tryz.func80, by kernel_rfl, by kernel_rfl, by kernel_rfl⟩
def plans141 : Plans := fun _ => []
noncomputable def code141 : Code := (Tryz.f141.body).getD .skip
theorem fnokx141 : FnOkX PP plans141 141 Tryz.f141 code141 := ⟨Tryz.func141, by kernel_rfl, by kernel_rfl, by kernel_rfl⟩
def plans28 : Plans := fun _ => []
noncomputable def code28 : Code := (Tryz.f28.body).getD .skip
theorem fnokx28 : FnOkX PP plans28 28 Tryz.f28 code28 := ⟨Tryz.func28, by kernel_rfl, by kernel_rfl, by kernel_rfl⟩
end Go.Proofs
